/- BuildMeasures returns true for every input, and each argument reads behind the call as it read before; what the listed variable reads as is tied to the program's text; no condition. -/
import Derived.Test.YtinhphjfnedhgaaGreatDoorY3
import Derived.ProofKit
import Derived.SizedLaws
import Derived.OpenShut
import Derived.LaidMore
import Derived.MakeChecks
import Derived.Handed
import Derived.Deep.SlicePairs
import Derived.KernelRfl
import Derived.RecoverIn
import Derived.Test.YtinhphjfnedhgaaGreatDoorProg
import Derived.Tactics
import Derived.Tactics2
import Derived.Laws.Pointers
import Derived.TacticsInMore
set_option linter.unusedVariables false
set_option linter.unusedSimpArgs false
namespace Go.Proofs.YtinhphjfnedhgaaGreatDoor
open Go.Proofs.Tryz (prog)
open Go Go.RowKit V
open Go.IntKind (i64 u32 u64)
section
set_option maxRecDepth 10000
set_option maxHeartbeats 1000000
theorem Df {g n c:Nat} {mp A:Option Addr} {b:Int} {T:TypeId} {w:World}(hb:Blk w g #[.pointer mp,.int .i64 b,.slice A (2*n) c] T)(hn:n≤64):
 Calls prog 120 #[(.pointer (some (Addr.mk g 0 none)))] w fun e w'=>∃v,e= .returned v∧v= .int .i64 (n:Int)∧w'=w:=by
 refine oZ (some (Addr.mk g 0 none)) ?_
 refine ah _ rfl ⟨_,_,_,hb.at rfl,?_⟩
 exact⟨congrArg (Value.int .i64) (by rw [aA (by rw [Int.tdiv_eq_ediv_of_nonneg (by omega)];omega)];rw [Int.tdiv_eq_ediv_of_nonneg (by omega)];omega),rfl⟩
theorem Mi {g n c:Nat} {mp A:Option Addr} {b:Int} {T:TypeId} {w:World}(hb:Blk w g #[.pointer mp,.int .i64 b,.slice A (2*n) c] T)(hn:n≤64)(ak:Int):
 Calls prog 57 #[(.pointer (some (Addr.mk g 0 none))),(.int .i64 ak)] w fun e w'=>∃v,e= .returned v∧v= .bool (decide (0≤ak∧ak<(n:Int)))∧Pu w w':=by
 refine tT (some (Addr.mk g 0 none)) _ ?_
 refine⟨fun x w'=>x=((decide ((ak:Int)≥0)) && (decide ((ak:Int)<(n:Int))))∧Pu w w',?_,?_⟩
 ·refine ae (fun c1=>?_) (fun c1=>?_)
  ·refine Calls.mono (Df hb hn) ?_
   rintro e w9 ⟨_,rfl,rfl,e9⟩
   obtain rfl:=e9.symm
   exact⟨_,rfl,by simp only [c1,Bool.true_and],Ch.refl _ _⟩
  ·exact⟨by simp only [c1,Bool.false_and],Ch.refl _ _⟩
 rintro _ _ wv ⟨rfl,Nj⟩
 exact⟨congrArg Value.bool (by rw [Bool.eq_iff_iff];simp),Nj⟩
theorem DB.yo {m:Mem} {l:List U32}(h:¬l.length=1+2*m.S):DB.aw m l=110:=by unfold DB.aw;rw [if_pos h]
theorem DB.Eb {m:Mem} {l:List U32}(h:l.length=1+2*m.S)(hb:DB.wd l 0>64):DB.aw m l=110:=by unfold DB.aw;rw [if_neg (by simpa using h),if_pos hb]
theorem DB.uU {m:Mem} {l:List U32}(h:l.length=1+2*m.S)(hb:¬DB.wd l 0>64):DB.aw m l=if(List.range m.S).all (DB.kV m l)then 0 else 110:=by unfold DB.aw;rw [if_neg (by simpa using h),if_neg hb]
theorem DB.fB {m:Mem} {l:List U32}(h:l.length=1+2*m.S)(hb:¬DB.wd l 0>64) {p:Nat}(hp:p<m.S)(he:DB.kV m l p=false):DB.aw m l=110:=by
 rw [uU h hb,if_neg]
 intro hh
 have:=List.all_eq_true.1 hh p (List.mem_range.2 hp)
 rw [he]at this;cases this
theorem DB.qu {m:Mem} {l:List U32}(h:l.length=1+2*m.S)(hb:¬DB.wd l 0>64)(hp:∀p,p<m.S→DB.kV m l p=true):DB.aw m l=0:=by
 rw [uU h hb,if_pos (List.all_eq_true.2 fun p h=>hp p (List.mem_range.1 h))]
theorem DB.qV {l:List U32} {i:Nat}:((l.drop 1).map U32.v).getD i 0=DB.wd l (1+i):=by
 unfold DB.wd
 rw [List.getD_eq_getElem?_getD,List.getD_eq_getElem?_getD,List.getElem?_map,List.getElem?_drop]
 cases l[1+i]? <;>rfl
theorem DB.AB {l:List U32}(hw:∀x∈l,0≤x.v∧x.v<4294967296)(i:Nat):0≤DB.wd l i∧DB.wd l i<4294967296:=by
 unfold DB.wd
 rw [List.getD_eq_getElem?_getD]
 by_cases hi:i<l.length
 ·rw [List.getElem?_eq_getElem hi];exact hw _ (List.getElem_mem hi)
 ·rw [List.getElem?_eq_none (by omega)];show(0:Int)≤0∧(0:Int)<_;omega
theorem Mh {L:eP} {m:Mem} {Z:Nat→Prop} {wordsA:Option Addr} {wordsN wordsC:Nat} {l:List U32} {w:World}(h:cA w L m)(hz:Rd w Z wordsA wordsN wordsC l)(hw:∀x∈l,0≤x.v∧x.v<4294967296):
 Calls prog 50 #[(.pointer (some (Addr.mk L.g 0 none))),(.slice wordsA wordsN wordsC)] w fun e w'=>∃v,e= .returned v∧∃p:Option Addr,v= .tuple #[.pointer p,.int .i64 (DB.aw m l)]∧
  (DB.aw m l=0→∃g a,p=some (Addr.mk g 0 none)∧DBP w' ⟨g,a,L⟩ (DB.load m l)∧w.heap.size≤g∧w.heap.size≤a)∧(DB.aw m l≠0→p=none)∧Pu w w':=by
 have hm:=h.eU
 have hl:=hz.len
 have Uk:=hz.cap
 have Nu:=hz.lt
 have e16:i64.wrap (1+i64.wrap (2*(m.S:Int)))=1+2*(m.S:Int):=by rw [aA (x:=2*(m.S:Int)) (by omega),aA (by omega)]
 refine Ao (some (Addr.mk L.g 0 none)) wordsA wordsN wordsC ?_
 refine⟨fun b w'=>b=(decide (¬l.length=1+2*m.S) || decide (DB.wd l 0>64))∧Pu w w',?_,?_⟩
 ·refine mi ?_
  refine Calls.mono (v7 h) ?_
  rintro e w1 ⟨_,rfl,rfl,rfl⟩
  refine⟨_,rfl,?_⟩
  refine aN (fun c1=>?_) (fun c1=>?_)
  ·rw [e16]at c1
   exact⟨by rw [show decide (¬l.length=1+2*m.S)=true by simp;omega];rfl,Ch.refl _ _⟩
  ·rw [e16]at c1
   refine⟨by omega,?_⟩
   obtain⟨p,hA,hZ,hc⟩:=hz.u32 (by omega)
   refine ah p hA ⟨_,hc 0 (by omega),?_,Ch.refl _ _⟩
   rw [show decide (¬l.length=1+2*m.S)=false by simp;omega,Bool.false_or];rfl
 rintro _ _ wv ⟨rfl,q⟩
 refine cQ (fun c1=>?_) (fun c1=>?_)
 ·have he:DB.aw m l=110:=by
   simp only [decide_eq_true_eq]at c1
   by_cases hn:l.length=1+2*m.S
   ·rcases c1 with c1 | c1
    ·exact absurd hn c1
    ·exact DB.Eb hn c1
   ·exact DB.yo hn
  exact⟨none,by rw [he],by rw [he];intro hh;omega,fun _=>rfl,q⟩
 simp only [decide_eq_false_iff_not,Classical.not_not]at c1
 obtain⟨hlen,hb⟩:=c1
 have Ud:=(hz.pu q).pu (Pu.aU _)
 obtain⟨p,hA,hZ,hc⟩:=Ud.u32 (by omega)
 refine⟨bXU [3] [] wv.drew (fun _=>False),by omega,ah p hA ⟨.inr ⟨by decide,bX.lt (Ud.lt _ hZ) (fun h=>h)⟩,_,hc 0 (by omega),?_⟩⟩
 have en:i64.wrap (((wordsN:Nat):Int) - 1)=2*(m.S:Int):=by rw [aA (by omega)];omega
 rw [en]
 refine jj nY (n:=2*(m.S:Int)) (by omega) (by omega) (by omega) fun ga M5 ma=>?_
 refine bXU.eW ma.pu (by decide) ?_
 refine mkd fun gv M8 mv=>?_
 refine bXU.eW mv.pu (by decide) ?_
 have q0:Pu w wv.drew:=q.drew
 have loa:=ma.lo q0
 have q1:Pu w M5:=q0.made ma
 have lov:=mv.lo q1
 have q2:Pu w M8:=q1.made mv
 have ba:Blk M8.drew ga (bR (List.replicate (2*(m.S:Int)).toNat 0)) _:=(mv.old (ma.blk.cast (fH _ _))).drew
 have bv:=mv.blk.drew
 have NN:=mv.ne ma.blk
 have Wh:=((Ud.pu ma.pu).pu mv.pu).pu (Pu.aU _)
 refine⟨bXU [] [3] M8.drew (fun _=>False),.inl (by decide),_,_,_,bv.at rfl,by omega,?_⟩
 rintro xA e1 xN e2 xC e3
 have r:=Rd.from_ (lo:=Int.toNat 1) Wh e1 e2 e3 (by omega) (by omega)
 refine pT nY ba rfl r.ints (by simp;omega) fun Nb s3=>?_
 refine bXU.sF s3.ch (by decide) ?_
 have Oa:jb (List.replicate (2*(m.S:Int)).toNat 0) 0 (((l.drop (Int.toNat 1)).map U32.v).take (min xN (2*(m.S:Int)).toNat))=(l.drop 1).map U32.v:=by
  rw [List.take_of_length_le (by rw [e2];simp;omega)]
  exact nV _ _ (by simp;omega)
 have ba:=s3.blk
 rw [Oa]at ba
 have bv:=s3.old bv (fun e=>NN e.symm)
 have q3:Pu w Nb:=(q2.drew).stored s3 (.inr loa)
 have e2S:(2*(m.S:Int)).toNat=2*m.S:=by omega
 rw [e2S]at bv
 refine Calls.mono (Df bv hm.1) ?_
 rintro e w4 ⟨_,rfl,rfl,rfl⟩
 refine⟨_,rfl,?_⟩
 refine⟨fun mz x W=>mz=((m.S:Int) - x).toNat∧(0≤x∧x≤(m.S:Int))∧Pu w W∧Blk W gv #[.pointer (some (Addr.mk L.g 0 none)),.int .i64 (i64.wrap (DB.wd l 0)),.slice (some (Addr.mk ga 0 none)) (2*m.S) (2*m.S)] 110∧Blk W ga (bR ((l.drop 1).map U32.v)) 29∧∀q,q<x.toNat→DB.kV m l q=true,
  ⟨_,rfl,⟨by omega,by omega⟩,q3,bv,ba,fun q hq=>by omega⟩,?_⟩
 rintro _ _ x w5 ⟨rfl,hx,q5,bv,ba,Uj⟩
 have Sb:((l.drop 1).map U32.v).length=2*m.S:=by simp;omega
 refine aq (fun c2=>?_) (fun c2=>?_)
 ·have ex:i64.wrap (2*x)=2*x:=aA (by omega)
  have ext:(2*x).toNat=2*x.toNat:=by omega
  refine⟨_,_,_,bv.at rfl,by rw [ex];omega,?_⟩
  rintro _ rfl _ rfl _ rfl
  rw [ex,ext]
  refine⟨by omega,ah (Addr.mk ga (2*x.toNat) none) (by rw [if_neg (by omega)];simp [Addr.add];omega) ?_⟩
  refine⟨_,_,⟨by rw [bT];exact ba.cell (eF (by rw [Sb];omega)),by rw [bT];exact ba.cell (eF (by rw [Sb];omega))⟩,?_⟩
  have ea:((l.drop 1).map U32.v).getD (2*x.toNat+0) 0=DB.wd l (1+2*x.toNat):=DB.qV
  have eb:((l.drop 1).map U32.v).getD (2*x.toNat+1) 0=DB.wd l (2+2*x.toNat):=by rw [DB.qV];congr 1;omega
  rw [ea,eb]
  refine Calls.mono (C8 _ _ (DB.AB hw _) (DB.AB hw _)) ?_
  rintro e w6 ⟨_,rfl,rfl,q6⟩
  refine⟨_,_,_,_,_,_,rfl,?_⟩
  refine mkd fun ge w7 me=>?_
  have be:=me.blk
  refine bP be (by simp) fun w8 s8=>?_
  have be:Blk w8 ge #[.int .i64 (Ent.dec (DB.wd l (1+2*x.toNat)) (DB.wd l (2+2*x.toNat))).typ,.int .i64 (Ent.dec (DB.wd l (1+2*x.toNat)) (DB.wd l (2+2*x.toNat))).owner,.int .i64 (Ent.dec (DB.wd l (1+2*x.toNat)) (DB.wd l (2+2*x.toNat))).refs,.int .i64 (Ent.dec (DB.wd l (1+2*x.toNat)) (DB.wd l (2+2*x.toNat))).state,.bool (Ent.dec (DB.wd l (1+2*x.toNat)) (DB.wd l (2+2*x.toNat))).bB] _:=s8.blk
  have q7:Pu w w7:=(q5.pu q6).made me
  have q8:Pu w w8:=q7.stored s8 (.inr (me.lo (q5.pu q6)))
  have nv:=me.ne (q6.blk bv)
  have na:=me.ne (q6.blk ba)
  have bv:=s8.old (me.old (q6.blk bv)) nv
  have ba:=s8.old (me.old (q6.blk ba)) na
  have how:0≤(Ent.dec (DB.wd l (1+2*x.toNat)) (DB.wd l (2+2*x.toNat))).owner∨Ent.eZ (DB.wd l (1+2*x.toNat)) (DB.wd l (2+2*x.toNat))≠0:=by
   by_cases hd:Ent.eZ (DB.wd l (1+2*x.toNat)) (DB.wd l (2+2*x.toNat))=0
   ·exact .inl (Ent.fI (Ent.gO hd).1).2.2.1
   ·exact .inr hd
  refine⟨fun b W=>b= !(DB.kV m l x.toNat)∧Pu w W∧Blk W gv #[.pointer (some (Addr.mk L.g 0 none)),.int .i64 (i64.wrap (DB.wd l 0)),.slice (some (Addr.mk ga 0 none)) (2*m.S) (2*m.S)] 110∧Blk W ga (bR ((l.drop 1).map U32.v)) 29,?_,?_⟩
  ·refine aN (fun c3=>?_) (fun c3=>?_)
   ·exact⟨by unfold DB.kV;simp [c3],q8,bv,ba⟩
   ·refine⟨_,be.at rfl,?_⟩
    refine Calls.mono (Mi bv hm.1 _) ?_
    rintro e w9 ⟨_,rfl,rfl,q9⟩
    refine⟨_,rfl,?_,q8.pu q9,q9.blk bv,q9.blk ba⟩
    unfold DB.kV
    have P6:Ent.eZ (DB.wd l (1+2*x.toNat)) (DB.wd l (2+2*x.toNat))=0:=by simpa using c3
    have h0:=how.resolve_right (fun h=>h P6)
    rw [P6]
    simp [h0]
  rintro _ _ w9 ⟨rfl,q9,bv,ba⟩
  refine dK (fun c4=>?_) (fun c4=>?_)
  ·have he:=DB.fB hlen hb (p:=x.toNat) (by omega) c4
   exact⟨none,by rw [he],by rw [he];intro hh;omega,fun _=>rfl,q9⟩
  ·have e9:i64.wrap (x+1)=x+1:=aA (by omega)
   refine⟨_,?_,rfl,?_,q9,bv,ba,fun q hq=>?_⟩
   ·rw [e9];omega
   ·rw [e9];omega
   ·rw [e9]at hq
    by_cases hqx:q=x.toNat
    ·subst hqx;exact c4
    ·exact Uj q (by omega)
 ·have NQ:∀p,p<m.S→DB.kV m l p=true:=fun p hp=>Uj p (by omega)
  have he:=DB.qu hlen hb NQ
  refine⟨some (Addr.mk gv 0 none),by rw [he],fun _=>⟨gv,ga,rfl,?_,lov,loa⟩,fun hh=>absurd he hh,q5⟩
  have VL:∀k,L.X k→k<w.heap.size:=h.lt
  refine⟨⟨110,?_⟩,⟨_,_,ba,by rw [eT,Sb];rfl,fun p hp=>?_⟩,h.pu q5,DB.IV hw he,fun e=>NN e,fun hx=>absurd (VL _ hx) (Nat.not_lt.2 lov),fun hx=>absurd (VL _ hx) (Nat.not_lt.2 loa)⟩
  ·have hw0:=DB.AB hw 0
   rw [aA (by omega)]at bv
   exact bv
  ·have hp:p<m.S:=hp
   have ho:=NQ p hp
   unfold DB.kV at ho
   simp only [Bool.and_eq_true,beq_iff_eq]at ho
   have hd:=Ent.gO ho.1
   refine⟨?_,?_⟩
   ·rw [eF (by rw [Sb];omega),DB.qV]
    show _=some (Value.int .u32 (Ent.dec _ _).w0)
    rw [hd.2.1]
   ·rw [eF (by rw [Sb];omega),DB.qV]
    show _=some (Value.int .u32 (Ent.dec _ _).w1)
    rw [hd.2.2]
    congr 3;omega
end
section
namespace V
section
variable {U:Uni}
theorem aS.sD {rs:List (Res U)} {X:Nat→Nat→Prop} {w w':World} {Q:Ou U→Prop} {v:Value} {k:Option Kn} {Z:Nat→Prop} {r:Res U} {kc:List (Key×Kn)}(hs:Sat rs X w)(q:Pu w w')(hr:RS Z w' r)(hz:∀k,Z k→w.heap.size≤k)(hQ:Q ⟨v,k,[],[r],kc⟩)(hk:KnO (rs++ [r]) v k)
 (VP:∀key k,(key,k)∈kc→fm (rs++ [r]) fr0 key k):aS rs [] X w Q (.returned v) w':=by
 obtain⟨out,rs',X',h1,rfl,h3,h4⟩:=aS.more (Q:=fun o=>o=⟨v,k,[],[r],[]⟩) hs q hr hz rfl hk
 have h3:rs=rs':=by simpa [bO]using h3
 subst h3
 exact⟨⟨v,k,[],[r],kc⟩,rs,X',fi hk,hQ,rfl,⟨h4.sat,h4.ch,h4.same,h4.grow,h4.new,h4.kr,fun key k hm _=>VP key k hm⟩⟩
theorem aS.Gl {t:Nat} {rm:Nat→Nat} {m m':U.ty t} {X:Nat→Nat→Prop} {w w':World} {Q:Ou U→Prop} {v:Value} {k:Option Kn} {Z0 Z1:Nat→Prop} {r:Res U} {kc:List (Key×Kn)}(q:Ch (X 0) w w')(hp:U.pred t rm m' Z0 w')(hz0:∀k,Z0 k→X 0 k∨w.heap.size≤k)(hr:RS Z1 w' r)(Ud:∀k,Z1 k→w.heap.size≤k)(hd:∀k,Z0 k→¬Z1 k)
 (hQ:Q ⟨v,k,[.ob t m'],[r],kc⟩)(hk:KnO [.ob t rm m',r] v k)(VP:∀key k,(key,k)∈kc→fm [.ob t rm m',r] fr0 key k):aS [.ob t rm m] [0] X w Q (.returned v) w':=by
 refine⟨_,[.ob t rm m'],fun i=>if i=0 then Z0 else if i=1 then Z1 else X i,fi hk,hQ,by simp [bO,dh,nth,cg],⟨⟨fun i r' Nn=>?_,fun i j hi hj NJ k OA NT=>?_⟩,q.mono fun k hk=>⟨0,by simp,hk⟩,fun i hi hm=>?_,fun i hi k hk=>?_,fun i h1 h2 k hk=>?_,.inr hk,fun key k hm _=>VP key k hm⟩⟩
 ·match i with
  | 0=>simp only [List.cons_append,List.nil_append,nth,Option.some.injEq]at Nn;subst Nn;exact hp
  | 1=>simp only [List.cons_append,List.nil_append,nth,Option.some.injEq]at Nn;subst Nn;exact hr
  | i+2=>simp [nth]at Nn
 ·simp at hi hj
  match i,j,hi,hj,NJ with
  | 0,1,_,_,_=>exact hd k OA NT
  | 1,0,_,_,_=>exact hd k NT OA
  | 0,0,_,_,h=>exact h rfl
  | 1,1,_,_,h=>exact h rfl
 ·simp at hi hm;omega
 ·simp at hi;subst hi;exact hz0 k hk
 ·simp at h1 h2
  obtain rfl:i=1:=by omega
  exact Ud k hk
theorem KnO.pair {rs:List (Res U)} {a b:Value} {p:PK}(h:den U rs p=some a):KnO rs (.tuple #[a,b]) (some (.t [some p,none])):=
 ⟨_,rfl,fun j k hj=>by
  match j,hj with
  | 0,hj=>simp only [nth,Option.some.injEq]at hj;subst hj;exact⟨a,rfl,h⟩
  | 1,hj=>simp [nth]at hj
  | j+2,hj=>simp [nth]at hj⟩
theorem wh {rs:List (Res U)} {fr:Fr} {key:Key} {k:Kn}(h:fm rs fr key k):∀key' k',(key',k')∈ [(key,k)]→fm rs fr key' k':=fun key' k' hm=>by
 simp only [List.mem_singleton,Prod.mk.injEq]at hm
 obtain⟨rfl,rfl⟩:=hm
 exact h
theorem aS.KY {a a':Res U} {rest:List (Res U)} {u:Upd U} {X:Nat→Nat→Prop} {w w':World} {Q:Ou U→Prop} {v:Value} {k:Option Kn} {Z:Nat→Prop}(hs:Sat (a::rest) X w)(q:Ch (X 0) w w')(hu:dh a u=some a')(hp:RS Z w' a')(hz:∀k,Z k→X 0 k∨w.heap.size≤k)(hQ:Q ⟨v,k,[u],[],[]⟩)(hk:KnO (a'::rest) v k):aS (a::rest) [0] X w Q (.returned v) w':=by
 refine⟨_,a'::rest,fun i=>if i=0 then Z else X i,fi hk,hQ,by simp [bO,hu,nth,cg],⟨⟨fun i r hr=>?_,fun i j hi hj NJ k OA NT=>?_⟩,q.mono fun k hk=>⟨0,by simp,hk⟩,fun i hi hm=>?_,fun i hi k hk=>?_,fun i h1 h2=>by simp at h1 h2;omega,.inr (by simpa using hk),fun _ k hk=>by cases hk⟩⟩
 ·rw [List.append_nil]at hr
  match i with
  | 0=>simp only [nth,Option.some.injEq]at hr;subst hr;exact hp
  | i+1=>exact(hs.res (i+1) r hr).ch q fun k hk h0=>hs.dis 0 (i+1) (by simp) (bc hr) (by omega) k h0 hk
 ·simp at hi hj
  have key:∀j,j<rest.length+1→j≠0→Z k→X j k→False:=fun j hj h0 hZ hX=>by
   rcases hz k hZ with h | h
   ·exact hs.dis 0 j (by simp) (by simpa using hj) (by omega) k h hX
   ·have:=hs.lt (i:=j) (by simpa using hj) k hX;omega
  by_cases h1:i=0
  ·have h2:¬j=0:=by omega
   simp only [h1,if_true,if_neg h2]at OA NT
   exact key j hj h2 OA NT
  ·simp only [if_neg h1]at OA
   by_cases h2:j=0
   ·simp only [h2,if_true]at NT
    exact key i hi h1 NT OA
   ·simp only [if_neg h2]at NT
    exact hs.dis i j (by simpa using hi) (by simpa using hj) NJ k OA NT
 ·simp at hm;simp only [if_neg hm]
 ·simp at hi;subst hi;exact hz k hk
theorem aS.first {t:Nat} {r:Nat→Nat} {s s':U.ty t} {rest:List (Res U)} {X:Nat→Nat→Prop} {w w':World} {Q:Ou U→Prop} {v:Value} {k:Option Kn} {Z:Nat→Prop}(hs:Sat (.ob t r s::rest) X w)(q:Ch (X 0) w w')(hp:U.pred t r s' Z w')(hz:∀k,Z k→X 0 k∨w.heap.size≤k)(hQ:Q ⟨v,k,[.ob t s'],[],[]⟩)(hk:KnO (.ob t r s'::rest) v k):aS (.ob t r s::rest) [0] X w Q (.returned v) w':=
 aS.KY (a':= .ob t r s') hs q (by simp [dh]) hp hz hQ hk
end
end V
theorem Dg.gx {d:Dg}(h:d.Ok):d.save.length=26:=by
 have h1:=h.len
 have h2:=h.n
 unfold Dg.save
 simp
 omega
theorem F4 {l:List Int}(h:l.length=26):Value.agg (bR l)= .agg #[.int .u32 (l.getD 0 0),.int .u32 (l.getD 1 0),.int .u32 (l.getD 2 0),.int .u32 (l.getD 3 0),.int .u32 (l.getD 4 0),.int .u32 (l.getD 5 0),.int .u32 (l.getD 6 0),.int .u32 (l.getD 7 0),.int .u32 (l.getD 8 0),.int .u32 (l.getD 9 0),.int .u32 (l.getD 10 0),.int .u32 (l.getD 11 0),.int .u32 (l.getD 12 0),.int .u32 (l.getD 13 0),.int .u32 (l.getD 14 0),.int .u32 (l.getD 15 0),.int .u32 (l.getD 16 0),.int .u32 (l.getD 17 0),.int .u32 (l.getD 18 0),.int .u32 (l.getD 19 0),.int .u32 (l.getD 20 0),.int .u32 (l.getD 21 0),.int .u32 (l.getD 22 0),.int .u32 (l.getD 23 0),.int .u32 (l.getD 24 0),.int .u32 (l.getD 25 0)]:=by
 rcases l with _ | ⟨a0,_ | ⟨a1,_ | ⟨a2,_ | ⟨a3,_ | ⟨a4,_ | ⟨a5,_ | ⟨a6,_ | ⟨a7,_ | ⟨a8,_ | ⟨a9,_ | ⟨b0,_ | ⟨b1,_ | ⟨b2,_ | ⟨b3,_ | ⟨b4,_ | ⟨b5,_ | ⟨b6,_ | ⟨b7,_ | ⟨b8,_ | ⟨b9,_ | ⟨c0,_ | ⟨c1,_ | ⟨c2,_ | ⟨c3,_ | ⟨c4,_ | ⟨c5,_ | ⟨c6,r⟩⟩⟩⟩⟩⟩⟩⟩⟩⟩⟩⟩⟩⟩⟩⟩⟩⟩⟩⟩⟩⟩⟩⟩⟩⟩⟩
 all_goals first | rfl | (simp at h;done)
end
def xU(w:Int):Bool:=decide (w % 256=1∧w / 256<64)
def aW(w:Int):Int:=if xU w then w / 256 else 0
def kQ(w:Int):Int:=if w=0 then 92 else if xU w then 0 else 90
def cf(p:Int):Int:=if 0≤p∧p<64 then 256*p+1 else 0
def eL(p:Int):Int:=if 0≤p∧p<64 then 0 else 4
structure Mp where
 dL:Bool
 ak:Int
 write:Bool
 exec:Bool
deriving DecidableEq
def Mp.bits(m:Mp):Int:=(if m.dL then 2 else 0)+(if m.write then 4 else 0)+(if m.exec then 8 else 0)
def Mp.err(m:Mp):Int:=if 0≤m.ak∧m.ak<64 then(if m.exec && !m.dL then 1 else 0)else 4
def Mp.word(m:Mp):Int:=if m.err=0 then 256*m.ak+1+m.bits else 0
abbrev Mp.nil:Mp:=⟨false,0,false,false⟩
def Mp.yq(w:Int):Mp:=⟨decide (w / 2 % 2=1),w / 256,decide (w / 4 % 2=1),decide (w / 8 % 2=1)⟩
def vS(w:Int):Bool:=decide ((Mp.yq w).err=0∧(Mp.yq w).word=w)
def fV(w:Int):Mp:=if w≠0∧vS w then Mp.yq w else Mp.nil
def n8(w:Int):Int:=if w=0 then 92 else if vS w then 0 else 90
theorem Gf {p:Int}(h:0≤p∧p<64):u32.wrap (BitVec.ofInt u32.bits (u32.wrap ((u32.wrap p:Int)*2 ^ 8)) ||| BitVec.ofInt u32.bits 1).toNat=256*p+1:=by
 rw [dI (x:=p) (by omega),dI (x:=p*2 ^ 8) (by omega),pG (by omega) (by omega),show p*2 ^ 8=2 ^ 8*p by omega,gp 8 (by omega) (by omega) (by omega)];omega
theorem AR(k:Nat)(b:Int)(hb:b=2 ^ k)(hk:k≤3) {p a:Int}(h:0≤p∧p<64)(ha:0≤a∧a<b):u32.wrap (BitVec.ofInt u32.bits (256*p+a) ||| BitVec.ofInt u32.bits b).toNat=256*p+(a+b):=by
 subst hb
 have h3:(2:Int) ^ k≤2 ^ 3:=by exact_mod_cast Nat.pow_le_pow_right (n:=2) (by omega) hk
 have h4:(0:Int)<2 ^ k:=Int.pow_pos (by omega)
 have assoc:∀x y z:Int,nor (nor x y) z=nor x (nor y z):=by
  intro x y z;unfold nor;simp [Nat.or_assoc]
 have e1:nor (2 ^ k*1) a=2 ^ k*1+a:=gp k (by omega) ha.1 ha.2
 have e2:nor (2 ^ 8*p) a=2 ^ 8*p+a:=gp 8 h.1 ha.1 (by omega)
 have e3:nor (2 ^ 8*p) (2 ^ k+a)=2 ^ 8*p+(2 ^ k+a):=gp 8 h.1 (by omega) (by omega)
 rw [Int.mul_one]at e1
 rw [pG (by omega) (by omega),show 256*p+a=2 ^ 8*p+a by omega,← e2,assoc,oh a,e1,e3]
 omega
theorem rv(k:Nat)(b:Int)(hb:b=2 ^ k)(hk:k≤30) {x:Int}(hx:0≤x∧x<4294967296):((u32.wrap (BitVec.ofInt u32.bits x &&& BitVec.ofInt u32.bits b).toNat:Int) !=0)=decide (x / b % 2=1):=by
 subst hb
 rw [Bool.eq_iff_iff]
 simp only [bne_iff_ne,ne_eq,decide_eq_true_eq]
 show(¬u32.wrap (BitVec.ofInt u32.bits x &&& BitVec.ofInt u32.bits (2 ^ k)).toNat=0)↔x / 2 ^ k % 2=1
 have h3:(2:Int) ^ k≤2 ^ 30:=by exact_mod_cast Nat.pow_le_pow_right (n:=2) (by omega) hk
 have h4:(0:Int)<2 ^ k:=Int.pow_pos (by omega)
 rw [ru hx (by omega)]
 unfold IT
 obtain⟨x,rfl⟩:=Int.eq_ofNat_of_zero_le hx.1
 have e:((2:Int) ^ k).toNat=2 ^ k:=by rw [show(2:Int) ^ k=((2 ^ k:Nat):Int)by push_cast;rfl,Int.toNat_natCast]
 rw [e,Int.toNat_natCast]
 have h5:x &&& 2 ^ k=if x.testBit k then 2 ^ k else 0:=by
  apply Nat.eq_of_testBit_eq
  intro j
  rw [Nat.testBit_and,Nat.testBit_two_pow]
  by_cases hj:k=j
  ·subst hj
   cases hb:x.testBit k<;>simp
  ·cases hb:x.testBit k<;>simp [hj,Nat.testBit_two_pow]
 have h6:x.testBit k=decide (x / 2 ^ k % 2=1):=Nat.testBit_eq_decide_div_mod_eq
 rw [h5,h6]
 have h7:((x:Int) / 2 ^ k % 2=1)↔(x / 2 ^ k % 2=1):=by
  rw [show(x:Int) / 2 ^ k % 2=((x / 2 ^ k % 2:Nat):Int)by push_cast;rfl]
  omega
 rw [h7]
 have h8:0<2 ^ k:=Nat.two_pow_pos k
 by_cases h9:x / 2 ^ k % 2=1
 ·simp [h9];omega
 ·simp [h9]
namespace File
def part(l:List U32)(i:Int):Fl:=⟨l.take i.toNat++List.replicate (15 - i.toNat) (U32.mk 0),0,false,false,false⟩
end File
def zb(f:Int→Bool)(lo hi:Int):Bool:=(List.range (hi - lo).toNat).all fun i=>f (lo+(i:Int))
theorem oM {f:Int→Bool} {lo hi:Int}:zb f lo hi=true↔∀x,lo≤x→x<hi→f x=true:=by
 unfold zb
 rw [List.all_eq_true]
 constructor
 ·intro h x h1 h2
  have:=h (x - lo).toNat (List.mem_range.2 (by omega))
  rwa [show lo+(((x - lo).toNat:Nat):Int)=x by omega]at this
 ·intro h i hi
  have:=List.mem_range.1 hi
  exact h _ (by omega) (by omega)
theorem vk {f:Int→Bool} {lo hi:Int}(h:zb f lo hi=true)(hf:f hi=true) {NP:Int}(e:NP=hi+1):zb f lo NP=true:=
 oM.2 fun x h1 h2=>by
  by_cases hx:x=hi
  ·subst hx;exact hf
  ·exact oM.1 h x h1 (by omega)
def fN(f:Int→Bool)(n:Int):Int:=(((List.range n.toNat).countP fun(i:Nat)=>f (i:Int):Nat):Int)
theorem jQ {f:Int→Bool} {n:Int}(h:0≤n):fN f (n+1)=fN f n+(if f n then 1 else 0):=by
 unfold fN
 rw [show(n+1).toNat=n.toNat+1 by omega,List.range_succ,List.countP_append,Int.natCast_add]
 congr 1
 rw [List.countP_cons,List.countP_nil,show((n.toNat:Nat):Int)=n by omega]
 cases f n<;>simp
theorem oE {f:Int→Bool} {n:Int}:0≤fN f n:=by unfold fN;omega
theorem Di {f:Int→Bool} {n:Int}(h:0≤n):fN f n≤n:=by
 unfold fN
 have:=List.countP_le_length (p:=fun i=>f ((i:Nat):Int)) (l:=List.range n.toNat)
 rw [List.length_range]at this
 omega
theorem Bn {f g:Int→Bool} {n:Int}(h:∀x,0≤x→x<n→f x=g x):fN f n=fN g n:=by
 unfold fN
 congr 1
 apply List.countP_congr
 intro i hi
 have:=List.mem_range.1 hi
 rw [h _ (by omega) (by omega)]
namespace DB
def word(D:DB)(p o:Int):Int:=D.mem.aY true p o
def zero(D:DB)(p lo hi:Int):Bool:=zb (fun o=>D.word p o==0) lo hi
def is(D:DB)(p t:Int):Bool:=D.has p && (D.at_ p).typ==t
def of(D:DB)(p t o:Int):Bool:=D.is p t && (D.at_ p).owner==o
def some_(D:DB)(p lo:Int)(n:Nat):List U32:=(List.range n).map fun(i:Nat)=>⟨D.word p (lo+(i:Int))⟩
def named(D:DB)(p:Int)(n q:Int):Int:=fN (fun i=>D.word p i !=0 && aW (D.word p i)==q) n
def sB(D:DB)(p i:Int):Bool:=D.word p i==0 || (kQ (D.word p i)==0 && D.of (aW (D.word p i)) 4 (D.at_ p).owner)
def FL(D:DB)(p:Int):Bool:=
 D.zero p 256 1024 && (zb (D.sB p) 0 256 && zb (fun q=>!(decide (D.named p 256 q>1) || (D.of q 4 (D.at_ p).owner && D.named p 256 q==0))) 0 D.S)
def CW(D:DB)(p j:Int):Bool:=
 D.word p j==0 || (n8 (D.word p j)==0 && (if(fV (D.word p j)).dL then D.of (fV (D.word p j)).ak 5 (D.at_ p).owner else decide ((fV (D.word p j)).ak<D.mem.I)))
def jM(D:DB)(p q j:Int):Bool:=n8 (D.word q j)==0 && ((fV (D.word q j)).dL && (fV (D.word q j)).ak==p)
end DB
theorem oD {f g:Int→Bool} {n:Int}(h0:0≤n)(h:∀x,0≤x→x<n→f x=true→g x=true):fN f n≤fN g n∧(fN f n=fN g n→∀x,0≤x→x<n→g x=true→f x=true):=by
 obtain⟨m,rfl⟩:=Int.eq_ofNat_of_zero_le h0
 induction m with
 | zero=>exact⟨Int.le_refl _,fun _ x a b=>by omega⟩
 | succ m ih=>
  have h1:=ih (by omega) (fun x a b=>h x a (by omega))
  have e1:=jQ (f:=f) (n:=(m:Int)) (by omega)
  have e2:=jQ (f:=g) (n:=(m:Int)) (by omega)
  have hm:=h (m:Int) (by omega) (by omega)
  rw [show((m+1:Nat):Int)=(m:Int)+1 by omega,e1,e2]
  cases hf:f (m:Int)<;>cases hg:g (m:Int)<;>simp only [hf,hg,if_true,Bool.false_eq_true,if_false]at hm ⊢
  ·refine⟨by omega,fun e x a b hx=>?_⟩
   by_cases Rh:x=m
   ·subst Rh;rw [hg]at hx;exact absurd hx (by simp)
   ·exact h1.2 (by omega) x a (by omega) hx
  ·exact⟨by omega,fun e=>by omega⟩
  ·exact absurd (hm trivial) (by simp)
  ·refine⟨by omega,fun e x a b hx=>?_⟩
   by_cases Rh:x=m
   ·subst Rh;exact hf
   ·exact h1.2 (by omega) x a (by omega) hx
theorem KN(k:Nat)(b:Int)(hb:b=2 ^ k) {x:Int}(hx:0≤x)(h:x % (2*b)<b):nor x b=x+b:=by
 have OQ:b=((2 ^ k:Nat):Int):=by rw [hb];simp
 obtain⟨n,rfl⟩:=Int.eq_ofNat_of_zero_le hx
 rw [OQ]at h ⊢
 unfold nor
 have h2:n % (2*2 ^ k)<2 ^ k:=by exact_mod_cast h
 have e1:n=2 ^ (k+1)*(n / (2*2 ^ k))+n % (2*2 ^ k):=by
  rw [Nat.pow_succ,Nat.mul_comm (2 ^ k) 2];exact(Nat.div_add_mod n _).symm
 have Nu:n % (2*2 ^ k)<2 ^ (k+1):=by rw [Nat.pow_succ];omega
 have VK:2 ^ k+n % (2*2 ^ k)<2 ^ (k+1):=by rw [Nat.pow_succ];omega
 have e2:n ||| 2 ^ k=n+2 ^ k:=by
  generalize n % (2*2 ^ k)=r at *
  generalize n / (2*2 ^ k)=q at *
  have e3:(2 ^ k ||| r)=2 ^ k+r:=by
   have:=Nat.two_pow_add_eq_or_of_lt h2 1
   rw [Nat.mul_one]at this
   exact this.symm
  rw [e1,Nat.two_pow_add_eq_or_of_lt Nu,Nat.or_assoc,Nat.or_comm r,e3,← Nat.two_pow_add_eq_or_of_lt VK,← Nat.two_pow_add_eq_or_of_lt Nu]
  omega
 simp only [Int.toNat_natCast]
 rw [e2]
 simp
theorem qs(k:Nat)(b:Int)(hb:b=2 ^ k)(hk:b<4294967296) {x:Int}(hx:0≤x∧x<4294967296)(h:x % (2*b)<b):u32.wrap (BitVec.ofInt u32.bits x ||| BitVec.ofInt u32.bits b).toNat=x+b:=by
 have h0:0≤b:=by rw [hb];exact Int.pow_nonneg (by omega)
 rw [pG hx ⟨h0,hk⟩,KN k b hb hx.1 h]
theorem Dq {x:Int}(hx:0≤x∧x<4294967296):u32.wrap (BitVec.ofInt u32.bits x &&& ~~~(BitVec.ofInt u32.bits 4095)).toNat=x - x % 4096:=by
 obtain⟨n,rfl⟩:=Int.eq_ofNat_of_zero_le hx.1
 have hn:n<2 ^ 32:=by have:=hx.2;omega
 have e:(BitVec.ofInt u32.bits (n:Int) &&& ~~~(BitVec.ofInt u32.bits 4095)).toNat=2 ^ 12*(n / 2 ^ 12):=by
  rw [tg,BitVec.toNat_and,eJ (by omega) (by have:=hx.2;omega),show(~~~BitVec.ofInt 32 4095).toNat=2 ^ 12*(2 ^ 20 - 1)from by decide,Int.toNat_natCast]
  apply Nat.eq_of_testBit_eq
  intro i
  rw [Nat.testBit_and,Nat.testBit_two_pow_mul,Nat.testBit_two_pow_mul,Nat.testBit_two_pow_sub_one,Nat.testBit_div_two_pow]
  by_cases h1:12≤i
  ·by_cases h2:i<32
   ·simp [h1,show i - 12<20 by omega,show i - 12+12=i by omega,show 12+(i - 12)=i by omega]
   ·have h3:n.testBit i=false:=Nat.testBit_lt_two_pow (Nat.lt_of_lt_of_le hn (Nat.pow_le_pow_right (by omega) (by omega)))
    simp [h3,show i - 12+12=i by omega,show 12+(i - 12)=i by omega,h1]
  ·simp [h1]
 rw [e,dI]<;>omega
theorem Hk {x:Int}(hx:0≤x∧x<4294967296):u32.wrap (BitVec.ofInt u32.bits x &&& BitVec.ofInt u32.bits 1023).toNat=x % 1024:=by
 rw [ru hx (by omega)]
 exact pJ 10 hx.1
theorem xW {m:Mem}(h:m.Wf)(s:Bool)(p o:Int):0≤m.aY s p o∧m.aY s p o<4294967296:=by
 unfold Mem.aY
 split
 ·exact h.1 _ _ _
 ·omega
theorem sW(p:Int):0≤cf p∧cf p<4294967296:=by unfold cf;split<;>omega
theorem CU(p:Mp):0≤p.word∧p.word<4294967296:=by
 unfold Mp.word Mp.bits
 split
 ·rename_i h
  have hp:0≤p.ak∧p.ak<64:=by
   unfold Mp.err at h
   by_cases hp:0≤p.ak∧p.ak<64
   ·exact hp
   ·rw [if_neg hp]at h;omega
  split<;>split<;>split<;>omega
 ·omega
def jf(v:Int):Int:=if 1073741824≤v∨v % 4≠0 then 91 else 0
def vaI(v:Int):Int:=if jf v=0 then v / 4194304 else 0
def vaJ(v:Int):Int:=if jf v=0 then v / 4096 % 1024 else 0
def vaO(v:Int):Int:=if jf v=0 then v / 4 % 1024 else 0
def fK(v:Int):Int:=if v % 4096≠0∨1073741824≤v then 91 else 0
def mgW(v:Int)(a b:Bool):Int:=if fK v=0 then v+1+(if a then 2 else 0)+(if b then 4 else 0)else 0
def yb(w:Int):Bool:=decide (fK (w - w % 4096)=0∧mgW (w - w % 4096) (decide (w / 2 % 2=1)) (decide (w / 4 % 2=1))=w)
def lr(w:Int):Int:=if yb w then 0 else 142
def bI(w:Int):Int:=if yb w then w - w % 4096 else 0
def paW(w:Int):Bool:=yb w && decide (w / 2 % 2=1)
def paX(w:Int):Bool:=yb w && decide (w / 4 % 2=1)
namespace DB
def cF(d:DB)(s:Int):Int:=
 if !d.has s then 5 else if(d.at_ s).typ≠1 then 124 else if(d.at_ s).state=3 then 3 else if d.of (d.word s 0) 3 s then 0 else 124
def tbl(d:DB)(s:Int):Int:=if d.cF s=0 then d.word s 0 else 0
def lJ(d:DB)(s i q:Int):Int:=
 if d.cF s≠0 then d.cF s else if i<0∨256≤i then 4 else if !d.has q then 5 else if !d.of q 4 s then 124 else if d.word (d.tbl s) i≠0 then 140 else 0
def add(d:DB)(s i q:Int):DB:=if d.lJ s i q=0 then d.ay (·.write true (d.tbl s) i (cf q))else d
def iC(d:DB)(s w:Int):Bool:=kQ w==0 && d.of (aW w) 4 s
def eG(d:DB)(s va:Int):Int:=
 if d.cF s≠0 then d.cF s else if jf va≠0 then 91 else if d.iC s (d.word (d.tbl s) (vaI va))then 0 else 141
def plP(d:DB)(s va:Int):Int:=aW (d.word (d.tbl s) (vaI va))
def bJ(d:DB)(s va:Int):Int:=if d.eG s va≠0 then d.eG s va else if d.word (d.plP s va) (vaJ va)≠0 then 140 else 0
def iE(d:DB)(s va:Int)(p:Mp):Int:=if d.bJ s va≠0 then d.bJ s va else p.err
def put(d:DB)(s va:Int)(p:Mp):DB:=if d.iE s va p=0 then d.ay (·.write true (d.plP s va) (vaJ va) p.word)else d
end DB
theorem sj {l:List Int} {i:Nat}:((l.map U32.mk).getD i (U32.mk 0)).v=l.getD i 0:=by
 rw [List.getD_eq_getElem?_getD,List.getD_eq_getElem?_getD,List.getElem?_map]
 cases l[i]? <;>rfl
theorem Dg.AN {d:Dg}(h:d.Ok):∀x∈d.save,0≤x∧x<4294967296:=by
 intro x hx
 have h1:=h.n
 obtain⟨q1,q2,q3,q4,q5,q6,q7,q8⟩:=h.st
 simp only [save,List.mem_append,List.mem_cons,List.not_mem_nil,or_false,List.mem_map,List.mem_replicate]at hx
 rcases hx with(h | h | h | h | h | h | h | h | h | h) | ⟨y,hy,rfl⟩ | ⟨_,rfl⟩
 all_goals first
  | (subst h;omega)
  | exact h.words y hy
  | omega
namespace Mem
def wrs(m:Mem)(p:Int):Int→List Int→Mem
 | _,[]=>m
 | o,x::l=>(m.write true p o x).wrs p (o+1) l
theorem xw(p x:Int):∀(l:List Int)(m:Mem)(o:Int),m.wrs p o (l++ [x])=(m.wrs p o l).write true p (o+l.length) x
 | [],m,o=>by simp [wrs]
 | y::l,m,o=>by
  simp only [List.cons_append,wrs,List.length_cons]
  rw [xw p x l]
  congr 1;omega
@[simp] theorem fP(p:Int):∀(l:List Int)(m:Mem)(o:Int),(m.wrs p o l).S=m.S
 | [],_,_=>rfl
 | x::l,m,o=>by rw [wrs,fP p l,aV]
theorem xx {m:Mem} {a i:Int} {l:List Int}(hl:l.length=26)(hi:0≤i∧i<26):m.wrs a 11 (l.take (i64.wrap (i+1)).toNat)=(m.wrs a 11 (l.take i.toNat)).write true a (i64.wrap (11+i)) (l.getD i.toNat 0):=by
 have Nu:i.toNat<l.length:=by omega
 rw [aA (x:=i+1) (by omega),aA (x:=11+i) (by omega),show(i+1).toNat=i.toNat+1 by omega,List.take_add_one,List.getElem?_eq_getElem Nu,List.getD_eq_getElem?_getD,List.getElem?_eq_getElem Nu]
 show m.wrs a 11 (l.take i.toNat++ [l[i.toNat]])=_
 rw [xw,List.length_take]
 congr 1
 omega
def dgW(m:Mem)(p:Int):List U32:=(List.range 26).map fun(i:Nat)=>U32.mk (m.aY true p (11+(i:Int)))
theorem dH(m:Mem)(p:Int):(m.dgW p).length=26:=by rw [dgW,List.length_map,List.length_range]
theorem jn {m:Mem}(h:m.Wf)(p:Int):∀x∈m.dgW p,0≤x.v∧x.v<4294967296:=by
 intro x hx
 obtain⟨i,_,rfl⟩:=List.mem_map.1 hx
 exact xW h _ _ _
end Mem
namespace Dg
def H3(d:Dg):Prop:=d.Ok∧(d.n<16→d.st=S8.first)
theorem ye:new.H3:=⟨ju,fun _=>rfl⟩
theorem yn {l:List U32}(h:aw l=0):l.length=26∧nOf l≤36028797018963968∧(nOf l<16→ka l=S8.first)∧∀x∈l.drop (10+(nOf l % 16).toNat),x.v=0:=by
 unfold aw at h
 split at h
 ·omega
 ·rename_i h1
  split at h
  ·omega
  ·rename_i h2
   split at h
   ·rename_i h3
    refine⟨by omega,by omega,fun hn=>?_,fun x hx=>by simpa using List.all_eq_true.1 h3 x hx⟩
    by_cases e:ka l=S8.first
    ·exact e
    ·exact absurd (.inr ⟨hn,e⟩) h2
   ·omega
theorem eo {l:List U32}(hw:∀x∈l,0≤x.v∧x.v<4294967296)(h:aw l=0):(load l).H3:=by
 obtain⟨hl,hn,hf,_⟩:=yn h
 have hr:∀i,i<26→0≤(l.getD i ⟨0⟩).v∧(l.getD i ⟨0⟩).v<4294967296:=fun i hi=>by
  rw [List.getD_eq_getElem?_getD,List.getElem?_eq_getElem (by omega)]
  exact hw _ (List.getElem_mem ..)
 have h0:0≤nOf l:=by unfold nOf;have h8:=hr 8 (by omega);have h9:=hr 9 (by omega);omega
 refine⟨⟨⟨h0,hn⟩,?_,⟨hr 0 (by omega),hr 1 (by omega),hr 2 (by omega),hr 3 (by omega),hr 4 (by omega),hr 5 (by omega),hr 6 (by omega),hr 7 (by omega)⟩,fun x hx=>hw x (List.mem_of_mem_drop (List.mem_of_mem_take hx))⟩,hf⟩
 show((l.drop 10).take (nOf l % 16).toNat).length=(nOf l % 16).toNat
 rw [List.length_take,List.length_drop]
 omega
theorem lI {K:List Int} {d:Dg} {l:List U32}(h:d.H3)(hl:∀x∈l,0≤x.v∧x.v<4294967296):(d.add K l).H3:=by
 refine⟨pZ h.1 hl,fun hn=>?_⟩
 unfold add at hn ⊢
 split at hn
 ·rename_i hc;rw [if_pos hc];exact h.2 hn
 ·rename_i hc
  rw [if_neg hc]
  have h0:=h.1.n
  have hw:=h.1.len
  have hn:d.n+l.length<16:=hn
  show(cw K d.st (d.waits++l)).1=_
  rw [dS (by rw [List.length_append];omega)]
  exact h.2 (by omega)
theorem ml {d:Dg}(h:d.H3):aw (d.save.map U32.mk)=0∧load (d.save.map U32.mk)=d:=by
 have h1:=h.1.n
 have h2:=h.1.len
 have hg:∀i,((d.save.map U32.mk).getD i ⟨0⟩).v=d.save.getD i 0:=fun i=>sj
 have e8:d.save.getD 8 0=d.n / 4294967296:=rfl
 have e9:d.save.getD 9 0=d.n % 4294967296:=rfl
 have hn:nOf (d.save.map U32.mk)=d.n:=by unfold nOf;rw [hg,hg,e8,e9];omega
 have hs:ka (d.save.map U32.mk)=d.st:=by unfold ka;simp only [hg];rfl
 have hd:(d.save.map U32.mk).drop 10=d.waits++List.replicate (16 - d.waits.length) (U32.mk 0):=by
  show((d.waits.map U32.v++List.replicate (16 - d.waits.length) 0).map U32.mk)=_
  rw [List.map_append,List.map_map,List.map_replicate]
  congr 1
  exact(List.map_congr_left fun x _=>rfl).trans (List.map_id _)
 refine⟨mV (by rw [List.length_map,gx h.1]) (by rw [hn,hs];rintro(h3 | ⟨h3,h4⟩);omega;exact h4 (h.2 h3)) fun i x hx=>?_,?_⟩
 ·rw [hn,← List.drop_drop,hd,← h2,List.drop_left]at hx
  rw [List.getElem?_replicate]at hx
  split at hx
  ·injection hx with hx;rw [← hx]
  ·cases hx
 ·unfold load
  rw [hn,hs,hd,← h2,List.take_left]
end Dg
abbrev dP(l:List U32):Prop:=∀x∈l,0≤x.v∧x.v<4294967296
def opW(k a:Int)(l:List U32):List U32:= [U32.mk k,U32.mk a]++l
theorem Ay {k a:Int}(ha:0≤a∧a<4294967296)(hk:k=1∨k=2∨k=4):dP [U32.mk (u32.wrap k),U32.mk a]:=by
 rw [dI (by omega)]
 intro x hx
 rcases List.mem_cons.1 hx with rfl | hx
 ·show 0≤k∧k<4294967296
  omega
 ·obtain rfl:=List.mem_singleton.1 hx
  exact ha
theorem DH {a:Int} {l:List U32}(ha:0≤a∧a<4294967296)(hl:dP l):dP ([U32.mk 3,U32.mk a]++l):=by
 intro x hx
 simp only [List.cons_append,List.nil_append,List.mem_cons]at hx
 rcases hx with rfl | rfl | hx
 ·exact⟨by decide,by decide⟩
 ·exact ha
 ·exact hl x hx
theorem uP {k a:Int}(hk:k=1∨k=2∨k=4):opW k a []= [U32.mk (u32.wrap k),U32.mk a]:=by
 rw [dI (by omega)];rfl
namespace W26
abbrev Ok(x:W26):Prop:=dP x.n
def ws(x:W26):List Int:=x.n.map U32.v
theorem LU(x:W26):x.n.length=26:=rfl
theorem FE(x:W26)(i:Nat):x.ws.getD i 0=(x.n.getD i (U32.mk 0)).v:=by
 rw [ws,List.getD_eq_getElem?_getD,List.getD_eq_getElem?_getD,List.getElem?_map]
 cases x.n[i]? <;>rfl
theorem Km {x:W26}(h:x.Ok) {i:Nat}(hi:i<26):0≤x.ws.getD i 0∧x.ws.getD i 0<4294967296:=by
 rw [FE,List.getD_eq_getElem?_getD,List.getElem?_eq_getElem (by rw [LU];exact hi)]
 exact h _ (List.getElem_mem ..)
theorem Mo {l:List U32} {i:Int}(hi:0≤i∧i<26):(⟨W26.c (W26.mk l)⟩:Array Value)[i.toNat *1]? =some (.int .u32 (l.getD i.toNat (U32.mk 0)).v):=by
 have h0:(⟨W26.c (W26.mk l)⟩:Array Value)[i.toNat *1]? =(aG (fun j=>Value.int .u32 (l.getD j (U32.mk 0)).v) (upN 0 26))[i.toNat *1]? :=by simp [W26.c]
 rw [h0]
 obtain⟨j,hj⟩:=cu (l:=upN 0 26) (i:=i.toNat) (by rw [gl];omega)
 rw [Nat.mul_one,← aH,br,hj]
 have:=jh hj
 rw [show j=i.toNat by omega];rfl
theorem jr(x:W26):x.ws.length=26:=rfl
end W26
theorem W26.Gt {l:List U32}(h:l.length=26):W26.n (W26.mk l)=l:=by
 apply List.ext_getElem?
 intro i
 show(aG _ _)[i]? =_
 rw [← aH,br]
 cases hj:nth (upN 0 26) i with
 | none=>
  rw [List.getElem?_eq_none];rfl
  by_cases hi:i<26
  ·obtain⟨_,h8⟩:=cu (l:=upN 0 26) (i:=i) (by rw [gl];exact hi)
   rw [hj]at h8;cases h8
  ·omega
 | some j=>
  have h1:=jh hj
  have h2:=bc hj
  rw [gl]at h2
  have h3:j=i:=by omega
  subst h3
  show some (U32.mk (l.getD j (U32.mk 0)).v)=_
  rw [List.getD_eq_getElem?_getD,List.getElem?_eq_getElem (by omega)];rfl
theorem W26.nn {l:List U32}(h:l.length=26):W26.n (W26.mk (W26.n (W26.mk l)))=l:=by rw [W26.Gt h,W26.Gt h]
theorem W26.CQ {l:List U32}(h:l.length=26)(hl:dP l):W26.Ok (W26.mk (W26.n (W26.mk l))):=by
 show dP _
 rw [W26.nn h];exact hl
theorem Dg.svL_eq {d:Dg}(h:d.Ok):d.svL=d.save.map U32.mk:=by
 have e:d.svL=W26.n (W26.mk (d.save.map U32.mk)):=by
  show aG _ _=aG _ _
  congr 1
  funext j
  rw [sj]
 rw [e,W26.Gt (by rw [List.length_map,Dg.gx h])]
theorem Dg.AE {d:Dg}(h:d.Ok):dP d.svL:=by
 rw [Dg.svL_eq h]
 intro x hx
 obtain⟨y,hy,rfl⟩:=List.mem_map.1 hx
 exact Dg.AN h y hy
theorem Dg.FN {d:Dg}(h:d.Ok):W26.ws (W26.mk (W26.n (W26.mk d.svL)))=d.save:=by
 show(W26.n _).map U32.v=_
 rw [W26.nn (by rfl),Dg.svL_eq h,List.map_map]
 exact(List.map_congr_left fun x _=>rfl).trans (List.map_id _)
namespace Mem
theorem Dc {m:Mem} {p:Int} {i:Nat}(hi:i<26):(m.dgW p)[i]? =some (U32.mk (m.aY true p (11+(i:Int)))):=by
 unfold dgW
 rw [List.getElem?_map,List.getElem?_range hi];rfl
theorem ta {m:Mem} {p i:Int} {l:List U32}(hi:0≤i∧i<26)(h:l=(m.dgW p).take i.toNat++List.replicate (26 - i.toNat) (U32.mk 0)):l.set i.toNat (U32.mk (m.aY true p (i64.wrap (11+i))))=(m.dgW p).take (i64.wrap (i+1)).toNat++List.replicate (26 - (i64.wrap (i+1)).toNat) (U32.mk 0):=by
 subst h
 rw [aA (x:=i+1) (by omega),aA (x:=11+i) (by omega),show(i+1).toNat=i.toNat+1 by omega,List.take_add_one,Dc (by omega),show(11+((i.toNat:Nat):Int))=11+i by omega,show 26 - i.toNat=(26 - (i.toNat+1))+1 by omega,List.replicate_succ]
 have hl:((m.dgW p).take i.toNat).length=i.toNat:=by rw [List.length_take,dH];omega
 rw [List.set_append,if_neg (by omega),hl,Nat.sub_self]
 simp
theorem wA {m:Mem} {p i:Int}(hi:i=26):(m.dgW p).take i.toNat++List.replicate (26 - i.toNat) (U32.mk 0)=m.dgW p:=by
 subst hi
 show(m.dgW p).take 26++ []=_
 rw [List.append_nil,List.take_of_length_le (by rw [dH];omega)]
end Mem
theorem lu {k a:Int} {l:List U32}(ha:0≤a∧a<4294967296)(hk:k=1∨k=2∨k=3∨k=4)(hl:dP l):dP (opW k a l):=by
 intro x hx
 simp only [opW,List.cons_append,List.nil_append,List.mem_cons]at hx
 rcases hx with rfl | rfl | hx
 ·show 0≤k∧k<4294967296
  omega
 ·exact ha
 ·exact hl x hx
def Mem.msd(kk:List Int)(m:Mem)(p k a:Int)(l:List U32):Mem:=
 if Dg.aw (m.dgW p)=0 then m.wrs p 11 ((Dg.load (m.dgW p)).add kk (opW k a l)).save else m
theorem Mem.gS(kk:List Int)(m:Mem)(p k a:Int)(l:List U32):(m.msd kk p k a l).S=m.S:=by unfold Mem.msd;split<;>simp
theorem Sat.swap {U:Uni} {rs NM:List (Res U)} {X:Nat→Nat→Prop} {w:World}(hl:NM.length=rs.length)(hr:∀i b,nth NM i=some b→∃a,nth rs i=some a∧∀X w,RS X w a→RS X w b)(h:Sat rs X w):Sat NM X w:=
 ⟨fun i b hb=>by obtain⟨a,ha,Uo⟩:=hr i b hb;exact Uo _ _ (h.res i a ha),fun i j hi hj=>h.dis i j (by omega) (by omega)⟩
theorem aS.swap {U:Uni} {rs NM:List (Res U)} {X:Nat→Nat→Prop} {w w':World} {Q Q':Ou U→Prop} {e:Ending}(hl:NM.length=rs.length)(hr:∀i b,nth NM i=some b→∃a,nth rs i=some a∧∀X w,RS X w a→RS X w b)
 (hQ:∀out,Q out→Q' out∧(KnO (rs++out.news) out.res out.kr→KnO (NM++out.news) out.res out.kr)∧out.kc= [])(h:aS rs [] X w Q e w'):aS NM [] X w Q' e w':=by
 obtain⟨out,rs',X',he,hq,NF,hp⟩:=h
 obtain⟨h1,h2,h3⟩:=hQ out hq
 have hu:out.upd= []∧rs'=rs:=by
  cases hu:out.upd with
  | nil=>rw [hu]at NF;simp only [bO,Option.some.injEq]at NF;exact⟨rfl,NF.symm⟩
  | cons a l=>rw [hu]at NF;cases NF
 obtain⟨hu,rfl⟩:=hu
 have Nn:∀i b,nth (NM++out.news) i=some b→∃a,nth (rs'++out.news) i=some a∧∀X w,RS X w a→RS X w b:=by
  intro i b hb
  rw [bu]at hb ⊢
  rw [hl]at hb
  split at hb
  ·rename_i hi;rw [if_pos hi];exact hr i b hb
  ·rename_i hi;rw [if_neg hi];exact⟨b,hb,fun _ _ h=>h⟩
 refine⟨out,NM,X',he,h1,by rw [hu];rfl,⟨Sat.swap (by simp [hl]) Nn hp.sat,hp.ch,fun i hi=>hp.same i (by omega),hp.grow,fun i hi Ws=>hp.new i (by omega) (by omega),hp.kr.imp id h2,fun key k hk=>by rw [h3]at hk;cases hk⟩⟩
theorem Ct {T:TypeId} {x:Wt} {r:Nat→Nat} {rest:List (Res Un)}:∀i b,nth (Res.ob 8 r x::rest) i=some b→∃a,nth (Res.lst 1 false T x.A x.c x.l::rest) i=some a∧∀X w,RS X w a→RS X w b
 | 0,b,h=>by
  simp only [nth,Option.some.injEq]at h
  subst h
  exact⟨_,rfl,fun _ _ h=>h⟩
 | i+1,b,h=>⟨b,h,fun _ _ h=>h⟩
theorem yl {T:TypeId} {x:Wt} {r:Nat→Nat} {rest:List (Res Un)}:∀i b,nth (Res.lst 1 false T x.A x.c x.l::rest) i=some b→∃a,nth (Res.ob 8 r x::rest) i=some a∧∀X w,RS X w a→RS X w b
 | 0,b,h=>by
  simp only [nth,Option.some.injEq]at h
  subst h
  exact⟨_,rfl,fun _ _ h=>h⟩
 | i+1,b,h=>⟨b,h,fun _ _ h=>h⟩
theorem sw {f:Nat→Int} {cs:Array Value}(hs:cs.size=1024)(h:∀o,o<1024→cs[o]? =some (.int .u32 (f o))):cs=bR ((List.range 1024).map f):=by
 apply Array.ext_getElem?
 intro i
 by_cases hi:i<1024
 ·rw [h i hi,eF (by simpa using hi),List.getD_eq_getElem?_getD,List.getElem?_map,List.getElem?_range hi];rfl
 ·rw [Array.getElem?_eq_none (by omega),Array.getElem?_eq_none (by simp;omega)]
structure zu(w:World)(a n:Nat)(pg:Nat→Nat)(f:Nat→Nat→Int):Prop where
 row:∃T cs,Blk w a cs T∧∀i,i<n→cs[i]? =some (ptr (pg i))
 pgs:∀i,i<n→gP w (pg i) (f i)
theorem zu.pu {w w':World} {a n:Nat} {pg:Nat→Nat} {f:Nat→Nat→Int}(h:zu w a n pg f)(q:Pu w w'):zu w' a n pg f:=by
 obtain⟨⟨T,cs,hr,h2⟩,h3⟩:=h
 exact⟨⟨T,cs,q.blk hr,h2⟩,fun i hi=>(h3 i hi).pu q⟩
theorem cA.J4 {w:World} {L:eP} {m:Mem}(h:cA w L m)(s:Bool):zu w (L.row s) (m.cnt s) (L.pg s) (m.pg s):=⟨h.rows s,h.pgs s⟩
theorem Kd {w:World} {a n:Nat} {pg:Nat→Nat} {f:Nat→Nat→Int}(h:zu w a n pg f)(hn:n≤64):
 Calls prog 122 #[.slice (some (Addr.mk a 0 none)) n n] w fun e w'=>∃v,e= .returned v∧∃g p,v= .slice (some (Addr.mk g 0 none)) n n∧jw w' g n n p f w.heap.size∧Pu w w':=by
 refine zO _ _ _ ?_
 refine jj F2 (by omega) (by omega) (by omega) fun g w1 hM=>?_
 rw [Int.toNat_natCast]at hM ⊢
 refine⟨fun k x w'=>∃i:Nat,x=(i:Int)∧i≤n∧k=n - i∧(∃p,jw w' g n i p f w.heap.size)∧Pu w w',⟨n,0,rfl,by omega,by omega,⟨fun _=>0,⟨⟨_,_,hM.blk,by simp,by simp⟩,by simp,by simp,by simp,by rw [hM.num];exact Nat.le_refl _,by simp⟩⟩,hM.pu⟩,?_⟩
 rintro k _ x w2 ⟨i,rfl,hi,rfl,⟨p,hP⟩,Rj⟩
 refine ae (fun hb=>?_) (fun hb=>?_)
 ·have NP:i<n:=by simpa using hb
  have h2:=h.pu Rj
  obtain⟨T0,Wc,Uf,hc0⟩:=h2.row
  obtain⟨T1,cs1,hb1,Oi,hc1⟩:=h2.pgs i NP
  refine⟨⟨by omega,by omega⟩,ah _ rfl ⟨some (Addr.mk (pg i) 0 none),by rw [Nat.mul_one,Int.toNat_natCast];exact Uf.at (hc0 i NP),ah _ rfl ⟨cs1,⟨Oi,fun j u hj=>hb1.at hj⟩,?_⟩⟩⟩
  intro q w3 hq RM
  have RO:=made hq RM
  have abX:∀v∈cs1.toList,one? v True:=by rw [sw Oi hc1];exact nZ
  refine⟨Oi,abX,fX RO.blk (by simpa using Oi) fun w4 Vy=>?_⟩
  have Tp:gP w4 q (f i):=⟨_,_,Vy.blk,by simpa using Oi,fun o ho=>by simpa using hc1 o ho⟩
  have hqn:w2.heap.size≤q:=by rw [RO.num];exact Nat.le_refl _
  have h24:Pu w2 w4:=(Ch.stored (X:=fun _=>False) (RO.pu) Vy (.inr hqn))
  obtain⟨T,cs,hr,NA,Tr⟩:=hP.more (w2:=w4) h24 Tp hqn NP Rj.size
  refine⟨⟨by omega,by omega⟩,ah _ rfl ?_⟩
  rw [Nat.mul_one,Int.toNat_natCast]
  refine bZ hr NA fun w5 hs=>⟨n - (i+1),by omega,i+1,?_,NP,rfl,⟨_,Tr _ hs⟩,?_⟩
  ·rw [aA (by omega)];omega
  ·have hg:w.heap.size≤g:=hP.low.1
   exact((Rj.trans h24).mono (by simp):Ch (fun _=>False) w w4).stored hs (.inr hg)
 ·have:i=n:=by simp at hb;omega
  subst this
  exact⟨g,p,rfl,hP,Rj⟩
theorem AZ {w:World} {L:eP} {m:Mem}(h:cA w L m):
 Calls prog 51 #[ptr L.g] w fun e w'=>∃v,e= .returned v∧∃L':eP,v=ptr L'.g∧cA w' L' m∧(∀k,L'.X k→w.heap.size≤k)∧Pu w w':=by
 refine xc _ ?_
 obtain⟨T,hd⟩:=h.hd
 have hD:Pu w w.drew:=Pu.aU w
 have hd1:=hD.blk hd
 refine⟨fun _ k=>k=L.g,ah _ rfl ⟨by rw [block_add],_,_,_,hd1.at rfl,ah _ rfl ⟨by rw [block_add],_,_,_,hd1.at rfl,ah _ rfl ⟨by rw [block_add],_,hd1.at rfl,?_⟩⟩⟩⟩
 refine(Kd ((h.J4 true).pu hD) h.eU.1).mono ?_
 rintro e w1 ⟨_,rfl,a,pa,rfl,hA,NI⟩
 have Wu:L.g<w.drew.heap.size:=hd1.lt
 refine⟨_,_,_,rfl,NI.fU (fun k hk=>by have:k=L.g:=(by simpa [bW]using hk);rw [this];exact Wu),fun _ k=>k=L.g,fun _ k hk=>hk,?_⟩
 refine(Kd (((h.J4 false).pu hD).pu NI) h.eU.2).mono ?_
 rintro e w2 ⟨_,rfl,b,pb,rfl,hB,NZ⟩
 have h12:=NZ.size
 have h01:=NI.size
 have h0:=hD.size
 refine⟨_,_,_,rfl,NZ.fU (fun k hk=>by have:k=L.g:=(by simpa [bW]using hk);rw [this];omega),fun _ k=>k=L.g,fun _ k hk=>hk,?_⟩
 intro g w3 hg RM
 have hM:=made hg RM
 refine⟨hM.kept.mono (fun k hk=>by have:k=L.g:=(by simpa [bW]using hk);rw [this];omega),fun _ k=>k=L.g,fun _ k hk=>hk,?_⟩
 have hA3:=(hA.pu NZ).pu hM.pu
 have hB3:=hB.pu hM.pu
 have VX:∀j,j<m.S→pa j<w1.heap.size:=fun j hj=>(hA.pgs j hj).lt
 have NO:a<w1.heap.size:=by obtain⟨T,cs,hr,_⟩:=hA.row;exact hr.lt
 have VW:∀j,j<m.I→pb j<w2.heap.size:=fun j hj=>(hB.pgs j hj).lt
 have hbg:b<w2.heap.size:=by obtain⟨T,cs,hr,_⟩:=hB.row;exact hr.lt
 have hgn:=hM.num
 refine⟨⟨g,a,b,fun s=>match s with | true=>pa | false=>pb,fun s=>m.cnt s⟩,rfl,⟨fun s=>rfl,⟨(148,T.2),hM.blk⟩,fun s=>?_,fun s i hi=>?_,fun s i s' i' hi NP e=>?_,⟨by show a≠g;omega,by show b≠g;omega,fun s i hi=>?_⟩,h.u32,h.eU⟩,?_,((hD.trans NI).trans NZ).trans hM.pu⟩
 ·cases s
  ·obtain⟨T,cs,hr,_,h2⟩:=hB3.row;exact⟨T,cs,hr,h2⟩
  ·obtain⟨T,cs,hr,_,h2⟩:=hA3.row;exact⟨T,cs,hr,h2⟩
 ·cases s
  ·exact hB3.pgs i hi
  ·exact hA3.pgs i hi
 ·cases s<;>cases s'<;>simp only [Mem.cnt]at hi NP<;>simp only at e
  ·exact⟨rfl,hB.inj _ _ hi NP e⟩
  ·have:=hB.low.2 i hi;have:=VX i' NP;omega
  ·have:=hB.low.2 i' NP;have:=VX i hi;omega
  ·exact⟨rfl,hA.inj _ _ hi NP e⟩
 ·cases s<;>simp only [Mem.cnt]at hi<;>simp only
  ·have:=hB.low.2 i hi;have:=VW i hi;have:=hB.dis i hi
   refine⟨?_,?_,this⟩<;>omega
  ·have:=hA.low.2 i hi;have:=VX i hi;have h3:=hA.dis i hi;have:=hB.low.1
   refine⟨?_,h3,?_⟩<;>omega
 ·rintro k (rfl | rfl | rfl | ⟨s,i,hi,rfl⟩)
  ·omega
  ·have:=hA.low.1;omega
  ·have:=hB.low.1;omega
  ·cases s<;>simp only [Mem.cnt]at hi<;>simp only
   ·have:=hB.low.2 i hi;omega
   ·have:=hA.low.2 i hi;omega
def Hp(n n':Nat)(f g:Nat→Nat→Int):Bool:=decide (n=n') && (List.range n).all fun i=>(List.range 1024).all fun o=>f i o==g i o
def Mem.same(m o:Mem):Bool:=Hp m.S o.S (m.pg true) (o.pg true) && Hp m.I o.I (m.pg false) (o.pg false)
section
namespace Mem
def rd(m:Mem)(s:Bool)(p o:Int):Mem:=if m.has s p && dq o then m.tick 1 else m
def te(m:Mem)(s:Bool)(p:Int)(s':Bool)(p':Int):Int:=if m.has s p && m.has s' p' then 0 else 5
def copy(m:Mem)(s:Bool)(p:Int)(s':Bool)(p':Int):Mem:=if m.has s p && m.has s' p' then(m.tick 2048).fill s p.toNat (m.pg s' p'.toNat)else m
def words(m:Mem)(s:Bool)(p:Nat):List U32:=(List.range 1024).map fun o=>U32.mk (m.pg s p o)
end Mem
section
variable {w:World} {L:eP} {m:Mem}
theorem Kb(h:cA w L m)(s:Bool)(p o:Int):
 Calls prog 92 #[ptr L.g,fr s p,.int .i64 o] w fun e w'=>∃v,e= .returned v∧v= .tuple #[.int .u32 (m.aY s p o),.int .i64 (m.err s p o)]∧cA w' L (m.rd s p o)∧Ch L.X w w':=by
 refine zF _ s p o ?_
 intro g1 w1 hg hw
 have hM:=made hg hw
 refine⟨_,_,⟨hM.blk.at rfl,hM.blk.at rfl⟩,(Ka (h.pu hM.pu) s p o).mono ?_⟩
 rintro e w2 ⟨_,rfl,⟨hh,rfl,h2,hc⟩ | ⟨hh,rfl,he,hp⟩⟩
 ·refine⟨_,_,rfl,ae (fun hb=>by simp at hb) (fun _=>?_)⟩
  have Tu:Ch L.X w w2:=((Ch.refl _ w).made hM).trans hc
  have hh':=hh
  simp only [Bool.and_eq_true]at hh
  have hi:=Mem.dG hh.1
  have ho:=Mem.im hh.2
  obtain⟨T,cs,hr,NA,Of⟩:=h2.pgs s p.toNat (by simpa using hi)
  refine ah _ rfl ⟨_,hr.cell (Of _ (by omega)),?_,?_,Tu⟩
  ·simp [Mem.aY,Mem.err,hh.1,hh.2,Mem.tick]
  ·simpa [Mem.rd,hh']using h2
 ·refine⟨_,_,rfl,ae (fun _=>⟨?_,?_,(hM.pu.trans hp).mono (by simp)⟩) (fun hb=>absurd (by simpa using hb) he)⟩
  ·simp [Mem.aY,hh]
  ·simpa [Mem.rd,hh]using (h.pu hM.pu).pu hp
theorem L0(h:cA w L m)(s:Bool)(p:Int)(s':Bool)(p':Int):
 Calls prog 66 #[ptr L.g,fr s p,fr s' p'] w fun e w'=>∃v,e= .returned v∧v= .int .i64 (m.te s p s' p')∧cA w' L (m.copy s p s' p')∧Ch L.X w w':=by
 refine zQ _ s p s' p' ?_
 intro g1 w1 hg hw g2 w2 hg2 hw2
 have hM:=made hg hw
 have Tz:=made hg2 hw2
 have hD:Pu w w2.drew:=(hM.pu.trans Tz.pu).drew
 have l1:g1<w2.drew.heap.size:=by have:=hM.lt;have:=Tz.pu.size;exact Nat.lt_of_lt_of_le ‹_› ‹_›
 have l2:g2<w2.drew.heap.size:=Tz.lt
 refine⟨fun _ k=>k<w2.drew.heap.size,l1,_,_,⟨(Tz.old hM.blk).drew.at rfl,(Tz.old hM.blk).drew.at rfl⟩,l2,_,_,⟨Tz.blk.drew.at rfl,Tz.blk.drew.at rfl⟩,(mAt (h.pu hD) s p).mono ?_⟩
 rintro e w3 ⟨_,rfl,rfl,hp⟩
 refine⟨_,rfl,hp.fU (fun k hk=>by simpa [bW]using hk),fun _ k=>k<w2.drew.heap.size,fun _ _ h=>h,(mAt ((h.pu hD).pu hp) s' p').mono ?_⟩
 rintro e w4 ⟨_,rfl,rfl,PZ⟩
 have US:=(hD.trans hp).trans PZ
 refine⟨_,rfl,fun _ k=>k<w2.drew.heap.size,fun _ _ h=>h,fun b w'=>w4=w'∧b= !(m.has s p && m.has s' p'),?_,?_⟩
 ·refine ae (fun hb=>⟨rfl,?_⟩) (fun hb=>⟨rfl,?_⟩)
  ·cases hq:m.has s p<;>simp [hq]at hb ⊢
  ·cases hq:m.has s p
   ·simp [hq]at hb
   ·cases Oy:m.has s' p'<;>simp
 rintro _ x _ ⟨rfl,rfl⟩
 refine ae (fun hb=>?_) (fun hb=>?_)
 ·have OQ:(m.has s p && m.has s' p')=false:=by simpa only [Bool.not_eq_true']using hb
  refine⟨by simp [Mem.te,OQ],by simpa [Mem.copy,OQ]using h.pu US,US.mono (by simp)⟩
 ·have OQ:(m.has s p && m.has s' p')=true:=by simpa only [Bool.not_eq_false']using hb
  have hh:=OQ
  simp only [Bool.and_eq_true]at hh
  have hi:=Mem.dG hh.1
  have NP:=Mem.dG hh.2
  have h4:=h.pu US
  obtain⟨T,hd⟩:=h4.hd
  refine KX hd rfl (ah _ rfl (bZ hd (by simp) fun w5 hs=>?_))
  have h5:=h4.Gv hs
  obtain⟨T',cs,hr,NA,Of⟩:=h5.pgs s' p'.toNat NP
  obtain⟨T2,cs2,Qe,Vv,hcs2⟩:=h5.pgs s p.toNat hi
  rw [if_pos hh.1,if_pos hh.2]
  refine ah _ rfl ⟨cs,⟨NA,fun i u hu=>hr.at hu⟩,ah _ rfl ⟨NA,?_,fX Qe (by simp [NA,Vv]) fun w6 hs6=>⟨?_,?_,?_⟩⟩⟩
  ·rw [sw NA Of];exact nZ
  ·simp [Mem.te,OQ]
  ·have:=h5.ak (f:=m.pg s' p'.toNat) hi hs6 (by simpa using NA) (fun o ho=>by simpa using Of o ho) (fun o=>h.u32 _ _ _)
   simp only [Mem.copy,OQ,if_true];exact this
  ·exact((US.mono (by simp):Ch L.X w w4).stored hs (.inl (.inl rfl))).stored hs6 (.inl (h.inX hi))
theorem LZ(h:cA w L m)(s:Bool)(p:Int):
 Calls prog 69 #[ptr L.g,fr s p] w fun e w'=>∃v,e= .returned v∧
  (m.has s p=true∧cA w' L (m.tick 1024)∧Ch L.X w w'∧(∃g,v= .tuple #[.slice (some (Addr.mk g 0 none)) 1024 1024,.int .i64 0]∧w.heap.size≤g∧g<w'.heap.size∧Own w' (fun k=>k=g) 29 (some (Addr.mk g 0 none)) 1024 1024 (m.words s p.toNat))∨
   m.has s p=false∧v= .tuple #[.slice none 0 0,.int .i64 5]∧Pu w w'):=by
 refine zJ _ s p ?_
 intro g1 w1 hg hw
 have hM:=made hg hw
 refine⟨_,_,⟨hM.blk.at rfl,hM.blk.at rfl⟩,(GA (h.pu hM.pu) s p 1).mono ?_⟩
 rintro e w2 ⟨_,rfl,⟨hh,rfl,h2,hc⟩ | ⟨hh,rfl,hp⟩⟩
 ·refine⟨_,_,rfl,ae (fun hb=>by simp at hb) (fun _=>?_)⟩
  have Tu:Ch L.X w w2:=((Ch.refl _ w).made hM).trans hc
  have hi:=Mem.dG hh
  refine jj nX (by omega) (by omega) (by omega) fun g w3 RO=>?_
  have h3:=h2.pu RO.pu
  obtain⟨T,cs,hr,NA,Of⟩:=h3.pgs s p.toNat (by simpa using hi)
  have Oa:cs=bR ((List.range 1024).map ((m.tick 1024).pg s p.toNat)):=sw NA Of
  subst Oa
  refine ah _ rfl ?_
  rintro A rfl N rfl C rfl
  have hg:(1024:Int).toNat=1024:=rfl
  rw [hg]at RO ⊢
  have hbk:Blk w3 g (bR (List.replicate 1024 0)) 29:=by rw [fH];exact RO.blk
  have hz:(List.replicate 1024 (0:Int)).length=1024:=List.length_replicate
  have hl:((List.range 1024).map ((m.tick 1024).pg s p.toNat)).length=1024:=by rw [List.length_map,List.length_range]
  have hw:(((List.range 1024).map ((m.tick 1024).pg s p.toNat)).map U32.mk)=m.words s p.toNat:=by rw [List.map_map];rfl
  generalize (List.range 1024).map ((m.tick 1024).pg s p.toNat)=l at *
  generalize List.replicate 1024 (0:Int)=z at *
  have Q6:dw w3 (fun _=>True) .u32 (some (Addr.mk (L.pg s p.toNat) 0 none)) 1024 1024 ((l.drop 0).take 1024):=dw.row hr trivial (Nat.le_refl _) (by omega)
  have e1:(l.drop 0).take 1024=l:=by rw [List.drop_zero,List.take_of_length_le (by omega)]
  rw [e1]at Q6
  have e2:(if 1024=0 then Addr.mk (L.pg s p.toNat) 0 none else(Addr.mk (L.pg s p.toNat) 0 none).add (0*1))=Addr.mk (L.pg s p.toNat) 0 none:=rfl
  rw [e2]
  refine pT nX hbk rfl Q6 (by omega) fun w4 hs=>?_
  have e3:jb z 0 (l.take (min (1024 - 0) 1024))=l:=by
   rw [show min (1024 - 0) 1024=1024 from rfl,List.take_of_length_le (by omega),nV _ _ (by rw [hl,hz])]
  rw [e3]at hs
  have hn:w2.heap.size≤g:=by rw [RO.num];exact Nat.le_refl _
  have P6:Ch L.X w w3:=Tu.made RO
  have hg0:w.heap.size≤g:=Nat.le_trans Tu.size hn
  have hnx:∀k,L.X k→k≠g:=fun k hk=>by have:=h2.lt k hk;omega
  have h4:cA w4 L (m.tick 1024):=h3.kept (B:=fun k=>k≠g) hs.kept hnx
  have ho:=Own.ofRow (w:=w4) (e:=29) hs.blk hl (by decide)
  rw [hw]at ho
  refine Or.inl ?_
  exact⟨hh,h4,P6.stored hs (.inr hg0),g,rfl,hg0,hs.blk.lt,ho⟩
 ·refine⟨_,_,rfl,ae (fun _=>?_) (fun hb=>by simp at hb)⟩
  exact Or.inr ⟨hh,rfl,hM.pu.trans hp⟩
end
end
@[simp] theorem Mem.iP(m:Mem)(s:Bool)(p:Int)(s':Bool)(p':Int):(m.copy s p s' p').S=m.S:=by unfold Mem.copy;split<;>rfl
namespace DB
def bj(d:DB)(n:Int):Int:=if d.has n then 0 else 1
def bp(d:DB)(n:Int):Int:=if(d.entry n).typ=0 then 0 else 2
def eX(d:DB)(n:Int):Int:=if n<(d.mem.I:Int)then 0 else 17
def aE(d:DB)(s:Int):Int:=if !d.has s then 1 else if(d.at_ s).typ≠1 then 3 else if(d.at_ s).state≠1 then 4 else 0
def fM(w:Int):Int:=if lr w=0 then 0 else 6
def eD(d:DB)(s va:Int):Int:=if d.bJ s va=0 then 0 else if d.bJ s va=140 then 7 else 21
def cn(d:DB)(s f:Int):Int:=if d.bj s≠0 then d.bj s else if d.bj f≠0 then d.bj f else if s=f then 16 else if d.bp s≠0 then d.bp s else if d.bp f≠0 then d.bp f else if d.ax≥64 then 24 else 0
def bx(d:DB)(s f:Int):DB:=if d.cn s f=0 then(d.aJ s f).ay (·.wrs s 11 Dg.new.save)else d
def bM(d:DB)(s p:Int):Int:=if d.aE s≠0 then d.aE s else if d.bj p≠0 then d.bj p else d.bp p
def bC(kk:List Int)(d:DB)(s p b:Int):DB:=if d.bM s p=0 then(d.take p 2 s).ay (fun m=>(m.write true p 0 b).msd kk s 1 b [])else d
def cN(d:DB)(s p i:Int):Int:=if d.aE s≠0 then d.aE s else if d.bj p≠0 then d.bj p else if 256≤i then 16 else if d.bp p≠0 then d.bp p else if d.word (d.tbl s) i=0 then 0 else 7
def dt(kk:List Int)(d:DB)(s p i:Int):DB:=if d.cN s p i=0 then((d.take p 4 s).add s i p).ay (·.msd kk s 2 i [])else d
def cH(d:DB)(s p w n:Int):Int:=if d.aE s≠0 then d.aE s else if d.bj p≠0 then d.bj p else if fM w≠0 then fM w else if d.eX n≠0 then d.eX n else if d.bp p≠0 then d.bp p else d.eD s (bI w)
def bz(d:DB)(s p w n:Int):DB:=((d.take p 5 s).ay (·.copy true p false n)).put s (bI w) (Mp.mk true p (paW w) (paX w))
def ez(kk:List Int)(d:DB)(s p w n:Int):DB:=if d.cH s p w n=0 then(d.bz s p w n).ay (fun m=>m.msd kk s 3 w (m.words true p.toNat))else d
def cY(d:DB)(s w n:Int):Int:=if d.aE s≠0 then d.aE s else if fM w≠0 then fM w else if paX w then 6 else if d.eX n≠0 then d.eX n else d.eD s (bI w)
def du(kk:List Int)(d:DB)(s w n:Int):DB:=if d.cY s w n=0 then(d.put s (bI w) (Mp.mk false n (paW w) false)).ay (·.msd kk s 4 w [])else d
end DB
theorem DB.jH {d:DB} {f:Mem→Mem}(h:(f d.mem).S=d.mem.S):(d.ay f).pd=d.pd:=by
 show Pd.mk _ _ _=Pd.mk _ _ _
 rw [show(d.ay f).S=d.S from h];rfl
theorem DB.xZ(d:DB):d.pd.on d.mem=d:=rfl
theorem DB.dW {d:DB} {n:Int}(h:¬d.bj n≠0):d.has n=true:=by
 unfold DB.bj at h
 cases hh:d.has n
 ·rw [hh]at h;simp at h
 ·rfl
theorem DB.dF {d:DB} {n:Int}(hn:d.has n=true)(h:¬d.bp n≠0):(d.at_ n).typ=0:=by
 unfold DB.bp DB.entry at h
 rw [if_pos hn]at h
 by_cases h0:(d.at_ n).typ=0
 ·exact h0
 ·rw [if_neg h0]at h;simp at h
theorem DB.fe {d:DB} {s q:Int}(h1:¬d.bj s≠0)(h2:¬d.bj q≠0)(h3:¬s=q)(h4:¬d.bp s≠0)(h5:¬d.bp q≠0):d.aQ s q=if d.ax≥64 then 240 else 0:=by
 have a1:=DB.dW h1
 have a2:=DB.dW h2
 unfold DB.aQ
 simp [a1,a2,h3,DB.dF a1 h4,DB.dF a2 h5]
theorem oc {w:Int}(h:0≤w∧w<4294967296):0≤bI w∧bI w<4294967296:=by
 unfold bI
 split<;>omega
theorem Mem.iu {m:Mem}(h:m.Wf)(s:Bool)(p:Nat):dP (m.words s p):=by
 intro x hx
 obtain⟨o,_,rfl⟩:=List.mem_map.1 hx
 exact h.1 _ _ _
theorem Mem.jN(m:Mem)(s:Bool)(p:Int)(s':Bool)(p':Int)(b:Bool)(q:Int):(m.copy s p s' p').has b q=m.has b q:=by
 unfold Mem.copy
 split
 ·cases b<;>rfl
 ·rfl
theorem DB.aO(d:DB)(p t s:Int):(d.take p t s).mem=d.mem:=by unfold DB.take;split<;>rfl
theorem DB.IE(d:DB)(s va:Int)(M:Mp)(p:Int):(d.put s va M).mem.has true p=d.mem.has true p:=by
 unfold DB.put
 split
 ·exact DB.cC ..
 ·rfl
theorem DB.Bs(d:DB)(s p w n:Int):(d.bz s p w n).mem.has true p=d.has p:=by
 rw [DB.bz,DB.IE]
 show((d.take p 5 s).mem.copy true p false n).has true p=_
 rw [Mem.jN,DB.aO];rfl
namespace Mem
theorem iF {m:Mem} {s s':Bool} {p o v:Int} {q:Nat}(h:¬(s'=s∧q=p.toNat)):(m.write s p o v).pg s' q=m.pg s' q:=by
 unfold write
 split
 ·funext x;exact if_neg h
 ·rfl
theorem vU {m:Mem} {s s' b:Bool} {p p':Int} {q:Nat}(h:¬(b=s∧q=p.toNat)):(m.copy s p s' p').pg b q=m.pg b q:=by
 unfold copy
 split
 ·funext x;exact if_neg h
 ·rfl
theorem D4 {m:Mem} {s s':Bool} {p p':Int}(h:m.has s p=true)(h':m.has s' p'=true):(m.copy s p s' p').pg s p.toNat=m.pg s' p'.toNat:=by
 unfold copy
 rw [if_pos (by simp [h,h'])]
 funext x;exact if_pos ⟨rfl,rfl⟩
theorem wy {m m':Mem} {s:Int}(hS:m'.S=m.S)(h:m.has true s=true→m'.pg true s.toNat=m.pg true s.toNat):m'.dgW s=m.dgW s:=by
 unfold dgW
 refine List.map_congr_left fun i _=>?_
 have hh:m'.has true s=m.has true s:=by unfold has cnt;rw [hS]
 unfold aY
 rw [hh]
 cases hs:m.has true s
 ·rfl
 ·rw [h hs]
theorem vZ {m:Mem} {s p:Int}(hs:m.has true s=true)(hp:0≤p)(h:p≠s):¬(true=true∧s.toNat=p.toNat):=by
 have:=ai hs
 omega
theorem fD {m:Mem} {s p o v:Int}(h:p≠s):(m.write true p o v).dgW s=m.dgW s:=by
 refine wy (aV ..) fun hs=>?_
 by_cases hp:0≤p
 ·exact iF (vZ hs hp h)
 ·unfold write
  rw [if_neg]
  simp [has];omega
theorem yG {m:Mem} {s p q:Int} {b:Bool}(h:p≠s):(m.copy true p b q).dgW s=m.dgW s:=by
 refine wy (iP ..) fun hs=>?_
 by_cases hp:0≤p
 ·exact vU (vZ hs hp h)
 ·unfold copy
  rw [if_neg]
  simp [has];omega
end Mem
namespace DB
theorem fO {d:DB} {s:Int}(h:¬d.aE s≠0):d.has s=true∧(d.at_ s).typ=1∧(d.at_ s).state=1:=by
 unfold aE at h
 cases hs:d.has s
 ·rw [hs]at h;simp at h
 ·by_cases h1:(d.at_ s).typ=1
  ·by_cases h2:(d.at_ s).state=1
   ·exact⟨rfl,h1,h2⟩
   ·simp [hs,h1,h2]at h
  ·simp [hs,h1]at h
theorem aP {d:DB} {p t o:Int}(h:d.of p t o=true):d.has p=true∧(d.at_ p).typ=t∧(d.at_ p).owner=o:=by
 simpa [of,is,and_assoc]using h
theorem Dt {d:DB} {s i q:Int}(h:d.lJ s i q=0):d.cF s=0∧d.of (d.tbl s) 3 s=true:=by
 have h1:d.cF s=0:=by
  by_cases h1:d.cF s=0
  ·exact h1
  ·unfold lJ at h;rw [if_pos h1]at h;exact h
 refine⟨h1,?_⟩
 unfold tbl
 rw [if_pos h1]
 unfold cF at h1
 split at h1
 ·omega
 ·split at h1
  ·omega
  ·split at h1
   ·omega
   ·split at h1
    ·assumption
    ·omega
theorem qq {d:DB} {s va:Int} {M:Mp}(h:d.iE s va M=0):d.of (d.plP s va) 4 s=true∧M.err=0∧d.bJ s va=0∧d.eG s va=0:=by
 have h1:d.bJ s va=0:=by
  by_cases h1:d.bJ s va=0
  ·exact h1
  ·unfold iE at h;rw [if_pos h1]at h;exact absurd h h1
 have h2:d.eG s va=0:=by
  by_cases h2:d.eG s va=0
  ·exact h2
  ·unfold bJ at h1;rw [if_pos h2]at h1;exact h1
 refine⟨?_,by unfold iE at h;rw [if_neg (by omega)]at h;exact h,h1,h2⟩
 unfold eG at h2
 split at h2
 ·omega
 ·split at h2
  ·omega
  ·split at h2
   ·rename_i h3
    simp only [iC,Bool.and_eq_true]at h3
    exact h3.2
   ·omega
theorem Dd {d:DB} {s i q x:Int}(h:(d.at_ x).typ≠3):(d.add s i q).mem.dgW x=d.mem.dgW x:=by
 unfold add
 split
 ·rename_i he
  exact Mem.fD fun e=>h (e▸(aP (Dt he).2).2.1)
 ·rfl
theorem rl {d:DB} {s va x:Int} {M:Mp}(h:(d.at_ x).typ≠4):(d.put s va M).mem.dgW x=d.mem.dgW x:=by
 unfold put
 split
 ·rename_i he
  exact Mem.fD fun e=>h (e▸(aP (qq he).1).2.1)
 ·rfl
theorem nN {d:DB} {p t s q:Int}(hq:0≤q)(hs:d.has s=true)(h:q≠p):((d.take p t s).at_ q).typ=(d.at_ q).typ:=by
 unfold take
 split
 ·rename_i he
  have hp:d.has p=true:=by
   cases hp:d.has p
   ·unfold bY at he;simp [hp]at he
   ·rfl
  have h1:=ai hp
  have h2:=ai hs
  unfold cl more
  rw [bE h2.1 hq,bE h1.1 h2.1,bE h1.1 hq,if_neg h]
  split
  ·rename_i e
   subst e
   rw [if_neg h]
  ·rfl
 ·rfl
theorem DQ {d:DB} {p t s:Int}(hp:0≤p)(hs:d.has s=true)(h:s≠p)(ht:(d.at_ p).typ=0):((d.take p t s).at_ p).typ=0∨((d.take p t s).at_ p).typ=t:=by
 unfold take
 split
 ·right
  have h2:=ai hs
  unfold cl more
  rw [bE h2.1 hp,if_neg (Ne.symm h),bE hp hp,if_pos rfl]
 ·exact .inl ht
theorem Bc {d:DB} {s p o v:Int}(h:¬d.aE s≠0)(hp:¬d.bj p≠0)(hu:¬d.bp p≠0):((d.take p 2 s).mem.write true p o v).dgW s=d.mem.dgW s:=by
 have h1:=fO h
 have h2:=dF (dW hp) hu
 rw [aO,Mem.fD]
 rintro rfl;omega
theorem Ee {d:DB} {s p i q:Int}(h:¬d.aE s≠0)(hp:¬d.bj p≠0)(hu:¬d.bp p≠0):((d.take p 4 s).add s i q).mem.dgW s=d.mem.dgW s:=by
 have h1:=fO h
 have h2:=dF (dW hp) hu
 rw [Dd,aO]
 rw [nN (ai h1.1).1 h1.1 (by rintro rfl;omega)];omega
theorem GJ {d:DB} {s p w n:Int}(h:¬d.aE s≠0)(hp:¬d.bj p≠0)(hu:¬d.bp p≠0):(d.bz s p w n).mem.dgW s=d.mem.dgW s:=by
 have h1:=fO h
 have h2:=dF (dW hp) hu
 have h3:s≠p:=by rintro rfl;omega
 rw [bz,rl]
 ·show((d.take p 5 s).mem.copy true p false n).dgW s=_
  rw [Mem.yG h3.symm,aO]
 ·show((d.take p 5 s).at_ s).typ≠4
  rw [nN (ai h1.1).1 h1.1 h3];omega
theorem Ef {d:DB} {s va:Int} {M:Mp}(h:¬d.aE s≠0):(d.put s va M).mem.dgW s=d.mem.dgW s:=by
 have h1:=fO h
 rw [rl];omega
theorem Bf {d:DB} {n:Int}(h0:0≤n)(h:¬d.eX n≠0):d.mem.has false n=true:=by
 unfold eX at h
 split at h
 ·exact decide_eq_true (show 0≤n∧n<(d.mem.I:Int)from⟨h0,by assumption⟩)
 ·simp at h
theorem Ga {d:DB} {s va:Int} {M:Mp} {b:Bool} {q:Int}(hq:0≤q)(h:b=true→(d.at_ q).typ≠4):(d.put s va M).mem.pg b q.toNat=d.mem.pg b q.toNat:=by
 unfold put
 split
 ·rename_i he
  have h1:=aP (qq he).1
  refine Mem.iF ?_
  rintro⟨rfl,e⟩
  have h2:=ai h1.1
  have:q=d.plP s va:=by omega
  exact h rfl (this▸h1.2.1)
 ·rfl
theorem yR(d:DB)(s p w n q:Int)(b:Bool):(d.bz s p w n).mem.has b q=d.mem.has b q:=by
 unfold bz put
 split
 ·show(Mem.write ((d.take p 5 s).mem.copy true p false n) _ _ _ _).has b q=_
  rw [DB.cC,Mem.jN,aO]
 ·show((d.take p 5 s).mem.copy true p false n).has b q=_
  rw [Mem.jN,aO]
theorem wG {d:DB} {s p w n:Int}(h:¬d.aE s≠0)(hp:¬d.bj p≠0)(hu:¬d.bp p≠0)(hn:0≤n)(hi:¬d.eX n≠0):(d.bz s p w n).mem.words false n.toNat=(d.bz s p w n).mem.words true p.toNat:=by
 have h1:=fO h
 have NI:=dW hp
 have h2:=dF NI hu
 have h3:s≠p:=by rintro rfl;omega
 have e1:(d.bz s p w n).mem.pg false n.toNat=d.mem.pg false n.toNat:=by
  rw [bz,Ga hn (fun h=>by cases h)]
  show((d.take p 5 s).mem.copy true p false n).pg false n.toNat=_
  rw [Mem.vU (by rintro⟨h,_⟩;cases h),aO]
 have e2:(d.bz s p w n).mem.pg true p.toNat=d.mem.pg false n.toNat:=by
  rw [bz,Ga (ai NI).1 (fun _=>?_)]
  ·show((d.take p 5 s).mem.copy true p false n).pg true p.toNat=_
   rw [Mem.D4 (by rw [aO];exact NI) (by rw [aO];exact Bf hn hi),aO]
  ·show((d.take p 5 s).at_ p).typ≠4
   rcases DQ (t:=5) (ai NI).1 h1.1 h3 h2 with h | h<;>omega
 unfold Mem.words
 rw [e1,e2]
end DB
section
abbrev svO(r rm:Nat→Nat)(E:Pd)(m:Mem)(rest:List (Res Un)):List (Res Un):= .ob 1 r E:: .ob 0 rm m::rest
section
variable {r r1 rm:Nat→Nat} {s:Sv} {E:Pd} {m:Mem} {rest:List (Res Un)} {X:Nat→Nat→Prop} {w:World}
theorem mh(hs:Sat (U:=Un) (.ob 9 r s::rest) X w):∃(r1 rm:Nat→Nat)(X1:Nat→Nat→Prop),Sat (svO r1 rm s.D.pd s.D.mem rest) X1 w∧av (svO r1 rm s.D.pd s.D.mem rest) fr0 [(.l 0 1,.p (.obj 1 0 0))]∧(s.pD=r1 0∧s.pM=rm 0∧r1 1=rm 0)∧(∀i,i<2→∀k,X1 i k→X 0 k)∧∀i,X1 (i+2)=X (i+1):=by
 obtain⟨a,L,h1,h2,h3⟩:=(hs.res 0 _ rfl:cq 9 r s (X 0) w)
 have VC:=h2.pd
 rw [show(fG.M ⟨s.pD,a,L⟩).g=s.pM from h1]at VC
 have sub:∀i,i<2→∀k,(fun i=>match i with | 0=>(fun k=>k=s.pD∨k=a) | 1=>L.X | i+2=>X (i+1):Nat→Nat→Prop) i k→X 0 k:=fun i hi k hk=>by
  match i,hi with
  | 0,_=>exact(h3 k).1 (hk.elim .inl fun h=>.inr (.inl h))
  | 1,_=>exact(h3 k).1 (.inr (.inr hk))
 refine⟨fun i=>if i=0 then s.pD else s.pM,fun _=>s.pM,fun i=>match i with | 0=>(fun k=>k=s.pD∨k=a) | 1=>L.X | i+2=>X (i+1),⟨fun i x hx=>?_,fun i j hi hj NJ k hk NT=>?_⟩,wh ⟨_,_,_,rfl,rfl⟩,⟨rfl,rfl,rfl⟩,sub,fun i=>rfl⟩
 ·match i with
  | 0=>
   simp only [svO,nth,Option.some.injEq]at hx;subst hx
   exact(⟨a,fun k=>Iff.rfl,VC⟩:cq 1 (fun i=>if i=0 then s.pD else s.pM) s.D.pd (fun k=>k=s.pD∨k=a) w)
  | 1=>
   simp only [svO,nth,Option.some.injEq]at hx;subst hx
   exact(⟨L,h1.symm,fun k=>Iff.rfl,h2.mem⟩:cq 0 (fun _=>s.pM) s.D.mem L.X w)
  | i+2=>exact hs.res (i+1) x hx
 ·have e:∀i,i+2<(svO (fun i=>if i=0 then s.pD else s.pM) (fun _=>s.pM) s.D.pd s.D.mem rest).length→i+1<(Res.ob (U:=Un) 9 r s::rest).length:=fun i h=>by simp at h ⊢;omega
  have d01:∀k,(k=s.pD∨k=a)→¬L.X k:=fun k hk hL=>by
   rcases hk with rfl | rfl
   ·exact h2.dis.2.1 hL
   ·exact h2.dis.2.2 hL
  match i,j,hi,hj,NJ with
  | 0,1,_,_,_=>exact d01 k hk NT
  | 1,0,_,_,_=>exact d01 k NT hk
  | 0,j+2,_,hj,_=>exact hs.dis 0 (j+1) (by simp) (e j hj) (by omega) k (sub 0 (by omega) k hk) NT
  | 1,j+2,_,hj,_=>exact hs.dis 0 (j+1) (by simp) (e j hj) (by omega) k (sub 1 (by omega) k hk) NT
  | i+2,0,hi,_,_=>exact hs.dis 0 (i+1) (by simp) (e i hi) (by omega) k (sub 0 (by omega) k NT) hk
  | i+2,1,hi,_,_=>exact hs.dis 0 (i+1) (by simp) (e i hi) (by omega) k (sub 1 (by omega) k NT) hk
  | i+2,j+2,hi,hj,h=>exact hs.dis (i+1) (j+1) (e i hi) (e j hj) (by omega) k hk NT
  | 0,0,_,_,h=>exact absurd rfl h
  | 1,1,_,_,h=>exact absurd rfl h
theorem Cy(h0:RS (U:=Un) (X 0) w (.ob 1 r1 E))(h1:RS (U:=Un) (X 1) w (.ob 0 rm m))(hd:∀k,X 0 k→¬X 1 k)(l:r1 1=rm 0)(hn:E.n=m.S):cq 9 r ⟨E.on m,r1 0,rm 0⟩ (fun k=>X 0 k∨X 1 k) w:=by
 obtain⟨a,Qg,hp⟩:=(h0:cq 1 r1 E (X 0) w)
 obtain⟨L,hg,QJ,hm⟩:=(h1:cq 0 rm m (X 1) w)
 rw [l,hg]at hp
 refine⟨a,L,hg.symm,hp.db hm hn ⟨fun hx=>hd _ ((Qg _).1 (.inl rfl)) ((QJ _).1 hx),fun hx=>hd _ ((Qg _).1 (.inr rfl)) ((QJ _).1 hx)⟩,fun k=>⟨fun hk=>?_,fun hk=>?_⟩⟩
 ·rcases hk with hk | hk | hk
  ·exact .inl ((Qg k).1 (.inl hk))
  ·exact .inl ((Qg k).1 (.inr hk))
  ·exact .inr ((QJ k).1 hk)
 ·rcases hk with hk | hk
  ·exact((Qg k).2 hk).elim .inl fun h=>.inr (.inl h)
  ·exact .inr (.inr ((QJ k).2 hk))
end
section
variable {P:Program} {f:Nat} {args:Array Value} {r:Nat→Nat} {s:Sv} {rest:List (Res Un)} {X:Nat→Nat→Prop} {w:World} {Q:Ou Un→Prop} {v:Value} {k k1:Option Kn}
theorem wC {X:Nat→Nat→Prop} {w w':World}(h:Ch (fun k=>∃j,j∈([]:List Nat)∧X j k) w w'):Pu w w':=h.mono fun k hk=>by obtain⟨j,hj,_⟩:=hk;cases hj
theorem svP(OA:iL k1 v= .returned v)(hs:Sat (U:=Un) (.ob 9 r s::rest) X w)(hc:∀(r1 rm:Nat→Nat)(X1:Nat→Nat→Prop),Sat (svO r1 rm s.D.pd s.D.mem rest) X1 w→av (svO r1 rm s.D.pd s.D.mem rest) fr0 [(.l 0 1,.p (.obj 1 0 0))]→s.pD=r1 0∧s.pM=rm 0→Calls P f args w (aS (svO r1 rm s.D.pd s.D.mem rest) [] X1 w (fun o=>o=⟨v,k1,[],[],[]⟩)))
 (hQ:Q ⟨v,k,[],[],[]⟩)(hk:KnO (U:=Un) (.ob 9 r s::rest) v k):Calls P f args w (aS (U:=Un) (.ob 9 r s::rest) [] X w Q):=by
 obtain⟨r1,rm,X1,Oi,OI,e,_,_⟩:=mh hs
 refine(hc r1 rm X1 Oi OI ⟨e.1,e.2.1⟩).mono ?_
 rintro e w' ⟨out,rs',X',rfl,rfl,NF,hp⟩
 rw [OA]
 exact aS.pu hs (wC hp.ch) hQ hk
theorem svD(OA:iL k1 v= .returned v)(D':DB)(M:List Nat)(us:List (Upd Un))(hM:∀j,j∈M→j<2)(hs:Sat (U:=Un) (.ob 9 r s::rest) X w)(hn:D'.pd.n=D'.mem.S)(NF:∀r1 rm,bO (svO r1 rm s.D.pd s.D.mem rest) M us=some (svO r1 rm D'.pd D'.mem rest))
 (hc:∀(r1 rm:Nat→Nat)(X1:Nat→Nat→Prop),Sat (svO r1 rm s.D.pd s.D.mem rest) X1 w→av (svO r1 rm s.D.pd s.D.mem rest) fr0 [(.l 0 1,.p (.obj 1 0 0))]→s.pD=r1 0∧s.pM=rm 0→Calls P f args w (aS (svO r1 rm s.D.pd s.D.mem rest) M X1 w (fun o=>o=⟨v,k1,us,[],[]⟩)))
 (hQ:Q ⟨v,k,[.ob 9 ⟨D',s.pD,s.pM⟩],[],[]⟩)(hk:KnO (U:=Un) (.ob 9 r ⟨D',s.pD,s.pM⟩::rest) v k):Calls P f args w (aS (U:=Un) (.ob 9 r s::rest) [0] X w Q):=by
 obtain⟨r1,rm,X1,Oi,OI,⟨e1,e2,e3⟩,Py,_⟩:=mh hs
 refine(hc r1 rm X1 Oi OI ⟨e1,e2⟩).mono ?_
 rintro e w' ⟨out,rs',X',rfl,rfl,ha,hp⟩
 rw [NF]at ha
 injection ha with ha
 subst ha
 have hsat:Sat (svO r1 rm D'.pd D'.mem rest) X' w':=by have:=hp.sat;rwa [List.append_nil]at this
 have hz:∀i,i<2→∀k,X' i k→X 0 k∨w.heap.size≤k:=fun i hi k hk=>by
  by_cases hm:i∈M
  ·exact(hp.grow i hm k hk).imp (Py i hi k) id
  ·have:=hp.same i (show i<rest.length+1+1 by omega) hm
   exact .inl (Py i hi k (this▸hk))
 have hu:=Cy (r:=r) (hsat.res 0 _ rfl) (hsat.res 1 _ rfl) (hsat.dis 0 1 (by simp) (by simp) (by omega)) e3 hn
 rw [← e1,← e2]at hu
 rw [OA]
 exact aS.first (Z:=fun k=>X' 0 k∨X' 1 k) hs (hp.ch.mono fun k ⟨j,hj,h⟩=>Py j (hM j hj) k h) hu (fun k hk=>hk.elim (hz 0 (by omega) k) (hz 1 (by omega) k)) hQ hk
theorem svL {t:Nat} {T:TypeId} {l:List (Un.el t)}(hs:Sat (U:=Un) [.ob 9 r s] X w)(hc:∀(r1 rm:Nat→Nat)(X1:Nat→Nat→Prop),Sat (svO r1 rm s.D.pd s.D.mem []) X1 w→av (svO r1 rm s.D.pd s.D.mem []) fr0 [(.l 0 1,.p (.obj 1 0 0))]→s.pD=r1 0∧s.pM=rm 0→Calls P f args w (aS (svO r1 rm s.D.pd s.D.mem []) [] X1 w (fun o=>∃A c,o=⟨.slice A l.length c,some (.p (.sl 2 0)),[],[.lst t true T A c l],[]⟩)))
 (hQ:∀A c,Q ⟨.slice A l.length c,some (.p (.sl 1 0)),[],[.lst t true T A c l],[]⟩):Calls P f args w (aS (U:=Un) [.ob 9 r s] [] X w Q):=by
 obtain⟨r1,rm,X1,Oi,OI,e,_,_⟩:=mh hs
 refine(hc r1 rm X1 Oi OI ⟨e.1,e.2.1⟩).mono ?_
 rintro e w' ⟨out,rs',X',rfl,⟨A,c,rfl⟩,NF,hp⟩
 have aaE:svO r1 rm s.D.pd s.D.mem []=rs':=by simpa [bO]using NF
 subst aaE
 exact aS.more hs (wC hp.ch) (hp.sat.res 2 _ rfl) (hp.new 2 (by simp) (by simp)) (hQ A c) rfl
theorem svN {rN rM:Nat→Nat} {E:Pd} {m:Mem} {kc:List (Key×Kn)}(OA:iL k1 v= .returned v)(hs:Sat (U:=Un) [.ob 9 r s] X w)(hn:E.n=m.S) {e:Ending} {w':World} {r1 rm:Nat→Nat} {X1 X':Nat→Nat→Prop}(hp:vx (svO r1 rm s.D.pd s.D.mem []) [] X1 w ⟨v,k1,[],[.ob 1 rN E,.ob 0 rM m],kc⟩ w' (svO r1 rm s.D.pd s.D.mem []) X')(hl:rN 1=rM 0)(he:e=iL k1 v)
 (hQ:Q ⟨v,k,[.ob 9 ⟨E.on m,rN 0,rM 0⟩],[],[]⟩)(hk:KnO (U:=Un) [.ob 9 r ⟨E.on m,rN 0,rM 0⟩] v k):aS (U:=Un) [.ob 9 r s] [0] X w Q e w':=by
 have hu:=Cy (r:=r) (X:=fun i=>X' (i+2)) (hp.sat.res 2 _ rfl) (hp.sat.res 3 _ rfl) (hp.sat.dis 2 3 (show 2<4 by decide) (show 3<4 by decide) (by omega)) hl hn
 rw [he,OA]
 exact aS.first (Z:=fun k=>X' 2 k∨X' 3 k) hs ((wC hp.ch).mono fun k hk=>hk.elim) hu (fun k hk=>.inr (hk.elim (hp.new 2 (by simp) (by simp) k) (hp.new 3 (by simp) (by simp) k))) hQ hk
end
end
def LOp.Ok(o:LOp):Prop:=(0≤o.a∧o.a<4294967296)∧(0≤o.b∧o.b<4294967296)∧(0≤o.c∧o.c<4294967296)∧(0≤o.d∧o.d<4294967296)
def okM(s i:Int):Bool:=decide ((1≤s∧s≤64)∧(1≤i∧i≤64))
theorem CR {s i:Int}(h:okM s i=true):(1≤s∧s≤64)∧(1≤i∧i≤64):=of_decide_eq_true h
theorem CT {s i:Int}(h:okM s i=false):s<1∨s>64∨i<1∨i>64:=by
 have:=of_decide_eq_false h;omega
theorem IU {s i:Int} {w:World}(h:okM s i=false):Calls prog 27 #[.int .i64 s,.int .i64 i] w fun e w'=>e= .returned (.tuple #[.pointer none,.int .i64 1])∧w'=w:=by
 have h:=CT h
 refine(tL (R:=fun v w'=>v= .tuple #[.pointer none,.int .i64 1]∧w'=w) s i ⟨fun b w'=>w=w'∧b=true,?_,?_⟩).mono ?_
 ·refine ae (fun hb=>⟨rfl,rfl⟩) (fun h1=>ae (fun hb=>⟨rfl,rfl⟩) (fun h2=>ae (fun hb=>⟨rfl,rfl⟩) (fun h3=>⟨rfl,?_⟩)))
  simp at h1 h2 h3 ⊢;omega
 ·rintro _ x _ ⟨rfl,rfl⟩
  exact dV ⟨rfl,rfl⟩
 ·rintro e w' ⟨v,rfl,rfl,rfl⟩;exact⟨rfl,rfl⟩
namespace DB
def bh(d:DB)(o:LOp):Int:=if o.k=1 then d.cn o.a o.b else if o.k=2 then d.bM o.a o.b else if o.k=3 then d.cN o.a o.b o.c else if o.k=4 then d.cH o.a o.b o.c o.d else d.cY o.a o.b o.c
def call(kk:List Int)(d:DB)(o:LOp):DB:=if o.k=1 then d.bx o.a o.b else if o.k=2 then d.bC kk o.a o.b o.c else if o.k=3 then d.dt kk o.a o.b o.c else if o.k=4 then d.ez kk o.a o.b o.c o.d else d.du kk o.a o.b o.c
def mG(d:DB)(p:Int):Bool:=d.has p && (d.has (d.at_ p).owner && ((d.at_ p).typ !=0 && ((d.at_ (d.at_ p).owner).state==3 && ((d.at_ p).typ !=1 || (d.at_ p).refs==0))))
def jk(d:DB)(p:Int):Bool:=d.has p && ((d.at_ p).typ==1 && (d.at_ p).state==1)
def beside(d:DB)(o:LOp):DB:=
 if o.k=6 then d.ay (·.write false o.a (o.b % 1024) o.c)
 else if o.k=7 then(if d.jk o.a then(d.ay (·.wrs o.a 11 (List.replicate 26 0))).setState o.a 2 else d)
 else if o.k=8 then d.setState o.a 3
 else if o.k=9 then(if d.mG o.a then d.dB o.a else d)
 else d
end DB
abbrev Sm(x:Int):Prop:=0≤x∧x≤24
namespace DB
theorem LO(d:DB)(n:Int):Sm (d.bj n):=by unfold bj;split<;>decide
theorem Lz(d:DB)(n:Int):Sm (d.bp n):=by unfold bp;split<;>decide
theorem L7(d:DB)(n:Int):Sm (d.eX n):=by unfold eX;split<;>decide
theorem Mq(d:DB)(n:Int):Sm (d.aE n):=by unfold aE;(repeat' split)<;>decide
theorem LX(n:Int):Sm (fM n):=by unfold fM;split<;>decide
theorem LB(d:DB)(s va:Int):Sm (d.eD s va):=by unfold eD;(repeat' split)<;>decide
theorem Ja(d:DB)(o:LOp):Sm (d.bh o):=by
 unfold bh cn bM cN cH cY
 (repeat' split)<;>first | decide | exact LO .. | exact Lz .. | exact L7 .. | exact Mq .. | exact LX .. | exact LB ..
end DB
theorem F6 {m:Mem} {a i:Int}(hi:0≤i∧i<26):m.wrs a 11 ((List.replicate 26 (0:Int)).take (i64.wrap (i+1)).toNat)=(m.wrs a 11 ((List.replicate 26 (0:Int)).take i.toNat)).write true a (i64.wrap (11+i)) 0:=by
 rw [Mem.xx (by rfl) hi]
 congr 1
 rw [List.getD_eq_getElem?_getD,List.getElem?_replicate]
 split<;>rfl
theorem DB.FG {D:DB} {j:Nat} {x:Int}(h:D.words[j]? =some x):DB.wd (D.words.map U32.mk) j=x:=by
 unfold DB.wd
 rw [sj,List.getD_eq_getElem?_getD,h];rfl
theorem DB.Lw(D:DB):DB.wd (D.words.map U32.mk) 0=D.ax:=DB.FG rfl
theorem DB.Lv {D:DB} {p:Nat}(hp:p<D.S):DB.wd (D.words.map U32.mk) (1+2*p)=(D.ent p).w0∧DB.wd (D.words.map U32.mk) (2+2*p)=(D.ent p).w1:=by
 have h1:=l9 (fun p=>(D.ent p).w0) (fun p=>(D.ent p).w1) D.S (2*p) (by omega)
 have h2:=l9 (fun p=>(D.ent p).w0) (fun p=>(D.ent p).w1) D.S (2*p+1) (by omega)
 rw [if_pos (by omega),show 2*p / 2=p by omega]at h1
 rw [if_neg (by omega),show(2*p+1) / 2=p by omega]at h2
 refine⟨DB.FG ?_,DB.FG ?_⟩
 ·rw [D.words_eq,show 1+2*p=2*p+1 by omega,List.getElem?_cons_succ];exact h1
 ·rw [D.words_eq,show 2+2*p=(2*p+1)+1 by omega,List.getElem?_cons_succ];exact h2
theorem DB.DI {D:DB}(h:D.Ok):dP (D.words.map U32.mk):=by
 intro x hx
 obtain⟨y,hy,rfl⟩:=List.mem_map.1 hx
 have hb:=h.ax
 simp only [DB.words,List.mem_cons,List.mem_flatMap,List.mem_range,List.not_mem_nil,or_false]at hy
 show 0≤y∧y<4294967296
 rcases hy with rfl | ⟨p,hp,rfl | rfl⟩
 ·omega
 ·exact Ent.xE (h.ent p hp).1
 ·exact Ent.xD (h.ent p hp).1
theorem DB.A8 {D:DB}(h:D.Ok):DB.aw D.mem (D.words.map U32.mk)=0∧(DB.load D.mem (D.words.map U32.mk)).ax=D.ax∧∀p,p<D.S→(DB.load D.mem (D.words.map U32.mk)).ent p=D.ent p:=by
 have he:∀p,p<D.S→Ent.dec (DB.wd (D.words.map U32.mk) (1+2*p)) (DB.wd (D.words.map U32.mk) (2+2*p))=D.ent p∧Ent.eZ (DB.wd (D.words.map U32.mk) (1+2*p)) (DB.wd (D.words.map U32.mk) (2+2*p))=0:=fun p hp=>by
  rw [(DB.Lv hp).1,(DB.Lv hp).2]
  exact Ent.wB (h.ent p hp).1
 have hb:=h.ax
 refine⟨DB.qu (by rw [List.length_map,DB.ei];rfl) (by rw [DB.Lw];omega) fun p hp=>?_,DB.Lw D,fun p hp=>(he p hp).1⟩
 unfold DB.kV
 rw [(he p hp).1,(he p hp).2]
 have:=(h.ent p hp).2
 simp only [Bool.and_eq_true,decide_eq_true_eq]
 exact⟨rfl,this⟩
theorem PdP.congr {w:World} {g a mg:Nat} {E F:Pd}(h:PdP w g a mg E)(hn:F.n=E.n)(hb:F.ax=E.ax)(he:∀p,p<E.n→F.ent p=E.ent p):PdP w g a mg F:=by
 refine⟨?_,?_,⟨fun p hp=>?_,by rw [hb];exact h.ok.ax,by rw [hn];exact h.ok.eU⟩,h.ne⟩
 ·have:=h.hd;rw [← hn,← hb]at this;exact this
 ·obtain⟨T,cs,h1,h2,h3⟩:=h.ws
  refine⟨T,cs,h1,by rw [hn];exact h2,fun p hp=>?_⟩
  rw [hn]at hp
  rw [he p hp];exact h3 p hp
 ·rw [hn]at hp
  rw [he p hp,hn];exact h.ok.ent p hp
end Go.Proofs.YtinhphjfnedhgaaGreatDoor
namespace Go.Proofs.YtinhphjfnedhgaaGreatDoor
open Go.Proofs.Tryz (prog)
open Go Go.RowKit V Go.ChangeShapes Go.WideShapes Go.ChangeAt
open Go.IntKind (i64 u32 u64)
open Enc (enc)
section
theorem wf_u32 {x:Int}(h:(Lit.int .u32 x).wf=true):0≤x∧x<4294967296:=by
 have:0≤x∧x≤4294967295:=by simpa [Lit.wf,IntKind.min,IntKind.max,IntKind.signed,IntKind.bits]using h
 omega
section
variable {P:Program} {W:World} {H:Type} {enc:TypeId×Value→H}
theorem Gh {t:TypeId} {f0 f1:Field} {v:Value} {d:DataW H} {p:List MemPlace}(ht:P.underlying t=some (.struct #[f0,f1]))(o:f0.offset=0∧f1.offset=1)(c:P.cellsOf f0.type=1∧P.cellsOf f1.type=1)(u0:P.underlying f0.type=some (.int .i64))(u1:P.underlying f1.type=some (.int .i64))(ct:P.cellsOf t=2)
 {base:Nat}(hv:Value.okWide P W .any base t v)(h:DataW.Trod enc P W 0 (fun _=>true) true t v d p):∃a b:Int,v= .agg #[.int .i64 a,.int .i64 b]:=by
 obtain⟨⟨cs⟩,rfl,hc⟩:=okWide_struct ht hv
 obtain⟨fuel,hf⟩:=h
 obtain⟨y0,y1,n,_,_,g0,g1⟩:=trod_struct2 ht hf
 rw [ct]at hc
 match cs,hc with
 | [v0,v1],_=>
  obtain⟨o0,o1⟩:=o
  obtain⟨c0,c1⟩:=c
  rw [o0,c0]at g0
  rw [o1,c1]at g1
  obtain⟨n0,e0,_,_⟩:=DataW.trod_int u0 g0
  obtain⟨n1,e1,_,_⟩:=DataW.trod_int u1 g1
  simp [Value.cells]at e0 e1
  subst e0 e1
  exact⟨n0,n1,rfl⟩
theorem Gi {t e:TypeId} {f0 f1 f2 f3 f4:Field} {v:Value} {d:DataW H} {p:List MemPlace}(ht:P.underlying t=some (.slice e))(he:P.underlying e=some (.struct #[f0,f1,f2,f3,f4]))
 (ce:P.cellsOf e=5)(o:f0.offset=0∧f1.offset=1∧f2.offset=2∧f3.offset=3∧f4.offset=4)(c:P.cellsOf f0.type=1∧P.cellsOf f1.type=1∧P.cellsOf f2.type=1∧P.cellsOf f3.type=1∧P.cellsOf f4.type=1)
 (u0:P.underlying f0.type=some (.int .i64))(u1:P.underlying f1.type=some (.int .u32))(u2:P.underlying f2.type=some (.int .u32))(u3:P.underlying f3.type=some (.int .u32))(u4:P.underlying f4.type=some (.int .u32))
 {base:Nat}(hv:Value.okWide P W .any base t v)(h:DataW.Trod enc P W 0 (fun _=>true) true t v d p):
 ∃(A:Option Addr)(n c:Nat)(l:List LOp),v= .slice A n c∧Rd W (fun k=>0<n∧∃p,A=some p∧k=p.block) A n c l∧(∀x∈l,x.Ok)∧(∀p,A=some p→0<n→∃x:Int,W.cell? (p.add 0)=some (.int .i64 x))∧
  (c=0∨∃el sp,d= .slice el sp∧el.length+sp.length=c):=by
 obtain⟨a0,len,cap,rfl⟩:=okWide_slice ht hv
 obtain⟨fuel,hf⟩:=h
 rcases Go.Deep.open_slice ht hf with⟨Of,hx⟩ | ⟨a,len',cap',m,n,D,Pl,Of,_,hl,hm,hmm,hx,Ny⟩
 ·simp [Value.cells]at Of
  obtain⟨rfl,rfl,rfl⟩:=Of
  exact⟨none,0,0,[],rfl,⟨rfl,Nat.le_refl _,fun k hk=>by omega,fun i x hi=>by simp at hi⟩,by simp,fun p hp=>by simp at hp,.inl rfl⟩
 ·simp [Value.cells]at Of
  obtain⟨rfl,rfl,rfl⟩:=Of
  simp only [if_true]at hmm
  subst hmm
  simp only [Prod.mk.injEq]at hx
  have each:∀i,i<m→∃x:LOp,(∀j,j<5→W.cell? ((a.add (i*5)).add j)=(V.Enc.enc x:List Value)[j]?)∧x.Ok:=by
   intro i hi
   obtain⟨cs',h1,h2⟩:=Ny i hi
   rw [ce]at h1
   obtain⟨_,hlen,hc⟩:=World.cells?_some h1
   obtain⟨xs,k,hk,RL,_,ZQ,hf⟩:=DataW.trod_struct he h2
   obtain⟨o0,o1,o2,o3,o4⟩:=o
   obtain⟨c0,c1,c2,c3,c4⟩:=c
   match xs,ZQ,cs',hlen with
   | [y0,y1,y2,y3,y4],_,[v0,v1,v2,v3,v4],_=>
    have g0:=hf 0 f0 rfl
    have g1:=hf 1 f1 rfl
    have g2:=hf 2 f2 rfl
    have g3:=hf 3 f3 rfl
    have g4:=hf 4 f4 rfl
    simp [o0,o1,o2,o3,o4,c0,c1,c2,c3,c4]at g0 g1 g2 g3 g4
    obtain⟨n0,e0,_,_⟩:=DataW.trod_int u0 g0
    obtain⟨n1,e1,_,w1⟩:=DataW.trod_int u1 g1
    obtain⟨n2,e2,_,w2⟩:=DataW.trod_int u2 g2
    obtain⟨n3,e3,_,w3⟩:=DataW.trod_int u3 g3
    obtain⟨n4,e4,_,w4⟩:=DataW.trod_int u4 g4
    simp at e0 e1 e2 e3 e4
    subst e0 e1 e2 e3 e4
    exact⟨⟨n0,n1,n2,n3,n4⟩,fun j hj=>hc j hj,wf_u32 w1,wf_u32 w2,wf_u32 w3,wf_u32 w4⟩
  have:Inhabited LOp:=⟨⟨0,0,0,0,0⟩⟩
  obtain⟨q,hq⟩:=Go.Deep.choose_lt each
  have hb:∀i,i<m→a.block<W.heap.size:=fun i hi=>by
   have h1:=(hq i hi).1 0 (by omega)
   have h2:W.cell? ((a.add (i*5)).add 0)=some (.int .i64 (q i).k):=h1
   have:=World.block_lt_of_cell? W _ h2
   rwa [V.block_add,V.block_add]at this
  refine⟨some a,len,m,(List.range len).map q,rfl,⟨by simp,hl,fun k ⟨h1,p,hp,hk⟩=>?_,fun j x hj=>?_⟩,fun x hx=>?_,fun p hp h0=>?_,.inr ⟨_,_,hx.1,by simp;omega⟩⟩
  ·injection hp with hp
   subst hp;subst hk
   exact hb 0 (by omega)
  ·have R5:j<len:=by
    rcases Nat.lt_or_ge j len with h | h
    ·exact h
    ·rw [List.getElem?_eq_none (by simpa using h)]at hj;cases hj
   rw [List.getElem?_map,List.getElem?_range R5]at hj
   injection hj with hj
   subst hj
   exact⟨a,rfl,⟨by omega,a,rfl,rfl⟩,fun i hi=>(hq j (by omega)).1 i hi⟩
  ·obtain⟨i,hi,rfl⟩:=List.mem_map.1 hx
   have:=List.mem_range.1 hi
   exact(hq i (by omega)).2
  ·injection hp with hp
   subst hp
   have h1:=(hq 0 (by omega)).1 0 (by omega)
   rw [Nat.zero_mul]at h1
   have e:(a.add 0).add 0=a.add 0:=by rw [add_add]
   rw [e]at h1
   exact⟨_,h1⟩
theorem D7 {n:Nat} {e:TypeId} {k:IntKind} {t:TypeId} {fuel base:Nat} {sp:Nat→Bool} {held:Bool} {cs:List Value} {l:List Int} {q:List MemPlace}(ht:P.underlying t=some (.array n e))(ue:P.underlying e=some (.int k))(ce:P.cellsOf e=1)
 (h:DataW.trod enc P W base sp held fuel t cs=some (.agg (l.map fun x=>.lit (.int k x)),q))(hct:P.cellsOf t=n):cs=l.map (Value.int k):=by
 obtain⟨xs,m,rfl,hx,hl,ZQ,hel⟩:=DataW.trod_array ht h
 have hc:cs.length=n:=hl.trans hct
 simp only [Prod.mk.injEq,DataW.agg.injEq]at hx
 have hn:l.length=n:=by have:=congrArg List.length hx.1;simpa [ZQ]using this
 refine List.ext_getElem? fun i=>?_
 by_cases hi:i<n
 ·have h1:=hel i hi
  rw [ce,Nat.mul_one]at h1
  have Ws:i<cs.length:=by omega
  rw [show(cs.drop i).take 1= [cs[i]]from by rw [List.drop_eq_getElem_cons Ws];rfl]at h1
  have hi3:i<xs.length:=by omega
  rw [List.getElem?_eq_getElem hi3]at h1
  obtain⟨x,e1,e2,_⟩:=DataW.trod_int ue h1
  have e3:=congrArg (fun z=>z[i]?) hx.1
  simp only [List.getElem?_map,List.getElem?_eq_getElem hi3,Option.map_some,e2]at e3
  have hi4:i<l.length:=by omega
  simp only [List.getElem?_eq_getElem hi4,Option.map_some,Option.some.injEq]at e3
  injection e3 with e3
  injection e3 with _ e3
  injection e1 with e1 _
  rw [List.getElem?_eq_getElem Ws,e1,List.getElem?_map,List.getElem?_eq_getElem hi4,Option.map_some,e3]
 ·rw [List.getElem?_eq_none (by omega),List.getElem?_eq_none (by simp;omega)]
theorem Gg {n:String} {g:Nat} {cs:Array Value} {ps:List MemPlace}(hg:P.globalNamed n=some g)(hv:W.var? P n=some cs)(h0:0<cs.size)(PF:MemPlace.row ⟨g,0,none⟩ cs.size ⊆ ps)(hc:∀b off,MemPlace.cell b off∈ps→(∃c t,W.heap[b]? =some (.cells c t (0,0)))∧∀u v,W.cell? ⟨b,off,none⟩=some (.iface u v)→Value.okWide P W .any 0 u v):∃T,Blk W g cs T:=by
 have h1:MemPlace.cell g 0∈ps:=PF (by unfold MemPlace.row;exact List.mem_map.2 ⟨0,List.mem_range.2 h0,rfl⟩)
 obtain⟨⟨c,t,h2⟩,_⟩:=hc _ _ h1
 unfold World.var? at hv
 rw [hg]at hv
 simp only [Option.bind_some,h2,Option.some.injEq]at hv
 subst hv
 exact⟨t,h2⟩
theorem cell_of {g:Nat} {cs:Array Value} {T:TypeId} {p:Addr} {v:Value}(hb:Blk W g cs T)(hg:p.block=g)(h:W.cell? p=some v):v∈cs.toList:=by
 subst hg
 unfold Blk at hb
 unfold World.cell? at h
 rw [hb]at h
 simp only at h
 split at h
 ·cases h
 ·rw [← Array.getElem?_toList]at h
  exact List.mem_of_getElem? h
end
end
end Go.Proofs.YtinhphjfnedhgaaGreatDoor
namespace Go.Proofs.YtinhphjfnedhgaaGreatDoor
open Go.Proofs.Tryz (prog)
open Go Go.RowKit V
open Go.IntKind (i64 u32 u64)
section
set_option maxRecDepth 100000
set_option maxHeartbeats 1000000
attribute [local irreducible] Vc2 VcD
attribute [local grind=] Pd.eh Pd.eV Pd.km Pd.oe Pd.cD Pd.iH Pd.kj Pd.gV Pd.nU DB.cp
attribute [local grind .] Pd.Ok.ent
attribute [local grind→] Pd.Ok.eU
section
attribute [local grind=] DB.take DB.bY DB.cl DB.more DB.Gn DB.turns
end
section
attribute [local grind=] DB.setState DB.aT DB.J5
end
section
attribute [local grind=] DB.dB DB.cR DB.aX DB.more Pd.lv Mem.qb DB.vX Ent.wq
end
section
attribute [local grind=] DB.aJ DB.aQ DB.aZ Pd.AS Pd.Gm Pd.uQ Pd.Ip Mem.aV aA dI Ent.ok Pd.AL DB.mem_set DB.D9 DB.cE
attribute [local grind→] Pd.Ok.ax
end
def own(D:DB)(s:Int):List I64:=if D.cp s then D.KL s D.S else []
end
end Go.Proofs.YtinhphjfnedhgaaGreatDoor
namespace Go.Proofs.YtinhphjfnedhgaaGreatDoor
open Go.Proofs.Tryz (prog)
open Go Go.RowKit V
open Go.IntKind (i64 u32 u64)
section
set_option maxRecDepth 10000
set_option maxHeartbeats 1000000
theorem MH {w:World}:
 Calls prog 125 #[] w fun e w'=>∃v,e= .returned v∧∃g:Nat,∃L:DgL,v= .pointer (some (Addr.mk g 0 none))∧mA w' g L Dg.new∧(∀k,L.X g k→w.heap.size≤k)∧Pu w w':=by
 refine BH ?_
 have hp:=Ch.refl (fun _=>False) w
 refine Calls.mono (F0) ?_
 rintro e wv ⟨_,rfl,rfl,Nj⟩
 refine⟨_,_,_,_,_,_,_,_,rfl,?_⟩
 refine mkd fun gv M5 Nd=>?_
 have M3:=Nd.blk
 have hp:=Ch.made (Ch.pu hp Nj) Nd
 exact⟨gv,⟨fun _=>False,none,0,0⟩,rfl,⟨⟨_,M3⟩,Rd.nil,fun h=>h⟩,by have:=Nd.num;have:=Nj.size;rintro k (rfl | hk);omega;exact hk.elim,hp⟩
theorem MJ {g:Nat} {L:DgL} {D:Dg} {Z:Nat→Prop} {wordsA:Option Addr} {wordsN:Nat} {wordsC:Nat} {l:List U32} {K:List Int} {w:World}(h:mA w g L D)(hz:Rd w Z wordsA wordsN wordsC l)(hk:kX w 0 K)(ok:D.Ok)(hlen:l.length≤1099511627776)(hzg:¬Z g)(Wu:¬g=0):
 Calls prog 135 #[(.pointer (some (Addr.mk g 0 none))),(.slice wordsA wordsN wordsC)] w fun e w'=>∃v,e= .returned v∧∃L':DgL,v= .tuple #[]∧mA w' g L' (D.add K l)∧(∀k,(L'.X g) k→(L.X g) k∨w.heap.size≤k)∧Ch (L.X g) w w':=by
 refine BK (some (Addr.mk g 0 none)) _ _ _ ?_
 have hn:=ok.n
 have hz0:=hz
 have hg9:=h.lt g (.inl rfl)
 have hp:=Ch.refl (L.X g) w
 have N3:=h.lt
 have ZP:=hz.lt
 have ON:=hk.lt
 obtain⟨⟨hT,hb⟩,hr,Q3⟩:=h
 have RK:=hr.lt
 refine ah _ rfl ⟨_,hb.at rfl,?_⟩
 refine aq (fun c1=>?_) (fun c1=>?_)
 ·exact⟨L,rfl,by have hc:(l.length:Int)>36028797018963968 - D.n:=(by have:=hz.len;rw [aA (by omega)]at c1;omega);rw [Dg.add,if_pos hc];exact⟨⟨_,hb⟩,hr,Q3⟩,fun k hk=>.inl hk,hp⟩
 ·have hzl:=hz.len
  have Ri:=hr.len
  have hn:=ok.n
  have Sb:=ok.len
  have Uk:=hr.cap
  rw [aA (by omega)]at c1
  refine ah _ rfl ⟨_,hb.at rfl,ah _ rfl (bZ hb (by simp) fun wv RY=>?_)⟩
  have hb:Blk wv g #[(.int .u32 D.st.a),(.int .u32 D.st.b),(.int .u32 D.st.c),(.int .u32 D.st.d),(.int .u32 D.st.e),(.int .u32 D.st.f),(.int .u32 D.st.g),(.int .u32 D.st.h),(.int .i64 (i64.wrap (D.n+((wordsN:Nat):Int)))),(.slice L.a L.n L.c)] _:=RY.blk.cast (by kernel_rfl)
  refine⟨bXU [] [3,7,12] wv.drew (fun _=>False),?_⟩
  have hb:=Blk.drew hb
  refine ah _ rfl ⟨.inl (by decide),_,_,_,hb.at rfl,ah _ rfl ⟨.inl (by decide),_,_,_,hb.at rfl,ah _ rfl ⟨.inl (by decide),_,_,_,hb.at rfl,⟨by omega,⟨by omega,?_⟩⟩⟩⟩⟩
  have hr:=(hr.ch RY.ch (fun k hx e=>(Q3) (e▸hx))).pu (Pu.aU _)
  rintro SG V8 RU V6 SF V7
  have Vo:=Rd.all hr V8 V6 V7 (by omega) (by omega)
  have hz:=(hz.ch RY.ch (fun k hx e=>(hzg) (e▸hx))).pu (Pu.aU _)
  have hp:=Ch.drew (Ch.call hp RY.ch (by exact fun k hk=>.inl (.inl hk)))
  refine Ld Cz Vo (by omega) hz (by omega) (by omega) fun A_wv1 c_wv1 M5 ZO Na=>?_
  refine bXU.sF Na (by decide) ?_
  have hp:=Ch.pu hp Na
  have hz:=hz.pu Na
  have hk:=((hk.ch RY.ch (fun k hx e=>(Wu) (e▸hx))).pu (Pu.aU _)).pu Na
  have hb:=Pu.blk Na hb
  refine⟨fun mz leftA leftN leftC W=>∃Z_ll:Nat→Prop,∃ll:List U32,∃S:S8,∃n2:Int,mz=ll.length∧(cw K S ll=cw K D.st (D.waits++l))∧(¬Z_ll g)∧(ll.length≤1099511627800)∧(n2=D.n+l.length)∧Rd W Z_ll leftA leftN leftC ll∧Ch (L.X g) w W∧Rd W Z wordsA wordsN wordsC l∧kX W 0 K∧Blk W g #[(.int .u32 S.a),(.int .u32 S.b),(.int .u32 S.c),(.int .u32 S.d),(.int .u32 S.e),(.int .u32 S.f),(.int .u32 S.g),(.int .u32 S.h),(.int .i64 n2),(.slice L.a L.n L.c)] hT,⟨_,(fun k=>(L.Y k∨wv.drew.heap.size≤k)∧k<M5.heap.size),(D.waits++l),D.st,_,rfl,rfl,(by rintro⟨h | h,_⟩;exact Q3 h;exact absurd (Nat.lt_of_lt_of_le hg9 (Nat.le_trans RY.kept.size h)) (Nat.lt_irrefl _)),(by rw [List.length_append];omega),(by rw [aA (by omega)];omega),ZO,hp,hz,hk,hb⟩,?_⟩
  rintro _ _ leftA leftN leftC M8 ⟨Z_ll,ll,S,n2,rfl,hI,hlz,hlb,Se,OC,hp,hz,hk,hb⟩
  refine aq (fun c2=>?_) (fun c2=>?_)
  ·refine⟨bXU [] [4,7] M8.drew (fun _=>False),?_⟩
   have hb:=Blk.drew hb
   have OC:=OC.pu (Pu.aU _)
   refine ah _ rfl ⟨.inl (by decide),_,_,_,_,_,_,_,_,⟨hb.at2 rfl,hb.at2 rfl,hb.at2 rfl,hb.at2 rfl,hb.at2 rfl,hb.at2 rfl,hb.at2 rfl,hb.at2 rfl⟩,⟨by omega,?_⟩⟩
   obtain⟨p3,ha3,hz3,P6⟩:=OC.u32 (by omega)
   refine ah p3 ha3 ⟨.inl (by decide),_,_,_,_,_,_,_,_,_,_,_,_,_,_,_,_,⟨P6 0 (by omega),P6 1 (by omega),P6 2 (by omega),P6 3 (by omega),P6 4 (by omega),P6 5 (by omega),P6 6 (by omega),P6 7 (by omega),P6 8 (by omega),P6 9 (by omega),P6 10 (by omega),P6 11 (by omega),P6 12 (by omega),P6 13 (by omega),P6 14 (by omega),P6 15 (by omega)⟩,?_⟩
   have hk:=hk.pu (Pu.aU _)
   refine Calls.mono (F1 hk _ _ _ _ _ _ _ _ _ _ _ _ _ _ _ _ _ _ _ _ _ _ _ _) ?_
   rintro e Nb ⟨_,rfl,rfl,Ns⟩
   refine⟨_,_,_,_,_,_,_,_,rfl,?_⟩
   refine bXU.sF Ns (by decide) ?_
   have hb:=Pu.blk Ns hb
   refine ah _ rfl (bZ hb (by simp) fun Nf Nl=>?_)
   have hb:Blk Nf g #[(.int .u32 ((jd K (S8.mk S.a S.b S.c S.d S.e S.f S.g S.h) [((ll.getD 0 ⟨0⟩).v),((ll.getD 1 ⟨0⟩).v),((ll.getD 2 ⟨0⟩).v),((ll.getD 3 ⟨0⟩).v),((ll.getD 4 ⟨0⟩).v),((ll.getD 5 ⟨0⟩).v),((ll.getD 6 ⟨0⟩).v),((ll.getD 7 ⟨0⟩).v),((ll.getD 8 ⟨0⟩).v),((ll.getD 9 ⟨0⟩).v),((ll.getD 10 ⟨0⟩).v),((ll.getD 11 ⟨0⟩).v),((ll.getD 12 ⟨0⟩).v),((ll.getD 13 ⟨0⟩).v),((ll.getD 14 ⟨0⟩).v),((ll.getD 15 ⟨0⟩).v)]).a)),(.int .u32 ((jd K (S8.mk S.a S.b S.c S.d S.e S.f S.g S.h) [((ll.getD 0 ⟨0⟩).v),((ll.getD 1 ⟨0⟩).v),((ll.getD 2 ⟨0⟩).v),((ll.getD 3 ⟨0⟩).v),((ll.getD 4 ⟨0⟩).v),((ll.getD 5 ⟨0⟩).v),((ll.getD 6 ⟨0⟩).v),((ll.getD 7 ⟨0⟩).v),((ll.getD 8 ⟨0⟩).v),((ll.getD 9 ⟨0⟩).v),((ll.getD 10 ⟨0⟩).v),((ll.getD 11 ⟨0⟩).v),((ll.getD 12 ⟨0⟩).v),((ll.getD 13 ⟨0⟩).v),((ll.getD 14 ⟨0⟩).v),((ll.getD 15 ⟨0⟩).v)]).b)),(.int .u32 ((jd K (S8.mk S.a S.b S.c S.d S.e S.f S.g S.h) [((ll.getD 0 ⟨0⟩).v),((ll.getD 1 ⟨0⟩).v),((ll.getD 2 ⟨0⟩).v),((ll.getD 3 ⟨0⟩).v),((ll.getD 4 ⟨0⟩).v),((ll.getD 5 ⟨0⟩).v),((ll.getD 6 ⟨0⟩).v),((ll.getD 7 ⟨0⟩).v),((ll.getD 8 ⟨0⟩).v),((ll.getD 9 ⟨0⟩).v),((ll.getD 10 ⟨0⟩).v),((ll.getD 11 ⟨0⟩).v),((ll.getD 12 ⟨0⟩).v),((ll.getD 13 ⟨0⟩).v),((ll.getD 14 ⟨0⟩).v),((ll.getD 15 ⟨0⟩).v)]).c)),(.int .u32 ((jd K (S8.mk S.a S.b S.c S.d S.e S.f S.g S.h) [((ll.getD 0 ⟨0⟩).v),((ll.getD 1 ⟨0⟩).v),((ll.getD 2 ⟨0⟩).v),((ll.getD 3 ⟨0⟩).v),((ll.getD 4 ⟨0⟩).v),((ll.getD 5 ⟨0⟩).v),((ll.getD 6 ⟨0⟩).v),((ll.getD 7 ⟨0⟩).v),((ll.getD 8 ⟨0⟩).v),((ll.getD 9 ⟨0⟩).v),((ll.getD 10 ⟨0⟩).v),((ll.getD 11 ⟨0⟩).v),((ll.getD 12 ⟨0⟩).v),((ll.getD 13 ⟨0⟩).v),((ll.getD 14 ⟨0⟩).v),((ll.getD 15 ⟨0⟩).v)]).d)),(.int .u32 ((jd K (S8.mk S.a S.b S.c S.d S.e S.f S.g S.h) [((ll.getD 0 ⟨0⟩).v),((ll.getD 1 ⟨0⟩).v),((ll.getD 2 ⟨0⟩).v),((ll.getD 3 ⟨0⟩).v),((ll.getD 4 ⟨0⟩).v),((ll.getD 5 ⟨0⟩).v),((ll.getD 6 ⟨0⟩).v),((ll.getD 7 ⟨0⟩).v),((ll.getD 8 ⟨0⟩).v),((ll.getD 9 ⟨0⟩).v),((ll.getD 10 ⟨0⟩).v),((ll.getD 11 ⟨0⟩).v),((ll.getD 12 ⟨0⟩).v),((ll.getD 13 ⟨0⟩).v),((ll.getD 14 ⟨0⟩).v),((ll.getD 15 ⟨0⟩).v)]).e)),(.int .u32 ((jd K (S8.mk S.a S.b S.c S.d S.e S.f S.g S.h) [((ll.getD 0 ⟨0⟩).v),((ll.getD 1 ⟨0⟩).v),((ll.getD 2 ⟨0⟩).v),((ll.getD 3 ⟨0⟩).v),((ll.getD 4 ⟨0⟩).v),((ll.getD 5 ⟨0⟩).v),((ll.getD 6 ⟨0⟩).v),((ll.getD 7 ⟨0⟩).v),((ll.getD 8 ⟨0⟩).v),((ll.getD 9 ⟨0⟩).v),((ll.getD 10 ⟨0⟩).v),((ll.getD 11 ⟨0⟩).v),((ll.getD 12 ⟨0⟩).v),((ll.getD 13 ⟨0⟩).v),((ll.getD 14 ⟨0⟩).v),((ll.getD 15 ⟨0⟩).v)]).f)),(.int .u32 ((jd K (S8.mk S.a S.b S.c S.d S.e S.f S.g S.h) [((ll.getD 0 ⟨0⟩).v),((ll.getD 1 ⟨0⟩).v),((ll.getD 2 ⟨0⟩).v),((ll.getD 3 ⟨0⟩).v),((ll.getD 4 ⟨0⟩).v),((ll.getD 5 ⟨0⟩).v),((ll.getD 6 ⟨0⟩).v),((ll.getD 7 ⟨0⟩).v),((ll.getD 8 ⟨0⟩).v),((ll.getD 9 ⟨0⟩).v),((ll.getD 10 ⟨0⟩).v),((ll.getD 11 ⟨0⟩).v),((ll.getD 12 ⟨0⟩).v),((ll.getD 13 ⟨0⟩).v),((ll.getD 14 ⟨0⟩).v),((ll.getD 15 ⟨0⟩).v)]).g)),(.int .u32 ((jd K (S8.mk S.a S.b S.c S.d S.e S.f S.g S.h) [((ll.getD 0 ⟨0⟩).v),((ll.getD 1 ⟨0⟩).v),((ll.getD 2 ⟨0⟩).v),((ll.getD 3 ⟨0⟩).v),((ll.getD 4 ⟨0⟩).v),((ll.getD 5 ⟨0⟩).v),((ll.getD 6 ⟨0⟩).v),((ll.getD 7 ⟨0⟩).v),((ll.getD 8 ⟨0⟩).v),((ll.getD 9 ⟨0⟩).v),((ll.getD 10 ⟨0⟩).v),((ll.getD 11 ⟨0⟩).v),((ll.getD 12 ⟨0⟩).v),((ll.getD 13 ⟨0⟩).v),((ll.getD 14 ⟨0⟩).v),((ll.getD 15 ⟨0⟩).v)]).h)),(.int .i64 n2),(.slice L.a L.n L.c)] _:=Nl.blk.cast (by kernel_rfl)
   refine bXU.grow Nl.ch ?_
   refine⟨by omega,?_⟩
   have OC:=(OC.pu Ns).ch Nl.ch (fun k hx e=>(hlz) (e▸hx))
   rintro RT V5 RQ V3 RR V4
   have Vn:=Rd.from_ (lo:=16) OC V5 V3 V4 (by omega) (by have:=OC.cap;omega)
   have hp:=Ch.call (Ch.pu (Ch.drew hp) Ns) Nl.ch (by exact fun k hk=>.inl (.inl hk))
   have hz:=((hz.pu (Pu.aU _)).pu Ns).ch Nl.ch (fun k hx e=>(hzg) (e▸hx))
   have hk:=(hk.pu Ns).ch Nl.ch (fun k hx e=>(Wu) (e▸hx))
   exact⟨_,by rw [List.length_drop];have:=OC.len;omega,Z_ll,(ll.drop 16),(jd K S ((ll.take 16).map U32.v)),n2,rfl,(by rw [← hI,← eO (by have:=OC.len;omega)]),hlz,(by rw [List.length_drop];omega),Se,Vn,hp,hz,hk,hb.cast (Mt (congrArg (Value.int .u32) (by rw [j9 (by have:=OC.len;omega)])) (congrArg (Value.int .u32) (by rw [j9 (by have:=OC.len;omega)])) (congrArg (Value.int .u32) (by rw [j9 (by have:=OC.len;omega)])) (congrArg (Value.int .u32) (by rw [j9 (by have:=OC.len;omega)])) (congrArg (Value.int .u32) (by rw [j9 (by have:=OC.len;omega)])) (congrArg (Value.int .u32) (by rw [j9 (by have:=OC.len;omega)])) (congrArg (Value.int .u32) (by rw [j9 (by have:=OC.len;omega)])) (congrArg (Value.int .u32) (by rw [j9 (by have:=OC.len;omega)])) (rfl) (rfl))⟩
  ·have Vv:=hp.size
   have hog:¬M8.heap.size≤g:=by omega
   refine rq Cz OC (by omega) (by omega) fun A_wv3 Ps Nb OE Ns=>?_
   have hb:=Pu.blk Ns hb
   refine ah _ rfl (bZ hb (by simp) fun Nf Nl=>?_)
   have hb:Blk Nf g #[(.int .u32 S.a),(.int .u32 S.b),(.int .u32 S.c),(.int .u32 S.d),(.int .u32 S.e),(.int .u32 S.f),(.int .u32 S.g),(.int .u32 S.h),(.int .i64 n2),(.slice A_wv3 leftN Ps)] _:=Nl.blk.cast (by kernel_rfl)
   have OE:=OE.ch Nl.ch (fun k hx e=>hog (e▸hx.1))
   have hp:=Ch.call (Ch.pu hp Ns) Nl.ch (by exact fun k hk=>.inl (.inl hk))
   exact⟨⟨fun k=>M8.heap.size≤k∧k<Nf.heap.size,A_wv3,leftN,Ps⟩,rfl,by have hn:=ok.n;have hc:¬(l.length:Int)>36028797018963968 - D.n:=(by have:=hz0.len;omega);have ha:cw K D.st (D.waits++l)=(S,ll):=(by rw [← hI,dS (by have:=OC.len;omega)]);rw [Dg.add,if_neg hc,ha];exact⟨⟨_,Blk.cast hb (by rw [← Se])⟩,(OE).KE (fun k hk=>⟨hk.1.1,hk.2⟩) (fun k hk=>hk.2),fun h=>absurd h.1 hog⟩,fun k hk=>hk.elim (fun e=>.inl (.inl e)) (fun h=>.inr (Nat.le_trans Vv h.1)),hp⟩
theorem LD {g:Nat} {L:DgL} {D:Dg} {w:World}(h:mA w g L D)(ok:D.Ok):
 Calls prog 126 #[(.pointer (some (Addr.mk g 0 none)))] w fun e w'=>∃v,e= .returned v∧v= .agg (bR D.save)∧Pu w w':=by
 refine zg (some (Addr.mk g 0 none)) ?_
 have ZT:=h.rd.len
 have Sb:=ok.len
 have hp:=Ch.refl (fun _=>False) w
 have N3:=h.lt
 obtain⟨⟨hT,hb⟩,hr,Q3⟩:=h
 have RK:=hr.lt
 refine mkd fun gv wv Nd=>?_
 have Ng:=Nd.lo hp
 have aaW:=Nd.ne hb
 have M3:Blk wv gv (bR (List.replicate 26 0)) _:=Nd.blk.cast (fH _ _)
 have hp:=Ch.made hp Nd
 have hb:=Made.old Nd hb
 refine mkd fun Nc M5 Nq=>?_
 have Ox:=Nq.lo hp
 have PW:=Nq.ne hb
 have Oo:=Nq.ne M3
 have M7:Blk M5 Nc (bR (List.replicate 26 0)) _:=Nq.blk.cast (fH _ _)
 refine⟨bXU [] [] M5.drew (fun _=>False),?_⟩
 refine⟨by omega,?_⟩
 rintro _ rfl _ rfl _ rfl
 refine ah _ rfl ?_
 rintro _ rfl _ rfl _ rfl
 have M7:=Blk.drew M7
 have hb:=Blk.drew (Made.old Nq hb)
 refine oC nY M7 (o:=0) rfl (by(simp;done)) (dw.pre (Z:=fun _=>True) (o:=0) (r:= [D.st.a,D.st.b,D.st.c,D.st.d,D.st.e,D.st.f,D.st.g,D.st.h]) hb trivial rfl (by(simp;done)) (by rfl) (by rfl)) (by(simp;done)) fun M8 NX=>?_
 have M7:=NX.blk
 refine bXU.sF NX.ch (by decide) ?_
 refine⟨bXU [] [3,10] M8.drew (fun _=>False),?_⟩
 have hb:=Blk.drew (Ch.blk NX.ch hb (PW))
 have M7:=Blk.drew M7
 refine ah _ rfl ⟨.inl (by decide),_,hb.at rfl,ah _ rfl ⟨.inl (by decide),_,hb.at rfl,⟨by decide,mR (i:=8) M7 (by(simp;done)) fun Nb Nh=>?_⟩⟩⟩
 have M7:=Nh.blk
 refine bXU.sF Nh.ch (by decide) ?_
 refine⟨by decide,mR (i:=9) M7 (by(simp;done)) fun Nf Nl=>?_⟩
 have M7:=Nl.blk
 refine bXU.grow Nl.ch ?_
 refine⟨bXU [] [4] Nf.drew (fun _=>False),?_⟩
 refine⟨by omega,?_⟩
 rintro _ rfl _ rfl _ rfl
 have hb:=Blk.drew (Ch.blk Nl.ch (Ch.blk Nh.ch hb (PW)) (PW))
 refine ah _ rfl ⟨.inl (by decide),_,_,_,hb.at rfl,?_⟩
 have M7:=Blk.drew M7
 have hr:=(((((((hr.pu Nd.pu).pu Nq.pu).pu (Pu.aU _)).ch NX.ch (fun k hx e=>(fun hx=>absurd (RK _ hx) (Nat.not_lt.2 Ox)) (e▸hx))).pu (Pu.aU _)).ch Nh.ch (fun k hx e=>(fun hx=>absurd (RK _ hx) (Nat.not_lt.2 Ox)) (e▸hx))).ch Nl.ch (fun k hx e=>(fun hx=>absurd (RK _ hx) (Nat.not_lt.2 Ox)) (e▸hx))).pu (Pu.aU _)
 refine oC nY M7 (o:=10) rfl (by(simp;done)) (hr).ints (by(simp;omega)) fun Np OM=>?_
 have M7:=OM.blk
 refine bXU.sF OM.ch (by decide) ?_
 have M3:=Ch.blk OM.ch (Blk.drew (Ch.blk Nl.ch (Ch.blk Nh.ch (Blk.drew (Ch.blk NX.ch (Blk.drew (Made.old Nq M3)) (Oo))) (Oo)) (Oo))) (Oo)
 refine⟨bR (jb (((jb (List.replicate 26 0) 0 ([D.st.a,D.st.b,D.st.c,D.st.d,D.st.e,D.st.f,D.st.g,D.st.h].take (min (8 - 0) ((Int.toNat 8) - 0)))).set 8 (u32.wrap ((u64.wrap D.n:Int).fdiv (2 ^ 32)))).set 9 (u32.wrap D.n)) 10 ((List.map U32.v D.waits).take (min L.n (26 - (Int.toNat 10))))),M7.vM (by(simp;done)),⟨by rw [eT];(simp;done),nZ,pw M3 (by(simp;done)) fun NK UL=>?_⟩⟩
 have M3:=UL.blk
 refine⟨bR (jb (((jb (List.replicate 26 0) 0 ([D.st.a,D.st.b,D.st.c,D.st.d,D.st.e,D.st.f,D.st.g,D.st.h].take (min (8 - 0) ((Int.toNat 8) - 0)))).set 8 (u32.wrap ((u64.wrap D.n:Int).fdiv (2 ^ 32)))).set 9 (u32.wrap D.n)) 10 ((List.map U32.v D.waits).take (min L.n (26 - (Int.toNat 10))))),M3.vM (by(simp;done)),?_⟩
 have hp:=Ch.call (Ch.call (Ch.drew (Ch.call (Ch.call (Ch.drew (Ch.call (Ch.drew (Ch.made hp Nq)) NX.ch (by exact fun k e=>.inr (e▸Ox)))) Nh.ch (by exact fun k e=>.inr (e▸Ox))) Nl.ch (by exact fun k e=>.inr (e▸Ox)))) OM.ch (by exact fun k e=>.inr (e▸Ox))) UL.ch (by exact fun k e=>.inr (e▸Ng))
 exact⟨congrArg (fun l=>Value.agg (bR l)) (by exact Dg.save_eq ok (Dg.Ku ok.n) (u32_eq _) ZT),hp⟩
theorem LF {Z:Nat→Prop} {wordsA:Option Addr} {wordsN:Nat} {wordsC:Nat} {l:List U32} {w:World}(hz:Rd w Z wordsA wordsN wordsC l)(hw:∀x∈l,0≤x.v∧x.v<4294967296):
 Calls prog 70 #[(.slice wordsA wordsN wordsC)] w fun e w'=>∃v,e= .returned v∧∃p:Option Addr,v= .tuple #[(.pointer p),(.int .i64 (Dg.aw l))]∧(Dg.aw l=0→∃g L,p=some (Addr.mk g 0 none)∧mA w' g L (Dg.load l)∧∀k,L.X g k→w.heap.size≤k)∧Pu w w':=by
 refine zi _ _ _ ?_
 have hl:=hz.len
 have Uk:=hz.cap
 have hp:=Ch.refl (fun _=>False) w
 have ZP:=hz.lt
 refine aN (fun c1=>?_) (fun c1=>?_)
 ·exact⟨none,congrArg Value.tuple (ub (rfl) (congrArg (Value.int .i64) (by rw [Dg.oo (by omega)]))),fun h=>absurd h (by rw [Dg.oo (by omega)];omega),hp⟩
 ·have P3:l.length=26:=by omega
  have hnO:=Dg.nOf_eq hw P3
  refine⟨by omega,?_⟩
  obtain⟨p2,ha2,Wh,Tu⟩:=hz.u32 (by omega)
  refine ah p2 ha2 ?_
  have hz:=hz.pu (Pu.aU _)
  refine⟨_,Tu 8 (by omega),⟨by omega,?_⟩⟩
  obtain⟨p3,ha3,hz3,P6⟩:=hz.u32 (by omega)
  refine ah p3 ha3 ⟨_,P6 9 (by omega),?_⟩
  rintro n e_n
  obtain rfl:n=Dg.nOf l:=e_n.trans (by exact hnO.1)
  refine⟨by omega,⟨by omega,?_⟩⟩
  rintro Pw Wb Pv V9 PS Wa
  have Vp:=Rd.cut (lo:=0) (hi:=(Int.toNat 8)) hz Wb V9 Wa (by omega) (by omega) (by omega)
  refine⟨by omega,?_⟩
  obtain⟨p4,ha4,hz4,U3⟩:=Vp.u32 (by omega)
  refine ah p4 ha4 ⟨_,_,_,_,_,_,_,_,⟨U3 0 (by omega),U3 1 (by omega),U3 2 (by omega),U3 3 (by omega),U3 4 (by omega),U3 5 (by omega),U3 6 (by omega),U3 7 (by omega)⟩,?_⟩
  have hp:=Ch.drew hp
  refine mkd fun gv wv Nd=>?_
  have Ng:=Nd.lo hp
  have M3:=Nd.blk
  refine⟨_,?_,fun _ Pg M5 h=>h⟩
  refine⟨bXU [9] [] wv.drew (fun _=>False),?_⟩
  refine aq (fun c5=>?_) (fun c5=>?_)
  ·refine dV ?_
   have hp:=Ch.drew (Ch.made hp Nd)
   exact⟨none,congrArg Value.tuple (ub (rfl) (congrArg (Value.int .i64) (by rw [Dg.gZ P3 (.inl c5)]))),fun h=>absurd h (by rw [Dg.gZ P3 (.inl c5)];omega),hp⟩
  ·refine aq (fun c6=>?_) (fun c6=>?_)
   ·have M3:=Blk.drew M3
    refine⟨.inr ⟨by decide,bX.ld M3 (fun h=>h) _⟩,_,_,_,_,_,_,_,_,⟨M3.at2 rfl,M3.at2 rfl,M3.at2 rfl,M3.at2 rfl,M3.at2 rfl,M3.at2 rfl,M3.at2 rfl,M3.at2 rfl⟩,?_⟩
    refine Calls.mono (F0) ?_
    rintro e M5 ⟨_,rfl,rfl,Na⟩
    refine⟨_,_,_,_,_,_,_,_,rfl,?_⟩
    refine bXU.eW Na (by decide) ?_
    refine dK (fun c7=>?_) (fun c7=>?_)
    ·have OT:Dg.ka l≠S8.first:=by intro h;simp [Dg.ka,S8.first]at h;simp [cv,eqL,nI,S8.first,h]at c7
     have hp:=Ch.pu (Ch.drew (Ch.made hp Nd)) Na
     exact⟨none,congrArg Value.tuple (ub (rfl) (congrArg (Value.int .i64) (by rw [Dg.gZ P3 (.inr ⟨c6,OT⟩)]))),fun h=>absurd h (by rw [Dg.gZ P3 (.inr ⟨c6,OT⟩)];omega),hp⟩
    ·have OT:Dg.ka l=S8.first:=by simp [cv,eqL,nI,S8.first]at c7;simp [Dg.ka,S8.first,c7]
     have hg:¬(Dg.nOf l>36028797018963968∨(Dg.nOf l<16∧Dg.ka l≠S8.first)):=by rintro(h | h);exact c5 h;exact h.2 OT
     rintro waits QL
     obtain rfl:waits=Dg.nOf l % 16:=QL.trans (by rw [Int.tmod_eq_emod_of_nonneg hnO.2.1,aA (by omega)])
     refine⟨by(simp only [IntKind.wrap_i64];omega),?_⟩
     have hz:=((hz.pu Nd.pu).pu (Pu.aU _)).pu Na
     rintro Qs RE O6 RC QS RD
     have Ow:=Rd.from_ (lo:=(Int.toNat (i64.wrap (10+(Dg.nOf l % 16))))) hz RE RC RD (by(rw [Dg.lo_eq];omega)) (by have:=hz.cap;omega)
     have hp:=Ch.pu (Ch.drew (Ch.made hp Nd)) Na
     have M3:=Pu.blk Na M3
     refine⟨fun mz P8 W=>mz=(O6 - P8).toNat∧(0≤P8∧P8≤O6)∧(∀(i:Nat)(x:U32),i<P8.toNat→(l.drop (10+(Dg.nOf l % 16).toNat))[i]? =some x→x.v=0)∧Ch (fun _=>False) w W∧Rd W Z wordsA wordsN wordsC l∧Blk W gv #[(.int .u32 ((((l.drop 0).take ((Int.toNat 8) - 0)).getD 0 ⟨0⟩).v)),(.int .u32 ((((l.drop 0).take ((Int.toNat 8) - 0)).getD 1 ⟨0⟩).v)),(.int .u32 ((((l.drop 0).take ((Int.toNat 8) - 0)).getD 2 ⟨0⟩).v)),(.int .u32 ((((l.drop 0).take ((Int.toNat 8) - 0)).getD 3 ⟨0⟩).v)),(.int .u32 ((((l.drop 0).take ((Int.toNat 8) - 0)).getD 4 ⟨0⟩).v)),(.int .u32 ((((l.drop 0).take ((Int.toNat 8) - 0)).getD 5 ⟨0⟩).v)),(.int .u32 ((((l.drop 0).take ((Int.toNat 8) - 0)).getD 6 ⟨0⟩).v)),(.int .u32 ((((l.drop 0).take ((Int.toNat 8) - 0)).getD 7 ⟨0⟩).v)),(.int .i64 (i64.wrap (Dg.nOf l))),(.slice none 0 0)] 228∧Rd W Z Qs O6 QS (l.drop (Int.toNat (i64.wrap (10+(Dg.nOf l % 16))))),⟨_,rfl,(by omega),(by intro i x h;omega),hp,hz,M3,Ow⟩,?_⟩
     rintro _ _ P8 M8 ⟨rfl,h0,hq,hp,hz,M3,Ow⟩
     refine aq (fun c8=>?_) (fun c8=>?_)
     ·obtain⟨p9,x9,ha9,Wi,Wg,hc9⟩:=Ow.ld (i:=P8) (by omega) (by omega)
      refine⟨by constructor<;>omega,ah p9 ha9 ⟨_,hc9 0 (by decide),?_⟩⟩
      refine aN (fun Uq=>?_) (fun Uq=>?_)
      ·exact⟨none,congrArg Value.tuple (ub (rfl) (congrArg (Value.int .i64) (by rw [Dg.lo_eq]at Wi;rw [Dg.fB P3 hg Wi Uq]))),fun h=>absurd h (by rw [Dg.fB P3 hg (Dg.lo_eq▸Wi) Uq];omega),hp⟩
      ·exact⟨_,by rw [IntKind.wrap_i64];omega,rfl,by rw [IntKind.wrap_i64];omega,by rw [aA (by omega)];intro i x hi hx;by_cases he:i=P8.toNat;(subst he;(rw [Dg.lo_eq]at Wi;rw [hx]at Wi;injection Wi with e;rw [e];simpa using Uq));exact hq i x (by omega) hx,hp,hz,M3,Ow⟩
     ·have Wg:=hp
      have hgw:gv<M8.heap.size:=M3.lt
      refine⟨by(simp only [IntKind.wrap_i64];omega),⟨by(simp only [IntKind.wrap_i64];omega),⟨by(simp only [IntKind.wrap_i64];omega),?_⟩⟩⟩
      rintro TQ RB QR Rz TP RA
      have Rr:=Rd.cut (lo:=10) (hi:=(Int.toNat (i64.wrap (10+(Dg.nOf l % 16))))) hz RB Rz RA (by(rw [Dg.lo_eq];omega)) (by(rw [Dg.lo_eq];omega)) (by omega)
      refine rq Cz Rr (by have:= @Dg.lo_eq l;omega) (by have:= @Dg.lo_eq l;omega) fun A_wv3 Ps Nb OE Ns=>?_
      have M3:=Pu.blk Ns M3
      refine bZ M3 (by simp) fun Nf Nl=>?_
      have M3:Blk Nf gv #[(.int .u32 ((((l.drop 0).take ((Int.toNat 8) - 0)).getD 0 ⟨0⟩).v)),(.int .u32 ((((l.drop 0).take ((Int.toNat 8) - 0)).getD 1 ⟨0⟩).v)),(.int .u32 ((((l.drop 0).take ((Int.toNat 8) - 0)).getD 2 ⟨0⟩).v)),(.int .u32 ((((l.drop 0).take ((Int.toNat 8) - 0)).getD 3 ⟨0⟩).v)),(.int .u32 ((((l.drop 0).take ((Int.toNat 8) - 0)).getD 4 ⟨0⟩).v)),(.int .u32 ((((l.drop 0).take ((Int.toNat 8) - 0)).getD 5 ⟨0⟩).v)),(.int .u32 ((((l.drop 0).take ((Int.toNat 8) - 0)).getD 6 ⟨0⟩).v)),(.int .u32 ((((l.drop 0).take ((Int.toNat 8) - 0)).getD 7 ⟨0⟩).v)),(.int .i64 (i64.wrap (Dg.nOf l))),(.slice A_wv3 QR Ps)] _:=Nl.blk.cast (by kernel_rfl)
      have OE:=OE.ch Nl.ch (fun k hx e=>absurd hx.1 (by omega))
      have hp:=Ch.call (Ch.pu hp Ns) Nl.ch (by exact fun k e=>.inr (e▸Ng))
      exact⟨_,congrArg Value.tuple (ub (rfl) (congrArg (Value.int .i64) (by rw [(Dg.mV P3 hg (fun i x hx=>hq i x (by have:=(List.getElem?_eq_some_iff.1 hx).1;rw [List.length_drop]at this;have:= @Dg.lo_eq l;omega) hx))]))),fun _=>⟨gv,⟨fun k=>(M8.heap.size≤k∧k<Nb.heap.size)∧k<Nf.heap.size,A_wv3,QR,Ps⟩,rfl,⟨⟨_,Blk.cast M3 (by simp [Dg.load,Dg.ka];have:=hnO.2;exact(aA (x:=Dg.nOf l) (by omega)).symm)⟩,by have h9:=(OE).rd;have h8:= @Dg.lo_eq l;have e:Dg.load l=⟨Dg.ka l,Dg.nOf l,(l.drop 10).take (Int.toNat (i64.wrap (10+Dg.nOf l % 16)) - 10)⟩:=(by rw [h8,Nat.add_sub_cancel_left];rfl);rw [e];exact h9,by intro h;exact absurd h.1.1 (by have:=Nd.num;have:=Wg.size;omega)⟩,fun k hk=>hk.elim (fun e=>by rw [e];exact Ng) (fun h=>by have:=Wg.size;have:=h.1.1;omega)⟩,hp⟩
   ·have hg:¬(Dg.nOf l>36028797018963968∨(Dg.nOf l<16∧Dg.ka l≠S8.first)):=by rintro(h | h);exact c5 h;exact c6 h.1
    refine mi ?_
    rintro waits QL
    obtain rfl:waits=Dg.nOf l % 16:=QL.trans (by rw [Int.tmod_eq_emod_of_nonneg hnO.2.1,aA (by omega)])
    refine⟨by(simp only [IntKind.wrap_i64];omega),?_⟩
    have hz:=(hz.pu Nd.pu).pu (Pu.aU _)
    rintro Qs RE O6 RC QS RD
    have Ow:=Rd.from_ (lo:=(Int.toNat (i64.wrap (10+(Dg.nOf l % 16))))) hz RE RC RD (by(rw [Dg.lo_eq];omega)) (by have:=hz.cap;omega)
    have hp:=Ch.drew (Ch.made hp Nd)
    have M3:=Blk.drew M3
    refine⟨fun mz P8 W=>mz=(O6 - P8).toNat∧(0≤P8∧P8≤O6)∧(∀(i:Nat)(x:U32),i<P8.toNat→(l.drop (10+(Dg.nOf l % 16).toNat))[i]? =some x→x.v=0)∧Ch (fun _=>False) w W∧Rd W Z wordsA wordsN wordsC l∧Blk W gv #[(.int .u32 ((((l.drop 0).take ((Int.toNat 8) - 0)).getD 0 ⟨0⟩).v)),(.int .u32 ((((l.drop 0).take ((Int.toNat 8) - 0)).getD 1 ⟨0⟩).v)),(.int .u32 ((((l.drop 0).take ((Int.toNat 8) - 0)).getD 2 ⟨0⟩).v)),(.int .u32 ((((l.drop 0).take ((Int.toNat 8) - 0)).getD 3 ⟨0⟩).v)),(.int .u32 ((((l.drop 0).take ((Int.toNat 8) - 0)).getD 4 ⟨0⟩).v)),(.int .u32 ((((l.drop 0).take ((Int.toNat 8) - 0)).getD 5 ⟨0⟩).v)),(.int .u32 ((((l.drop 0).take ((Int.toNat 8) - 0)).getD 6 ⟨0⟩).v)),(.int .u32 ((((l.drop 0).take ((Int.toNat 8) - 0)).getD 7 ⟨0⟩).v)),(.int .i64 (i64.wrap (Dg.nOf l))),(.slice none 0 0)] 228∧Rd W Z Qs O6 QS (l.drop (Int.toNat (i64.wrap (10+(Dg.nOf l % 16))))),⟨_,rfl,(by omega),(by intro i x h;omega),hp,hz,M3,Ow⟩,?_⟩
    rintro _ _ P8 M8 ⟨rfl,h0,hq,hp,hz,M3,Ow⟩
    refine aq (fun c11=>?_) (fun c11=>?_)
    ·obtain⟨p12,O5,acu,R2,hz12,acn⟩:=Ow.ld (i:=P8) (by omega) (by omega)
     refine⟨by constructor<;>omega,ah p12 acu ⟨_,acn 0 (by decide),?_⟩⟩
     refine aN (fun TM=>?_) (fun TM=>?_)
     ·exact⟨none,congrArg Value.tuple (ub (rfl) (congrArg (Value.int .i64) (by rw [Dg.lo_eq]at R2;rw [Dg.fB P3 hg R2 TM]))),fun h=>absurd h (by rw [Dg.fB P3 hg (Dg.lo_eq▸R2) TM];omega),hp⟩
     ·exact⟨_,by rw [IntKind.wrap_i64];omega,rfl,by rw [IntKind.wrap_i64];omega,by rw [aA (by omega)];intro i x hi hx;by_cases he:i=P8.toNat;(subst he;(rw [Dg.lo_eq]at R2;rw [hx]at R2;injection R2 with e;rw [e];simpa using TM));exact hq i x (by omega) hx,hp,hz,M3,Ow⟩
    ·have Wg:=hp
     have hgw:gv<M8.heap.size:=M3.lt
     refine⟨by(simp only [IntKind.wrap_i64];omega),⟨by(simp only [IntKind.wrap_i64];omega),⟨by(simp only [IntKind.wrap_i64];omega),?_⟩⟩⟩
     rintro TQ RB QR Rz TP RA
     have Rr:=Rd.cut (lo:=10) (hi:=(Int.toNat (i64.wrap (10+(Dg.nOf l % 16))))) hz RB Rz RA (by(rw [Dg.lo_eq];omega)) (by(rw [Dg.lo_eq];omega)) (by omega)
     refine rq Cz Rr (by have:= @Dg.lo_eq l;omega) (by have:= @Dg.lo_eq l;omega) fun A_wv3 Ps Nb OE Ns=>?_
     have M3:=Pu.blk Ns M3
     refine bZ M3 (by simp) fun Nf Nl=>?_
     have M3:Blk Nf gv #[(.int .u32 ((((l.drop 0).take ((Int.toNat 8) - 0)).getD 0 ⟨0⟩).v)),(.int .u32 ((((l.drop 0).take ((Int.toNat 8) - 0)).getD 1 ⟨0⟩).v)),(.int .u32 ((((l.drop 0).take ((Int.toNat 8) - 0)).getD 2 ⟨0⟩).v)),(.int .u32 ((((l.drop 0).take ((Int.toNat 8) - 0)).getD 3 ⟨0⟩).v)),(.int .u32 ((((l.drop 0).take ((Int.toNat 8) - 0)).getD 4 ⟨0⟩).v)),(.int .u32 ((((l.drop 0).take ((Int.toNat 8) - 0)).getD 5 ⟨0⟩).v)),(.int .u32 ((((l.drop 0).take ((Int.toNat 8) - 0)).getD 6 ⟨0⟩).v)),(.int .u32 ((((l.drop 0).take ((Int.toNat 8) - 0)).getD 7 ⟨0⟩).v)),(.int .i64 (i64.wrap (Dg.nOf l))),(.slice A_wv3 QR Ps)] _:=Nl.blk.cast (by kernel_rfl)
     have OE:=OE.ch Nl.ch (fun k hx e=>absurd hx.1 (by omega))
     have hp:=Ch.call (Ch.pu hp Ns) Nl.ch (by exact fun k e=>.inr (e▸Ng))
     exact⟨_,congrArg Value.tuple (ub (rfl) (congrArg (Value.int .i64) (by rw [(Dg.mV P3 hg (fun i x hx=>hq i x (by have:=(List.getElem?_eq_some_iff.1 hx).1;rw [List.length_drop]at this;have:= @Dg.lo_eq l;omega) hx))]))),fun _=>⟨gv,⟨fun k=>(M8.heap.size≤k∧k<Nb.heap.size)∧k<Nf.heap.size,A_wv3,QR,Ps⟩,rfl,⟨⟨_,Blk.cast M3 (by simp [Dg.load,Dg.ka];have:=hnO.2;exact(aA (x:=Dg.nOf l) (by omega)).symm)⟩,by have h9:=(OE).rd;have h8:= @Dg.lo_eq l;have e:Dg.load l=⟨Dg.ka l,Dg.nOf l,(l.drop 10).take (Int.toNat (i64.wrap (10+Dg.nOf l % 16)) - 10)⟩:=(by rw [h8,Nat.add_sub_cancel_left];rfl);rw [e];exact h9,by intro h;exact absurd h.1.1 (by have:=Nd.num;have:=Wg.size;omega)⟩,fun k hk=>hk.elim (fun e=>by rw [e];exact Ng) (fun h=>by have:=Wg.size;have:=h.1.1;omega)⟩,hp⟩
end
end Go.Proofs.YtinhphjfnedhgaaGreatDoor
namespace Go.Proofs.YtinhphjfnedhgaaGreatDoor
open Go.Proofs.Tryz (prog)
open Go Go.RowKit V
open Go.IntKind (i64 u32 u64)
section
set_option maxRecDepth 100000
set_option maxHeartbeats 1000000
attribute [local irreducible] Vc2 VcD
def Lo:Ctr Un:=⟨[.one (.int .i64),.one (.int .i64)],[],[],[],fun s i K=>((1≤(s:Int)∧(s:Int)≤64)∧(1≤(i:Int)∧(i:Int)≤64))∧∀(rN:Nat→Nat),K ⟨(.tuple #[(.pointer (some (Addr.mk (rN 0) 0 none))),(.int .i64 0)]),(some (.t [(some (.obj 0 0 0)),none])),[],[(.ob 0 rN (Mem.fresh s.toNat i.toNat))],[]⟩⟩
theorem HX:LV Un prog 27 Lo:=by
 show ∀(s:Int)(i:Int),∀Q:Ou Un→Prop,(((1≤(s:Int)∧(s:Int)≤64)∧(1≤(i:Int)∧(i:Int)≤64))∧∀(rN:Nat→Nat),Q ⟨(.tuple #[(.pointer (some (Addr.mk (rN 0) 0 none))),(.int .i64 0)]),(some (.t [(some (.obj 0 0 0)),none])),[],[(.ob 0 rN (Mem.fresh s.toNat i.toNat))],[]⟩)→∀(X:Nat→Nat→Prop)(w:World),Sat (U:=Un) [] X w→av (U:=Un) [] fr0 []→Calls prog 27 #[(.int .i64 s),(.int .i64 i)] w (aS (U:=Un) [] [] X w Q)
 intro s i Q hQ X w hs hl
 obtain⟨⟨h1,h2⟩,hQ⟩:=hQ
 refine(MO s i h1 h2).mono ?_
 rintro e w' ⟨u,rfl,L,rfl,hM,hf,q⟩
 exact aS.sD (Z:=L.X) hs q (show RS (U:=Un) L.X w' (.ob 0 (fun _=>L.g) (Mem.fresh s.toNat i.toNat))from(⟨L,rfl,fun _=>Iff.rfl,hM⟩:cq 0 (fun _=>L.g) (Mem.fresh s.toNat i.toNat) L.X w')) hf (hQ (fun _=>L.g)) (KnO.pair rfl) (fun _ _ h=>by cases h)
def tQ:Ctr Un:=⟨[.one (.obj 0 0)],[],[.ob 0 []],[0],fun rm m K=>1≤m.S∧∀(rN:Nat→Nat),K ⟨(.pointer (some (Addr.mk (rN 0) 0 none))),(some (.p (.obj 1 0 0))),[.ob 0 (m.dm m.S)],[(.ob 1 rN ((DB.new m).pd))],[(.l 1 1,.p (.obj 0 0 0))]⟩⟩
theorem H9:LV Un prog 29 tQ:=by
 show ∀(rm:Nat→Nat)(m:Mem),∀Q:Ou Un→Prop,(1≤m.S∧∀(rN:Nat→Nat),Q ⟨(.pointer (some (Addr.mk (rN 0) 0 none))),(some (.p (.obj 1 0 0))),[.ob 0 (m.dm m.S)],[(.ob 1 rN ((DB.new m).pd))],[(.l 1 1,.p (.obj 0 0 0))]⟩)→∀(X:Nat→Nat→Prop)(w:World),Sat (U:=Un) [(.ob 0 rm m)] X w→av (U:=Un) [(.ob 0 rm m)] fr0 []→Calls prog 29 #[(.pointer (some (Addr.mk (rm 0) 0 none)))] w (aS (U:=Un) [(.ob 0 rm m)] [0] X w Q)
 intro rm m Q hQ X w hs hl
 obtain⟨hS,hQ⟩:=hQ
 obtain⟨L,hg,hM,hX⟩:=mF hs
 rw [hg]
 refine(MY hM hS).mono ?_
 rintro e w' ⟨u,rfl,g,a,rfl,Tz,hD,⟨hb1,Sg⟩,q⟩
 have Nu:∀k,L.X k→k<w.heap.size:=hM.lt
 exact aS.Gl (k:=some (.p (.obj 1 0 0))) (kc:= [(.l 1 1,.p (.obj 0 0 0))]) (Z0:=X 0) (Z1:=fun k=>k=g∨k=a) (q.mono fun k hk=>(hX k).1 hk) (show cq 0 rm (m.dm m.S) (X 0) w' from⟨L,hg,hX,Tz⟩) (fun k hk=>.inl hk) (show RS (U:=Un) (fun k=>k=g∨k=a) w' (.ob 1 (fun i=>if i=0 then g else L.g) (DB.new m).pd)from(⟨a,fun k=>Iff.rfl,hD.pd⟩:cq 1 (fun i=>if i=0 then g else L.g) (DB.new m).pd (fun k=>k=g∨k=a) w'))
  (fun k hk=>by rcases hk with rfl | rfl;exact hb1;exact Sg) (fun k hk NT=>by have:=Nu k ((hX k).2 hk);rcases NT with rfl | rfl<;>omega) (hQ (fun i=>if i=0 then g else L.g)) rfl (wh ⟨_,_,_,rfl,show some (Value.pointer (some ⟨rm 0,0,none⟩))=some (.pointer (some ⟨L.g,0,none⟩))by rw [hg]⟩)
def iX:Ctr Un:=⟨[.one (.obj 0 0)],[],[.ob 1 [(1,1,0)],.ob 0 []],[],fun r E rm m K=>E.n=m.S∧∀(A:Option Addr)(c:Nat),K ⟨(.slice A (((E.on m).words.map U32.mk).length) c),(some (.p (.sl 2 0))),[],[(.lst 1 true 29 A c ((E.on m).words.map U32.mk))],[]⟩⟩
theorem tO:LV Un prog 52 iX:=by
 show ∀(r:Nat→Nat)(E:Pd)(rm:Nat→Nat)(m:Mem),∀Q:Ou Un→Prop,(E.n=m.S∧∀(A:Option Addr)(c:Nat),Q ⟨(.slice A (((E.on m).words.map U32.mk).length) c),(some (.p (.sl 2 0))),[],[(.lst 1 true 29 A c ((E.on m).words.map U32.mk))],[]⟩)→∀(X:Nat→Nat→Prop)(w:World),Sat (U:=Un) [(.ob 1 r E),(.ob 0 rm m)] X w→av (U:=Un) [(.ob 1 r E),(.ob 0 rm m)] fr0 [(.l 0 1,.p (.obj 1 0 0))]→Calls prog 52 #[(.pointer (some (Addr.mk (r 0) 0 none)))] w (aS (U:=Un) [(.ob 1 r E),(.ob 0 rm m)] [] X w Q)
 intro r E rm m Q hQ X w hs hl
 obtain⟨hn,hQ⟩:=hQ
 obtain⟨a,L,hg,hr,hD,Qg,QJ⟩:=ya hs hl hn
 refine(K5 hD).mono ?_
 rintro e w' ⟨u,rfl,g,n,rfl,ho,hz,q⟩
 have R4:=ho.len
 subst R4
 exact aS.more hs q (KM (U:=Un) (t:=1) ho) (fun k hk=>by have:=hk.1;omega) (hQ _ _) rfl
def tA:Ctr Un:=⟨[],[],[],[],fun K=>∀(rN:Nat→Nat),K ⟨(.pointer (some (Addr.mk (rN 0) 0 none))),(some (.p (.obj 0 0 0))),[],[(.ob 4 rN Dg.new)],[]⟩⟩
theorem HE:LV Un prog 125 tA:=by
 show ∀Q:Ou Un→Prop,(∀(rN:Nat→Nat),Q ⟨(.pointer (some (Addr.mk (rN 0) 0 none))),(some (.p (.obj 0 0 0))),[],[(.ob 4 rN Dg.new)],[]⟩)→∀(X:Nat→Nat→Prop)(w:World),Sat (U:=Un) [] X w→av (U:=Un) [] fr0 []→Calls prog 125 #[] w (aS (U:=Un) [] [] X w Q)
 intro Q hQ X w hs hl
 refine MH.mono ?_
 rintro e w' ⟨u,rfl,g,L,rfl,hD,hf,q⟩
 exact aS.sD (Z:=L.X g) hs q (show RS (U:=Un) (L.X g) w' (.ob 4 (fun _=>g) Dg.new)from(⟨L,fun _=>Iff.rfl,hD⟩:cq 4 (fun _=>g) Dg.new (L.X g) w')) hf (hQ (fun _=>g)) rfl (fun _ _ h=>by cases h)
def ng:Ctr Un:=⟨[.one (.obj 0 0),.one (.sl 1)],[(2,5)],[.ob 4 [],.lst 1 false 29,.ob 5 []],[0],fun r d A c l rk kk K=>d.Ok∧l.length≤1099511627776∧K ⟨(.tuple #[]),(some (.t [])),[.ob 4 (d.add kk l)],[],[]⟩⟩
theorem BJ:LV Un prog 135 ng:=by
 show ∀(r:Nat→Nat)(d:Dg)(A:Option Addr)(c:Nat)(l:List U32)(rk:Nat→Nat)(kk:List Int),∀Q:Ou Un→Prop,(d.Ok∧l.length≤1099511627776∧Q ⟨(.tuple #[]),(some (.t [])),[.ob 4 (d.add kk l)],[],[]⟩)→∀(X:Nat→Nat→Prop)(w:World),Sat (U:=Un) [(.ob 4 r d),(.lst 1 false 29 A c l),(.ob 5 rk kk)] X w→av (U:=Un) [(.ob 4 r d),(.lst 1 false 29 A c l),(.ob 5 rk kk)] fr0 []→Calls prog 135 #[(.pointer (some (Addr.mk (r 0) 0 none))),(.slice A l.length c)] w (aS (U:=Un) [(.ob 4 r d),(.lst 1 false 29 A c l),(.ob 5 rk kk)] [0] X w Q)
 intro r d A c l rk kk Q hQ X w hs hl
 obtain⟨Oz,hlen,hQ⟩:=hQ
 obtain⟨L,hX,hD⟩:=(hs.res 0 _ rfl:cq 4 r d (X 0) w)
 have hr:Rd w (X 1) A l.length c l:=hs.res 1 _ rfl
 obtain⟨hX2,hK⟩:=(hs.res 2 _ rfl:cq 5 rk kk (X 2) w)
 have h0:X 0 (r 0):=(hX _).1 (.inl rfl)
 refine(MJ hD hr hK Oz hlen (fun h=>hs.dis 0 1 (by simp) (by simp) (by omega) _ h0 h) (fun h=>hs.dis 0 2 (by simp) (by simp) (by omega) _ h0 ((hX2 _).1 h))).mono ?_
 rintro e w' ⟨u,rfl,L',rfl,hD',hg,q⟩
 exact aS.first (Z:=L'.X (r 0)) hs (q.mono fun k hk=>(hX k).1 hk) (show cq 4 r (d.add kk l) (L'.X (r 0)) w' from⟨L',fun _=>Iff.rfl,hD'⟩) (fun k hk=>(hg k hk).imp (fun h=>(hX k).1 h) id) hQ (KnO.tup _ (by simp))
def kD:Ctr Un:=⟨[.one (.obj 0 0)],[],[.ob 4 []],[],fun r d K=>d.Ok∧K ⟨(.agg ⟨Dg.sv d⟩),none,[],[],[]⟩⟩
theorem wO:LV Un prog 126 kD:=by
 show ∀(r:Nat→Nat)(d:Dg),∀Q:Ou Un→Prop,(d.Ok∧Q ⟨(.agg ⟨Dg.sv d⟩),none,[],[],[]⟩)→∀(X:Nat→Nat→Prop)(w:World),Sat (U:=Un) [(.ob 4 r d)] X w→av (U:=Un) [(.ob 4 r d)] fr0 []→Calls prog 126 #[(.pointer (some (Addr.mk (r 0) 0 none)))] w (aS (U:=Un) [(.ob 4 r d)] [] X w Q)
 intro r d Q hQ X w hs hl
 obtain⟨Oz,hQ⟩:=hQ
 obtain⟨L,hX,hD⟩:=(hs.res 0 _ rfl:cq 4 r d (X 0) w)
 refine(LD hD Oz).mono ?_
 rintro e w' ⟨u,rfl,rfl,q⟩
 rw [F4 (by rw [Dg.gx Oz])]
 exact aS.pu hs q hQ trivial
end
end Go.Proofs.YtinhphjfnedhgaaGreatDoor
namespace Go.Proofs.YtinhphjfnedhgaaGreatDoor
open Go.Proofs.Tryz (prog)
open Go Go.RowKit V
open Go.IntKind (i64 u32 u64)
section
theorem Mem.ei(m:Mem)(s:Bool)(p:Nat):(m.words s p).length=1024:=by rw [Mem.words,List.length_map,List.length_range]
theorem Mem.J0(m:Mem)(s:Bool)(p o:Int):m.rd s p o=m:=by unfold Mem.rd;split<;>rfl
theorem Ea {w:World} {L:eP} {m:Mem}(h:cA w L m):Calls prog 55 #[ptr L.g] w fun e w'=>∃v,e= .returned v∧v= .int .i64 m.I∧w'=w:=by
 obtain⟨T,hd⟩:=h.hd
 exact qT _ (I3 hd rfl ⟨rfl,rfl⟩)
section
variable {w:World} {g:Nat} {L:kE} {m:Mem}
end
end
end Go.Proofs.YtinhphjfnedhgaaGreatDoor
namespace Go.Proofs.YtinhphjfnedhgaaGreatDoor
open Go.Proofs.Tryz (prog)
open Go Go.RowKit V
open Go.IntKind (i64 u32 u64)
section
set_option maxRecDepth 100000
set_option maxHeartbeats 1000000
attribute [local irreducible] Vc2 VcD
def kG:Ctr Un:=⟨[.one (.obj 0 0),.agg [.bool,.int .i64],.one (.int .i64)],[],[.ob 0 []],[0],fun fa fb off rm m K=>K ⟨(.tuple #[(.int .u32 (m.aY fa fb off)),(.int .i64 (m.err fa fb off))]),(some (.t [none,none])),[.ob 0 m],[],[]⟩⟩
theorem wW:LV Un prog 92 kG:=by
 show ∀(fa:Bool)(fb:Int)(off:Int)(rm:Nat→Nat)(m:Mem),∀Q:Ou Un→Prop,(Q ⟨(.tuple #[(.int .u32 (m.aY fa fb off)),(.int .i64 (m.err fa fb off))]),(some (.t [none,none])),[.ob 0 m],[],[]⟩)→∀(X:Nat→Nat→Prop)(w:World),Sat (U:=Un) [(.ob 0 rm m)] X w→av (U:=Un) [(.ob 0 rm m)] fr0 []→Calls prog 92 #[(.pointer (some (Addr.mk (rm 0) 0 none))),(.agg #[(.bool fa),(.int .i64 fb)]),(.int .i64 off)] w (aS (U:=Un) [(.ob 0 rm m)] [0] X w Q)
 intro fa fb off rm m Q hQ X w hs hl
 obtain⟨L,hg,hM,hX⟩:=mF hs
 rw [hg]
 refine(Kb hM fa fb off).mono ?_
 rintro e w' ⟨u,rfl,rfl,h2,q⟩
 rw [Mem.J0]at h2
 exact aS.one (Z:=X 0) (q.mono fun k hk=>(hX k).1 hk) (show cq 0 rm _ (X 0) w' from⟨L,hg,hX,h2⟩) (fun k hk=>.inl hk) hQ (KnO.tup _ (by simp))
def lO:Ctr Un:=⟨[.one (.obj 0 0)],[],[.ob 0 []],[],fun rm m K=>K ⟨(.int .i64 (m.I:Int)),none,[],[],[]⟩⟩
theorem zM:LV Un prog 55 lO:=by
 show ∀(rm:Nat→Nat)(m:Mem),∀Q:Ou Un→Prop,(Q ⟨(.int .i64 (m.I:Int)),none,[],[],[]⟩)→∀(X:Nat→Nat→Prop)(w:World),Sat (U:=Un) [(.ob 0 rm m)] X w→av (U:=Un) [(.ob 0 rm m)] fr0 []→Calls prog 55 #[(.pointer (some (Addr.mk (rm 0) 0 none)))] w (aS (U:=Un) [(.ob 0 rm m)] [] X w Q)
 intro rm m Q hQ X w hs hl
 obtain⟨L,hg,hM,hX⟩:=mF hs
 rw [hg]
 refine(Ea hM).mono ?_
 rintro e w' ⟨u,rfl,rfl,q⟩
 subst q
 exact aS.pu hs (Ch.refl _ _) hQ trivial
def xb:Ctr Un:=⟨[.one (.obj 0 0),.agg [.bool,.int .i64],.agg [.bool,.int .i64]],[],[.ob 0 []],[0],fun fa fb fc fd rm m K=>K ⟨(.int .i64 (m.te fa fb fc fd)),none,[.ob 0 (m.copy fa fb fc fd)],[],[]⟩⟩
theorem JO:LV Un prog 66 xb:=by
 show ∀(fa:Bool)(fb:Int)(fc:Bool)(fd:Int)(rm:Nat→Nat)(m:Mem),∀Q:Ou Un→Prop,(Q ⟨(.int .i64 (m.te fa fb fc fd)),none,[.ob 0 (m.copy fa fb fc fd)],[],[]⟩)→∀(X:Nat→Nat→Prop)(w:World),Sat (U:=Un) [(.ob 0 rm m)] X w→av (U:=Un) [(.ob 0 rm m)] fr0 []→Calls prog 66 #[(.pointer (some (Addr.mk (rm 0) 0 none))),(.agg #[(.bool fa),(.int .i64 fb)]),(.agg #[(.bool fc),(.int .i64 fd)])] w (aS (U:=Un) [(.ob 0 rm m)] [0] X w Q)
 intro fa fb fc fd rm m Q hQ X w hs hl
 obtain⟨L,hg,hM,hX⟩:=mF hs
 rw [hg]
 refine(L0 hM fa fb fc fd).mono ?_
 rintro e w' ⟨u,rfl,rfl,h2,q⟩
 exact aS.one (Z:=X 0) (q.mono fun k hk=>(hX k).1 hk) (show cq 0 rm _ (X 0) w' from⟨L,hg,hX,h2⟩) (fun k hk=>.inl hk) hQ trivial
def kH:Ctr Un:=⟨[.one (.obj 0 0),.agg [.bool,.int .i64]],[],[.ob 0 []],[0],fun fa fb rm m K=>split (m.has fa fb) (∀(A:Option Addr),K ⟨(.tuple #[(.slice A ((m.words fa fb.toNat).length) 1024),(.int .i64 0)]),(some (.t [(some (.sl 1 0)),none])),[.ob 0 m],[(.lst 1 true 29 A 1024 (m.words fa fb.toNat))],[]⟩) (K ⟨(.tuple #[(.slice none 0 0),(.int .i64 5)]),(some (.t [none,none])),[.ob 0 m],[],[]⟩)⟩
theorem wX:LV Un prog 69 kH:=by
 show ∀(fa:Bool)(fb:Int)(rm:Nat→Nat)(m:Mem),∀Q:Ou Un→Prop,(split (m.has fa fb) (∀(A:Option Addr),Q ⟨(.tuple #[(.slice A ((m.words fa fb.toNat).length) 1024),(.int .i64 0)]),(some (.t [(some (.sl 1 0)),none])),[.ob 0 m],[(.lst 1 true 29 A 1024 (m.words fa fb.toNat))],[]⟩) (Q ⟨(.tuple #[(.slice none 0 0),(.int .i64 5)]),(some (.t [none,none])),[.ob 0 m],[],[]⟩))→∀(X:Nat→Nat→Prop)(w:World),Sat (U:=Un) [(.ob 0 rm m)] X w→av (U:=Un) [(.ob 0 rm m)] fr0 []→Calls prog 69 #[(.pointer (some (Addr.mk (rm 0) 0 none))),(.agg #[(.bool fa),(.int .i64 fb)])] w (aS (U:=Un) [(.ob 0 rm m)] [0] X w Q)
 intro fa fb rm m Q hQ X w hs hl
 obtain⟨L,hg,hM,hX⟩:=mF hs
 rw [hg]
 refine(LZ hM fa fb).mono ?_
 rintro e w' ⟨u,rfl,⟨hh,h2,q,g,rfl,hlo,Nu,ho⟩ | ⟨hh,rfl,q⟩⟩
 ·have hQ:=bU hQ hh (some (Addr.mk g 0 none))
  rw [Mem.ei]at hQ
  have hr:RS (U:=Un) (fun k=>k=g) w' (.lst 1 true 29 (some (Addr.mk g 0 none)) 1024 (m.words fa fb.toNat)):=⟨(by have h9:=Mem.ei m fa fb.toNat;show Own w' _ _ _ (m.words fa fb.toNat).length _ _;rw [h9];exact ho),fun k hk=>hk▸Nu⟩
  exact aS.Gl (k:=some (.t [some (.sl 1 0),none])) (kc:= []) (Z0:=X 0) (q.mono fun k hk=>(hX k).1 hk) (show cq 0 rm m (X 0) w' from⟨L,hg,hX,h2⟩) (fun k hk=>.inl hk) hr (fun k hk=>hk▸hlo) (fun k h1 h3=>by have:=hs.lt (i:=0) (by simp) k h1;omega) hQ (KnO.pair (by show some (Value.slice _ (m.words fa fb.toNat).length _)=_;rw [Mem.ei])) (fun _ _ h=>by cases h)
 ·exact aS.one (Z:=X 0) (q.mono fun k hk=>hk.elim) (show cq 0 rm m (X 0) w' from⟨L,hg,hX,hM.pu q⟩) (fun k hk=>.inl hk) (bV hQ hh) (KnO.tup _ (by simp))
end
end Go.Proofs.YtinhphjfnedhgaaGreatDoor
namespace Go.Proofs.YtinhphjfnedhgaaGreatDoor
open Go.Proofs.Tryz (prog)
open Go Go.RowKit V
open Go.IntKind (i64 u32 u64)
section
set_option maxRecDepth 10000
set_option maxHeartbeats 1000000
theorem Ir {w:World}(ma:Bool)(mb:Int)(mc:Bool)(md:Bool):
 Calls prog 133 #[(.agg #[(.bool ma),(.int .i64 mb),(.bool mc),(.bool md)])] w fun e w'=>∃v,e= .returned v∧v= .tuple #[(.int .u32 ((Mp.mk ma mb mc md).word)),(.int .i64 ((Mp.mk ma mb mc md).err))]∧Pu w w':=by
 refine uc _ _ _ _ ?_
 have hp:=Ch.refl (fun _=>False) w
 refine mkd fun gv wv Nd=>?_
 have M3:=Nd.blk
 refine⟨fun x w'=>x=((decide ((mb:Int)<0)) || (decide ((mb:Int)>63)))∧Pu wv w',?_,?_⟩
 ·refine⟨_,M3.at2 rfl,?_⟩
  refine ae (fun c1=>?_) (fun c1=>?_)
  ·exact⟨by simp only [c1,Bool.true_and,Bool.and_true,Bool.false_and,Bool.and_false,Bool.true_or,Bool.or_true,Bool.false_or,Bool.or_false,Bool.not_true,Bool.not_false,if_true,if_false,Bool.false_eq_true],Ch.refl _ _⟩
  ·refine⟨_,M3.at2 rfl,?_⟩
   exact⟨by simp only [c1,Bool.true_and,Bool.and_true,Bool.false_and,Bool.and_false,Bool.true_or,Bool.or_true,Bool.false_or,Bool.or_false,Bool.not_true,Bool.not_false,if_true,if_false,Bool.false_eq_true],Ch.refl _ _⟩
 rintro _ _ M5 ⟨rfl,Na⟩
 refine cQ (fun c2=>?_) (fun c2=>?_)
 ·have hp:=Ch.pu (Ch.made hp Nd) Na
  exact⟨congrArg Value.tuple (ub (congrArg (Value.int .u32) (by grind [Mp.word,Mp.err,Mp.bits])) (congrArg (Value.int .i64) (by grind [Mp.word,Mp.err,Mp.bits]))),hp⟩
 ·refine⟨fun x w'=>x=(md && (!ma))∧Pu M5 w',?_,?_⟩
  ·have M3:=Pu.blk Na M3
   refine⟨_,M3.at rfl,?_⟩
   refine ae (fun c3=>?_) (fun c3=>?_)
   ·refine⟨_,M3.at2 rfl,?_⟩
    exact⟨by simp only [c3,Bool.true_and,Bool.and_true,Bool.false_and,Bool.and_false,Bool.true_or,Bool.or_true,Bool.false_or,Bool.or_false,Bool.not_true,Bool.not_false,if_true,if_false,Bool.false_eq_true],Ch.refl _ _⟩
   ·exact⟨by simp only [c3,Bool.true_and,Bool.and_true,Bool.false_and,Bool.and_false,Bool.true_or,Bool.or_true,Bool.false_or,Bool.or_false,Bool.not_true,Bool.not_false,if_true,if_false,Bool.false_eq_true],Ch.refl _ _⟩
  rintro _ _ M8 ⟨rfl,Nz⟩
  refine eS (fun c4=>?_) (fun c4=>?_)
  ·have hp:=Ch.pu (Ch.pu (Ch.made hp Nd) Na) Nz
   exact⟨congrArg Value.tuple (ub (congrArg (Value.int .u32) (by grind [Mp.word,Mp.err,Mp.bits])) (congrArg (Value.int .i64) (by grind [Mp.word,Mp.err,Mp.bits]))),hp⟩
  ·have Tp:0≤mb∧mb<64:=by grind
   have M3:=Pu.blk Nz (Pu.blk Na M3)
   refine⟨_,M3.at2 rfl,?_⟩
   rintro _ rfl
   refine⟨_,M3.at2 rfl,⟨_,M3.at rfl,⟨_,M3.at rfl,?_⟩⟩⟩
   refine mkd fun No Nf Od=>?_
   have M4:=Od.blk
   have hp:=Ch.made (Ch.pu (Ch.pu (Ch.made hp Nd) Na) Nz) Od
   have M3:=Made.old Od M3
   refine⟨fun mz Np Pg W=>Ch (fun _=>False) w W∧(∃T,Blk W gv #[(.bool ma),(.int .i64 mb),(.bool mc),(.bool md)] T)∧(∃T,Blk W No #[(.bool ma),(.int .u32 2),(.bool mc),(.int .u32 4),(.bool md),(.int .u32 8)] T)∧((mz=3∧Np=(256*mb+1)∧Pg=0)∨(mz=2∧Np=(256*mb+(1+(if ma then 2 else 0)))∧Pg=1)∨(mz=1∧Np=(256*mb+(1+(if ma then 2 else 0)+(if mc then 4 else 0)))∧Pg=2)∨(mz=0∧Np=(256*mb+(1+(if ma then 2 else 0)+(if mc then 4 else 0)+(if md then 8 else 0)))∧Pg=3)),⟨_,hp,⟨_,M3⟩,⟨_,M4⟩,.inl ⟨rfl,by exact Gf Tp,rfl⟩⟩,?_⟩
   rintro _ _ Np Pg NK ⟨hp,⟨_,M3⟩,⟨_,M4⟩,hU⟩
   rcases hU with⟨rfl,rfl,rfl⟩ | ⟨rfl,rfl,rfl⟩ | ⟨rfl,rfl,rfl⟩ | ⟨rfl,rfl,rfl⟩
   ·refine dV ⟨by decide,⟨_,_,⟨M4.at2 rfl,M4.at2 rfl⟩,?_⟩⟩
    refine mkd fun TL NG Nm=>?_
    have OO:=Nm.lo hp
    have NL:=Nm.ne M3
    have ne_gv3_gv5:=Nm.ne M4
    have Oh:=Nm.blk
    refine bP Oh (by simp) fun Nk M6=>?_
    have Oh:Blk Nk TL #[(.bool ma),(.int .u32 2)] _:=M6.blk
    refine⟨_,Oh.at rfl,?_⟩
    refine ae (fun c5=>?_) (fun c5=>?_)
    ·refine⟨_,Oh.at rfl,?_⟩
     rintro _ rfl
     have hp:=Ch.call (Ch.made hp Nm) M6.ch (by exact fun k e=>.inr (e▸OO))
     have M3:=Ch.blk M6.ch (Made.old Nm M3) (NL)
     have M4:=Ch.blk M6.ch (Made.old Nm M4) (ne_gv3_gv5)
     exact⟨2,by decide,hp,⟨_,M3⟩,⟨_,M4⟩,.inr (.inl ⟨rfl,by(rw [AR 1 2 (by decide) (by omega) Tp (a:=1) (by constructor<;>grind)];simp only [c2,c4,c5,if_true];done),rfl⟩)⟩
    ·have hp:=Ch.call (Ch.made hp Nm) M6.ch (by exact fun k e=>.inr (e▸OO))
     have M3:=Ch.blk M6.ch (Made.old Nm M3) (NL)
     have M4:=Ch.blk M6.ch (Made.old Nm M4) (ne_gv3_gv5)
     exact⟨2,by decide,hp,⟨_,M3⟩,⟨_,M4⟩,.inr (.inl ⟨rfl,by(simp [c2,c4,c5];done),rfl⟩)⟩
   ·refine dV ⟨by decide,⟨_,_,⟨M4.at2 rfl,M4.at2 rfl⟩,?_⟩⟩
    refine mkd fun TL NG Nm=>?_
    have OO:=Nm.lo hp
    have NL:=Nm.ne M3
    have ne_gv3_gv5:=Nm.ne M4
    have Oh:=Nm.blk
    refine bP Oh (by simp) fun Nk M6=>?_
    have Oh:Blk Nk TL #[(.bool mc),(.int .u32 4)] _:=M6.blk
    refine⟨_,Oh.at rfl,?_⟩
    refine ae (fun c6=>?_) (fun c6=>?_)
    ·refine⟨_,Oh.at rfl,?_⟩
     rintro _ rfl
     have hp:=Ch.call (Ch.made hp Nm) M6.ch (by exact fun k e=>.inr (e▸OO))
     have M3:=Ch.blk M6.ch (Made.old Nm M3) (NL)
     have M4:=Ch.blk M6.ch (Made.old Nm M4) (ne_gv3_gv5)
     exact⟨1,by decide,hp,⟨_,M3⟩,⟨_,M4⟩,.inr (.inr (.inl ⟨rfl,by(rw [AR 2 4 (by decide) (by omega) Tp (a:=(1+(if ma then 2 else 0))) (by constructor<;>grind)];simp only [c2,c4,c6,if_true];done),rfl⟩))⟩
    ·have hp:=Ch.call (Ch.made hp Nm) M6.ch (by exact fun k e=>.inr (e▸OO))
     have M3:=Ch.blk M6.ch (Made.old Nm M3) (NL)
     have M4:=Ch.blk M6.ch (Made.old Nm M4) (ne_gv3_gv5)
     exact⟨1,by decide,hp,⟨_,M3⟩,⟨_,M4⟩,.inr (.inr (.inl ⟨rfl,by(simp [c2,c4,c6];done),rfl⟩))⟩
   ·refine dV ⟨by decide,⟨_,_,⟨M4.at2 rfl,M4.at2 rfl⟩,?_⟩⟩
    refine mkd fun TL NG Nm=>?_
    have OO:=Nm.lo hp
    have NL:=Nm.ne M3
    have ne_gv3_gv5:=Nm.ne M4
    have Oh:=Nm.blk
    refine bP Oh (by simp) fun Nk M6=>?_
    have Oh:Blk Nk TL #[(.bool md),(.int .u32 8)] _:=M6.blk
    refine⟨_,Oh.at rfl,?_⟩
    refine ae (fun c7=>?_) (fun c7=>?_)
    ·refine⟨_,Oh.at rfl,?_⟩
     rintro _ rfl
     have hp:=Ch.call (Ch.made hp Nm) M6.ch (by exact fun k e=>.inr (e▸OO))
     have M3:=Ch.blk M6.ch (Made.old Nm M3) (NL)
     have M4:=Ch.blk M6.ch (Made.old Nm M4) (ne_gv3_gv5)
     exact⟨0,by decide,hp,⟨_,M3⟩,⟨_,M4⟩,.inr (.inr (.inr (⟨rfl,by(rw [AR 3 8 (by decide) (by omega) Tp (a:=(1+(if ma then 2 else 0)+(if mc then 4 else 0))) (by constructor<;>grind)];simp only [c2,c4,c7,if_true];done),rfl⟩)))⟩
    ·have hp:=Ch.call (Ch.made hp Nm) M6.ch (by exact fun k e=>.inr (e▸OO))
     have M3:=Ch.blk M6.ch (Made.old Nm M3) (NL)
     have M4:=Ch.blk M6.ch (Made.old Nm M4) (ne_gv3_gv5)
     exact⟨0,by decide,hp,⟨_,M3⟩,⟨_,M4⟩,.inr (.inr (.inr (⟨rfl,by(simp [c2,c4,c7];done),rfl⟩)))⟩
   ·refine mi ?_
    exact⟨congrArg Value.tuple (ub (congrArg (Value.int .u32) (by grind [Mp.word,Mp.err,Mp.bits])) (congrArg (Value.int .i64) (by grind [Mp.word,Mp.err,Mp.bits]))),hp⟩
end
end Go.Proofs.YtinhphjfnedhgaaGreatDoor
namespace Go.Proofs.YtinhphjfnedhgaaGreatDoor
open Go.Proofs.Tryz (prog)
open Go Go.RowKit V
open Go.IntKind (i64 u32 u64)
section
set_option maxRecDepth 100000
set_option maxHeartbeats 1000000
attribute [local irreducible] Vc2 VcD
def iN:Ctr Un:=⟨[.one (.int .i64)],[],[],[],fun p K=>K ⟨(.tuple #[(.int .u32 (cf p)),(.int .i64 (eL p))]),(some (.t [none,none])),[],[],[]⟩⟩
def Hw(p:Int)(Q:Ou Un→Prop):Prop:=
 ∃J:Bool→Prop,(
  split (decide (p<0)) (
   J true) (
   J (decide (p≥64))))∧∀(QQ:Nat→Value)(x9:Bool),J x9→
 split x9 (
  Q ⟨(.tuple #[(.int .u32 0),(.int .i64 4)]),(some (.t [none,none])),[],[],[]⟩) (
  Q ⟨(.tuple #[(.int .u32 (u32.wrap (BitVec.ofInt u32.bits (u32.wrap ((u32.wrap p)*2 ^ 8)) ||| BitVec.ofInt u32.bits 1).toNat)),(.int .i64 0)]),(some (.t [none,none])),[],[],[]⟩)
theorem Hx:Vc2 Un prog (bw []) [] Tryz.f131 (.r' (.two (.two (.node [] (some ⟨[(9,(.one .bool))],[],upN 4 6,[]⟩) [] [] .leaf .leaf) .leaf) .leaf)) [] iN=(∀p,∀Q,(iN.body p Q)→Hw p Q):=by kernel_rfl
theorem zd:LV Un prog 131 iN:=verify Tryz.func131 aa (tb:= []) trivial (by kernel_rfl) (Hx.mpr fun p Q h=>gh ((decide ((p:Int)<0)) || (decide ((p:Int)≥64))) (ae (fun c1=>(by grind)) fun c1=>(by grind))<| cQ (fun c2=>aB h (by(have h:¬(0≤p∧p<64):=by grind);simp [cf,eL,h]) rfl rfl) fun c2=>aB h (by(have h:0≤p∧p<64:=by grind);rw [Gf h];simp [cf,eL,h]) rfl rfl)
def fj:Ctr Un:=⟨[.one (.int .u32),.one (.int .i64),.one (.fn 131)],[],[],[],fun v x K=>∀(ra:Int)(re:Int),((ra=(if v≠0∧eL x=0∧cf x=v then x else 0)∧re=(if v=0 then 92 else if eL x=0∧cf x=v then 0 else 90)))→K ⟨(.tuple #[(.int .i64 ra),(.int .i64 re)]),(some (.t [none,none])),[],[],[]⟩⟩
def uf(v:Int)(x:Int)(Q:Ou Un→Prop):Prop:=
 split (v==0) (
  Q ⟨(.tuple #[(.int .i64 0),(.int .i64 92)]),(some (.t [none,none])),[],[],[]⟩) (
  ∃J:Bool→Prop,(
   split ((eL x) !=0) (
    J true) (
    J ((cf x) !=v)))∧∀(QQ:Nat→Value)(Qh:Bool),J Qh→
  split Qh (
   Q ⟨(.tuple #[(.int .i64 0),(.int .i64 90)]),(some (.t [none,none])),[],[],[]⟩) (
   Q ⟨(.tuple #[(.int .i64 x),(.int .i64 0)]),(some (.t [none,none])),[],[],[]⟩))
theorem ug:Vc2 Un prog (bw [(131,iN)]) [] Tryz.f195 (.r' (.r' (.r' (.two (.r' (.two (.node [] (some ⟨[(26,(.one .bool))],[],upN 20 7,[]⟩) [] [] .leaf .leaf) .leaf)) .leaf)))) [] fj=(∀v x,∀Q,(fj.body v x Q)→uf v x Q):=by kernel_rfl
theorem ud:LV Un prog 195 fj:=verify Tryz.func195 aa (tb:= [(131,iN)]) ⟨zd,trivial⟩ (by kernel_rfl) (ug.mpr fun v x Q h=>by
 try skip
 exact aK (fun c1=>(h 0 92 (by omega))) fun c1=>gh ((((eL x):Int) !=0) || (((cf x):Int) !=v)) (ae (fun c2=>(by grind)) fun c2=>(by grind))<| cQ (fun c3=>(h 0 90 (by grind))) fun c3=>(h x 0 (by grind)))
def fk:Ctr Un:=⟨[.one (.int .u32)],[],[],[],fun v K=>(0≤(v:Int)∧(v:Int)<4294967296)∧K ⟨(.tuple #[(.int .i64 (aW v)),(.int .i64 (kQ v))]),(some (.t [none,none])),[],[],[]⟩⟩
def ui(v:Int)(Q:Ou Un→Prop):Prop:=
 ∀(ra:Int)(re:Int),
 ((ra=(if v≠0∧eL (i64.wrap (v.fdiv (2 ^ 8)))=0∧cf (i64.wrap (v.fdiv (2 ^ 8)))=v then(i64.wrap (v.fdiv (2 ^ 8)))else 0)∧re=(if v=0 then 92 else if eL (i64.wrap (v.fdiv (2 ^ 8)))=0∧cf (i64.wrap (v.fdiv (2 ^ 8)))=v then 0 else 90)))→
 Q ⟨(.tuple #[(.int .i64 ra),(.int .i64 re)]),(some (.t [none,none])),[],[],[]⟩
theorem uj:Vc2 Un prog (bw [(195,fj)]) [] Tryz.f182 .leaf [] fk=(∀v,∀Q,(fk.body v Q)→ui v Q):=by kernel_rfl
theorem uh:LV Un prog 182 fk:=verify Tryz.func182 aa (tb:= [(195,fj)]) ⟨ud,trivial⟩ (by kernel_rfl) (uj.mpr fun v Q h=>by
 obtain⟨Ni,h⟩:=h
 exact fun ra re f1=>(by(have e0:i64.wrap ((v:Int).fdiv (2 ^ 8))=v / 256:=by rw [mH,aA (by omega)];rfl);rw [e0]at f1;(have h1:(eL (v / 256)=0∧cf (v / 256)=v)↔xU v=true:=(by simp only [eL,cf,xU,decide_eq_true_eq];constructor<;>intro h<;>grind));(have h2:v=0→xU v=false:=by intro h;subst h;decide);exact aB h (by simp only [h1]at f1;rw [f1.1,f1.2];simp only [aW,kQ]<;>grind) rfl rfl))
def qa:Ctr Un:=⟨[.agg [.bool,.int .i64,.bool,.bool]],[],[],[],fun ma mb mc md K=>K ⟨(.tuple #[(.int .u32 ((Mp.mk ma mb mc md).word)),(.int .i64 ((Mp.mk ma mb mc md).err))]),(some (.t [none,none])),[],[],[]⟩⟩
theorem EC:LV Un prog 133 qa:=by
 show ∀(ma:Bool)(mb:Int)(mc:Bool)(md:Bool),∀Q:Ou Un→Prop,(Q ⟨(.tuple #[(.int .u32 ((Mp.mk ma mb mc md).word)),(.int .i64 ((Mp.mk ma mb mc md).err))]),(some (.t [none,none])),[],[],[]⟩)→∀(X:Nat→Nat→Prop)(w:World),Sat (U:=Un) [] X w→av (U:=Un) [] fr0 []→Calls prog 133 #[(.agg #[(.bool ma),(.int .i64 mb),(.bool mc),(.bool md)])] w (aS (U:=Un) [] [] X w Q)
 intro ma mb mc md Q hQ X w hs hl
 refine(Ir ma mb mc md).mono ?_
 rintro e w' ⟨u,rfl,rfl,q⟩
 exact aS.pu hs q hQ (KnO.tup _ (by simp))
end
section
set_option maxRecDepth 100000
set_option maxHeartbeats 1000000
attribute [local irreducible] Vc2 VcD
attribute [local grind=] Pd.eh Pd.eV Pd.km Pd.oe Pd.cD Pd.iH Pd.kj Pd.gV Pd.nU
attribute [local grind .] Pd.Ok.ent
attribute [local grind→] Pd.Ok.eU
theorem xB {E:Pd} {m:Mem}(h:m.Wf)(p o:Int):0≤(E.on m).word p o∧(E.on m).word p o<4294967296:=by
 show 0≤m.aY true p o∧m.aY true p o<_
 unfold Mem.aY
 split
 ·exact h.1 _ _ _
 ·omega
structure Au(D:DB)(p:Int)(l:List I64)(n:Int):Prop where
 len:l.length=D.S
 val:∀q:Int,0≤q→q<(D.S:Int)→(l.getD q.toNat (I64.mk 0)).v=D.named p n q
theorem ko(D:DB)(p q:Int) {n:Int}(h:0≤n):D.named p (n+1) q=D.named p n q+(if D.word p n !=0 && aW (D.word p n)==q then 1 else 0):=jQ h
theorem Au.zero(D:DB)(p:Int)(n:Nat)(h:n=D.S):Au D p (List.replicate n (I64.mk 0)) 0:=
 ⟨by simp [h],fun q h1 h2=>by rw [List.getD_eq_getElem?_getD,List.getElem?_replicate,if_pos (by omega)];rfl⟩
theorem Au.skip {D:DB} {p n:Int} {l:List I64}(h:Au D p l n)(h0:0≤n)(hw:D.word p n=0):Au D p l (n+1):=
 ⟨h.len,fun q h1 h2=>by rw [h.val q h1 h2,ko D p q h0,hw];simp⟩
theorem Au.put {D:DB} {p n:Int} {l:List I64}(h:Au D p l n)(h0:0≤n∧n<256)(hw:¬D.word p n=0)(hp:0≤aW (D.word p n)∧aW (D.word p n)<(D.S:Int)):
 Au D p (l.set (aW (D.word p n)).toNat (I64.mk (i64.wrap ((l.getD (aW (D.word p n)).toNat (I64.mk 0)).v+1)))) (n+1):=by
 refine⟨by simp [h.len],fun q h1 h2=>?_⟩
 have hr:=Di (f:=fun i=>D.word p i !=0 && aW (D.word p i)==aW (D.word p n)) h0.1
 have Qe:=oE (f:=fun i=>D.word p i !=0 && aW (D.word p i)==aW (D.word p n)) (n:=n)
 have hv:=h.val _ hp.1 hp.2
 rw [ko D p q h0.1,List.getD_eq_getElem?_getD,List.getElem?_set]
 by_cases hq:aW (D.word p n)=q
 ·subst hq
  rw [if_pos rfl,if_pos (by rw [h.len];omega)]
  show i64.wrap _=_
  rw [hv]
  unfold DB.named at *
  rw [aA (by omega)]
  simp [hw]
 ·rw [if_neg (by omega),← List.getD_eq_getElem?_getD,h.val q h1 h2]
  simp [hq]
end
section
set_option maxRecDepth 100000
set_option maxHeartbeats 1000000
attribute [local irreducible] Vc2 VcD
attribute [local grind=] Pd.eh Pd.eV Pd.km Pd.oe Pd.cD Pd.iH Pd.kj Pd.gV Pd.nU Pd.AT
attribute [local grind .] Pd.Ok.ent
attribute [local grind→] Pd.Ok.eU
section
attribute [local grind=] DB.entry DB.aR DB.of DB.is
end
section
attribute [local grind=] DB.entry DB.aR DB.of DB.is
end
section
attribute [local grind=] DB.entry DB.aR DB.of DB.is DB.tbl DB.cF DB.word
end
section
attribute [local grind=] DB.entry DB.aR DB.of DB.is DB.word DB.lJ DB.add Pd.lv Mem.aV
end
section
attribute [local grind=] DB.entry DB.aR DB.of DB.is DB.word DB.eG DB.plP DB.bJ DB.iC
end
section
attribute [local grind=] DB.entry DB.aR DB.of DB.is DB.word DB.eG DB.plP DB.bJ DB.iC
end
section
attribute [local grind=] DB.entry DB.aR DB.of DB.is DB.word DB.eG DB.plP DB.bJ DB.iC DB.iE DB.put Pd.lv Mem.aV
end
end
section
set_option maxRecDepth 100000
set_option maxHeartbeats 1000000
attribute [local irreducible] Vc2 VcD
attribute [local grind=] Pd.eh Pd.eV Pd.km Pd.oe Pd.cD Pd.iH Pd.kj Pd.gV Pd.nU Pd.AT
attribute [local grind .] Pd.Ok.ent
attribute [local grind→] Pd.Ok.eU
section
attribute [local grind=] DB.bj
end
section
attribute [local grind=] DB.bp
end
section
attribute [local grind=] DB.aE DB.bj DB.entry
end
section
attribute [local grind=] DB.eD
end
section
attribute [local grind=] DB.cn Pd.uQ DB.bj DB.bp
end
section
attribute [local grind=] DB.bM DB.bj DB.bp
end
section
attribute [local grind=] DB.cN DB.word DB.bj DB.bp
end
section
attribute [local grind=] DB.cH DB.eX DB.fM DB.bj DB.bp
end
section
attribute [local grind=] DB.cY DB.eX DB.fM DB.bj DB.bp
end
end
section
set_option maxRecDepth 100000
end
end Go.Proofs.YtinhphjfnedhgaaGreatDoor
namespace Go.Proofs.YtinhphjfnedhgaaGreatDoor
open Go.Proofs.Tryz (prog)
open Go Go.RowKit V
open Go.IntKind (i64 u32 u64)
section
set_option maxRecDepth 10000
set_option maxHeartbeats 1000000
def DB.row(D:DB)(p:Nat):List Value:= [.int .i64 (p:Int),.agg #[.int .i64 (D.ent p).typ,.int .i64 (D.ent p).owner,.int .i64 (D.ent p).refs,.int .i64 (D.ent p).state,.bool (D.ent p).bB]]
def DB.rows(D:DB):List (List Value):=(List.range D.S).map D.row
def fG.XI(L:fG)(g:Nat):Nat→Prop:=fun k=>L.X k∨k=g
theorem DBP.it {L:fG} {D:DB} {w A:World} {g:Nat}(h:DBP w L D)(k:Kept (L.XI g) w A):DBP A L D:=h.ch (Ch.IM k) fun _ hx hn=>hn (.inl hx)
end
end Go.Proofs.YtinhphjfnedhgaaGreatDoor
namespace Go.Proofs.YtinhphjfnedhgaaGreatDoor
open Go.Proofs.Tryz (prog)
open Go Go.RowKit V
open Go.IntKind (i64 u32 u64)
section
set_option maxRecDepth 100000
set_option maxHeartbeats 1000000
attribute [local irreducible] Vc2 VcD
attribute [local grind=] Pd.eh Pd.eV Pd.km Pd.oe Pd.cD Pd.iH Pd.kj Pd.gV Pd.nU
attribute [local grind .] Pd.Ok.ent
attribute [local grind→] Pd.Ok.eU
def oV:Ctr Un:=⟨[.one (.obj 0 0),.agg [.bool,.int .i64],.one (.int .i64)],[],[.ob 0 []],[],fun fa fb off rm m K=>K ⟨(.int .u32 (m.aY fa fb off)),none,[],[],[]⟩⟩
theorem Dz:LV Un prog 33 oV:=by
 show ∀(fa:Bool)(fb:Int)(off:Int)(rm:Nat→Nat)(m:Mem),∀Q:Ou Un→Prop,(Q ⟨(.int .u32 (m.aY fa fb off)),none,[],[],[]⟩)→∀(X:Nat→Nat→Prop)(w:World),Sat (U:=Un) [(.ob 0 rm m)] X w→av (U:=Un) [(.ob 0 rm m)] fr0 []→Calls prog 33 #[(.pointer (some (Addr.mk (rm 0) 0 none))),(.agg #[(.bool fa),(.int .i64 fb)]),(.int .i64 off)] w (aS (U:=Un) [(.ob 0 rm m)] [] X w Q)
 intro fa fb off rm m Q hQ X w hs hl
 obtain⟨L,hg,hM,hX⟩:=mF hs
 rw [hg]
 refine(LY hM fa fb off).mono ?_
 rintro e w' ⟨u,rfl,rfl,q⟩
 exact aS.pu hs q hQ trivial
def iT:Ctr Un:=⟨[.one (.obj 0 0),.agg [.bool,.int .i64],.one (.int .i64),.one (.int .u32)],[],[.ob 0 []],[0],fun fa fb off v rm m K=>(0≤(v:Int)∧(v:Int)<4294967296)∧K ⟨(.int .i64 (m.err fa fb off)),none,[.ob 0 (m.write fa fb off v)],[],[]⟩⟩
theorem tJ:LV Un prog 42 iT:=by
 show ∀(fa:Bool)(fb:Int)(off:Int)(v:Int)(rm:Nat→Nat)(m:Mem),∀Q:Ou Un→Prop,((0≤(v:Int)∧(v:Int)<4294967296)∧Q ⟨(.int .i64 (m.err fa fb off)),none,[.ob 0 (m.write fa fb off v)],[],[]⟩)→∀(X:Nat→Nat→Prop)(w:World),Sat (U:=Un) [(.ob 0 rm m)] X w→av (U:=Un) [(.ob 0 rm m)] fr0 []→Calls prog 42 #[(.pointer (some (Addr.mk (rm 0) 0 none))),(.agg #[(.bool fa),(.int .i64 fb)]),(.int .i64 off),(.int .u32 v)] w (aS (U:=Un) [(.ob 0 rm m)] [0] X w Q)
 intro fa fb off v rm m Q hQ X w hs hl
 obtain⟨Ni,hQ⟩:=hQ
 obtain⟨L,hg,hM,hX⟩:=mF hs
 rw [hg]
 refine(AY hM fa fb off v Ni).mono ?_
 rintro e w' ⟨u,rfl,rfl,h2,q⟩
 exact aS.one (Z:=X 0) (q.mono fun k hk=>(hX k).1 hk) (show cq 0 rm _ (X 0) w' from⟨L,hg,hX,h2⟩) (fun k hk=>.inl hk) hQ trivial
theorem KK {r rm:Nat→Nat} {E:Pd} {m:Mem}(hl:av (U:=Un) [.ob 1 r E,.ob 0 rm m] fr0 [(.l 0 1,.p (.obj 1 0 0))]):r 1=rm 0:=by
 obtain⟨t',r',s',Ug,hk⟩:=hl _ _ (List.mem_singleton.2 rfl)
 simp only [nth,Option.some.injEq,Res.ob.injEq]at Ug
 obtain⟨rfl,rfl,_⟩:=Ug
 have hk:some (Value.pointer (some ⟨rm 0,0,none⟩))=some (Value.pointer (some ⟨r 1,0,none⟩)):=hk
 simp only [Option.some.injEq,Value.pointer.injEq,Addr.mk.injEq]at hk
 exact hk.1.symm
def nF:Ctr Un:=⟨[.one (.obj 0 0)],[],[.ob 1 [(1,1,0)],.ob 0 []],[],fun r E rm m K=>K ⟨(.pointer (some (Addr.mk (r 1) 0 none))),(some (.p (.obj 1 0 0))),[],[],[]⟩⟩
def Ce(r:Nat→Nat)(E:Pd)(rm:Nat→Nat)(m:Mem)(Q:Ou Un→Prop):Prop:=
 Pd.Ok E→
 Mem.Wf m→
 Q ⟨(.pointer (some (Addr.mk (r 1) 0 none))),(some (.p (.obj 1 0 0))),[],[],[]⟩
theorem Cf:Vc2 Un prog (bw []) [] Tryz.f14 .leaf [] nF=(∀r (E:Pd) rm (m:Mem),∀Q,(nF.body r E rm m Q)→Ce r E rm m Q):=by kernel_rfl
theorem Cd:LV Un prog 14 nF:=verify Tryz.func14 aa (tb:= []) trivial (by kernel_rfl) (Cf.mpr fun r E rm m Q h f1 f2=>h)
def bf:Ctr Un:=⟨[.one (.obj 0 0)],[],[.ob 1 [(1,1,0)],.ob 0 []],[],fun r E rm m K=>K ⟨(.pointer (some (Addr.mk (rm 0) 0 none))),(some (.p (.obj 1 0 0))),[],[],[]⟩⟩
theorem cO:LV Un prog 14 bf:=by
 show ∀(r:Nat→Nat)(E:Pd)(rm:Nat→Nat)(m:Mem),∀Q:Ou Un→Prop,(Q ⟨(.pointer (some (Addr.mk (rm 0) 0 none))),(some (.p (.obj 1 0 0))),[],[],[]⟩)→∀(X:Nat→Nat→Prop)(w:World),Sat (U:=Un) [(.ob 1 r E),(.ob 0 rm m)] X w→av (U:=Un) [(.ob 1 r E),(.ob 0 rm m)] fr0 [(.l 0 1,.p (.obj 1 0 0))]→Calls prog 14 #[(.pointer (some (Addr.mk (r 0) 0 none)))] w (aS (U:=Un) [(.ob 1 r E),(.ob 0 rm m)] [] X w Q)
 intro r E rm m Q hQ X w hs hl
 exact Cd r E rm m Q (show Q ⟨.pointer (some (Addr.mk (r 1) 0 none)),some (.p (.obj 1 0 0)),[],[],[]⟩from(by rw [KK hl];exact hQ)) X w hs hl
def lZ:Ctr Un:=⟨[.one (.obj 0 0)],[],[.ob 1 [(1,1,0)],.ob 0 []],[],fun r E rm m K=>E.n=m.S∧K ⟨(.int .i64 ((E.on m).S:Int)),none,[],[],[]⟩⟩
theorem Al:LV Un prog 120 lZ:=by
 show ∀(r:Nat→Nat)(E:Pd)(rm:Nat→Nat)(m:Mem),∀Q:Ou Un→Prop,(E.n=m.S∧Q ⟨(.int .i64 ((E.on m).S:Int)),none,[],[],[]⟩)→∀(X:Nat→Nat→Prop)(w:World),Sat (U:=Un) [(.ob 1 r E),(.ob 0 rm m)] X w→av (U:=Un) [(.ob 1 r E),(.ob 0 rm m)] fr0 [(.l 0 1,.p (.obj 1 0 0))]→Calls prog 120 #[(.pointer (some (Addr.mk (r 0) 0 none)))] w (aS (U:=Un) [(.ob 1 r E),(.ob 0 rm m)] [] X w Q)
 intro r E rm m Q hQ X w hs hl
 obtain⟨hn,hQ⟩:=hQ
 obtain⟨a,L,hg,hr,hD,Qg,QJ⟩:=ya hs hl hn
 refine(G1 hD).mono ?_
 rintro e w' ⟨u,rfl,rfl,rfl⟩
 exact aS.pu hs (Ch.refl _ _) hQ trivial
def dj:Ctr Un:=⟨[.one (.obj 0 0),.one (.int .i64)],[],[.ob 1 [(1,1,0)],.ob 0 []],[],fun p r E rm m K=>E.n=m.S∧K ⟨(.tuple #[(.agg #[(.int .i64 (((E.on m).entry p).typ)),(.int .i64 (((E.on m).entry p).owner)),(.int .i64 (((E.on m).entry p).refs)),(.int .i64 (((E.on m).entry p).state)),(.bool (((E.on m).entry p).bB))]),(.int .i64 ((E.on m).aR p))]),(some (.t [none,none])),[],[],[]⟩⟩
theorem gI:LV Un prog 18 dj:=by
 show ∀(p:Int)(r:Nat→Nat)(E:Pd)(rm:Nat→Nat)(m:Mem),∀Q:Ou Un→Prop,(E.n=m.S∧Q ⟨(.tuple #[(.agg #[(.int .i64 (((E.on m).entry p).typ)),(.int .i64 (((E.on m).entry p).owner)),(.int .i64 (((E.on m).entry p).refs)),(.int .i64 (((E.on m).entry p).state)),(.bool (((E.on m).entry p).bB))]),(.int .i64 ((E.on m).aR p))]),(some (.t [none,none])),[],[],[]⟩)→∀(X:Nat→Nat→Prop)(w:World),Sat (U:=Un) [(.ob 1 r E),(.ob 0 rm m)] X w→av (U:=Un) [(.ob 1 r E),(.ob 0 rm m)] fr0 [(.l 0 1,.p (.obj 1 0 0))]→Calls prog 18 #[(.pointer (some (Addr.mk (r 0) 0 none))),(.int .i64 p)] w (aS (U:=Un) [(.ob 1 r E),(.ob 0 rm m)] [] X w Q)
 intro p r E rm m Q hQ X w hs hl
 obtain⟨hn,hQ⟩:=hQ
 obtain⟨a,L,hg,hr,hD,Qg,QJ⟩:=ya hs hl hn
 refine(K7 hD p).mono ?_
 rintro e w' ⟨u,rfl,rfl,q⟩
 exact aS.pu hs q hQ (KnO.tup _ (by simp))
def kM:Ctr Un:=⟨[.one (.obj 0 0),.one (.int .i64),.one (.int .i64)],[],[.ob 1 [(1,1,0)],.ob 0 []],[0,1],fun p q r E rm m K=>E.n=m.S∧K ⟨(.int .i64 ((E.on m).aQ p q)),none,[.ob 1 (((E.on m).aJ p q).pd),.ob 0 (((E.on m).aJ p q).mem)],[],[]⟩⟩
theorem xl:LV Un prog 60 kM:=by
 show ∀(p:Int)(q:Int)(r:Nat→Nat)(E:Pd)(rm:Nat→Nat)(m:Mem),∀Q:Ou Un→Prop,(E.n=m.S∧Q ⟨(.int .i64 ((E.on m).aQ p q)),none,[.ob 1 (((E.on m).aJ p q).pd),.ob 0 (((E.on m).aJ p q).mem)],[],[]⟩)→∀(X:Nat→Nat→Prop)(w:World),Sat (U:=Un) [(.ob 1 r E),(.ob 0 rm m)] X w→av (U:=Un) [(.ob 1 r E),(.ob 0 rm m)] fr0 [(.l 0 1,.p (.obj 1 0 0))]→Calls prog 60 #[(.pointer (some (Addr.mk (r 0) 0 none))),(.int .i64 p),(.int .i64 q)] w (aS (U:=Un) [(.ob 1 r E),(.ob 0 rm m)] [0,1] X w Q)
 intro p q r E rm m Q hQ X w hs hl
 obtain⟨hn,hQ⟩:=hQ
 obtain⟨a,L,hg,hr,hD,Qg,QJ⟩:=ya hs hl hn
 refine(Bj hD p q).mono ?_
 rintro e w' ⟨u,rfl,rfl,h2,q⟩
 exact CI hs Qg QJ hg hr h2 q hQ trivial
def kL:Ctr Un:=⟨[.one (.obj 0 0),.one (.int .i64),.one (.int .i64),.one (.int .i64)],[],[.ob 1 [(1,1,0)],.ob 0 []],[0,1],fun p t o r E rm m K=>E.n=m.S∧K ⟨(.int .i64 ((E.on m).bY p t o)),none,[.ob 1 (((E.on m).take p t o).pd),.ob 0 (((E.on m).take p t o).mem)],[],[]⟩⟩
theorem xk:LV Un prog 64 kL:=by
 show ∀(p:Int)(t:Int)(o:Int)(r:Nat→Nat)(E:Pd)(rm:Nat→Nat)(m:Mem),∀Q:Ou Un→Prop,(E.n=m.S∧Q ⟨(.int .i64 ((E.on m).bY p t o)),none,[.ob 1 (((E.on m).take p t o).pd),.ob 0 (((E.on m).take p t o).mem)],[],[]⟩)→∀(X:Nat→Nat→Prop)(w:World),Sat (U:=Un) [(.ob 1 r E),(.ob 0 rm m)] X w→av (U:=Un) [(.ob 1 r E),(.ob 0 rm m)] fr0 [(.l 0 1,.p (.obj 1 0 0))]→Calls prog 64 #[(.pointer (some (Addr.mk (r 0) 0 none))),(.int .i64 p),(.int .i64 t),(.int .i64 o)] w (aS (U:=Un) [(.ob 1 r E),(.ob 0 rm m)] [0,1] X w Q)
 intro p t o r E rm m Q hQ X w hs hl
 obtain⟨hn,hQ⟩:=hQ
 obtain⟨a,L,hg,hr,hD,Qg,QJ⟩:=ya hs hl hn
 refine(Mg hD p t o).mono ?_
 rintro e w' ⟨u,rfl,rfl,h2,q⟩
 exact CI hs Qg QJ hg hr h2 q hQ trivial
def xn:Ctr Un:=⟨[.one (.obj 0 0),.one (.int .i64)],[],[.ob 1 [(1,1,0)],.ob 0 []],[0,1],fun p r E rm m K=>E.n=m.S∧K ⟨(.int .i64 ((E.on m).cR p)),none,[.ob 1 (((E.on m).dB p).pd),.ob 0 (((E.on m).dB p).mem)],[],[]⟩⟩
theorem JW:LV Un prog 45 xn:=by
 show ∀(p:Int)(r:Nat→Nat)(E:Pd)(rm:Nat→Nat)(m:Mem),∀Q:Ou Un→Prop,(E.n=m.S∧Q ⟨(.int .i64 ((E.on m).cR p)),none,[.ob 1 (((E.on m).dB p).pd),.ob 0 (((E.on m).dB p).mem)],[],[]⟩)→∀(X:Nat→Nat→Prop)(w:World),Sat (U:=Un) [(.ob 1 r E),(.ob 0 rm m)] X w→av (U:=Un) [(.ob 1 r E),(.ob 0 rm m)] fr0 [(.l 0 1,.p (.obj 1 0 0))]→Calls prog 45 #[(.pointer (some (Addr.mk (r 0) 0 none))),(.int .i64 p)] w (aS (U:=Un) [(.ob 1 r E),(.ob 0 rm m)] [0,1] X w Q)
 intro p r E rm m Q hQ X w hs hl
 obtain⟨hn,hQ⟩:=hQ
 obtain⟨a,L,hg,hr,hD,Qg,QJ⟩:=ya hs hl hn
 refine(Mj hD p).mono ?_
 rintro e w' ⟨u,rfl,rfl,h2,q⟩
 exact CI hs Qg QJ hg hr h2 q hQ trivial
def lY:Ctr Un:=⟨[.one (.obj 0 0),.one (.int .i64),.one (.int .i64)],[],[.ob 1 [(1,1,0)],.ob 0 []],[0,1],fun p t r E rm m K=>E.n=m.S∧K ⟨(.int .i64 ((E.on m).aT p t)),none,[.ob 1 (((E.on m).setState p t).pd),.ob 0 (((E.on m).setState p t).mem)],[],[]⟩⟩
theorem Ai:LV Un prog 43 lY:=by
 show ∀(p:Int)(t:Int)(r:Nat→Nat)(E:Pd)(rm:Nat→Nat)(m:Mem),∀Q:Ou Un→Prop,(E.n=m.S∧Q ⟨(.int .i64 ((E.on m).aT p t)),none,[.ob 1 (((E.on m).setState p t).pd),.ob 0 (((E.on m).setState p t).mem)],[],[]⟩)→∀(X:Nat→Nat→Prop)(w:World),Sat (U:=Un) [(.ob 1 r E),(.ob 0 rm m)] X w→av (U:=Un) [(.ob 1 r E),(.ob 0 rm m)] fr0 [(.l 0 1,.p (.obj 1 0 0))]→Calls prog 43 #[(.pointer (some (Addr.mk (r 0) 0 none))),(.int .i64 p),(.int .i64 t)] w (aS (U:=Un) [(.ob 1 r E),(.ob 0 rm m)] [0,1] X w Q)
 intro p t r E rm m Q hQ X w hs hl
 obtain⟨hn,hQ⟩:=hQ
 obtain⟨a,L,hg,hr,hD,Qg,QJ⟩:=ya hs hl hn
 refine(El hD p t).mono ?_
 rintro e w' ⟨u,rfl,rfl,h2,q⟩
 exact CI hs Qg QJ hg hr h2 q hQ trivial
end
section
set_option maxRecDepth 100000
set_option maxHeartbeats 1000000
attribute [local irreducible] Vc2 VcD
def iQ:Ctr Un:=⟨[.one (.sl 0)],[],[.ob 7 []],[],fun rw l K=>dP l∧split (decide (Dg.aw l=0)) (∀(rN:Nat→Nat),K ⟨(.tuple #[(.pointer (some (Addr.mk (rN 0) 0 none))),(.int .i64 0)]),(some (.t [(some (.obj 1 0 0)),none])),[],[(.ob 4 rN (Dg.load l))],[]⟩) (∀(dp:Value),K ⟨(.tuple #[dp,(.int .i64 (Dg.aw l))]),(some (.t [none,none])),[],[],[]⟩)⟩
theorem tB:LV Un prog 70 iQ:=by
 show ∀(rw:Nat→Nat)(l:List U32),∀Q:Ou Un→Prop,(dP l∧split (decide (Dg.aw l=0)) (∀(rN:Nat→Nat),Q ⟨(.tuple #[(.pointer (some (Addr.mk (rN 0) 0 none))),(.int .i64 0)]),(some (.t [(some (.obj 1 0 0)),none])),[],[(.ob 4 rN (Dg.load l))],[]⟩) (∀(dp:Value),Q ⟨(.tuple #[dp,(.int .i64 (Dg.aw l))]),(some (.t [none,none])),[],[],[]⟩))→∀(X:Nat→Nat→Prop)(w:World),Sat (U:=Un) [(.ob 7 rw l)] X w→av (U:=Un) [(.ob 7 rw l)] fr0 []→Calls prog 70 #[(.slice (some (Addr.mk (rw 0) 0 none)) l.length l.length)] w (aS (U:=Un) [(.ob 7 rw l)] [] X w Q)
 intro rw l Q hQ X w hs hl
 obtain⟨hw,hQ⟩:=hQ
 obtain⟨hX,Sd⟩:=(hs.res 0 _ rfl:cq 7 rw l (X 0) w)
 have hr:Rd w (X 0) (some (Addr.mk (rw 0) 0 none)) l.length l.length l:=CE hX Sd
 refine(LF hr hw).mono ?_
 rintro e w' ⟨u,rfl,p,rfl,Oz,q⟩
 by_cases he:Dg.aw l=0
 ·obtain⟨g,L,rfl,hD,hlo⟩:=Oz he
  have hQ:=bU hQ (decide_eq_true he) (fun _=>g)
  rw [he]
  exact aS.sD (Z:=L.X g) hs q (show RS (U:=Un) (L.X g) w' (.ob 4 (fun _=>g) (Dg.load l))from(⟨L,fun _=>Iff.rfl,hD⟩:cq 4 (fun _=>g) (Dg.load l) (L.X g) w')) hlo hQ (KnO.pair rfl) (fun _ _ h=>by cases h)
 ·exact aS.pu hs q (bV hQ (decide_eq_false he) (.pointer p)) (KnO.tup _ (by simp))
def lL:Ctr Un:=⟨[],[],[],[],fun K=>K ⟨(.agg ⟨Dg.sv Dg.new⟩),none,[],[],[]⟩⟩
def HH(Q:Ou Un→Prop):Prop:=
 ∀(gv:Nat),
 ∀(s:List U32),s=(W26.n (W26.mk []))→
 ∀(rN:Nat→Nat),
 ∀(s1:Dg),s1=Dg.new→
 s1.Ok∧
 (s.length=26)∧
 ∀(s2:List U32),s2=(Dg.svL s1)→
 (s2.length=26)∧
 Q ⟨(.agg ⟨W26.c (W26.mk s2)⟩),none,[],[],[]⟩
theorem HI:Vc2 Un prog (bw [(125,tA),(126,kD)]) [] Tryz.f62 .leaf [] lL=(∀Q,(lL.body Q)→HH Q):=by kernel_rfl
theorem HG:LV Un prog 62 lL:=verify Tryz.func62 aa (tb:= [(125,tA),(126,kD)]) ⟨HE,wO,trivial⟩ (by kernel_rfl) (HI.mpr fun Q h gv s Wz rN s1 Qf=>ao (by rw [Qf];exact Dg.ju) fun s1=>ao (by rw [Wz];rfl) fun s2 s2 Oj=>ao (by rw [Oj];rfl) fun s3=>aB h (by rw [Oj,Qf];rfl) rfl rfl)
def gG:Ctr Un:=⟨[.agg [.int .i64,.int .u32],.one (.nsl)],[],[],[],fun k a K=>∀(A:Option Addr)(c:Nat),K ⟨(.slice A ([U32.mk (u32.wrap k),U32.mk a].length) c),(some (.p (.sl 0 0))),[],[(.lst 1 true 29 A c ([U32.mk (u32.wrap k),U32.mk a]))],[]⟩⟩
def zn(k:Int)(a:Int)(Q:Ou Un→Prop):Prop:=
 ∀(gv:Nat),
 ∀(Nc:Nat),
 ∀(l:List U32),l=([U32.mk (u32.wrap k),U32.mk a]:List U32)→
 (l.length*4≤140737488355328)∧
 ∀(A:Option Addr)(c:Nat),
 ∀(l1:List U32),l1=l→
 Q ⟨(.slice A l.length c),(some (.p (.sl 0 0))),[],[(.lst 1 true 29 A c l1)],[]⟩
theorem zo:Vc2 Un prog (bw []) [] Tryz.f219 .leaf [2] gG=(∀k a,∀Q,(gG.body k a Q)→zn k a Q):=by kernel_rfl
theorem zm:LV Un prog 219 gG:=verify Tryz.func219 aa (tb:= []) trivial (by kernel_rfl) (zo.mpr fun k a Q h gv Nc l Vb=>ao (by grind) fun s1 A c l1 Ry=>(by(have hl9: [U32.mk (u32.wrap k),U32.mk a]=l1:=by subst_vars;rfl);exact aB (h A c) (by grind) rfl (ab (congrArg (Res.lst (U:=Un) 1 true 29 _ _) ‹_›) rfl)))
def qH:Ctr Un:=⟨[.agg [.int .u32,.sl 0],.one (.nsl)],[],[.lst 1 false 29],[],fun a A0 c0 l K=>l.length≤1024∧∀(A:Option Addr)(c:Nat),K ⟨(.slice A (([U32.mk 3,U32.mk a]++(show List U32 from l)).length) c),(some (.p (.sl 1 0))),[],[(.lst 1 true 29 A c ([U32.mk 3,U32.mk a]++(show List U32 from l)))],[]⟩⟩
def zr(a:Int)(A0:Option Addr)(c0:Nat)(l:List U32)(Q:Ou Un→Prop):Prop:=
 ∀(gv:Nat),
 ∀(Nc:Nat),
 ∀(l1:List U32),l1=([U32.mk 3,U32.mk a]:List U32)→
 (l1.length*4≤140737488355328)∧
 ∀(A:Option Addr)(c:Nat),
 ∀(l2:List U32),l2=l1→
 ((l2.length+l.length)*4≤140737488355328)∧
 ∀(A1:Option Addr)(c1:Nat),
 ∀(l3:List U32),l3=(l2++l)→
 Q ⟨(.slice A1 ((l2++l).length) c1),(some (.p (.sl 1 0))),[],[(.lst 1 true 29 A1 c1 l3)],[]⟩
theorem zt:Vc2 Un prog (bw []) [] Tryz.f218 (.r' (.two (.node [] none [] [(2,[1]),(6,[1])] .leaf .leaf) .leaf)) [3] qH=(∀a A0 c0 (l:List U32),∀Q,(l.length≤1024∧∀(A:Option Addr)(c:Nat),Q ⟨(.slice A (([U32.mk 3,U32.mk a]++(show List U32 from l)).length) c),(some (.p (.sl 1 0))),[],[(.lst 1 true 29 A c ([U32.mk 3,U32.mk a]++(show List U32 from l)))],[]⟩)→zr a A0 c0 l Q):=by kernel_rfl
theorem zq:LV Un prog 218 qH:=verify Tryz.func218 aa (tb:= []) trivial (by kernel_rfl) (zt.mpr fun a A0 c0 l Q h=>by
 obtain⟨Ni,h⟩:=h
 exact fun gv Nc l1 Ry=>ao (by subst_vars;simp;try omega) fun s1 A c l2 Rx=>ao (by subst_vars;simp;try omega) fun s2 A1 c1 l3 h_l3=>(by(have hl9: [U32.mk 3,U32.mk a]++l=l3:=by subst_vars;rfl);exact aB (h A1 c1) (by grind) rfl (ab (congrArg (Res.lst (U:=Un) 1 true 29 _ _) ‹_›) rfl)))
def nh:Ctr Un:=⟨[.agg [.int .u32,.hdr],.one (.nsl)],[(0,8)],[.ob 8 []],[],fun a A0 n0 c0 rw x K=>(A0=Wt.A x∧n0=(Wt.l x).length∧c0=Wt.c x)∧(Wt.l x).length≤1024∧∀(A:Option Addr)(c:Nat),K ⟨(.slice A (([U32.mk 3,U32.mk a]++(show List U32 from(Wt.l x))).length) c),(some (.p (.sl 1 0))),[],[(.lst 1 true 29 A c ([U32.mk 3,U32.mk a]++(show List U32 from(Wt.l x))))],[]⟩⟩
theorem BO:LV Un prog 218 nh:=by
 show ∀(a:Int)(A0:Option Addr)(n0:Nat)(c0:Nat) (rw:Nat→Nat)(x:Wt),∀Q:Ou Un→Prop,((A0=Wt.A x∧n0=(Wt.l x).length∧c0=Wt.c x)∧(Wt.l x).length≤1024∧∀(A:Option Addr)(c:Nat),Q ⟨(.slice A (([U32.mk 3,U32.mk a]++(show List U32 from(Wt.l x))).length) c),(some (.p (.sl 1 0))),[],[(.lst 1 true 29 A c ([U32.mk 3,U32.mk a]++(show List U32 from(Wt.l x))))],[]⟩)→∀(X:Nat→Nat→Prop)(w:World),Sat (U:=Un) [(.ob 8 rw x)] X w→av (U:=Un) [(.ob 8 rw x)] fr0 []→Calls prog 218 #[(.agg #[(.int .u32 a),(.slice A0 n0 c0)]),(.slice none 0 0)] w (aS (U:=Un) [(.ob 8 rw x)] [] X w Q)
 intro a A0 n0 c0 rw x Q hQ X w hs hl
 obtain⟨⟨rfl,rfl,rfl⟩,hle,hQ⟩:=hQ
 refine(zq a x.A x.c x.l (fun out=>Q out∧∃A c,out=⟨.slice A ([U32.mk 3,U32.mk a]++x.l).length c,some (.p (.sl 1 0)),[],[.lst 1 true 29 A c ([U32.mk 3,U32.mk a]++x.l)],[]⟩) ⟨hle,fun A c=>⟨hQ A c,A,c,rfl⟩⟩ X w (show Sat (U:=Un) [.lst 1 false 29 x.A x.c x.l] X w from Sat.swap (rs:= [.ob 8 rw x]) rfl (yl (x:=x)) hs) (fun _ _ h=>by cases h)).mono fun e w' h=>?_
 refine aS.swap (rs:= [.lst 1 false 29 x.A x.c x.l]) rfl (Ct (x:=x)) (fun out h=>?_) (show aS (U:=Un) [.lst 1 false 29 x.A x.c x.l] [] X w _ e w' from h)
 obtain⟨h,A,c,rfl⟩:=h
 exact⟨h,id,rfl⟩
def jU:Ctr Un:=⟨[.agg [.int .i64,.int .u32,.nsl]],[],[],[],fun k a K=>((k:Int)=1∨(k:Int)=2∨(k:Int)=4)∧K ⟨(.tuple #[(.iface 260 (.agg #[(.int .i64 k),(.int .u32 a)])),(.int .i64 0)]),(some (.t [none,none])),[],[],[]⟩⟩
def EI(k:Int)(a:Int)(Q:Ou Un→Prop):Prop:=
 ∀(gv:Nat),
 ∃J:Bool→Prop,(
  split (k==3) (
   ∀x4:Bool,x4=((((0:Nat):Int):Int)==1024)→
   J x4) (
   ∀x4:Bool,x4=false→
   J x4))∧∀(NR:Nat→Value)(x4:Bool),J x4→
 split x4 (
  Q ⟨(.tuple #[(.iface 258 (.agg #[(.int .u32 a),(.slice none 0 0)])),(.int .i64 0)]),(some (.t [none,none])),[],[],[]⟩) (
  ∃J1:Bool→Prop,(
   split (decide (k≥1)) (
    split (decide (k<5)) (
     split (k !=3) (
      ∀NU:Bool,NU=((((0:Nat):Int):Int)==0)→
      J1 NU) (
      ∀NU:Bool,NU=false→
      J1 NU)) (
     ∀NU:Bool,NU=false→
     J1 NU)) (
    ∀NU:Bool,NU=false→
    J1 NU))∧∀(Oq:Nat→Value)(NU:Bool),J1 NU→
  split NU (
   Q ⟨(.tuple #[(.iface 260 (.agg #[(.int .i64 k),(.int .u32 a)])),(.int .i64 0)]),(some (.t [none,none])),[],[],[]⟩) (
   Q ⟨(.tuple #[.nilIface,(.int .i64 150)]),(some (.t [none,none])),[],[],[]⟩))
theorem EJ:Vc2 Un prog (bw []) [4,20] Tryz.f134 (.r' (.two (.two (.two (.node [] (some ⟨[(4,(.one .bool))],[],upN 4 10,[]⟩) [] [] .leaf .leaf) (.r' (.two (.node [] (some ⟨[(20,(.one .bool))],[],upN 20 20,[]⟩) [] [] .leaf .leaf) .leaf))) .leaf) .leaf)) [] jU=(∀k a,∀Q,(jU.body k a Q)→EI k a Q):=by kernel_rfl
theorem EH:LV Un prog 134 jU:=verify Tryz.func134 aa (tb:= []) trivial (by kernel_rfl) (EJ.mpr fun k a Q h=>by
 obtain⟨Ni,h⟩:=h
 exact fun gv=>gh (((k:Int)==3) && ((((0:Nat):Int):Int)==1024)) (ae (fun c1=>allEq<| (by grind)) fun c1=>allEq<| (by grind))<| eS (fun c2=>aB h (congrArg (fun l=>Value.tuple (List.toArray l)) (ab (by grind) (ab rfl rfl))) rfl rfl) fun c2=>gh ((decide ((k:Int)≥1)) && ((decide ((k:Int)<5)) && (((k:Int) !=3) && ((((0:Nat):Int):Int)==0)))) (ae (fun c3=>ae (fun c4=>ae (fun c5=>allEq<| (by grind)) fun c5=>allEq<| (by grind)) fun c4=>allEq<| (by grind)) fun c3=>allEq<| (by grind))<| eS (fun c6=>h) fun c6=>aB h (congrArg (fun l=>Value.tuple (List.toArray l)) (ab (by grind) (ab (cG (by grind)) rfl))) rfl rfl)
def jV:Ctr Un:=⟨[.agg [.int .i64,.int .u32,.hdr]],[],[],[],fun k a A0 n0 c0 K=>(k:Int)=3∧n0=1024∧K ⟨(.tuple #[(.iface 258 (.agg #[(.int .u32 a),(.slice A0 n0 c0)])),(.int .i64 0)]),(some (.t [none,none])),[],[],[]⟩⟩
def EL(k:Int)(a:Int)(A0:Option Addr)(n0:Nat)(c0:Nat)(Q:Ou Un→Prop):Prop:=
 ∀(gv:Nat),
 ∃J:Bool→Prop,(
  split (k==3) (
   ∀x4:Bool,x4=((((n0:Nat):Int):Int)==1024)→
   J x4) (
   ∀x4:Bool,x4=false→
   J x4))∧∀(NR:Nat→Value)(x4:Bool),J x4→
 split x4 (
  Q ⟨(.tuple #[(.iface 258 (.agg #[(.int .u32 a),(.slice A0 n0 c0)])),(.int .i64 0)]),(some (.t [none,none])),[],[],[]⟩) (
  ∃J1:Bool→Prop,(
   split (decide (k≥1)) (
    split (decide (k<5)) (
     split (k !=3) (
      ∀NU:Bool,NU=((((n0:Nat):Int):Int)==0)→
      J1 NU) (
      ∀NU:Bool,NU=false→
      J1 NU)) (
     ∀NU:Bool,NU=false→
     J1 NU)) (
    ∀NU:Bool,NU=false→
    J1 NU))∧∀(Oq:Nat→Value)(NU:Bool),J1 NU→
  split NU (
   Q ⟨(.tuple #[(.iface 260 (.agg #[(.int .i64 k),(.int .u32 a)])),(.int .i64 0)]),(some (.t [none,none])),[],[],[]⟩) (
   Q ⟨(.tuple #[.nilIface,(.int .i64 150)]),(some (.t [none,none])),[],[],[]⟩))
theorem EM:Vc2 Un prog (bw []) [4,20] Tryz.f134 (.r' (.two (.two (.two (.node [] (some ⟨[(4,(.one .bool))],[],upN 4 10,[]⟩) [] [] .leaf .leaf) (.r' (.two (.node [] (some ⟨[(20,(.one .bool))],[],upN 20 20,[]⟩) [] [] .leaf .leaf) .leaf))) .leaf) .leaf)) [] jV=(∀k a A0 n0 c0,∀Q,(jV.body k a A0 n0 c0 Q)→EL k a A0 n0 c0 Q):=by kernel_rfl
theorem EK:LV Un prog 134 jV:=verify Tryz.func134 aa (tb:= []) trivial (by kernel_rfl) (EM.mpr fun k a A0 n0 c0 Q h=>by
 obtain⟨Ni,NI,h⟩:=h
 exact fun gv=>gh (((k:Int)==3) && ((((n0:Nat):Int):Int)==1024)) (ae (fun c1=>allEq<| (by grind)) fun c1=>allEq<| (by grind))<| eS (fun c2=>h) fun c2=>gh ((decide ((k:Int)≥1)) && ((decide ((k:Int)<5)) && (((k:Int) !=3) && ((((n0:Nat):Int):Int)==0)))) (ae (fun c3=>ae (fun c4=>ae (fun c5=>allEq<| (by grind)) fun c5=>allEq<| (by grind)) fun c4=>allEq<| (by grind)) fun c3=>allEq<| (by grind))<| eS (fun c6=>aB h (congrArg (fun l=>Value.tuple (List.toArray l)) (ab (by grind) (ab rfl rfl))) rfl rfl) fun c6=>aB h (congrArg (fun l=>Value.tuple (List.toArray l)) (ab (by grind) (ab (cG (by grind)) rfl))) rfl rfl)
def iS:Ctr Un:=⟨[.enc 8,.agg [.int .i64,.int .u32,.nsl]],[(0,5)],[.ob 5 []],[],fun f k a rk kk K=>W26.Ok f∧(0≤(a:Int)∧(a:Int)<4294967296)∧((k:Int)=1∨(k:Int)=2∨(k:Int)=4)∧split (decide ((Dg.aw (W26.n f))=0)) (K ⟨(.tuple #[(.agg ⟨Dg.sv ((Dg.load (W26.n f)).add kk (opW k a []))⟩),(.int .i64 0)]),(some (.t [none,none])),[],[],[]⟩) (K ⟨(.tuple #[(.agg ⟨W26.c (W26.mk [])⟩),(.int .i64 (Dg.aw (W26.n f)))]),(some (.t [none,none])),[],[],[]⟩)⟩
def BT(f:W26)(k:Int)(a:Int)(rk:Nat→Nat)(kk:List Int)(Q:Ou Un→Prop):Prop:=
 ∀(gv:Nat),
 ∀(s:List U32),s=(W26.n f)→
 ∀(Nc:Nat),
 ∀(N8:Nat),
 ∀(s1:List U32),s1=(W26.n (W26.mk []))→
 (k=1∨k=2∨k=4)∧
 ((s.length=26∧s.length=26)∧0<26)∧
 dP s∧
 split (decide (Dg.aw s=0)) (
  ∀(rN:Nat→Nat),
  ∀(s2:Dg),s2=(Dg.load s)→
  ∀(A:Option Addr)(c:Nat),
  ∀(l:List U32),l= [U32.mk (u32.wrap k),U32.mk a]→
  s2.Ok∧
  l.length≤1099511627776∧
  ∀(s3:Dg),s3=(s2.add kk l)→
  s3.Ok∧
  (s1.length=26)∧
  ∀(s4:List U32),s4=(Dg.svL s3)→
  (s4.length=26)∧
  Q ⟨(.tuple #[(.agg ⟨W26.c (W26.mk s4)⟩),(.int .i64 0)]),(some (.t [none,none])),[],[],[]⟩) (
  ∀(dp:Value),
  split ((Dg.aw s) !=0) (
   (s1.length=26)∧
   ∀(s2:List U32),s2=(W26.n (W26.mk []))→
   (s2.length=26)∧
   Q ⟨(.tuple #[(.agg ⟨W26.c (W26.mk s2)⟩),(.int .i64 (Dg.aw s))]),(some (.t [none,none])),[],[],[]⟩) (
   ∀(A:Option Addr)(c:Nat),
   ∀(l:List U32),l= [U32.mk (u32.wrap k),U32.mk a]→
   False))
theorem BU:Vc2 Un prog (bw [(134,jU),(70,iQ),(219,gG),(135,ng),(126,kD)]) [] Tryz.f68 .leaf [] iS=(∀(f:W26) k a rk (kk:List Int),∀Q,(iS.body f k a rk kk Q)→BT f k a rk kk Q):=by kernel_rfl
theorem BS:LV Un prog 68 iS:=verify Tryz.func68 aa (tb:= [(134,jU),(70,iQ),(219,gG),(135,ng),(126,kD)]) ⟨EH,tB,zm,BJ,wO,trivial⟩ (by kernel_rfl) (BU.mpr fun f k a rk kk Q h=>by
 obtain⟨Ni,NI,NZ,h⟩:=h
 exact fun gv s Wz Nc N8 s1 Qf=>ao ‹_› fun e1=>ao (by subst_vars;exact⟨⟨rfl,rfl⟩,by omega⟩) fun e2=>ao (by subst_vars;assumption) fun e3=>aq (fun c1 rN s2 Oj A c l Vb=>ao (by subst_vars;exact(Dg.eo Ni (by simpa using c1)).1) fun e4=>ao (by grind) fun e5 s3 NY=>ao (by subst_vars;exact Dg.pZ (Dg.eo Ni (by simpa using c1)).1 (Ay NI NZ)) fun e6=>ao (by subst_vars;rfl) fun e7 s4 acx=>ao (by subst_vars;rfl) fun e8=>aB (bU h (by grind)) (by subst_vars;rw [uP NZ];rfl) rfl rfl) fun c1 dp=>aN (fun c2=>ao (by subst_vars;rfl) fun e9 s2 Oj=>ao (by grind) fun e10=>aB (bV h (by grind)) (by subst_vars;rfl) rfl rfl) fun c2 A c l Vb=>(by exfalso;omega))
def nk:Ctr Un:=⟨[.enc 8,.agg [.int .i64,.int .u32,.hdr]],[(0,8),(1,5)],[.ob 8 [],.ob 5 []],[],fun f k a A0 n0 c0 rw x rk kk K=>W26.Ok f∧(0≤(a:Int)∧(a:Int)<4294967296)∧(k:Int)=3∧(A0=Wt.A x∧n0=(Wt.l x).length∧c0=Wt.c x)∧(Wt.l x).length=1024∧dP (Wt.l x)∧split (decide ((Dg.aw (W26.n f))=0)) (K ⟨(.tuple #[(.agg ⟨Dg.sv ((Dg.load (W26.n f)).add kk (opW k a (Wt.l x)))⟩),(.int .i64 0)]),(some (.t [none,none])),[],[],[]⟩) (K ⟨(.tuple #[(.agg ⟨W26.c (W26.mk [])⟩),(.int .i64 (Dg.aw (W26.n f)))]),(some (.t [none,none])),[],[],[]⟩)⟩
def BQ(f:W26)(k:Int)(a:Int)(A0:Option Addr)(n0:Nat)(c0:Nat) (rw:Nat→Nat)(x:Wt)(rk:Nat→Nat)(kk:List Int)(Q:Ou Un→Prop):Prop:=
 ∀(gv:Nat),
 ∀(s:List U32),s=(W26.n f)→
 ∀(Nc:Nat),
 ∀(N8:Nat),
 ∀(s1:List U32),s1=(W26.n (W26.mk []))→
 k=3∧
 n0=1024∧
 ((s.length=26∧s.length=26)∧0<26)∧
 dP s∧
 split (decide (Dg.aw s=0)) (
  ∀(rN:Nat→Nat),
  ∀(s2:Dg),s2=(Dg.load s)→
  (A0=Wt.A x∧n0=(Wt.l x).length∧c0=Wt.c x)∧
  (Wt.l x).length≤1024∧
  ∀(A:Option Addr)(c:Nat),
  ∀(l:List U32),l=([U32.mk 3,U32.mk a]++(show List U32 from(Wt.l x)))→
  s2.Ok∧
  l.length≤1099511627776∧
  ∀(s3:Dg),s3=(s2.add kk l)→
  s3.Ok∧
  (s1.length=26)∧
  ∀(s4:List U32),s4=(Dg.svL s3)→
  (s4.length=26)∧
  Q ⟨(.tuple #[(.agg ⟨W26.c (W26.mk s4)⟩),(.int .i64 0)]),(some (.t [none,none])),[],[],[]⟩) (
  ∀(dp:Value),
  split ((Dg.aw s) !=0) (
   (s1.length=26)∧
   ∀(s2:List U32),s2=(W26.n (W26.mk []))→
   (s2.length=26)∧
   Q ⟨(.tuple #[(.agg ⟨W26.c (W26.mk s2)⟩),(.int .i64 (Dg.aw s))]),(some (.t [none,none])),[],[],[]⟩) (
   (A0=Wt.A x∧n0=(Wt.l x).length∧c0=Wt.c x)∧
   (Wt.l x).length≤1024∧
   ∀(A:Option Addr)(c:Nat),
   ∀(l:List U32),l=([U32.mk 3,U32.mk a]++(show List U32 from(Wt.l x)))→
   False))
theorem BR:Vc2 Un prog (bw [(134,jV),(70,iQ),(218,nh),(135,ng),(126,kD)]) [] Tryz.f68 .leaf [] nk=(∀(f:W26) k a A0 n0 c0 rw (x:Wt) rk (kk:List Int),∀Q,(nk.body f k a A0 n0 c0 rw x rk kk Q)→BQ f k a A0 n0 c0 rw x rk kk Q):=by kernel_rfl
theorem BP:LV Un prog 68 nk:=verify Tryz.func68 aa (tb:= [(134,jV),(70,iQ),(218,nh),(135,ng),(126,kD)]) ⟨EK,tB,BO,BJ,wO,trivial⟩ (by kernel_rfl) (BR.mpr fun f k a A0 n0 c0 rw x rk kk Q h=>by
 obtain⟨Ni,NI,NZ,Wm,US,hp5,h⟩:=h
 exact fun gv s Wz Nc N8 s1 Qf=>ao ‹_› fun e1=>ao (by omega) fun e2=>ao (by subst_vars;exact⟨⟨rfl,rfl⟩,by omega⟩) fun e3=>ao (by subst_vars;assumption) fun e4=>aq (fun c1 rN s2 Oj=>ao ‹_› fun e5=>ao (by omega) fun e6 A c l Vb=>ao (by subst_vars;exact(Dg.eo Ni (by simpa using c1)).1) fun e7=>ao (by grind) fun e8 s3 NY=>ao (by subst_vars;exact Dg.pZ (Dg.eo Ni (by simpa using c1)).1 (DH NI hp5)) fun e9=>ao (by subst_vars;rfl) fun e10 s4 acx=>ao (by subst_vars;rfl) fun e11=>aB (bU h (by grind)) (by subst_vars;rfl) rfl rfl) fun c1 dp=>aN (fun c2=>ao (by subst_vars;rfl) fun e12 s2 Oj=>ao (by grind) fun e13=>aB (bV h (by grind)) (by subst_vars;rfl) rfl rfl) fun c2=>ao ‹_› fun e14=>ao (by omega) fun e15 A c l Vb=>(by exfalso;omega))
def nm:Ctr Un:=⟨[.enc 8,.agg [.int .i64,.int .u32,.sl 0]],[(1,5)],[.lst 1 false 29,.ob 5 []],[],fun f k a A0 c0 l rk kk K=>W26.Ok f∧(0≤(a:Int)∧(a:Int)<4294967296)∧(k:Int)=3∧l.length=1024∧dP l∧split (decide ((Dg.aw (W26.n f))=0)) (K ⟨(.tuple #[(.agg ⟨Dg.sv ((Dg.load (W26.n f)).add kk (opW k a l))⟩),(.int .i64 0)]),(some (.t [none,none])),[],[],[]⟩) (K ⟨(.tuple #[(.agg ⟨W26.c (W26.mk [])⟩),(.int .i64 (Dg.aw (W26.n f)))]),(some (.t [none,none])),[],[],[]⟩)⟩
theorem BV:LV Un prog 68 nm:=by
 show ∀(f:W26)(k:Int)(a:Int)(A0:Option Addr)(c0:Nat)(l:List U32)(rk:Nat→Nat)(kk:List Int),∀Q:Ou Un→Prop,(W26.Ok f∧(0≤(a:Int)∧(a:Int)<4294967296)∧(k:Int)=3∧l.length=1024∧dP l∧split (decide ((Dg.aw (W26.n f))=0)) (Q ⟨(.tuple #[(.agg ⟨Dg.sv ((Dg.load (W26.n f)).add kk (opW k a l))⟩),(.int .i64 0)]),(some (.t [none,none])),[],[],[]⟩) (Q ⟨(.tuple #[(.agg ⟨W26.c (W26.mk [])⟩),(.int .i64 (Dg.aw (W26.n f)))]),(some (.t [none,none])),[],[],[]⟩))→∀(X:Nat→Nat→Prop)(w:World),Sat (U:=Un) [(.lst 1 false 29 A0 c0 l),(.ob 5 rk kk)] X w→av (U:=Un) [(.lst 1 false 29 A0 c0 l),(.ob 5 rk kk)] fr0 []→Calls prog 68 #[(.agg ⟨W26.c f⟩),(.agg #[(.int .i64 k),(.int .u32 a),(.slice A0 l.length c0)])] w (aS (U:=Un) [(.lst 1 false 29 A0 c0 l),(.ob 5 rk kk)] [] X w Q)
 intro f k a A0 c0 l rk kk Q hQ X w hs hl
 obtain⟨h1,h2,h3,h4,h5,hQ⟩:=hQ
 refine(BP f k a A0 l.length c0 (fun _=>0) ⟨A0,c0,l⟩ rk kk (fun out=>Q out∧out.kr=some (.t [none,none])∧(∃a b,out.res= .tuple #[a,b])∧out.kc= []) ⟨h1,h2,h3,⟨rfl,rfl,rfl⟩,h4,h5,?_⟩ X w (show Sat (U:=Un) [.ob 8 (fun _=>0) (⟨A0,c0,l⟩:Wt),.ob 5 rk kk] X w from Sat.swap (rs:= [.lst 1 false 29 A0 c0 l,.ob 5 rk kk]) rfl (Ct (x:=⟨A0,c0,l⟩)) hs) (fun _ _ h=>by cases h)).mono fun e w' h=>?_
 ·rcases fv hQ with⟨hb,hQ⟩ | ⟨hb,hQ⟩
  ·exact ae (fun _=>⟨hQ,rfl,⟨_,_,rfl⟩,rfl⟩) (fun h=>by rw [hb]at h;cases h)
  ·exact ae (fun h=>by rw [hb]at h;cases h) (fun _=>⟨hQ,rfl,⟨_,_,rfl⟩,rfl⟩)
 refine aS.swap (rs:= [.ob 8 (fun _=>0) (⟨A0,c0,l⟩:Wt),.ob 5 rk kk]) rfl (yl (x:=⟨A0,c0,l⟩)) (fun out h=>?_) (show aS (U:=Un) [.ob 8 (fun _=>0) (⟨A0,c0,l⟩:Wt),.ob 5 rk kk] [] X w _ e w' from h)
 obtain⟨h,hk,⟨a',b',hv⟩,hc⟩:=h
 exact⟨h,fun _=>by rw [hk,hv];exact KnO.tup _ (by simp),hc⟩
end
section
set_option maxRecDepth 100000
def zv(ca:Option Addr)(cb:Int)(cc:Int)(R:aC)(w:World):Prop:=
 ∀(gv:Nat)(wv:World),gv=w.heap.size→wv=w.alloc (.cells #[(.pointer ca),(.int .i64 cb),(.int .i64 cc)] 254)→
 ∃x7:Option Addr,wv.cell? ((Addr.mk gv 0 none).add 0)=some (.pointer x7)∧
 ∃x9:Int,wv.cell? ((Addr.mk gv 0 none).add 1)=some (.int .i64 x9)∧
 ∃O5:Int,wv.cell? ((Addr.mk gv 0 none).add 2)=some (.int .i64 O5)∧
 Calls prog 92 #[(.pointer x7),(.agg #[(.bool true),(.int .i64 x9)]),(.int .i64 O5)] wv fun e M5=>
 ∃OL:Int,∃OS:Int,e= .returned (.tuple #[(.int .u32 OL),(.int .i64 OS)])∧
 R (.int .u32 OL) M5
def HL:Ann:= .leaf
theorem PRead_eq(ca:Option Addr)(cb:Int)(cc:Int)(R:aC)(w:World):zv ca cb cc R w=vcF prog aL [] Tryz.f172 HL [(.agg #[(.pointer ca),(.int .i64 cb),(.int .i64 cc)])] R none w:=by kernel_rfl
theorem zw(ca:Option Addr)(cb:Int)(cc:Int) {R:aC} {w:World}(h:zv ca cb cc R w):Calls prog 172 #[(.agg #[(.pointer ca),(.int .i64 cb),(.int .i64 cc)])] w fun e w'=>∃v,e= .returned v∧R v w':=
 aj Tryz.func172 ar aa ((PRead_eq ca cb cc R w).mp h)
def Dx(ca:Option Addr)(cb:Int)(cc:Int)(wv:Int)(R:aC)(w:World):Prop:=
 ∀(gv:Nat)(M5:World),gv=w.heap.size→M5=w.alloc (.cells #[(.pointer ca),(.int .i64 cb),(.int .i64 cc)] 254)→
 ∃x5:Option Addr,M5.cell? ((Addr.mk gv 0 none).add 0)=some (.pointer x5)∧
 ∃x7:Int,M5.cell? ((Addr.mk gv 0 none).add 1)=some (.int .i64 x7)∧
 ∃NW:Int,M5.cell? ((Addr.mk gv 0 none).add 2)=some (.int .i64 NW)∧
 Calls prog 42 #[(.pointer x5),(.agg #[(.bool true),(.int .i64 x7)]),(.int .i64 NW),(.int .u32 wv)] M5 fun e M8=>
 ∃O5:Int,e= .returned (.int .i64 O5)∧
 R (.tuple #[]) M8
def JF:Ann:= .leaf
theorem PLay_eq(ca:Option Addr)(cb:Int)(cc:Int)(wv:Int)(R:aC)(w:World):Dx ca cb cc wv R w=vcF prog aL [] Tryz.f173 JF [(.agg #[(.pointer ca),(.int .i64 cb),(.int .i64 cc)]),(.int .u32 wv)] R none w:=by kernel_rfl
theorem BX(ca:Option Addr)(cb:Int)(cc:Int)(wv:Int) {R:aC} {w:World}(h:Dx ca cb cc wv R w):Calls prog 173 #[(.agg #[(.pointer ca),(.int .i64 cb),(.int .i64 cc)]),(.int .u32 wv)] w fun e w'=>∃v,e= .returned v∧R v w':=
 aj Tryz.func173 ar aa ((PLay_eq ca cb cc wv R w).mp h)
end
end Go.Proofs.YtinhphjfnedhgaaGreatDoor
namespace Go.Proofs.YtinhphjfnedhgaaGreatDoor
open Go.Proofs.Tryz (prog)
open Go Go.RowKit V
open Go.IntKind (i64 u32 u64)
section
section
variable {w:World} {L:eP} {m:Mem}
theorem LQ(h:cA w L m)(p o:Int):
 Calls prog 172 #[.agg #[ptr L.g,.int .i64 p,.int .i64 o]] w fun e w'=>∃v,e= .returned v∧v= .int .u32 (m.aY true p o)∧cA w' L m∧Ch L.X w w':=by
 refine zw _ p o ?_
 intro g1 w1 hg hw
 have hM:=made hg hw
 refine⟨_,hM.blk.at rfl,_,hM.blk.at rfl,_,hM.blk.at rfl,(Kb (h.pu hM.pu) true p o).mono ?_⟩
 rintro e w2 ⟨_,rfl,rfl,h2,q⟩
 rw [Mem.J0]at h2
 exact⟨_,_,rfl,rfl,h2,((Ch.refl _ w).made hM).trans q⟩
theorem ML(h:cA w L m)(p o v:Int)(hv:0≤v∧v<4294967296):
 Calls prog 173 #[.agg #[ptr L.g,.int .i64 p,.int .i64 o],.int .u32 v] w fun e w'=>∃u,e= .returned u∧u= .tuple #[]∧cA w' L (m.write true p o v)∧Ch L.X w w':=by
 refine BX _ p o v ?_
 intro g1 w1 hg hw
 have hM:=made hg hw
 refine⟨_,hM.blk.at rfl,_,hM.blk.at rfl,_,hM.blk.at rfl,(AY (h.pu hM.pu) true p o v hv).mono ?_⟩
 rintro e w2 ⟨_,rfl,rfl,h2,q⟩
 exact⟨_,rfl,rfl,h2,((Ch.refl _ w).made hM).trans q⟩
end
end
end Go.Proofs.YtinhphjfnedhgaaGreatDoor
namespace Go.Proofs.YtinhphjfnedhgaaGreatDoor
open Go.Proofs.Tryz (prog)
open Go Go.RowKit V
open Go.IntKind (i64 u32 u64)
section
set_option maxRecDepth 100000
set_option maxHeartbeats 1000000
attribute [local irreducible] Vc2 VcD
attribute [local grind=] Pd.eh Pd.eV Pd.km Pd.oe Pd.cD Pd.iH Pd.kj Pd.gV Pd.nU Pd.AT
attribute [local grind .] Pd.Ok.ent
attribute [local grind→] Pd.Ok.eU
def lK:Ctr Un:=⟨[.one (.int .u32)],[],[],[],fun v K=>(0≤(v:Int)∧(v:Int)<4294967296)∧K ⟨(.tuple #[(.int .i64 (vaI v)),(.int .i64 (vaJ v)),(.int .i64 (vaO v)),(.int .i64 (jf v))]),(some (.t [none,none,none,none])),[],[],[]⟩⟩
def Hu(v:Int)(Q:Ou Un→Prop):Prop:=
 ∃J:Bool→Prop,(
  split (decide (v≥1073741824)) (
   J true) (
   J ((v.tmod 4) !=0)))∧∀(QQ:Nat→Value)(O5:Bool),J O5→
 split O5 (
  Q ⟨(.tuple #[(.int .i64 0),(.int .i64 0),(.int .i64 0),(.int .i64 91)]),(some (.t [none,none,none,none])),[],[],[]⟩) (
  Q ⟨(.tuple #[(.int .i64 (i64.wrap (v.fdiv (2 ^ 22)))),(.int .i64 (i64.wrap (u32.wrap (BitVec.ofInt u32.bits (v.fdiv (2 ^ 12)) &&& BitVec.ofInt u32.bits 1023).toNat))),(.int .i64 (i64.wrap (u32.wrap (BitVec.ofInt u32.bits (v.fdiv (2 ^ 2)) &&& BitVec.ofInt u32.bits 1023).toNat))),(.int .i64 0)]),(some (.t [none,none,none,none])),[],[],[]⟩)
theorem Hv:Vc2 Un prog (bw []) [] Tryz.f190 (.r' (.two (.two (.node [] (some ⟨[(12,(.one .bool))],[],upN 6 7,[]⟩) [] [] .leaf .leaf) .leaf) .leaf)) [] lK=(∀v,∀Q,(lK.body v Q)→Hu v Q):=by kernel_rfl
theorem Ht:LV Un prog 190 lK:=verify Tryz.func190 aa (tb:= []) trivial (by kernel_rfl) (Hv.mpr fun v Q h=>by
 obtain⟨Ni,h⟩:=h
 exact gh ((decide ((v:Int)≥1073741824)) || (((v:Int).tmod 4:Int) !=0)) (ae (fun c1=>(by grind)) fun c1=>(by grind))<| cQ (fun c2=>aB h (by(have tm:=Int.tmod_eq_emod_of_nonneg (a:=v) (b:=4) Ni.1);rw [tm]at c2;(have h:jf v=91:=by grind [jf]);simp [vaI,vaJ,vaO,h]) rfl rfl) fun c2=>aB h (by(have tm:=Int.tmod_eq_emod_of_nonneg (a:=v) (b:=4) Ni.1);rw [tm]at c2;(have h:jf v=0:=by grind [jf]);rw [mH,mH,mH,Hk (x:=v / 2 ^ 12) (by omega),Hk (x:=v / 2 ^ 2) (by omega),aA (by omega),aA (by omega),aA (by omega)];simp [vaI,vaJ,vaO,h]) rfl rfl)
def oR:Ctr Un:=⟨[.agg [.int .u32,.bool,.bool]],[],[],[],fun va wr ex K=>(0≤(va:Int)∧(va:Int)<4294967296)∧K ⟨(.tuple #[(.int .u32 (mgW va wr ex)),(.int .i64 (fK va))]),(some (.t [none,none])),[],[],[]⟩⟩
def Jy(va:Int)(wr:Bool)(ex:Bool)(Q:Ou Un→Prop):Prop:=
 ∀(gv:Nat),
 ∃J:Bool→Prop,(
  split ((va.tmod 4096) !=0) (
   J true) (
   J (decide (va≥1073741824))))∧∀(NR:Nat→Value)(PD:Bool),J PD→
 split PD (
  Q ⟨(.tuple #[(.int .u32 0),(.int .i64 91)]),(some (.t [none,none])),[],[],[]⟩) (
  ∀wv:Int,wv=(u32.wrap (BitVec.ofInt u32.bits va ||| BitVec.ofInt u32.bits 1).toNat)→
  split wr (
   ∀M5:Int,M5=(u32.wrap (BitVec.ofInt u32.bits wv ||| BitVec.ofInt u32.bits 2).toNat)→
   split ex (
    ∀M8:Int,M8=(u32.wrap (BitVec.ofInt u32.bits M5 ||| BitVec.ofInt u32.bits 4).toNat)→
    Q ⟨(.tuple #[(.int .u32 M8),(.int .i64 0)]),(some (.t [none,none])),[],[],[]⟩) (
    Q ⟨(.tuple #[(.int .u32 M5),(.int .i64 0)]),(some (.t [none,none])),[],[],[]⟩)) (
   split ex (
    ∀M5:Int,M5=(u32.wrap (BitVec.ofInt u32.bits wv ||| BitVec.ofInt u32.bits 4).toNat)→
    Q ⟨(.tuple #[(.int .u32 M5),(.int .i64 0)]),(some (.t [none,none])),[],[],[]⟩) (
    Q ⟨(.tuple #[(.int .u32 wv),(.int .i64 0)]),(some (.t [none,none])),[],[],[]⟩)))
theorem Jz:Vc2 Un prog (bw []) [4] Tryz.f127 (.r' (.two (.two (.node [] (some ⟨[(13,(.one .bool))],[],upN 5 9,[]⟩) [] [] .leaf .leaf) .leaf) .leaf)) [] oR=(∀va wr ex,∀Q,(oR.body va wr ex Q)→Jy va wr ex Q):=by kernel_rfl
theorem Jw:LV Un prog 127 oR:=verify Tryz.func127 aa (tb:= []) trivial (by kernel_rfl) (Jz.mpr fun va wr ex Q h=>by
 obtain⟨Ni,h⟩:=h
 exact fun gv=>gh ((((va:Int).tmod 4096:Int) !=0) || (decide ((va:Int)≥1073741824))) (ae (fun c1=>(by grind)) fun c1=>(by grind))<| cQ (fun c2=>aB h (by(have tm:=Int.tmod_eq_emod_of_nonneg (a:=va) (b:=4096) Ni.1);rw [tm]at c2;(have h:fK va=91:=by grind [fK]);simp [mgW,h]) rfl rfl) fun c2=>allEq<| ae (fun c3=>allEq<| ae (fun c4=>allEq<| aB h (by(have tm:=Int.tmod_eq_emod_of_nonneg (a:=va) (b:=4096) Ni.1);rw [tm]at c2;(have h:fK va=0:=by grind [fK]);(have h9:va % 4096=0∧va<1073741824:=by grind [fK]);rw [qs 0 1 rfl (by decide) Ni (by omega),qs 1 2 rfl (by decide) (by omega) (by omega),qs 2 4 rfl (by decide) (by omega) (by omega)];simp [mgW,h,c3,c4]) rfl rfl) fun c4=>aB h (by(have tm:=Int.tmod_eq_emod_of_nonneg (a:=va) (b:=4096) Ni.1);rw [tm]at c2;(have h:fK va=0:=by grind [fK]);(have h9:va % 4096=0∧va<1073741824:=by grind [fK]);rw [qs 0 1 rfl (by decide) Ni (by omega),qs 1 2 rfl (by decide) (by omega) (by omega)];simp [mgW,h,c3,c4]) rfl rfl) fun c3=>ae (fun c5=>allEq<| aB h (by(have tm:=Int.tmod_eq_emod_of_nonneg (a:=va) (b:=4096) Ni.1);rw [tm]at c2;(have h:fK va=0:=by grind [fK]);(have h9:va % 4096=0∧va<1073741824:=by grind [fK]);rw [qs 0 1 rfl (by decide) Ni (by omega),qs 2 4 rfl (by decide) (by omega) (by omega)];simp [mgW,h,c3,c5]) rfl rfl) fun c5=>aB h (by(have tm:=Int.tmod_eq_emod_of_nonneg (a:=va) (b:=4096) Ni.1);rw [tm]at c2;(have h:fK va=0:=by grind [fK]);(have h9:va % 4096=0∧va<1073741824:=by grind [fK]);rw [qs 0 1 rfl (by decide) Ni (by omega)];simp [mgW,h,c3,c5]) rfl rfl)
def lM:Ctr Un:=⟨[.one (.int .u32)],[],[],[],fun v K=>(0≤(v:Int)∧(v:Int)<4294967296)∧K ⟨(.tuple #[(.agg #[(.int .u32 (bI v)),(.bool (paW v)),(.bool (paX v))]),(.int .i64 (lr v))]),(some (.t [none,none])),[],[],[]⟩⟩
def HO(v:Int)(Q:Ou Un→Prop):Prop:=
 ∀(gv:Nat),
 ∀(Nc:Nat),
 (0≤(u32.wrap (BitVec.ofInt u32.bits v &&& ~~~(BitVec.ofInt u32.bits 4095)).toNat)∧(u32.wrap (BitVec.ofInt u32.bits v &&& ~~~(BitVec.ofInt u32.bits 4095)).toNat)<4294967296)∧
 ∃J:Bool→Prop,(
  split ((fK (u32.wrap (BitVec.ofInt u32.bits v &&& ~~~(BitVec.ofInt u32.bits 4095)).toNat)) !=0) (
   J true) (
   J ((mgW (u32.wrap (BitVec.ofInt u32.bits v &&& ~~~(BitVec.ofInt u32.bits 4095)).toNat) ((u32.wrap (BitVec.ofInt u32.bits v &&& BitVec.ofInt u32.bits 2).toNat) !=0) ((u32.wrap (BitVec.ofInt u32.bits v &&& BitVec.ofInt u32.bits 4).toNat) !=0)) !=v)))∧∀(Oq:Nat→Value)(SL:Bool),J SL→
 split SL (
  Q ⟨(.tuple #[(.agg #[(.int .u32 0),(.bool false),(.bool false)]),(.int .i64 142)]),(some (.t [none,none])),[],[],[]⟩) (
  Q ⟨(.tuple #[(.agg #[(.int .u32 (u32.wrap (BitVec.ofInt u32.bits v &&& ~~~(BitVec.ofInt u32.bits 4095)).toNat)),(.bool ((u32.wrap (BitVec.ofInt u32.bits v &&& BitVec.ofInt u32.bits 2).toNat) !=0)),(.bool ((u32.wrap (BitVec.ofInt u32.bits v &&& BitVec.ofInt u32.bits 4).toNat) !=0))]),(.int .i64 0)]),(some (.t [none,none])),[],[],[]⟩)
theorem HP:Vc2 Un prog (bw [(127,oR)]) [] Tryz.f63 (.r' (.r' (.two (.r' (.two (.node [] (some ⟨[(27,(.one .bool))],[],upN 21 7,[]⟩) [] [] .leaf .leaf) .leaf)) .leaf))) [] lM=(∀v,∀Q,(lM.body v Q)→HO v Q):=by kernel_rfl
theorem HN:LV Un prog 63 lM:=verify Tryz.func63 aa (tb:= [(127,oR)]) ⟨Jw,trivial⟩ (by kernel_rfl) (HP.mpr fun v Q h=>by
 obtain⟨Ni,h⟩:=h
 exact fun gv Nc=>ao (pj _) fun s1=>gh ((((fK (u32.wrap (BitVec.ofInt u32.bits v &&& ~~~(BitVec.ofInt u32.bits 4095)).toNat)):Int) !=0) || (((mgW (u32.wrap (BitVec.ofInt u32.bits v &&& ~~~(BitVec.ofInt u32.bits 4095)).toNat) ((u32.wrap (BitVec.ofInt u32.bits v &&& BitVec.ofInt u32.bits 2).toNat:Int) !=0) ((u32.wrap (BitVec.ofInt u32.bits v &&& BitVec.ofInt u32.bits 4).toNat:Int) !=0)):Int) !=v)) (ae (fun c1=>(by grind)) fun c1=>(by grind))<| cQ (fun c2=>aB h (by rw [Dq Ni,rv 1 2 (by decide) (by omega) Ni,rv 2 4 (by decide) (by omega) Ni]at c2;(have h:yb v=false:=by grind [yb]);simp [bI,paW,paX,lr,h]) rfl rfl) fun c2=>aB h (by rw [Dq Ni,rv 1 2 (by decide) (by omega) Ni,rv 2 4 (by decide) (by omega) Ni]at c2 ⊢;(have h:yb v=true:=by grind [yb]);simp [bI,paW,paX,lr,h]) rfl rfl)
def ia:Ctr Un:=⟨[.agg [.any,.int .i64,.int .i64]],[(0,0)],[.ob 0 []],[0],fun pv ak off rm m K=>pv=Value.pointer (some (Addr.mk (rm 0) 0 none))∧K ⟨(.int .u32 (m.aY true ak off)),none,[.ob 0 m],[],[]⟩⟩
theorem rz:LV Un prog 172 ia:=by
 show ∀(pv:Value)(ak:Int)(off:Int)(rm:Nat→Nat)(m:Mem),∀Q:Ou Un→Prop,(pv=Value.pointer (some (Addr.mk (rm 0) 0 none))∧Q ⟨(.int .u32 (m.aY true ak off)),none,[.ob 0 m],[],[]⟩)→∀(X:Nat→Nat→Prop)(w:World),Sat (U:=Un) [(.ob 0 rm m)] X w→av (U:=Un) [(.ob 0 rm m)] fr0 []→Calls prog 172 #[(.agg #[pv,(.int .i64 ak),(.int .i64 off)])] w (aS (U:=Un) [(.ob 0 rm m)] [0] X w Q)
 intro pv ak off rm m Q hQ X w hs hl
 obtain⟨rfl,hQ⟩:=hQ
 obtain⟨L,hg,hM,hX⟩:=mF hs
 rw [hg]
 refine(LQ hM ak off).mono ?_
 rintro e w' ⟨u,rfl,rfl,h2,q⟩
 exact aS.one (Z:=X 0) (q.mono fun k hk=>(hX k).1 hk) (show cq 0 rm _ (X 0) w' from⟨L,hg,hX,h2⟩) (fun k hk=>.inl hk) hQ trivial
def tH:Ctr Un:=⟨[.agg [.any,.int .i64,.int .i64],.one (.int .u32)],[(0,0)],[.ob 0 []],[0],fun pv ak off v rm m K=>pv=Value.pointer (some (Addr.mk (rm 0) 0 none))∧(0≤(v:Int)∧(v:Int)<4294967296)∧K ⟨(.tuple #[]),(some (.t [])),[.ob 0 (m.write true ak off v)],[],[]⟩⟩
theorem HQ:LV Un prog 173 tH:=by
 show ∀(pv:Value)(ak:Int)(off:Int)(v:Int)(rm:Nat→Nat)(m:Mem),∀Q:Ou Un→Prop,(pv=Value.pointer (some (Addr.mk (rm 0) 0 none))∧(0≤(v:Int)∧(v:Int)<4294967296)∧Q ⟨(.tuple #[]),(some (.t [])),[.ob 0 (m.write true ak off v)],[],[]⟩)→∀(X:Nat→Nat→Prop)(w:World),Sat (U:=Un) [(.ob 0 rm m)] X w→av (U:=Un) [(.ob 0 rm m)] fr0 []→Calls prog 173 #[(.agg #[pv,(.int .i64 ak),(.int .i64 off)]),(.int .u32 v)] w (aS (U:=Un) [(.ob 0 rm m)] [0] X w Q)
 intro pv ak off v rm m Q hQ X w hs hl
 obtain⟨rfl,hv,hQ⟩:=hQ
 obtain⟨L,hg,hM,hX⟩:=mF hs
 rw [hg]
 refine(ML hM ak off v hv).mono ?_
 rintro e w' ⟨u,rfl,rfl,h2,q⟩
 exact aS.one (Z:=X 0) (q.mono fun k hk=>(hX k).1 hk) (show cq 0 rm _ (X 0) w' from⟨L,hg,hX,h2⟩) (fun k hk=>.inl hk) hQ (KnO.tup _ (by simp))
def oU:Ctr Un:=⟨[.one (.obj 0 0),.one (.int .i64),.one (.int .i64)],[],[.ob 1 [(1,1,0)],.ob 0 []],[],fun ak off r E rm m K=>K ⟨(.agg #[(.func (.func 172) #[(.agg #[(.pointer (some (Addr.mk (rm 0) 0 none))),(.int .i64 ak),(.int .i64 off)])] #[]),(.func (.func 173) #[(.agg #[(.pointer (some (Addr.mk (rm 0) 0 none))),(.int .i64 ak),(.int .i64 off)])] #[])]),none,[],[],[]⟩⟩
def Mx(ak:Int)(off:Int)(r:Nat→Nat)(E:Pd)(rm:Nat→Nat)(m:Mem)(Q:Ou Un→Prop):Prop:=
 Pd.Ok E→
 Mem.Wf m→
 ∀(gv:Nat),
 (some (.pointer (some (Addr.mk (rm 0) 0 none))):Option Value)=some (.pointer (some (Addr.mk (rm 0) 0 none)))∧
 ∀(Nc:Nat),
 Q ⟨(.agg #[(.func (.func 172) #[(.agg #[(.pointer (some (Addr.mk (rm 0) 0 none))),(.int .i64 ak),(.int .i64 off)])] #[]),(.func (.func 173) #[(.agg #[(.pointer (some (Addr.mk (rm 0) 0 none))),(.int .i64 ak),(.int .i64 off)])] #[])]),none,[],[],[]⟩
theorem My:Vc2 Un prog (bw [(14,bf)]) [] Tryz.f130 .leaf [] oU=(∀ak off r (E:Pd) rm (m:Mem),∀Q,(oU.body ak off r E rm m Q)→Mx ak off r E rm m Q):=by kernel_rfl
theorem HR:LV Un prog 130 oU:=verify Tryz.func130 aa (tb:= [(14,bf)]) ⟨cO,trivial⟩ (by kernel_rfl) (My.mpr fun ak off r E rm m Q h f1 f2 gv=>ao (by rfl) fun s3 Nc=>h)
def ib:Ctr Un:=⟨[.one (.obj 0 0),.one (.int .i64),.one (.int .i64),.one (.int .i64)],[],[.ob 1 [(1,1,0)],.ob 0 []],[],fun s p t r E rm m K=>E.n=m.S∧K ⟨(.bool ((E.on m).of p t s)),none,[],[],[]⟩⟩
def JD(s:Int)(p:Int)(t:Int)(r:Nat→Nat)(E:Pd)(rm:Nat→Nat)(m:Mem)(Q:Ou Un→Prop):Prop:=
 Pd.Ok E→
 Mem.Wf m→
 E.n=m.S∧
 ∀(gv:Nat),
 ∃J:Bool→Prop,(
  split (((E.on m).aR p)==0) (
   split (((E.on m).entry p).typ==t) (
    J (((E.on m).entry p).owner==s)) (
    J false)) (
   J false))∧∀(NR:Nat→Value)(x8:Bool),J x8→
 Q ⟨(.bool x8),none,[],[],[]⟩
theorem JE:Vc2 Un prog (bw [(18,dj)]) [] Tryz.f129 (.r' (.r' (.two (.node [] (some ⟨[(8,(.one .bool))],[],[8]++upN 17 14,[]⟩) [] [] .leaf .leaf) .leaf))) [] ib=(∀s p t r (E:Pd) rm (m:Mem),∀Q,(ib.body s p t r E rm m Q)→JD s p t r E rm m Q):=by kernel_rfl
section
attribute [local grind=] DB.entry DB.aR DB.of DB.is
theorem wT:LV Un prog 129 ib:=verify Tryz.func129 aa (tb:= [(18,dj)]) ⟨gI,trivial⟩ (by kernel_rfl) (JE.mpr fun s p t r E rm m Q h=>by
 obtain⟨Ni,h⟩:=h
 exact fun f1 f2=>ao ‹_› fun s3 gv=>gh (((((E.on m).aR p):Int)==0) && (((((E.on m).entry p).typ:Int)==t) && ((((E.on m).entry p).owner:Int)==s))) (ae (fun c1=>ae (fun c2=>(by grind)) fun c2=>(by grind)) fun c1=>(by grind))<| CY h (by grind))
end
def fR:Ctr Un:=⟨[.one (.obj 0 0),.one (.int .i64)],[],[.ob 1 [(1,1,0)],.ob 0 []],[1],fun s r E rm m K=>E.n=m.S∧K ⟨(.tuple #[(.int .i64 ((E.on m).tbl s)),(.int .i64 ((E.on m).cF s))]),(some (.t [none,none])),[.ob 0 m],[],[]⟩⟩
def HJ(s:Int)(r:Nat→Nat)(E:Pd)(rm:Nat→Nat)(m:Mem)(Q:Ou Un→Prop):Prop:=
 Pd.Ok E→
 Mem.Wf m→
 E.n=m.S∧
 ∀(gv:Nat),
 ∀Qi:Bool,Qi=((((E.on m).aR s):Int) !=0)→
 split Qi (
  Q ⟨(.tuple #[(.int .i64 0),(.int .i64 5)]),(some (.t [none,none])),[.ob 0 m],[],[]⟩) (
  ∀Qb:Bool,Qb=((((E.on m).entry s).typ:Int) !=1)→
  split Qb (
   Q ⟨(.tuple #[(.int .i64 0),(.int .i64 124)]),(some (.t [none,none])),[.ob 0 m],[],[]⟩) (
   ∀O7:Bool,O7=((((E.on m).entry s).state:Int)==3)→
   split O7 (
    Q ⟨(.tuple #[(.int .i64 0),(.int .i64 3)]),(some (.t [none,none])),[.ob 0 m],[],[]⟩) (
    (.pointer (some (Addr.mk (rm 0) 0 none)))=Value.pointer (some (Addr.mk (rm 0) 0 none))∧
    ∀(m1:Mem),m1=m→
    Mem.Wf m1→
    ∃J:Bool→Prop,(
     E.n=m1.S∧
     split (decide ((i64.wrap (m.aY true s 0))≥(E.on m1).S)) (
      J true) (
      E.n=m1.S∧
      J (!((E.on m1).of (i64.wrap (m.aY true s 0)) 3 s))))∧∀(NR:Nat→Value)(Pg:Bool),J Pg→
    split Pg (
     Q ⟨(.tuple #[(.int .i64 0),(.int .i64 124)]),(some (.t [none,none])),[.ob 0 m1],[],[]⟩) (
     Q ⟨(.tuple #[(.int .i64 (i64.wrap (m.aY true s 0))),(.int .i64 0)]),(some (.t [none,none])),[.ob 0 m1],[],[]⟩))))
theorem HK:Vc2 Un prog (bw [(18,dj),(130,oU),(172,ia),(120,lZ),(129,ib)]) [15,18,22] Tryz.f91 (.r' (.r' (.r' (.r' (.two (.two (.node [] (some ⟨[(43,(.one .bool))],[],upN 31 13,[]⟩) [] [] .leaf .leaf) .leaf) .leaf))))) [] fR=(∀s r (E:Pd) rm (m:Mem),∀Q,(fR.body s r E rm m Q)→HJ s r E rm m Q):=by kernel_rfl
section
attribute [local grind=] DB.entry DB.aR DB.of DB.is DB.tbl DB.cF DB.word
theorem tG:LV Un prog 91 fR:=verify Tryz.func91 aa (tb:= [(18,dj),(130,oU),(172,ia),(120,lZ),(129,ib)]) ⟨gI,HR,rz,Al,wT,trivial⟩ (by kernel_rfl) (HK.mpr fun s r E rm m Q h=>by
 obtain⟨Ni,h⟩:=h
 exact fun f1 f2=>(by(have hwr:=fun(p o:Int)=>xB (E:=E) f2 p o);(have ZU:=fun(p o:Int)=>aA (x:=m.aY true p o) (by have:=hwr p o;simp only [DB.word,Pd.iH]at this;omega));exact ao ‹_› fun s3 gv=>allEq<| aN (fun c1=>aB h (congrArg (fun l=>Value.tuple (List.toArray l)) (ab (cG (by grind)) (ab (cG (by grind)) rfl))) rfl rfl) fun c1=>allEq<| aN (fun c2=>aB h (congrArg (fun l=>Value.tuple (List.toArray l)) (ab (cG (by grind)) (ab (cG (by grind)) rfl))) rfl rfl) fun c2=>allEq<| aK (fun c3=>aB h (congrArg (fun l=>Value.tuple (List.toArray l)) (ab (cG (by grind)) (ab (cG (by grind)) rfl))) rfl rfl) fun c3=>ao (by grind) fun s4 m1 NB f5=>gh ((decide ((i64.wrap (m.aY true s 0):Int)≥((E.on m1).S:Int))) || (!((E.on m1).of (i64.wrap (m.aY true s 0)) 3 s))) (ao (by grind) fun s6=>ae (fun c4=>(by grind)) fun c4=>ao ‹_› fun s7=>(by grind))<| cQ (fun c5=>(by subst NB;have hwq:=ZU s 0;exact aB h (congrArg (fun l=>Value.tuple (List.toArray l)) (ab (cG (by grind)) (ab (cG (by grind)) rfl))) (ab (uO0 (by grind)) rfl) rfl)) fun c5=>(by subst NB;have hwq:=ZU s 0;exact aB h (congrArg (fun l=>Value.tuple (List.toArray l)) (ab (cG (by grind)) (ab (cG (by grind)) rfl))) (ab (uO0 (by grind)) rfl) rfl)))
end
def jX:Ctr Un:=⟨[.one (.obj 0 0),.one (.int .i64),.one (.int .u32)],[],[.ob 1 [(1,1,0)],.ob 0 []],[],fun s v r E rm m K=>E.n=m.S∧(0≤(v:Int)∧(v:Int)<4294967296)∧K ⟨(.tuple #[(.int .i64 (aW v)),(.bool ((E.on m).iC s v))]),(some (.t [none,none])),[],[],[]⟩⟩
def EU(s:Int)(v:Int)(r:Nat→Nat)(E:Pd)(rm:Nat→Nat)(m:Mem)(Q:Ou Un→Prop):Prop:=
 Pd.Ok E→
 Mem.Wf m→
 (0≤v∧v<4294967296)∧
 ∃J:Int→Bool→Prop,(
  split ((kQ v)==0) (
   E.n=m.S∧
   J (aW v) ((E.on m).of (aW v) 4 s)) (
   J (aW v) false))∧∀(QQ:Nat→Value) x6 (x7:Bool),J x6 x7→
 Q ⟨(.tuple #[(.int .i64 x6),(.bool x7)]),(some (.t [none,none])),[],[],[]⟩
theorem EV:Vc2 Un prog (bw [(182,fk),(129,ib)]) [] Tryz.f191 (.r' (.r' (.two (.node [] (some ⟨[(6,(.one (.int .i64))),(7,(.one .bool))],[],[6,7]++upN 15 9,[]⟩) [] [] .leaf .leaf) .leaf))) [] jX=(∀s v r (E:Pd) rm (m:Mem),∀Q,(jX.body s v r E rm m Q)→EU s v r E rm m Q):=by kernel_rfl
section
attribute [local grind=] DB.entry DB.aR DB.of DB.is DB.iC
theorem ET:LV Un prog 191 jX:=verify Tryz.func191 aa (tb:= [(182,fk),(129,ib)]) ⟨uh,wT,trivial⟩ (by kernel_rfl) (EV.mpr fun s v r E rm m Q h=>by
 obtain⟨Ni,NI,h⟩:=h
 exact fun f1 f2=>ao ‹_› fun s3=>dup2<| aK (fun c1=>ao ‹_› fun s4=>aB h (congrArg (fun l=>Value.tuple (List.toArray l)) (ab rfl (ab (eQb (by grind)) rfl))) rfl rfl) fun c1=>aB h (congrArg (fun l=>Value.tuple (List.toArray l)) (ab rfl (ab (eQb (by grind)) rfl))) rfl rfl)
end
def gH:Ctr Un:=⟨[.one (.obj 0 0),.one (.int .i64),.one (.int .i64),.one (.int .i64)],[],[.ob 1 [(1,1,0)],.ob 0 []],[0,1],fun s i q r E rm m K=>E.n=m.S∧K ⟨(.int .i64 ((E.on m).lJ s i q)),none,[.ob 1 (((E.on m).add s i q).pd),.ob 0 (((E.on m).add s i q).mem)],[],[]⟩⟩
def zy(s:Int)(i:Int)(q:Int)(r:Nat→Nat)(E:Pd)(rm:Nat→Nat)(m:Mem)(Q:Ou Un→Prop):Prop:=
 Pd.Ok E→
 Mem.Wf m→
 E.n=m.S∧
 ∀(m1:Mem),m1=m→
 Mem.Wf m1→
 split (((E.on m).cF s) !=0) (
  Q ⟨(.int .i64 ((E.on m).cF s)),none,[.ob 1 E,.ob 0 m1],[],[]⟩) (
  ∃J:Bool→Prop,(
   split (decide (i<0)) (
    J true) (
    J (decide (i≥256))))∧∀(QQ:Nat→Value)(OK:Bool),J OK→
  split OK (
   Q ⟨(.int .i64 4),none,[.ob 1 E,.ob 0 m1],[],[]⟩) (
   E.n=m1.S∧
   ∀(Nc:Nat),
   split (((E.on m1).aR q) !=0) (
    Q ⟨(.int .i64 5),none,[.ob 1 E,.ob 0 m1],[],[]⟩) (
    E.n=m1.S∧
    split (!((E.on m1).of q 4 s)) (
     Q ⟨(.int .i64 124),none,[.ob 1 E,.ob 0 m1],[],[]⟩) (
     ∀(N8:Nat),
     (.pointer (some (Addr.mk (rm 0) 0 none)))=Value.pointer (some (Addr.mk (rm 0) 0 none))∧
     ∀(m2:Mem),m2=m1→
     Mem.Wf m2→
     split ((m1.aY true ((E.on m).tbl s) i) !=0) (
      Q ⟨(.int .i64 140),none,[.ob 1 E,.ob 0 m2],[],[]⟩) (
      (.pointer (some (Addr.mk (rm 0) 0 none)))=Value.pointer (some (Addr.mk (rm 0) 0 none))∧
      (0≤(cf q)∧(cf q)<4294967296)∧
      ∀(m3:Mem),m3=(m2.write true ((E.on m).tbl s) i (cf q))→
      Mem.Wf m3→
      Q ⟨(.int .i64 0),none,[.ob 1 E,.ob 0 m3],[],[]⟩)))))
theorem zz:Vc2 Un prog (bw [(91,fR),(18,dj),(129,ib),(130,oU),(172,ia),(131,iN),(173,tH)]) [] Tryz.f65 (.r' (.r' (.r' (.two (.two (.node [] (some ⟨[(30,(.one .bool))],[],upN 25 6,[]⟩) [] [] .leaf .leaf) .leaf) .leaf)))) [] gH=(∀s i q r (E:Pd) rm (m:Mem),∀Q,(gH.body s i q r E rm m Q)→zy s i q r E rm m Q):=by kernel_rfl
section
attribute [local grind=] DB.entry DB.aR DB.of DB.is DB.word DB.lJ DB.add Pd.lv Mem.aV
theorem zx:LV Un prog 65 gH:=verify Tryz.func65 aa (tb:= [(91,fR),(18,dj),(129,ib),(130,oU),(172,ia),(131,iN),(173,tH)]) ⟨tG,gI,wT,HR,rz,zd,HQ,trivial⟩ (by kernel_rfl) (zz.mpr fun s i q r E rm m Q h=>by
 obtain⟨Ni,h⟩:=h
 exact fun f1 f2=>(by(have hwr:=fun(p o:Int)=>xB (E:=E) f2 p o);(have ZU:=fun(p o:Int)=>aA (x:=m.aY true p o) (by have:=hwr p o;simp only [DB.word,Pd.iH]at this;omega));exact ao ‹_› fun s3 m1 NB f4=>aN (fun c1=>aB h (cG (by grind)) (ab (uO1 (by grind)) (ab (uO0 (by grind)) rfl)) rfl) fun c1=>gh ((decide ((i:Int)<0)) || (decide ((i:Int)≥256))) (ae (fun c2=>(by grind)) fun c2=>(by grind))<| cQ (fun c3=>aB h (cG (by grind)) (ab (uO1 (by grind)) (ab (uO0 (by grind)) rfl)) rfl) fun c3=>ao (by grind) fun s5 Nc=>aN (fun c4=>aB h (cG (by grind)) (ab (uO1 (by grind)) (ab (uO0 (by grind)) rfl)) rfl) fun c4=>ao ‹_› fun s6=>dK (fun c5=>aB h (cG (by grind)) (ab (uO1 (by grind)) (ab (uO0 (by grind)) rfl)) rfl) fun c5 N8=>ao (by grind) fun s7 m2 PC f8=>aN (fun c6=>aB h (cG (by grind)) (ab (uO1 (by grind)) (ab (uO0 (by grind)) rfl)) rfl) fun c6=>ao ‹_› fun s9=>ao (sW _) fun ZI m3 OP f11=>aB h (cG (by grind)) (ab (uO1 (by grind)) (ab (uO0 (by grind)) rfl)) rfl))
end
def oT:Ctr Un:=⟨[.one (.obj 0 0),.one (.int .i64),.one (.int .u32)],[],[.ob 1 [(1,1,0)],.ob 0 []],[1],fun s va r E rm m K=>E.n=m.S∧(0≤(va:Int)∧(va:Int)<4294967296)∧split (decide ((E.on m).eG s va=0)) (K ⟨(.tuple #[(.agg #[(.func (.func 172) #[(.agg #[(.pointer (some (Addr.mk (rm 0) 0 none))),(.int .i64 ((E.on m).plP s va)),(.int .i64 (vaJ va))])] #[]),(.func (.func 173) #[(.agg #[(.pointer (some (Addr.mk (rm 0) 0 none))),(.int .i64 ((E.on m).plP s va)),(.int .i64 (vaJ va))])] #[])]),(.int .i64 0)]),(some (.t [none,none])),[.ob 0 m],[],[]⟩) (K ⟨(.tuple #[(.agg #[.nilFunc,.nilFunc]),(.int .i64 ((E.on m).eG s va))]),(some (.t [none,none])),[.ob 0 m],[],[]⟩)⟩
def JJ(s:Int)(va:Int)(r:Nat→Nat)(E:Pd)(rm:Nat→Nat)(m:Mem)(Q:Ou Un→Prop):Prop:=
 Pd.Ok E→
 Mem.Wf m→
 ∀(gv:Nat),
 E.n=m.S∧
 ∀(m1:Mem),m1=m→
 Mem.Wf m1→
 split (((E.on m).cF s) !=0) (
  Q ⟨(.tuple #[(.agg #[.nilFunc,.nilFunc]),(.int .i64 ((E.on m).cF s))]),(some (.t [none,none])),[.ob 0 m1],[],[]⟩) (
  (0≤va∧va<4294967296)∧
  split ((jf va) !=0) (
   Q ⟨(.tuple #[(.agg #[.nilFunc,.nilFunc]),(.int .i64 91)]),(some (.t [none,none])),[.ob 0 m1],[],[]⟩) (
   (.pointer (some (Addr.mk (rm 0) 0 none)))=Value.pointer (some (Addr.mk (rm 0) 0 none))∧
   ∀(m2:Mem),m2=m1→
   Mem.Wf m2→
   E.n=m2.S∧
   (0≤(m1.aY true ((E.on m).tbl s) (vaI va))∧(m1.aY true ((E.on m).tbl s) (vaI va))<4294967296)∧
   split (!((E.on m2).iC s (m1.aY true ((E.on m).tbl s) (vaI va)))) (
    Q ⟨(.tuple #[(.agg #[.nilFunc,.nilFunc]),(.int .i64 141)]),(some (.t [none,none])),[.ob 0 m2],[],[]⟩) (
    Q ⟨(.tuple #[(.agg #[(.func (.func 172) #[(.agg #[(.pointer (some (Addr.mk (rm 0) 0 none))),(.int .i64 (aW (m1.aY true ((E.on m).tbl s) (vaI va)))),(.int .i64 (vaJ va))])] #[]),(.func (.func 173) #[(.agg #[(.pointer (some (Addr.mk (rm 0) 0 none))),(.int .i64 (aW (m1.aY true ((E.on m).tbl s) (vaI va)))),(.int .i64 (vaJ va))])] #[])]),(.int .i64 0)]),(some (.t [none,none])),[.ob 0 m2],[],[]⟩)))
theorem JK:Vc2 Un prog (bw [(91,fR),(190,lK),(130,oU),(172,ia),(191,jX)]) [] Tryz.f174 .leaf [] oT=(∀s va r (E:Pd) rm (m:Mem),∀Q,(oT.body s va r E rm m Q)→JJ s va r E rm m Q):=by kernel_rfl
section
attribute [local grind=] DB.entry DB.aR DB.of DB.is DB.word DB.eG DB.plP DB.bJ
theorem JI:LV Un prog 174 oT:=verify Tryz.func174 aa (tb:= [(91,fR),(190,lK),(130,oU),(172,ia),(191,jX)]) ⟨tG,Ht,HR,rz,ET,trivial⟩ (by kernel_rfl) (JK.mpr fun s va r E rm m Q h=>by
 obtain⟨Ni,NI,h⟩:=h
 exact fun f1 f2 gv=>ao ‹_› fun s3 m1 NB f4=>aN (fun c1=>aB (bV h (by grind)) (congrArg (fun l=>Value.tuple (List.toArray l)) (ab rfl (ab (cG (by grind)) rfl))) (ab (uO0 (by grind)) rfl) rfl) fun c1=>ao ‹_› fun s5=>aN (fun c2=>aB (bV h (by grind)) (congrArg (fun l=>Value.tuple (List.toArray l)) (ab rfl (ab (cG (by grind)) rfl))) (ab (uO0 (by grind)) rfl) rfl) fun c2=>ao (by grind) fun s6 m2 PC f7=>ao (by grind) fun s8=>ao (xW ‹_› _ _ _) fun s9=>dK (fun c3=>aB (bV h (by grind)) (congrArg (fun l=>Value.tuple (List.toArray l)) (ab rfl (ab (cG (by grind)) rfl))) (ab (uO0 (by grind)) rfl) rfl) fun c3=>aB (bU h (by grind)) (congrArg (fun l=>Value.tuple (List.toArray l)) (ab (congrArg (fun l=>Value.agg (List.toArray l)) (ab (by grind) (ab (by grind) rfl))) (ab rfl rfl))) (ab (uO0 (by grind)) rfl) rfl)
end
def kF:Ctr Un:=⟨[.one (.obj 0 0),.one (.int .i64),.one (.int .u32)],[],[.ob 1 [(1,1,0)],.ob 0 []],[1],fun s va r E rm m K=>E.n=m.S∧(0≤(va:Int)∧(va:Int)<4294967296)∧split (decide ((E.on m).bJ s va=0)) (K ⟨(.tuple #[(.agg #[(.func (.func 172) #[(.agg #[(.pointer (some (Addr.mk (rm 0) 0 none))),(.int .i64 ((E.on m).plP s va)),(.int .i64 (vaJ va))])] #[]),(.func (.func 173) #[(.agg #[(.pointer (some (Addr.mk (rm 0) 0 none))),(.int .i64 ((E.on m).plP s va)),(.int .i64 (vaJ va))])] #[])]),(.int .i64 0)]),(some (.t [none,none])),[.ob 0 m],[],[]⟩) (K ⟨(.tuple #[(.agg #[.nilFunc,.nilFunc]),(.int .i64 ((E.on m).bJ s va))]),(some (.t [none,none])),[.ob 0 m],[],[]⟩)⟩
def JG(s:Int)(va:Int)(r:Nat→Nat)(E:Pd)(rm:Nat→Nat)(m:Mem)(Q:Ou Un→Prop):Prop:=
 Pd.Ok E→
 Mem.Wf m→
 ∀(gv:Nat),
 E.n=m.S∧
 (0≤va∧va<4294967296)∧
 split (decide ((E.on m).eG s va=0)) (
  ∀(m1:Mem),m1=m→
  Mem.Wf m1→
  ∀(Nc:Nat),
  (.pointer (some (Addr.mk (rm 0) 0 none)))=Value.pointer (some (Addr.mk (rm 0) 0 none))∧
  ∀(m2:Mem),m2=m1→
  Mem.Wf m2→
  split ((m1.aY true ((E.on m).plP s va) (vaJ va)) !=0) (
   Q ⟨(.tuple #[(.agg #[.nilFunc,.nilFunc]),(.int .i64 140)]),(some (.t [none,none])),[.ob 0 m2],[],[]⟩) (
   Q ⟨(.tuple #[(.agg #[(.func (.func 172) #[(.agg #[(.pointer (some (Addr.mk (rm 0) 0 none))),(.int .i64 ((E.on m).plP s va)),(.int .i64 (vaJ va))])] #[]),(.func (.func 173) #[(.agg #[(.pointer (some (Addr.mk (rm 0) 0 none))),(.int .i64 ((E.on m).plP s va)),(.int .i64 (vaJ va))])] #[])]),(.int .i64 0)]),(some (.t [none,none])),[.ob 0 m2],[],[]⟩)) (
  ∀(m1:Mem),m1=m→
  Mem.Wf m1→
  ∀(Nc:Nat),
  split (((E.on m).eG s va) !=0) (
   Q ⟨(.tuple #[(.agg #[.nilFunc,.nilFunc]),(.int .i64 ((E.on m).eG s va))]),(some (.t [none,none])),[.ob 0 m1],[],[]⟩) (
   False))
theorem JH:Vc2 Un prog (bw [(174,oT),(172,ia)]) [] Tryz.f132 .leaf [] kF=(∀s va r (E:Pd) rm (m:Mem),∀Q,(kF.body s va r E rm m Q)→JG s va r E rm m Q):=by kernel_rfl
section
attribute [local grind=] DB.entry DB.aR DB.of DB.is DB.word DB.eG DB.plP DB.bJ
theorem Dy:LV Un prog 132 kF:=verify Tryz.func132 aa (tb:= [(174,oT),(172,ia)]) ⟨JI,rz,trivial⟩ (by kernel_rfl) (JH.mpr fun s va r E rm m Q h=>by
 obtain⟨Ni,NI,h⟩:=h
 exact fun f1 f2 gv=>ao ‹_› fun s3=>ao ‹_› fun s4=>aq (fun c1 m1 NB f5 Nc=>ao (by grind) fun s6 m2 PC f7=>aN (fun c2=>aB (bV h (by grind)) (congrArg (fun l=>Value.tuple (List.toArray l)) (ab rfl (ab (cG (by grind)) rfl))) (ab (uO0 (by grind)) rfl) rfl) fun c2=>aB (bU h (by grind)) rfl (ab (uO0 (by grind)) rfl) rfl) fun c1 m1 NB f8 Nc=>aN (fun c3=>aB (bV h (by grind)) (congrArg (fun l=>Value.tuple (List.toArray l)) (ab rfl (ab (cG (by grind)) rfl))) (ab (uO0 (by grind)) rfl) rfl) fun c3=>(by exfalso;omega))
end
def oS:Ctr Un:=⟨[.one (.obj 0 0),.one (.int .i64),.one (.int .u32)],[],[.ob 1 [(1,1,0)],.ob 0 []],[1],fun s va r E rm m K=>E.n=m.S∧(0≤(va:Int)∧(va:Int)<4294967296)∧K ⟨(.int .i64 ((E.on m).bJ s va)),none,[.ob 0 m],[],[]⟩⟩
def JB(s:Int)(va:Int)(r:Nat→Nat)(E:Pd)(rm:Nat→Nat)(m:Mem)(Q:Ou Un→Prop):Prop:=
 Pd.Ok E→
 Mem.Wf m→
 E.n=m.S∧
 (0≤va∧va<4294967296)∧
 split (decide ((E.on m).bJ s va=0)) (
  ∀(m1:Mem),m1=m→
  Mem.Wf m1→
  ∀(gv:Nat),
  Q ⟨(.int .i64 0),none,[.ob 0 m1],[],[]⟩) (
  ∀(m1:Mem),m1=m→
  Mem.Wf m1→
  ∀(gv:Nat),
  Q ⟨(.int .i64 ((E.on m).bJ s va)),none,[.ob 0 m1],[],[]⟩)
theorem JC:Vc2 Un prog (bw [(132,kF)]) [] Tryz.f156 .leaf [] oS=(∀s va r (E:Pd) rm (m:Mem),∀Q,(oS.body s va r E rm m Q)→JB s va r E rm m Q):=by kernel_rfl
section
attribute [local grind=] DB.entry DB.aR DB.of DB.is DB.word DB.eG DB.plP DB.bJ
theorem JA:LV Un prog 156 oS:=verify Tryz.func156 aa (tb:= [(132,kF)]) ⟨Dy,trivial⟩ (by kernel_rfl) (JC.mpr fun s va r E rm m Q h=>by
 obtain⟨Ni,NI,h⟩:=h
 exact fun f1 f2=>ao ‹_› fun s3=>ao ‹_› fun s4=>aq (fun c1 m1 NB f5 gv=>aB h (cG ‹_›) (ab (uO0 (by grind)) rfl) rfl) fun c1 m1 NB f6 gv=>aB h rfl (ab (uO0 (by grind)) rfl) rfl)
end
def nr:Ctr Un:=⟨[.one (.obj 0 0),.one (.int .i64),.one (.int .u32),.agg [.bool,.int .i64,.bool,.bool]],[],[.ob 1 [(1,1,0)],.ob 0 []],[0,1],fun s va ma mb mc md r E rm m K=>E.n=m.S∧(0≤(va:Int)∧(va:Int)<4294967296)∧K ⟨(.int .i64 ((E.on m).iE s va (Mp.mk ma mb mc md))),none,[.ob 1 (((E.on m).put s va (Mp.mk ma mb mc md)).pd),.ob 0 (((E.on m).put s va (Mp.mk ma mb mc md)).mem)],[],[]⟩⟩
def Lk(s:Int)(va:Int)(ma:Bool)(mb:Int)(mc:Bool)(md:Bool)(r:Nat→Nat)(E:Pd)(rm:Nat→Nat)(m:Mem)(Q:Ou Un→Prop):Prop:=
 Pd.Ok E→
 Mem.Wf m→
 ∀(gv:Nat),
 E.n=m.S∧
 (0≤va∧va<4294967296)∧
 split (decide ((E.on m).bJ s va=0)) (
  ∀(m1:Mem),m1=m→
  Mem.Wf m1→
  ∀(Nc:Nat),
  split ((Mp.mk ma mb mc md).err !=0) (
   Q ⟨(.int .i64 ((Mp.mk ma mb mc md).err)),none,[.ob 1 E,.ob 0 m1],[],[]⟩) (
   (.pointer (some (Addr.mk (rm 0) 0 none)))=Value.pointer (some (Addr.mk (rm 0) 0 none))∧
   (0≤((Mp.mk ma mb mc md).word)∧((Mp.mk ma mb mc md).word)<4294967296)∧
   ∀(m2:Mem),m2=(m1.write true ((E.on m).plP s va) (vaJ va) ((Mp.mk ma mb mc md).word))→
   Mem.Wf m2→
   Q ⟨(.int .i64 0),none,[.ob 1 E,.ob 0 m2],[],[]⟩)) (
  ∀(m1:Mem),m1=m→
  Mem.Wf m1→
  ∀(Nc:Nat),
  split (((E.on m).bJ s va) !=0) (
   Q ⟨(.int .i64 ((E.on m).bJ s va)),none,[.ob 1 E,.ob 0 m1],[],[]⟩) (
   split ((Mp.mk ma mb mc md).err !=0) (
    Q ⟨(.int .i64 ((Mp.mk ma mb mc md).err)),none,[.ob 1 E,.ob 0 m1],[],[]⟩) (
    False)))
theorem Lm:Vc2 Un prog (bw [(132,kF),(133,qa),(173,tH)]) [] Tryz.f67 .leaf [] nr=(∀s va ma mb mc md r (E:Pd) rm (m:Mem),∀Q,(nr.body s va ma mb mc md r E rm m Q)→Lk s va ma mb mc md r E rm m Q):=by kernel_rfl
section
attribute [local grind=] DB.entry DB.aR DB.of DB.is DB.word DB.eG DB.plP DB.bJ DB.iE DB.put Pd.lv Mem.aV
theorem HM:LV Un prog 67 nr:=verify Tryz.func67 aa (tb:= [(132,kF),(133,qa),(173,tH)]) ⟨Dy,EC,HQ,trivial⟩ (by kernel_rfl) (Lm.mpr fun s va ma mb mc md r E rm m Q h=>by
 obtain⟨Ni,NI,h⟩:=h
 exact fun f1 f2 gv=>ao ‹_› fun s3=>ao ‹_› fun s4=>aq (fun c1 m1 NB f5 Nc=>aN (fun c2=>aB h (cG (by grind)) (ab (uO1 (by grind)) (ab (uO0 (by grind)) rfl)) rfl) fun c2=>ao (by grind) fun s6=>ao (CU _) fun s7 m2 PC f8=>aB h (cG (by grind)) (ab (uO1 (by grind)) (ab (uO0 (by grind)) rfl)) rfl) fun c1 m1 NB f9 Nc=>aN (fun c3=>aB h (cG (by grind)) (ab (uO1 (by grind)) (ab (uO0 (by grind)) rfl)) rfl) fun c3=>aN (fun c4=>aB h (cG (by omega)) (ab (uO1 (by omega)) (ab (uO0 (by omega)) rfl)) rfl) fun c4=>(by exfalso;omega))
end
end
end Go.Proofs.YtinhphjfnedhgaaGreatDoor
namespace Go.Proofs.YtinhphjfnedhgaaGreatDoor.V
open Go Go.RowKit
open Go.IntKind (i64 u32 u64)
section
structure Ans(P:Program)(dk:FuncId)(T:TypeId):Prop where
 can:cj P dk=true
 calm:∀(p:Addr)(w:World),CallsDIn (WF none) 0 P dk #[.pointer (some p)] .returning w fun e u w'=>(∃v,e= .returned v)∧u= .returning∧w'=w
 qN:∀(p:Addr)(x:Int)(w:World)(K:World→Prop),aF w p [.int .u32 x] K→CallsDIn (WF none) 0 P dk #[.pointer (some p)] (.panicking [⟨.iface T (.int .u32 x),false,false⟩]) w fun e u w'=>(∃v,e= .returned v)∧settle u= .returning∧K w'
section
variable {U:Uni} {P:Program} {tbl:Tb U} {may:List Nat} {k0:Nat}
variable {w0:World} {X0 X:Nat→Nat→Prop} {w:World} {fr:Fr} {st:St U} {n:Nat} {N:List Nat}
theorem I7 {a:Act} {l:List Oper} {dk t:Nat}(h:De dk l=some t):∃o,l= [o]∧o.guard=none∧o.dst=none∧∀w,(Oper.semAt none a.eval o).run P w= .ok (.defer ⟨.fn (.func dk) #[],#[a.eval (.tmp t)]⟩) w:=by
 unfold De at h
 split at h
 ·rename_i f az ats ty pos aft
  split at h
  ·rename_i ha hf
   injection h with h
   subst h
   have hf:=Nat.eq_of_beq_eq_true hf
   subst hf
   refine⟨_,rfl,rfl,rfl,fun w=>?_⟩
   have ha2:az= #[.tmp _]:=Array.ext' ha
   subst ha2
   have ef:a.eval (.func f)= .func (.func f) #[] #[]:=rfl
   simp [Oper.semAt,execOp,resolve,ef,Deferred.ofValue]
  ·cases h
 ·cases h
theorem K2 {ops:Array Oper} {id dk t:Nat} {a:Act} {Q:Exit→Act→World→Prop}(h:De dk ops.toList=some t)(hQ:Q .normal {a with defers:=⟨.fn (.func dk) #[],#[a.eval (.tmp t)]⟩::a.defers} w):(Code.region id ops false).wpIn (WF none) 0 P Q a w:=by
 obtain⟨o,ho,hg,hd,OG⟩:=I7 (P:=P) (a:=a) h
 have ho:ops= #[o]:=Array.ext' ho
 subst ho
 refine wpIn_region_list ?_
 simp only [wpListIn]
 rw [if_pos (by unfold Region.wanted;rw [hg])]
 refine⟨fun _ _=>trivial,?_⟩
 show o.uponIn (WF none) 0 P a _ _ ((Oper.semAt none a.eval o).run P w)
 rw [OG w,Oper.uponIn_defer,hd]
 exact hQ
theorem Ed {id off:Nat} {v:Value} {F:St U→Prop}(hv:∀vs,v≠ .agg vs)(hI:Inv w0 k0 X0 may st.rs X w)(hk:av st.rs fr st.kn)(h:GB U k0 may id off v st F):
 ∃g cs T,nth st.rs id=some (.blk g cs T)∧aF w ⟨g,off,none⟩ [v] fun w'=>∃st',Steps w0 k0 X0 may st X st' X w'∧av st'.rs fr st'.kn∧F st':=by
 unfold GB at h
 split at h
 ·rename_i g cs T hn
  split at h
  ·rename_i hc
   rw [Bool.and_eq_true]at hc
   have Q3:off<cs.length:=by simpa [Nat.blt_eq]using hc.1
   refine⟨g,cs,T,hn,?_⟩
   obtain⟨hX,hX2,hb⟩:=(hI.sat.res id _ hn:X id g∧(∀k,X id k→k=g)∧Blk w g ⟨cs⟩ T)
   refine⟨g,off,⟨cs⟩,T,rfl,hb,by simp;omega,fun w2 hs=>?_⟩
   have e:setAt (⟨cs⟩:Array Value) off [v]=⟨cg cs off v⟩:=by
    show(⟨cs⟩:Array Value).setIfInBounds off v=_
    apply Array.ext'
    rw [rY];simp
   rw [e]at hs
   have Rt:=nT hI hk hn hc.2 (hs.ch.mono fun k hk=>hk▸hX) (di.blk g cs (cg cs off v) T (by simp)) (show RS (X id) w2 (.blk g (cg cs off v) T)from⟨hX,hX2,hs.blk⟩) (kn':=eK KS st.kn) ?_
   ·exact⟨_,Rt.steps,Rt.kn,h⟩
   ·intro key k hm
    obtain⟨h1,h2⟩:=dD hm
    unfold KS at h2
    split at h2
    ·exact oA (M:= [id]) (fun i _ hi=>by rw [bn,if_neg (fun hh=>hi (by simp [hh.1]))]) (fun i hi a ha=>by
      simp at hi
      subst hi
      rw [hn]at ha
      injection ha with ha
      subst ha
      exact⟨_,by rw [bn,if_pos ⟨rfl,bc hn⟩],.blk _ _ _ _ (by simp)⟩) (.inr rfl) (hk _ _ h1)
    ·cases h2
  ·exact h.elim
 ·exact h.elim
theorem GV {fn:Func} {rets:List Nat} {Q:Ou U→Prop} {Pa:List (Res U)} {bD:List Nat} {kn0:List (Key×Kn)} {a':Act} {w':World} {st':St U} {X':Nat→Nat→Prop} {dk:FuncId} {T:TypeId} {id off g:Nat} {e:Exit}(hA:Ans P dk T)(Ri:Pa.length=k0)(Oe:∀i,i∈bD→i<k0)(hr:Rep n fr a')(hs:Steps w k0 X bD ⟨Pa,kn0,[]⟩ X st' X' w')(hk:av st'.rs fr st'.kn)
 (hg:∃cs T,nth st'.rs id=some (.blk g cs T))(hd:a'.defers= [⟨.fn (.func dk) #[],#[.pointer (some ⟨g,off,none⟩)]⟩])(h:K1 U P k0 T id off bD rets Q fn e fr st'):bodyPostM (WF none) 0 P fn (aS Pa bD X w Q) e a' w':=by
 have hinv:(invoke (.fn (.func dk) #[]) #[.pointer (some ⟨g,off,none⟩)]).run P w'= .ok (.enter dk #[.pointer (some ⟨g,off,none⟩)]) w':=dN (P:=P) (C:= [dk]) (f:=dk) (by simp [eu,hA.can]) (by simp) _ _
 have go:∀ {u:FrameMode} {R:Ending→FrameMode→World→Prop},u≠ .run→CallsDIn (WF none) 0 P dk #[.pointer (some ⟨g,off,none⟩)] u w' R→(∀e u' w2,R e u' w2→(∃v,e= .returned v)∧LeavesInM (WF none) 0 P fn a'.tmps (aS Pa bD X w Q) [] (settle u') w2)→LeavesInM (WF none) 0 P fn a'.tmps (aS Pa bD X w Q) a'.defers u w':=by
  intro u R hu hc hR
  rw [hd]
  refine⟨hu,.inr ⟨fun h=>(by cases h),_,_,dk,_,rfl,hinv,fun _ _=>trivial,hc.mono fun e u' w2 h=>?_⟩⟩
  obtain⟨⟨v,rfl⟩,h2⟩:=hR e u' w2 h
  exact h2
 have res:vN U P k0 bD rets Q fn fr st'→LeavesInM (WF none) 0 P fn a'.tmps (aS Pa bD X w Q) a'.defers .returning w':=fun h=>go (by simp) (hA.calm _ w') fun e u' w2 ⟨h1,h2,h3⟩=>by
  subst h2;subst h3
  exact⟨h1,rj Ri Oe hr hs hk h⟩
 unfold K1 at h
 split at h
 ·exact res h
 ·exact res h
 ·rename_i T' x
  split at h
  ·rename_i hT
   have hT:=Nat.eq_of_beq_eq_true hT
   subst hT
   obtain⟨g',cs,T2,hn,OT⟩:=Ed (by simp) hs.inv hk h
   obtain⟨cs',T3,Q4⟩:=hg
   rw [hn]at Q4
   injection Q4 with Q4
   injection Q4 with e1 e2 e3
   subst e1
   refine go (by simp) (hA.qN _ x w' _ OT) fun e u' w2 ⟨h1,h2,OD,h3,h4,h5⟩=>⟨h1,?_⟩
   rw [h2]
   exact rj Ri Oe hr (hs.trans h3) h4 h5
  ·exact h.elim
 ·exact h.elim
theorem FH {f:Nat} {fn:Func} {an:An} {rets:List Nat} {c:Ctr U} {dk:FuncId} {T:TypeId}(hA:Ans P dk T)(hf:P.funcs[f]? =some fn)(hm:P.follows .mixedOrders=true)(Ot:∀f c,tbl.c f=some c→LV U P f c∧cj P f=true)(Oe:hH (fun i=>Nat.blt i c.res.length) c.bD=true)(h:VcD U P tbl dk T N fn an rets c):LV U P f c:=by
 have P1:∀i,i∈c.bD→i<c.res.length:=fun i hi=>by simpa [Nat.blt_eq]using cI.1 Oe i hi
 refine Cw (V:=fun code Q fr st=>Kr U P tbl c.bD c.res.length dk T N fn an rets code Q fr st) hf ?_ (fun args ks rs kc Q h=>?_) h
 ·intro code Q Pa X w kn fr a Ri hI Pz OU Pf h
  unfold Kr at h
  split at h
  case h_2=>exact h.elim
  rename_i i0 ops0 i1 ops1 code
  refine wpIn_seq (wpIn_mono (dC Ot hm _ _ _ _ _ X _ w Pz hI OU h) fun e a1 w1 he=>?_)
  cases e
  case normal=>
   obtain⟨TA,Q2,⟨Rf,X1,g1,g2,g3,g4⟩,_⟩:=he
   dsimp only at g4
   split at g4
   case h_2=>exact g4.elim
   rename_i t ht
   split at g4
   case h_2=>exact g4.elim
   rename_i id off hkt
   have g3:TA.ds= []:=g3.trans Pf
   have OB:den U Rf.rs (.loc id off)=some (lk TA.g t TA.e):=g2.get hkt
   obtain⟨g,cs,T1,hn⟩:∃g cs T1,nth Rf.rs id=some (.blk g cs T1):=by
    unfold den at OB
    simp only [PK.id]at OB
    cases hn:nth Rf.rs id with
    | none=>rw [hn]at OB;cases OB
    | some r=>cases r<;>first | exact⟨_,_,_,rfl⟩ | (rw [hn]at OB;cases OB)
   have aaa:lk TA.g t TA.e= .pointer (some ⟨g,off,none⟩):=by
    simp only [den,PK.id,hn,cz,Option.some.injEq]at OB
    exact OB.symm
   have hev:a1.eval (.tmp t)= .pointer (some ⟨g,off,none⟩):=by rw [Q2.eval];exact aaa
   refine wpIn_seq (K2 ht ?_)
   rw [hev,Q2.defers,g3]
   rw [aaa]at g4
   have Qe:Rep fn.ntmps ⟨TA.e,TA.g,[⟨.fn (.func dk) #[],#[.pointer (some ⟨g,off,none⟩)]⟩]⟩ {a1 with defers:= [⟨.fn (.func dk) #[],#[.pointer (some ⟨g,off,none⟩)]⟩]}:=⟨Q2.size,Q2.get,rfl⟩
   refine wpIn_mono (dC Ot hm code an _ _ _ X1 _ w1 Qe g1.inv (g2.same fun _=>rfl) g4) fun e a2 w2 he=>?_
   cases e
   case outgrown=>exact he.elim
   all_goals
    obtain⟨Og,hr3,⟨OD,X2,k1,k2,k3,k4⟩,_⟩:=he
    obtain⟨b,hb,N7⟩:=k1.root id _ hn
    exact GV hA Ri P1 hr3 (g1.trans k1) k2 (by cases N7;exact⟨_,_,hb⟩) (hr3.defers.trans k3) k4
  case outgrown=>exact he.elim
  all_goals
   obtain⟨TA,Q2,⟨Rf,X1,g1,g2,g3,g4⟩,_⟩:=he
   exact g4.elim
 ·unfold Lx at h
  split at h
  case h_2=>exact h.elim
  rename_i code hb OJ
  simp only [Bool.and_eq_true]at OJ
  exact⟨code,hb,OJ.1,OJ.2,h⟩
theorem nH {f:Nat} {fn:Func} {an:An} {rets:List Nat} {c:Ctr U} {tb:List (Nat×Ctr U)} {sh:Sh} {al:List (Nat×List PK×List PK)} {dk:FuncId} {T:TypeId}(hA:Ans P dk T)(hf:P.funcs[f]? =some fn)(hm:P.follows .mixedOrders=true)(ht:vI U P tb)(hb:(hH (fun p=>cj P p.1) tb && hH (fun i=>Nat.blt i c.res.length) c.bD)=true)(h:VcD U P ⟨DP tb,sh,al⟩ dk T N fn an rets c):LV U P f c:=by
 rw [Bool.and_eq_true]at hb
 exact FH hA hf hm (fun f c hfc=>pq hfc ht hb.1) hb.2 h
end
end
end Go.Proofs.YtinhphjfnedhgaaGreatDoor.V
namespace Go.Proofs.YtinhphjfnedhgaaGreatDoor
open Go.Proofs.Tryz (prog)
open Go Go.RowKit V
open Go.IntKind (i64 u32 u64)
section
set_option maxRecDepth 100000
theorem xI {w:World} {p:Addr} {v:Value} {K:World→Prop}(h:aF w p [v] K):(∃u,w.cell? p=some u)∧w.frozen? p=false∧K (w.setCell p v):=by
 obtain⟨g,o,cs,T,rfl,hb,hl,hK⟩:=h
 have ho:o<cs.size:=by have:o+1≤cs.size:=hl;omega
 refine⟨⟨cs[o],hb.cell (by simp [ho])⟩,?_,hK _ (hb.set o v)⟩
 have hb:w.heap[g]? =some (.cells cs T (0,0)):=hb
 simp [World.frozen?,hb]
theorem Hj(p:Addr)(w:World):CallsDIn (WF none) 0 prog 82 #[.pointer (some p)] .returning w fun e u w'=>(∃v,e= .returned v)∧u= .returning∧w'=w:=by
 refine callsDIn_of_wpSIn Tryz.func82 rfl trivial fun c₀ cs hu=>?_
 apply wpSIn_seq
 apply wpSIn_region
 simp [wpOpsSIn,go_sem,recoverD,hu,Tryz.ntmps82,Exit.thenS]
 refine wpSIn_of_wpIn rfl (wpIn_block (wpIn_seq (wpIn_region_list ?_)))
 simp [wpListIn,Oper.wpIn,go_sem,Oper.semAt,Region.wanted]
 refine wpIn_cond (t:=true) (by simp [Act.eval,Array.replicate]) ?_
 simp only [if_true]
 refine wpIn_region_list ?_
 simp [wpListIn,Oper.wpIn,go_sem,Oper.semAt,Region.wanted,Exit.inBlock,bodyPostS,results,Tryz.results82]
 cases c₀
 simp_all
theorem Hi(p:Addr)(x:Int)(w:World)(K:World→Prop)(h:aF w p [.int .u32 x] K):CallsDIn (WF none) 0 prog 82 #[.pointer (some p)] (.panicking [⟨.iface 236 (.int .u32 x),false,false⟩]) w fun e u w'=>(∃v,e= .returned v)∧settle u= .returning∧K w':=by
 obtain⟨⟨u0,hc⟩,hz,hK⟩:=xI h
 refine callsDIn_of_wpSIn Tryz.func82 rfl trivial fun c₀ cs hu=>?_
 apply wpSIn_seq
 apply wpSIn_region
 simp [wpOpsSIn,go_sem,recoverD,hu,Tryz.ntmps82,Exit.thenS]
 refine wpSIn_of_wpIn rfl (wpIn_block (wpIn_seq (wpIn_region_list ?_)))
 simp [wpListIn,Oper.wpIn,go_sem,Oper.semAt,Region.wanted]
 refine wpIn_cond (t:=false) (by simp [Act.eval,Array.replicate]) ?_
 simp only [Bool.false_eq_true,if_false]
 have hta:∀w:World,(Instr.typeAssert (.iface 236 (.int .u32 x)) 20 236 true).run prog w= .ok (.tuple #[.int .u32 x,.bool true]) w:=fun w=>by kernel_rfl
 refine wpIn_seq (wpIn_region_list ?_)
 simp [wpListIn,Oper.wpIn,go_sem,Oper.semAt,Region.wanted,hta]
 refine wpIn_cond (t:=true) (by simp [Act.eval,Array.replicate]) ?_
 simp only [if_true]
 refine wpIn_seq (wpIn_region_list ?_)
 simp [wpListIn,Oper.wpIn,go_sem,Oper.semAt,Region.wanted]
 refine wpIn_region_list ?_
 simp [wpListIn,Oper.wpIn,go_sem,Oper.semAt,Region.wanted,hc,hz,Exit.inBlock,bodyPostS,results,Tryz.results82]
 exact⟨rfl,hK⟩
theorem ans:Ans prog 82 236:=⟨by kernel_rfl,Hj,Hi⟩
end
section
set_option maxRecDepth 100000
set_option maxHeartbeats 1000000
attribute [local irreducible] Vc2 VcD
attribute [local grind=] Pd.eh Pd.eV Pd.km Pd.oe Pd.cD Pd.iH Pd.kj Pd.gV Pd.nU Pd.AT
attribute [local grind .] Pd.Ok.ent
attribute [local grind→] Pd.Ok.eU
def cr:Ctr Un:=⟨[.one (.int .i64)],[],[],[],fun p K=>K ⟨(.agg #[(.bool true),(.int .i64 p)]),none,[],[],[]⟩⟩
def Cm(p:Int)(Q:Ou Un→Prop):Prop:=
 ∀(gv:Nat),
 Q ⟨(.agg #[(.bool true),(.int .i64 p)]),none,[],[],[]⟩
theorem Cn:Vc2 Un prog (bw []) [] Tryz.f88 .leaf [] cr=(∀p,∀Q,(cr.body p Q)→Cm p Q):=by kernel_rfl
theorem gj:LV Un prog 88 cr:=verify Tryz.func88 aa (tb:= []) trivial (by kernel_rfl) (Cn.mpr fun p Q h gv=>h)
def ic:Ctr Un:=⟨[.one (.obj 0 0),.one (.int .i64),.enc 8],[],[.ob 1 [(1,1,0)],.ob 0 []],[1],fun s f r E rm m K=>E.n=m.S∧W26.Ok f∧K ⟨(.tuple #[]),(some (.t [])),[.ob 0 (m.wrs s 11 (W26.ws f))],[],[]⟩⟩
def JX(s:Int)(f:W26)(r:Nat→Nat)(E:Pd)(rm:Nat→Nat)(m:Mem)(Q:Ou Un→Prop):Prop:=
 Pd.Ok E→
 Mem.Wf m→
 ∀(gv:Nat),
 ∀(s1:List U32),s1=(W26.n f)→
 (s1.length=26)∧
 ∃I:Nat→Int→Mem→Prop,(∃m1,I m1 0 m)∧∀(m1:Nat)(NR:Nat→Value)(x9:Int)(N6:Mem),I m1 x9 N6→
 Mem.Wf N6→
 split (decide (x9<26)) (
  (0≤x9∧x9<(26:Int))∧
  ∃O5:Int,(⟨W26.c (W26.mk s1)⟩:Array Value)[Int.toNat x9*1]? =some (.int .u32 O5)∧
  (0≤O5∧O5<4294967296)∧
  ∀(m3:Mem),m3=(N6.write true s (i64.wrap (11+x9)) O5)→
  Mem.Wf m3→
  ∃m2,m2<m1∧I m2 (i64.wrap (x9+1)) m3) (
  Q ⟨(.tuple #[]),(some (.t [])),[.ob 0 N6],[],[]⟩)
theorem JY:Vc2 Un prog (bw [(14,bf),(88,cr),(42,iT)]) [] Tryz.f86 (.r' (.r' (.two (.node [] (some ⟨[(9,(.one (.int .i64)))],[],[6,7]++upN 9 13,[(1,(.ob 0))]⟩) [] [] .leaf .leaf) .leaf))) [] ic=(∀s (f:W26) r (E:Pd) rm (m:Mem),∀Q,(ic.body s f r E rm m Q)→JX s f r E rm m Q):=by kernel_rfl
theorem xr:LV Un prog 86 ic:=verify Tryz.func86 aa (tb:= [(14,bf),(88,cr),(42,iT)]) ⟨cO,gj,tJ,trivial⟩ (by kernel_rfl) (JY.mpr fun s f r E rm m Q h=>by
 obtain⟨Ni,NI,h⟩:=h
 exact fun f1 f2 gv s1 Qf=>ao (by subst_vars;rfl) fun e3=>⟨fun m1 x9 N6=>(m1=(26 - x9).toNat)∧(0≤x9∧x9≤26)∧(N6=m.wrs s 11 ((W26.ws f).take x9.toNat)),⟨_,rfl,(by omega),(by rfl)⟩,fun m1 _ x9 N6 ⟨hm,h1,h2⟩=>fun f4=>aq (fun c1=>ao (by omega) fun e5=>⟨((W26.ws f).getD x9.toNat 0),ao (by subst_vars;rw [W26.FE];exact W26.Mo (by omega)) fun e6=>ao (W26.Km NI (by omega)) fun e7 m3 OP f8=>⟨_,(by rw [aA (by omega)];omega),rfl,(by rw [aA (by omega)];omega),(by rw [Mem.xx (W26.jr f) (by omega),← h2];assumption)⟩⟩) fun c1=>aB h rfl (ab (uO0 (by rw [h2,List.take_of_length_le];rw [W26.jr];omega)) rfl) rfl⟩)
def cP:Ctr Un:=⟨[.one (.obj 0 0),.one (.int .i64),.agg [.int .i64,.int .u32,.nsl]],[(2,5)],[.ob 1 [(1,1,0)],.ob 0 [],.ob 5 []],[1],fun s k a r E rm m rk kk K=>E.n=m.S∧(0≤(a:Int)∧(a:Int)<4294967296)∧((k:Int)=1∨(k:Int)=2∨(k:Int)=4)∧K ⟨(.tuple #[]),(some (.t [])),[.ob 0 (m.msd kk s k a [])],[],[]⟩⟩
def uu(s:Int)(k:Int)(a:Int)(r:Nat→Nat)(E:Pd)(rm:Nat→Nat)(m:Mem)(rk:Nat→Nat)(kk:List Int)(Q:Ou Un→Prop):Prop:=
 Pd.Ok E→
 Mem.Wf m→
 ∀(gv:Nat),
 ∀(Nc:Nat),
 ∀(s1:List U32),s1=(W26.n (W26.mk []))→
 ∃I:Nat→Int→Mem→List U32→Prop,(∃m1,I m1 0 m s1)∧∀(m1:Nat)(Oq:Nat→Value)(NW:Int)(N6:Mem)(s4:List U32),I m1 NW N6 s4→
 Mem.Wf N6→
 split (decide (NW<26)) (
  ∀(m3:Mem),m3=N6→
  Mem.Wf m3→
  ((0≤NW∧NW<(s4.length:Int))∧NW<(26:Int))∧
  True∧
  ∀(s2:List U32),s2=(List.set s4 NW.toNat (U32.mk (N6.aY true s (i64.wrap (11+NW)))))→
  ∃m2,m2<m1∧I m2 (i64.wrap (NW+1)) m3 s2) (
  (s4.length=26)∧
  W26.Ok (W26.mk (W26.n (W26.mk s4)))∧
  (0≤a∧a<4294967296)∧
  (k=1∨k=2∨k=4)∧
  split (decide ((Dg.aw (W26.n (W26.mk (W26.n (W26.mk s4)))))=0)) (
   ∀(No:Nat),
   ∀(s2:List U32),s2=(W26.n (W26.mk []))→
   (s2.length=26)∧
   ∀(s3:List U32),s3=(Dg.svL ((Dg.load (W26.n (W26.mk (W26.n (W26.mk s4))))).add kk (opW k a [])))→
   (s3.length=26)∧
   E.n=N6.S∧
   W26.Ok (W26.mk (W26.n (W26.mk s3)))∧
   ∀(m3:Mem),m3=(N6.wrs s 11 (W26.ws (W26.mk (W26.n (W26.mk s3)))))→
   Mem.Wf m3→
   Q ⟨(.tuple #[]),(some (.t [])),[.ob 0 m3],[],[]⟩) (
   ∀(No:Nat),
   ∀(s2:List U32),s2=(W26.n (W26.mk []))→
   (s2.length=26)∧
   ∀(s3:List U32),s3=(W26.n (W26.mk []))→
   split ((Dg.aw (W26.n (W26.mk (W26.n (W26.mk s4)))))==0) (
    (s3.length=26)∧
    E.n=N6.S∧
    W26.Ok (W26.mk (W26.n (W26.mk s3)))∧
    ∀(m3:Mem),m3=(N6.wrs s 11 (W26.ws (W26.mk (W26.n (W26.mk s3)))))→
    Mem.Wf m3→
    Q ⟨(.tuple #[]),(some (.t [])),[.ob 0 m3],[],[]⟩) (
    Q ⟨(.tuple #[]),(some (.t [])),[.ob 0 N6],[],[]⟩)))
theorem uv:Vc2 Un prog (bw [(14,bf),(88,cr),(92,kG),(68,iS),(86,ic)]) [] Tryz.f89 (.r' (.r' (.two (.r' (.two (.node [] (some ⟨[(10,(.one (.int .i64)))],[],[7]++upN 10 16,[(1,(.ob 0)),(4,(.ob 7))]⟩) [] [] .leaf .leaf) .leaf)) .leaf))) [] cP=(∀s k a r (E:Pd) rm (m:Mem) rk (kk:List Int),∀Q,(cP.body s k a r E rm m rk kk Q)→uu s k a r E rm m rk kk Q):=by kernel_rfl
theorem jx:LV Un prog 89 cP:=verify Tryz.func89 aa (tb:= [(14,bf),(88,cr),(92,kG),(68,iS),(86,ic)]) ⟨cO,gj,wW,BS,xr,trivial⟩ (by kernel_rfl) (uv.mpr fun s k a r E rm m rk kk Q h=>by
 obtain⟨Ni,NI,NZ,h⟩:=h
 exact fun f1 f2 gv Nc s1 Qf=>⟨fun m1 NW N6 s4=>(m1=(26 - NW).toNat)∧(0≤NW∧NW≤26)∧(N6=m)∧(s4=(m.dgW s).take NW.toNat++List.replicate (26 - NW.toNat) (U32.mk 0)),⟨_,rfl,(by omega),(by rfl),(by subst_vars;rfl)⟩,fun m1 _ NW N6 s4 ⟨hm,h1,h2,h3⟩=>fun f3=>aq (fun c1 m3 OP f4=>ao (by rw [h3];simp [Mem.dH];omega) fun e5=>ao trivial fun _ s2 Oj=>⟨_,(by rw [aA (by omega)];omega),rfl,(by rw [aA (by omega)];omega),(by subst_vars;rfl),(by subst h2;rw [Oj];exact Mem.ta (by omega) h3)⟩) fun c1=>(by(have h4:s4=m.dgW s:=by rw [h3];exact Mem.wA (by omega));(have h5:W26.n (W26.mk (W26.n (W26.mk s4)))=m.dgW s:=by rw [h4];exact W26.nn (Mem.dH m s));rw [h5];exact ao (by rw [h4];exact Mem.dH m s) fun e7=>ao (by rw [h4];exact W26.CQ (Mem.dH m s) (Mem.jn f2 s)) fun e8=>ao ‹_› fun e9=>ao ‹_› fun e10=>aq (fun c2=>(by(have h6:=(Dg.lI (K:=kk) (l:=opW k a []) (Dg.eo (Mem.jn f2 s) c2) (lu (k:=k) (a:=a) NI (by omega) (fun x hx=>absurd hx (by simp)))).1);exact fun No s2 Oj=>ao (by subst_vars;rfl) fun e11 s3 NY=>ao (by subst_vars;rfl) fun e12=>ao (by grind) fun e13=>ao (by subst NY;exact W26.CQ rfl (Dg.AE h6)) fun e14 m3 OP f15=>aB h rfl (ab (uO0 (by rw [OP,NY,Dg.FN h6,h2];unfold Mem.msd;rw [if_pos c2])) rfl) rfl)) fun c2 No s2 Oj=>ao (by subst_vars;rfl) fun e16 s3 NY=>aK (fun c3=>(by exfalso;exact c2 c3)) fun c3=>aB h rfl (ab (uO0 (by rw [h2];unfold Mem.msd;rw [if_neg c2])) rfl) rfl)⟩)
def gr:Ctr Un:=⟨[.one (.obj 0 0),.one (.int .i64),.agg [.int .i64,.int .u32,.sl 2]],[(3,5)],[.ob 1 [(1,1,0)],.ob 0 [],.lst 1 false 29,.ob 5 []],[1],fun s k a r E rm m A0 c0 l rk kk K=>E.n=m.S∧(0≤(a:Int)∧(a:Int)<4294967296)∧(k:Int)=3∧l.length=1024∧dP l∧K ⟨(.tuple #[]),(some (.t [])),[.ob 0 (m.msd kk s k a l)],[],[]⟩⟩
def ux(s:Int)(k:Int)(a:Int)(r:Nat→Nat)(E:Pd)(rm:Nat→Nat)(m:Mem)(A0:Option Addr)(c0:Nat)(l:List U32)(rk:Nat→Nat)(kk:List Int)(Q:Ou Un→Prop):Prop:=
 Pd.Ok E→
 Mem.Wf m→
 ∀(gv:Nat),
 ∀(Nc:Nat),
 ∀(s1:List U32),s1=(W26.n (W26.mk []))→
 ∃I:Nat→Int→Mem→List U32→Prop,(∃m1,I m1 0 m s1)∧∀(m1:Nat)(Oq:Nat→Value)(NW:Int)(N6:Mem)(s5:List U32),I m1 NW N6 s5→
 Mem.Wf N6→
 split (decide (NW<26)) (
  ∀(m3:Mem),m3=N6→
  Mem.Wf m3→
  ((0≤NW∧NW<(s5.length:Int))∧NW<(26:Int))∧
  True∧
  ∀(s2:List U32),s2=(List.set s5 NW.toNat (U32.mk (N6.aY true s (i64.wrap (11+NW)))))→
  ∃m2,m2<m1∧I m2 (i64.wrap (NW+1)) m3 s2) (
  (s5.length=26)∧
  W26.Ok (W26.mk (W26.n (W26.mk s5)))∧
  (0≤a∧a<4294967296)∧
  k=3∧
  l.length=1024∧
  dP l∧
  split (decide ((Dg.aw (W26.n (W26.mk (W26.n (W26.mk s5)))))=0)) (
   ∀(No:Nat),
   ∀(s2:List U32),s2=(W26.n (W26.mk []))→
   (s2.length=26)∧
   ∀(s3:List U32),s3=(Dg.svL ((Dg.load (W26.n (W26.mk (W26.n (W26.mk s5))))).add kk (opW k a l)))→
   (s3.length=26)∧
   E.n=N6.S∧
   W26.Ok (W26.mk (W26.n (W26.mk s3)))∧
   ∀(m3:Mem),m3=(N6.wrs s 11 (W26.ws (W26.mk (W26.n (W26.mk s3)))))→
   Mem.Wf m3→
   Q ⟨(.tuple #[]),(some (.t [])),[.ob 0 m3],[],[]⟩) (
   ∀(No:Nat),
   ∀(s2:List U32),s2=(W26.n (W26.mk []))→
   (s2.length=26)∧
   ∀(s3:List U32),s3=(W26.n (W26.mk []))→
   split ((Dg.aw (W26.n (W26.mk (W26.n (W26.mk s5)))))==0) (
    (s3.length=26)∧
    E.n=N6.S∧
    W26.Ok (W26.mk (W26.n (W26.mk s3)))∧
    ∀(m3:Mem),m3=(N6.wrs s 11 (W26.ws (W26.mk (W26.n (W26.mk s3)))))→
    Mem.Wf m3→
    Q ⟨(.tuple #[]),(some (.t [])),[.ob 0 m3],[],[]⟩) (
    Q ⟨(.tuple #[]),(some (.t [])),[.ob 0 N6],[],[]⟩)))
theorem uy:Vc2 Un prog (bw [(14,bf),(88,cr),(92,kG),(68,nm),(86,ic)]) [] Tryz.f89 (.r' (.r' (.two (.r' (.two (.node [] (some ⟨[(10,(.one (.int .i64)))],[],[7]++upN 10 16,[(1,(.ob 0)),(5,(.ob 7))]⟩) [] [] .leaf .leaf) .leaf)) .leaf))) [] gr=(∀s k a r (E:Pd) rm (m:Mem) A0 c0 (l:List U32) rk (kk:List Int),∀Q,(E.n=m.S∧(0≤(a:Int)∧(a:Int)<4294967296)∧(k:Int)=3∧l.length=1024∧dP l∧Q ⟨(.tuple #[]),(some (.t [])),[.ob 0 (m.msd kk s k a l)],[],[]⟩)→ux s k a r E rm m A0 c0 l rk kk Q):=by kernel_rfl
theorem uw:LV Un prog 89 gr:=verify Tryz.func89 aa (tb:= [(14,bf),(88,cr),(92,kG),(68,nm),(86,ic)]) ⟨cO,gj,wW,BV,xr,trivial⟩ (by kernel_rfl) (uy.mpr fun s k a r E rm m A0 c0 l rk kk Q h=>by
 obtain⟨Ni,NI,NZ,Wm,US,h⟩:=h
 exact fun f1 f2 gv Nc s1 Qf=>⟨fun m1 NW N6 s5=>(m1=(26 - NW).toNat)∧(0≤NW∧NW≤26)∧(N6=m)∧(s5=(m.dgW s).take NW.toNat++List.replicate (26 - NW.toNat) (U32.mk 0)),⟨_,rfl,(by omega),(by rfl),(by subst_vars;rfl)⟩,fun m1 _ NW N6 s5 ⟨hm,h1,h2,h3⟩=>fun f3=>aq (fun c1 m3 OP f4=>ao (by rw [h3];simp [Mem.dH];omega) fun e5=>ao trivial fun _ s2 Oj=>⟨_,(by rw [aA (by omega)];omega),rfl,(by rw [aA (by omega)];omega),(by subst_vars;rfl),(by subst h2;rw [Oj];exact Mem.ta (by omega) h3)⟩) fun c1=>(by(have h4:s5=m.dgW s:=by rw [h3];exact Mem.wA (by omega));(have h5:W26.n (W26.mk (W26.n (W26.mk s5)))=m.dgW s:=by rw [h4];exact W26.nn (Mem.dH m s));rw [h5];exact ao (by rw [h4];exact Mem.dH m s) fun e7=>ao (by rw [h4];exact W26.CQ (Mem.dH m s) (Mem.jn f2 s)) fun e8=>ao ‹_› fun e9=>ao ‹_› fun e10=>ao ‹_› fun e11=>ao ‹_› fun e12=>aq (fun c2=>(by(have h6:=(Dg.lI (K:=kk) (l:=opW k a l) (Dg.eo (Mem.jn f2 s) c2) (lu (k:=k) (a:=a) NI (by omega) US)).1);exact fun No s2 Oj=>ao (by subst_vars;rfl) fun e13 s3 NY=>ao (by subst_vars;rfl) fun e14=>ao (by grind) fun e15=>ao (by subst NY;exact W26.CQ rfl (Dg.AE h6)) fun e16 m3 OP f17=>aB h rfl (ab (uO0 (by rw [OP,NY,Dg.FN h6,h2];unfold Mem.msd;rw [if_pos c2])) rfl) rfl)) fun c2 No s2 Oj=>ao (by subst_vars;rfl) fun e18 s3 NY=>aK (fun c3=>(by exfalso;exact c2 c3)) fun c3=>aB h rfl (ab (uO0 (by rw [h2];unfold Mem.msd;rw [if_neg c2])) rfl) rfl)⟩)
def bA:Ctr Un:=⟨[.one (.bool),.one (.int .u32)],[],[],[],fun yes c K=>split yes (K ⟨(.iface 236 (.int .u32 c)),(some .pan),[],[],[]⟩) (K ⟨(.tuple #[]),(some (.t [])),[],[],[]⟩)⟩
def Co(yes:Bool)(c:Int)(Q:Ou Un→Prop):Prop:=
 split yes (
  Q ⟨(.iface 236 (.int .u32 c)),(some .pan),[],[],[]⟩) (
  Q ⟨(.tuple #[]),(some (.t [])),[],[],[]⟩)
theorem Cp:Vc2 Un prog (bw []) [] Tryz.f84 .leaf [] bA=(∀yes c,∀Q,(bA.body yes c Q)→Co yes c Q):=by kernel_rfl
theorem dY:LV Un prog 84 bA:=verify Tryz.func84 aa (tb:= []) trivial (by kernel_rfl) (Cp.mpr fun yes c Q h=>ae (fun c1=>(bU h ‹_›)) fun c1=>(bV h ‹_›))
def dO:Ctr Un:=⟨[.one (.obj 0 0),.one (.int .u32)],[],[.ob 1 [(1,1,0)],.ob 0 []],[],fun n r E rm m K=>E.n=m.S∧(0≤(n:Int)∧(n:Int)<4294967296)∧split (decide (((E.on m).bj n)≠0)) (K ⟨(.iface 236 (.int .u32 ((E.on m).bj n))),(some .pan),[],[],[]⟩) (K ⟨(.int .i64 n),none,[],[],[]⟩)⟩
def Ie(n:Int)(r:Nat→Nat)(E:Pd)(rm:Nat→Nat)(m:Mem)(Q:Ou Un→Prop):Prop:=
 Pd.Ok E→
 Mem.Wf m→
 E.n=m.S∧
 split (decide ((i64.wrap n)≥(E.on m).S)) (
  Q ⟨(.iface 236 (.int .u32 1)),(some .pan),[],[],[]⟩) (
  Q ⟨(.int .i64 (i64.wrap n)),none,[],[],[]⟩)
theorem Ig:Vc2 Un prog (bw [(120,lZ),(84,bA)]) [] Tryz.f83 .leaf [] dO=(∀n r (E:Pd) rm (m:Mem),∀Q,(dO.body n r E rm m Q)→Ie n r E rm m Q):=by kernel_rfl
section
attribute [local grind=] DB.bj
theorem l0:LV Un prog 83 dO:=verify Tryz.func83 aa (tb:= [(120,lZ),(84,bA)]) ⟨Al,dY,trivial⟩ (by kernel_rfl) (Ig.mpr fun n r E rm m Q h=>by
 obtain⟨Ni,NI,h⟩:=h
 exact fun f1 f2=>(by(have ZT:i64.wrap n=n:=aA (by omega));rw [ZT];exact ao ‹_› fun s3=>aq (fun c1=>aB (bU h (by grind)) (congrArg (Value.iface 236) (bt (by grind))) rfl rfl) fun c1=>sM (bV h (by grind)) (by omega)))
end
def fu:Ctr Un:=⟨[.one (.obj 0 0),.one (.int .u32)],[],[.ob 1 [(1,1,0)],.ob 0 []],[],fun n r E rm m K=>E.n=m.S∧(0≤(n:Int)∧(n:Int)<4294967296)∧split (decide (((E.on m).eX n)≠0)) (K ⟨(.iface 236 (.int .u32 ((E.on m).eX n))),(some .pan),[],[],[]⟩) (K ⟨(.agg #[(.bool false),(.int .i64 n)]),none,[],[],[]⟩)⟩
def Ck(n:Int)(r:Nat→Nat)(E:Pd)(rm:Nat→Nat)(m:Mem)(Q:Ou Un→Prop):Prop:=
 Pd.Ok E→
 Mem.Wf m→
 ∀(gv:Nat),
 split (decide ((i64.wrap n)≥m.I)) (
  Q ⟨(.iface 236 (.int .u32 17)),(some .pan),[],[],[]⟩) (
  Q ⟨(.agg #[(.bool false),(.int .i64 (i64.wrap n))]),none,[],[],[]⟩)
theorem Cl:Vc2 Un prog (bw [(14,bf),(55,lO),(84,bA)]) [] Tryz.f94 .leaf [] fu=(∀n r (E:Pd) rm (m:Mem),∀Q,(fu.body n r E rm m Q)→Ck n r E rm m Q):=by kernel_rfl
section
attribute [local grind=] DB.eX
theorem tW:LV Un prog 94 fu:=verify Tryz.func94 aa (tb:= [(14,bf),(55,lO),(84,bA)]) ⟨cO,zM,dY,trivial⟩ (by kernel_rfl) (Cl.mpr fun n r E rm m Q h=>by
 obtain⟨Ni,NI,h⟩:=h
 exact fun f1 f2=>(by(have ZT:i64.wrap n=n:=aA (by omega));rw [ZT];exact fun gv=>aq (fun c1=>aB (bU h (by grind)) (congrArg (Value.iface 236) (bt (by grind))) rfl rfl) fun c1=>aB (bV h (by grind)) (congrArg (fun l=>Value.agg (List.toArray l)) (ab rfl (ab (cG (by omega)) rfl))) rfl rfl))
end
def eR:Ctr Un:=⟨[.one (.obj 0 0),.one (.int .i64)],[],[.ob 1 [(1,1,0)],.ob 0 []],[],fun n r E rm m K=>E.n=m.S∧split (decide (((E.on m).bp n)≠0)) (K ⟨(.iface 236 (.int .u32 ((E.on m).bp n))),(some .pan),[],[],[]⟩) (K ⟨(.tuple #[]),(some (.t [])),[],[],[]⟩)⟩
def Ih(n:Int)(r:Nat→Nat)(E:Pd)(rm:Nat→Nat)(m:Mem)(Q:Ou Un→Prop):Prop:=
 Pd.Ok E→
 Mem.Wf m→
 E.n=m.S∧
 ∀(gv:Nat),
 split (((E.on m).entry n).typ !=0) (
  Q ⟨(.iface 236 (.int .u32 2)),(some .pan),[],[],[]⟩) (
  Q ⟨(.tuple #[]),(some (.t [])),[],[],[]⟩)
theorem Ii:Vc2 Un prog (bw [(18,dj),(84,bA)]) [] Tryz.f85 .leaf [] eR=(∀n r (E:Pd) rm (m:Mem),∀Q,(eR.body n r E rm m Q)→Ih n r E rm m Q):=by kernel_rfl
section
attribute [local grind=] DB.bp
theorem o8:LV Un prog 85 eR:=verify Tryz.func85 aa (tb:= [(18,dj),(84,bA)]) ⟨gI,dY,trivial⟩ (by kernel_rfl) (Ii.mpr fun n r E rm m Q h=>by
 obtain⟨Ni,h⟩:=h
 exact fun f1 f2=>ao ‹_› fun s3 gv=>aN (fun c1=>aB (bU h (by grind)) (congrArg (Value.iface 236) (bt (by grind))) rfl rfl) fun c1=>(bV h (by grind)))
end
def cB:Ctr Un:=⟨[.one (.obj 0 0),.one (.int .u32)],[],[.ob 1 [(1,1,0)],.ob 0 []],[],fun s r E rm m K=>E.n=m.S∧(0≤(s:Int)∧(s:Int)<4294967296)∧split (decide (((E.on m).aE s)≠0)) (K ⟨(.iface 236 (.int .u32 ((E.on m).aE s))),(some .pan),[],[],[]⟩) (K ⟨(.int .i64 s),none,[],[],[]⟩)⟩
def xt(s:Int)(r:Nat→Nat)(E:Pd)(rm:Nat→Nat)(m:Mem)(Q:Ou Un→Prop):Prop:=
 Pd.Ok E→
 Mem.Wf m→
 E.n=m.S∧
 (0≤s∧s<4294967296)∧
 split (decide (((E.on m).bj s)≠0)) (
  Q ⟨(.iface 236 (.int .u32 ((E.on m).bj s))),(some .pan),[],[],[]⟩) (
  E.n=m.S∧
  ∀(gv:Nat),
  split (((E.on m).entry s).typ !=1) (
   Q ⟨(.iface 236 (.int .u32 3)),(some .pan),[],[],[]⟩) (
   split (((E.on m).entry s).state !=1) (
    Q ⟨(.iface 236 (.int .u32 4)),(some .pan),[],[],[]⟩) (
    Q ⟨(.int .i64 s),none,[],[],[]⟩)))
theorem xu:Vc2 Un prog (bw [(83,dO),(18,dj),(84,bA)]) [] Tryz.f87 .leaf [] cB=(∀s r (E:Pd) rm (m:Mem),∀Q,(cB.body s r E rm m Q)→xt s r E rm m Q):=by kernel_rfl
section
attribute [local grind=] DB.aE DB.bj DB.entry
theorem ig:LV Un prog 87 cB:=verify Tryz.func87 aa (tb:= [(83,dO),(18,dj),(84,bA)]) ⟨l0,gI,dY,trivial⟩ (by kernel_rfl) (xu.mpr fun s r E rm m Q h=>by
 obtain⟨Ni,NI,h⟩:=h
 exact fun f1 f2=>ao ‹_› fun s3=>ao ‹_› fun s4=>aq (fun c1=>aB (bU h (by grind)) (congrArg (Value.iface 236) (bt (by grind))) rfl rfl) fun c1=>ao ‹_› fun s5 gv=>aN (fun c2=>aB (bU h (by grind)) (congrArg (Value.iface 236) (bt (by grind))) rfl rfl) fun c2=>aN (fun c3=>aB (bU h (by grind)) (congrArg (Value.iface 236) (bt (by grind))) rfl rfl) fun c3=>(bV h (by grind)))
end
def eQ:Ctr Un:=⟨[.one (.int .u32)],[],[],[],fun w K=>(0≤(w:Int)∧(w:Int)<4294967296)∧split (decide (DB.fM w≠0)) (K ⟨(.iface 236 (.int .u32 (DB.fM w))),(some .pan),[],[],[]⟩) (K ⟨(.agg #[(.int .u32 (bI w)),(.bool (paW w)),(.bool (paX w))]),none,[],[],[]⟩)⟩
def Av(w:Int)(Q:Ou Un→Prop):Prop:=
 ∀(gv:Nat),
 (0≤w∧w<4294967296)∧
 ∀(Nc:Nat),
 split ((lr w) !=0) (
  Q ⟨(.iface 236 (.int .u32 6)),(some .pan),[],[],[]⟩) (
  Q ⟨(.agg #[(.int .u32 (bI w)),(.bool (paW w)),(.bool (paX w))]),none,[],[],[]⟩)
theorem Aw:Vc2 Un prog (bw [(63,lM),(84,bA)]) [] Tryz.f93 .leaf [] eQ=(∀w,∀Q,(eQ.body w Q)→Av w Q):=by kernel_rfl
section
attribute [local grind=] DB.fM
theorem qK:LV Un prog 93 eQ:=verify Tryz.func93 aa (tb:= [(63,lM),(84,bA)]) ⟨HN,dY,trivial⟩ (by kernel_rfl) (Aw.mpr fun w Q h=>by
 obtain⟨Ni,h⟩:=h
 exact fun gv=>ao ‹_› fun s1 Nc=>aN (fun c1=>aB (bU h (by grind)) (congrArg (Value.iface 236) (bt (by grind))) rfl rfl) fun c1=>(bV h (by grind)))
end
def gk:Ctr Un:=⟨[.one (.obj 0 0),.one (.int .i64),.one (.int .u32)],[],[.ob 1 [(1,1,0)],.ob 0 []],[1],fun s va r E rm m K=>E.n=m.S∧(0≤(va:Int)∧(va:Int)<4294967296)∧split (decide (((E.on m).eD s va)≠0)) (K ⟨(.iface 236 (.int .u32 ((E.on m).eD s va))),(some .pan),[.ob 0 m],[],[]⟩) (K ⟨(.tuple #[]),(some (.t [])),[.ob 0 m],[],[]⟩)⟩
def FA(s:Int)(va:Int)(r:Nat→Nat)(E:Pd)(rm:Nat→Nat)(m:Mem)(Q:Ou Un→Prop):Prop:=
 Pd.Ok E→
 Mem.Wf m→
 E.n=m.S∧
 (0≤va∧va<4294967296)∧
 ∀(m1:Mem),m1=m→
 Mem.Wf m1→
 split (((E.on m).bJ s va)==140) (
  Q ⟨(.iface 236 (.int .u32 7)),(some .pan),[.ob 0 m1],[],[]⟩) (
  split (((E.on m).bJ s va) !=0) (
   Q ⟨(.iface 236 (.int .u32 21)),(some .pan),[.ob 0 m1],[],[]⟩) (
   Q ⟨(.tuple #[]),(some (.t [])),[.ob 0 m1],[],[]⟩))
theorem FB:Vc2 Un prog (bw [(156,oS),(84,bA)]) [] Tryz.f95 .leaf [] gk=(∀s va r (E:Pd) rm (m:Mem),∀Q,(gk.body s va r E rm m Q)→FA s va r E rm m Q):=by kernel_rfl
section
attribute [local grind=] DB.eD
theorem vF:LV Un prog 95 gk:=verify Tryz.func95 aa (tb:= [(156,oS),(84,bA)]) ⟨JA,dY,trivial⟩ (by kernel_rfl) (FB.mpr fun s va r E rm m Q h=>by
 obtain⟨Ni,NI,h⟩:=h
 exact fun f1 f2=>ao ‹_› fun s3=>ao ‹_› fun s4 m1 NB f5=>aK (fun c1=>aB (bU h (by grind)) (congrArg (Value.iface 236) (bt (by grind))) (ab (uO0 (by grind)) rfl) rfl) fun c1=>aN (fun c2=>aB (bU h (by grind)) (congrArg (Value.iface 236) (bt (by grind))) (ab (uO0 (by grind)) rfl) rfl) fun c2=>aB (bV h (by grind)) rfl (ab (uO0 (by grind)) rfl) rfl)
end
def gi:Ctr Un:=⟨[.one (.obj 0 0),.one (.int .u32),.one (.int .u32)],[(2,5)],[.ob 1 [(1,1,0)],.ob 0 [],.ob 5 []],[0,1],fun s q r E rm m rk kk K=>E.n=m.S∧(0≤(s:Int)∧(s:Int)<4294967296)∧(0≤(q:Int)∧(q:Int)<4294967296)∧K ⟨(.int .u32 ((E.on m).cn s q)),none,[.ob 1 (((E.on m).bx s q).pd),.ob 0 (((E.on m).bx s q).mem)],[],[]⟩⟩
def Fv(s:Int)(q:Int)(r:Nat→Nat)(E:Pd)(rm:Nat→Nat)(m:Mem)(rk:Nat→Nat)(kk:List Int)(Q:Ou Un→Prop):Prop:=
 Pd.Ok E→
 Mem.Wf m→
 ∀(gv:Nat),
 E.n=m.S∧
 (0≤s∧s<4294967296)∧
 split (decide (((E.on m).bj s)≠0)) (
  Q ⟨(.int .u32 ((E.on m).bj s)),none,[.ob 1 E,.ob 0 m],[],[]⟩) (
  E.n=m.S∧
  (0≤q∧q<4294967296)∧
  split (decide (((E.on m).bj q)≠0)) (
   Q ⟨(.int .u32 ((E.on m).bj q)),none,[.ob 1 E,.ob 0 m],[],[]⟩) (
   split (s==q) (
    Q ⟨(.int .u32 16),none,[.ob 1 E,.ob 0 m],[],[]⟩) (
    E.n=m.S∧
    split (decide (((E.on m).bp s)≠0)) (
     Q ⟨(.int .u32 ((E.on m).bp s)),none,[.ob 1 E,.ob 0 m],[],[]⟩) (
     E.n=m.S∧
     split (decide (((E.on m).bp q)≠0)) (
      Q ⟨(.int .u32 ((E.on m).bp q)),none,[.ob 1 E,.ob 0 m],[],[]⟩) (
      E.n=m.S∧
      ∀(E1:Pd),E1=((E.on m).aJ s q).pd→
      Pd.Ok E1→
      ∀(m1:Mem),m1=((E.on m).aJ s q).mem→
      Mem.Wf m1→
      split (((E.on m).aQ s q) !=0) (
       Q ⟨(.int .u32 24),none,[.ob 1 E1,.ob 0 m1],[],[]⟩) (
       E1.n=m1.S∧
       W26.Ok (W26.mk (Dg.svL Dg.new))∧
       ∀(m2:Mem),m2=(m1.wrs s 11 (W26.ws (W26.mk (Dg.svL Dg.new))))→
       Mem.Wf m2→
       Q ⟨(.int .u32 0),none,[.ob 1 E1,.ob 0 m2],[],[]⟩))))))
theorem Fw:VcD Un prog (bw [(83,dO),(84,bA),(85,eR),(60,kM),(62,lL),(86,ic)]) 82 236 [] Tryz.f31 .leaf [] gi=(∀s q r (E:Pd) rm (m:Mem) rk (kk:List Int),∀Q,(gi.body s q r E rm m rk kk Q)→Fv s q r E rm m rk kk Q):=by kernel_rfl
section
attribute [local grind=] DB.cn
theorem vE:LV Un prog 31 gi:=nH ans Tryz.func31 aa (tb:= [(83,dO),(84,bA),(85,eR),(60,kM),(62,lL),(86,ic)]) ⟨l0,dY,o8,xl,HG,xr,trivial⟩ (by kernel_rfl) (Fw.mpr fun s q r E rm m rk kk Q h=>by
 obtain⟨Ni,NI,NZ,h⟩:=h
 exact fun f1 f2 gv=>ao ‹_› fun s3=>ao ‹_› fun s4=>aq (fun c1=>aB h (bt (by grind)) (ab (uO1 (by(rw [DB.bx,if_neg (by grind)];exact Pd.cD _ _ Ni))) (ab (uO0 (by(rw [DB.bx,if_neg (by grind)];(subst_vars;rfl)))) rfl)) rfl) fun c1=>ao ‹_› fun s5=>ao ‹_› fun s6=>aq (fun c2=>aB h (bt (by grind)) (ab (uO1 (by(rw [DB.bx,if_neg (by grind)];exact Pd.cD _ _ Ni))) (ab (uO0 (by(rw [DB.bx,if_neg (by grind)];(subst_vars;rfl)))) rfl)) rfl) fun c2=>aK (fun c3=>aB h (bt (by grind)) (ab (uO1 (by(rw [DB.bx,if_neg (by grind)];exact Pd.cD _ _ Ni))) (ab (uO0 (by(rw [DB.bx,if_neg (by grind)];(subst_vars;rfl)))) rfl)) rfl) fun c3=>ao ‹_› fun s7=>aq (fun c4=>aB h (bt (by grind)) (ab (uO1 (by(rw [DB.bx,if_neg (by grind)];exact Pd.cD _ _ Ni))) (ab (uO0 (by(rw [DB.bx,if_neg (by grind)];(subst_vars;rfl)))) rfl)) rfl) fun c4=>ao ‹_› fun s8=>aq (fun c5=>aB h (bt (by grind)) (ab (uO1 (by(rw [DB.bx,if_neg (by grind)];exact Pd.cD _ _ Ni))) (ab (uO0 (by(rw [DB.bx,if_neg (by grind)];(subst_vars;rfl)))) rfl)) rfl) fun c5=>ao ‹_› fun s9 E1 OH f10 m1 NB f11=>aN (fun c6=>(by have htk:=DB.fe c1 c2 c3 c4 c5;exact aB h (bt (by grind)) (ab (uO1 (by rw [DB.bx,if_neg (by grind)];subst_vars;rw [DB.aJ,if_neg c6])) (ab (uO0 (by rw [DB.bx,if_neg (by grind)];subst_vars;rw [DB.aJ,if_neg c6])) rfl)) rfl)) fun c6=>ao (by(subst_vars;rfl)) fun Ua=>ao (by show dP _;rw [W26.Gt (by rfl)];exact Dg.AE Dg.ju) fun s13 m2 PC f14=>(by have htk:=DB.fe c1 c2 c3 c4 c5;exact aB h (bt (by grind)) (ab (uO1 (by(rw [DB.bx,if_pos (by grind)];subst_vars;exact DB.jH (by simp only [Mem.gS,Mem.aV,Mem.fP])))) (ab (uO0 (by(rw [DB.bx,if_pos (by grind)];subst_vars;rfl))) rfl)) rfl))
end
def ft:Ctr Un:=⟨[.one (.obj 0 0),.one (.int .u32),.one (.int .u32),.one (.int .u32)],[(2,5)],[.ob 1 [(1,1,0)],.ob 0 [],.ob 5 []],[0,1],fun s p b r E rm m rk kk K=>E.n=m.S∧(0≤(s:Int)∧(s:Int)<4294967296)∧(0≤(p:Int)∧(p:Int)<4294967296)∧(0≤(b:Int)∧(b:Int)<4294967296)∧K ⟨(.int .u32 ((E.on m).bM s p)),none,[.ob 1 ((DB.bC kk (E.on m) s p b).pd),.ob 0 ((DB.bC kk (E.on m) s p b).mem)],[],[]⟩⟩
def Ci(s:Int)(p:Int)(b:Int)(r:Nat→Nat)(E:Pd)(rm:Nat→Nat)(m:Mem)(rk:Nat→Nat)(kk:List Int)(Q:Ou Un→Prop):Prop:=
 Pd.Ok E→
 Mem.Wf m→
 ∀(gv:Nat),
 E.n=m.S∧
 (0≤s∧s<4294967296)∧
 split (decide (((E.on m).aE s)≠0)) (
  Q ⟨(.int .u32 ((E.on m).aE s)),none,[.ob 1 E,.ob 0 m],[],[]⟩) (
  E.n=m.S∧
  (0≤p∧p<4294967296)∧
  split (decide (((E.on m).bj p)≠0)) (
   Q ⟨(.int .u32 ((E.on m).bj p)),none,[.ob 1 E,.ob 0 m],[],[]⟩) (
   E.n=m.S∧
   split (decide (((E.on m).bp p)≠0)) (
    Q ⟨(.int .u32 ((E.on m).bp p)),none,[.ob 1 E,.ob 0 m],[],[]⟩) (
    E.n=m.S∧
    ∀(E1:Pd),E1=((E.on m).take p 2 s).pd→
    Pd.Ok E1→
    ∀(m1:Mem),m1=((E.on m).take p 2 s).mem→
    Mem.Wf m1→
    (0≤b∧b<4294967296)∧
    ∀(m2:Mem),m2=(m1.write true p 0 b)→
    Mem.Wf m2→
    E1.n=m2.S∧
    (0≤b∧b<4294967296)∧
    ((1:Int)=1∨(1:Int)=2∨(1:Int)=4)∧
    ∀(m3:Mem),m3=(m2.msd kk s 1 b [])→
    Mem.Wf m3→
    Q ⟨(.int .u32 0),none,[.ob 1 E1,.ob 0 m3],[],[]⟩)))
theorem Cj:VcD Un prog (bw [(87,cB),(83,dO),(85,eR),(64,kL),(14,bf),(88,cr),(42,iT),(89,cP)]) 82 236 [] Tryz.f32 .leaf [] ft=(∀s p b r (E:Pd) rm (m:Mem) rk (kk:List Int),∀Q,(ft.body s p b r E rm m rk kk Q)→Ci s p b r E rm m rk kk Q):=by kernel_rfl
section
attribute [local grind=] DB.bM DB.bj DB.bp
theorem tV:LV Un prog 32 ft:=nH ans Tryz.func32 aa (tb:= [(87,cB),(83,dO),(85,eR),(64,kL),(14,bf),(88,cr),(42,iT),(89,cP)]) ⟨ig,l0,o8,xk,cO,gj,tJ,jx,trivial⟩ (by kernel_rfl) (Cj.mpr fun s p b r E rm m rk kk Q h=>by
 obtain⟨Ni,NI,NZ,Wm,h⟩:=h
 exact fun f1 f2 gv=>ao ‹_› fun s3=>ao ‹_› fun s4=>aq (fun c1=>aB h (bt (by grind)) (ab (uO1 (by(rw [DB.bC,if_neg (by grind)];exact Pd.cD _ _ Ni))) (ab (uO0 (by(rw [DB.bC,if_neg (by grind)];(subst_vars;rfl)))) rfl)) rfl) fun c1=>ao ‹_› fun s5=>ao ‹_› fun s6=>aq (fun c2=>aB h (bt (by grind)) (ab (uO1 (by(rw [DB.bC,if_neg (by grind)];exact Pd.cD _ _ Ni))) (ab (uO0 (by(rw [DB.bC,if_neg (by grind)];(subst_vars;rfl)))) rfl)) rfl) fun c2=>ao ‹_› fun s7=>aq (fun c3=>aB h (bt (by grind)) (ab (uO1 (by(rw [DB.bC,if_neg (by grind)];exact Pd.cD _ _ Ni))) (ab (uO0 (by(rw [DB.bC,if_neg (by grind)];(subst_vars;rfl)))) rfl)) rfl) fun c3=>ao ‹_› fun s8 E1 OH f9 m1 NB f10=>ao ‹_› fun N6 m2 PC f12=>ao (by(subst_vars;(simp only [Mem.aV,Mem.fP,Mem.gS,Mem.iP];rfl))) fun s13=>ao ‹_› fun s14=>ao (by decide) fun ZH m3 OP f16=>aB h (bt (by grind)) (ab (uO1 (by(rw [DB.bC,if_pos (by grind)];subst_vars;exact DB.jH (by simp only [Mem.gS,Mem.aV,Mem.fP])))) (ab (uO0 (by(rw [DB.bC,if_pos (by grind)];subst_vars;rfl))) rfl)) rfl)
end
def j4:Ctr Un:=⟨[.one (.obj 0 0),.one (.int .u32),.one (.int .u32),.one (.int .u32)],[(2,5)],[.ob 1 [(1,1,0)],.ob 0 [],.ob 5 []],[0,1],fun s p i r E rm m rk kk K=>E.n=m.S∧(0≤(s:Int)∧(s:Int)<4294967296)∧(0≤(p:Int)∧(p:Int)<4294967296)∧(0≤(i:Int)∧(i:Int)<4294967296)∧K ⟨(.int .u32 ((E.on m).cN s p i)),none,[.ob 1 ((DB.dt kk (E.on m) s p i).pd),.ob 0 ((DB.dt kk (E.on m) s p i).mem)],[],[]⟩⟩
def Ft(s:Int)(p:Int)(i:Int)(r:Nat→Nat)(E:Pd)(rm:Nat→Nat)(m:Mem)(rk:Nat→Nat)(kk:List Int)(Q:Ou Un→Prop):Prop:=
 Pd.Ok E→
 Mem.Wf m→
 ∀(gv:Nat),
 E.n=m.S∧
 (0≤s∧s<4294967296)∧
 split (decide (((E.on m).aE s)≠0)) (
  Q ⟨(.int .u32 ((E.on m).aE s)),none,[.ob 1 E,.ob 0 m],[],[]⟩) (
  E.n=m.S∧
  (0≤p∧p<4294967296)∧
  split (decide (((E.on m).bj p)≠0)) (
   Q ⟨(.int .u32 ((E.on m).bj p)),none,[.ob 1 E,.ob 0 m],[],[]⟩) (
   split (decide (i≥256)) (
    Q ⟨(.int .u32 16),none,[.ob 1 E,.ob 0 m],[],[]⟩) (
    E.n=m.S∧
    split (decide (((E.on m).bp p)≠0)) (
     Q ⟨(.int .u32 ((E.on m).bp p)),none,[.ob 1 E,.ob 0 m],[],[]⟩) (
     E.n=m.S∧
     ∀(m1:Mem),m1=m→
     Mem.Wf m1→
     ∀(m2:Mem),m2=m1→
     Mem.Wf m2→
     split ((m1.aY true ((E.on m).tbl s) (i64.wrap i)) !=0) (
      Q ⟨(.int .u32 7),none,[.ob 1 E,.ob 0 m2],[],[]⟩) (
      E.n=m2.S∧
      ∀(E1:Pd),E1=((E.on m2).take p 4 s).pd→
      Pd.Ok E1→
      ∀(m3:Mem),m3=((E.on m2).take p 4 s).mem→
      Mem.Wf m3→
      E1.n=m3.S∧
      ∀(E2:Pd),E2=((E1.on m3).add s (i64.wrap i) p).pd→
      Pd.Ok E2→
      ∀(m4:Mem),m4=((E1.on m3).add s (i64.wrap i) p).mem→
      Mem.Wf m4→
      E2.n=m4.S∧
      (0≤i∧i<4294967296)∧
      ((2:Int)=1∨(2:Int)=2∨(2:Int)=4)∧
      ∀(m5:Mem),m5=(m4.msd kk s 2 i [])→
      Mem.Wf m5→
      Q ⟨(.int .u32 0),none,[.ob 1 E2,.ob 0 m5],[],[]⟩)))))
theorem Fu:VcD Un prog (bw [(87,cB),(83,dO),(84,bA),(85,eR),(91,fR),(14,bf),(88,cr),(92,kG),(64,kL),(65,gH),(89,cP)]) 82 236 [] Tryz.f34 .leaf [] j4=(∀s p i r (E:Pd) rm (m:Mem) rk (kk:List Int),∀Q,(j4.body s p i r E rm m rk kk Q)→Ft s p i r E rm m rk kk Q):=by kernel_rfl
section
attribute [local grind=] DB.cN DB.word DB.bj DB.bp
theorem Fq:LV Un prog 34 j4:=nH ans Tryz.func34 aa (tb:= [(87,cB),(83,dO),(84,bA),(85,eR),(91,fR),(14,bf),(88,cr),(92,kG),(64,kL),(65,gH),(89,cP)]) ⟨ig,l0,dY,o8,tG,cO,gj,wW,xk,zx,jx,trivial⟩ (by kernel_rfl) (Fu.mpr fun s p i r E rm m rk kk Q h=>by
 obtain⟨Ni,NI,NZ,Wm,h⟩:=h
 exact fun f1 f2=>(by(have ZU:i64.wrap i=i:=aA (by omega));rw [ZU];exact fun gv=>ao ‹_› fun s3=>ao ‹_› fun s4=>aq (fun c1=>aB h (bt (by grind)) (ab (uO1 (by(rw [DB.dt,if_neg (by grind)];exact Pd.cD _ _ Ni))) (ab (uO0 (by(rw [DB.dt,if_neg (by grind)];(subst_vars;rfl)))) rfl)) rfl) fun c1=>ao ‹_› fun s5=>ao ‹_› fun s6=>aq (fun c2=>aB h (bt (by grind)) (ab (uO1 (by(rw [DB.dt,if_neg (by grind)];exact Pd.cD _ _ Ni))) (ab (uO0 (by(rw [DB.dt,if_neg (by grind)];(subst_vars;rfl)))) rfl)) rfl) fun c2=>aq (fun c3=>aB h (bt (by grind)) (ab (uO1 (by(rw [DB.dt,if_neg (by grind)];exact Pd.cD _ _ Ni))) (ab (uO0 (by(rw [DB.dt,if_neg (by grind)];(subst_vars;rfl)))) rfl)) rfl) fun c3=>ao ‹_› fun s7=>aq (fun c4=>aB h (bt (by grind)) (ab (uO1 (by(rw [DB.dt,if_neg (by grind)];exact Pd.cD _ _ Ni))) (ab (uO0 (by(rw [DB.dt,if_neg (by grind)];(subst_vars;rfl)))) rfl)) rfl) fun c4=>ao ‹_› fun s8 m1 NB f9 m2 PC f10=>aN (fun c5=>aB h (bt (by grind)) (ab (uO1 (by(rw [DB.dt,if_neg (by grind)];exact Pd.cD _ _ Ni))) (ab (uO0 (by(rw [DB.dt,if_neg (by grind)];(subst_vars;rfl)))) rfl)) rfl) fun c5=>ao (by(subst_vars;assumption)) fun N6 E1 OH f12 m3 OP f13=>ao (by(subst_vars;rfl)) fun s14 E2 Ty f15 m4 Tx f16=>ao (by(subst_vars;rfl)) fun s17=>ao ‹_› fun s18=>ao (by decide) fun s19 m5 V0 f20=>aB h (bt (by grind)) (ab (uO1 (by(rw [DB.dt,if_pos (by grind)];subst_vars;exact DB.jH (by simp only [Mem.gS,Mem.aV,Mem.fP])))) (ab (uO0 (by(rw [DB.dt,if_pos (by grind)];subst_vars;rfl))) rfl)) rfl))
end
def l4:Ctr Un:=⟨[.one (.obj 0 0),.one (.int .u32),.one (.int .u32),.one (.int .u32),.one (.int .u32)],[(2,5)],[.ob 1 [(1,1,0)],.ob 0 [],.ob 5 []],[0,1],fun s p v n r E rm m rk kk K=>E.n=m.S∧(0≤(s:Int)∧(s:Int)<4294967296)∧(0≤(p:Int)∧(p:Int)<4294967296)∧(0≤(v:Int)∧(v:Int)<4294967296)∧(0≤(n:Int)∧(n:Int)<4294967296)∧K ⟨(.int .u32 ((E.on m).cH s p v n)),none,[.ob 1 ((DB.ez kk (E.on m) s p v n).pd),.ob 0 ((DB.ez kk (E.on m) s p v n).mem)],[],[]⟩⟩
def Ik(s:Int)(p:Int)(v:Int)(n:Int)(r:Nat→Nat)(E:Pd)(rm:Nat→Nat)(m:Mem)(rk:Nat→Nat)(kk:List Int)(Q:Ou Un→Prop):Prop:=
 Pd.Ok E→
 Mem.Wf m→
 ∀(gv:Nat),
 E.n=m.S∧
 (0≤s∧s<4294967296)∧
 split (decide (((E.on m).aE s)≠0)) (
  Q ⟨(.int .u32 ((E.on m).aE s)),none,[.ob 1 E,.ob 0 m],[],[]⟩) (
  E.n=m.S∧
  (0≤p∧p<4294967296)∧
  split (decide (((E.on m).bj p)≠0)) (
   Q ⟨(.int .u32 ((E.on m).bj p)),none,[.ob 1 E,.ob 0 m],[],[]⟩) (
   (0≤v∧v<4294967296)∧
   split (decide (DB.fM v≠0)) (
    Q ⟨(.int .u32 (DB.fM v)),none,[.ob 1 E,.ob 0 m],[],[]⟩) (
    ∀(Nc:Nat),
    E.n=m.S∧
    (0≤n∧n<4294967296)∧
    split (decide (((E.on m).eX n)≠0)) (
     Q ⟨(.int .u32 ((E.on m).eX n)),none,[.ob 1 E,.ob 0 m],[],[]⟩) (
     ∀(N8:Nat),
     E.n=m.S∧
     split (decide (((E.on m).bp p)≠0)) (
      Q ⟨(.int .u32 ((E.on m).bp p)),none,[.ob 1 E,.ob 0 m],[],[]⟩) (
      E.n=m.S∧
      (0≤(bI v)∧(bI v)<4294967296)∧
      split (decide (((E.on m).eD s (bI v))≠0)) (
       ∀(m1:Mem),m1=m→
       Mem.Wf m1→
       Q ⟨(.int .u32 ((E.on m).eD s (bI v))),none,[.ob 1 E,.ob 0 m1],[],[]⟩) (
       ∀(m1:Mem),m1=m→
       Mem.Wf m1→
       E.n=m1.S∧
       ∀(E1:Pd),E1=((E.on m1).take p 5 s).pd→
       Pd.Ok E1→
       ∀(m2:Mem),m2=((E.on m1).take p 5 s).mem→
       Mem.Wf m2→
       ∀(m3:Mem),m3=(m2.copy true p false n)→
       Mem.Wf m3→
       E1.n=m3.S∧
       (0≤(bI v)∧(bI v)<4294967296)∧
       ∀(E2:Pd),E2=((E1.on m3).put s (bI v) (Mp.mk true p (paW v) (paX v))).pd→
       Pd.Ok E2→
       ∀(m4:Mem),m4=((E1.on m3).put s (bI v) (Mp.mk true p (paW v) (paX v))).mem→
       Mem.Wf m4→
       split (m4.has true p) (
        ∀(A:Option Addr),
        ∀(m5:Mem),m5=m4→
        Mem.Wf m5→
        ∀(l:List U32),l=(m4.words true p.toNat)→
        (some (.slice A l.length 1024):Option Value)=some (.slice A ((m4.words true p.toNat).length) 1024)∧
        E2.n=m5.S∧
        (0≤v∧v<4294967296)∧
        (3:Int)=3∧
        l.length=1024∧
        dP l∧
        ∀(m6:Mem),m6=(m5.msd kk s 3 v l)→
        Mem.Wf m6→
        Q ⟨(.int .u32 0),none,[.ob 1 E2,.ob 0 m6],[],[]⟩) (
        ∀(m5:Mem),m5=m4→
        Mem.Wf m5→
        False)))))))
theorem Il:VcD Un prog (bw [(87,cB),(83,dO),(93,eQ),(94,fu),(85,eR),(95,gk),(64,kL),(14,bf),(88,cr),(66,xb),(67,nr),(69,kH),(89,gr)]) 82 236 [] Tryz.f35 (.r' (.r' (.r' (.r' (.r' (.r' (.r' (.two (.node [] none [] [(4,[5])] .leaf .leaf) (.two (.node [] none [] [(3,[4]),(7,[4]),(9,[4])] .leaf .leaf) .leaf))))))))) [] l4=(∀s p v n r (E:Pd) rm (m:Mem) rk (kk:List Int),∀Q,(l4.body s p v n r E rm m rk kk Q)→Ik s p v n r E rm m rk kk Q):=by kernel_rfl
section
attribute [local grind=] DB.cH DB.bj DB.bp
theorem Ij:LV Un prog 35 l4:=nH ans Tryz.func35 aa (tb:= [(87,cB),(83,dO),(93,eQ),(94,fu),(85,eR),(95,gk),(64,kL),(14,bf),(88,cr),(66,xb),(67,nr),(69,kH),(89,gr)]) ⟨ig,l0,qK,tW,o8,vF,xk,cO,gj,JO,HM,wX,uw,trivial⟩ (by kernel_rfl) (Il.mpr fun s p v n r E rm m rk kk Q h=>by
 obtain⟨Ni,NI,NZ,Wm,US,h⟩:=h
 exact fun f1 f2 gv=>ao ‹_› fun s3=>ao ‹_› fun s4=>aq (fun c1=>aB h (bt (by grind)) (ab (uO1 (by(rw [DB.ez,if_neg (by grind)];exact Pd.cD _ _ Ni))) (ab (uO0 (by(rw [DB.ez,if_neg (by grind)];(subst_vars;rfl)))) rfl)) rfl) fun c1=>ao ‹_› fun s5=>ao ‹_› fun s6=>aq (fun c2=>aB h (bt (by grind)) (ab (uO1 (by(rw [DB.ez,if_neg (by grind)];exact Pd.cD _ _ Ni))) (ab (uO0 (by(rw [DB.ez,if_neg (by grind)];(subst_vars;rfl)))) rfl)) rfl) fun c2=>ao ‹_› fun s7=>aq (fun c3=>aB h (bt (by grind)) (ab (uO1 (by(rw [DB.ez,if_neg (by grind)];exact Pd.cD _ _ Ni))) (ab (uO0 (by(rw [DB.ez,if_neg (by grind)];(subst_vars;rfl)))) rfl)) rfl) fun c3 Nc=>ao ‹_› fun s8=>ao ‹_› fun s9=>aq (fun c4=>aB h (bt (by grind)) (ab (uO1 (by(rw [DB.ez,if_neg (by grind)];exact Pd.cD _ _ Ni))) (ab (uO0 (by(rw [DB.ez,if_neg (by grind)];(subst_vars;rfl)))) rfl)) rfl) fun c4 N8=>ao ‹_› fun ZI=>aq (fun c5=>aB h (bt (by grind)) (ab (uO1 (by(rw [DB.ez,if_neg (by grind)];exact Pd.cD _ _ Ni))) (ab (uO0 (by(rw [DB.ez,if_neg (by grind)];(subst_vars;rfl)))) rfl)) rfl) fun c5=>ao ‹_› fun N6=>ao (oc ‹_›) fun Ua=>aq (fun c6 m1 NB f13=>aB h (bt (by grind)) (ab (uO1 (by(rw [DB.ez,if_neg (by grind)];exact Pd.cD _ _ Ni))) (ab (uO0 (by(rw [DB.ez,if_neg (by grind)];(subst_vars;rfl)))) rfl)) rfl) fun c6 m1 NB f14=>ao (by(subst_vars;assumption)) fun ZH E1 OH f16 m2 PC f17 m3 OP f18=>ao (by(subst_vars;(simp only [Mem.aV,Mem.fP,Mem.gS,Mem.iP];rfl))) fun s19=>ao (oc ‹_›) fun s20 E2 Ty f21 m4 Tx f22=>ae (fun c7 A m5 V0 f23 l Vb=>ao (by(subst_vars;rfl)) fun s24=>ao (by(subst_vars;rfl)) fun s25=>ao ‹_› fun s26=>ao (by omega) fun s27=>ao (by subst_vars;exact Mem.ei _ _ _) fun s28=>ao (by subst_vars;exact Mem.iu ‹_› _ _) fun s29 m6 h_m6 f30=>aB h (bt (by grind)) (ab (uO1 (by(rw [DB.ez,if_pos (by grind)];subst_vars;exact DB.jH (by simp only [Mem.gS,Mem.aV,Mem.fP])))) (ab (uO0 (by(rw [DB.ez,if_pos (by grind)];subst_vars;rfl))) rfl)) rfl) fun c7=>(by exfalso;rw [show m4=((E.on m).bz s p v n).mem by subst_vars;rfl,DB.Bs,DB.dW c2]at c7;cases c7))
end
def j5:Ctr Un:=⟨[.one (.obj 0 0),.one (.int .u32),.one (.int .u32),.one (.int .u32)],[(2,5)],[.ob 1 [(1,1,0)],.ob 0 [],.ob 5 []],[0,1],fun s v n r E rm m rk kk K=>E.n=m.S∧(0≤(s:Int)∧(s:Int)<4294967296)∧(0≤(v:Int)∧(v:Int)<4294967296)∧(0≤(n:Int)∧(n:Int)<4294967296)∧K ⟨(.int .u32 ((E.on m).cY s v n)),none,[.ob 1 ((DB.du kk (E.on m) s v n).pd),.ob 0 ((DB.du kk (E.on m) s v n).mem)],[],[]⟩⟩
def Fy(s:Int)(v:Int)(n:Int)(r:Nat→Nat)(E:Pd)(rm:Nat→Nat)(m:Mem)(rk:Nat→Nat)(kk:List Int)(Q:Ou Un→Prop):Prop:=
 Pd.Ok E→
 Mem.Wf m→
 ∀(gv:Nat),
 E.n=m.S∧
 (0≤s∧s<4294967296)∧
 split (decide (((E.on m).aE s)≠0)) (
  Q ⟨(.int .u32 ((E.on m).aE s)),none,[.ob 1 E,.ob 0 m],[],[]⟩) (
  (0≤v∧v<4294967296)∧
  split (decide (DB.fM v≠0)) (
   Q ⟨(.int .u32 (DB.fM v)),none,[.ob 1 E,.ob 0 m],[],[]⟩) (
   ∀(Nc:Nat),
   split (paX v) (
    Q ⟨(.int .u32 6),none,[.ob 1 E,.ob 0 m],[],[]⟩) (
    E.n=m.S∧
    (0≤n∧n<4294967296)∧
    split (decide (((E.on m).eX n)≠0)) (
     Q ⟨(.int .u32 ((E.on m).eX n)),none,[.ob 1 E,.ob 0 m],[],[]⟩) (
     ∀(N8:Nat),
     E.n=m.S∧
     (0≤(bI v)∧(bI v)<4294967296)∧
     split (decide (((E.on m).eD s (bI v))≠0)) (
      ∀(m1:Mem),m1=m→
      Mem.Wf m1→
      Q ⟨(.int .u32 ((E.on m).eD s (bI v))),none,[.ob 1 E,.ob 0 m1],[],[]⟩) (
      ∀(m1:Mem),m1=m→
      Mem.Wf m1→
      E.n=m1.S∧
      (0≤(bI v)∧(bI v)<4294967296)∧
      ∀(E1:Pd),E1=((E.on m1).put s (bI v) (Mp.mk false n (paW v) false)).pd→
      Pd.Ok E1→
      ∀(m2:Mem),m2=((E.on m1).put s (bI v) (Mp.mk false n (paW v) false)).mem→
      Mem.Wf m2→
      E1.n=m2.S∧
      (0≤v∧v<4294967296)∧
      ((4:Int)=1∨(4:Int)=2∨(4:Int)=4)∧
      ∀(m3:Mem),m3=(m2.msd kk s 4 v [])→
      Mem.Wf m3→
      Q ⟨(.int .u32 0),none,[.ob 1 E1,.ob 0 m3],[],[]⟩)))))
theorem Fz:VcD Un prog (bw [(87,cB),(93,eQ),(84,bA),(94,fu),(95,gk),(67,nr),(89,cP)]) 82 236 [] Tryz.f36 .leaf [] j5=(∀s v n r (E:Pd) rm (m:Mem) rk (kk:List Int),∀Q,(j5.body s v n r E rm m rk kk Q)→Fy s v n r E rm m rk kk Q):=by kernel_rfl
section
attribute [local grind=] DB.cY DB.bj DB.bp
theorem Fx:LV Un prog 36 j5:=nH ans Tryz.func36 aa (tb:= [(87,cB),(93,eQ),(84,bA),(94,fu),(95,gk),(67,nr),(89,cP)]) ⟨ig,qK,dY,tW,vF,HM,jx,trivial⟩ (by kernel_rfl) (Fz.mpr fun s v n r E rm m rk kk Q h=>by
 obtain⟨Ni,NI,NZ,Wm,h⟩:=h
 exact fun f1 f2 gv=>ao ‹_› fun s3=>ao ‹_› fun s4=>aq (fun c1=>aB h (bt (by grind)) (ab (uO1 (by(rw [DB.du,if_neg (by grind)];exact Pd.cD _ _ Ni))) (ab (uO0 (by(rw [DB.du,if_neg (by grind)];(subst_vars;rfl)))) rfl)) rfl) fun c1=>ao ‹_› fun s5=>aq (fun c2=>aB h (bt (by grind)) (ab (uO1 (by(rw [DB.du,if_neg (by grind)];exact Pd.cD _ _ Ni))) (ab (uO0 (by(rw [DB.du,if_neg (by grind)];(subst_vars;rfl)))) rfl)) rfl) fun c2 Nc=>ae (fun c3=>aB h (bt (by grind)) (ab (uO1 (by(rw [DB.du,if_neg (by grind)];exact Pd.cD _ _ Ni))) (ab (uO0 (by(rw [DB.du,if_neg (by grind)];(subst_vars;rfl)))) rfl)) rfl) fun c3=>ao ‹_› fun s6=>ao ‹_› fun s7=>aq (fun c4=>aB h (bt (by grind)) (ab (uO1 (by(rw [DB.du,if_neg (by grind)];exact Pd.cD _ _ Ni))) (ab (uO0 (by(rw [DB.du,if_neg (by grind)];(subst_vars;rfl)))) rfl)) rfl) fun c4 N8=>ao ‹_› fun s8=>ao (oc ‹_›) fun s9=>aq (fun c5 m1 NB f10=>aB h (bt (by grind)) (ab (uO1 (by(rw [DB.du,if_neg (by grind)];exact Pd.cD _ _ Ni))) (ab (uO0 (by(rw [DB.du,if_neg (by grind)];(subst_vars;rfl)))) rfl)) rfl) fun c5 m1 NB f11=>ao (by(subst_vars;assumption)) fun Ua=>ao (oc ‹_›) fun s13 E1 OH f14 m2 PC f15=>ao (by(subst_vars;rfl)) fun s16=>ao ‹_› fun s17=>ao (by decide) fun s18 m3 OP f19=>aB h (bt (by grind)) (ab (uO1 (by(rw [DB.du,if_pos (by grind)];subst_vars;exact DB.jH (by simp only [Mem.gS,Mem.aV,Mem.fP])))) (ab (uO0 (by(rw [DB.du,if_pos (by grind)];subst_vars;rfl))) rfl)) rfl)
end
end
end Go.Proofs.YtinhphjfnedhgaaGreatDoor
namespace Go.Proofs.YtinhphjfnedhgaaGreatDoor
open Go.Proofs.Tryz (prog)
open Go Go.RowKit V
open Go.IntKind (i64 u32 u64)
theorem vb {w w1:World} {L:fG} {D:DB} {L':eP} {s:Nat} {T':TypeId}(h:DBP w L D)(hq:Pu w w1)(hM:cA w1 L' D.mem)(hX:∀k,L'.X k→w.heap.size≤k)(hb:Blk w1 s (bR (List.replicate D.n2 0)) T')(hsw:w.heap.size≤s)(Wk:¬L'.X s) {R:aC}(hR:∀v w',(∃L2:fG,v=ptr L2.g∧DBP w' L2 D∧(∀k,L2.X k→w.heap.size≤k)∧Pu w w')→R v w'):
 ∀(gv:Nat)(M8:World),gv=w1.heap.size→M8=w1.alloc (.cells #[ptr L'.g,.int .i64 D.ax,.slice (some (Addr.mk s 0 none)) D.n2 D.n2] 110)→
 Kept (bW (fun _ k=>k=L.g) [0,1,2,5,6,9,10,11,12]) w1 M8∧∃b3:Nat→Nat→Prop,(∀i k,(fun _ k=>k=L.g:Nat→Nat→Prop) i k→b3 i k)∧
 ∃b4:Nat→Nat→Prop,
 b4 3 (((Addr.mk gv 0 none).add 2).block)∧
 ∃PQ:Option Addr,∃PN:Nat,∃PO:Nat,M8.drew.cell? ((Addr.mk gv 0 none).add 2)=some (.slice PQ PN PO)∧
 au (some (Addr.mk L.g 0 none)) fun Rg=>
 b4 7 ((Rg.add 2).block)∧
 ∃PM:Option Addr,∃PJ:Nat,∃PL:Nat,M8.drew.cell? (Rg.add 2)=some (.slice PM PJ PL)∧
 ∃OR:Int,∃Nb,(Builtin.copy_ #[62,62] 3 #[(.slice PQ PN PO),(.slice PM PJ PL)]:Sem Value).run prog M8.drew= .ok (.int .i64 OR) Nb∧
 Kept (bW b4 [0,4]) M8.drew Nb∧∃b5:Nat→Nat→Prop,(∀i k,b4 i k→b5 i k)∧
 R (.pointer (some (Addr.mk gv 0 none))) Nb:=by
 intro gv w2 hg hw2
 have hm:=made hg hw2
 have hmn:=hm.num
 have TH:Pu w w2.drew:=(hq.trans hm.pu).trans (Pu.aU w2)
 have V2:=h.pu TH
 have hMm:cA w2.drew L' D.mem:=(hM.pu hm.pu).pu (Pu.aU w2)
 have VV:Blk w2.drew s (bR (List.replicate D.n2 0)) T':=(hm.old hb).drew
 have TK:=hm.blk.drew
 have Vx:=hb.lt
 have hgl:L.g<w.heap.size:=h.lt _ (.inl rfl)
 have Wj:=hq.size
 obtain⟨T0,hd0⟩:=V2.hd
 refine⟨hm.kept.mono (fun k hk=>by have:k=L.g:=(by simpa [bW]using hk);rw [this];omega),fun _ k=>k=L.g,fun _ k hk=>hk,fun _ k=>k=gv∨k=L.g,by rw [block_add];exact .inl rfl,_,_,_,TK.at rfl,ah _ rfl ⟨by rw [block_add];exact .inr rfl,_,_,_,hd0.at rfl,?_⟩⟩
 obtain⟨x,w3,OG,OT⟩:=pT (P:=prog) (dT:=62) (sT:=62) (ty:=3) (dn:=D.n2) (dc:=D.n2) nX VV rfl V2.ints (by simp) (K:=fun w3=>bN w2.drew s (bR (jb (List.replicate D.n2 0) 0 (D.ws.take (min D.n2 D.n2)))) T' w3) (fun _ hs=>hs)
 have Sb:D.ws.length=D.n2:=D.jr
 rw [List.take_of_length_le (by omega),nV _ _ (by rw [Sb];simp)]at OT
 refine⟨x,w3,OG,OT.kept.mono (fun k hk=>by have:k=gv∨k=L.g:=(by simpa [bW]using hk);rcases this with e | e<;>omega),fun _ k=>k=gv∨k=L.g,fun _ k hk=>hk,hR _ _ ⟨⟨gv,s,L'⟩,rfl,⟨⟨_,OT.old TK (show gv≠s by omega)⟩,⟨T',_,OT.blk,by rw [eT,Sb],fun p hp=>?_⟩,hMm.ch OT.ch fun k hk e=>Wk (e▸hk),h.ok,⟨by show s≠gv;omega,fun(hx:L'.X gv)=>absurd (hM.lt gv hx) (by omega),Wk⟩⟩,?_,?_⟩⟩
 ·have NZ:p<D.S:=hp
  have e1:=l9 (fun p=>(D.ent p).w0) (fun p=>(D.ent p).w1) D.S (2*p) (by omega)
  have e2:=l9 (fun p=>(D.ent p).w0) (fun p=>(D.ent p).w1) D.S (2*p+1) (by omega)
  have f1:D.ws[2*p]? =some (D.ent p).w0:=by
   show((List.range D.S).flatMap fun p=>[(D.ent p).w0,(D.ent p).w1])[2*p]? =_
   rw [e1,if_pos (by omega),show 2*p / 2=p by omega]
  have f2:D.ws[2*p+1]? =some (D.ent p).w1:=by
   show((List.range D.S).flatMap fun p=>[(D.ent p).w0,(D.ent p).w1])[2*p+1]? =_
   rw [e2,if_neg (by omega),show(2*p+1) / 2=p by omega]
  have hl:D.ws.length=2*D.S:=D.jr
  exact⟨by rw [eF (by omega),List.getD_eq_getElem?_getD,f1];rfl,by rw [eF (by omega),List.getD_eq_getElem?_getD,f2];rfl⟩
 ·rintro k (e | e | hk)
  ·rw [e];show w.heap.size≤gv;omega
  ·rw [e];exact hsw
  ·exact hX k hk
 ·exact Ch.stored (X:=fun _=>False) TH OT (.inr hsw)
theorem K8 {w:World} {L:fG} {D:DB}(h:DBP w L D):
 Calls prog 17 #[ptr L.g] w fun e w'=>∃v,e= .returned v∧∃L2:fG,v=ptr L2.g∧DBP w' L2 D∧(∀k,L2.X k→w.heap.size≤k)∧Pu w w':=by
 refine xq _ ?_
 have hD:Pu w w.drew:=Pu.aU w
 have h1:=h.pu hD
 obtain⟨T,hd⟩:=h1.hd
 have hgl:L.g<w.drew.heap.size:=hd.lt
 have h0s:w.drew.heap.size=w.heap.size:=rfl
 have hm64:=h.mem.eU.1
 have fU:∀(l:List Nat)(k:Nat),bW (fun _ k=>k=L.g) l k→k=L.g:=fun l k hk=>by
  induction l with
  | nil=>simp [bW]at hk
  | cons a l ih=>
   cases l with
   | nil=>exact hk
   | cons c l=>rcases(show k=L.g∨bW (fun _ k=>k=L.g) (c::l) k from hk)with hk | hk;exact hk;exact ih hk
 refine⟨fun _ k=>k=L.g,ah _ rfl ⟨by rw [block_add],_,hd.at rfl,ah _ rfl ⟨by rw [block_add],_,hd.at rfl,ah _ rfl ⟨by rw [block_add],_,_,_,hd.at rfl,?_⟩⟩⟩⟩
 refine⟨?_,?_⟩
 ·refine(AZ h1.mem).mono ?_
  rintro e w1 ⟨_,rfl,L',rfl,hM,hX,NI⟩
  refine⟨_,rfl,NI.fU (fun k hk=>by rw [fU _ k hk];exact hgl),fun _ k=>k=L.g,fun _ k hk=>hk,?_⟩
  refine jj nX (by omega) (by unfold DB.n2;omega) (by unfold DB.n2;omega) fun s w2 hs=>?_
  have hp1s:=NI.size
  refine⟨hs.kept.mono (fun k hk=>by rw [fU _ k hk];omega),fun _ k=>k=L.g,fun _ k hk=>hk,?_⟩
  rw [Int.toNat_natCast]at hs ⊢
  have hq:Pu w w2:=(hD.trans NI).trans hs.pu
  have Tz:=hM.pu hs.pu
  have hsn:=hs.num
  have hb:Blk w2 s (bR (List.replicate D.n2 0)) _:=hs.blk.cast (fH _ _)
  have Wk:¬L'.X s:=fun hx=>by have:=hM.lt s hx;omega
  have hsw:w.heap.size≤s:=by omega
  have hX:∀k,L'.X k→w.heap.size≤k:=hX
  exact vb h hq Tz hX hb hsw Wk fun _ _ h=>h
 ·refine jj nX (by omega) (by unfold DB.n2;omega) (by unfold DB.n2;omega) fun s w1 hs=>?_
  refine⟨hs.kept.mono (fun k hk=>by rw [fU _ k hk];omega),fun _ k=>k=L.g,fun _ k hk=>hk,?_⟩
  rw [Int.toNat_natCast]at hs ⊢
  refine(AZ (h1.mem.pu hs.pu)).mono ?_
  rintro e w2 ⟨_,rfl,L',rfl,hM,hX,NI⟩
  have Oi:=hs.pu.size
  refine⟨_,rfl,NI.fU (fun k hk=>by rw [fU _ k hk];omega),fun _ k=>k=L.g,fun _ k hk=>hk,?_⟩
  have hq:Pu w w2:=(hD.trans hs.pu).trans NI
  have hsn:=hs.num
  have hb:Blk w2 s (bR (List.replicate D.n2 0)) _:=NI.blk (hs.blk.cast (fH _ _))
  have Wk:¬L'.X s:=fun hx=>by have:=hX s hx;have:=hs.blk.lt;omega
  exact vb h hq hM (fun k hk=>by have:=hX k hk;omega) hb (by omega) Wk fun _ _ h=>h
end Go.Proofs.YtinhphjfnedhgaaGreatDoor
