/- SvcQuotes returns true for every input; each argument reads behind the call as it read before. -/
import Derived.Test.YtfmcaoaaiganbaaGreatDoorU5
import Derived.KernelRfl
import Derived.Test.YtfmcaoaaiganbaaGreatDoorRows
import Derived.LaidHandle
import Derived.LaidLaws
import Derived.Carry
import Derived.Test.YtfmcaoaaiganbaaGreatDoorTie
import Derived.Test.YtfmcaoaaiganbaaGreatDoorCards
import Derived.SevenTiedAt
set_option linter.unusedVariables false
set_option linter.unusedSimpArgs false
namespace Go.Proofs.YtfmcaoaaiganbaaGreatDoor
open Go.Proofs.Tryz (prog)
open Go Go.RowKit V
open Go.IntKind (i64 u32 u64)
section
def Mem.qw(m:Mem)(k:Int):Int:=if k<1024 then m.aT true 3 k else m.aT false 1 (i64.wrap (k - 1024))
theorem ft(m:Mem)(s s':Bool)(p o v q x:Int):(m.write s p o v).aT s' q x=if(s'=s∧q=p∧x=o)∧m.has s p=true∧Mem.bZ o=true then v else m.aT s' q x:=by
 by_cases h:m.has s p && Mem.bZ o
 ·have hh:=Mem.cN (by simp at h;exact h.1:m.has s p=true)
  have ho:=Mem.ef (by simp at h;exact h.2:Mem.bZ o=true)
  have hw:m.write s p o v=m.put s p.toNat o.toNat v:=by unfold Mem.write;rw [if_pos h];rfl
  rw [hw]
  have hc:∀s' q,(m.put s p.toNat o.toNat v).has s' q=m.has s' q:=fun s' q=>by unfold Mem.has;rw [Mem.IB]
  unfold Mem.aT
  rw [hc]
  simp only [Bool.and_eq_true]at h
  by_cases hq:m.has s' q && Mem.bZ x
  ·rw [if_pos hq,if_pos hq]
   have hq1:=Mem.cN (by simp at hq;exact hq.1:m.has s' q=true)
   have hx:=Mem.ef (by simp at hq;exact hq.2:Mem.bZ x=true)
   show(if s'=s∧q.toNat=p.toNat then(if x.toNat=o.toNat then v else m.pg s p.toNat x.toNat)else m.pg s' q.toNat x.toNat)=_
   by_cases e:s'=s∧q=p
   ·obtain⟨rfl,rfl⟩:=e
    by_cases e2:x=o
    ·subst e2;simp [h]
    ·rw [if_pos ⟨rfl,rfl⟩,if_neg (by omega),if_neg (fun hh=>e2 hh.1.2.2)]
   ·rw [if_neg (fun hh=>e ⟨hh.1,by omega⟩),if_neg (fun hh=>e ⟨hh.1.1,hh.1.2.1⟩)]
  ·rw [if_neg hq,if_neg hq]
   rw [if_neg]
   rintro⟨⟨rfl,rfl,rfl⟩,h1,h2⟩
   exact hq (by simp [h1,h2])
 ·rw [if_neg (fun hh=>h (by simp [hh.2]))]
  unfold Mem.write
  rw [if_neg h]
namespace DB
structure Qs(E:Pd)(q:List Int)(m:Mem):Prop where
 n:E.n=m.S
 S:m.S=8
 I:m.I=2
 e:∀p,0≤p→p<8→(E.on m).at_ p=dG 6 p
 w:∀p o,0≤p→p<8→p≠3→0≤o→o<1024→m.aT true p o=W q p o
theorem KD {q:List Int} {E:Pd} {m:Mem}(hq:q.length=8)(hE:E=(two q).pd)(hm:m=(two q).mem):Qs E q m:=by
 have hD:E.on m=two q:=by rw [hE,hm,tl]
 have h:=EI hq
 rw [← hD]at h
 exact⟨by rw [hE,hm];rfl,h.bw.1,by rw [hm];exact JF q,h.e,fun p o a b _ c d=>h.bw.2 p o a b c d⟩
section
variable {E:Pd} {q:List Int} {m:Mem}
theorem Qs.nw(h:Qs E q m):Nw (E.on m) 6 (fun p o=>if p=3 then m.aT true 3 o else W q p o) (E.on m):=
 ⟨⟨h.S,fun p o a b c d=>by
  show m.aT true p o=if p=3 then m.aT true 3 o else W q p o
  by_cases e:p=3
  ·rw [if_pos e,e]
  ·rw [if_neg e];exact h.w p o a b e c d⟩,rfl,rfl,h.e⟩
theorem Qs.fo(q:List Int)(m:Mem):Fo (fun p o=>if p=3 then m.aT true 3 o else W q p o):=⟨(Lf q).a,(Lf q).b⟩
theorem Qs.err(h:Qs E q m):(E.on m).eu 5=0:=by
 obtain⟨a,b,c,d,e,f⟩:=h.nw.thr (Qs.fo q m)
 unfold eu;exact if_pos ⟨a,b,c,d,e,f⟩
theorem Qs.sp(h:Qs E q m):(E.on m).mw 5=0:=h.nw.own
theorem Qs.tb(h:Qs E q m):(E.on m).tbl ((E.on m).mw 5)=1:=by rw [h.sp];exact h.nw.tb (Qs.fo q m)
theorem Qs.sec(h:Qs E q m) {k v:Int}:Qs E q (m.write true 3 k v):=by
 have hS:(m.write true 3 k v).S=m.S:=Mem.dJ ..
 have hI:(m.write true 3 k v).I=m.I:=by unfold Mem.write;split<;>rfl
 refine⟨by rw [hS];exact h.n,by rw [hS];exact h.S,by rw [hI];exact h.I,h.e,fun p o a b c d e=>?_⟩
 rw [ft,if_neg (fun hh=>c hh.1.2.1)]
 exact h.w p o a b c d e
theorem Qs.ins(h:Qs E q m) {p k v:Int}:Qs E q (m.write false p k v):=by
 have hS:(m.write false p k v).S=m.S:=Mem.dJ ..
 have hI:(m.write false p k v).I=m.I:=by unfold Mem.write;split<;>rfl
 refine⟨by rw [hS];exact h.n,by rw [hS];exact h.S,by rw [hI];exact h.I,h.e,fun p o a b c d e=>?_⟩
 rw [ft,if_neg (fun hh=>by cases hh.1.1)]
 exact h.w p o a b c d e
theorem Qs.qw3(h:Qs E q m) {k v j:Int}(hk:0≤k∧k<1024)(hj:0≤j∧j<2048):(m.write true 3 k v).qw j=if j=k then v else m.qw j:=by
 unfold Mem.qw
 by_cases hl:j<1024
 ·rw [if_pos hl,if_pos hl,ft]
  have h3:m.has true 3=true:=by unfold Mem.has Mem.cnt;rw [h.S];rfl
  by_cases e:j=k
  ·rw [if_pos ⟨⟨rfl,rfl,e⟩,h3,by unfold Mem.bZ;simpa using hk⟩,if_pos e]
  ·rw [if_neg (fun hh=>e hh.1.2.2),if_neg e]
 ·rw [if_neg hl,if_neg hl,ft,if_neg (fun hh=>by cases hh.1.1),if_neg (by omega)]
theorem Qs.qw1(h:Qs E q m) {k v j:Int}(hk:1024≤k∧k<2048)(hj:0≤j∧j<2048):(m.write false 1 (i64.wrap (k - 1024)) v).qw j=if j=k then v else m.qw j:=by
 unfold Mem.qw
 by_cases hl:j<1024
 ·rw [if_pos hl,if_pos hl,ft,if_neg (fun hh=>by cases hh.1.1),if_neg (by omega)]
 ·rw [if_neg hl,if_neg hl,ft,aq (by omega),aq (by omega)]
  have h3:m.has false 1=true:=by unfold Mem.has Mem.cnt;rw [h.I];rfl
  by_cases e:j=k
  ·rw [if_pos ⟨⟨rfl,rfl,by omega⟩,h3,by unfold Mem.bZ;rw [decide_eq_true_eq];omega⟩,if_pos e]
  ·rw [if_neg (fun hh=>e (by have:=hh.1.2.2;omega)),if_neg e]
theorem Qs.tr(h:Qs E q m) {k:Int}(hk:0≤k∧k<2048):m.jP 1 (4096+4*k) 0=0∧m.aT (m.trS 1 (4096+4*k) 0) (m.trP 1 (4096+4*k) 0) (m.trO 1 (4096+4*k) 0)=m.qw k:=by
 have hv:fj (4096+4*k)=0:=by unfold fj;rw [if_neg (by omega)]
 have hI:vaI (4096+4*k)=0:=by unfold vaI;rw [if_pos hv];omega
 have hJ:vaJ (4096+4*k)=if k<1024 then 1 else 2:=by unfold vaJ;rw [if_pos hv];split<;>omega
 have hO:vaO (4096+4*k)=if k<1024 then k else k - 1024:=by unfold vaO;rw [if_pos hv];split<;>omega
 have hs:∀p,m.has true p=decide (0≤p∧p<8):=fun p=>by unfold Mem.has Mem.cnt;rw [h.S];rfl
 have hi:∀p,m.has false p=decide (0≤p∧p<2):=fun p=>by unfold Mem.has Mem.cnt;rw [h.I];rfl
 have er:∀p o,0≤p→p<8→0≤o→o<1024→m.err true p o=0:=fun p o a b c d=>by unfold Mem.err Mem.bZ;rw [hs];simp [a,b,c,d]
 have w1:m.aT true 1 0=513:=by rw [h.w 1 0 (by omega) (by omega) (by omega) (by omega) (by omega),(Lf q).b 0 (by omega) (by omega)];rfl
 have t1:m.lA 1 0=0:=by unfold Mem.lA;rw [er 1 0 (by omega) (by omega) (by omega) (by omega),w1,show eX 513=0 by decide,show aN 513=2 by decide,hs];rfl
 have t2:m.tbP 1 0=2:=by unfold Mem.tbP;rw [if_pos t1,w1];decide
 have wk:m.ox 1 (4096+4*k)=0∧m.wkM 1 (4096+4*k)=if k<1024 then⟨true,3,true,false⟩else⟨false,1,true,false⟩:=by
  unfold Mem.ox Mem.wkM
  rw [hv,hI,t1,t2,hJ]
  by_cases hl:k<1024
  ·rw [if_pos hl]
   have w2:m.aT true 2 1=775:=by rw [h.w 2 1 (by omega) (by omega) (by omega) (by omega) (by omega),W2];rfl
   have pc:m.mI 2 1=0:=by unfold Mem.mI;rw [er 2 1 (by omega) (by omega) (by omega) (by omega),w2,show eQ 775=0 by decide,show bD 775=⟨true,3,true,false⟩by decide,hs];rfl
   refine⟨pc,?_⟩
   rw [if_pos hl,if_pos ⟨rfl,rfl⟩,Mem.pcM,if_pos pc,w2];decide
  ·rw [if_neg hl]
   have w2:m.aT true 2 2=261:=by rw [h.w 2 2 (by omega) (by omega) (by omega) (by omega) (by omega),W2];rfl
   have pc:m.mI 2 2=0:=by unfold Mem.mI;rw [er 2 2 (by omega) (by omega) (by omega) (by omega),w2,show eQ 261=0 by decide,show bD 261=⟨false,1,true,false⟩by decide,hi];rfl
   refine⟨pc,?_⟩
   rw [if_neg hl,if_pos ⟨rfl,rfl⟩,Mem.pcM,if_pos pc,w2];decide
 have te:m.jP 1 (4096+4*k) 0=0:=by unfold Mem.jP;rw [if_neg (by simp [wk.1]),if_pos (.inl rfl)]
 refine⟨te,?_⟩
 unfold Mem.trS Mem.trP Mem.trO Mem.qw
 rw [te,wk.2,hO]
 by_cases hl:k<1024
 ·simp [hl]
 ·rw [aq (by omega)];simp [hl]
theorem vA_eq {o i:Int}(ho:0≤o∧o<2000)(hi:0≤i∧i<24):Mem.vA (u32.wrap (i64.wrap (4096+i64.wrap (4*o)))) i=4096+4*(o+i):=by
 unfold Mem.vA
 rw [aq (x:=4*o) (by omega),aq (by omega),cG (x:=4096+4*o) (by omega),cG (x:=i) (by omega),cG (x:=4*i) (by omega),cG (by omega)]
 omega
abbrev qVa(o:Int):Int:=u32.wrap (i64.wrap (4096+i64.wrap (4*o)))
theorem Qs.vw(h:Qs E q m) {o i:Int}(ho:0≤o∧o<2000)(hi:0≤i∧i<24):m.vW 1 (qVa o) i=m.qw (o+i):=by
 unfold Mem.vW
 rw [vA_eq ho hi]
 exact(h.tr (by omega)).2
theorem Qs.vok(h:Qs E q m) {o:Int}(ho:0≤o∧o<2000):m.vOk 1 (qVa o)=true:=
 Mem.kQ.2 fun i hi=>by
  unfold Mem.HN
  rw [vA_eq ho (by omega)]
  exact(h.tr (by omega)).1
def _root_.Go.Proofs.YtfmcaoaaiganbaaGreatDoor.Mem.qs8(m:Mem)(o:Int):S8:=⟨m.qw o,m.qw (o+1),m.qw (o+2),m.qw (o+3),m.qw (o+4),m.qw (o+5),m.qw (o+6),m.qw (o+7)⟩
theorem Qs.vs(h:Qs E q m) {o k:Int}(ho:0≤o∧o<2000)(hk:0≤k∧k≤16):m.vS 1 (qVa o) k=m.qs8 (o+k):=by
 unfold Mem.vS Mem.qs8
 rw [h.vw ho (by omega),h.vw ho (by omega),h.vw ho (by omega),h.vw ho (by omega),h.vw ho (by omega),h.vw ho (by omega),h.vw ho (by omega),h.vw ho (by omega)]
 simp only [Int.add_assoc]
theorem Qs.aM(h:Qs E q m):m.aM 0=⟨q.getD 0 0,q.getD 1 0,q.getD 2 0,q.getD 3 0,q.getD 4 0,q.getD 5 0,q.getD 6 0,q.getD 7 0⟩:=by
 have g:∀j:Nat,j<8→m.aT true 0 (3+(j:Int))=q.getD j 0:=fun j hj=>by
  rw [h.w 0 _ (by omega) (by omega) (by omega) (by omega) (by omega),W,if_pos ⟨rfl,by omega,by omega⟩]
  congr 1;omega
 exact S8.ext (g 0 (by omega)) (g 1 (by omega)) (g 2 (by omega)) (g 3 (by omega)) (g 4 (by omega)) (g 5 (by omega)) (g 6 (by omega)) (g 7 (by omega))
variable {kk:List Int} {key:S8} {ns:Nst} {f:Fl}
theorem Qs.f7(h:Qs E q m):(E.on m).svF kk key ns 5 7 f=(f.lay (m.aM 0)).r0 0:=by
 rw [jY h.err (by decide),h.sp];rfl
theorem Qs.f1(h:Qs E q m):(E.on m).svF kk key ns 5 1 f=(f.lay (bO kk key (m.aM 0) f.s8)).r0 0:=by
 rw [jY h.err (by decide),h.sp];rfl
theorem Qs.f2(h:Qs E q m) {o:Int}(ho:0≤o∧o<2000)(hf:(f.rs.getD 1 (U32.mk 0)).v=qVa o):(E.on m).svF kk key ns 5 2 f=(f.r1 (m.vR kk key 1 (qVa o))).r0 0:=by
 rw [jY h.err (by decide),h.tb,hf]
 unfold Bf zm
 rw [if_neg (by decide),if_pos rfl,if_neg (by decide),if_pos rfl,hf]
 show Fl.r0 (Fl.r1 f (m.vR kk key 1 (qVa o))) (if m.vOk 1 (qVa o)=true then 0 else 20)=_
 rw [if_pos (h.vok ho)]
theorem Qs.vr(h:Qs E q m) {o:Int}(ho:0≤o∧o<2000):m.vR kk key 1 (qVa o)=if bO kk key (m.qs8 o) (m.qs8 (o+8))=m.qs8 (o+16)then 1 else 0:=by
 have:=h.vs ho (k:=0) (by omega)
 rw [Int.add_zero]at this
 unfold Mem.vR
 rw [if_pos (h.vok ho),this,h.vs ho (by omega),h.vs ho (by omega)]
def s8U(l:List U32)(k:Nat):S8:=⟨(l.getD k (U32.mk 0)).v,(l.getD (k+1) (U32.mk 0)).v,(l.getD (k+2) (U32.mk 0)).v,(l.getD (k+3) (U32.mk 0)).v,(l.getD (k+4) (U32.mk 0)).v,(l.getD (k+5) (U32.mk 0)).v,(l.getD (k+6) (U32.mk 0)).v,(l.getD (k+7) (U32.mk 0)).v⟩
theorem jw {l:List U32} {o:Int} {n k:Nat}(h:∀j:Int,0≤j→j<(n:Int)→m.qw (o+j)=(l.getD j.toNat (U32.mk 0)).v)(hk:k+8≤n):m.qs8 (o+k)=s8U l k:=by
 have g:∀i:Nat,i<8→m.qw (o+k+i)=(l.getD (k+i) (U32.mk 0)).v:=fun i hi=>by
  have:=h ((k+i:Nat):Int) (by omega) (by omega)
  rw [Int.toNat_natCast]at this
  rw [← this];congr 1;omega
 have g0:=g 0 (by omega)
 rw [Nat.add_zero,Int.natCast_zero,Int.add_zero]at g0
 exact S8.ext g0 (g 1 (by omega)) (g 2 (by omega)) (g 3 (by omega)) (g 4 (by omega)) (g 5 (by omega)) (g 6 (by omega)) (g 7 (by omega))
end
end DB
open DB
theorem Fa {m:Mem}(h:m.Wf)(k:Int):0≤m.qw k∧m.qw k<4294967296:=by unfold Mem.qw;split<;>exact dw h _ _ _
def Fl.xf(f:Fl)(l:List U32)(k:Nat):Fl:=(List.range k).foldl (fun f i=>f.nK (1+i) (U32.mk (l.getD i (U32.mk 0)).v)) f
theorem zR(f:Fl)(l:List U32) {i:Int}(hi:0≤i∧i<8):(Fl.xf f l i.toNat).nK (Int.toNat (i64.wrap (1+i))) (U32.mk ((l.getD i.toNat (U32.mk 0)).v))=Fl.xf f l (Int.toNat (i64.wrap (i+1))):=by
 rw [aq (by omega),aq (by omega),show(1+i).toNat=1+i.toNat by omega,show(i+1).toNat=i.toNat+1 by omega]
 unfold Fl.xf
 rw [List.range_succ,List.foldl_append];rfl
theorem BP(l:List U32):Fl.norm (Fl.xf (Fl.norm (Fl.start 4096 0 0 0)) l 8)=Fl.lay (Fl.start 4096 0 0 0) (s8U l 0):=rfl
theorem Li {f:Fl} {s:S8}(h:∀x∈f.rs,0≤x.v∧x.v<4294967296)(hl:f.rs.length=15)(hs:s.ok):(Fl.lay f s).Rg:=by
 intro j
 rw [List.getD_eq_getElem?_getD]
 cases hj:(Fl.lay f s).rs[j]? with
 | none=>exact⟨by decide,by decide⟩
 | some x=>
  have hm:=List.mem_of_getElem? hj
  have g:∀i,0≤(f.rs.getD i (U32.mk 0)).v∧(f.rs.getD i (U32.mk 0)).v<4294967296:=fun i=>by
   rw [List.getD_eq_getElem?_getD]
   cases hi:f.rs[i]? with
   | none=>exact⟨by decide,by decide⟩
   | some y=>exact h y (List.mem_of_getElem? hi)
  obtain⟨a1,a2,a3,a4,a5,a6,a7,a8⟩:=hs
  simp only [Fl.lay,List.mem_cons,List.not_mem_nil,or_false]at hm
  rcases hm with rfl | rfl | rfl | rfl | rfl | rfl | rfl | rfl | rfl | rfl | rfl | rfl | rfl | rfl | rfl<;>first | assumption | exact g _
theorem fp {pc a b c:Int}(ha:0≤a∧a<4294967296)(hb:0≤b∧b<4294967296)(hc:0≤c∧c<4294967296):(Fl.norm (Fl.start pc a b c)).Rg:=by
 intro j
 rw [List.getD_eq_getElem?_getD]
 cases hj:(Fl.norm (Fl.start pc a b c)).rs[j]? with
 | none=>exact⟨by decide,by decide⟩
 | some x=>
  have hm:x∈(Fl.start pc a b c).rs:=List.mem_of_getElem? hj
  simp only [Fl.start,List.mem_cons,List.not_mem_nil,or_false]at hm
  rcases hm with rfl | rfl | rfl | rfl | rfl | rfl | rfl | rfl | rfl | rfl | rfl | rfl | rfl | rfl | rfl<;>first | assumption | exact⟨by decide,by decide⟩
theorem BF {f:Fl} {s:S8} {x i:Int}(hi:0≤i∧i<8):((Fl.rs (Fl.norm ((Fl.lay f s).r0 x))).getD (Int.toNat (i64.wrap (1+i))) (U32.mk 0)).v=((s8L s).getD i.toNat (U32.mk 0)).v:=by
 rw [aq (by omega)]
 rcases(show i=0∨i=1∨i=2∨i=3∨i=4∨i=5∨i=6∨i=7 by omega)with rfl | rfl | rfl | rfl | rfl | rfl | rfl | rfl<;>rfl
theorem tB {l:List U32}(h:∀x∈l,0≤x.v∧x.v<4294967296)(j:Nat):0≤(l.getD j (U32.mk 0)).v∧(l.getD j (U32.mk 0)).v<4294967296:=by
 rw [List.getD_eq_getElem?_getD]
 cases hj:l[j]? with
 | none=>exact⟨by decide,by decide⟩
 | some y=>exact h y (List.mem_of_getElem? hj)
theorem l16 {l:List U32}(h:l.length=16):l=s8L (s8U l 0)++s8L (s8U l 8):=by
 match l,h with
 | [a,b,c,d,e,f,g,i,a1,b1,c1,d1,e1,f1,g1,i1],_=>rfl
theorem C5(a:S8)(b0 b1 b2 b3 b4 b5 b6 b7:Int):bp #[.int .u32 a.a,.int .u32 a.b,.int .u32 a.c,.int .u32 a.d,.int .u32 a.e,.int .u32 a.f,.int .u32 a.g,.int .u32 a.h] #[.int .u32 b0,.int .u32 b1,.int .u32 b2,.int .u32 b3,.int .u32 b4,.int .u32 b5,.int .u32 b6,.int .u32 b7]=decide (a=⟨b0,b1,b2,b3,b4,b5,b6,b7⟩):=by
 obtain⟨a0,a1,a2,a3,a4,a5,a6,a7⟩:=a
 rw [Bool.eq_iff_iff]
 simp [bp,eqL,jN]
theorem Ij(x:Int):0≤Int.tmod (i64.wrap (Int.tmod x 2000+2000)) 2000∧Int.tmod (i64.wrap (Int.tmod x 2000+2000)) 2000<2000:=by
 have h1:=Int.lt_tmod_of_pos x (show(0:Int)<2000 by decide)
 have h2:=Int.tmod_lt_of_pos x (show(0:Int)<2000 by decide)
 rw [aq (by omega)]
 exact⟨Int.tmod_nonneg _ (by omega),Int.tmod_lt_of_pos _ (by decide)⟩
theorem nX(x:Int):0≤Int.tmod (i64.wrap (Int.tmod x 768+768)) 768∧Int.tmod (i64.wrap (Int.tmod x 768+768)) 768<768:=by
 have h1:=Int.lt_tmod_of_pos x (show(0:Int)<768 by decide)
 have h2:=Int.tmod_lt_of_pos x (show(0:Int)<768 by decide)
 rw [aq (by omega)]
 exact⟨Int.tmod_nonneg _ (by omega),Int.tmod_lt_of_pos _ (by decide)⟩
theorem jZ {l:List U32} {i j:Nat} {x:U32}(hi:i<l.length):(l.set i x).getD j (U32.mk 0)=if j=i then x else l.getD j (U32.mk 0):=by
 rw [List.getD_eq_getElem?_getD,List.getElem?_set,List.getD_eq_getElem?_getD]
 by_cases e:i=j
 ·subst e;simp [hi]
 ·rw [if_neg e,if_neg (fun h=>e h.symm)]
theorem wJ {l:List U32} {i:Nat} {v:Int}(h:∀x∈l,0≤x.v∧x.v<4294967296)(hv:0≤v∧v<4294967296):∀x∈l.set i (U32.mk v),0≤x.v∧x.v<4294967296:=fun x hx=>by
 rcases List.mem_or_eq_of_mem_set hx with h1 | rfl
 ·exact h x h1
 ·exact hv
structure Rb(m:Mem)(o:Int)(l s:List U32)(i:Int):Prop where
 hi:0≤i∧i≤8
 hl:l.length=16
 hs:s.length=8
 r:∀x∈l,0≤x.v∧x.v<4294967296
 a:∀j:Nat,(j:Int)<i→(l.getD j (U32.mk 0)).v=m.qw (o+j)∧(l.getD (8+j) (U32.mk 0)).v=m.qw (o+8+j)∧(s.getD j (U32.mk 0)).v=m.qw (o+16+j)
theorem Rb.step {m:Mem} {o i:Int} {l s:List U32}(h:Rb m o l s i)(hm:m.Wf)(ho:0≤o∧o<2000)(hi:i<8):Rb m o ((l.set i.toNat (U32.mk (m.qw (i64.wrap (o+i))))).set (Int.toNat (i64.wrap (8+i))) (U32.mk (m.qw (i64.wrap (i64.wrap (o+8)+i))))) (s.set i.toNat (U32.mk (m.qw (i64.wrap (i64.wrap (o+16)+i))))) (i64.wrap (i+1)):=by
 have h0:=h.hi
 have hl:=h.hl
 have hs:=h.hs
 rw [aq (x:=o+i) (by omega),aq (x:=8+i) (by omega),aq (x:=o+8) (by omega),aq (x:=o+16) (by omega),aq (x:=o+8+i) (by omega),aq (x:=o+16+i) (by omega),aq (x:=i+1) (by omega)]
 refine⟨by omega,by simp [hl],by simp [hs],wJ (wJ h.r (Fa hm _)) (Fa hm _),fun j hj=>?_⟩
 have e16:(l.set i.toNat (U32.mk (m.qw (o+i)))).length=16:=by rw [List.length_set,hl]
 rw [jZ (by omega),jZ (by omega),jZ (by omega),jZ (by omega),jZ (by omega)]
 by_cases e:(j:Int)=i
 ·rw [if_neg (by omega),if_pos (by omega),if_pos (by omega),if_pos (by omega),e]
  exact⟨rfl,rfl,rfl⟩
 ·have:=h.a j (by omega)
  rw [if_neg (by omega),if_neg (by omega),if_neg (by omega),if_neg (by omega),if_neg (by omega)]
  exact this
theorem Rb.out {m:Mem} {o:Int} {l s:List U32}(h:Rb m o l s 8):l=s8L (m.qs8 o)++s8L (m.qs8 (o+8))∧s8U s 0=m.qs8 (o+16):=by
 have e1:s8U l 0=m.qs8 o:=by
  have:=fun j hj=>(h.a j hj).1
  have h0:=this 0 (by omega)
  rw [show o+((0:Nat):Int)=o by omega]at h0
  exact S8.ext h0 (this 1 (by omega)) (this 2 (by omega)) (this 3 (by omega)) (this 4 (by omega)) (this 5 (by omega)) (this 6 (by omega)) (this 7 (by omega))
 have e2:s8U l 8=m.qs8 (o+8):=by
  have:=fun j hj=>(h.a j hj).2.1
  have h0:=this 0 (by omega)
  rw [show o+8+((0:Nat):Int)=o+8 by omega]at h0
  exact S8.ext h0 (this 1 (by omega)) (this 2 (by omega)) (this 3 (by omega)) (this 4 (by omega)) (this 5 (by omega)) (this 6 (by omega)) (this 7 (by omega))
 have e3:s8U s 0=m.qs8 (o+16):=by
  have:=fun j hj=>(h.a j hj).2.2
  have h0:=this 0 (by omega)
  rw [show o+16+((0:Nat):Int)=o+16 by omega]at h0
  exact S8.ext h0 (this 1 (by omega)) (this 2 (by omega)) (this 3 (by omega)) (this 4 (by omega)) (this 5 (by omega)) (this 6 (by omega)) (this 7 (by omega))
 exact⟨by rw [← e1,← e2];exact l16 h.hl,e3⟩
end
end Go.Proofs.YtfmcaoaaiganbaaGreatDoor
namespace Go.Proofs.YtfmcaoaaiganbaaGreatDoor
open Go.Proofs.Tryz (prog)
open Go Go.RowKit V
open Go.IntKind (i64 u32 u64)
section
set_option maxRecDepth 100000
set_option maxHeartbeats 1000000
attribute [local irreducible] Vc2 VcD
def nt:Ctr Un:=⟨[.one (.obj 0 0),.agg [.int .u32,.int .u32,.int .u32,.int .u32,.int .u32,.int .u32,.int .u32,.int .u32],.one (.hdr),.one (.int .i64),.one (.int .u32),.enc 6],[(2,5)],[.ob 1 [(1,1,0)],.ob 0 [],.ob 5 []],[1],fun k0 k1 k2 k3 k4 k5 k6 k7 sA sN sC t n f r E rm m rk kk K=>E.n=m.S∧Fl.Rg f∧((n:Int)=1∨(n:Int)=2∨(n:Int)=7)∧(DB.eu (E.on m) t)=0∧K ⟨(.tuple #[(.agg ⟨Fl.cells (DB.svF (E.on m) kk (S8.mk k0 k1 k2 k3 k4 k5 k6 k7) (Nst.mk none 0 [] [] false) t n f)⟩),(.bool false),(.int .u32 0),(.int .i64 0)]),(some (.t [none,none,none,none])),[.ob 0 m],[],[]⟩⟩
def Jc(k0:Int)(k1:Int)(k2:Int)(k3:Int)(k4:Int)(k5:Int)(k6:Int)(k7:Int)(sA:Option Addr)(sN:Nat)(sC:Nat)(t:Int)(n:Int)(f:Fl)(r:Nat→Nat)(E:Pd)(rm:Nat→Nat)(m:Mem)(rk:Nat→Nat)(kk:List Int)(Q:Ou Un→Prop):Prop:=
 Pd.Ok E→
 Mem.Wf m→
 ∀(gv:Nat),
 ∀(s:List U32),s=([U32.mk k0,U32.mk k1,U32.mk k2,U32.mk k3,U32.mk k4,U32.mk k5,U32.mk k6,U32.mk k7]:List U32)→
 ∀(Nd:Nat),
 ∀(s1:Fl),s1=(Fl.norm f)→
 Fl.Ok s1→
 ∀(NC:Nat),
 ∀(s2:Fl),s2=Fl.zero→
 Fl.Ok s2→
 E.n=m.S∧
 ∀(Nh:Nat),
 ∃J:Bool→Prop,(
  split (((E.on m).bq t) !=0) (
   J true) (
   J (((E.on m).entry t).typ !=2)))∧∀(P4:Nat→Value)(OI:Bool),J OI→
 split OI (
  True∧
  ∀(s3:Fl),s3=Fl.zero→
  Fl.Ok s3→
  True∧
  Q ⟨(.tuple #[(.agg ⟨Fl.cells s3⟩),(.bool false),(.int .u32 0),(.int .i64 124)]),(some (.t [none,none,none,none])),[.ob 0 m],[],[]⟩) (
  E.n=m.S∧
  ∀(Sp:Nat),
  ∃J1:Bool→Prop,(
   split (((E.on m).bq (((E.on m).entry t).owner)) !=0) (
    J1 true) (
    split (((E.on m).entry (((E.on m).entry t).owner)).typ !=1) (
     J1 true) (
     J1 (((E.on m).entry (((E.on m).entry t).owner)).state !=2))))∧∀(aeD:Nat→Value)(x56:Bool),J1 x56→
  split x56 (
   True∧
   ∀(s3:Fl),s3=Fl.zero→
   Fl.Ok s3→
   True∧
   Q ⟨(.tuple #[(.agg ⟨Fl.cells s3⟩),(.bool false),(.int .u32 0),(.int .i64 124)]),(some (.t [none,none,none,none])),[.ob 0 m],[],[]⟩) (
   E.n=m.S∧
   ∀(m1:Mem),m1=m→
   Mem.Wf m1→
   split (((E.on m).fQ (((E.on m).entry t).owner)) !=0) (
    True∧
    ∀(s3:Fl),s3=Fl.zero→
    Fl.Ok s3→
    True∧
    Q ⟨(.tuple #[(.agg ⟨Fl.cells s3⟩),(.bool false),(.int .u32 0),(.int .i64 124)]),(some (.t [none,none,none,none])),[.ob 0 m1],[],[]⟩) (
    split (n==0) (
     True∧
     ((0≤(0:Int)∧(0:Int)<((Fl.rs s1).length:Int))∧(0:Int)<(15:Int))∧
     True∧
     ∀(s3:Fl),s3=(Fl.norm s1)→
     Fl.Ok s3→
     True∧
     Q ⟨(.tuple #[(.agg ⟨Fl.cells s3⟩),(.bool true),(.int .u32 (((Fl.rs s1).getD (Int.toNat 0) (U32.mk 0)).v)),(.int .i64 0)]),(some (.t [none,none,none,none])),[.ob 0 m1],[],[]⟩) (
     True∧
     (some (.pointer (some (Addr.mk (r 0) 0 none))):Option Value)=some (.pointer (some (Addr.mk (r 0) 0 none)))∧
     (8≤s.length)∧
     (some (.pointer (some (Addr.mk (r 0) 0 none))):Option Value)=some (.pointer (some (Addr.mk (r 0) 0 none)))∧
     ∀(gv7:Nat),
     ∀(rN:Nat→Nat),
     ∀(s3:Unit),s3=()→
     ((rN 0)=rN 0)∧
     split (decide (n=1)) (
      (S8.mk (((Fl.rs s1).getD 1 (U32.mk 0)).v) (((Fl.rs s1).getD 2 (U32.mk 0)).v) (((Fl.rs s1).getD 3 (U32.mk 0)).v) (((Fl.rs s1).getD 4 (U32.mk 0)).v) (((Fl.rs s1).getD 5 (U32.mk 0)).v) (((Fl.rs s1).getD 6 (U32.mk 0)).v) (((Fl.rs s1).getD 7 (U32.mk 0)).v) (((Fl.rs s1).getD 8 (U32.mk 0)).v)).ok∧
      ∀(m2:Mem),m2=m1→
      Mem.Wf m2→
      (0≤(0:Int)∧(0:Int)<(15:Int))∧
      True∧
      ∀(s4:Fl),s4=(Fl.mk [U32.mk 0,U32.mk ((bO kk (S8.mk ((s.getD 0 (U32.mk 0)).v) ((s.getD 1 (U32.mk 0)).v) ((s.getD 2 (U32.mk 0)).v) ((s.getD 3 (U32.mk 0)).v) ((s.getD 4 (U32.mk 0)).v) ((s.getD 5 (U32.mk 0)).v) ((s.getD 6 (U32.mk 0)).v) ((s.getD 7 (U32.mk 0)).v)) (m1.aM (((E.on m).entry t).owner)) (S8.mk (((Fl.rs s1).getD 1 (U32.mk 0)).v) (((Fl.rs s1).getD 2 (U32.mk 0)).v) (((Fl.rs s1).getD 3 (U32.mk 0)).v) (((Fl.rs s1).getD 4 (U32.mk 0)).v) (((Fl.rs s1).getD 5 (U32.mk 0)).v) (((Fl.rs s1).getD 6 (U32.mk 0)).v) (((Fl.rs s1).getD 7 (U32.mk 0)).v) (((Fl.rs s1).getD 8 (U32.mk 0)).v))).a),U32.mk ((bO kk (S8.mk ((s.getD 0 (U32.mk 0)).v) ((s.getD 1 (U32.mk 0)).v) ((s.getD 2 (U32.mk 0)).v) ((s.getD 3 (U32.mk 0)).v) ((s.getD 4 (U32.mk 0)).v) ((s.getD 5 (U32.mk 0)).v) ((s.getD 6 (U32.mk 0)).v) ((s.getD 7 (U32.mk 0)).v)) (m1.aM (((E.on m).entry t).owner)) (S8.mk (((Fl.rs s1).getD 1 (U32.mk 0)).v) (((Fl.rs s1).getD 2 (U32.mk 0)).v) (((Fl.rs s1).getD 3 (U32.mk 0)).v) (((Fl.rs s1).getD 4 (U32.mk 0)).v) (((Fl.rs s1).getD 5 (U32.mk 0)).v) (((Fl.rs s1).getD 6 (U32.mk 0)).v) (((Fl.rs s1).getD 7 (U32.mk 0)).v) (((Fl.rs s1).getD 8 (U32.mk 0)).v))).b),U32.mk ((bO kk (S8.mk ((s.getD 0 (U32.mk 0)).v) ((s.getD 1 (U32.mk 0)).v) ((s.getD 2 (U32.mk 0)).v) ((s.getD 3 (U32.mk 0)).v) ((s.getD 4 (U32.mk 0)).v) ((s.getD 5 (U32.mk 0)).v) ((s.getD 6 (U32.mk 0)).v) ((s.getD 7 (U32.mk 0)).v)) (m1.aM (((E.on m).entry t).owner)) (S8.mk (((Fl.rs s1).getD 1 (U32.mk 0)).v) (((Fl.rs s1).getD 2 (U32.mk 0)).v) (((Fl.rs s1).getD 3 (U32.mk 0)).v) (((Fl.rs s1).getD 4 (U32.mk 0)).v) (((Fl.rs s1).getD 5 (U32.mk 0)).v) (((Fl.rs s1).getD 6 (U32.mk 0)).v) (((Fl.rs s1).getD 7 (U32.mk 0)).v) (((Fl.rs s1).getD 8 (U32.mk 0)).v))).c),U32.mk ((bO kk (S8.mk ((s.getD 0 (U32.mk 0)).v) ((s.getD 1 (U32.mk 0)).v) ((s.getD 2 (U32.mk 0)).v) ((s.getD 3 (U32.mk 0)).v) ((s.getD 4 (U32.mk 0)).v) ((s.getD 5 (U32.mk 0)).v) ((s.getD 6 (U32.mk 0)).v) ((s.getD 7 (U32.mk 0)).v)) (m1.aM (((E.on m).entry t).owner)) (S8.mk (((Fl.rs s1).getD 1 (U32.mk 0)).v) (((Fl.rs s1).getD 2 (U32.mk 0)).v) (((Fl.rs s1).getD 3 (U32.mk 0)).v) (((Fl.rs s1).getD 4 (U32.mk 0)).v) (((Fl.rs s1).getD 5 (U32.mk 0)).v) (((Fl.rs s1).getD 6 (U32.mk 0)).v) (((Fl.rs s1).getD 7 (U32.mk 0)).v) (((Fl.rs s1).getD 8 (U32.mk 0)).v))).d),U32.mk ((bO kk (S8.mk ((s.getD 0 (U32.mk 0)).v) ((s.getD 1 (U32.mk 0)).v) ((s.getD 2 (U32.mk 0)).v) ((s.getD 3 (U32.mk 0)).v) ((s.getD 4 (U32.mk 0)).v) ((s.getD 5 (U32.mk 0)).v) ((s.getD 6 (U32.mk 0)).v) ((s.getD 7 (U32.mk 0)).v)) (m1.aM (((E.on m).entry t).owner)) (S8.mk (((Fl.rs s1).getD 1 (U32.mk 0)).v) (((Fl.rs s1).getD 2 (U32.mk 0)).v) (((Fl.rs s1).getD 3 (U32.mk 0)).v) (((Fl.rs s1).getD 4 (U32.mk 0)).v) (((Fl.rs s1).getD 5 (U32.mk 0)).v) (((Fl.rs s1).getD 6 (U32.mk 0)).v) (((Fl.rs s1).getD 7 (U32.mk 0)).v) (((Fl.rs s1).getD 8 (U32.mk 0)).v))).e),U32.mk ((bO kk (S8.mk ((s.getD 0 (U32.mk 0)).v) ((s.getD 1 (U32.mk 0)).v) ((s.getD 2 (U32.mk 0)).v) ((s.getD 3 (U32.mk 0)).v) ((s.getD 4 (U32.mk 0)).v) ((s.getD 5 (U32.mk 0)).v) ((s.getD 6 (U32.mk 0)).v) ((s.getD 7 (U32.mk 0)).v)) (m1.aM (((E.on m).entry t).owner)) (S8.mk (((Fl.rs s1).getD 1 (U32.mk 0)).v) (((Fl.rs s1).getD 2 (U32.mk 0)).v) (((Fl.rs s1).getD 3 (U32.mk 0)).v) (((Fl.rs s1).getD 4 (U32.mk 0)).v) (((Fl.rs s1).getD 5 (U32.mk 0)).v) (((Fl.rs s1).getD 6 (U32.mk 0)).v) (((Fl.rs s1).getD 7 (U32.mk 0)).v) (((Fl.rs s1).getD 8 (U32.mk 0)).v))).f),U32.mk ((bO kk (S8.mk ((s.getD 0 (U32.mk 0)).v) ((s.getD 1 (U32.mk 0)).v) ((s.getD 2 (U32.mk 0)).v) ((s.getD 3 (U32.mk 0)).v) ((s.getD 4 (U32.mk 0)).v) ((s.getD 5 (U32.mk 0)).v) ((s.getD 6 (U32.mk 0)).v) ((s.getD 7 (U32.mk 0)).v)) (m1.aM (((E.on m).entry t).owner)) (S8.mk (((Fl.rs s1).getD 1 (U32.mk 0)).v) (((Fl.rs s1).getD 2 (U32.mk 0)).v) (((Fl.rs s1).getD 3 (U32.mk 0)).v) (((Fl.rs s1).getD 4 (U32.mk 0)).v) (((Fl.rs s1).getD 5 (U32.mk 0)).v) (((Fl.rs s1).getD 6 (U32.mk 0)).v) (((Fl.rs s1).getD 7 (U32.mk 0)).v) (((Fl.rs s1).getD 8 (U32.mk 0)).v))).g),U32.mk ((bO kk (S8.mk ((s.getD 0 (U32.mk 0)).v) ((s.getD 1 (U32.mk 0)).v) ((s.getD 2 (U32.mk 0)).v) ((s.getD 3 (U32.mk 0)).v) ((s.getD 4 (U32.mk 0)).v) ((s.getD 5 (U32.mk 0)).v) ((s.getD 6 (U32.mk 0)).v) ((s.getD 7 (U32.mk 0)).v)) (m1.aM (((E.on m).entry t).owner)) (S8.mk (((Fl.rs s1).getD 1 (U32.mk 0)).v) (((Fl.rs s1).getD 2 (U32.mk 0)).v) (((Fl.rs s1).getD 3 (U32.mk 0)).v) (((Fl.rs s1).getD 4 (U32.mk 0)).v) (((Fl.rs s1).getD 5 (U32.mk 0)).v) (((Fl.rs s1).getD 6 (U32.mk 0)).v) (((Fl.rs s1).getD 7 (U32.mk 0)).v) (((Fl.rs s1).getD 8 (U32.mk 0)).v))).h),U32.mk (((Fl.rs s1).getD 9 (U32.mk 0)).v),U32.mk (((Fl.rs s1).getD 10 (U32.mk 0)).v),U32.mk (((Fl.rs s1).getD 11 (U32.mk 0)).v),U32.mk (((Fl.rs s1).getD 12 (U32.mk 0)).v),U32.mk (((Fl.rs s1).getD 13 (U32.mk 0)).v),U32.mk (((Fl.rs s1).getD 14 (U32.mk 0)).v)] (Fl.pc s1) (Fl.z s1) (Fl.n s1) (Fl.l s1))→
      Fl.Ok s4→
      True∧
      Q ⟨(.tuple #[(.agg ⟨Fl.cells s4⟩),(.bool false),(.int .u32 0),(.int .i64 0)]),(some (.t [none,none,none,none])),[.ob 0 m2],[],[]⟩) (
      split (decide (n=2)) (
       (0≤(((Fl.rs s1).getD 1 (U32.mk 0)).v)∧(((Fl.rs s1).getD 1 (U32.mk 0)).v)<4294967296)∧
       ∀(m3:Mem),m3=m1→
       Mem.Wf m3→
       (0≤(0:Int)∧(0:Int)<(15:Int))∧
       True∧
       ∀(s5:Fl),s5=(Fl.mk [U32.mk (if m1.vOk ((E.on m).tbl (((E.on m).entry t).owner)) (((Fl.rs s1).getD 1 (U32.mk 0)).v)=true then 0 else 20),U32.mk (m1.vR kk (S8.mk ((s.getD 0 (U32.mk 0)).v) ((s.getD 1 (U32.mk 0)).v) ((s.getD 2 (U32.mk 0)).v) ((s.getD 3 (U32.mk 0)).v) ((s.getD 4 (U32.mk 0)).v) ((s.getD 5 (U32.mk 0)).v) ((s.getD 6 (U32.mk 0)).v) ((s.getD 7 (U32.mk 0)).v)) ((E.on m).tbl (((E.on m).entry t).owner)) (((Fl.rs s1).getD 1 (U32.mk 0)).v)),U32.mk (((Fl.rs s1).getD 2 (U32.mk 0)).v),U32.mk (((Fl.rs s1).getD 3 (U32.mk 0)).v),U32.mk (((Fl.rs s1).getD 4 (U32.mk 0)).v),U32.mk (((Fl.rs s1).getD 5 (U32.mk 0)).v),U32.mk (((Fl.rs s1).getD 6 (U32.mk 0)).v),U32.mk (((Fl.rs s1).getD 7 (U32.mk 0)).v),U32.mk (((Fl.rs s1).getD 8 (U32.mk 0)).v),U32.mk (((Fl.rs s1).getD 9 (U32.mk 0)).v),U32.mk (((Fl.rs s1).getD 10 (U32.mk 0)).v),U32.mk (((Fl.rs s1).getD 11 (U32.mk 0)).v),U32.mk (((Fl.rs s1).getD 12 (U32.mk 0)).v),U32.mk (((Fl.rs s1).getD 13 (U32.mk 0)).v),U32.mk (((Fl.rs s1).getD 14 (U32.mk 0)).v)] (Fl.pc s1) (Fl.z s1) (Fl.n s1) (Fl.l s1))→
       Fl.Ok s5→
       True∧
       Q ⟨(.tuple #[(.agg ⟨Fl.cells s5⟩),(.bool false),(.int .u32 0),(.int .i64 0)]),(some (.t [none,none,none,none])),[.ob 0 m3],[],[]⟩) (
       split (decide (n=3)) (
        False) (
        split (decide (n=4)) (
         False) (
         split (decide (n=5)) (
          False) (
          split (decide (n=6)) (
           False) (
           split (decide (n=7)) (
            ∀(m4:Mem),m4=m1→
            Mem.Wf m4→
            (0≤(0:Int)∧(0:Int)<(15:Int))∧
            True∧
            ∀(s6:Fl),s6=(Fl.mk [U32.mk 0,U32.mk ((m1.aM (((E.on m).entry t).owner)).a),U32.mk ((m1.aM (((E.on m).entry t).owner)).b),U32.mk ((m1.aM (((E.on m).entry t).owner)).c),U32.mk ((m1.aM (((E.on m).entry t).owner)).d),U32.mk ((m1.aM (((E.on m).entry t).owner)).e),U32.mk ((m1.aM (((E.on m).entry t).owner)).f),U32.mk ((m1.aM (((E.on m).entry t).owner)).g),U32.mk ((m1.aM (((E.on m).entry t).owner)).h),U32.mk (((Fl.rs s1).getD 9 (U32.mk 0)).v),U32.mk (((Fl.rs s1).getD 10 (U32.mk 0)).v),U32.mk (((Fl.rs s1).getD 11 (U32.mk 0)).v),U32.mk (((Fl.rs s1).getD 12 (U32.mk 0)).v),U32.mk (((Fl.rs s1).getD 13 (U32.mk 0)).v),U32.mk (((Fl.rs s1).getD 14 (U32.mk 0)).v)] (Fl.pc s1) (Fl.z s1) (Fl.n s1) (Fl.l s1))→
            Fl.Ok s6→
            True∧
            Q ⟨(.tuple #[(.agg ⟨Fl.cells s6⟩),(.bool false),(.int .u32 0),(.int .i64 0)]),(some (.t [none,none,none,none])),[.ob 0 m4],[],[]⟩) (
            (0≤(0:Int)∧(0:Int)<(15:Int))∧
            True∧
            ∀(s7:Fl),s7=(Fl.mk [U32.mk 15,U32.mk (((Fl.rs s1).getD 1 (U32.mk 0)).v),U32.mk (((Fl.rs s1).getD 2 (U32.mk 0)).v),U32.mk (((Fl.rs s1).getD 3 (U32.mk 0)).v),U32.mk (((Fl.rs s1).getD 4 (U32.mk 0)).v),U32.mk (((Fl.rs s1).getD 5 (U32.mk 0)).v),U32.mk (((Fl.rs s1).getD 6 (U32.mk 0)).v),U32.mk (((Fl.rs s1).getD 7 (U32.mk 0)).v),U32.mk (((Fl.rs s1).getD 8 (U32.mk 0)).v),U32.mk (((Fl.rs s1).getD 9 (U32.mk 0)).v),U32.mk (((Fl.rs s1).getD 10 (U32.mk 0)).v),U32.mk (((Fl.rs s1).getD 11 (U32.mk 0)).v),U32.mk (((Fl.rs s1).getD 12 (U32.mk 0)).v),U32.mk (((Fl.rs s1).getD 13 (U32.mk 0)).v),U32.mk (((Fl.rs s1).getD 14 (U32.mk 0)).v)] (Fl.pc s1) (Fl.z s1) (Fl.n s1) (Fl.l s1))→
            Fl.Ok s7→
            True∧
            Q ⟨(.tuple #[(.agg ⟨Fl.cells s7⟩),(.bool false),(.int .u32 0),(.int .i64 0)]),(some (.t [none,none,none,none])),[.ob 0 m1],[],[]⟩)))))))))))
theorem Jd:Vc2 Un prog (aU [(71,ff),(76,kF),(77,od),(136,gX),(137,gW),(142,fP)]) [] Tryz.f33 (.r' (.r' (.two (.two (.node [] (some ⟨[(36,(.one .bool))],[],upN 30 7,[]⟩) [] [] .leaf .leaf) .leaf) (.r' (.two (.two (.node [] (some ⟨[(56,(.one .bool))],[],upN 45 12,[]⟩) [] [] .leaf .leaf) .leaf) (.r' (.r' (.two (.r' (.two (.two (.node [] none [] [(0,[4]),(3,[4])] .leaf .leaf) .leaf) .leaf)) .leaf)))))))) [] nt=(∀k0 k1 k2 k3 k4 k5 k6 k7 sA sN sC t n (f:Fl) r (E:Pd) rm (m:Mem) rk (kk:List Int),∀Q,(nt.body k0 k1 k2 k3 k4 k5 k6 k7 sA sN sC t n f r E rm m rk kk Q)→Jc k0 k1 k2 k3 k4 k5 k6 k7 sA sN sC t n f r E rm m rk kk Q):=by kernel_rfl
theorem Jb:LV Un prog 33 nt:=verify Tryz.func33 aj (tb:= [(71,ff),(76,kF),(77,od),(136,gX),(137,gW),(142,fP)]) ⟨nG,G5,DM,Ag,Ac,yj,trivial⟩ (by kernel_rfl) (Jd.mpr fun k0 k1 k2 k3 k4 k5 k6 k7 sA sN sC t n f r E rm m rk kk Q h=>by
 obtain⟨NF,Nz,NN,W5,h⟩:=h
 exact fun f1 f2 gv s OM Nd s1 NA f3 NC s2 PH f4=>ak ‹_› fun s5 Nh=>bS (((((E.on m).bq t):Int) !=0) || ((((E.on m).entry t).typ:Int) !=2)) (ao (fun c1=>(by grind)) fun c1=>(by grind))<| aW (fun c2=>(by exfalso;(grind [DB.eu]))) fun c2=>ak ‹_› fun s6 Sp=>bS (((((E.on m).bq (((E.on m).entry t).owner)):Int) !=0) || (((((E.on m).entry (((E.on m).entry t).owner)).typ:Int) !=1) || ((((E.on m).entry (((E.on m).entry t).owner)).state:Int) !=2))) (ao (fun c3=>(by grind)) fun c3=>ao (fun c4=>(by grind)) fun c4=>(by grind))<| aW (fun c5=>(by exfalso;(grind [DB.eu]))) fun c5=>ak ‹_› fun s7 m1 Nq f8=>aV (fun c6=>(by exfalso;(grind [DB.eu]))) fun c6=>aO (fun c7=>(by exfalso;omega)) fun c7=>ak trivial fun _=>ak (by rfl) fun QE=>ak (by rw [OM];exact Nat.le_refl 8) fun OW=>ak (by rfl) fun Py gv7 rN s3 QA=>ak (by rfl) fun NG=>ax (fun c8=>(by have cn:=c8;exact ak (by subst NA;exact Nz.s8) fun NJ m2 Q1 f15=>ak (by omega) fun s16=>ak trivial fun _ s4 O1 f18=>ak trivial fun _=>aL h (congrArg (fun l=>Value.tuple (List.toArray l)) (ai (congrArg (fun s:Fl=>Value.agg ⟨Fl.cells s⟩) (by first | (rw [DB.jY W5 (by omega),O1];subst_vars;rfl))) (ai rfl (ai rfl (ai rfl rfl))))) (ai (uO0 (by subst_vars;rfl)) rfl) rfl)) fun c8=>ax (fun c9=>(by have cn:=c9;exact ak (by subst NA;exact Nz 1) fun s20 m3 Np f21=>ak (by omega) fun s22=>ak trivial fun _ s5 Qo f24=>ak trivial fun _=>aL h (congrArg (fun l=>Value.tuple (List.toArray l)) (ai (congrArg (fun s:Fl=>Value.agg ⟨Fl.cells s⟩) (by first | (rw [DB.jY W5 (by omega),Qo];subst_vars;rfl))) (ai rfl (ai rfl (ai rfl rfl))))) (ai (uO0 (by subst_vars;rfl)) rfl) rfl)) fun c9=>ax (fun SL=>(by exfalso;omega)) fun SL=>ax (fun Vb=>(by exfalso;omega)) fun Vb=>ax (fun Q5=>(by exfalso;omega)) fun Q5=>ax (fun V0=>(by exfalso;omega)) fun V0=>ax (fun VZ=>(by have cn:=VZ;exact fun m4 Q0 f26=>ak (by omega) fun s27=>ak trivial fun _ s6 U6 f29=>ak trivial fun _=>aL h (congrArg (fun l=>Value.tuple (List.toArray l)) (ai (congrArg (fun s:Fl=>Value.agg ⟨Fl.cells s⟩) (by first | (rw [DB.jY W5 (by omega),U6];subst_vars;rfl))) (ai rfl (ai rfl (ai rfl rfl))))) (ai (uO0 (by subst_vars;rfl)) rfl) rfl)) fun VZ=>(by exfalso;omega))
def jh:Ctr Un:=⟨[.one (.ptr 0),.agg [.int .u32,.int .u32,.int .u32,.int .u32,.int .u32,.int .u32,.int .u32,.int .u32],.one (.hdr),.one (.int .u32),.enc 6],[(3,5)],[.blk [.obj 2 0,.obj 1 0,.any] 57,.ob 1 [(1,2,0)],.ob 0 [],.ob 5 []],[2],fun k0 k1 k2 k3 k4 k5 k6 k7 sA sN sC n f g z r E rm m rk kk K=>E.n=m.S∧Fl.Rg f∧((n:Int)=1∨(n:Int)=2∨(n:Int)=7)∧(DB.eu (E.on m) 5)=0∧K ⟨(.tuple #[(.agg ⟨Fl.cells (DB.svF (E.on m) kk (S8.mk k0 k1 k2 k3 k4 k5 k6 k7) (Nst.mk none 0 [] [] false) 5 n f)⟩),(.bool true)]),(some (.t [none,none])),[.ob 0 m],[],[]⟩⟩
def Ed(k0:Int)(k1:Int)(k2:Int)(k3:Int)(k4:Int)(k5:Int)(k6:Int)(k7:Int)(sA:Option Addr)(sN:Nat)(sC:Nat)(n:Int)(f:Fl)(g:Nat)(z:Value)(r:Nat→Nat)(E:Pd)(rm:Nat→Nat)(m:Mem)(rk:Nat→Nat)(kk:List Int)(Q:Ou Un→Prop):Prop:=
 Pd.Ok E→
 Mem.Wf m→
 ∀(gv:Nat),
 ∀(s:List U32),s=([U32.mk k0,U32.mk k1,U32.mk k2,U32.mk k3,U32.mk k4,U32.mk k5,U32.mk k6,U32.mk k7]:List U32)→
 ∀(Nd:Nat),
 ∀(s1:Fl),s1=(Fl.norm f)→
 Fl.Ok s1→
 ∀(NC:Nat),
 ∀(s2:Fl),s2=Fl.zero→
 Fl.Ok s2→
 (8≤s.length)∧
 True∧
 (E.n=m.S∧
  Fl.Rg (Fl.norm s1)∧
  (n=1∨n=2∨n=7)∧
  (DB.eu (E.on m) 5)=0∧
  ∀(m1:Mem),m1=m→
  Mem.Wf m1→
  ∀(Nh:Nat),
  ∀(s3:Fl),s3=Fl.zero→
  Fl.Ok s3→
  True∧
  ∀(s4:Fl),s4=(Fl.norm (DB.svF (E.on m) kk (S8.mk ((s.getD 0 (U32.mk 0)).v) ((s.getD 1 (U32.mk 0)).v) ((s.getD 2 (U32.mk 0)).v) ((s.getD 3 (U32.mk 0)).v) ((s.getD 4 (U32.mk 0)).v) ((s.getD 5 (U32.mk 0)).v) ((s.getD 6 (U32.mk 0)).v) ((s.getD 7 (U32.mk 0)).v)) (Nst.mk none 0 [] [] false) 5 n (Fl.norm s1)))→
  Fl.Ok s4→
  ∃J:Bool→Fl→Prop,(
   True∧
   True∧
   ∀(s5:Fl),s5=(Fl.norm s4)→
   Fl.Ok s5→
   J true s5)∧∀(P4:Nat→Value)(Nm:Bool)(s6:Fl),J Nm s6→
  Fl.Ok s6→
  True∧
  Q ⟨(.tuple #[(.agg ⟨Fl.cells s6⟩),(.bool Nm)]),(some (.t [none,none])),[.ob 0 m1],[],[]⟩)∧
 (∀(Nh:Nat),
  ∀(s3:Fl),s3=Fl.zero→
  Fl.Ok s3→
  E.n=m.S∧
  Fl.Rg (Fl.norm s1)∧
  (n=1∨n=2∨n=7)∧
  (DB.eu (E.on m) 5)=0∧
  ∀(m1:Mem),m1=m→
  Mem.Wf m1→
  True∧
  ∀(s4:Fl),s4=(Fl.norm (DB.svF (E.on m) kk (S8.mk ((s.getD 0 (U32.mk 0)).v) ((s.getD 1 (U32.mk 0)).v) ((s.getD 2 (U32.mk 0)).v) ((s.getD 3 (U32.mk 0)).v) ((s.getD 4 (U32.mk 0)).v) ((s.getD 5 (U32.mk 0)).v) ((s.getD 6 (U32.mk 0)).v) ((s.getD 7 (U32.mk 0)).v)) (Nst.mk none 0 [] [] false) 5 n (Fl.norm s1)))→
  Fl.Ok s4→
  ∃J:Bool→Fl→Prop,(
   True∧
   True∧
   ∀(s5:Fl),s5=(Fl.norm s4)→
   Fl.Ok s5→
   J true s5)∧∀(P4:Nat→Value)(Nm:Bool)(s6:Fl),J Nm s6→
  Fl.Ok s6→
  True∧
  Q ⟨(.tuple #[(.agg ⟨Fl.cells s6⟩),(.bool Nm)]),(some (.t [none,none])),[.ob 0 m1],[],[]⟩)
theorem Ee:Vc2 Un prog (aU [(33,nt),(34,dY)]) [] Tryz.f19 (.r' (.two (.node [] none [] [(3,[0]),(4,[4]),(7,[5])] .leaf .leaf) (.two (.node [] (some ⟨[(11,(.one .bool))],[],[11]++upN 30 12,[(6,(.ob 10))]⟩) [] [(0,[7])] .leaf .leaf) .leaf))) [] jh=(∀k0 k1 k2 k3 k4 k5 k6 k7 sA sN sC n (f:Fl) g z r (E:Pd) rm (m:Mem) rk (kk:List Int),∀Q,(jh.body k0 k1 k2 k3 k4 k5 k6 k7 sA sN sC n f g z r E rm m rk kk Q)→Ed k0 k1 k2 k3 k4 k5 k6 k7 sA sN sC n f g z r E rm m rk kk Q):=by kernel_rfl
theorem Ec:LV Un prog 19 jh:=verify Tryz.func19 aj (tb:= [(33,nt),(34,dY)]) ⟨Jb,nD,trivial⟩ (by kernel_rfl) (Ee.mpr fun k0 k1 k2 k3 k4 k5 k6 k7 sA sN sC n f g z r E rm m rk kk Q h=>by
 obtain⟨NF,Nz,NN,W5,h⟩:=h
 exact fun f1 f2 gv s OM Nd s1 NA f3 NC s2 PH f4=>ak (by rw [OM];exact Nat.le_refl 8) fun s5=>ak trivial fun _=>⟨ak ‹_› fun s7=>ak (by rw [NA];exact Nz.norm.norm) fun s8=>ak ‹_› fun s9=>ak ‹_› fun QE m1 Nq f11 Nh s3 QA f12=>ak trivial fun _ s4 O1 f14=>⟨fun Nm s6=>(Nm=true)∧(s6=(DB.svF (E.on m) kk (S8.mk k0 k1 k2 k3 k4 k5 k6 k7) (Nst.mk none 0 [] [] false) 5 n f)),ak trivial fun _=>ak trivial fun _ s5 Qo f17=>⟨(by rfl),(by(rw [Qo,O1,NA,DB.my,DB.my,DB.uy,DB.uy,OM];rfl))⟩,fun _ Nm s6 ⟨hx,hy⟩=>fun f18=>ak trivial fun _=>aL h (congrArg (fun l=>Value.tuple (List.toArray l)) (ai (congrArg (fun s:Fl=>Value.agg ⟨Fl.cells s⟩) (by exact hy.symm)) (ai (eQb (by exact hx.symm)) rfl))) (ai (uO0 (by(symm;assumption))) rfl) rfl⟩,fun Nh s3 QA f20=>ak ‹_› fun s21=>ak (by rw [NA];exact Nz.norm.norm) fun s22=>ak ‹_› fun s23=>ak ‹_› fun s24 m1 Nq f25=>ak trivial fun _ s4 O1 f27=>⟨fun Nm s6=>(Nm=true)∧(s6=(DB.svF (E.on m) kk (S8.mk k0 k1 k2 k3 k4 k5 k6 k7) (Nst.mk none 0 [] [] false) 5 n f)),ak trivial fun _=>ak trivial fun _ s5 Qo f30=>⟨(by rfl),(by(rw [Qo,O1,NA,DB.my,DB.my,DB.uy,DB.uy,OM];rfl))⟩,fun _ Nm s6 ⟨hx,hy⟩=>fun f31=>ak trivial fun _=>aL h (congrArg (fun l=>Value.tuple (List.toArray l)) (ai (congrArg (fun s:Fl=>Value.agg ⟨Fl.cells s⟩) (by exact hy.symm)) (ai (eQb (by exact hx.symm)) rfl))) (ai (uO0 (by(symm;assumption))) rfl) rfl⟩⟩)
def jf:Ctr Un:=⟨[.one (.ptr 0),.one (.int .i64)],[],[.blk [.obj 2 0,.obj 1 0,.any] 57,.ob 1 [(1,2,0)],.ob 0 []],[],fun k g z r E rm m K=>K ⟨(.int .u32 (m.qw k)),none,[],[],[]⟩⟩
def D7(k:Int)(g:Nat)(z:Value)(r:Nat→Nat)(E:Pd)(rm:Nat→Nat)(m:Mem)(Q:Ou Un→Prop):Prop:=
 Pd.Ok E→
 Mem.Wf m→
 split (decide (k<1024)) (
  Q ⟨(.int .u32 (m.aT true 3 k)),none,[],[],[]⟩) (
  Q ⟨(.int .u32 (m.aT false 1 (i64.wrap (k - 1024)))),none,[],[],[]⟩)
theorem D8:Vc2 Un prog (aU [(21,cT),(26,nC)]) [] Tryz.f23 (.r' (.two (.r' (.two (.two (.node [] none [] [(3,[0])] .leaf .leaf) .leaf) .leaf)) .leaf)) [] jf=(∀k g z r (E:Pd) rm (m:Mem),∀Q,(jf.body k g z r E rm m Q)→D7 k g z r E rm m Q):=by kernel_rfl
section
attribute [local grind=] Mem.qw
theorem D6:LV Un prog 23 jf:=verify Tryz.func23 aj (tb:= [(21,cT),(26,nC)]) ⟨kI,B9,trivial⟩ (by kernel_rfl) (D8.mpr fun k g z r E rm m Q h f1 f2=>ax (fun c1=>fk h (by grind)) fun c1=>fk h (by grind))
end
def g6:Ctr Un:=⟨[.agg [.int .u32,.int .u32,.int .u32,.int .u32,.int .u32,.int .u32,.int .u32,.int .u32],.agg [.int .u32,.int .u32,.int .u32,.int .u32,.int .u32,.int .u32,.int .u32,.int .u32],.agg [.int .u32,.int .u32,.int .u32,.int .u32,.int .u32,.int .u32,.int .u32,.int .u32],.one (.int .i64),.one (.int .i64)],[(0,5)],[.ob 5 []],[],fun k0 k1 k2 k3 k4 k5 k6 k7 q0 q1 q2 q3 q4 q5 q6 q7 d0 d1 d2 d3 d4 d5 d6 d7 off bit rk kk K=>(S8.mk k0 k1 k2 k3 k4 k5 k6 k7).ok∧(S8.mk q0 q1 q2 q3 q4 q5 q6 q7).ok∧(S8.mk d0 d1 d2 d3 d4 d5 d6 d7).ok∧K ⟨(.bool true),none,[],[],[]⟩⟩
def rH(k0:Int)(k1:Int)(k2:Int)(k3:Int)(k4:Int)(k5:Int)(k6:Int)(k7:Int)(q0:Int)(q1:Int)(q2:Int)(q3:Int)(q4:Int)(q5:Int)(q6:Int)(q7:Int)(d0:Int)(d1:Int)(d2:Int)(d3:Int)(d4:Int)(d5:Int)(d6:Int)(d7:Int)(off:Int)(bit:Int)(rk:Nat→Nat)(kk:List Int)(Q:Ou Un→Prop):Prop:=
 ∀(gv:Nat),
 ∀(s:List U32),s=([U32.mk k0,U32.mk k1,U32.mk k2,U32.mk k3,U32.mk k4,U32.mk k5,U32.mk k6,U32.mk k7]:List U32)→
 ∀(Nd:Nat),
 ∀(s1:List U32),s1=([U32.mk q0,U32.mk q1,U32.mk q2,U32.mk q3,U32.mk q4,U32.mk q5,U32.mk q6,U32.mk q7]:List U32)→
 ∀(NC:Nat),
 ∀(s2:List U32),s2=([U32.mk d0,U32.mk d1,U32.mk d2,U32.mk d3,U32.mk d4,U32.mk d5,U32.mk d6,U32.mk d7]:List U32)→
 (8≤s1.length)∧
 (∀x∈([((s1.getD 0 (U32.mk 0)).v),((s1.getD 1 (U32.mk 0)).v),((s1.getD 2 (U32.mk 0)).v),((s1.getD 3 (U32.mk 0)).v),((s1.getD 4 (U32.mk 0)).v),((s1.getD 5 (U32.mk 0)).v),((s1.getD 6 (U32.mk 0)).v),((s1.getD 7 (U32.mk 0)).v)]:List Int),0≤x∧x<4294967296)∧
 ∀(Nh:Nat)(rP:Nat→Nat)(rN:Nat→Nat)(rQ:Nat→Nat)(rM:Nat→Nat),
 ∀(E:Pd),E=(DB.two [((s1.getD 0 (U32.mk 0)).v),((s1.getD 1 (U32.mk 0)).v),((s1.getD 2 (U32.mk 0)).v),((s1.getD 3 (U32.mk 0)).v),((s1.getD 4 (U32.mk 0)).v),((s1.getD 5 (U32.mk 0)).v),((s1.getD 6 (U32.mk 0)).v),((s1.getD 7 (U32.mk 0)).v)]).pd→
 Pd.Ok E→
 ∀(m:Mem),m=(DB.two [((s1.getD 0 (U32.mk 0)).v),((s1.getD 1 (U32.mk 0)).v),((s1.getD 2 (U32.mk 0)).v),((s1.getD 3 (U32.mk 0)).v),((s1.getD 4 (U32.mk 0)).v),((s1.getD 5 (U32.mk 0)).v),((s1.getD 6 (U32.mk 0)).v),((s1.getD 7 (U32.mk 0)).v)]).mem→
 Mem.Wf m→
 ∀(E1:Pd),E1=(DB.two [((s1.getD 0 (U32.mk 0)).v),((s1.getD 1 (U32.mk 0)).v),((s1.getD 2 (U32.mk 0)).v),((s1.getD 3 (U32.mk 0)).v),((s1.getD 4 (U32.mk 0)).v),((s1.getD 5 (U32.mk 0)).v),((s1.getD 6 (U32.mk 0)).v),((s1.getD 7 (U32.mk 0)).v)]).pd→
 Pd.Ok E1→
 ∀(m1:Mem),m1=(DB.two [((s1.getD 0 (U32.mk 0)).v),((s1.getD 1 (U32.mk 0)).v),((s1.getD 2 (U32.mk 0)).v),((s1.getD 3 (U32.mk 0)).v),((s1.getD 4 (U32.mk 0)).v),((s1.getD 5 (U32.mk 0)).v),((s1.getD 6 (U32.mk 0)).v),((s1.getD 7 (U32.mk 0)).v)]).mem→
 Mem.Wf m1→
 ∀(PO:Nat),
 ∀(s3:Fl),s3=Fl.zero→
 Fl.Ok s3→
 True∧
 ∀(s4:Fl),s4=(Fl.norm (Fl.start 4096 0 0 0))→
 Fl.Ok s4→
 (8≤s.length)∧
 True∧
 E.n=m.S∧
 Fl.Rg (Fl.norm s4)∧
 ((7:Int)=1∨(7:Int)=2∨(7:Int)=7)∧
 (DB.eu (E.on m) 5)=0∧
 ∀(m2:Mem),m2=m→
 Mem.Wf m2→
 ∀(Sp:Nat),
 ∀(s5:Fl),s5=Fl.zero→
 Fl.Ok s5→
 True∧
 ∀(s6:Fl),s6=(Fl.norm (DB.svF (E.on m) kk (S8.mk ((s.getD 0 (U32.mk 0)).v) ((s.getD 1 (U32.mk 0)).v) ((s.getD 2 (U32.mk 0)).v) ((s.getD 3 (U32.mk 0)).v) ((s.getD 4 (U32.mk 0)).v) ((s.getD 5 (U32.mk 0)).v) ((s.getD 6 (U32.mk 0)).v) ((s.getD 7 (U32.mk 0)).v)) (Nst.mk none 0 [] [] false) 5 7 (Fl.norm s4)))→
 Fl.Ok s6→
 ∀i:Int,i=0→
 ∃I:Nat→Int→Fl→Prop,(∃m3,I m3 i s4)∧∀(m3:Nat)(aeD:Nat→Value)(i1:Int)(s9:Fl),I m3 i1 s9→
 Fl.Ok s9→
 split (decide (i1<8)) (
  ((0≤i1∧i1<(s2.length:Int))∧i1<(8:Int))∧
  ((0≤(i64.wrap (1+i1))∧(i64.wrap (1+i1))<((Fl.rs s9).length:Int))∧(i64.wrap (1+i1))<(15:Int))∧
  True∧
  ∀(s7:Fl),s7=(Fl.nK s9 (Int.toNat (i64.wrap (1+i1))) (U32.mk ((s2.getD i1.toNat (U32.mk 0)).v)))→
  Fl.Ok s7→
  ∀i2:Int,i2=(i64.wrap (i1+1))→
  ∃m4,m4<m3∧I m4 i2 s7) (
  (8≤s.length)∧
  True∧
  E.n=m2.S∧
  Fl.Rg (Fl.norm s9)∧
  ((1:Int)=1∨(1:Int)=2∨(1:Int)=7)∧
  (DB.eu (E.on m2) 5)=0∧
  ∀(m5:Mem),m5=m2→
  Mem.Wf m5→
  ∀(gv7:Nat),
  ∀(s7:Fl),s7=Fl.zero→
  Fl.Ok s7→
  True∧
  ∀(s8:Fl),s8=(Fl.norm (DB.svF (E.on m2) kk (S8.mk ((s.getD 0 (U32.mk 0)).v) ((s.getD 1 (U32.mk 0)).v) ((s.getD 2 (U32.mk 0)).v) ((s.getD 3 (U32.mk 0)).v) ((s.getD 4 (U32.mk 0)).v) ((s.getD 5 (U32.mk 0)).v) ((s.getD 6 (U32.mk 0)).v) ((s.getD 7 (U32.mk 0)).v)) (Nst.mk none 0 [] [] false) 5 1 (Fl.norm s9)))→
  Fl.Ok s8→
  ((s1.length=8∧s1.length=8)∧0<8)∧
  (s1.length*4≤140737488355328)∧
  ∀(A:Option Addr)(c:Nat),
  ∀(l:List U32),l=s1→
  ((s2.length=8∧s2.length=8)∧0<8)∧
  ((l.length+s2.length)*4≤140737488355328)∧
  ∀(A1:Option Addr)(c1:Nat),
  ∀(l1:List U32),l1=(l++s2)→
  ((s.length=8∧s.length=8)∧0<8)∧
  s.length≤16∧
  l1.length≤1099511627776∧
  (∀x∈l1,0≤x.v∧x.v<4294967296)∧
  ∀(gv8:Nat),
  ∀(QE:List U32),QE=([U32.mk 0,U32.mk 0,U32.mk 0,U32.mk 0,U32.mk 0,U32.mk 0,U32.mk 0,U32.mk 0]:List U32)→
  (QE.length=8)∧
  ∀(OW:List U32),OW=([U32.mk ((cp kk s l1).a),U32.mk ((cp kk s l1).b),U32.mk ((cp kk s l1).c),U32.mk ((cp kk s l1).d),U32.mk ((cp kk s l1).e),U32.mk ((cp kk s l1).f),U32.mk ((cp kk s l1).g),U32.mk ((cp kk s l1).h)]:List U32)→
  (l1.length*4≤140737488355328)∧
  ∀(A2:Option Addr)(c2:Nat),
  ∀(l2:List U32),l2=l1→
  ∀i2:Int,i2=0→
  ∃I1:Nat→Int→Option Addr→Nat→List U32→Prop,(∃m6,I1 m6 i2 A2 c2 l2)∧∀(m6:Nat)(_gv9:Nat→Value)(i3:Int)(A14:Option Addr)(VZ:Nat)(Ox:List U32),I1 m6 i3 A14 VZ Ox→
  split (decide (i3<8)) (
   ∃J:Bool→Prop,(
    ((0≤(i64.wrap (1+i3))∧(i64.wrap (1+i3))<((Fl.rs s6).length:Int))∧(i64.wrap (1+i3))<(15:Int))∧
    ((0≤i3∧i3<(s1.length:Int))∧i3<(8:Int))∧
    split (((Fl.rs s6).getD (Int.toNat (i64.wrap (1+i3))) (U32.mk 0)).v !=((s1.getD i3.toNat (U32.mk 0)).v)) (
     J true) (
     ((0≤(i64.wrap (1+i3))∧(i64.wrap (1+i3))<((Fl.rs s8).length:Int))∧(i64.wrap (1+i3))<(15:Int))∧
     ((0≤i3∧i3<(OW.length:Int))∧i3<(8:Int))∧
     J (((Fl.rs s8).getD (Int.toNat (i64.wrap (1+i3))) (U32.mk 0)).v !=((OW.getD i3.toNat (U32.mk 0)).v))))∧∀(_gv10:Nat→Value)(x98:Bool),J x98→
   split x98 (
    Q ⟨(.bool false),none,[],[],[]⟩) (
    ((0≤i3∧i3<(OW.length:Int))∧i3<(8:Int))∧
    ∀(aeh:Nat),
    ∀(l3:List U32),l3=([U32.mk ((OW.getD i3.toNat (U32.mk 0)).v)]:List U32)→
    ((Ox.length+l3.length)*4≤140737488355328)∧
    ∀(A3:Option Addr)(c3:Nat),
    ∀(l4:List U32),l4=(Ox++l3)→
    ∀i4:Int,i4=(i64.wrap (i3+1))→
    ∃m7,m7<m6∧I1 m7 i4 A3 c3 l4)) (
   ∀o:Int,o=((i64.wrap (((off:Int).tmod 2000)+2000):Int).tmod 2000)→
   ∀(aei:Nat),
   ∀va:Int,va=(u32.wrap (i64.wrap (4096+(i64.wrap (4*o)))))→
   ∀i4:Int,i4=0→
   ∃I2:Nat→Int→Mem→Prop,(∃m8,I2 m8 i4 m5)∧∀(m8:Nat)(_gv11:Nat→Value)(i5:Int)(O6:Mem),I2 m8 i5 O6→
   Mem.Wf O6→
   split (decide (i5<24)) (
    ∀k:Int,k=(i64.wrap (o+i5))→
    split (decide (k<1024)) (
     (0≤i5∧i5<(Ox.length:Int))∧
     (0≤((Ox.getD i5.toNat (U32.mk 0)).v)∧((Ox.getD i5.toNat (U32.mk 0)).v)<4294967296)∧
     ∀(Pn:Mem),Pn=(O6.write true 3 k ((Ox.getD i5.toNat (U32.mk 0)).v))→
     Mem.Wf Pn→
     ∀i6:Int,i6=(i64.wrap (i5+1))→
     ∃m9,m9<m8∧I2 m9 i6 Pn) (
     split (decide (k<2048)) (
      (0≤i5∧i5<(Ox.length:Int))∧
      (0≤((Ox.getD i5.toNat (U32.mk 0)).v)∧((Ox.getD i5.toNat (U32.mk 0)).v)<4294967296)∧
      ∀(Pn:Mem),Pn=(O6.write false 1 (i64.wrap (k - 1024)) ((Ox.getD i5.toNat (U32.mk 0)).v))→
      Mem.Wf Pn→
      ∀i6:Int,i6=(i64.wrap (i5+1))→
      ∃m9,m9<m8∧I2 m9 i6 Pn) (
      ∀i6:Int,i6=(i64.wrap (i5+1))→
      ∃m9,m9<m8∧I2 m9 i6 O6))) (
    (8≤s.length)∧
    ((E.n=O6.S∧
     Fl.Rg (Fl.norm (Fl.start 4096 0 va 0))∧
     ((2:Int)=1∨(2:Int)=2∨(2:Int)=7)∧
     (DB.eu (E.on O6) 5)=0∧
     ∀(Pn:Mem),Pn=O6→
     Mem.Wf Pn→
     ∀(Ul:Nat),
     ∀(Py:Fl),Py=Fl.zero→
     Fl.Ok Py→
     True∧
     ∀(NG:Fl),NG=(Fl.norm (DB.svF (E.on O6) kk (S8.mk ((s.getD 0 (U32.mk 0)).v) ((s.getD 1 (U32.mk 0)).v) ((s.getD 2 (U32.mk 0)).v) ((s.getD 3 (U32.mk 0)).v) ((s.getD 4 (U32.mk 0)).v) ((s.getD 5 (U32.mk 0)).v) ((s.getD 6 (U32.mk 0)).v) ((s.getD 7 (U32.mk 0)).v)) (Nst.mk none 0 [] [] false) 5 2 (Fl.norm (Fl.start 4096 0 va 0))))→
     Fl.Ok NG→
     ∃J:Bool→Prop,(
      J false)∧∀(V3:Nat→Value)(Rm:Bool),J Rm→
     split Rm (
      Q ⟨(.bool false),none,[],[],[]⟩) (
      split (decide ((i64.wrap (o+24))>2048)) (
       ∃J1:Bool→Prop,(
        ((0≤(0:Int)∧(0:Int)<((Fl.rs NG).length:Int))∧(0:Int)<(15:Int))∧
        split (((Fl.rs NG).getD (Int.toNat 0) (U32.mk 0)).v==20) (
         ((0≤(1:Int)∧(1:Int)<((Fl.rs NG).length:Int))∧(1:Int)<(15:Int))∧
         J1 (((Fl.rs NG).getD (Int.toNat 1) (U32.mk 0)).v==va)) (
         J1 false))∧∀(RM:Nat→Value)(Nf:Bool),J1 Nf→
       Q ⟨(.bool Nf),none,[],[],[]⟩) (
       ∃J1:Bool→Prop,(
        ((0≤(0:Int)∧(0:Int)<((Fl.rs NG).length:Int))∧(0:Int)<(15:Int))∧
        split (((Fl.rs NG).getD (Int.toNat 0) (U32.mk 0)).v !=0) (
         J1 true) (
         ((0≤(1:Int)∧(1:Int)<((Fl.rs NG).length:Int))∧(1:Int)<(15:Int))∧
         J1 (((Fl.rs NG).getD (Int.toNat 1) (U32.mk 0)).v !=1)))∧∀(RM:Nat→Value)(Rj:Bool),J1 Rj→
       split Rj (
        Q ⟨(.bool false),none,[],[],[]⟩) (
        ∀b:Int,b=((i64.wrap (((bit:Int).tmod 768)+768):Int).tmod 768)→
        ∀k:Int,k=(i64.wrap (o+(i64.wrap ((b:Int).tdiv 32))))→
        ∃J2:Mem→Prop,(
         split (decide (k<1024)) (
          (0≤(i64.wrap (b.tdiv 32))∧(i64.wrap (b.tdiv 32))<(Ox.length:Int))∧
          dZ (u64.wrap (b.tmod 32)) fun Qh=>
          (0≤(u32.wrap (BitVec.ofInt u32.bits ((Ox.getD (Int.toNat (i64.wrap (b.tdiv 32))) (U32.mk 0)).v) ^^^ BitVec.ofInt u32.bits (u32.wrap ((1:Int)*2 ^ (min Qh u32.bits)))).toNat)∧(u32.wrap (BitVec.ofInt u32.bits ((Ox.getD (Int.toNat (i64.wrap (b.tdiv 32))) (U32.mk 0)).v) ^^^ BitVec.ofInt u32.bits (u32.wrap ((1:Int)*2 ^ (min Qh u32.bits)))).toNat)<4294967296)∧
          ∀(NW:Mem),NW=(Pn.write true 3 k (u32.wrap (BitVec.ofInt u32.bits ((Ox.getD (Int.toNat (i64.wrap ((b:Int).tdiv 32))) (U32.mk 0)).v) ^^^ BitVec.ofInt u32.bits (u32.wrap ((1:Int)*2 ^ (min Qh u32.bits)))).toNat))→
          Mem.Wf NW→
          J2 NW) (
          (0≤(i64.wrap (b.tdiv 32))∧(i64.wrap (b.tdiv 32))<(Ox.length:Int))∧
          dZ (u64.wrap (b.tmod 32)) fun Qg=>
          (0≤(u32.wrap (BitVec.ofInt u32.bits ((Ox.getD (Int.toNat (i64.wrap (b.tdiv 32))) (U32.mk 0)).v) ^^^ BitVec.ofInt u32.bits (u32.wrap ((1:Int)*2 ^ (min Qg u32.bits)))).toNat)∧(u32.wrap (BitVec.ofInt u32.bits ((Ox.getD (Int.toNat (i64.wrap (b.tdiv 32))) (U32.mk 0)).v) ^^^ BitVec.ofInt u32.bits (u32.wrap ((1:Int)*2 ^ (min Qg u32.bits)))).toNat)<4294967296)∧
          ∀(NW:Mem),NW=(Pn.write false 1 (i64.wrap (k - 1024)) (u32.wrap (BitVec.ofInt u32.bits ((Ox.getD (Int.toNat (i64.wrap ((b:Int).tdiv 32))) (U32.mk 0)).v) ^^^ BitVec.ofInt u32.bits (u32.wrap ((1:Int)*2 ^ (min Qg u32.bits)))).toNat))→
          Mem.Wf NW→
          J2 NW))∧∀(V2:Nat→Value)(NM:Mem),J2 NM→
        Mem.Wf NM→
        (8≤s.length)∧
        E.n=NM.S∧
        Fl.Rg (Fl.norm (Fl.start 4096 0 va 0))∧
        ((2:Int)=1∨(2:Int)=2∨(2:Int)=7)∧
        (DB.eu (E.on NM) 5)=0∧
        ∀(NW:Mem),NW=NM→
        Mem.Wf NW→
        True∧
        ∀(NJ:Fl),NJ=(Fl.norm (DB.svF (E.on NM) kk (S8.mk ((s.getD 0 (U32.mk 0)).v) ((s.getD 1 (U32.mk 0)).v) ((s.getD 2 (U32.mk 0)).v) ((s.getD 3 (U32.mk 0)).v) ((s.getD 4 (U32.mk 0)).v) ((s.getD 5 (U32.mk 0)).v) ((s.getD 6 (U32.mk 0)).v) ((s.getD 7 (U32.mk 0)).v)) (Nst.mk none 0 [] [] false) 5 2 (Fl.norm (Fl.start 4096 0 va 0))))→
        Fl.Ok NJ→
        ∀i6:Int,i6=0→
        ∃I3:Nat→Int→Option Addr→Nat→List U32→List U32→Prop,(∃Qi,I3 Qi i6 A1 c1 l1 OW)∧∀(Qi:Nat)(V1:Nat→Value)(i7:Int)(Sq:Option Addr)(Q5:Nat)(NZ:List U32)(M7:List U32),I3 Qi i7 Sq Q5 NZ M7→
        split (decide (i7<8)) (
         (0≤i7∧i7<(NZ.length:Int))∧
         ∀(l3:List U32),l3=(NZ.set i7.toNat (U32.mk (NW.qw (i64.wrap (o+i7)))))→
         (0≤(i64.wrap (8+i7))∧(i64.wrap (8+i7))<(l3.length:Int))∧
         ∀(l4:List U32),l4=(l3.set (Int.toNat (i64.wrap (8+i7))) (U32.mk (NW.qw (i64.wrap ((i64.wrap (o+8))+i7)))))→
         ((0≤i7∧i7<(M7.length:Int))∧i7<(8:Int))∧
         True∧
         ∀(Qx:List U32),Qx=(List.set M7 i7.toNat (U32.mk (NW.qw (i64.wrap ((i64.wrap (o+16))+i7)))))→
         ∀i8:Int,i8=(i64.wrap (i7+1))→
         ∃Vv,Vv<Qi∧I3 Vv i8 Sq Q5 l4 Qx) (
         ((s.length=8∧s.length=8)∧0<8)∧
         (8≤M7.length)∧
         s.length≤16∧
         NZ.length≤1099511627776∧
         (∀x∈NZ,0≤x.v∧x.v<4294967296)∧
         split (bp #[(.int .u32 ((cp kk s NZ).a)),(.int .u32 ((cp kk s NZ).b)),(.int .u32 ((cp kk s NZ).c)),(.int .u32 ((cp kk s NZ).d)),(.int .u32 ((cp kk s NZ).e)),(.int .u32 ((cp kk s NZ).f)),(.int .u32 ((cp kk s NZ).g)),(.int .u32 ((cp kk s NZ).h))] #[(.int .u32 ((M7.getD 0 (U32.mk 0)).v)),(.int .u32 ((M7.getD 1 (U32.mk 0)).v)),(.int .u32 ((M7.getD 2 (U32.mk 0)).v)),(.int .u32 ((M7.getD 3 (U32.mk 0)).v)),(.int .u32 ((M7.getD 4 (U32.mk 0)).v)),(.int .u32 ((M7.getD 5 (U32.mk 0)).v)),(.int .u32 ((M7.getD 6 (U32.mk 0)).v)),(.int .u32 ((M7.getD 7 (U32.mk 0)).v))]) (
          ∃J3:Bool→Prop,(
           ((0≤(0:Int)∧(0:Int)<((Fl.rs NJ).length:Int))∧(0:Int)<(15:Int))∧
           split (((Fl.rs NJ).getD (Int.toNat 0) (U32.mk 0)).v==0) (
            ((0≤(1:Int)∧(1:Int)<((Fl.rs NJ).length:Int))∧(1:Int)<(15:Int))∧
            J3 (((Fl.rs NJ).getD (Int.toNat 1) (U32.mk 0)).v==1)) (
            J3 false))∧∀(RL:Nat→Value)(Nf:Bool),J3 Nf→
          Q ⟨(.bool Nf),none,[],[],[]⟩) (
          ∃J3:Bool→Prop,(
           ((0≤(0:Int)∧(0:Int)<((Fl.rs NJ).length:Int))∧(0:Int)<(15:Int))∧
           split (((Fl.rs NJ).getD (Int.toNat 0) (U32.mk 0)).v==0) (
            ((0≤(1:Int)∧(1:Int)<((Fl.rs NJ).length:Int))∧(1:Int)<(15:Int))∧
            J3 (((Fl.rs NJ).getD (Int.toNat 1) (U32.mk 0)).v==0)) (
            J3 false))∧∀(RL:Nat→Value)(Nf:Bool),J3 Nf→
          Q ⟨(.bool Nf),none,[],[],[]⟩))))))∧
     (∀(Ul:Nat),
      ∀(Py:Fl),Py=Fl.zero→
      Fl.Ok Py→
      E.n=O6.S∧
      Fl.Rg (Fl.norm (Fl.start 4096 0 va 0))∧
      ((2:Int)=1∨(2:Int)=2∨(2:Int)=7)∧
      (DB.eu (E.on O6) 5)=0∧
      ∀(Pn:Mem),Pn=O6→
      Mem.Wf Pn→
      True∧
      ∀(NG:Fl),NG=(Fl.norm (DB.svF (E.on O6) kk (S8.mk ((s.getD 0 (U32.mk 0)).v) ((s.getD 1 (U32.mk 0)).v) ((s.getD 2 (U32.mk 0)).v) ((s.getD 3 (U32.mk 0)).v) ((s.getD 4 (U32.mk 0)).v) ((s.getD 5 (U32.mk 0)).v) ((s.getD 6 (U32.mk 0)).v) ((s.getD 7 (U32.mk 0)).v)) (Nst.mk none 0 [] [] false) 5 2 (Fl.norm (Fl.start 4096 0 va 0))))→
      Fl.Ok NG→
      ∃J:Bool→Prop,(
       J false)∧∀(V3:Nat→Value)(Rm:Bool),J Rm→
      split Rm (
       Q ⟨(.bool false),none,[],[],[]⟩) (
       split (decide ((i64.wrap (o+24))>2048)) (
        ∃J1:Bool→Prop,(
         ((0≤(0:Int)∧(0:Int)<((Fl.rs NG).length:Int))∧(0:Int)<(15:Int))∧
         split (((Fl.rs NG).getD (Int.toNat 0) (U32.mk 0)).v==20) (
          ((0≤(1:Int)∧(1:Int)<((Fl.rs NG).length:Int))∧(1:Int)<(15:Int))∧
          J1 (((Fl.rs NG).getD (Int.toNat 1) (U32.mk 0)).v==va)) (
          J1 false))∧∀(RM:Nat→Value)(Nf:Bool),J1 Nf→
        Q ⟨(.bool Nf),none,[],[],[]⟩) (
        ∃J1:Bool→Prop,(
         ((0≤(0:Int)∧(0:Int)<((Fl.rs NG).length:Int))∧(0:Int)<(15:Int))∧
         split (((Fl.rs NG).getD (Int.toNat 0) (U32.mk 0)).v !=0) (
          J1 true) (
          ((0≤(1:Int)∧(1:Int)<((Fl.rs NG).length:Int))∧(1:Int)<(15:Int))∧
          J1 (((Fl.rs NG).getD (Int.toNat 1) (U32.mk 0)).v !=1)))∧∀(RM:Nat→Value)(Rj:Bool),J1 Rj→
        split Rj (
         Q ⟨(.bool false),none,[],[],[]⟩) (
         ∀b:Int,b=((i64.wrap (((bit:Int).tmod 768)+768):Int).tmod 768)→
         ∀k:Int,k=(i64.wrap (o+(i64.wrap ((b:Int).tdiv 32))))→
         ∃J2:Mem→Prop,(
          split (decide (k<1024)) (
           (0≤(i64.wrap (b.tdiv 32))∧(i64.wrap (b.tdiv 32))<(Ox.length:Int))∧
           dZ (u64.wrap (b.tmod 32)) fun Qh=>
           (0≤(u32.wrap (BitVec.ofInt u32.bits ((Ox.getD (Int.toNat (i64.wrap (b.tdiv 32))) (U32.mk 0)).v) ^^^ BitVec.ofInt u32.bits (u32.wrap ((1:Int)*2 ^ (min Qh u32.bits)))).toNat)∧(u32.wrap (BitVec.ofInt u32.bits ((Ox.getD (Int.toNat (i64.wrap (b.tdiv 32))) (U32.mk 0)).v) ^^^ BitVec.ofInt u32.bits (u32.wrap ((1:Int)*2 ^ (min Qh u32.bits)))).toNat)<4294967296)∧
           ∀(NW:Mem),NW=(Pn.write true 3 k (u32.wrap (BitVec.ofInt u32.bits ((Ox.getD (Int.toNat (i64.wrap ((b:Int).tdiv 32))) (U32.mk 0)).v) ^^^ BitVec.ofInt u32.bits (u32.wrap ((1:Int)*2 ^ (min Qh u32.bits)))).toNat))→
           Mem.Wf NW→
           J2 NW) (
           (0≤(i64.wrap (b.tdiv 32))∧(i64.wrap (b.tdiv 32))<(Ox.length:Int))∧
           dZ (u64.wrap (b.tmod 32)) fun Qg=>
           (0≤(u32.wrap (BitVec.ofInt u32.bits ((Ox.getD (Int.toNat (i64.wrap (b.tdiv 32))) (U32.mk 0)).v) ^^^ BitVec.ofInt u32.bits (u32.wrap ((1:Int)*2 ^ (min Qg u32.bits)))).toNat)∧(u32.wrap (BitVec.ofInt u32.bits ((Ox.getD (Int.toNat (i64.wrap (b.tdiv 32))) (U32.mk 0)).v) ^^^ BitVec.ofInt u32.bits (u32.wrap ((1:Int)*2 ^ (min Qg u32.bits)))).toNat)<4294967296)∧
           ∀(NW:Mem),NW=(Pn.write false 1 (i64.wrap (k - 1024)) (u32.wrap (BitVec.ofInt u32.bits ((Ox.getD (Int.toNat (i64.wrap ((b:Int).tdiv 32))) (U32.mk 0)).v) ^^^ BitVec.ofInt u32.bits (u32.wrap ((1:Int)*2 ^ (min Qg u32.bits)))).toNat))→
           Mem.Wf NW→
           J2 NW))∧∀(V2:Nat→Value)(NM:Mem),J2 NM→
         Mem.Wf NM→
         (8≤s.length)∧
         E.n=NM.S∧
         Fl.Rg (Fl.norm (Fl.start 4096 0 va 0))∧
         ((2:Int)=1∨(2:Int)=2∨(2:Int)=7)∧
         (DB.eu (E.on NM) 5)=0∧
         ∀(NW:Mem),NW=NM→
         Mem.Wf NW→
         True∧
         ∀(NJ:Fl),NJ=(Fl.norm (DB.svF (E.on NM) kk (S8.mk ((s.getD 0 (U32.mk 0)).v) ((s.getD 1 (U32.mk 0)).v) ((s.getD 2 (U32.mk 0)).v) ((s.getD 3 (U32.mk 0)).v) ((s.getD 4 (U32.mk 0)).v) ((s.getD 5 (U32.mk 0)).v) ((s.getD 6 (U32.mk 0)).v) ((s.getD 7 (U32.mk 0)).v)) (Nst.mk none 0 [] [] false) 5 2 (Fl.norm (Fl.start 4096 0 va 0))))→
         Fl.Ok NJ→
         ∀i6:Int,i6=0→
         ∃I3:Nat→Int→Option Addr→Nat→List U32→List U32→Prop,(∃Qi,I3 Qi i6 A1 c1 l1 OW)∧∀(Qi:Nat)(V1:Nat→Value)(i7:Int)(Sq:Option Addr)(Q5:Nat)(NZ:List U32)(M7:List U32),I3 Qi i7 Sq Q5 NZ M7→
         split (decide (i7<8)) (
          (0≤i7∧i7<(NZ.length:Int))∧
          ∀(l3:List U32),l3=(NZ.set i7.toNat (U32.mk (NW.qw (i64.wrap (o+i7)))))→
          (0≤(i64.wrap (8+i7))∧(i64.wrap (8+i7))<(l3.length:Int))∧
          ∀(l4:List U32),l4=(l3.set (Int.toNat (i64.wrap (8+i7))) (U32.mk (NW.qw (i64.wrap ((i64.wrap (o+8))+i7)))))→
          ((0≤i7∧i7<(M7.length:Int))∧i7<(8:Int))∧
          True∧
          ∀(Qx:List U32),Qx=(List.set M7 i7.toNat (U32.mk (NW.qw (i64.wrap ((i64.wrap (o+16))+i7)))))→
          ∀i8:Int,i8=(i64.wrap (i7+1))→
          ∃Vv,Vv<Qi∧I3 Vv i8 Sq Q5 l4 Qx) (
          ((s.length=8∧s.length=8)∧0<8)∧
          (8≤M7.length)∧
          s.length≤16∧
          NZ.length≤1099511627776∧
          (∀x∈NZ,0≤x.v∧x.v<4294967296)∧
          split (bp #[(.int .u32 ((cp kk s NZ).a)),(.int .u32 ((cp kk s NZ).b)),(.int .u32 ((cp kk s NZ).c)),(.int .u32 ((cp kk s NZ).d)),(.int .u32 ((cp kk s NZ).e)),(.int .u32 ((cp kk s NZ).f)),(.int .u32 ((cp kk s NZ).g)),(.int .u32 ((cp kk s NZ).h))] #[(.int .u32 ((M7.getD 0 (U32.mk 0)).v)),(.int .u32 ((M7.getD 1 (U32.mk 0)).v)),(.int .u32 ((M7.getD 2 (U32.mk 0)).v)),(.int .u32 ((M7.getD 3 (U32.mk 0)).v)),(.int .u32 ((M7.getD 4 (U32.mk 0)).v)),(.int .u32 ((M7.getD 5 (U32.mk 0)).v)),(.int .u32 ((M7.getD 6 (U32.mk 0)).v)),(.int .u32 ((M7.getD 7 (U32.mk 0)).v))]) (
           ∃J3:Bool→Prop,(
            ((0≤(0:Int)∧(0:Int)<((Fl.rs NJ).length:Int))∧(0:Int)<(15:Int))∧
            split (((Fl.rs NJ).getD (Int.toNat 0) (U32.mk 0)).v==0) (
             ((0≤(1:Int)∧(1:Int)<((Fl.rs NJ).length:Int))∧(1:Int)<(15:Int))∧
             J3 (((Fl.rs NJ).getD (Int.toNat 1) (U32.mk 0)).v==1)) (
             J3 false))∧∀(RL:Nat→Value)(Nf:Bool),J3 Nf→
           Q ⟨(.bool Nf),none,[],[],[]⟩) (
           ∃J3:Bool→Prop,(
            ((0≤(0:Int)∧(0:Int)<((Fl.rs NJ).length:Int))∧(0:Int)<(15:Int))∧
            split (((Fl.rs NJ).getD (Int.toNat 0) (U32.mk 0)).v==0) (
             ((0≤(1:Int)∧(1:Int)<((Fl.rs NJ).length:Int))∧(1:Int)<(15:Int))∧
             J3 (((Fl.rs NJ).getD (Int.toNat 1) (U32.mk 0)).v==0)) (
             J3 false))∧∀(RL:Nat→Value)(Nf:Bool),J3 Nf→
           Q ⟨(.bool Nf),none,[],[],[]⟩)))))))∧
    (∀(Ul:Nat),
     ∀(Py:Fl),Py=Fl.zero→
     Fl.Ok Py→
     E.n=O6.S∧
     Fl.Rg (Fl.norm (Fl.start 4096 0 va 0))∧
     ((2:Int)=1∨(2:Int)=2∨(2:Int)=7)∧
     (DB.eu (E.on O6) 5)=0∧
     ∀(Pn:Mem),Pn=O6→
     Mem.Wf Pn→
     True∧
     ∀(NG:Fl),NG=(Fl.norm (DB.svF (E.on O6) kk (S8.mk ((s.getD 0 (U32.mk 0)).v) ((s.getD 1 (U32.mk 0)).v) ((s.getD 2 (U32.mk 0)).v) ((s.getD 3 (U32.mk 0)).v) ((s.getD 4 (U32.mk 0)).v) ((s.getD 5 (U32.mk 0)).v) ((s.getD 6 (U32.mk 0)).v) ((s.getD 7 (U32.mk 0)).v)) (Nst.mk none 0 [] [] false) 5 2 (Fl.norm (Fl.start 4096 0 va 0))))→
     Fl.Ok NG→
     ∃J:Bool→Prop,(
      J false)∧∀(V3:Nat→Value)(Rm:Bool),J Rm→
     split Rm (
      Q ⟨(.bool false),none,[],[],[]⟩) (
      split (decide ((i64.wrap (o+24))>2048)) (
       ∃J1:Bool→Prop,(
        ((0≤(0:Int)∧(0:Int)<((Fl.rs NG).length:Int))∧(0:Int)<(15:Int))∧
        split (((Fl.rs NG).getD (Int.toNat 0) (U32.mk 0)).v==20) (
         ((0≤(1:Int)∧(1:Int)<((Fl.rs NG).length:Int))∧(1:Int)<(15:Int))∧
         J1 (((Fl.rs NG).getD (Int.toNat 1) (U32.mk 0)).v==va)) (
         J1 false))∧∀(RM:Nat→Value)(Nf:Bool),J1 Nf→
       Q ⟨(.bool Nf),none,[],[],[]⟩) (
       ∃J1:Bool→Prop,(
        ((0≤(0:Int)∧(0:Int)<((Fl.rs NG).length:Int))∧(0:Int)<(15:Int))∧
        split (((Fl.rs NG).getD (Int.toNat 0) (U32.mk 0)).v !=0) (
         J1 true) (
         ((0≤(1:Int)∧(1:Int)<((Fl.rs NG).length:Int))∧(1:Int)<(15:Int))∧
         J1 (((Fl.rs NG).getD (Int.toNat 1) (U32.mk 0)).v !=1)))∧∀(RM:Nat→Value)(Rj:Bool),J1 Rj→
       split Rj (
        Q ⟨(.bool false),none,[],[],[]⟩) (
        ∀b:Int,b=((i64.wrap (((bit:Int).tmod 768)+768):Int).tmod 768)→
        ∀k:Int,k=(i64.wrap (o+(i64.wrap ((b:Int).tdiv 32))))→
        ∃J2:Mem→Prop,(
         split (decide (k<1024)) (
          (0≤(i64.wrap (b.tdiv 32))∧(i64.wrap (b.tdiv 32))<(Ox.length:Int))∧
          dZ (u64.wrap (b.tmod 32)) fun Qh=>
          (0≤(u32.wrap (BitVec.ofInt u32.bits ((Ox.getD (Int.toNat (i64.wrap (b.tdiv 32))) (U32.mk 0)).v) ^^^ BitVec.ofInt u32.bits (u32.wrap ((1:Int)*2 ^ (min Qh u32.bits)))).toNat)∧(u32.wrap (BitVec.ofInt u32.bits ((Ox.getD (Int.toNat (i64.wrap (b.tdiv 32))) (U32.mk 0)).v) ^^^ BitVec.ofInt u32.bits (u32.wrap ((1:Int)*2 ^ (min Qh u32.bits)))).toNat)<4294967296)∧
          ∀(NW:Mem),NW=(Pn.write true 3 k (u32.wrap (BitVec.ofInt u32.bits ((Ox.getD (Int.toNat (i64.wrap ((b:Int).tdiv 32))) (U32.mk 0)).v) ^^^ BitVec.ofInt u32.bits (u32.wrap ((1:Int)*2 ^ (min Qh u32.bits)))).toNat))→
          Mem.Wf NW→
          J2 NW) (
          (0≤(i64.wrap (b.tdiv 32))∧(i64.wrap (b.tdiv 32))<(Ox.length:Int))∧
          dZ (u64.wrap (b.tmod 32)) fun Qg=>
          (0≤(u32.wrap (BitVec.ofInt u32.bits ((Ox.getD (Int.toNat (i64.wrap (b.tdiv 32))) (U32.mk 0)).v) ^^^ BitVec.ofInt u32.bits (u32.wrap ((1:Int)*2 ^ (min Qg u32.bits)))).toNat)∧(u32.wrap (BitVec.ofInt u32.bits ((Ox.getD (Int.toNat (i64.wrap (b.tdiv 32))) (U32.mk 0)).v) ^^^ BitVec.ofInt u32.bits (u32.wrap ((1:Int)*2 ^ (min Qg u32.bits)))).toNat)<4294967296)∧
          ∀(NW:Mem),NW=(Pn.write false 1 (i64.wrap (k - 1024)) (u32.wrap (BitVec.ofInt u32.bits ((Ox.getD (Int.toNat (i64.wrap ((b:Int).tdiv 32))) (U32.mk 0)).v) ^^^ BitVec.ofInt u32.bits (u32.wrap ((1:Int)*2 ^ (min Qg u32.bits)))).toNat))→
          Mem.Wf NW→
          J2 NW))∧∀(V2:Nat→Value)(NM:Mem),J2 NM→
        Mem.Wf NM→
        (8≤s.length)∧
        E.n=NM.S∧
        Fl.Rg (Fl.norm (Fl.start 4096 0 va 0))∧
        ((2:Int)=1∨(2:Int)=2∨(2:Int)=7)∧
        (DB.eu (E.on NM) 5)=0∧
        ∀(NW:Mem),NW=NM→
        Mem.Wf NW→
        True∧
        ∀(NJ:Fl),NJ=(Fl.norm (DB.svF (E.on NM) kk (S8.mk ((s.getD 0 (U32.mk 0)).v) ((s.getD 1 (U32.mk 0)).v) ((s.getD 2 (U32.mk 0)).v) ((s.getD 3 (U32.mk 0)).v) ((s.getD 4 (U32.mk 0)).v) ((s.getD 5 (U32.mk 0)).v) ((s.getD 6 (U32.mk 0)).v) ((s.getD 7 (U32.mk 0)).v)) (Nst.mk none 0 [] [] false) 5 2 (Fl.norm (Fl.start 4096 0 va 0))))→
        Fl.Ok NJ→
        ∀i6:Int,i6=0→
        ∃I3:Nat→Int→Option Addr→Nat→List U32→List U32→Prop,(∃Qi,I3 Qi i6 A1 c1 l1 OW)∧∀(Qi:Nat)(V1:Nat→Value)(i7:Int)(Sq:Option Addr)(Q5:Nat)(NZ:List U32)(M7:List U32),I3 Qi i7 Sq Q5 NZ M7→
        split (decide (i7<8)) (
         (0≤i7∧i7<(NZ.length:Int))∧
         ∀(l3:List U32),l3=(NZ.set i7.toNat (U32.mk (NW.qw (i64.wrap (o+i7)))))→
         (0≤(i64.wrap (8+i7))∧(i64.wrap (8+i7))<(l3.length:Int))∧
         ∀(l4:List U32),l4=(l3.set (Int.toNat (i64.wrap (8+i7))) (U32.mk (NW.qw (i64.wrap ((i64.wrap (o+8))+i7)))))→
         ((0≤i7∧i7<(M7.length:Int))∧i7<(8:Int))∧
         True∧
         ∀(Qx:List U32),Qx=(List.set M7 i7.toNat (U32.mk (NW.qw (i64.wrap ((i64.wrap (o+16))+i7)))))→
         ∀i8:Int,i8=(i64.wrap (i7+1))→
         ∃Vv,Vv<Qi∧I3 Vv i8 Sq Q5 l4 Qx) (
         ((s.length=8∧s.length=8)∧0<8)∧
         (8≤M7.length)∧
         s.length≤16∧
         NZ.length≤1099511627776∧
         (∀x∈NZ,0≤x.v∧x.v<4294967296)∧
         split (bp #[(.int .u32 ((cp kk s NZ).a)),(.int .u32 ((cp kk s NZ).b)),(.int .u32 ((cp kk s NZ).c)),(.int .u32 ((cp kk s NZ).d)),(.int .u32 ((cp kk s NZ).e)),(.int .u32 ((cp kk s NZ).f)),(.int .u32 ((cp kk s NZ).g)),(.int .u32 ((cp kk s NZ).h))] #[(.int .u32 ((M7.getD 0 (U32.mk 0)).v)),(.int .u32 ((M7.getD 1 (U32.mk 0)).v)),(.int .u32 ((M7.getD 2 (U32.mk 0)).v)),(.int .u32 ((M7.getD 3 (U32.mk 0)).v)),(.int .u32 ((M7.getD 4 (U32.mk 0)).v)),(.int .u32 ((M7.getD 5 (U32.mk 0)).v)),(.int .u32 ((M7.getD 6 (U32.mk 0)).v)),(.int .u32 ((M7.getD 7 (U32.mk 0)).v))]) (
          ∃J3:Bool→Prop,(
           ((0≤(0:Int)∧(0:Int)<((Fl.rs NJ).length:Int))∧(0:Int)<(15:Int))∧
           split (((Fl.rs NJ).getD (Int.toNat 0) (U32.mk 0)).v==0) (
            ((0≤(1:Int)∧(1:Int)<((Fl.rs NJ).length:Int))∧(1:Int)<(15:Int))∧
            J3 (((Fl.rs NJ).getD (Int.toNat 1) (U32.mk 0)).v==1)) (
            J3 false))∧∀(RL:Nat→Value)(Nf:Bool),J3 Nf→
          Q ⟨(.bool Nf),none,[],[],[]⟩) (
          ∃J3:Bool→Prop,(
           ((0≤(0:Int)∧(0:Int)<((Fl.rs NJ).length:Int))∧(0:Int)<(15:Int))∧
           split (((Fl.rs NJ).getD (Int.toNat 0) (U32.mk 0)).v==0) (
            ((0≤(1:Int)∧(1:Int)<((Fl.rs NJ).length:Int))∧(1:Int)<(15:Int))∧
            J3 (((Fl.rs NJ).getD (Int.toNat 1) (U32.mk 0)).v==0)) (
            J3 false))∧∀(RL:Nat→Value)(Nf:Bool),J3 Nf→
          Q ⟨(.bool Nf),none,[],[],[]⟩)))))))))
theorem rI:Vc2 Un prog (aU [(17,kH),(18,kK),(19,jh),(20,vq),(21,cT),(22,kG),(23,jf)]) [15,18,20,21,22,24,25,26,29,30,31] Tryz.f4 (.r' (.r' (.r' (.r' (.r' (.two (.r' (.two (.node [] (some ⟨[(15,(.one (.int .i64)))],[],[15]++upN 45 11,[(9,(.ob 10))]⟩) [] [] .leaf .leaf) .leaf)) (.r' (.r' (.r' (.r' (.r' (.r' (.r' (.two (.r' (.two (.node [] (some ⟨[(21,(.one (.int .i64)))],[(20,(.p (.sl 14 0)))],[10,20,21]++upN 75 30,[(14,(.lst 1))]⟩) [] [] (.r' (.two (.two (.two (.two (.node [] (some ⟨[(98,(.one .bool))],[],upN 79 20,[]⟩) [] [] .leaf .leaf) .leaf) .leaf) .leaf) .leaf)) .leaf) .leaf)) (.r' (.r' (.r' (.two (.r' (.two (.node [] (some ⟨[(25,(.one (.int .i64)))],[],[25,26]++upN 114 34,[(6,(.ob 0))]⟩) [] [] (.r' (.two (.two (.r' (.r' (.two (.node [] none [] [(3,[4]),(4,[15]),(9,[14])] .leaf .leaf) (.r' (.two (.node [] none [] [(3,[4]),(10,[14])] .leaf .leaf) .leaf))))) .leaf) .leaf)) .leaf) .leaf)) (.two (.node [] none [] [(1,[1])] .leaf .leaf) (.two (.two (.node [] (some ⟨[(165,(.one .bool))],[],upN 156 10,[]⟩) [] [] .leaf .leaf) .leaf) (.two (.r' (.two (.two (.node [] (some ⟨[(10,(.one .bool))],[],[10]++upN 169 11,[]⟩) [] [] .leaf .leaf) .leaf) .leaf)) (.two (.two (.node [] (some ⟨[(189,(.one .bool))],[],upN 180 10,[]⟩) [] [] .leaf .leaf) .leaf) (.r' (.r' (.two (.r' (.node [] (some ⟨[],[],upN 200 35,[(6,(.ob 0))]⟩) [] [] (.node [] none [] [(3,[4]),(4,[15]),(10,[14])] .leaf .leaf) (.node [] none [] [(3,[4]),(11,[14])] .leaf .leaf))) (.two (.node [] none [] [(1,[1])] .leaf .leaf) (.two (.r' (.two (.node [] (some ⟨[(31,(.one (.int .i64)))],[(18,(.p (.sl 12 0)))],[31]++upN 243 30,[(12,(.lst 1)),(13,(.ob 7))]⟩) [] [] .leaf .leaf) .leaf)) (.r' (.two (.two (.node [] none [] [(3,[13])] .leaf .leaf) .leaf) (.two (.node [] (some ⟨[(10,(.one .bool))],[],[10]++upN 278 14,[]⟩) [] [] .leaf .leaf) .leaf)))))))))))))))))))))))))))))) [] g6=(∀k0 k1 k2 k3 k4 k5 k6 k7 q0 q1 q2 q3 q4 q5 q6 q7 d0 d1 d2 d3 d4 d5 d6 d7 off bit rk (kk:List Int),∀Q,(g6.body k0 k1 k2 k3 k4 k5 k6 k7 q0 q1 q2 q3 q4 q5 q6 q7 d0 d1 d2 d3 d4 d5 d6 d7 off bit rk kk Q)→rH k0 k1 k2 k3 k4 k5 k6 k7 q0 q1 q2 q3 q4 q5 q6 q7 d0 d1 d2 d3 d4 d5 d6 d7 off bit rk kk Q):=by kernel_rfl
theorem rG:LV Un prog 4 g6:=verify Tryz.func4 aj (tb:= [(17,kH),(18,kK),(19,jh),(20,vq),(21,cT),(22,kG),(23,jf)]) ⟨Hg,Hq,Ec,Jt,kI,yC,D6,trivial⟩ (by kernel_rfl) (rI.mpr fun k0 k1 k2 k3 k4 k5 k6 k7 q0 q1 q2 q3 q4 q5 q6 q7 d0 d1 d2 d3 d4 d5 d6 d7 off bit rk kk Q h=>by
 obtain⟨NF,Nz,NN,h⟩:=h
 exact fun gv s OM=>(by(have hl_s:s.length=8:=by rw [OM];rfl);exact fun Nd s1 NA=>(by(have hl_s1:s1.length=8:=by rw [NA];rfl);exact fun NC s2 PH=>(by(have hl_s2:s2.length=8:=by rw [PH];rfl);exact ak (by omega) fun e1=>ak (by rw [NA];exact fun x hx=>cC Nz (U32.mk x) (by simpa [s8L]using hx)) fun e2 Nh rP rN rQ rM E h_E f3 m h_m f4=>(by have hq:DB.Qs E [((s1.getD 0 (U32.mk 0)).v),((s1.getD 1 (U32.mk 0)).v),((s1.getD 2 (U32.mk 0)).v),((s1.getD 3 (U32.mk 0)).v),((s1.getD 4 (U32.mk 0)).v),((s1.getD 5 (U32.mk 0)).v),((s1.getD 6 (U32.mk 0)).v),((s1.getD 7 (U32.mk 0)).v)] m:=DB.KD rfl h_E h_m;(have Sl:m.aM 0=(S8.mk q0 q1 q2 q3 q4 q5 q6 q7):=by rw [hq.aM,NA];rfl);(have Oj:(S8.mk ((s.getD 0 (U32.mk 0)).v) ((s.getD 1 (U32.mk 0)).v) ((s.getD 2 (U32.mk 0)).v) ((s.getD 3 (U32.mk 0)).v) ((s.getD 4 (U32.mk 0)).v) ((s.getD 5 (U32.mk 0)).v) ((s.getD 6 (U32.mk 0)).v) ((s.getD 7 (U32.mk 0)).v))=(S8.mk k0 k1 k2 k3 k4 k5 k6 k7):=by rw [OM];rfl);exact fun E1 NX f5 m1 Nq f6 PO s3 QA f7=>ak trivial fun _ s4 O1 f9=>ak (by omega) fun e10=>ak trivial fun _=>ak (by exact hq.n) fun e12=>ak (by rw [O1];exact(fp (by decide) (by decide) (by decide)).norm) fun e13=>ak (by decide) fun e14=>ak (by exact hq.err) fun e15 m2 Q1 f16 Sp s5 Qo f17=>ak trivial fun _ s6 U6 f19=>(by(have Ls6:(Fl.rs s6).length=15:=by assumption);(have h6:s6=Fl.norm ((Fl.lay (Fl.norm s4) (S8.mk q0 q1 q2 q3 q4 q5 q6 q7)).r0 0):=by rw [U6,hq.f7,Sl]);exact allEq<| ⟨fun m3 i1 s9=>(m3=(8 - i1).toNat)∧(0≤i1∧i1≤8)∧(s9=Fl.xf s4 s2 i1.toNat),⟨_,rfl,(by omega),(by rfl)⟩,fun m3 _ i1 s9 ⟨hm,hi,hs9⟩=>fun f20=>ax (fun cd1=>ak (by omega) fun e21=>ak (by(have q1:=aq (x:=1+i1) (by omega));(have q2:(Fl.rs s9).length=15:= ‹_›);omega) fun e22=>ak trivial fun _ s7 abP f24=>allEq<| ⟨_,(by(have h8:=aq (x:=i1+1) (by omega));omega),rfl,(by(have h8:=aq (x:=i1+1) (by omega));omega),(by rw [abP,hs9];exact zR _ _ ⟨hi.1,by omega⟩)⟩) fun cd1=>ak (by omega) fun e25=>ak trivial fun _=>ak (by(rw [Q1];exact hq.n)) fun e27=>ak (by rw [hs9,show i1.toNat=8 by omega,O1,BP,PH];exact Li (by decide) rfl NN) fun e28=>ak (by decide) fun e29=>ak (by(rw [Q1];exact hq.err)) fun e30 m5 WD f31 gv7 s7 abP f32=>ak trivial fun _ s8 ad0 f34=>(by(have Ls8:(Fl.rs s8).length=15:=by assumption);(have hf8:Fl.norm s9=Fl.lay (Fl.start 4096 0 0 0) (S8.mk d0 d1 d2 d3 d4 d5 d6 d7):=by rw [hs9,show i1.toNat=8 by omega,O1,BP,PH];rfl);(have h8:s8=Fl.norm ((Fl.lay (Fl.norm s9) (bO kk (S8.mk k0 k1 k2 k3 k4 k5 k6 k7) (S8.mk q0 q1 q2 q3 q4 q5 q6 q7) (S8.mk d0 d1 d2 d3 d4 d5 d6 d7))).r0 0):=by rw [ad0,Oj,Q1,hq.f1,Sl,hf8];rfl);exact ak (by omega) fun e35=>ak (by omega) fun e36 A c l P7=>ak (by omega) fun e37=>ak (by rw [P7];omega) fun e38 A1 c1 l1 OH=>(by(have Pz:l1=s8L (S8.mk q0 q1 q2 q3 q4 q5 q6 q7)++s8L (S8.mk d0 d1 d2 d3 d4 d5 d6 d7):=by rw [OH,P7,NA,PH];rfl);(have l1l:l1.length=16:=by rw [Pz];rfl);exact ak (by omega) fun e39=>ak (by omega) fun e40=>ak (by omega) fun e41=>ak (by rw [Pz];intro x hx;rcases List.mem_append.1 hx with hx | hx;exact cC Nz x hx;exact cC NN x hx) fun e42 gv8 QE abR=>(by(have adA:QE.length=8:=by rw [abR];rfl);exact ak (by omega) fun e43 OW abQ=>(by(have Xf:OW=s8L (bO kk (S8.mk k0 k1 k2 k3 k4 k5 k6 k7) (S8.mk q0 q1 q2 q3 q4 q5 q6 q7) (S8.mk d0 d1 d2 d3 d4 d5 d6 d7)):=by rw [abQ,Pz,OM];rfl);exact ak (by omega) fun e44 A2 c2 l2 P3=>allEq<| ⟨fun m6 i3 A14 VZ Ox=>(m6=(8 - i3).toNat)∧(0≤i3∧i3≤8)∧(Ox=l1++OW.take i3.toNat),⟨_,rfl,(by omega),(by rw [P3];exact(List.append_nil _).symm)⟩,fun m6 _ i3 A14 VZ Ox ⟨hm,hi3,Wv⟩=>(by(have r6:=fun h:i3<8=>(by rw [h6,BF ⟨hi3.1,h⟩,NA];rfl:((Fl.rs s6).getD (Int.toNat (i64.wrap (1+i3))) (U32.mk 0)).v=(s1.getD i3.toNat (U32.mk 0)).v));(have r8:=fun h:i3<8=>(by rw [h8,BF ⟨hi3.1,h⟩,Xf]:((Fl.rs s8).getD (Int.toNat (i64.wrap (1+i3))) (U32.mk 0)).v=(OW.getD i3.toNat (U32.mk 0)).v));(have l11:OW.length=8:=by rw [Xf];rfl);(have l14l:Ox.length=16+i3.toNat:=by rw [Wv,List.length_append,List.length_take,l1l,l11];omega);exact ax (fun cd2=>bS (((((Fl.rs s6).getD (Int.toNat (i64.wrap (1+i3))) (U32.mk 0)).v:Int) !=((s1.getD i3.toNat (U32.mk 0)).v)) || ((((Fl.rs s8).getD (Int.toNat (i64.wrap (1+i3))) (U32.mk 0)).v:Int) !=((OW.getD i3.toNat (U32.mk 0)).v))) (ak (by(have q1:=aq (x:=1+i3) (by omega));omega) fun e45=>ak (by omega) fun e46=>ao (fun cd3=>(by grind)) fun cd3=>ak (by(have q1:=aq (x:=1+i3) (by omega));omega) fun e47=>ak (by omega) fun e48=>(by grind))<| aW (fun cd4=>bG h (by(exfalso;rw [r6 (by omega),r8 (by omega)]at cd4;simp at cd4))) fun cd4=>ak (by omega) fun e49 aeh l3 PI=>ak (by(have q:l3.length=1:=by rw [PI];rfl);omega) fun e50 A3 c3 l4 R2=>allEq<| ⟨_,(by(have h8:=aq (x:=i3+1) (by omega));omega),rfl,(by(have h8:=aq (x:=i3+1) (by omega));omega),(by(have h8:=aq (x:=i3+1) (by omega));rw [R2,PI,Wv,h8,show(i3+1).toNat=i3.toNat+1 by omega,List.take_add_one,List.append_assoc,List.getElem?_eq_getElem (by omega),List.getD_eq_getElem?_getD,List.getElem?_eq_getElem (by omega)];rfl)⟩) fun cd2 o h_o aei va P2=>allEq<| ⟨fun m8 i5 O6=>(m8=(24 - i5).toNat)∧(0≤i5∧i5≤24)∧(DB.Qs E [((s1.getD 0 (U32.mk 0)).v),((s1.getD 1 (U32.mk 0)).v),((s1.getD 2 (U32.mk 0)).v),((s1.getD 3 (U32.mk 0)).v),((s1.getD 4 (U32.mk 0)).v),((s1.getD 5 (U32.mk 0)).v),((s1.getD 6 (U32.mk 0)).v),((s1.getD 7 (U32.mk 0)).v)] O6)∧(∀j:Int,0≤j→j<i5→O6.qw (o+j)=(Ox.getD j.toNat (U32.mk 0)).v),⟨_,rfl,(by omega),(by rw [WD,Q1];exact hq),(by intro j;omega)⟩,fun m8 _ i5 O6 ⟨hm,hi5,O5,hw⟩=>(by(have ho:0≤o∧o<2000:=by rw [h_o];exact Ij off);(have Uc:Ox=s8L (S8.mk q0 q1 q2 q3 q4 q5 q6 q7)++s8L (S8.mk d0 d1 d2 d3 d4 d5 d6 d7)++s8L (bO kk (S8.mk k0 k1 k2 k3 k4 k5 k6 k7) (S8.mk q0 q1 q2 q3 q4 q5 q6 q7) (S8.mk d0 d1 d2 d3 d4 d5 d6 d7)):=by rw [Wv,Pz,Xf,show i3.toNat=8 by omega];rfl);(have l24:Ox.length=24:=by rw [Uc];rfl);(have aa3:∀x∈Ox,0≤x.v∧x.v<4294967296:=by rw [Uc];intro x hx;rcases List.mem_append.1 hx with hx | hx;rcases List.mem_append.1 hx with hx | hx;exact cC Nz x hx;exact cC NN x hx;exact cC (Be _ _ Nz NN) x hx);(have hk9:i64.wrap (o+i5)=o+i5:=aq (by omega));exact fun f51=>ax (fun cd5 k h_k=>ax (fun cd6=>ak (by omega) fun e52=>ak (tB aa3 _) fun e53 Pn O3 f54=>allEq<| ⟨_,(by(have h8:=aq (x:=i5+1) (by omega));omega),rfl,(by(have h8:=aq (x:=i5+1) (by omega));omega),(by(rw [O3];exact O5.sec)),(by((have h8:=aq (x:=i5+1) (by omega));intro j a b;rw [O3,h_k,hk9];(rw [O5.qw3 ⟨by omega,by omega⟩ ⟨by omega,by omega⟩]);by_cases e:j=i5;rw [if_pos (by omega),e];rw [if_neg (by omega)];exact hw j a (by omega)))⟩) fun cd6=>ax (fun cd7=>ak (by omega) fun e55=>ak (tB aa3 _) fun e56 Pn O3 f57=>allEq<| ⟨_,(by(have h8:=aq (x:=i5+1) (by omega));omega),rfl,(by(have h8:=aq (x:=i5+1) (by omega));omega),(by(rw [O3];exact O5.ins)),(by((have h8:=aq (x:=i5+1) (by omega));intro j a b;rw [O3,h_k,hk9];(rw [O5.qw1 ⟨by omega,by omega⟩ ⟨by omega,by omega⟩]);by_cases e:j=i5;rw [if_pos (by omega),e];rw [if_neg (by omega)];exact hw j a (by omega)))⟩) fun cd7=>allEq<| ⟨_,(by(have h8:=aq (x:=i5+1) (by omega));omega),rfl,(by(have h8:=aq (x:=i5+1) (by omega));omega),(by(exfalso;omega)),(by(exfalso;omega))⟩) fun cd5=>ak (by omega) fun e58=>⟨⟨ak (by exact O5.n) fun e59=>ak (by exact fp (by decide) (by rw [P2];exact bL _) (by decide)) fun e60=>ak (by decide) fun e61=>ak (by exact O5.err) fun e62 Pn O3 f63 Ul Py VT f64=>ak trivial fun _ NG RK f66=>(by(have ab6:(Fl.rs NG).length=15:=by assumption);have VC:DB.Qs E [((s1.getD 0 (U32.mk 0)).v),((s1.getD 1 (U32.mk 0)).v),((s1.getD 2 (U32.mk 0)).v),((s1.getD 3 (U32.mk 0)).v),((s1.getD 4 (U32.mk 0)).v),((s1.getD 5 (U32.mk 0)).v),((s1.getD 6 (U32.mk 0)).v),((s1.getD 7 (U32.mk 0)).v)] Pn:=O3▸O5;(have Um:i5=24:=by omega);(have SR:=DB.jw (k:=0) (n:=24) (fun j a b=>hw j a (by rw [Um];exact b)) (by decide));(have Vy:=DB.jw (k:=8) (n:=24) (fun j a b=>hw j a (by rw [Um];exact b)) (by decide));(have RA:=DB.jw (k:=16) (n:=24) (fun j a b=>hw j a (by rw [Um];exact b)) (by decide));rw [Uc]at SR Vy RA;(have VX:NG=Fl.norm (((Fl.norm (Fl.start 4096 0 va 0)).r1 1).r0 0):=by rw [RK,Oj,O5.f2 ho (P2▸rfl:((Fl.norm (Fl.start 4096 0 va 0)).rs.getD 1 (U32.mk 0)).v=DB.qVa o),O5.vr ho,show O6.qs8 o=_ from(Int.add_zero o▸SR:O6.qs8 o=_),show O6.qs8 (o+8)=_ from Vy,show O6.qs8 (o+16)=_ from RA,if_pos (by rfl)]);(have r0:((Fl.rs NG).getD (Int.toNat 0) (U32.mk 0)).v=0:=by rw [VX];rfl);(have r1:((Fl.rs NG).getD (Int.toNat 1) (U32.mk 0)).v=1:=by rw [VX];rfl);exact bS false ((by grind))<| eV<| ax (fun cd8=>bS (((((Fl.rs NG).getD (Int.toNat 0) (U32.mk 0)).v:Int)==20) && ((((Fl.rs NG).getD (Int.toNat 1) (U32.mk 0)).v:Int)==va)) (ak (by omega) fun e67=>ao (fun cd9=>ak (by omega) fun e68=>(by grind)) fun cd9=>(by grind))<| bG h (by(exfalso;rw [aq (by omega)]at cd8;omega))) fun cd8=>bS (((((Fl.rs NG).getD (Int.toNat 0) (U32.mk 0)).v:Int) !=0) || ((((Fl.rs NG).getD (Int.toNat 1) (U32.mk 0)).v:Int) !=1)) (ak (by omega) fun e69=>ao (fun aeA=>(by grind)) fun aeA=>ak (by omega) fun e70=>(by grind))<| aW (fun WS=>bG h (by(exfalso;rw [r0,r1]at WS;simp at WS))) fun WS b VU k h_k=>⟨fun NM=>(DB.Qs E [((s1.getD 0 (U32.mk 0)).v),((s1.getD 1 (U32.mk 0)).v),((s1.getD 2 (U32.mk 0)).v),((s1.getD 3 (U32.mk 0)).v),((s1.getD 4 (U32.mk 0)).v),((s1.getD 5 (U32.mk 0)).v),((s1.getD 6 (U32.mk 0)).v),((s1.getD 7 (U32.mk 0)).v)] NM),ax (fun aez=>ak (by(have RG:=nX bit);rw [← VU]at RG;rw [Int.tdiv_eq_ediv_of_nonneg RG.1,aq (by omega)];omega) fun e71=>dM (by rw [IntKind.wrap_u64];omega)<| ak (bL _) fun e72 NW NT f73=>(by(rw [NT];exact VC.sec))) fun aez=>ak (by(have RG:=nX bit);rw [← VU]at RG;rw [Int.tdiv_eq_ediv_of_nonneg RG.1,aq (by omega)];omega) fun e74=>dM (by rw [IntKind.wrap_u64];omega)<| ak (bL _) fun e75 NW NT f76=>(by(rw [NT];exact VC.ins)),fun _ NM RB f77=>ak (by omega) fun e78=>ak (by exact RB.n) fun e79=>ak (by exact fp (by decide) (by rw [P2];exact bL _) (by decide)) fun e80=>ak (by decide) fun e81=>ak (by exact RB.err) fun e82 NW NT f83=>ak trivial fun _ NJ RJ f85=>(by(have ab5:(Fl.rs NJ).length=15:=by assumption);have hq4:DB.Qs E [((s1.getD 0 (U32.mk 0)).v),((s1.getD 1 (U32.mk 0)).v),((s1.getD 2 (U32.mk 0)).v),((s1.getD 3 (U32.mk 0)).v),((s1.getD 4 (U32.mk 0)).v),((s1.getD 5 (U32.mk 0)).v),((s1.getD 6 (U32.mk 0)).v),((s1.getD 7 (U32.mk 0)).v)] NM:=RB;(have VW:NJ=Fl.norm (((Fl.norm (Fl.start 4096 0 va 0)).r1 (if bO kk (S8.mk k0 k1 k2 k3 k4 k5 k6 k7) (NM.qs8 o) (NM.qs8 (o+8))=NM.qs8 (o+16)then 1 else 0)).r0 0):=by rw [RJ,Oj,RB.f2 ho (P2▸rfl:((Fl.norm (Fl.start 4096 0 va 0)).rs.getD 1 (U32.mk 0)).v=DB.qVa o),RB.vr ho]);(have r0:((Fl.rs NJ).getD (Int.toNat 0) (U32.mk 0)).v=0:=by rw [VW];rfl);(have r1:((Fl.rs NJ).getD (Int.toNat 1) (U32.mk 0)).v=(if bO kk (S8.mk k0 k1 k2 k3 k4 k5 k6 k7) (NM.qs8 o) (NM.qs8 (o+8))=NM.qs8 (o+16)then 1 else 0):=by rw [VW];rfl);exact allEq<| ⟨fun Qi i7 Sq Q5 NZ M7=>(Qi=(8 - i7).toNat)∧(Rb NW o NZ M7 i7),⟨_,rfl,(by exact⟨by omega,by rw [Pz];rfl,by rw [Xf];rfl,by rw [Pz];intro x hx;rcases List.mem_append.1 hx with hx | hx;exact cC Nz x hx;exact cC NN x hx,fun j hj=>by omega⟩)⟩,fun Qi _ i7 Sq Q5 NZ M7 ⟨hm,hb⟩=>(by have hi7:=hb.hi;exact ax (fun aey=>ak (by(have q:=hb.hl);omega) fun e86 l3 PI=>ak (by(have q:=hb.hl);(have q1:=aq (x:=8+i7) (by omega));(have q2:l3.length=16:=by rw [PI,List.length_set];exact q);omega) fun e87 l4 R2=>ak (by(have q:=hb.hs);omega) fun e88=>ak trivial fun _ Qx RI=>allEq<| ⟨_,(by(have h8:=aq (x:=i7+1) (by omega));omega),rfl,(by rw [R2,PI,RI];exact hb.step ‹_› ho (by omega))⟩) fun aey=>ak (by omega) fun e90=>ak (by(have q:=hb.hs);omega) fun e91=>ak (by omega) fun e92=>ak (by(have q:=hb.hl);omega) fun e93=>ak (hb.r) fun e94=>ao (fun Sb=>bS (((((Fl.rs NJ).getD (Int.toNat 0) (U32.mk 0)).v:Int)==0) && ((((Fl.rs NJ).getD (Int.toNat 1) (U32.mk 0)).v:Int)==1)) (ak (by omega) fun e95=>ao (fun aex=>ak (by omega) fun e96=>(by grind)) fun aex=>(by grind))<| (by(have SX:Rb NW o NZ M7 8:=(show i7=8 by omega)▸hb);have z:=SX.out;rw [C5,z.1,show(S8.mk ((M7.getD 0 (U32.mk 0)).v) ((M7.getD 1 (U32.mk 0)).v) ((M7.getD 2 (U32.mk 0)).v) ((M7.getD 3 (U32.mk 0)).v) ((M7.getD 4 (U32.mk 0)).v) ((M7.getD 5 (U32.mk 0)).v) ((M7.getD 6 (U32.mk 0)).v) ((M7.getD 7 (U32.mk 0)).v))=DB.s8U M7 0 from rfl,z.2,NT]at Sb;(have zt:bO kk (S8.mk k0 k1 k2 k3 k4 k5 k6 k7) (NM.qs8 o) (NM.qs8 (o+8))=NM.qs8 (o+16):=by rw [OM]at Sb;exact of_decide_eq_true Sb);exact bG h (by(rw [r0,r1,if_pos zt];rfl)))) fun Sb=>bS (((((Fl.rs NJ).getD (Int.toNat 0) (U32.mk 0)).v:Int)==0) && ((((Fl.rs NJ).getD (Int.toNat 1) (U32.mk 0)).v:Int)==0)) (ak (by omega) fun e97=>ao (fun aew=>ak (by omega) fun e98=>(by grind)) fun aew=>(by grind))<| (by(have SX:Rb NW o NZ M7 8:=(show i7=8 by omega)▸hb);have z:=SX.out;rw [C5,z.1,show(S8.mk ((M7.getD 0 (U32.mk 0)).v) ((M7.getD 1 (U32.mk 0)).v) ((M7.getD 2 (U32.mk 0)).v) ((M7.getD 3 (U32.mk 0)).v) ((M7.getD 4 (U32.mk 0)).v) ((M7.getD 5 (U32.mk 0)).v) ((M7.getD 6 (U32.mk 0)).v) ((M7.getD 7 (U32.mk 0)).v))=DB.s8U M7 0 from rfl,z.2,NT]at Sb;(have zt:¬bO kk (S8.mk k0 k1 k2 k3 k4 k5 k6 k7) (NM.qs8 o) (NM.qs8 (o+8))=NM.qs8 (o+16):=by rw [OM]at Sb;exact of_decide_eq_false Sb);exact bG h (by(rw [r0,r1,if_neg zt];rfl))))⟩)⟩),fun Ul Py VT f99=>ak (by exact O5.n) fun e100=>ak (by exact fp (by decide) (by rw [P2];exact bL _) (by decide)) fun e101=>ak (by decide) fun e102=>ak (by exact O5.err) fun e103 Pn O3 f104=>ak trivial fun _ NG RK f106=>(by(have ab6:(Fl.rs NG).length=15:=by assumption);have VC:DB.Qs E [((s1.getD 0 (U32.mk 0)).v),((s1.getD 1 (U32.mk 0)).v),((s1.getD 2 (U32.mk 0)).v),((s1.getD 3 (U32.mk 0)).v),((s1.getD 4 (U32.mk 0)).v),((s1.getD 5 (U32.mk 0)).v),((s1.getD 6 (U32.mk 0)).v),((s1.getD 7 (U32.mk 0)).v)] Pn:=O3▸O5;(have Um:i5=24:=by omega);(have SR:=DB.jw (k:=0) (n:=24) (fun j a b=>hw j a (by rw [Um];exact b)) (by decide));(have Vy:=DB.jw (k:=8) (n:=24) (fun j a b=>hw j a (by rw [Um];exact b)) (by decide));(have RA:=DB.jw (k:=16) (n:=24) (fun j a b=>hw j a (by rw [Um];exact b)) (by decide));rw [Uc]at SR Vy RA;(have VX:NG=Fl.norm (((Fl.norm (Fl.start 4096 0 va 0)).r1 1).r0 0):=by rw [RK,Oj,O5.f2 ho (P2▸rfl:((Fl.norm (Fl.start 4096 0 va 0)).rs.getD 1 (U32.mk 0)).v=DB.qVa o),O5.vr ho,show O6.qs8 o=_ from(Int.add_zero o▸SR:O6.qs8 o=_),show O6.qs8 (o+8)=_ from Vy,show O6.qs8 (o+16)=_ from RA,if_pos (by rfl)]);(have r0:((Fl.rs NG).getD (Int.toNat 0) (U32.mk 0)).v=0:=by rw [VX];rfl);(have r1:((Fl.rs NG).getD (Int.toNat 1) (U32.mk 0)).v=1:=by rw [VX];rfl);exact bS false ((by grind))<| eV<| ax (fun abZ=>bS (((((Fl.rs NG).getD (Int.toNat 0) (U32.mk 0)).v:Int)==20) && ((((Fl.rs NG).getD (Int.toNat 1) (U32.mk 0)).v:Int)==va)) (ak (by omega) fun e107=>ao (fun aev=>ak (by omega) fun e108=>(by grind)) fun aev=>(by grind))<| bG h (by(exfalso;rw [aq (by omega)]at abZ;omega))) fun abZ=>bS (((((Fl.rs NG).getD (Int.toNat 0) (U32.mk 0)).v:Int) !=0) || ((((Fl.rs NG).getD (Int.toNat 1) (U32.mk 0)).v:Int) !=1)) (ak (by omega) fun e109=>ao (fun aeu=>(by grind)) fun aeu=>ak (by omega) fun e110=>(by grind))<| aW (fun WR=>bG h (by(exfalso;rw [r0,r1]at WR;simp at WR))) fun WR b VU k h_k=>⟨fun NM=>(DB.Qs E [((s1.getD 0 (U32.mk 0)).v),((s1.getD 1 (U32.mk 0)).v),((s1.getD 2 (U32.mk 0)).v),((s1.getD 3 (U32.mk 0)).v),((s1.getD 4 (U32.mk 0)).v),((s1.getD 5 (U32.mk 0)).v),((s1.getD 6 (U32.mk 0)).v),((s1.getD 7 (U32.mk 0)).v)] NM),ax (fun aet=>ak (by(have RG:=nX bit);rw [← VU]at RG;rw [Int.tdiv_eq_ediv_of_nonneg RG.1,aq (by omega)];omega) fun e111=>dM (by rw [IntKind.wrap_u64];omega)<| ak (bL _) fun e112 NW NT f113=>(by(rw [NT];exact VC.sec))) fun aet=>ak (by(have RG:=nX bit);rw [← VU]at RG;rw [Int.tdiv_eq_ediv_of_nonneg RG.1,aq (by omega)];omega) fun e114=>dM (by rw [IntKind.wrap_u64];omega)<| ak (bL _) fun e115 NW NT f116=>(by(rw [NT];exact VC.ins)),fun _ NM RB f117=>ak (by omega) fun e118=>ak (by exact RB.n) fun e119=>ak (by exact fp (by decide) (by rw [P2];exact bL _) (by decide)) fun e120=>ak (by decide) fun e121=>ak (by exact RB.err) fun e122 NW NT f123=>ak trivial fun _ NJ RJ f125=>(by(have ab5:(Fl.rs NJ).length=15:=by assumption);have hq4:DB.Qs E [((s1.getD 0 (U32.mk 0)).v),((s1.getD 1 (U32.mk 0)).v),((s1.getD 2 (U32.mk 0)).v),((s1.getD 3 (U32.mk 0)).v),((s1.getD 4 (U32.mk 0)).v),((s1.getD 5 (U32.mk 0)).v),((s1.getD 6 (U32.mk 0)).v),((s1.getD 7 (U32.mk 0)).v)] NM:=RB;(have VW:NJ=Fl.norm (((Fl.norm (Fl.start 4096 0 va 0)).r1 (if bO kk (S8.mk k0 k1 k2 k3 k4 k5 k6 k7) (NM.qs8 o) (NM.qs8 (o+8))=NM.qs8 (o+16)then 1 else 0)).r0 0):=by rw [RJ,Oj,RB.f2 ho (P2▸rfl:((Fl.norm (Fl.start 4096 0 va 0)).rs.getD 1 (U32.mk 0)).v=DB.qVa o),RB.vr ho]);(have r0:((Fl.rs NJ).getD (Int.toNat 0) (U32.mk 0)).v=0:=by rw [VW];rfl);(have r1:((Fl.rs NJ).getD (Int.toNat 1) (U32.mk 0)).v=(if bO kk (S8.mk k0 k1 k2 k3 k4 k5 k6 k7) (NM.qs8 o) (NM.qs8 (o+8))=NM.qs8 (o+16)then 1 else 0):=by rw [VW];rfl);exact allEq<| ⟨fun Qi i7 Sq Q5 NZ M7=>(Qi=(8 - i7).toNat)∧(Rb NW o NZ M7 i7),⟨_,rfl,(by exact⟨by omega,by rw [Pz];rfl,by rw [Xf];rfl,by rw [Pz];intro x hx;rcases List.mem_append.1 hx with hx | hx;exact cC Nz x hx;exact cC NN x hx,fun j hj=>by omega⟩)⟩,fun Qi _ i7 Sq Q5 NZ M7 ⟨hm,hb⟩=>(by have hi7:=hb.hi;exact ax (fun aes=>ak (by(have q:=hb.hl);omega) fun e126 l3 PI=>ak (by(have q:=hb.hl);(have q1:=aq (x:=8+i7) (by omega));(have q2:l3.length=16:=by rw [PI,List.length_set];exact q);omega) fun e127 l4 R2=>ak (by(have q:=hb.hs);omega) fun e128=>ak trivial fun _ Qx RI=>allEq<| ⟨_,(by(have h8:=aq (x:=i7+1) (by omega));omega),rfl,(by rw [R2,PI,RI];exact hb.step ‹_› ho (by omega))⟩) fun aes=>ak (by omega) fun e130=>ak (by(have q:=hb.hs);omega) fun e131=>ak (by omega) fun e132=>ak (by(have q:=hb.hl);omega) fun e133=>ak (hb.r) fun e134=>ao (fun Sa=>bS (((((Fl.rs NJ).getD (Int.toNat 0) (U32.mk 0)).v:Int)==0) && ((((Fl.rs NJ).getD (Int.toNat 1) (U32.mk 0)).v:Int)==1)) (ak (by omega) fun e135=>ao (fun aer=>ak (by omega) fun e136=>(by grind)) fun aer=>(by grind))<| (by(have SX:Rb NW o NZ M7 8:=(show i7=8 by omega)▸hb);have z:=SX.out;rw [C5,z.1,show(S8.mk ((M7.getD 0 (U32.mk 0)).v) ((M7.getD 1 (U32.mk 0)).v) ((M7.getD 2 (U32.mk 0)).v) ((M7.getD 3 (U32.mk 0)).v) ((M7.getD 4 (U32.mk 0)).v) ((M7.getD 5 (U32.mk 0)).v) ((M7.getD 6 (U32.mk 0)).v) ((M7.getD 7 (U32.mk 0)).v))=DB.s8U M7 0 from rfl,z.2,NT]at Sa;(have zt:bO kk (S8.mk k0 k1 k2 k3 k4 k5 k6 k7) (NM.qs8 o) (NM.qs8 (o+8))=NM.qs8 (o+16):=by rw [OM]at Sa;exact of_decide_eq_true Sa);exact bG h (by(rw [r0,r1,if_pos zt];rfl)))) fun Sa=>bS (((((Fl.rs NJ).getD (Int.toNat 0) (U32.mk 0)).v:Int)==0) && ((((Fl.rs NJ).getD (Int.toNat 1) (U32.mk 0)).v:Int)==0)) (ak (by omega) fun e137=>ao (fun aeq=>ak (by omega) fun e138=>(by grind)) fun aeq=>(by grind))<| (by(have SX:Rb NW o NZ M7 8:=(show i7=8 by omega)▸hb);have z:=SX.out;rw [C5,z.1,show(S8.mk ((M7.getD 0 (U32.mk 0)).v) ((M7.getD 1 (U32.mk 0)).v) ((M7.getD 2 (U32.mk 0)).v) ((M7.getD 3 (U32.mk 0)).v) ((M7.getD 4 (U32.mk 0)).v) ((M7.getD 5 (U32.mk 0)).v) ((M7.getD 6 (U32.mk 0)).v) ((M7.getD 7 (U32.mk 0)).v))=DB.s8U M7 0 from rfl,z.2,NT]at Sa;(have zt:¬bO kk (S8.mk k0 k1 k2 k3 k4 k5 k6 k7) (NM.qs8 o) (NM.qs8 (o+8))=NM.qs8 (o+16):=by rw [OM]at Sa;exact of_decide_eq_false Sa);exact bG h (by(rw [r0,r1,if_neg zt];rfl))))⟩)⟩)⟩,fun Ul Py VT f139=>ak (by exact O5.n) fun e140=>ak (by exact fp (by decide) (by rw [P2];exact bL _) (by decide)) fun e141=>ak (by decide) fun e142=>ak (by exact O5.err) fun e143 Pn O3 f144=>ak trivial fun _ NG RK f146=>(by(have ab6:(Fl.rs NG).length=15:=by assumption);have VC:DB.Qs E [((s1.getD 0 (U32.mk 0)).v),((s1.getD 1 (U32.mk 0)).v),((s1.getD 2 (U32.mk 0)).v),((s1.getD 3 (U32.mk 0)).v),((s1.getD 4 (U32.mk 0)).v),((s1.getD 5 (U32.mk 0)).v),((s1.getD 6 (U32.mk 0)).v),((s1.getD 7 (U32.mk 0)).v)] Pn:=O3▸O5;(have Um:i5=24:=by omega);(have SR:=DB.jw (k:=0) (n:=24) (fun j a b=>hw j a (by rw [Um];exact b)) (by decide));(have Vy:=DB.jw (k:=8) (n:=24) (fun j a b=>hw j a (by rw [Um];exact b)) (by decide));(have RA:=DB.jw (k:=16) (n:=24) (fun j a b=>hw j a (by rw [Um];exact b)) (by decide));rw [Uc]at SR Vy RA;(have VX:NG=Fl.norm (((Fl.norm (Fl.start 4096 0 va 0)).r1 1).r0 0):=by rw [RK,Oj,O5.f2 ho (P2▸rfl:((Fl.norm (Fl.start 4096 0 va 0)).rs.getD 1 (U32.mk 0)).v=DB.qVa o),O5.vr ho,show O6.qs8 o=_ from(Int.add_zero o▸SR:O6.qs8 o=_),show O6.qs8 (o+8)=_ from Vy,show O6.qs8 (o+16)=_ from RA,if_pos (by rfl)]);(have r0:((Fl.rs NG).getD (Int.toNat 0) (U32.mk 0)).v=0:=by rw [VX];rfl);(have r1:((Fl.rs NG).getD (Int.toNat 1) (U32.mk 0)).v=1:=by rw [VX];rfl);exact bS false ((by grind))<| eV<| ax (fun abY=>bS (((((Fl.rs NG).getD (Int.toNat 0) (U32.mk 0)).v:Int)==20) && ((((Fl.rs NG).getD (Int.toNat 1) (U32.mk 0)).v:Int)==va)) (ak (by omega) fun e147=>ao (fun aep=>ak (by omega) fun e148=>(by grind)) fun aep=>(by grind))<| bG h (by(exfalso;rw [aq (by omega)]at abY;omega))) fun abY=>bS (((((Fl.rs NG).getD (Int.toNat 0) (U32.mk 0)).v:Int) !=0) || ((((Fl.rs NG).getD (Int.toNat 1) (U32.mk 0)).v:Int) !=1)) (ak (by omega) fun e149=>ao (fun aeo=>(by grind)) fun aeo=>ak (by omega) fun e150=>(by grind))<| aW (fun WQ=>bG h (by(exfalso;rw [r0,r1]at WQ;simp at WQ))) fun WQ b VU k h_k=>⟨fun NM=>(DB.Qs E [((s1.getD 0 (U32.mk 0)).v),((s1.getD 1 (U32.mk 0)).v),((s1.getD 2 (U32.mk 0)).v),((s1.getD 3 (U32.mk 0)).v),((s1.getD 4 (U32.mk 0)).v),((s1.getD 5 (U32.mk 0)).v),((s1.getD 6 (U32.mk 0)).v),((s1.getD 7 (U32.mk 0)).v)] NM),ax (fun aen=>ak (by(have RG:=nX bit);rw [← VU]at RG;rw [Int.tdiv_eq_ediv_of_nonneg RG.1,aq (by omega)];omega) fun e151=>dM (by rw [IntKind.wrap_u64];omega)<| ak (bL _) fun e152 NW NT f153=>(by(rw [NT];exact VC.sec))) fun aen=>ak (by(have RG:=nX bit);rw [← VU]at RG;rw [Int.tdiv_eq_ediv_of_nonneg RG.1,aq (by omega)];omega) fun e154=>dM (by rw [IntKind.wrap_u64];omega)<| ak (bL _) fun e155 NW NT f156=>(by(rw [NT];exact VC.ins)),fun _ NM RB f157=>ak (by omega) fun e158=>ak (by exact RB.n) fun e159=>ak (by exact fp (by decide) (by rw [P2];exact bL _) (by decide)) fun e160=>ak (by decide) fun e161=>ak (by exact RB.err) fun e162 NW NT f163=>ak trivial fun _ NJ RJ f165=>(by(have ab5:(Fl.rs NJ).length=15:=by assumption);have hq4:DB.Qs E [((s1.getD 0 (U32.mk 0)).v),((s1.getD 1 (U32.mk 0)).v),((s1.getD 2 (U32.mk 0)).v),((s1.getD 3 (U32.mk 0)).v),((s1.getD 4 (U32.mk 0)).v),((s1.getD 5 (U32.mk 0)).v),((s1.getD 6 (U32.mk 0)).v),((s1.getD 7 (U32.mk 0)).v)] NM:=RB;(have VW:NJ=Fl.norm (((Fl.norm (Fl.start 4096 0 va 0)).r1 (if bO kk (S8.mk k0 k1 k2 k3 k4 k5 k6 k7) (NM.qs8 o) (NM.qs8 (o+8))=NM.qs8 (o+16)then 1 else 0)).r0 0):=by rw [RJ,Oj,RB.f2 ho (P2▸rfl:((Fl.norm (Fl.start 4096 0 va 0)).rs.getD 1 (U32.mk 0)).v=DB.qVa o),RB.vr ho]);(have r0:((Fl.rs NJ).getD (Int.toNat 0) (U32.mk 0)).v=0:=by rw [VW];rfl);(have r1:((Fl.rs NJ).getD (Int.toNat 1) (U32.mk 0)).v=(if bO kk (S8.mk k0 k1 k2 k3 k4 k5 k6 k7) (NM.qs8 o) (NM.qs8 (o+8))=NM.qs8 (o+16)then 1 else 0):=by rw [VW];rfl);exact allEq<| ⟨fun Qi i7 Sq Q5 NZ M7=>(Qi=(8 - i7).toNat)∧(Rb NW o NZ M7 i7),⟨_,rfl,(by exact⟨by omega,by rw [Pz];rfl,by rw [Xf];rfl,by rw [Pz];intro x hx;rcases List.mem_append.1 hx with hx | hx;exact cC Nz x hx;exact cC NN x hx,fun j hj=>by omega⟩)⟩,fun Qi _ i7 Sq Q5 NZ M7 ⟨hm,hb⟩=>(by have hi7:=hb.hi;exact ax (fun aem=>ak (by(have q:=hb.hl);omega) fun e166 l3 PI=>ak (by(have q:=hb.hl);(have q1:=aq (x:=8+i7) (by omega));(have q2:l3.length=16:=by rw [PI,List.length_set];exact q);omega) fun e167 l4 R2=>ak (by(have q:=hb.hs);omega) fun e168=>ak trivial fun _ Qx RI=>allEq<| ⟨_,(by(have h8:=aq (x:=i7+1) (by omega));omega),rfl,(by rw [R2,PI,RI];exact hb.step ‹_› ho (by omega))⟩) fun aem=>ak (by omega) fun e170=>ak (by(have q:=hb.hs);omega) fun e171=>ak (by omega) fun e172=>ak (by(have q:=hb.hl);omega) fun e173=>ak (hb.r) fun e174=>ao (fun R9=>bS (((((Fl.rs NJ).getD (Int.toNat 0) (U32.mk 0)).v:Int)==0) && ((((Fl.rs NJ).getD (Int.toNat 1) (U32.mk 0)).v:Int)==1)) (ak (by omega) fun e175=>ao (fun ael=>ak (by omega) fun e176=>(by grind)) fun ael=>(by grind))<| (by(have SX:Rb NW o NZ M7 8:=(show i7=8 by omega)▸hb);have z:=SX.out;rw [C5,z.1,show(S8.mk ((M7.getD 0 (U32.mk 0)).v) ((M7.getD 1 (U32.mk 0)).v) ((M7.getD 2 (U32.mk 0)).v) ((M7.getD 3 (U32.mk 0)).v) ((M7.getD 4 (U32.mk 0)).v) ((M7.getD 5 (U32.mk 0)).v) ((M7.getD 6 (U32.mk 0)).v) ((M7.getD 7 (U32.mk 0)).v))=DB.s8U M7 0 from rfl,z.2,NT]at R9;(have zt:bO kk (S8.mk k0 k1 k2 k3 k4 k5 k6 k7) (NM.qs8 o) (NM.qs8 (o+8))=NM.qs8 (o+16):=by rw [OM]at R9;exact of_decide_eq_true R9);exact bG h (by(rw [r0,r1,if_pos zt];rfl)))) fun R9=>bS (((((Fl.rs NJ).getD (Int.toNat 0) (U32.mk 0)).v:Int)==0) && ((((Fl.rs NJ).getD (Int.toNat 1) (U32.mk 0)).v:Int)==0)) (ak (by omega) fun e177=>ao (fun aek=>ak (by omega) fun e178=>(by grind)) fun aek=>(by grind))<| (by(have SX:Rb NW o NZ M7 8:=(show i7=8 by omega)▸hb);have z:=SX.out;rw [C5,z.1,show(S8.mk ((M7.getD 0 (U32.mk 0)).v) ((M7.getD 1 (U32.mk 0)).v) ((M7.getD 2 (U32.mk 0)).v) ((M7.getD 3 (U32.mk 0)).v) ((M7.getD 4 (U32.mk 0)).v) ((M7.getD 5 (U32.mk 0)).v) ((M7.getD 6 (U32.mk 0)).v) ((M7.getD 7 (U32.mk 0)).v))=DB.s8U M7 0 from rfl,z.2,NT]at R9;(have zt:¬bO kk (S8.mk k0 k1 k2 k3 k4 k5 k6 k7) (NM.qs8 o) (NM.qs8 (o+8))=NM.qs8 (o+16):=by rw [OM]at R9;exact of_decide_eq_false R9);exact bG h (by(rw [r0,r1,if_neg zt];rfl))))⟩)⟩)⟩)⟩)⟩))))⟩))))))
end
end Go.Proofs.YtfmcaoaaiganbaaGreatDoor
namespace Go.Proofs.YtfmcaoaaiganbaaGreatDoor
open Go.Proofs.Tryz (prog)
open Go Go.RowKit V Go.ChangeShapes Go.WideShapes Go.ChangeAt
open Go.IntKind (i64 u32 u64)
open Enc (enc)
theorem Ip:ownKnob prog.godebug=none:=by kernel_rfl
theorem fI:laidOutB prog=true:=by kernel_rfl
theorem FB:prog.cellsOf 23=1:=by kernel_rfl
def MO:DataW Unit→List Int
 | .agg l=>l.filterMap fun d=>match d with
  | .lit (.int _ x)=>some x
  | _=>none
 | _=>[]
def kR:List Int:=MO Rows.laid_warden_sha_rounds
theorem Ir:Rows.laid_warden_sha_rounds (H:=Unit)= .agg (kR.map fun x=>.lit (.int .u32 x)):=by kernel_rfl
theorem FG:kR.length=64:=by kernel_rfl
theorem BN:prog.globalNamed "warden/sha.rounds" =some 0:=by kernel_rfl
theorem Ia {W:World}(h:laidMetH prog Rows.svcQuotesRow.laid W):gz W 0 kR:=by
 rw [MakeChecks.laidMetH_plain _ _ _ (by kernel_rfl)]at h
 obtain⟨ps,⟨g0,t0,Xg,f0,p0,q0,hg0,ht0,hv0,hd0,hq0,e0⟩,_,hc⟩:=h
 obtain rfl:=Option.some.inj (BN.symm.trans hg0)
 obtain rfl:=Option.some.inj ((show(prog.globals[0]?).map (·.type)=some 240 by kernel_rfl).symm.trans ht0)
 rw [Ir]at hd0
 have c0:=CM Tryz.underlying240 Tryz.underlying23 FB hd0 (by kernel_rfl)
 obtain⟨Xg⟩:=Xg
 simp only at c0
 subst c0
 have s0:∀x:Nat,MemPlace.row ⟨0,0,none⟩ (kR.map (Value.int .u32)).toArray.size ⊆ ps:=fun _=>by rw [e0];intro y hy;simp only [List.mem_append];exact .inl (.inl hy)
 have z0:0<(kR.map (Value.int .u32)).toArray.size:=by simp [FG]
 exact⟨FG,Fm BN hv0 z0 (s0 0) hc⟩
theorem FY(os:Os)(args:Array Value):laidMetH prog Rows.svcQuotesRow.laid ((World.doorLaid prog 400 os).forCall (fun _ _=>0) ⟨#[],args,[]⟩).memory:=
 laidMetH_of_parts3 (fuel:=8) (laidMet_of_run' 8 (by kernel_rfl) (by kernel_rfl)) (by kernel_rfl) (by kernel_rfl)
set_option maxRecDepth 100000 in
theorem zJ(os:Os)(started:os.Started)(H:Type)(enc:TypeId×Value→H):
 ReturnsInHanded {} Tryz.checked os 4 .any (fun w args=>(Rows.svcQuotesSpec.pre enc prog Tryz.f4 [] false w args∧laidMetH prog Rows.svcQuotesRow.laid w)∧sizedMet enc prog Tryz.f4 (OpenSpec.ofChange Rows.svcQuotesSpec) false w args)
  (Rows.svcQuotesSpec.post enc prog Tryz.f4 false true false false):=by
 refine returnsInHanded_of_change_and (C:=Tryz.checked) (X:=fun w _=>laidMetH prog Rows.svcQuotesRow.laid w) (fun _ _ _ hh h=>h.of_heap hh) Ip started (by kernel_rfl) Tryz.func4
  (ChangeSpec.witness_shaped (enc:=enc) (C:=Tryz.checked) (os:=os) (X:=fun w _=>laidMetH prog Rows.svcQuotesRow.laid w) false (World.doorLaid prog 400 os) #[(.agg #[.int .u32 1,.int .u32 1,.int .u32 1,.int .u32 1,.int .u32 1,.int .u32 1,.int .u32 1,.int .u32 1]),(.agg #[.int .u32 1,.int .u32 1,.int .u32 1,.int .u32 1,.int .u32 1,.int .u32 1,.int .u32 1,.int .u32 1]),(.agg #[.int .u32 1,.int .u32 1,.int .u32 1,.int .u32 1,.int .u32 1,.int .u32 1,.int .u32 1,.int .u32 1]),.int .i64 1,.int .i64 1] 8 rfl (World.shaped_of_RefB (by kernel_rfl) (by kernel_rfl)) (by kernel_rfl) (by kernel_rfl) (by kernel_rfl) (FY os _)) ?_
 intro W base args ds gs before Vz hW _ aaY hL _
 have ND:(DataW.weightsEach prog (Tryz.f4.params.toList++Rows.svcQuotesSpec.plain.varTypes prog) (ds++gs)).all (· ≤reachBytes)=true:=aaY
 clear aaY
 have UU:∀(j:Nat) t v,Tryz.f4.params[j]? =some t→args[j]? =some v→Value.okWide prog W .any base t v:=Vz
 have hW':=hW
 obtain⟨p,q,hA0,hV,rfl,_,_⟩:=hW
 have hA:DataW.TrodAll enc prog W 0 (fun _=>true) true Tryz.f4.params.toList args.toList ds p:=hA0
 rw [Tryz.params4]at hA UU ND
 obtain⟨v0,v1,v2,v3,v4,d0,d1,d2,d3,d4,p0,p1,p2,p3,p4,rfl,rfl,rfl,h0,h1,h2,h3,h4⟩:=ux hA
 obtain⟨rfl,rfl⟩:=trodVars_none hV
 have op:=fun(j:Nat)(v:Value)(d:DataW H)(p:List MemPlace) hj hv (h:DataW.Trod enc prog W 0 (fun _=>true) true 24 v d p)=>H7 Tryz.underlying24 Tryz.underlying23 FB (by kernel_rfl) (UU j 24 v hj hv) h
 obtain⟨⟨a0,a1,a2,a3,a4,a5,a6,a7⟩,rfl,ha,rfl⟩:=op 0 v0 d0 p0 rfl rfl h0
 obtain⟨⟨b0,b1,b2,b3,b4,b5,b6,b7⟩,rfl,hb,rfl⟩:=op 1 v1 d1 p1 rfl rfl h1
 obtain⟨⟨c0,c1,c2,c3,c4,c5,c6,c7⟩,rfl,hc,rfl⟩:=op 2 v2 d2 p2 rfl rfl h2
 obtain⟨x3,rfl,rfl,rfl,_⟩:=open_int Tryz.underlying3 (UU 3 3 v3 rfl rfl) h3
 obtain⟨x4,rfl,rfl,rfl,_⟩:=open_int Tryz.underlying3 (UU 4 3 v4 rfl rfl) h4
 clear hA0 Vz op
 simp only [List.append_nil,List.nil_append]at hW'
 have hR1:=Ia hL
 have hsat:Sat (U:=Un) [.ob 5 (fun _=>0) kR] (fun _ k=>k=0) W:=⟨fun i r hr=>by
  match i with
  | 0=>simp only [nth,Option.some.injEq]at hr;subst hr;exact(⟨fun k=>⟨fun h=>h,fun h=>h⟩,hR1⟩:(∀k,k=0↔k=0)∧gz W 0 kR)
  | i+1=>simp [nth]at hr,fun i j hi hj Og=>by
  have hi:i<1:=hi
  have hj:j<1:=hj
  omega⟩
 refine(rG a0 a1 a2 a3 a4 a5 a6 a7 b0 b1 b2 b3 b4 b5 b6 b7 c0 c1 c2 c3 c4 c5 c6 c7 x3 x4 (fun _=>0) kR (fun o=>o=_) ⟨ha,hb,hc,rfl⟩ _ W hsat (fun _ _ h=>by cases h)).mono ?_
 rintro e W' ⟨out,rs',X',rfl,rfl,OU,hp⟩
 have Ua:Pu W W':=hp.ch.mono fun k ⟨j,hj,_⟩=>by cases hj
 have hn:Below W.heap.size W W':=⟨Ua.kept.os,Ua.kept.tape,Ua.kept.output,Ua.kept.size,fun k hk=>Ua.kept.block k ⟨hk,fun h=>h⟩⟩
 refine⟨_,rfl,_,_,_,[],[],[],hW',trodAll_mk1 (shut_bool Tryz.underlying4 _),?_,rfl,hn.frame _,fun h=>by cases h⟩
 have:=vN (Below.trod fI (by kernel_rfl) (of_decide_eq_true (by kernel_rfl)) h0 hn (fun x hx=>by cases hx))
  (Below.trod fI (by kernel_rfl) (of_decide_eq_true (by kernel_rfl)) h1 hn (fun x hx=>by cases hx))
  (Below.trod fI (by kernel_rfl) (of_decide_eq_true (by kernel_rfl)) h2 hn (fun x hx=>by cases hx))
  (Below.trod fI (by kernel_rfl) (of_decide_eq_true (by kernel_rfl)) h3 hn (fun x hx=>by cases hx))
  (Below.trod fI (by kernel_rfl) (of_decide_eq_true (by kernel_rfl)) h4 hn (fun x hx=>by cases hx))
 simp only [List.nil_append]at this
 exact this
theorem rW:Rows.SvcQuotesSaid:=
 OpenClaim.holds_of_wide 4 Tryz.f4 rfl rfl rfl rfl rfl rfl rfl ⟨rfl,rfl,rfl,rfl,rfl⟩ rfl rfl rfl rfl rfl (by kernel_rfl) Tryz.func4 (by kernel_rfl)
  (of_decide_eq_true (by kernel_rfl)) (by unfold Func.isWrapper;(rw [if_neg (by decide+kernel)];exact⟨rfl,rfl⟩))
  (fun os started H enc _=>zJ os started H enc)
end Go.Proofs.YtfmcaoaaiganbaaGreatDoor
namespace Go.Proofs.YtfmcaoaaiganbaaGreatDoor
open Go.Proofs.Tryz (prog)
open Go
theorem svcQuotes_card:Rows.SvcQuotesCardSaid:=
 Claim7.holds_tied_plain_at .later [] [.data,.data] true Rows.svcQuotesCard.stood.harness false
  rW (fun _ h=>by cases h) (by kernel_rfl) (fun _ h=>by cases h) svcQuotes_row_tie rfl ⟨rfl,rfl⟩ (by kernel_rfl) rfl
  (fun f fn hf Xd=>by
   obtain rfl:f=4:=Option.some.inj ((show prog.funcNamed "warden/wardenlaw19.SvcQuotes" =some 4 by kernel_rfl).symm.trans hf) |>.symm
   obtain rfl:fn=Tryz.f4:=(Option.some.inj (Tryz.func4.symm.trans Xd)).symm
   exact⟨by kernel_rfl,fun j t ht=>by
    rw [Tryz.params4]at ht
    have h3:t=3∨t=24:=by
     rcases j with _ | _ | _ | _ | _ | j
     ·right;simpa using ht.symm
     ·right;simpa using ht.symm
     ·right;simpa using ht.symm
     ·left;simpa using ht.symm
     ·left;simpa using ht.symm
     ·simp at ht
    rcases h3 with rfl | rfl
    ·exact(show prog.wantsStandIn 3=false by kernel_rfl)
    ·exact(show prog.wantsStandIn 24=false by kernel_rfl)⟩)
  (by kernel_rfl)
#print axioms svcQuotes_card
end Go.Proofs.YtfmcaoaaiganbaaGreatDoor
