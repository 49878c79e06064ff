/- SvcMaps returns true for every input, and each argument reads behind the call as it read before. -/
import Derived.Test.YtfgpafjlcgaimaaGreatDoorZ3
import Derived.KernelRfl
set_option linter.unusedVariables false
set_option linter.unusedSimpArgs false
namespace Go.Proofs.YtfgpafjlcgaimaaGreatDoor
open Go.Proofs.Tryz (prog)
open Go Go.RowKit V
open Go.IntKind (i64 u32 u64)
theorem yC(w:Int):0≤(bo w).ah∧(bo w).ah<64:=by
 unfold bo
 split
 ·rename_i h
  have h:=h.2
  unfold sB Mp.err at h
  simp only [decide_eq_true_eq]at h
  have h:=h.1
  split at h
  ·assumption
  ·omega
 ·exact⟨by decide,by decide⟩
theorem nM {w:Int}(hw:0≤w):0≤aL w∧aL w<64:=by
 unfold aL
 split
 ·rename_i h
  unfold zU at h
  simp only [decide_eq_true_eq]at h
  omega
 ·omega
theorem eqF(a b:Bool)(x y:Int):aK #[.bool a,.int .i64 x] #[.bool b,.int .i64 y]=((a==b) && (x==y)):=by
 simp [aK,eqL,gI]
theorem Af {f:Int→Bool} {a b:Int}(h:a≤b):cm f a≤cm f b:=by
 by_cases h0:a<0
 ·have e:cm f a=0:=by unfold cm;rw [show a.toNat=0 by omega];rfl
  rw [e];exact gn
 obtain⟨k,rfl⟩:∃k:Nat,b=a+k:=⟨(b - a).toNat,by omega⟩
 clear h
 induction k with
 | zero=>simp
 | succ k ih=>
  have:=cQ (f:=f) (n:=a+(k:Int)) (by omega)
  rw [show a+((k+1:Nat):Int)=a+k+1 by omega,this]
  split<;>omega
theorem jV {f:Int→Bool} {n:Int}(h:∀x,0≤x→x<n→f x=false):cm f n=0:=by
 unfold cm
 have:(List.range n.toNat).countP (fun(i:Nat)=>f (i:Int))=0:=by
  rw [List.countP_eq_zero]
  intro i hi
  have:=List.mem_range.1 hi
  rw [h _ (by omega) (by omega)];simp
 omega
theorem u7 {f g:Int→Bool} {q:Int}:∀ {n:Nat},0≤q→f q=false→g q=true→(∀x,0≤x→x<(n:Int)→x≠q→g x=f x)→cm g n=cm f n+(if q<(n:Int)then 1 else 0)
 | 0,h0,_,_,_=>by rw [if_neg (by omega)];rfl
 | n+1,h0,hf,hg,h=>by
  have ih:=u7 (n:=n) h0 hf hg fun x a b c=>h x a (by omega) c
  have e1:=cQ (f:=f) (n:=(n:Int)) (by omega)
  have e2:=cQ (f:=g) (n:=(n:Int)) (by omega)
  rw [show((n+1:Nat):Int)=(n:Int)+1 by omega,e1,e2,ih]
  by_cases hq:q=(n:Int)
  ·subst hq
   have a:¬(n:Int)<n:=by omega
   have b:(n:Int)<n+1:=by omega
   simp [hf,hg,b]
  ·rw [h _ (by omega) (by omega) (fun e=>hq e.symm)]
   by_cases h1:q<(n:Int)
   ·rw [if_pos h1,if_pos (show q<(n:Int)+1 by omega)];omega
   ·rw [if_neg h1,if_neg (show ¬q<(n:Int)+1 by omega)];omega
theorem zF {E:Pd} {i:Int}(h:0≤i∧i<(E.n:Int)):E.ao.take i.toNat++ [E.ent i.toNat]=E.ao.take (i+1).toNat:=by
 rw [show(i+1).toNat=i.toNat+1 by omega,List.take_add_one,Pd.o3 (by omega)];rfl
structure kh(D:DB)(p lo:Int)(n:Nat)(x:Int)(l:List U32):Prop where
 len:l.length=n
 val:∀i:Nat,(i:Int)<x→i<n→l[i]? =some ⟨D.word p (lo+(i:Int))⟩
theorem kh.init(D:DB)(p lo:Int)(n:Nat):kh D p lo n 0 (List.replicate n (U32.mk 0)):=⟨by simp,fun i h=>by omega⟩
theorem kh.next {D:DB} {p lo x:Int} {n:Nat} {l:List U32}(h:kh D p lo n x l)(h0:0≤x)(hx:x<(n:Int))(hl:0≤lo∧lo<1024∧n<1024):kh D p lo n (i64.wrap (x+1)) (l.set x.toNat ⟨D.word p (i64.wrap (lo+x))⟩):=by
 rw [ak (by omega),ak (by omega)]
 refine⟨by simp [h.len],fun i hi hn=>?_⟩
 rw [List.getElem?_set]
 by_cases No:x.toNat=i
 ·rw [if_pos No,if_pos (by rw [h.len];omega),show(i:Int)=x by omega]
 ·rw [if_neg No];exact h.val i (by omega) hn
theorem kh.done {D:DB} {p lo x:Int} {n:Nat} {l:List U32}(h:kh D p lo n x l)(hx:(n:Int)≤x):D.some_ p lo n=l:=by
 apply List.ext_getElem?
 intro i
 by_cases hi:i<n
 ·rw [h.val i (by omega) hi]
  simp [DB.some_,hi]
 ·rw [List.getElem?_eq_none (by simp [DB.some_];omega),List.getElem?_eq_none (by rw [h.len];omega)]
namespace DB
def bR(D:DB)(p:Int):Int:=if D.is (D.at_ p).owner 1 then(D.at_ p).owner else -1
def pgs(D:DB)(t o:Int)(n:Nat):List I64:=((List.range n).filter fun(q:Nat)=>(D.at_ (q:Int)).typ==t && (D.at_ (q:Int)).owner==o).map fun(q:Nat)=>⟨(q:Int)⟩
theorem uo(D:DB)(t o:Int) {i:Int}(h:0≤i∧i<9000000000000000000):D.pgs t o (i64.wrap (i+1)).toNat=if((D.at_ i).typ==t && (D.at_ i).owner==o)=true then D.pgs t o i.toNat++ [⟨i⟩]else D.pgs t o i.toNat:=by
 rw [ak (by omega),show(i+1).toNat=i.toNat+1 by omega]
 unfold pgs
 rw [List.range_succ,List.filter_append,List.map_append]
 have e:((i.toNat:Nat):Int)=i:=by omega
 split<;>rename_i hc<;>simp [e,hc]
theorem iE(D:DB)(t o:Int)(n:Nat):(D.pgs t o n).length≤n:=by
 unfold pgs
 rw [List.length_map]
 have:=List.length_filter_le (fun(q:Nat)=>(D.at_ (q:Int)).typ==t && (D.at_ (q:Int)).owner==o) (List.range n)
 rwa [List.length_range]at this
theorem xf {D:DB} {t o:Int} {x:I64}:x∈D.pgs t o D.S↔D.of x.v t o=true:=by
 unfold pgs of is has
 rw [List.mem_map]
 constructor
 ·rintro⟨q,hq,rfl⟩
  rw [List.mem_filter,List.mem_range]at hq
  have h2:=hq.2
  simp only [Bool.and_eq_true]at h2 ⊢
  exact⟨⟨by simp;exact hq.1,h2.1⟩,h2.2⟩
 ·intro h
  simp only [Bool.and_eq_true,decide_eq_true_eq]at h
  refine⟨x.v.toNat,?_,?_⟩
  ·rw [List.mem_filter,List.mem_range,show((x.v.toNat:Nat):Int)=x.v by omega]
   exact⟨by omega,by rw [Bool.and_eq_true];exact⟨h.1.2,h.2⟩⟩
  ·rw [show((x.v.toNat:Nat):Int)=x.v by omega]
theorem sC(D:DB)(t o:Int):((D.pgs t o D.S).length:Int)=cm (fun q=>D.of q t o) D.S:=by
 unfold pgs cm
 rw [List.length_map,← List.countP_eq_length_filter,Int.toNat_natCast]
 congr 1
 apply List.countP_congr
 intro q hq
 have:=List.mem_range.1 hq
 simp only [of,is,has]
 rw [show decide (0≤(q:Int)∧(q:Int)<(D.S:Int))=true by simp;omega,Bool.true_and]
theorem EK {D:DB} {t o:Int}(h:((D.pgs t o D.S).length:Int)=1)(x:Int):D.of x t o=(x==((D.pgs t o D.S).getD (Int.toNat 0) (I64.mk 0)).v):=by
 have hx:=xf (D:=D) (t:=t) (o:=o) (x:=⟨x⟩)
 obtain⟨y,hy⟩:=List.length_eq_one_iff.1 (show(D.pgs t o D.S).length=1 by omega)
 rw [hy]at hx ⊢
 rw [List.mem_singleton]at hx
 rw [Bool.eq_iff_iff,← hx,beq_iff_eq]
 show I64.mk x=y↔x=y.v
 cases y
 simp
theorem first_eq {D:DB} {p:Int}(hS:D.S≤64):(((((D.pgs 3 p D.S).length:Nat):Int)==1) && (D.word p 0==u32.wrap ((D.pgs 3 p D.S).getD (Int.toNat 0) (I64.mk 0)).v))=(cm (fun q=>D.of q 3 p) D.S==1 && D.of (D.word p 0) 3 p):=by
 rw [sC]
 by_cases h:cm (fun q=>D.of q 3 p) D.S=1
 ·have h1:((D.pgs 3 p D.S).length:Int)=1:=by rw [sC];exact h
  have h2:=EK h1
  have h3:=h2 ((D.pgs 3 p D.S).getD (Int.toNat 0) (I64.mk 0)).v
  rw [beq_self_eq_true]at h3
  unfold of is has at h3
  simp only [Bool.and_eq_true,decide_eq_true_eq]at h3
  rw [h2,cJ (by omega)]
 ·rw [show(cm (fun q=>D.of q 3 p) D.S==1)=false by simpa using h];rfl
theorem EO {D:DB} {t o q:Int} {l:List I64}(hl:l=D.pgs t o D.S)(h:∀j:Nat,(j:Int)<(l.length:Int)→¬(l.getD j (I64.mk 0)).v=q):D.of q t o=false:=by
 cases hc:D.of q t o
 ·rfl
 ·exfalso
  have hm:=xf (x:=⟨q⟩).2 hc
  rw [← hl]at hm
  obtain⟨j,hj,he⟩:=List.mem_iff_getElem.1 hm
  exact h j (by omega) (by rw [List.getD_eq_getElem?_getD,List.getElem?_eq_getElem hj,he];rfl)
theorem G4 {D:DB} {t o q x:Int} {l:List I64}(hl:l=D.pgs t o D.S)(hx:0≤x∧x<(l.length:Int))(h:(l.getD x.toNat (I64.mk 0)).v=q):D.of q t o=true:=by
 have hi:x.toNat<l.length:=by omega
 rw [List.getD_eq_getElem?_getD,List.getElem?_eq_getElem hi]at h
 have hm:l[x.toNat]∈l:=List.getElem_mem hi
 have Lp:l[x.toNat]∈D.pgs t o D.S:=hl▸hm
 rw [← h]
 exact xf.1 Lp
theorem vf(D:DB)(p:Int):D.clause 1 p=((D.at_ p).typ !=1 || (D.at_ p).owner==p):=rfl
theorem ve(D:DB)(p:Int):D.clause 2 p=((D.at_ p).typ !=0 || D.zero p 0 1024):=rfl
theorem vd(D:DB)(p:Int):D.clause 3 p=((D.at_ p).typ==1 || ((D.at_ p).typ==0 || D.is (D.at_ p).owner 1)):=rfl
theorem vc(D:DB)(p:Int):D.clause 4 p=((D.at_ p).typ !=1 || (D.at_ p).refs==((D.cR p D.S).length:Int)):=rfl
theorem lL(D:DB)(p:Int):D.clause 5 p=((D.at_ p).typ !=1 || D.iy p):=rfl
theorem vb(D:DB)(p:Int):D.clause 6 p=((D.at_ p).typ !=1 || D.sm p):=rfl
theorem u9(D:DB)(p:Int):D.clause 7 p=((D.at_ p).typ !=1 || D.so p):=rfl
theorem g5(D:DB)(p:Int):D.clause 8 p=((D.at_ p).typ !=3 || (!D.alive p || D.iw p)):=rfl
theorem jw(D:DB)(p:Int):D.clause 9 p=((D.at_ p).typ !=4 || (!D.alive p || D.qK p)):=rfl
theorem mH(D:DB)(p:Int):D.clause 10 p=((D.at_ p).typ !=5 || (!D.alive p || D.qJ p)):=rfl
theorem rB(D:DB)(p:Int):D.clause 11 p=((D.at_ p).typ !=2 || D.nH p):=rfl
theorem rA(D:DB)(p:Int):D.clause 12 p=((D.at_ p).typ !=6 || D.zero p 0 1024):=rfl
structure Nms(D:DB)(p x count:Int)(l:List Bl):Prop where
 len:l.length=64
 ok:fZ (D.iF p) 0 x=true
 once:∀q:Int,0≤q→q<64→D.named p x q≤1∧(l.getD q.toNat (Bl.mk false)).v=(D.named p x q==1)
 cnt:count=cm (fun q=>D.named p x q==1) D.S
theorem Nms.init(D:DB)(p:Int):Nms D p 0 0 (List.replicate (Int.toNat 64) (Bl.mk false)):=by
 refine⟨by simp,g7 (Int.le_refl _),fun q h1 h2=>⟨by show(0:Int)≤1;omega,?_⟩,?_⟩
 ·rw [List.getD_eq_getElem?_getD,List.getElem?_replicate,if_pos (by omega)];rfl
 ·exact(jV (f:=fun q=>D.named p 0 q==1) fun x _ _=>rfl).symm
theorem uC {D:DB} {p x q:Int}(hx:0≤x)(hw:D.word p x=0):D.named p (x+1) q=D.named p x q:=by
 rw [fJ D p q hx,hw];simp
theorem Nms.skip {D:DB} {p x c:Int} {l:List Bl}(h:Nms D p x c l)(hx:0≤x)(hw:D.word p x=0):Nms D p (x+1) c l:=by
 refine⟨h.len,eG h.ok (by unfold iF;rw [hw];rfl) rfl,fun q h1 h2=>by rw [uC hx hw];exact h.once q h1 h2,?_⟩
 rw [h.cnt]
 exact o8 fun q _ _=>by rw [uC hx hw]
theorem Nms.put {D:DB} {p x c:Int} {l:List Bl}(h:Nms D p x c l)(hx:0≤x)(UW:0≤D.word p x)(hw:¬D.word p x=0)(he:iZ (D.word p x)=0)(hl:(l.getD (aL (D.word p x)).toNat (Bl.mk false)).v=false)(ho:D.of (aL (D.word p x)) 4 (D.at_ p).owner=true):
 Nms D p (x+1) (c+1) (l.set (aL (D.word p x)).toNat (Bl.mk true)):=by
 have hp:=nM UW
 have Mu:0≤aL (D.word p x)∧aL (D.word p x)<(D.S:Int):=by
  unfold of is has at ho
  simp only [Bool.and_eq_true,decide_eq_true_eq]at ho
  exact ho.1.1
 have step:∀q,D.named p (x+1) q=D.named p x q+(if aL (D.word p x)=q then 1 else 0):=fun q=>by
  rw [fJ D p q hx]
  by_cases hq:aL (D.word p x)=q<;>simp [hq,hw]
 have h1:=h.once _ hp.1 hp.2
 rw [hl]at h1
 have h0:D.named p x (aL (D.word p x))=0:=by
  have On:0≤D.named p x (aL (D.word p x)):=gn
  have h2:=h1.2
  have:¬D.named p x (aL (D.word p x))=1:=by simpa using h2.symm
  omega
 refine⟨by simp [h.len],eG h.ok (by unfold iF;rw [he,ho];simp) rfl,fun q a b=>?_,?_⟩
 ·rw [step,List.getD_eq_getElem?_getD,List.getElem?_set]
  by_cases hq:aL (D.word p x)=q
  ·subst hq
   rw [if_pos rfl,if_pos rfl,if_pos (by rw [h.len];omega),h0]
   exact⟨by omega,rfl⟩
  ·rw [if_neg hq,if_neg (by omega),← List.getD_eq_getElem?_getD,Int.add_zero]
   exact h.once q a b
 ·rw [u7 (f:=fun q=>D.named p x q==1) (q:=aL (D.word p x)) Mu.1 (by rw [h0];rfl) (by rw [step,h0,if_pos rfl];rfl) (fun y _ _ hy=>by rw [step,if_neg (fun e=>hy e.symm),Int.add_zero]),if_pos Mu.2,← h.cnt]
theorem Nms.bad {D:DB} {p x c:Int} {l:List Bl}(h:Nms D p x c l)(hx:0≤x∧x<256)(UW:0≤D.word p x)(hw:¬D.word p x=0)(hb:iZ (D.word p x)=0→D.of (aL (D.word p x)) 4 (D.at_ p).owner=true→(l.getD (aL (D.word p x)).toNat (Bl.mk false)).v=true):D.iw p=false:=by
 unfold iw
 by_cases hn:D.iF p x=true
 ·unfold iF at hn
  simp only [Bool.or_eq_true,beq_iff_eq,hw,false_or,Bool.and_eq_true]at hn
  have hp:=nM UW
  have h1:=h.once _ hp.1 hp.2
  rw [hb hn.1 hn.2]at h1
  have h1:D.named p x (aL (D.word p x))=1:=by simpa using h1.2.symm
  have h2:D.named p (x+1) (aL (D.word p x))=2:=by
   rw [fJ D p _ hx.1,h1];simp [hw]
  have h3:D.named p (x+1) (aL (D.word p x))≤D.named p 256 (aL (D.word p x)):=Af (by omega)
  have ho:=hn.2
  unfold of is has at ho
  simp only [Bool.and_eq_true,decide_eq_true_eq]at ho
  rw [fN (f:=fun q=>!(decide (D.named p 256 q>1) || (D.of q 4 (D.at_ p).owner && D.named p 256 q==0))) ho.1.1.1 ho.1.1.2 (by simp;omega)]
  simp
 ·rw [fN (f:=D.iF p) hx.1 hx.2 (by simpa using hn)]
  simp
theorem Nms.done {D:DB} {p c:Int} {l:List Bl}(hS:D.S≤64)(h:Nms D p 256 c l)(hz:D.zero p 256 1024=true):D.iw p=(c==((D.pgs 4 (D.at_ p).owner D.S).length:Int)):=by
 have O7:=u6 (f:=fun q=>D.named p 256 q==1) (g:=fun q=>D.of q 4 (D.at_ p).owner) (n:=(D.S:Int)) (by omega) fun q h1 h2 hq=>by
  have hq:D.named p 256 q=1:=by simpa using hq
  have:∃i,0≤i∧i<256∧(D.word p i !=0 && aL (D.word p i)==q)=true:=by
   apply Classical.byContradiction
   intro hn
   have:=jV (f:=fun i=>D.word p i !=0 && aL (D.word p i)==q) (n:=256) fun i a b=>by
    cases hc:(D.word p i !=0 && aL (D.word p i)==q)
    ·rfl
    ·exact absurd ⟨i,a,b,hc⟩ hn
   unfold named at hq
   omega
  obtain⟨i,a,b,hi⟩:=this
  have hk:=bO.1 h.ok i a b
  simp only [Bool.and_eq_true,bne_iff_ne,ne_eq,beq_iff_eq]at hi
  unfold iF at hk
  simp only [Bool.or_eq_true,beq_iff_eq,hi.1,false_or,Bool.and_eq_true]at hk
  rw [← hi.2];exact hk.2
 unfold iw
 rw [hz,h.ok,Bool.true_and,Bool.true_and,sC,h.cnt,Bool.eq_iff_iff,bO,beq_iff_eq]
 constructor
 ·intro hA
  refine Int.le_antisymm O7.1 ?_
  refine(u6 (by omega) fun q a b hq=>?_).1
  have:=hA q a b
  simp only [hq,Bool.true_and,Bool.not_eq_true',Bool.or_eq_false_iff,decide_eq_false_iff_not,beq_eq_false_iff_ne]at this
  have On:0≤D.named p 256 q:=gn
  simp only [beq_iff_eq]
  omega
 ·intro he q a b
  have h1:=(h.once q a (by omega)).1
  cases ho:D.of q 4 (D.at_ p).owner
  ·simp;omega
  ·have:=O7.2 he q a b ho
   have:D.named p 256 q=1:=by simpa using this
   simp [this]
def gM(D:DB)(p:Int)(l:List I64)(x:Int):Int:=((l.take x.toNat).map fun q=>cm (D.iK p q.v) 1024).sum
theorem om {D:DB} {p:Int} {l:List I64} {x:Int}(h:0≤x∧x<(l.length:Int)):D.gM p l (x+1)=D.gM p l x+cm (D.iK p (l.getD x.toNat (I64.mk 0)).v) 1024:=by
 unfold gM
 have hx:x.toNat<l.length:=by omega
 rw [show(x+1).toNat=x.toNat+1 by omega,List.take_add_one,List.getElem?_eq_getElem hx,List.map_append,List.sum_append,List.getD_eq_getElem?_getD,List.getElem?_eq_getElem hx]
 simp
theorem qN {D:DB} {p:Int} {l:List I64} {x:Int}(hx:0≤x):0≤D.gM p l x∧D.gM p l x≤1024*x:=by
 obtain⟨n,rfl⟩:=Int.eq_ofNat_of_zero_le hx
 induction n with
 | zero=>simp [gM]
 | succ n ih=>
  by_cases hn:n<l.length
  ·have h1:=om (D:=D) (p:=p) (l:=l) (x:=(n:Int)) ⟨by omega,by omega⟩
   have h2:=ih (by omega)
   have h3:=gn (f:=D.iK p (l.getD n (I64.mk 0)).v) (n:=1024)
   have h4:=lK (f:=D.iK p (l.getD n (I64.mk 0)).v) (n:=1024) (by omega)
   rw [Int.toNat_natCast]at h1
   rw [show((n+1:Nat):Int)=(n:Int)+1 by omega,h1]
   omega
  ·have e:D.gM p l ((n+1:Nat):Int)=D.gM p l (n:Int):=by
    unfold gM
    rw [List.take_of_length_le (by omega),List.take_of_length_le (by omega)]
   rw [e]
   have:=ih (by omega)
   omega
theorem qO {D:DB} {p:Int}:∀ {n:Nat},n≤D.S→D.gj p (n:Int)=((D.pgs 4 (D.at_ p).owner n).map fun q=>cm (D.iK p q.v) 1024).sum
 | 0,_=>rfl
 | n+1,h=>by
  have h1:=sK D p (n:=(n:Int)) (by omega)
  have h2:D.pgs 4 (D.at_ p).owner (n+1)=if((D.at_ (n:Int)).typ==4 && (D.at_ (n:Int)).owner==(D.at_ p).owner)=true then D.pgs 4 (D.at_ p).owner n++ [⟨(n:Int)⟩]else D.pgs 4 (D.at_ p).owner n:=by
   unfold pgs
   rw [List.range_succ,List.filter_append,List.map_append]
   split<;>rename_i hc<;>simp [hc]
  have h3:D.of (n:Int) 4 (D.at_ p).owner=((D.at_ (n:Int)).typ==4 && (D.at_ (n:Int)).owner==(D.at_ p).owner):=by
   unfold of is has
   rw [show decide (0≤(n:Int)∧(n:Int)<(D.S:Int))=true by simp;omega,Bool.true_and]
  rw [show((n+1:Nat):Int)=(n:Int)+1 by omega,h1,qO (by omega),h2,h3]
  split
  ·simp
  ·simp
theorem once_eq {D:DB} {p n x:Int}(hx:x=((D.pgs 4 (D.at_ p).owner D.S).length:Int))(h:n=D.gM p (D.pgs 4 (D.at_ p).owner D.S) x):D.qJ p=(n==1):=by
 unfold qJ
 rw [qO (Nat.le_refl _),h,hx]
 unfold gM
 rw [Int.toNat_natCast,List.take_length]
end DB
def sz(n:Int):Int:=Int.tmod (Int.tmod n 8+8) 8+1
theorem BZ(n:Int):1≤sz n∧sz n≤8:=by
 have h:=Int.tmod_lt_of_pos n (show(0:Int)<8 by decide)
 have h2:=Int.lt_tmod_of_pos n (show(0:Int)<8 by decide)
 have h3:=Int.tmod_lt_of_pos (Int.tmod n 8+8) (show(0:Int)<8 by decide)
 have h4:=Int.tmod_nonneg (a:=Int.tmod n 8+8) 8 (by omega)
 unfold sz;omega
namespace DB
def wr(D:DB)(p o v:Int):DB:=D.aT (D.mem.write true p o v)
theorem tS(D:DB)(p o v:Int):(D.wr p o v).pd=D.pd:=by
 show Pd.mk (D.mem.write true p o v).S D.au D.ent=Pd.mk D.mem.S D.au D.ent
 rw [Mem.cV]
theorem se(D:DB)(p o v:Int):(D.wr p o v).mem=D.mem.write true p o v:=rfl
def act(D:DB)(k a b c v:Int):DB:=
 if k=1 then D.ay a b else if k=2 then D.take a b c else if k=5 then D.setState a b else D.wr a b v
def begun(n i:Int):DB:=DB.new (Mem.fresh (sz n).toNat (sz i).toNat)
end DB
namespace DB
theorem Er(D:DB)(p o v q x:Int):(D.wr p o v).word q x=if(q=p∧x=o)∧D.has p=true∧Mem.b9 o=true then v else D.word q x:=by
 show(D.mem.write true p o v).bQ true q x=_
 unfold Mem.write
 by_cases h:D.mem.has true p && Mem.b9 o
 ·rw [if_pos h]
  simp only [Bool.and_eq_true]at h
  have hp:=Mem.cx h.1
  have ho:=Mem.eC h.2
  show(if(((D.mem.put true p.toNat o.toNat v).tick 1).has true q && Mem.b9 x)=true then _ else _)=_
  rw [show((D.mem.put true p.toNat o.toNat v).tick 1).has true q=D.mem.has true q from rfl]
  by_cases hq:D.mem.has true q && Mem.b9 x
  ·rw [if_pos hq]
   simp only [Bool.and_eq_true]at hq
   have hq1:=Mem.cx hq.1
   have QE:=Mem.eC hq.2
   have hw:D.word q x=D.mem.pg true q.toNat x.toNat:=by show D.mem.bQ true q x=_;unfold Mem.bQ;rw [if_pos (by simp [hq])]
   rw [hw]
   show(if(true=true∧q.toNat=p.toNat)then(if x.toNat=o.toNat then v else D.mem.pg true p.toNat x.toNat)else D.mem.pg true q.toNat x.toNat)=_
   have hh:D.has p=true:=h.1
   by_cases h1:q=p
   ·subst h1
    by_cases h2:x=o
    ·subst h2;rw [if_pos ⟨rfl,rfl⟩,if_pos rfl,if_pos ⟨⟨rfl,rfl⟩,hh,h.2⟩]
    ·rw [if_pos ⟨rfl,rfl⟩,if_neg (by omega),if_neg (fun h=>h2 h.1.2)]
   ·rw [if_neg (by omega),if_neg (fun h=>h1 h.1.1)]
  ·rw [if_neg hq]
   have hw:D.word q x=0:=by show D.mem.bQ true q x=_;unfold Mem.bQ;rw [if_neg hq]
   rw [hw,if_neg]
   rintro⟨⟨rfl,rfl⟩,h3,h4⟩
   exact hq (by simp [h])
 ·rw [if_neg h,if_neg]
  ·rfl
  ·rintro⟨_,h3,h4⟩
   exact h (by rw [show D.mem.has true p=D.has p from rfl,h3,h4];rfl)
theorem tc {D:DB} {c:Int}(h1:1≤c)(h2:c≤13)(h:∀c',1≤c'→c'<c→D.iJ c'=true):D.eO (13 - c).toNat c=D.broken:=by
 obtain⟨n,rfl⟩:∃n:Nat,c=1+(n:Int):=⟨(c - 1).toNat,by omega⟩
 induction n with
 | zero=>rfl
 | succ n ih=>
  rw [← ih (by omega) (by omega) (fun c' a b=>h c' a (by omega)),show(13 - (1+(n:Int))).toNat=(13 - (1+((n+1:Nat):Int))).toNat+1 by omega]
  show _=if D.iJ (1+(n:Int))then _ else _
  rw [if_pos (h _ (by omega) (by omega)),show 1+(n:Int)+1=1+((n+1:Nat):Int)by omega]
theorem Aj {D:DB}(h:∀c,1≤c→c≤12→D.iJ c=true):D.broken=(0,0):=by
 rw [← tc (c:=13) (by omega) (by omega) fun c a b=>h c a (by omega)];rfl
theorem tQ(m:Mem):∀(k:Nat),k≤m.S→∀(p o:Nat),p<k→(m.bL k).pg true p o=0
 | 0,_,p,o,h=>by omega
 | k+1,hk,p,o,h=>by
  show((m.bL k).zero true k).pg true p o=0
  unfold Mem.zero
  rw [if_pos (by unfold Mem.has Mem.cnt;simp;omega)]
  show(if true=true∧p=(k:Int).toNat then 0 else(m.bL k).pg true p o)=0
  by_cases h1:p=k
  ·rw [if_pos (by simp [h1])]
  ·rw [if_neg (by simp;omega)]
   exact tQ m k (by omega) p o (by omega)
theorem Co(m:Mem)(p o:Int):(DB.new m).word p o=0:=by
 show(m.bL m.S).bQ true p o=0
 unfold Mem.bQ
 split
 ·rename_i h
  simp only [Bool.and_eq_true]at h
  refine tQ m m.S (Nat.le_refl _) _ _ ?_
  have:=Mem.cy h.1
  have e:(m.bL m.S).cnt true=m.S:=Mem.ir m m.S
  omega
 ·rfl
theorem tP {D:DB} {p lo hi:Int}:D.zero p lo hi=true↔∀o,lo≤o→o<hi→D.word p o=0:=by
 unfold zero
 rw [bO]
 exact⟨fun h o a b=>by simpa using h o a b,fun h o a b=>by simpa using h o a b⟩
end DB
theorem jm {f:Nat→Int} {cs:Array Value}(hs:cs.size=1024)(h:∀o,o<1024→cs[o]? =some (.int .u32 (f o))):cs=cf ((List.range 1024).map f):=by
 apply Array.ext_getElem?
 intro i
 by_cases hi:i<1024
 ·rw [h i hi,gQ (by simpa using hi),List.getD_eq_getElem?_getD,List.getElem?_map,List.getElem?_range hi];rfl
 ·rw [Array.getElem?_eq_none (by omega),Array.getElem?_eq_none (by simp;omega)]
theorem o2:∀(l l':List Int),l.length=l'.length→eqL (l.map (Value.int .u32)) (l'.map (Value.int .u32))=decide (l=l')
 | [],[],_=>by simp [eqL]
 | a::l,b::l',hl=>by
  have ih:=o2 l l' (by simpa using hl)
  rw [List.map_cons,List.map_cons,eqL,ih]
  by_cases h:a=b
  ·subst h;simp [gI]
  ·simp [gI,h]
theorem lG:∀(l:List Int),bG (kC [.int .u32] l.length) (l.map (Value.int .u32))=true
 | []=>rfl
 | a::l=>by
  have ih:=lG l
  simpa [kC,bG,kEq]using ih
structure pS(w:World)(a n:Nat)(pg:Nat→Nat)(f:Nat→Nat→Int):Prop where
 row:∃T cs,Blk w a cs T∧∀i,i<n→cs[i]? =some (ptr (pg i))
 pgs:∀i,i<n→fl w (pg i) (f i)
theorem pS.pu {w w':World} {a n:Nat} {pg:Nat→Nat} {f:Nat→Nat→Int}(h:pS w a n pg f)(q:Pu w w'):pS w' a n pg f:=by
 obtain⟨⟨T,cs,hr,h2⟩,h3⟩:=h
 exact⟨⟨T,cs,q.blk hr,h2⟩,fun i hi=>(h3 i hi).pu q⟩
theorem bH.qZ {w:World} {L:dA} {m:Mem}(h:bH w L m)(s:Bool):pS w (L.row s) (m.cnt s) (L.pg s) (m.pg s):=⟨h.rows s,h.pgs s⟩
theorem Gi {w:World} {a n:Nat} {pg:Nat→Nat} {f:Nat→Nat→Int}(h:pS w a n pg f)(hn:n≤64):
 Calls prog 53 #[.slice (some (Addr.mk a 0 none)) n n] w fun e w'=>∃v,e= .returned v∧∃g p,v= .slice (some (Addr.mk g 0 none)) n n∧gG w' g n n p f w.heap.size∧Pu w w':=by
 refine wu _ _ _ ?_
 refine jT B8 (by omega) (by omega) (by omega) fun g w1 hM=>?_
 rw [Int.toNat_natCast]at hM ⊢
 refine⟨fun k x w'=>∃i:Nat,x=(i:Int)∧i≤n∧k=n - i∧(∃p,gG w' g n i p f w.heap.size)∧Pu w w',⟨n,0,rfl,by omega,by omega,⟨fun _=>0,⟨⟨_,_,hM.blk,by simp,by simp⟩,by simp,by simp,by simp,by rw [hM.num];exact Nat.le_refl _,by simp⟩⟩,hM.pu⟩,?_⟩
 rintro k _ x w2 ⟨i,rfl,hi,rfl,⟨p,hP⟩,Me⟩
 refine ae (fun hb=>?_) (fun hb=>?_)
 ·have Jv:i<n:=by simpa using hb
  have h2:=h.pu Me
  obtain⟨T0,TG,Og,Vz⟩:=h2.row
  obtain⟨T1,TF,PI,Lo,Uh⟩:=h2.pgs i Jv
  refine⟨⟨by omega,by omega⟩,ai _ rfl ⟨some (Addr.mk (pg i) 0 none),by rw [Nat.mul_one,Int.toNat_natCast];exact Og.at (Vz i Jv),ai _ rfl ⟨TF,⟨Lo,fun j u hj=>PI.at hj⟩,?_⟩⟩⟩
  intro q w3 hq Nb
  have PT:=made hq Nb
  have U7:∀v∈TF.toList,one? v True:=by rw [jm Lo Uh];exact Cb
  refine⟨Lo,U7,mi PT.blk (by simpa using Lo) fun w4 TZ=>?_⟩
  have KF:fl w4 q (f i):=⟨_,_,TZ.blk,by simpa using Lo,fun o ho=>by simpa using Uh o ho⟩
  have hqn:w2.heap.size≤q:=by rw [PT.num];exact Nat.le_refl _
  have h24:Pu w2 w4:=(Ch.stored (X:=fun _=>False) (PT.pu) TZ (.inr hqn))
  obtain⟨T,cs,hr,Js,Oi⟩:=hP.more (w2:=w4) h24 KF hqn Jv Me.size
  refine⟨⟨by omega,by omega⟩,ai _ rfl ?_⟩
  rw [Nat.mul_one,Int.toNat_natCast]
  refine bV hr Js fun w5 hs=>⟨n - (i+1),by omega,i+1,?_,Jv,rfl,⟨_,Oi _ hs⟩,?_⟩
  ·rw [ak (by omega)];omega
  ·have hg:w.heap.size≤g:=hP.low.1
   exact((Me.trans h24).mono (by simp):Ch (fun _=>False) w w4).stored hs (.inr hg)
 ·have:i=n:=by simp at hb;omega
  subst this
  exact⟨g,p,rfl,hP,Me⟩
theorem Cv {w:World} {L:dA} {m:Mem}(h:bH w L m):
 Calls prog 21 #[ptr L.g] w fun e w'=>∃v,e= .returned v∧∃L':dA,v=ptr L'.g∧bH w' L' m∧(∀k,L'.X k→w.heap.size≤k)∧Pu w w':=by
 refine tB _ ?_
 obtain⟨T,hd⟩:=h.hd
 have hD:Pu w w.drew:=Pu.cu w
 have hd1:=hD.blk hd
 refine⟨fun _ k=>k=L.g,ai _ rfl ⟨by rw [block_add],_,_,_,hd1.at rfl,ai _ rfl ⟨by rw [block_add],_,_,_,hd1.at rfl,ai _ rfl ⟨by rw [block_add],_,hd1.at rfl,?_⟩⟩⟩⟩
 refine(Gi ((h.qZ true).pu hD) h.cF.1).mono ?_
 rintro e w1 ⟨_,rfl,a,pa,rfl,hA,Ja⟩
 have hg1:L.g<w.drew.heap.size:=hd1.lt
 refine⟨_,_,_,rfl,Ja.ef (fun k hk=>by have:k=L.g:=(by simpa [cn]using hk);rw [this];exact hg1),fun _ k=>k=L.g,fun _ k hk=>hk,?_⟩
 refine(Gi (((h.qZ false).pu hD).pu Ja) h.cF.2).mono ?_
 rintro e w2 ⟨_,rfl,b,pb,rfl,hB,Jw⟩
 have h12:=Jw.size
 have h01:=Ja.size
 have h0:=hD.size
 refine⟨_,_,_,rfl,Jw.ef (fun k hk=>by have:k=L.g:=(by simpa [cn]using hk);rw [this];omega),fun _ k=>k=L.g,fun _ k hk=>hk,?_⟩
 intro g w3 hg Nb
 have hM:=made hg Nb
 refine⟨hM.kept.mono (fun k hk=>by have:k=L.g:=(by simpa [cn]using hk);rw [this];omega),fun _ k=>k=L.g,fun _ k hk=>hk,?_⟩
 have TC:=(hA.pu Jw).pu hM.pu
 have TB:=hB.pu hM.pu
 have Qn:∀j,j<m.S→pa j<w1.heap.size:=fun j hj=>(hA.pgs j hj).lt
 have JE:a<w1.heap.size:=by obtain⟨T,cs,hr,_⟩:=hA.row;exact hr.lt
 have Qm:∀j,j<m.I→pb j<w2.heap.size:=fun j hj=>(hB.pgs j hj).lt
 have hbg:b<w2.heap.size:=by obtain⟨T,cs,hr,_⟩:=hB.row;exact hr.lt
 have hgn:=hM.num
 refine⟨⟨g,a,b,fun s=>match s with | true=>pa | false=>pb,fun s=>m.cnt s⟩,rfl,⟨fun s=>rfl,⟨(82,T.2),hM.blk⟩,fun s=>?_,fun s i hi=>?_,fun s i s' i' hi Jv e=>?_,⟨by show a≠g;omega,by show b≠g;omega,fun s i hi=>?_⟩,h.u32,h.cF⟩,?_,((hD.trans Ja).trans Jw).trans hM.pu⟩
 ·cases s
  ·obtain⟨T,cs,hr,_,h2⟩:=TB.row;exact⟨T,cs,hr,h2⟩
  ·obtain⟨T,cs,hr,_,h2⟩:=TC.row;exact⟨T,cs,hr,h2⟩
 ·cases s
  ·exact TB.pgs i hi
  ·exact TC.pgs i hi
 ·cases s<;>cases s'<;>simp only [Mem.cnt]at hi Jv<;>simp only at e
  ·exact⟨rfl,hB.inj _ _ hi Jv e⟩
  ·have:=hB.low.2 i hi;have:=Qn i' Jv;omega
  ·have:=hB.low.2 i' Jv;have:=Qn i hi;omega
  ·exact⟨rfl,hA.inj _ _ hi Jv e⟩
 ·cases s<;>simp only [Mem.cnt]at hi<;>simp only
  ·have:=hB.low.2 i hi;have:=Qm i hi;have:=hB.dis i hi
   refine⟨?_,?_,this⟩<;>omega
  ·have:=hA.low.2 i hi;have:=Qn i hi;have h3:=hA.dis i hi;have:=hB.low.1
   refine⟨?_,h3,?_⟩<;>omega
 ·rintro k (rfl | rfl | rfl | ⟨s,i,hi,rfl⟩)
  ·omega
  ·have:=hA.low.1;omega
  ·have:=hB.low.1;omega
  ·cases s<;>simp only [Mem.cnt]at hi<;>simp only
   ·have:=hB.low.2 i hi;omega
   ·have:=hA.low.2 i hi;omega
def jy(n n':Nat)(f g:Nat→Nat→Int):Bool:=decide (n=n') && (List.range n).all fun i=>(List.range 1024).all fun o=>f i o==g i o
theorem eH {n n':Nat} {f g:Nat→Nat→Int}:jy n n' f g=true↔n=n'∧∀i,i<n→∀o,o<1024→f i o=g i o:=by simp [jy]
theorem vw {n n':Nat} {f g:Nat→Nat→Int}(h:¬(n=n'∧∀i,i<n→∀o,o<1024→f i o=g i o)):jy n n' f g=false:=by
 rw [← Bool.not_eq_true,eH];exact h
theorem Cw {w:World} {a b n n':Nat} {pa pb:Nat→Nat} {f g:Nat→Nat→Int}(h1:pS w a n pa f)(h2:pS w b n' pb g)(hn:n≤64):
 Calls prog 24 #[.slice (some (Addr.mk a 0 none)) n n,.slice (some (Addr.mk b 0 none)) n' n'] w fun e w'=>∃v,e= .returned v∧v= .bool (jy n n' f g)∧Pu w w':=by
 refine tD _ _ _ _ _ _ ?_
 refine aG (fun c=>?_) (fun c=>?_)
 ·exact⟨by rw [vw (by rintro⟨e,_⟩;exact c (by rw [e]))],Ch.refl _ _⟩
 obtain rfl:n=n':=by omega
 refine⟨fun k x w'=>∃i:Nat,x=(i:Int)∧i≤n∧k=n - i∧(∀j,j<i→∀o,o<1024→f j o=g j o)∧Pu w w',⟨n,0,rfl,by omega,by omega,by simp,Ch.refl _ _⟩,?_⟩
 rintro k _ x w2 ⟨i,rfl,hi,rfl,JF,Me⟩
 refine ae (fun hb=>?_) (fun hb=>?_)
 ·have Jv:i<n:=by simpa using hb
  have hq:=Me.drew
  have g1:=h1.pu hq
  have g2:=h2.pu hq
  obtain⟨T0,TG,Og,Vz⟩:=g1.row
  obtain⟨T1,TF,PI,Lo,Uh⟩:=g1.pgs i Jv
  obtain⟨T2,TE,Py,Oq⟩:=g2.row
  obtain⟨T3,cs3,hb3,Px,Tt⟩:=g2.pgs i Jv
  refine⟨⟨by omega,by omega⟩,ai _ rfl ⟨some (Addr.mk (pa i) 0 none),by rw [Nat.mul_one,Int.toNat_natCast];exact Og.at (Vz i Jv),ai _ rfl ⟨TF,⟨Lo,fun j u hj=>PI.at hj⟩,⟨by omega,by omega⟩,ai _ rfl ⟨some (Addr.mk (pb i) 0 none),by rw [Nat.mul_one,Int.toNat_natCast];exact Py.at (Oq i Jv),ai _ rfl ⟨cs3,⟨Px,fun j u hj=>hb3.at hj⟩,?_⟩⟩⟩⟩⟩
  rw [jm Lo Uh,jm Px Tt]
  have hf:∀l:List Int,l.length=1024→bG (kC [.int .u32] 1024) (cf l).toList=true:=fun l hl=>by rw [← hl];simpa [cf]using lG l
  refine⟨hf _ (by simp),hf _ (by simp),?_⟩
  have he:aK (cf ((List.range 1024).map (f i))) (cf ((List.range 1024).map (g i)))=true↔∀o,o<1024→f i o=g i o:=by
   unfold aK cf
   rw [show((List.range 1024).map (f i)).map (Value.int .u32)=(((List.range 1024).map (f i)).map (Value.int .u32))from rfl,List.toList_toArray,List.toList_toArray,o2 _ _ (by simp),decide_eq_true_eq]
   constructor
   ·intro e o ho
    have:=congrArg (fun l=>l[o]?) e
    simpa [List.getElem?_map,List.getElem?_range ho]using this
   ·exact fun e=>List.map_congr_left fun o ho=>e o (by simpa using ho)
  refine aY (fun c=>?_) (fun c=>?_)
  ·have c:¬∀o,o<1024→f i o=g i o:=fun e=>by rw [he.2 e]at c;cases c
   exact⟨by rw [vw (by rintro⟨_,e⟩;exact c (e i Jv))],hq⟩
  ·exact⟨n - (i+1),by omega,i+1,by rw [ak (by omega)];omega,Jv,rfl,fun j hj=>by
    by_cases e:j=i
    ·rw [e];exact he.1 c
    ·exact JF j (by omega),hq⟩
 ·have:i=n:=by simp at hb;omega
  subst this
  exact⟨by rw [eH.2 ⟨rfl,JF⟩],Me⟩
def Mem.same(m o:Mem):Bool:=jy m.S o.S (m.pg true) (o.pg true) && jy m.I o.I (m.pg false) (o.pg false)
theorem HX {w:World} {L L':dA} {m o:Mem}(h:bH w L m)(h2:bH w L' o):
 Calls prog 10 #[ptr L.g,ptr L'.g] w fun e w'=>∃v,e= .returned v∧v= .bool (m.same o)∧Pu w w':=by
 refine wg _ _ ?_
 refine⟨fun x w'=>x=m.same o∧Pu w w',?_,fun _ x w' ⟨hx,q⟩=>⟨by rw [hx],q⟩⟩
 obtain⟨T,hd⟩:=h.hd
 obtain⟨T',hd'⟩:=h2.hd
 have hD:Pu w w.drew:=Pu.cu w
 have d1:=hD.blk hd
 have d2:=hD.blk hd'
 refine⟨fun _ k=>k=L.g∨k=L'.g,ai _ rfl ⟨by rw [block_add];exact .inl rfl,_,_,_,d1.at rfl,ai _ rfl ⟨by rw [block_add];exact .inr rfl,_,_,_,d2.at rfl,?_⟩⟩⟩
 refine(Cw ((h.qZ true).pu hD) ((h2.qZ true).pu hD) h.cF.1).mono ?_
 rintro e w1 ⟨_,rfl,rfl,Ja⟩
 have Jt:∀k,k=L.g∨k=L'.g→k<w.drew.heap.size:=by rintro k (rfl | rfl);exact d1.lt;exact d2.lt
 refine⟨_,rfl,Ja.ef (fun k hk=>Jt k (by simpa [cn]using hk)),fun _ k=>k=L.g∨k=L'.g,fun _ k hk=>hk,?_⟩
 refine ae (fun c=>?_) (fun c=>?_)
 ·have e1:=Ja.blk d1
  have e2:=Ja.blk d2
  have h01:=Ja.size
  refine ai _ rfl ⟨by rw [block_add];exact .inl rfl,_,_,_,e1.at rfl,ai _ rfl ⟨by rw [block_add];exact .inr rfl,_,_,_,e2.at rfl,?_⟩⟩
  refine(Cw (((h.qZ false).pu hD).pu Ja) (((h2.qZ false).pu hD).pu Ja) h.cF.2).mono ?_
  rintro e w2 ⟨_,rfl,rfl,Jw⟩
  refine⟨_,rfl,Jw.ef (fun k hk=>by have:=Jt k (by simpa [cn]using hk);omega),fun _ k=>k=L.g∨k=L'.g,fun _ k hk=>hk,?_,(hD.trans Ja).trans Jw⟩
  have c':jy m.S o.S (m.pg true) (o.pg true)=true:=c
  rw [Mem.same,c',Bool.true_and];rfl
 ·have c':jy m.S o.S (m.pg true) (o.pg true)=false:=c
  exact⟨by rw [Mem.same,c',Bool.false_and],hD.trans Ja⟩
theorem GW(k:Nat)(b:Int)(hb:b=2 ^ k) {x:Int}(hx:0≤x)(h:x % (2*b)<b):nor x b=x+b:=by
 have Mz:b=((2 ^ k:Nat):Int):=by rw [hb];simp
 obtain⟨n,rfl⟩:=Int.eq_ofNat_of_zero_le hx
 rw [Mz]at h ⊢
 unfold nor
 have h2:n % (2*2 ^ k)<2 ^ k:=by exact_mod_cast h
 have e1:n=2 ^ (k+1)*(n / (2*2 ^ k))+n % (2*2 ^ k):=by
  rw [Nat.pow_succ,Nat.mul_comm (2 ^ k) 2];exact(Nat.div_add_mod n _).symm
 have Jt:n % (2*2 ^ k)<2 ^ (k+1):=by rw [Nat.pow_succ];omega
 have Qa:2 ^ k+n % (2*2 ^ k)<2 ^ (k+1):=by rw [Nat.pow_succ];omega
 have e2:n ||| 2 ^ k=n+2 ^ k:=by
  generalize n % (2*2 ^ k)=r at *
  generalize n / (2*2 ^ k)=q at *
  have e3:(2 ^ k ||| r)=2 ^ k+r:=by
   have:=Nat.two_pow_add_eq_or_of_lt h2 1
   rw [Nat.mul_one]at this
   exact this.symm
  rw [e1,Nat.two_pow_add_eq_or_of_lt Jt,Nat.or_assoc,Nat.or_comm r,e3,← Nat.two_pow_add_eq_or_of_lt Qa,← Nat.two_pow_add_eq_or_of_lt Jt]
  omega
 simp only [Int.toNat_natCast]
 rw [e2]
 simp
theorem mZ(k:Nat)(b:Int)(hb:b=2 ^ k)(hk:b<4294967296) {x:Int}(hx:0≤x∧x<4294967296)(h:x % (2*b)<b):u32.wrap (BitVec.ofInt u32.bits x ||| BitVec.ofInt u32.bits b).toNat=x+b:=by
 have h0:0≤b:=by rw [hb];exact Int.pow_nonneg (by omega)
 rw [mw hx ⟨h0,hk⟩,GW k b hb hx.1 h]
theorem zl {x:Int}(hx:0≤x∧x<4294967296):u32.wrap (BitVec.ofInt u32.bits x &&& ~~~(BitVec.ofInt u32.bits 4095)).toNat=x - x % 4096:=by
 obtain⟨n,rfl⟩:=Int.eq_ofNat_of_zero_le hx.1
 have hn:n<2 ^ 32:=by have:=hx.2;omega
 have e:(BitVec.ofInt u32.bits (n:Int) &&& ~~~(BitVec.ofInt u32.bits 4095)).toNat=2 ^ 12*(n / 2 ^ 12):=by
  rw [pj,BitVec.toNat_and,dh (by omega) (by have:=hx.2;omega),show(~~~BitVec.ofInt 32 4095).toNat=2 ^ 12*(2 ^ 20 - 1)from by decide,Int.toNat_natCast]
  apply Nat.eq_of_testBit_eq
  intro i
  rw [Nat.testBit_and,Nat.testBit_two_pow_mul,Nat.testBit_two_pow_mul,Nat.testBit_two_pow_sub_one,Nat.testBit_div_two_pow]
  by_cases h1:12≤i
  ·by_cases h2:i<32
   ·simp [h1,show i - 12<20 by omega,show i - 12+12=i by omega,show 12+(i - 12)=i by omega]
   ·have h3:n.testBit i=false:=Nat.testBit_lt_two_pow (Nat.lt_of_lt_of_le hn (Nat.pow_le_pow_right (by omega) (by omega)))
    simp [h3,show i - 12+12=i by omega,show 12+(i - 12)=i by omega,h1]
  ·simp [h1]
 rw [e,cJ]<;>omega
theorem C5 {x:Int}(hx:0≤x∧x<4294967296):u32.wrap (BitVec.ofInt u32.bits x &&& BitVec.ofInt u32.bits 1023).toNat=x % 1024:=by
 rw [nT hx (by omega)]
 exact mB 10 hx.1
theorem uq {m:Mem}(h:m.Wf)(s:Bool)(p o:Int):0≤m.bQ s p o∧m.bQ s p o<4294967296:=by
 unfold Mem.bQ
 split
 ·exact h.1 _ _ _
 ·omega
theorem ET(p:Mp):0≤p.word∧p.word<4294967296:=by
 unfold Mp.word Mp.bits
 split
 ·rename_i h
  have hp:0≤p.ah∧p.ah<64:=by
   unfold Mp.err at h
   by_cases hp:0≤p.ah∧p.ah<64
   ·exact hp
   ·rw [if_neg hp]at h;omega
  split<;>split<;>split<;>omega
 ·omega
def iX(v:Int):Int:=if 1073741824≤v∨v % 4≠0 then 91 else 0
def vaI(v:Int):Int:=if iX v=0 then v / 4194304 else 0
def vaJ(v:Int):Int:=if iX v=0 then v / 4096 % 1024 else 0
def vaO(v:Int):Int:=if iX v=0 then v / 4 % 1024 else 0
def dW(v:Int):Int:=if v % 4096≠0∨1073741824≤v then 91 else 0
def mgW(v:Int)(a b:Bool):Int:=if dW v=0 then v+1+(if a then 2 else 0)+(if b then 4 else 0)else 0
def qm(w:Int):Bool:=decide (dW (w - w % 4096)=0∧mgW (w - w % 4096) (decide (w / 2 % 2=1)) (decide (w / 4 % 2=1))=w)
def eS(w:Int):Int:=if qm w then 0 else 142
def aF(w:Int):Int:=if qm w then w - w % 4096 else 0
def paW(w:Int):Bool:=qm w && decide (w / 2 % 2=1)
def paX(w:Int):Bool:=qm w && decide (w / 4 % 2=1)
namespace DB
def eA(d:DB)(s:Int):Int:=
 if !d.has s then 5 else if(d.at_ s).typ≠1 then 124 else if(d.at_ s).state=3 then 3 else if d.of (d.word s 0) 3 s then 0 else 124
def tbl(d:DB)(s:Int):Int:=if d.eA s=0 then d.word s 0 else 0
def Dd(d:DB)(s i q:Int):Int:=
 if d.eA s≠0 then d.eA s else if i<0∨256≤i then 4 else if !d.has q then 5 else if !d.of q 4 s then 124 else if d.word (d.tbl s) i≠0 then 140 else 0
def add(d:DB)(s i q:Int):DB:=if d.Dd s i q=0 then d.fq (·.write true (d.tbl s) i (fj q))else d
def qQ(d:DB)(s w:Int):Bool:=iZ w==0 && d.of (aL w) 4 s
def cG(d:DB)(s va:Int):Int:=
 if d.eA s≠0 then d.eA s else if iX va≠0 then 91 else if d.qQ s (d.word (d.tbl s) (vaI va))then 0 else 141
def plP(d:DB)(s va:Int):Int:=aL (d.word (d.tbl s) (vaI va))
def bx(d:DB)(s va:Int):Int:=if d.cG s va≠0 then d.cG s va else if d.word (d.plP s va) (vaJ va)≠0 then 140 else 0
def sA(d:DB)(s va:Int)(p:Mp):Int:=if d.bx s va≠0 then d.bx s va else p.err
def put(d:DB)(s va:Int)(p:Mp):DB:=if d.sA s va p=0 then d.fq (·.write true (d.plP s va) (vaJ va) p.word)else d
end DB
theorem Ha(l:List Int):aK (cf l) (cf l)=true:=by
 unfold aK cf
 rw [List.toList_toArray,o2 _ _ rfl]
 simp
theorem EZ {l:List Int}(hl:l.length=1024):bG (kC [.int .u32] 1024) (cf l).toList=true:=by rw [← hl];simpa [cf]using lG l
theorem G6(n:Nat):bG (kC [.int .u32] n) (Array.replicate n (.int .u32 0)).toList=true:=by
 have:=lG (List.replicate n 0)
 rw [List.length_replicate]at this
 rw [← lf];simpa [cf]using this
def Mem.blank(m:Mem)(s:Bool)(p:Int):Bool:=m.has s p && aK (cf ((List.range 1024).map (m.pg s p.toNat))) (Array.replicate 1024 (.int .u32 0))
theorem Mem.CW {m:Mem} {p:Int}(hp:m.has true p=true)(h:∀o,0≤o→o<1024→m.bQ true p o=0):m.blank true p=true:=by
 unfold blank
 have e:(List.range 1024).map (m.pg true p.toNat)=List.replicate 1024 0:=by
  have h2:(List.range 1024).map (m.pg true p.toNat)=(List.range 1024).map fun _=>(0:Int):=List.map_congr_left fun o ho=>by
   have ho:=List.mem_range.1 ho
   have:=h (o:Int) (by omega) (by omega)
   unfold bQ at this
   rw [if_pos (by rw [hp];simp [b9];omega)]at this
   simpa using this
  rw [h2,List.map_const',List.length_range]
 rw [hp,e,Bool.true_and,← lf]
 exact Ha _
theorem G2 {w:World} {L:dA} {m:Mem}(h:bH w L m)(s:Bool)(p:Int):
 Calls prog 13 #[ptr L.g,fr s p] w fun e w'=>∃v,e= .returned v∧v= .tuple #[.bool (m.blank s p),.int .i64 (m.bJ s p)]∧bH w' L m∧Ch L.X w w':=by
 refine tC _ s p ?_
 intro g1 w1 hg hw
 have hM:=made hg hw
 refine⟨_,_,⟨hM.blk.at rfl,hM.blk.at rfl⟩,(Cu (h.pu hM.pu) s p 1).mono ?_⟩
 rintro e w2 ⟨_,rfl,⟨hh,rfl,h2,hc⟩ | ⟨hh,rfl,hp⟩⟩
 ·refine⟨_,_,rfl,fun b i w'=>w2=w'∧b=m.blank s p∧i=0,ae (fun _=>ai _ rfl ?_) (fun hb=>by simp at hb),?_⟩
  ·have hi:=Mem.cy hh
   obtain⟨T,cs,hr,Js,Kg⟩:=h2.pgs s p.toNat (by simpa using hi)
   refine⟨cs,⟨Js,fun i u hu=>hr.at hu⟩,?_,?_,rfl,?_,rfl⟩
   ·rw [jm Js Kg];exact EZ (by rw [List.length_map,List.length_range])
   ·exact G6 1024
   ·rw [jm Js Kg];simp only [Mem.blank,hh,Bool.true_and,Mem.tick]
  ·rintro _ b i w3 ⟨rfl,rfl,rfl⟩
   refine⟨by simp [Mem.bJ,hh],h2,((Ch.refl _ w).made hM).trans hc⟩
 ·refine⟨_,_,rfl,fun b i w'=>w2=w'∧b=m.blank s p∧i=5,ae (fun hb=>by simp at hb) (fun _=>⟨rfl,by simp [Mem.blank,hh],rfl⟩),?_⟩
  rintro _ b i w3 ⟨rfl,rfl,rfl⟩
  exact⟨by simp [Mem.bJ,hh],(h.pu hM.pu).pu hp,(hM.pu.trans hp).mono (by simp)⟩
theorem eR {w:Int}(h:0≤w∧w<4294967296):0≤aF w∧aF w<4294967296:=by unfold aF;split<;>omega
theorem Hb(a:Mp)(p:Int)(x y:Bool):aK #[.bool a.aO,.int .i64 a.ah,.bool a.write,.bool a.exec] #[.bool true,.int .i64 p,.bool x,.bool y]=decide (a=⟨true,p,x,y⟩):=by
 obtain⟨s,q,u,v⟩:=a
 rw [Bool.eq_iff_iff]
 simp [aK,eqL,gI]
namespace DB
theorem ur(D:DB):D.pd.on D.mem=D:=rfl
theorem HR(D:DB):D.pd.n=D.mem.S:=rfl
def kE(d:DB)(w:Int):Int:=if gi w≠0 then gi w else if d.mem.has (bo w).aO (bo w).ah then 0 else 90
def mpd(d:DB)(w:Int):Mp:=if d.kE w=0 then bo w else Mp.nil
def ew(d:DB)(s va:Int):Int:=if d.cG s va≠0 then d.cG s va else d.kE (d.word (d.plP s va) (vaJ va))
def atM(d:DB)(s va:Int):Mp:=if d.cG s va≠0 then Mp.nil else d.mpd (d.word (d.plP s va) (vaJ va))
def o6(d:DB)(s va:Int):Int:=if d.cG s va≠0 then d.cG s va else if d.word (d.plP s va) (vaJ va)=0 then 92 else 0
def cut(d:DB)(s va:Int):DB:=if d.o6 s va=0 then d.fq (·.write true (d.plP s va) (vaJ va) 0)else d
def bZ(d:DB)(s t r:Int):Int:=if r<(d.S:Int)∧(d.entry r).typ=t∧(d.entry r).owner=s then r else -1
def ly(d:DB)(s r w:Int):Int:=
 if d.bZ s 6 r<0 then 18 else if eS w≠0 then 6 else if d.bx s (aF w)=0 then 0 else if d.bx s (aF w)=140 then 7 else 21
def lx(d:DB)(s r w:Int):DB:=if d.ly s r w=0 then(d.dZ (d.bZ s 6 r) 5).put s (aF w) ⟨true,d.bZ s 6 r,paW w,paX w⟩else d
def nB(d:DB)(s r w:Int):Int:=
 if d.bZ s 5 r<0 then 19 else if eS w≠0 then 6 else if d.ew s (aF w)=141 then 21 else if d.ew s (aF w)=0∧d.atM s (aF w)=⟨true,d.bZ s 5 r,paW w,paX w⟩then 0 else 7
def ku(d:DB)(s r w:Int):DB:=if d.nB s r w=0 then(d.cut s (aF w)).dZ (d.bZ s 5 r) 6 else d
def bk(d:DB)(t:Int):Prop:=d.bb t=0∧(d.entry t).typ=2∧d.bb (d.entry t).owner=0∧(d.entry (d.entry t).owner).typ=1∧(d.entry (d.entry t).owner).state=2∧d.eA (d.entry t).owner=0
def svC(d:DB)(n s r w:Int):Int:=if n=3 then d.ly s r w else d.nB s r w
def svD(d:DB)(n s r w:Int):DB:=if n=3 then d.lx s r w else d.ku s r w
end DB
def gA:List br:= [br.mk 1 6 7 0 0 none 0 0,br.mk 5 6 2 0 0 none 0 0,br.mk 1 0 1 0 0 none 0 0,br.mk 2 2 4 0 0 none 0 0,br.mk 7 1 0 0 513 none 0 0,br.mk 2 3 5 0 0 none 0 0,br.mk 7 2 1 0 775 none 0 0,br.mk 7 2 2 0 261 none 0 0,br.mk 2 4 6 0 0 none 0 0,br.mk 2 5 2 0 0 none 0 0,br.mk 5 0 2 0 0 none 0 0]
theorem Hc {P:Int→Prop}(h:P 0∧P 1∧P 2∧P 3∧P 4∧P 5∧P 6∧P 7∧P 8∧P 9∧P 10)(p:Int)(h0:0≤p)(h1:p<11):P p:=by
 obtain⟨a,b,c,d,e,f,g,i,j,k,l⟩:=h
 rcases(show p=0∨p=1∨p=2∨p=3∨p=4∨p=5∨p=6∨p=7∨p=8∨p=9∨p=10 by omega)with rfl | rfl | rfl | rfl | rfl | rfl | rfl | rfl | rfl | rfl | rfl<;>assumption
theorem yv(i:Int)(h:0≤i∧i<11):((gA.getD i.toNat (br.mk 0 0 0 0 0 none 0 0)).k=1∨(gA.getD i.toNat (br.mk 0 0 0 0 0 none 0 0)).k=2∨(gA.getD i.toNat (br.mk 0 0 0 0 0 none 0 0)).k=5∨(gA.getD i.toNat (br.mk 0 0 0 0 0 none 0 0)).k=7)∧0≤(gA.getD i.toNat (br.mk 0 0 0 0 0 none 0 0)).v∧(gA.getD i.toNat (br.mk 0 0 0 0 0 none 0 0)).v<4294967296:=
 Hc (P:=fun i=>((gA.getD i.toNat (br.mk 0 0 0 0 0 none 0 0)).k=1∨(gA.getD i.toNat (br.mk 0 0 0 0 0 none 0 0)).k=2∨(gA.getD i.toNat (br.mk 0 0 0 0 0 none 0 0)).k=5∨(gA.getD i.toNat (br.mk 0 0 0 0 0 none 0 0)).k=7)∧0≤(gA.getD i.toNat (br.mk 0 0 0 0 0 none 0 0)).v∧(gA.getD i.toNat (br.mk 0 0 0 0 0 none 0 0)).v<4294967296) (by simp [gA]) i h.1 h.2
theorem zf {f:Int→Bool} {a:Int}:∀(m:Nat),0≤a→a<(m:Int)→f a=true→cm f m=cm (fun x=>f x && x !=a) m+1
 | 0,h0,h1,_=>by omega
 | m+1,h0,h1,hf=>by
  have e:((m+1:Nat):Int)=(m:Int)+1:=by omega
  rw [e,cQ (by omega),cQ (by omega)]
  by_cases ha:a=m
  ·have h2:cm (fun x=>f x && x !=a) m=cm f m:=o8 fun x _ h3=>by rw [show(x !=a)=true by rw [bne_iff_ne];omega,Bool.and_true]
   rw [h2,← ha,hf]
   simp
  ·rw [zf m h0 (by omega) hf,show((m:Int) !=a)=true by rw [bne_iff_ne];omega,Bool.and_true]
   omega
theorem o7 {f:Int→Bool} {n a:Int}(ha:0≤a∧a<n)(hf:f a=true)(h:∀x,0≤x→x<n→x≠a→f x=false):cm f n=1:=by
 obtain⟨m,rfl⟩:=Int.eq_ofNat_of_zero_le (show 0≤n by omega)
 rw [zf m ha.1 ha.2 hf,jV]
 ·rfl
 ·intro x h1 h2
  by_cases hx:x=a
  ·simp [hx]
  ·rw [h x h1 h2 hx];rfl
theorem GA {a b c d e f g h:Int} {i:Int}(hp:∀x∈([a,b,c,d,e,f,g,h]:List Int),0≤x∧x<4294967296)(hi:0≤i∧i<8):0≤(([U32.mk a,U32.mk b,U32.mk c,U32.mk d,U32.mk e,U32.mk f,U32.mk g,U32.mk h]:List U32).getD i.toNat (U32.mk 0)).v∧(([U32.mk a,U32.mk b,U32.mk c,U32.mk d,U32.mk e,U32.mk f,U32.mk g,U32.mk h]:List U32).getD i.toNat (U32.mk 0)).v<4294967296:=by
 simp only [List.mem_cons,List.not_mem_nil,or_false,forall_eq_or_imp,forall_eq]at hp
 obtain⟨h0,h1,h2,h3,h4,h5,h6,h7⟩:=hp
 rcases(show i=0∨i=1∨i=2∨i=3∨i=4∨i=5∨i=6∨i=7 by omega)with rfl | rfl | rfl | rfl | rfl | rfl | rfl | rfl<;>assumption
theorem GB {a b c d e f g h:Int} {i:Int}(hi:0≤i∧i<8):(([U32.mk a,U32.mk b,U32.mk c,U32.mk d,U32.mk e,U32.mk f,U32.mk g,U32.mk h]:List U32).getD i.toNat (U32.mk 0)).v=([a,b,c,d,e,f,g,h]:List Int).getD i.toNat 0:=by
 rcases(show i=0∨i=1∨i=2∨i=3∨i=4∨i=5∨i=6∨i=7 by omega)with rfl | rfl | rfl | rfl | rfl | rfl | rfl | rfl<;>rfl
namespace DB
def wrs(D:DB)(p:Int):Int→List Int→DB
 | _,[]=>D
 | o,x::l=>(D.wr p o x).wrs p (o+1) l
theorem tR(p:Int)(x:Int):∀(l:List Int)(D:DB)(o:Int),D.wrs p o (l++ [x])=(D.wrs p o l).wr p (o+l.length) x
 | [],D,o=>by simp [wrs]
 | y::l,D,o=>by
  simp only [List.cons_append,wrs,List.length_cons]
  rw [tR p x l]
  congr 1;omega
theorem wM(p:Int):∀(l:List Int)(D:DB)(o:Int),(D.wrs p o l).pd=D.pd
 | [],_,_=>rfl
 | x::l,D,o=>by show((D.wr p o x).wrs p (o+1) l).pd=_;rw [wM p l,tS]
def je(n:Nat):DB:=(gA.take n).foldl (fun D x=>D.act x.k x.a x.b x.c x.v) (DB.begun 7 1)
def two(q:List Int):DB:=(je 11).wrs 0 3 q
theorem zD {i:Int}(h:0≤i∧i<11):je (i64.wrap (i+1)).toNat=(je i.toNat).act (gA.getD i.toNat ⟨0,0,0,0,0,none,0,0⟩).k (gA.getD i.toNat ⟨0,0,0,0,0,none,0,0⟩).a (gA.getD i.toNat ⟨0,0,0,0,0,none,0,0⟩).b (gA.getD i.toNat ⟨0,0,0,0,0,none,0,0⟩).c (gA.getD i.toNat ⟨0,0,0,0,0,none,0,0⟩).v:=by
 have hl:i.toNat<gA.length:=by show i.toNat<11;omega
 rw [ak (x:=i+1) (by omega),show(i+1).toNat=i.toNat+1 by omega]
 unfold je
 rw [List.take_add_one,List.getElem?_eq_getElem hl,List.foldl_append,List.getD_eq_getElem?_getD,List.getElem?_eq_getElem hl]
 rfl
theorem Ix(D:DB)(k a b c v:Int):(D.act k a b c v).mem.S=D.mem.S:=by
 unfold act ay take setState wr
 (repeat' split)<;>first | rfl | exact Mem.cV .. | (show(((D.mem.write true a 0 b).write true a 1 D.au).write true a 2 0).S=_;rw [Mem.cV,Mem.cV,Mem.cV])
theorem Gz(n:Nat):(je n).mem.S=8:=by
 have h:∀(l:List br)(D:DB),(l.foldl (fun D x=>D.act x.k x.a x.b x.c x.v) D).mem.S=D.mem.S:=fun l=>by
  induction l with
  | nil=>exact fun _=>rfl
  | cons x l ih=>exact fun D=>(ih _).trans (Ix ..)
 exact h _ _
theorem BW {D:DB} {q:List Int} {i:Int}(hl:q.length=8)(hi:0≤i∧i<8):D.wrs 0 3 (q.take (i64.wrap (i+1)).toNat)=(D.wrs 0 3 (q.take i.toNat)).wr 0 (i64.wrap (3+i)) (q.getD i.toNat 0):=by
 have Jt:i.toNat<q.length:=by omega
 rw [ak (x:=i+1) (by omega),ak (x:=3+i) (by omega),show(i+1).toNat=i.toNat+1 by omega,List.take_add_one,List.getElem?_eq_getElem Jt,List.getD_eq_getElem?_getD,List.getElem?_eq_getElem Jt]
 show D.wrs 0 3 (q.take i.toNat++ [q[i.toNat]])=_
 rw [DB.tR,List.length_take]
 congr 1
 omega
def Bw(D:DB)(f:Int→Int→Int):Prop:=D.mem.S=8∧∀p o,0≤p→p<8→0≤o→o<1024→D.word p o=f p o
def upd(f:Int→Int→Int)(p o v q x:Int):Int:=if q=p∧x=o then v else f q x
theorem Bw.mem {D D':DB} {f:Int→Int→Int}(h:Bw D f)(e:D'.mem=D.mem):Bw D' f:=by
 unfold Bw word at *
 rw [e];exact h
theorem Bw.wr {D:DB} {f:Int→Int→Int}(h:Bw D f) {p o v:Int}(hp:0≤p∧p<8)(ho:0≤o∧o<1024):Bw (D.wr p o v) (upd f p o v):=by
 refine⟨?_,fun q x a b c d=>?_⟩
 ·show(D.mem.write true p o v).S=8
  rw [Mem.cV];exact h.1
 ·rw [Er,upd]
  have hh:D.has p=true:=by unfold has S;rw [h.1];simp;omega
  have hk:Mem.b9 o=true:=by unfold Mem.b9;simp;omega
  by_cases hq:q=p∧x=o
  ·rw [if_pos ⟨hq,hh,hk⟩,if_pos hq]
  ·rw [if_neg (fun e=>hq e.1),if_neg hq];exact h.2 q x a b c d
theorem Bw.wrs {p:Int}(hp:0≤p∧p<8):∀(l:List Int) {D:DB} {f:Int→Int→Int} {o:Int},Bw D f→0≤o→o+l.length≤1024→Bw (D.wrs p o l) fun q x=>if q=p∧(o≤x∧x<o+l.length)then l.getD (x - o).toNat 0 else f q x
 | [],D,f,o,h,_,_=>by
  have e:(fun q x=>if q=p∧(o≤x∧x<o+(([]:List Int).length:Int))then([]:List Int).getD (x - o).toNat 0 else f q x)=f:=by
   funext q x;rw [if_neg];intro h;simp at h;omega
  rw [e];exact h
 | y::l,D,f,o,h,h0,hl=>by
  simp only [List.length_cons]at hl
  have:=Bw.wrs hp l (h.wr (v:=y) hp (o:=o) (by omega)) (o:=o+1) (by omega) (by omega)
  refine⟨this.1,fun q x a b c d=>(this.2 q x a b c d).trans ?_⟩
  simp only [upd,List.length_cons]
  by_cases hq:q=p
  ·by_cases hx:x=o
   ·rw [if_neg (by omega),if_pos ⟨hq,hx⟩,if_pos ⟨hq,by omega,by omega⟩,hx,show(o - o).toNat=0 by omega];rfl
   ·by_cases h2:o+1≤x∧x<o+1+l.length
    ·rw [if_pos ⟨hq,h2⟩,if_pos ⟨hq,by omega,by omega⟩,show(x - o).toNat=(x - (o+1)).toNat+1 by omega];rfl
    ·rw [if_neg (fun e=>h2 e.2),if_neg (fun e=>hx e.2),if_neg (by omega)]
  ·rw [if_neg (fun e=>hq e.1),if_neg (fun e=>hq e.1),if_neg (fun e=>hq e.1)]
theorem lr(D:DB)(p t s:Int):(D.take p t s).mem=D.mem:=by unfold take;split<;>rfl
theorem lu(D:DB)(p s:Int):(D.setState p s).mem=D.mem:=by unfold setState;split<;>rfl
theorem Bw.to {D:DB} {f g:Int→Int→Int}(h:Bw D f)(e:∀p o,f p o=g p o):Bw D g:=⟨h.1,fun p o a b c d=>(h.2 p o a b c d).trans (e p o)⟩
theorem eight {P:Int→Prop}(h:P 0∧P 1∧P 2∧P 3∧P 4∧P 5∧P 6∧P 7)(p:Int)(h0:0≤p)(h1:p<8):P p:=by
 obtain⟨a,b,c,d,e,f,g,i⟩:=h
 rcases(show p=0∨p=1∨p=2∨p=3∨p=4∨p=5∨p=6∨p=7 by omega)with rfl | rfl | rfl | rfl | rfl | rfl | rfl | rfl<;>assumption
def W0(p o:Int):Int:=
 if p=0 then(if o=0 then 1 else if o=1 then 1 else 0)else if p=1 then(if o=0 then 513 else 0)
 else if p=2 then(if o=1 then 775 else if o=2 then 261 else 0)else if p=6 then(if o=0 then 7 else 0)else 0
def W(q:List Int)(p o:Int):Int:=if p=0∧(3≤o∧o<11)then q.getD (o - 3).toNat 0 else W0 p o
theorem C0:Bw (begun 7 1) fun _ _=>0:=⟨rfl,fun p o _ _ _ _=>Co _ _ _⟩
theorem two_eq:je 11=(((((((((((begun 7 1).ay 6 7).setState 6 2).ay 0 1).take 2 4 0).wr 1 0 513).take 3 5 0).wr 2 1 775).wr 2 2 261).take 4 6 0).take 5 2 0).setState 0 2:=by kernel_rfl
theorem ts6:((begun 7 1).ay 6 7).mem=((((begun 7 1).wr 6 0 7).wr 6 1 0).wr 6 2 0).mem:=by kernel_rfl
theorem ts0:((((begun 7 1).ay 6 7).setState 6 2).ay 0 1).mem=((((((begun 7 1).ay 6 7).setState 6 2).wr 0 0 1).wr 0 1 1).wr 0 2 0).mem:=by kernel_rfl
theorem Ex:Bw (je 11) W0:=by
 have h1:Bw ((begun 7 1).ay 6 7) _:=((((C0.wr (p:=6) (o:=0) (v:=7) (by omega) (by omega)).wr (p:=6) (o:=1) (v:=0) (by omega) (by omega)).wr (p:=6) (o:=2) (v:=0) (by omega) (by omega))).mem ts6
 have h2:Bw ((((begun 7 1).ay 6 7).setState 6 2).ay 0 1) _:=(((((h1.mem (lu _ 6 2)).wr (p:=0) (o:=0) (v:=1) (by omega) (by omega)).wr (p:=0) (o:=1) (v:=1) (by omega) (by omega)).wr (p:=0) (o:=2) (v:=0) (by omega) (by omega))).mem ts0
 have h3:=((((h2.mem (lr _ 2 4 0)).wr (p:=1) (o:=0) (v:=513) (by omega) (by omega)).mem (lr _ 3 5 0)).wr (p:=2) (o:=1) (v:=775) (by omega) (by omega)).wr (p:=2) (o:=2) (v:=261) (by omega) (by omega)
 have h4:=((h3.mem (lr _ 4 6 0)).mem (lr _ 5 2 0)).mem (lu _ 0 2)
 rw [two_eq]
 refine Bw.to h4 fun p o=>?_
 clear h1 h2 h3 h4
 simp only [upd,W0]
 grind (splits:=30)
theorem Gy {q:List Int}(hq:q.length=8):Bw (two q) (W q):=by
 refine Bw.to (Bw.wrs (p:=0) (by omega) q (o:=3) Ex (by omega) (by omega)) fun p o=>?_
 simp only [W,hq]
 by_cases h:p=0∧(3≤o∧o<11)
 ·rw [if_pos h,if_pos ⟨h.1,h.2.1,by omega⟩]
 ·rw [if_neg h,if_neg (fun e=>h ⟨e.1,e.2.1,by omega⟩)]
def cX(t:Int)(p:Int):Ent:=
 if p=0 then⟨1,0,5,2,false⟩else if p=1 then⟨3,0,0,0,false⟩else if p=2 then⟨4,0,0,0,false⟩else if p=3 then⟨5,0,0,0,false⟩else if p=4 then⟨t,0,0,0,false⟩else if p=5 then⟨2,0,0,0,false⟩else if p=6 then⟨1,6,1,2,false⟩else⟨3,6,0,0,false⟩
structure Nw(D0:DB)(t:Int)(f:Int→Int→Int)(D:DB):Prop where
 bw:Bw D f
 I:D.mem.I=D0.mem.I
 ins:D.mem.pg false=D0.mem.pg false
 e:∀p,0≤p→p<8→D.at_ p=cX t p
theorem Gn(D:DB)(p:Int):D.at_ p=D.pd.ent p.toNat:=rfl
theorem Ak(D:DB):D.au=D.pd.au:=rfl
theorem sr(q:List Int):(two q).pd=(je 11).pd:=wM 0 q _ 3
theorem BX {q:List Int}(hq:q.length=8):Nw (two q) 6 (W q) (two q):=⟨Gy hq,rfl,rfl,fun p h0 h1=>by
 have e:∀p,0≤p→p<8→(je 11).at_ p=cX 6 p:=eight ⟨by kernel_rfl,by kernel_rfl,by kernel_rfl,by kernel_rfl,by kernel_rfl,by kernel_rfl,by kernel_rfl,by kernel_rfl⟩
 rw [← e p h0 h1,Gn,Gn (je 11),sr]⟩
theorem F7(p:Int):∀(l:List Int)(D:DB)(o:Int),(D.wrs p o l).mem.I=D.mem.I
 | [],_,_=>rfl
 | x::l,D,o=>by
  show((D.wr p o x).wrs p (o+1) l).mem.I=_
  rw [F7 p l]
  show(D.mem.write true p o x).I=_
  unfold Mem.write;split<;>rfl
theorem HJ(q:List Int):(two q).mem.I=2:=(F7 0 q _ 3).trans (by kernel_rfl)
theorem wQ(q:List Int):(two q).au=2:=by
 rw [Ak,sr];kernel_rfl
theorem IE(l:List Int):((je 11).wrs 0 3 l).mem.S=(je 11).pd.n:=congrArg Pd.n (wM 0 l _ 3)
theorem HK {q:List Int} {E:Pd} {m:Mem}(he:E=(je 11).pd)(hm:m=(two q).mem):E.on m=two q:=by rw [he,hm,← sr q,ur]
end DB
section
namespace DB
structure Fo(f:Int→Int→Int):Prop where
 a:f 0 0=1
 b:∀i,0≤i→i<1024→f 1 i=if i=0 then 513 else 0
theorem At(q:List Int):Fo (W q):=⟨by simp [W,W0],fun i _ _=>by simp [W,W0]⟩
theorem Fo.upd {f:Int→Int→Int}(h:Fo f) {p o v:Int}(hp:p=2∨p=4):Fo (upd f p o v):=⟨by rw [DB.upd,if_neg (by omega)];exact h.a,fun i a b=>by rw [DB.upd,if_neg (by omega)];exact h.b i a b⟩
section
variable {D0 D:DB} {t:Int} {f:Int→Int→Int}
theorem yD(m:Mem)(p:Nat)(g:Nat→Int):(m.fill true p g).pg false=m.pg false:=by
 funext i j
 unfold Mem.fill
 simp
theorem Nw.S(h:Nw D0 t f D):D.S=8:=h.bw.1
theorem Nw.hs(h:Nw D0 t f D)(p:Int):D.has p=decide (0≤p∧p<8):=by unfold has;rw [h.S];rfl
theorem Nw.w(h:Nw D0 t f D) {p o:Int}(hp:0≤p∧p<8)(ho:0≤o∧o<1024):D.word p o=f p o:=h.bw.2 p o hp.1 hp.2 ho.1 ho.2
theorem Nw.en(h:Nw D0 t f D) {p:Int}(hp:0≤p∧p<8):D.entry p=cX t p:=by
 unfold entry;rw [h.hs,if_pos (by simpa using hp),h.e p hp.1 hp.2]
theorem Nw.Gk(h:Nw D0 t f D) {p:Int}(hp:0≤p∧p<8):D.bb p=0:=by
 unfold bb;rw [h.hs,if_pos (by simpa using hp)]
theorem Nw.of(h:Nw D0 t f D) {p:Int}(hp:0≤p∧p<8)(k o:Int):D.of p k o=((cX t p).typ==k && (cX t p).owner==o):=by
 unfold DB.of DB.is;rw [h.hs,h.e p hp.1 hp.2];simp [hp]
theorem Nw.GD(h:Nw D0 t f D)(g:Fo f):D.eA 0=0:=by
 have e0:D.at_ 0=⟨1,0,5,2,false⟩:=h.e 0 (by omega) (by omega)
 unfold eA
 rw [h.hs,e0,h.w (p:=0) (o:=0) (by omega) (by omega),g.a,h.of (p:=1) (by omega)]
 simp [cX]
theorem Nw.tb(h:Nw D0 t f D)(g:Fo f):D.tbl 0=1:=by rw [tbl,if_pos (h.GD g),h.w (p:=0) (o:=0) (by omega) (by omega),g.a]
theorem Nw.own(h:Nw D0 t f D):(D.entry 5).owner=0:=by rw [h.en (by omega)];simp [cX]
theorem Nw.thr(h:Nw D0 t f D)(g:Fo f):D.bk 5:=by
 have e5:D.entry 5=⟨2,0,0,0,false⟩:=h.en (p:=5) (by omega)
 have e0:D.entry 0=⟨1,0,5,2,false⟩:=h.en (p:=0) (by omega)
 exact⟨h.Gk (by omega),by rw [e5],by rw [e5];exact h.Gk (p:=0) (by omega),by rw [e5,e0],by rw [e5,e0],by rw [e5];exact h.GD g⟩
theorem Nw.pg(h:Nw D0 t f D)(k:Int):D.bZ 0 k 4=if t=k then 4 else -1:=by
 have e4:D.entry 4=⟨t,0,0,0,false⟩:=h.en (p:=4) (by omega)
 unfold bZ;rw [h.S,e4];simp
structure Va(va:Int):Prop where
 a:0≤va∧va<1073741824
 b:va % 4096=0
theorem yG {w:Int}(hw:0≤w∧w<4294967296)(h:eS w=0):Va (aF w)∧mgW (aF w) (paW w) (paX w)=w:=by
 have hk:qm w=true:=by
  unfold eS at h;split at h
  ·assumption
  ·omega
 have h2:=hk
 unfold qm at h2
 simp only [decide_eq_true_eq]at h2
 have h3:=h2.1
 unfold dW at h3
 split at h3
 ·omega
 ·refine⟨⟨?_,?_⟩,?_⟩
  ·rw [aF,if_pos hk];omega
  ·rw [aF,if_pos hk];omega
  ·rw [aF,if_pos hk,paW,paX,hk,Bool.true_and,Bool.true_and];exact h2.2
theorem Va.err {va:Int}(h:Va va):iX va=0:=by have:=h.a;have:=h.b;unfold iX;rw [if_neg (by omega)]
theorem Va.J {va:Int}(h:Va va):vaJ va=va / 4096 % 1024∧0≤vaJ va∧vaJ va<1024:=by
 have e:vaJ va=va / 4096 % 1024:=by rw [vaJ,if_pos h.err]
 rw [e];exact⟨rfl,by omega,by omega⟩
theorem Nw.pl(h:Nw D0 t f D)(g:Fo f) {va:Int}(hv:Va va):D.cG 0 va=(if va<4194304 then 0 else 141)∧(va<4194304→D.plP 0 va=2):=by
 have UX:=hv.a
 have e:vaI va=va / 4194304:=by rw [vaI,if_pos hv.err]
 have hw:D.word 1 (vaI va)=if va / 4194304=0 then 513 else 0:=by rw [e,h.w (by omega) (by omega),g.b _ (by omega) (by omega)]
 unfold cG plP
 rw [h.GD g,hv.err,h.tb g,hw]
 by_cases hl:va<4194304
 ·rw [if_pos hl,if_pos (show va / 4194304=0 by omega)]
  refine⟨?_,fun _=>by decide⟩
  unfold qQ
  rw [show iZ 513=0 by decide,show aL 513=2 by decide,h.of (by omega)]
  simp [cX]
 ·rw [if_neg hl,if_neg (show ¬va / 4194304=0 by omega)]
  refine⟨?_,fun h=>absurd h hl⟩
  unfold qQ
  rw [show iZ 0=92 by decide];simp
theorem Nw.sl(h:Nw D0 t f D)(g:Fo f) {va:Int}(hv:Va va):D.bx 0 va=if va<4194304 then(if f 2 (vaJ va)=0 then 0 else 140)else 141:=by
 obtain⟨h1,h2⟩:=h.pl g hv
 unfold bx
 rw [h1]
 by_cases hl:va<4194304
 ·rw [if_pos hl,h2 hl,h.w (by omega) hv.J.2]
  simp only [if_pos hl]
  by_cases h0:f 2 (vaJ va)=0<;>simp [h0]
 ·simp [hl]
theorem Nw.wr(h:Nw D0 t f D) {p o v:Int}(hp:0≤p∧p<8)(ho:0≤o∧o<1024):Nw D0 t (DB.upd f p o v) (D.wr p o v):=
 ⟨h.bw.wr hp ho,(show(D.mem.write true p o v).I=_ by unfold Mem.write;split<;>exact h.I),(show(D.mem.write true p o v).pg false=_ by
  unfold Mem.write;split
  ·rw [← h.ins];exact yD ..
  ·exact h.ins),h.e⟩
theorem Nw.dZ(h:Nw D0 t f D) {k:Int}(ht:turns t=true)(hk:turns k=true):Nw D0 k (fun p o=>if p=4 then 0 else f p o) (D.dZ 4 k):=by
 have e4:D.at_ 4=⟨t,0,0,0,false⟩:=h.e 4 (by omega) (by omega)
 have hh:D.has 4=true:=by rw [h.hs];decide
 have he:D.dw 4 k=0:=by unfold dw;rw [hh,e4];simp [ht,hk]
 rw [DB.dZ,if_pos he,iA,e4]
 have hz:(D.mem.zero true 4)=D.mem.fill true 4 fun _=>0:=by unfold Mem.zero;rw [if_pos (show D.mem.has true 4=true from hh)];rfl
 refine⟨⟨?_,fun p o a b c d=>?_⟩,?_,?_,fun p a b=>?_⟩
 ·show(D.mem.zero true 4).S=8;rw [Mem.tl];exact h.bw.1
 ·show(D.mem.zero true 4).bQ true p o=_
  have hw:=h.w ⟨a,b⟩ ⟨c,d⟩
  unfold word Mem.bQ at hw
  have hp:(D.mem.has true p && Mem.b9 o)=true:=by
   rw [show D.mem.has true p=D.has p from rfl,h.hs];simp [Mem.b9,a,b,c,d]
  rw [if_pos hp]at hw
  rw [hz,Mem.bQ,if_pos (show((D.mem.fill true 4 fun _=>0).has true p && Mem.b9 o)=true from hp)]
  show(if true=true∧p.toNat=4 then 0 else D.mem.pg true p.toNat o.toNat)=if p=4 then 0 else f p o
  by_cases h4:p=4
  ·rw [if_pos ⟨rfl,by omega⟩,if_pos h4]
  ·rw [if_neg (by omega),if_neg h4,hw]
 ·show(D.mem.zero true 4).I=_;rw [hz];exact h.I
 ·show(D.mem.zero true 4).pg false=_
  rw [hz,← h.ins];exact yD ..
 ·show(D.set 4 _).at_ p=_
  rw [C1 (by omega) a,h.e p a b]
  unfold cX
  by_cases hp:p=4
  ·subst hp;simp
  ·simp [hp]
theorem Nw.to {g:Int→Int→Int}(h:Nw D0 t f D)(e:∀p o,f p o=g p o):Nw D0 t g D:=⟨h.bw.to e,h.I,h.ins,h.e⟩
end
def eu(w:Int):Bool:=decide (eS w=0∧aF w<4194304∧aF w≠4096∧aF w≠8192)
def MW(w:Int):Mp:=⟨true,4,paW w,paX w⟩
def f1(q:List Int)(w:Int):Int→Int→Int:=upd (W q) 2 (vaJ (aF w)) (MW w).word
section
variable {D0 D:DB} {q:List Int} {w:Int}
theorem W2(q:List Int)(j:Int):W q 2 j=if j=1 then 775 else if j=2 then 261 else 0:=by simp [W,W0]
theorem wc(w:Int):gi (MW w).word=0∧bo (MW w).word=MW w∧(MW w).err=0∧(MW w).word≠0:=by
 unfold MW
 cases paW w<;>cases paX w<;>decide
theorem gY(hw:0≤w∧w<4294967296)(h:eu w=true):eS w=0∧Va (aF w)∧aF w<4194304∧vaJ (aF w)≠1∧vaJ (aF w)≠2:=by
 unfold eu at h
 simp only [decide_eq_true_eq]at h
 obtain⟨h1,h2,h3,h4⟩:=h
 have hv:=(yG hw h1).1
 have:=hv.a;have:=hv.b
 refine⟨h1,hv,h2,?_,?_⟩<;>rw [hv.J.1]<;>omega
theorem z7(h:Nw D0 6 (W q) D)(hw:0≤w∧w<4294967296)(hf:eu w=true):D.bx 0 (aF w)=0:=by
 obtain⟨h1,hv,h2,h3,h4⟩:=gY hw hf
 rw [h.sl (At q) hv,if_pos h2,W2,if_neg h3,if_neg h4];rfl
theorem xp(h:Nw D0 6 (W q) D)(hw:0≤w∧w<4294967296):(D.ly 0 4 w=0)↔eu w=true:=by
 constructor
 ·intro hc
  unfold ly at hc
  rw [h.pg,if_pos rfl,if_neg (by omega)]at hc
  split at hc
  ·omega
  ·rename_i h1
   have h1:eS w=0:=by omega
   have hv:=(yG hw h1).1
   rw [h.sl (At q) hv,W2,hv.J.1]at hc
   have:=hv.a;have:=hv.b
   unfold eu
   rw [decide_eq_true_eq]
   by_cases hl:aF w<4194304
   ·rw [if_pos hl]at hc
    refine⟨h1,hl,?_,?_⟩
    ·intro e;rw [e]at hc;revert hc;decide
    ·intro e;rw [e]at hc;revert hc;decide
   ·rw [if_neg hl]at hc;exact absurd hc (by decide)
 ·intro hf
  unfold ly
  rw [h.pg,if_pos rfl,if_neg (by omega),z7 h hw hf,if_neg (by rw [(gY hw hf).1];omega),if_pos rfl]
theorem G0(h:Nw D0 6 (W q) D)(hw:0≤w∧w<4294967296)(hf:eu w=false):D.lx 0 4 w=D:=by
 unfold lx;rw [if_neg (fun e=>by rw [(xp h hw).1 e]at hf;cases hf)]
theorem EU(h:Nw D0 6 (W q) D)(hw:0≤w∧w<4294967296)(hf:eu w=true):Nw D0 5 (f1 q w) (D.lx 0 4 w):=by
 obtain⟨h1,hv,h2,h3,h4⟩:=gY hw hf
 have ht:Nw D0 5 (W q) (D.dZ 4 5):=(h.dZ (k:=5) rfl rfl).to fun p o=>by
  by_cases hp:p=4
  ·rw [if_pos hp,hp];simp [W,W0]
  ·rw [if_neg hp]
 unfold lx
 rw [if_pos ((xp h hw).2 hf),h.pg,if_pos rfl]
 have hs:(D.dZ 4 5).bx 0 (aF w)=0:=by rw [ht.sl (At q) hv,if_pos h2,W2,if_neg h3,if_neg h4];rfl
 rw [put,if_pos (by rw [sA,hs,if_neg (by omega)];exact(wc w).2.2.1),(ht.pl (At q) hv).2 h2]
 exact ht.wr (by omega) hv.J.2
theorem kb:Fo (f1 q w):=(At q).upd (.inl rfl)
theorem Gj(q:List Int)(w:Int):f1 q w 2 (vaJ (aF w))=(MW w).word:=by rw [f1,upd,if_pos ⟨rfl,rfl⟩]
theorem Hl {f:Int→Int→Int}(h:Nw D0 5 f D)(g:Fo f)(hw:0≤w∧w<4294967296)(hf:eu w=true)(e:f 2 (vaJ (aF w))=(MW w).word):D.ew 0 (aF w)=0∧D.atM 0 (aF w)=MW w:=by
 obtain⟨h1,hv,h2,h3,h4⟩:=gY hw hf
 obtain⟨p1,p2⟩:=h.pl g hv
 rw [if_pos h2]at p1
 have hm:D.kE (MW w).word=0:=by
  unfold kE
  rw [(wc w).1,(wc w).2.1,if_neg (by omega),if_pos]
  show D.has 4=true
  rw [h.hs];decide
 rw [ew,atM,p1,p2 h2,h.w (by omega) hv.J.2,e,if_neg (by omega),if_neg (by omega),mpd,if_pos hm,hm]
 exact⟨rfl,(wc w).2.1⟩
theorem zi(h:Nw D0 5 (f1 q w) D):D.mem.blank true 4=true:=
 Mem.CW (show D.has 4=true by rw [h.hs];decide) fun o a b=>by
  show D.word 4 o=0
  rw [h.w (by omega) ⟨a,b⟩];simp [f1,upd,W,W0]
theorem jR {f:Int→Int→Int}(h:Nw D0 5 f D):D.ly 0 4 w=18∧D.lx 0 4 w=D:=by
 have e:D.ly 0 4 w=18:=by unfold ly;rw [h.pg,if_neg (show ¬(5:Int)=6 by decide),if_pos (by decide)]
 exact⟨e,by unfold lx;rw [e,if_neg (by omega)]⟩
theorem oh {o v x:Int}(h:Nw D0 5 (upd (f1 q w) 4 o v) D)(hw:0≤w∧w<4294967296)(hx:0≤x∧x<4294967296)(hf:eu w=true):D.nB 0 4 x=0↔x=w:=by
 have g:Fo (upd (f1 q w) 4 o v):=kb.upd (.inr rfl)
 have e2:∀j,upd (f1 q w) 4 o v 2 j=f1 q w 2 j:=fun j=>by rw [upd,if_neg (by omega)]
 obtain⟨h1,hv,h2,h3,h4⟩:=gY hw hf
 have hat:=Hl h g hw hf (by rw [e2,f1,upd,if_pos ⟨rfl,rfl⟩])
 constructor
 ·intro hc
  unfold nB at hc
  rw [h.pg,if_pos rfl,if_neg (by omega)]at hc
  split at hc
  ·omega
  ·rename_i QE
   have QE:eS x=0:=by omega
   obtain⟨SJ,ex⟩:=yG hx QE
   obtain⟨p1,p2⟩:=h.pl g SJ
   by_cases hl:aF x<4194304
   ·rw [if_pos hl]at p1
    split at hc
    ·omega
    ·split at hc
     ·rename_i ha
      obtain⟨a1,a2⟩:=ha
      by_cases hj:vaJ (aF x)=vaJ (aF w)
      ·have UX:aF x=aF w:=by
        rw [SJ.J.1,hv.J.1]at hj
        have:=SJ.a;have:=SJ.b;have:=hv.a;have:=hv.b
        omega
       rw [UX,hat.2]at a2
       have a2:(⟨true,4,paW w,paX w⟩:Mp)=⟨true,4,paW x,paX x⟩:=a2
       injection a2 with _ _ b1 b2
       rw [← ex,UX,← b1,← b2];exact(yG hw h1).2
      ·exfalso
       rw [atM,p1,if_neg (by omega),p2 hl,h.w (by omega) SJ.J.2,e2,f1,upd,if_neg (fun e=>hj e.2),W2]at a2
       have KF:=congrArg Mp.ah a2
       have KF:(D.mpd (if vaJ (aF x)=1 then 775 else if vaJ (aF x)=2 then 261 else 0)).ah=4:=KF
       have e7:(bo 775).ah=3:=by decide
       have e2':(bo 261).ah=1:=by decide
       have e0:(bo 0).ah=0:=by decide
       unfold mpd at KF
       by_cases j1:vaJ (aF x)=1
       ·rw [if_pos j1]at KF;split at KF
        ·omega
        ·exact absurd KF (by decide)
       ·rw [if_neg j1]at KF
        by_cases j2:vaJ (aF x)=2
        ·rw [if_pos j2]at KF;split at KF
         ·omega
         ·exact absurd KF (by decide)
        ·rw [if_neg j2]at KF;split at KF
         ·omega
         ·exact absurd KF (by decide)
     ·omega
   ·rw [if_neg hl]at p1
    rw [show D.ew 0 (aF x)=141 by rw [ew,p1,if_pos (by decide)],if_pos rfl]at hc
    exact absurd hc (by decide)
 ·rintro rfl
  unfold nB
  rw [h.pg,if_pos rfl,if_neg (by omega),h1,if_neg (by omega),hat.1,if_neg (by omega),if_pos ⟨rfl,hat.2⟩]
theorem BU {o v x:Int}(h:Nw D0 5 (upd (f1 q w) 4 o v) D)(hw:0≤w∧w<4294967296)(hx:0≤x∧x<4294967296)(hf:eu w=true)(hn:¬x=w):D.ku 0 4 x=D:=by
 unfold ku;rw [if_neg (fun e=>hn ((oh h hw hx hf).1 e))]
theorem nJ {o v:Int}(h:Nw D0 5 (upd (f1 q w) 4 o v) D)(hw:0≤w∧w<4294967296)(hf:eu w=true):Nw D0 6 (W q) (D.ku 0 4 w):=by
 have g:Fo (upd (f1 q w) 4 o v):=kb.upd (.inr rfl)
 obtain⟨h1,hv,h2,h3,h4⟩:=gY hw hf
 obtain⟨p1,p2⟩:=h.pl g hv
 rw [if_pos h2]at p1
 unfold ku
 rw [if_pos ((oh h hw hw hf).2 rfl),h.pg,if_pos rfl]
 have hc:D.o6 0 (aF w)=0:=by
  have e:upd (f1 q w) 4 o v 2 (vaJ (aF w))=(MW w).word:=by rw [upd,if_neg (by omega),f1,upd,if_pos ⟨rfl,rfl⟩]
  rw [o6,p1,if_neg (by omega),p2 h2,h.w (by omega) hv.J.2,e,if_neg (wc w).2.2.2]
 rw [cut,if_pos hc,p2 h2]
 have h5:Nw D0 5 _ (D.wr 2 (vaJ (aF w)) 0):=h.wr (by omega) hv.J.2
 refine(h5.dZ (k:=6) rfl rfl).to fun p x=>?_
 simp only [upd,f1]
 by_cases hp:p=4
 ·rw [if_pos hp,hp];simp [W,W0]
 ·rw [if_neg hp]
  by_cases hj:p=2∧x=vaJ (aF w)
  ·rw [if_pos hj,hj.1,hj.2,W2,if_neg h3,if_neg h4]
  ·rw [if_neg hj,if_neg (by omega),if_neg hj]
theorem fits_eq(w:Int):((eS w==0) && (decide (aF w<4194304) && ((aF w !=4096) && (aF w !=8192))))=eu w:=by
 unfold eu
 rw [Bool.eq_iff_iff]
 simp
theorem G1(h:Nw D0 6 (W q) D)(hw:0≤w∧w<4294967296):(D.ly 0 4 w==0)=eu w:=by
 rw [Bool.eq_iff_iff,← xp h hw];simp
theorem BV {o v x:Int}(h:Nw D0 5 (upd (f1 q w) 4 o v) D)(hw:0≤w∧w<4294967296)(hx:0≤x∧x<4294967296)(hf:eu w=true):(D.nB 0 4 x==0)=(x==w):=by
 rw [Bool.eq_iff_iff,beq_iff_eq,beq_iff_eq];exact oh h hw hx hf
theorem yM(off:Int):0≤(i64.wrap ((off:Int).tmod 1024+1024):Int).tmod 1024∧(i64.wrap ((off:Int).tmod 1024+1024):Int).tmod 1024<1024:=by
 have h1:=Int.lt_tmod_of_pos off (show(0:Int)<1024 by decide)
 have h2:=Int.tmod_lt_of_pos off (show(0:Int)<1024 by decide)
 rw [ak (by omega)]
 exact⟨Int.tmod_nonneg _ (by omega),Int.tmod_lt_of_pos _ (by decide)⟩
theorem zM(m:Mem):m.same m=true:=by
 rw [Mem.same,Bool.and_eq_true]
 exact⟨eH.2 ⟨rfl,fun _ _ _ _=>rfl⟩,eH.2 ⟨rfl,fun _ _ _ _=>rfl⟩⟩
theorem sv {t:Int}(h0:Bw D0 (W q))(h:Nw D0 t (W q) D):D.mem.same D0.mem=true:=by
 have hp:∀ {D:DB}(h:Bw D (W q))(i o:Nat),i<8→o<1024→D.mem.pg true i o=W q i o:=fun {D} h i o hi ho=>by
  have:=h.2 i o (by omega) (by omega) (by omega) (by omega)
  unfold word Mem.bQ at this
  have hS:=h.1
  rw [if_pos (by simp [Mem.has,Mem.cnt,Mem.b9,hS];omega)]at this
  simpa using this
 rw [Mem.same,Bool.and_eq_true]
 refine⟨eH.2 ⟨h.bw.1.trans h0.1.symm,fun i hi o ho=>?_⟩,eH.2 ⟨h.I,fun i hi o ho=>by rw [h.ins]⟩⟩
 rw [h.bw.1]at hi
 rw [hp h.bw i o hi ho,hp h0 i o hi ho]
end
end DB
end
section
namespace DB
section
variable {D D0:DB} {f:Int→Int→Int}
theorem Nw.all(h:Nw D0 6 f D) {c:Int}(g:∀p,0≤p→p<8→D.clause c p=true):D.iJ c=true:=by
 unfold iJ
 rw [h.S]
 exact bO.2 g
theorem Nw.zero(h:Nw D0 6 f D) {p lo hi:Int}(hp:0≤p∧p<8)(h0:0≤lo)(h1:hi≤1024)(g:∀o,lo≤o→o<hi→f p o=0):D.zero p lo hi=true:=
 tP.2 fun o a b=>by rw [h.w hp (by omega)];exact g o a b
theorem Nw.isp(h:Nw D0 6 f D):D.is 0 1=true∧D.is 6 1=true:=by
 unfold DB.is
 rw [h.hs,h.hs,h.e 0 (by omega) (by omega),h.e 6 (by omega) (by omega)];exact⟨rfl,rfl⟩
theorem only {c k:Int} {g:Int→Bool}(h:Nw D0 6 f D)(hc:∀p,D.clause c p=((D.at_ p).typ !=k || g p))(hg:∀p,0≤p→p<8→(cX 6 p).typ=k→g p=true):D.iJ c=true:=
 h.all fun p a b=>by
  rw [hc,h.e p a b]
  by_cases hk:(cX 6 p).typ=k
  ·rw [hg p a b hk,Bool.or_true]
  ·rw [show((cX 6 p).typ !=k)=true by rw [bne_iff_ne];exact hk];rfl
end
section
variable {D:DB} {q:List Int}
theorem rq(p:Int)(a:0≤p)(b:p<8)(h:(cX 6 p).typ=1):p=0∨p=6:=by
 revert h
 exact eight (P:=fun p=>(cX 6 p).typ=1→p=0∨p=6) ⟨fun _=>.inl rfl,fun h=>absurd h (by decide),fun h=>absurd h (by decide),fun h=>absurd h (by decide),fun h=>absurd h (by decide),fun h=>absurd h (by decide),fun _=>.inr rfl,fun h=>absurd h (by decide)⟩ p a b
theorem Ia(p:Int)(a:0≤p)(b:p<8)(h:(cX 6 p).typ=3):p=1∨p=7:=by
 revert h
 exact eight (P:=fun p=>(cX 6 p).typ=3→p=1∨p=7) ⟨fun h=>absurd h (by decide),fun _=>.inl rfl,fun h=>absurd h (by decide),fun h=>absurd h (by decide),fun h=>absurd h (by decide),fun h=>absurd h (by decide),fun h=>absurd h (by decide),fun _=>.inr rfl⟩ p a b
theorem zb {k n:Int}(hk:k=4∧n=2∨k=5∧n=3∨k=2∧n=5∨k=6∧n=4)(p:Int)(a:0≤p)(b:p<8)(h:(cX 6 p).typ=k):p=n:=by
 have e:=eight (P:=fun p=>(cX 6 p).typ=if p=0 then 1 else if p=1 then 3 else if p=2 then 4 else if p=3 then 5 else if p=4 then 6 else if p=5 then 2 else if p=6 then 1 else 3) ⟨rfl,rfl,rfl,rfl,rfl,rfl,rfl,rfl⟩ p a b
 have e:(cX 6 p).typ=if p=0 then 1 else if p=1 then 3 else if p=2 then 4 else if p=3 then 5 else if p=4 then 6 else if p=5 then 2 else if p=6 then 1 else 3:=e
 rw [h]at e
 (repeat' split at e)<;>omega
theorem Wz(q:List Int)(p o:Int)(h:p=4∨p=5∨p=7∨p=3):W q p o=0:=by
 rw [W,if_neg (by omega),W0,if_neg (by omega),if_neg (by omega),if_neg (by omega),if_neg (by omega)]
theorem Wsp(q:List Int)(p o:Int)(h:p=0∨p=6)(ho:11≤o):W q p o=0:=by
 rw [W,if_neg (by omega),W0]
 rcases h with rfl | rfl
 ·rw [if_pos rfl,if_neg (by omega),if_neg (by omega)]
 ·rw [if_neg (by omega),if_neg (by omega),if_neg (by omega),if_pos rfl,if_neg (by omega)]
theorem Nw.ref(h:Nw D 6 (W q) D):(D.cR 0 8).length=5∧(D.cR 6 8).length=1:=by
 have e:∀p:Nat,p<8→D.ent p=cX 6 p:=fun p hp=>by
  have:=h.e p (by omega) (by omega)
  unfold at_ at this
  simpa using this
 have e0:=e 0 (by omega);have e1:=e 1 (by omega);have e2:=e 2 (by omega);have e3:=e 3 (by omega)
 have e4:=e 4 (by omega);have e5:=e 5 (by omega);have e6:=e 6 (by omega);have e7:=e 7 (by omega)
 unfold cR eK
 simp only [List.length_map]
 constructor<;>simp [List.range_succ,e0,e1,e2,e3,e4,e5,e6,e7,cX]
theorem Nw.fst(h:Nw D 6 (W q) D) {p n:Int}(hp:p=0∧n=1∨p=6∧n=7):cm (fun x=>D.of x 3 p) 8=1∧D.of n 3 p=true:=by
 have k:∀x,0≤x→x<8→D.of x 3 p=decide (x=n):=fun x a b=>by
  rw [h.of ⟨a,b⟩]
  rcases hp with⟨rfl,rfl⟩ | ⟨rfl,rfl⟩
  ·exact eight (P:=fun x=>((cX 6 x).typ==3 && (cX 6 x).owner==0)=decide (x=1)) ⟨rfl,rfl,rfl,rfl,rfl,rfl,rfl,rfl⟩ x a b
  ·exact eight (P:=fun x=>((cX 6 x).typ==3 && (cX 6 x).owner==6)=decide (x=7)) ⟨rfl,rfl,rfl,rfl,rfl,rfl,rfl,rfl⟩ x a b
 have hn:0≤n∧n<8:=by omega
 refine⟨o7 hn (by rw [k n hn.1 hn.2];simp) fun x a b c=>by rw [k x a b];simp [c],by rw [k n hn.1 hn.2];simp⟩
theorem Nw.sec(h:Nw D 6 (W q) D) {x o:Int}(ho:o=0∨o=6)(a:0≤x)(b:x<8):D.of x 4 o=(decide (x=2) && o==0):=by
 rw [h.of ⟨a,b⟩]
 rcases ho with rfl | rfl
 ·exact eight (P:=fun x=>((cX 6 x).typ==4 && (cX 6 x).owner==0)=(decide (x=2) && (0:Int)==0)) ⟨rfl,rfl,rfl,rfl,rfl,rfl,rfl,rfl⟩ x a b
 ·exact eight (P:=fun x=>((cX 6 x).typ==4 && (cX 6 x).owner==6)=(decide (x=2) && (6:Int)==0)) ⟨rfl,rfl,rfl,rfl,rfl,rfl,rfl,rfl⟩ x a b
theorem Nw.nam(h:Nw D 6 (W q) D) {p o:Int}(hp:p=1∧o=0∨p=7∧o=6):D.iw p=true:=by
 have hw:∀x,0≤x→x<1024→D.word p x=if p=1∧x=0 then 513 else 0:=fun x a b=>by
  rw [h.w (by omega) ⟨a,b⟩]
  rcases hp with⟨rfl,_⟩ | ⟨rfl,_⟩
  ·rw [W,if_neg (by omega),W0,if_neg (by omega),if_pos rfl];simp
  ·rw [Wz q 7 x (by omega),if_neg (by omega)]
 have ho:(D.at_ p).owner=o:=by
  rw [h.e p (by omega) (by omega)]
  rcases hp with⟨rfl,rfl⟩ | ⟨rfl,rfl⟩<;>rfl
 unfold iw
 rw [h.S,show D.zero p 256 1024=true from tP.2 fun x a b=>by rw [hw x (by omega) b,if_neg (by omega)],Bool.true_and,Bool.and_eq_true]
 refine⟨bO.2 fun x a b=>?_,bO.2 fun x a b=>?_⟩
 ·unfold iF
  rw [hw x a (by omega),ho]
  by_cases hx:p=1∧x=0
  ·rw [if_pos hx,show iZ 513=0 by decide,show aL 513=2 by decide,h.sec (by omega) (by omega) (by omega),show o=0 by omega];rfl
  ·rw [if_neg hx];rfl
 ·have hn:D.named p 256 x=if p=1∧x=2 then 1 else 0:=by
   unfold named
   by_cases hx:p=1∧x=2
   ·rw [if_pos hx]
    refine o7 (a:=0) (by omega) (by rw [hw 0 (by omega) (by omega),if_pos ⟨hx.1,rfl⟩,hx.2];rfl) fun y a b c=>?_
    rw [hw y a (by omega),if_neg (fun e=>c e.2)];rfl
   ·rw [if_neg hx]
    refine jV fun y a b=>?_
    rw [hw y a (by omega)]
    by_cases hy:p=1∧y=0
    ·rw [if_pos hy,show aL 513=2 from by decide,show((2:Int)==x)=false by rw [beq_eq_false_iff_ne];omega,Bool.and_false]
    ·rw [if_neg hy];rfl
  rw [hn,ho,h.sec (by omega) a (by omega)]
  by_cases hx:p=1∧x=2
  ·rw [if_pos hx];simp
  ·rw [if_neg hx]
   by_cases h2:x=2
   ·have:o=6:=by omega
    subst this;simp
   ·simp [h2]
theorem Nw.w2(h:Nw D 6 (W q) D) {o:Int}(a:0≤o)(b:o<1024):D.word 2 o=if o=1 then 775 else if o=2 then 261 else 0:=by rw [h.w (by omega) ⟨a,b⟩,W2]
theorem Nw.dat(h:Nw D 6 (W q) D):D.of 3 5 0=true:=by rw [h.of (by omega)];rfl
theorem Nw.once(h:Nw D 6 (W q) D):D.qJ 3=true:=by
 have ho:(D.at_ 3).owner=0:=by rw [h.e 3 (by omega) (by omega)];rfl
 have k:∀x:Nat,x<8→D.of (x:Int) 4 0=decide (x=2):=fun x hx=>by
  rw [h.sec (.inl rfl) (by omega) (by omega)]
  by_cases hx:x=2
  ·simp [hx]
  ·rw [show decide ((x:Int)=2)=false by rw [decide_eq_false_iff_not];omega,show decide (x=2)=false by simp [hx]];rfl
 have hc:cm (D.iK 3 2) 1024=1:=by
  refine o7 (a:=1) (by omega) (by unfold iK;rw [h.w2 (by omega) (by omega)];rfl) fun x a b c=>?_
  unfold iK
  rw [h.w2 a b,if_neg c]
  by_cases h2:x=2
  ·rw [if_pos h2];rfl
  ·rw [if_neg h2];rfl
 have e:D.gj 3 8=1:=by
  unfold gj
  rw [ho]
  have k0:D.of 0 4 0=false:=k 0 (by omega)
  have k1:D.of 1 4 0=false:=k 1 (by omega)
  have k2:D.of 2 4 0=true:=k 2 (by omega)
  have k3:D.of 3 4 0=false:=k 3 (by omega)
  have k4:D.of 4 4 0=false:=k 4 (by omega)
  have k5:D.of 5 4 0=false:=k 5 (by omega)
  have k6:D.of 6 4 0=false:=k 6 (by omega)
  have k7:D.of 7 4 0=false:=k 7 (by omega)
  simp [List.range_succ,k0,k1,k2,k3,k4,k5,k6,k7,hc]
 rw [qJ,h.S]
 show(D.gj 3 8==1)=true
 rw [e];rfl
theorem HV(h:Nw D 6 (W q) D)(hI:D.mem.I=2)(hb:D.au=2):D.broken=(0,0):=by
 refine Aj fun c h1 h2=>?_
 have at0:D.at_ 0=⟨1,0,5,2,false⟩:=h.e 0 (by omega) (by omega)
 have VT:D.at_ 6=⟨1,6,1,2,false⟩:=h.e 6 (by omega) (by omega)
 rcases(show c=1∨c=2∨c=3∨c=4∨c=5∨c=6∨c=7∨c=8∨c=9∨c=10∨c=11∨c=12 by omega)with rfl | rfl | rfl | rfl | rfl | rfl | rfl | rfl | rfl | rfl | rfl | rfl
 ·refine only (k:=1) h (vf D) fun p a b e=>?_
  rcases rq p a b e with rfl | rfl
  ·rw [at0];rfl
  ·rw [VT];rfl
 ·refine only (k:=0) h (ve D) fun p a b e=>?_
  exact absurd e (eight (P:=fun p=>¬(cX 6 p).typ=0) ⟨by decide,by decide,by decide,by decide,by decide,by decide,by decide,by decide⟩ p a b)
 ·refine h.all fun p a b=>?_
  rw [vd,h.e p a b]
  have e:(cX 6 p).owner=0∨(cX 6 p).owner=6:=eight (P:=fun p=>(cX 6 p).owner=0∨(cX 6 p).owner=6) ⟨.inl rfl,.inl rfl,.inl rfl,.inl rfl,.inl rfl,.inl rfl,.inr rfl,.inr rfl⟩ p a b
  rcases e with e | e<;>rw [e]
  ·rw [h.isp.1,Bool.or_true,Bool.or_true]
  ·rw [h.isp.2,Bool.or_true,Bool.or_true]
 ·refine only (k:=1) h (vc D) fun p a b e=>?_
  rw [h.S]
  rcases rq p a b e with rfl | rfl
  ·rw [at0,h.ref.1];rfl
  ·rw [VT,h.ref.2];rfl
 ·refine only (k:=1) h (lL D) fun p a b e=>?_
  have b0:D.word 0 1=1:=by rw [h.w (by omega) (by omega)];simp [W,W0]
  have b6:D.word 6 1=0:=by rw [h.w (by omega) (by omega)];simp [W,W0]
  have c0:D.word 0 2=0:=by rw [h.w (by omega) (by omega)];simp [W,W0]
  have c6:D.word 6 2=0:=by rw [h.w (by omega) (by omega)];simp [W,W0]
  rcases rq p a b e with rfl | rfl
  ·rw [iy,b0,c0,hb,g7 (Int.le_refl _)];rfl
  ·rw [iy,b6,c6,hb,show fZ (fun q=>!((D.at_ q).typ==1 && D.word q 1==0)) 0 6=true from bO.2 fun x a b=>?_]
   ·rfl
   ·rw [h.e x a (by omega)]
    by_cases hx:(cX 6 x).typ=1
    ·rcases rq x a (by omega) hx with rfl | rfl
     ·rw [b0];rfl
     ·omega
    ·rw [show((cX 6 x).typ==1)=false by rw [beq_eq_false_iff_ne];exact hx];rfl
 ·refine only (k:=1) h (vb D) fun p a b e=>?_
  have hp:=rq p a b e
  have hs:(D.at_ p).state=2:=by rcases hp with rfl | rfl;rw [at0];rw [VT]
  rw [sm,hs,h.zero ⟨a,b⟩ (by omega) (by omega) (fun o c _=>Wsp q p o hp (by omega)),if_neg (by omega),if_pos rfl,h.zero ⟨a,b⟩ (by omega) (by omega) (fun o c _=>Wsp q p o hp (by omega))];rfl
 ·refine only (k:=1) h (u9 D) fun p a b e=>?_
  rw [so,h.S]
  rcases rq p a b e with rfl | rfl
  ·obtain⟨k1,k2⟩:=h.fst (p:=0) (n:=1) (.inl ⟨rfl,rfl⟩)
   rw [show D.word 0 0=1 by rw [h.w (by omega) (by omega)];simp [W,W0],k2,show cm (fun x=>D.of x 3 0) ((8:Nat):Int)=1 from k1];simp
  ·obtain⟨k1,k2⟩:=h.fst (p:=6) (n:=7) (.inr ⟨rfl,rfl⟩)
   rw [show D.word 6 0=7 by rw [h.w (by omega) (by omega)];simp [W,W0],k2,show cm (fun x=>D.of x 3 6) ((8:Nat):Int)=1 from k1];simp
 ·refine only (k:=3) h (g5 D) fun p a b e=>?_
  rcases Ia p a b e with rfl | rfl
  ·rw [h.nam (.inl ⟨rfl,rfl⟩),Bool.or_true]
  ·rw [h.nam (.inr ⟨rfl,rfl⟩),Bool.or_true]
 ·refine only (k:=4) h (jw D) fun p a b e=>?_
  obtain rfl:=zb (n:=2) (by omega) p a b e
  have ho:(D.at_ 2).owner=0:=by rw [h.e 2 (by omega) (by omega)];rfl
  rw [show D.qK 2=true from bO.2 fun o a b=>?_,Bool.or_true]
  unfold lv
  rw [h.w2 a b,ho]
  by_cases h1:o=1
  ·rw [if_pos h1,show(bo 775).aO=true from rfl,show(bo 775).ah=3 from rfl,h.dat];rfl
  ·rw [if_neg h1]
   by_cases h2:o=2
   ·rw [if_pos h2,show(bo 261).aO=false from rfl,show(bo 261).ah=1 from rfl,hI];rfl
   ·rw [if_neg h2];rfl
 ·refine only (k:=5) h (mH D) fun p a b e=>?_
  obtain rfl:=zb (n:=3) (by omega) p a b e
  rw [h.once,Bool.or_true]
 ·refine only (k:=2) h (rB D) fun p a b e=>?_
  obtain rfl:=zb (n:=5) (by omega) p a b e
  rw [nH,h.e 5 (by omega) (by omega),h.zero (by omega) (by omega) (by omega) (fun o _ _=>Wz q 5 o (by omega)),h.zero (by omega) (by omega) (by omega) (fun o _ _=>Wz q 5 o (by omega))];rfl
 ·refine only (k:=6) h (rA D) fun p a b e=>?_
  obtain rfl:=zb (n:=4) (by omega) p a b e
  exact h.zero (by omega) (by omega) (by omega) fun o _ _=>Wz q 4 o (by omega)
theorem Gx {q:List Int}(hq:q.length=8):(two q).broken=(0,0):=HV (BX hq) (HJ q) (wQ q)
end
end DB
end
section
namespace V
section
variable {U:Uni}
theorem bn.more {rs:List (Res U)} {X:Nat→Nat→Prop} {w w':World} {Q:Ou U→Prop} {v:Value} {k:Option Kn} {Z:Nat→Prop} {r:Res U}(hs:Sat rs X w)(q:Pu w w')(hr:RS Z w' r)(hz:∀k,Z k→w.heap.size≤k)(hQ:Q ⟨v,k,[],[r],[]⟩)(hk:KnO (rs++ [r]) v k):bn rs [] X w Q (.returned v) w':=by
 refine⟨_,rs,fun i=>if i=rs.length then Z else X i,dG hk,hQ,rfl,⟨⟨fun i r' Jg=>?_,fun i j hi hj JI k J7 JH=>?_⟩,q.mono fun k hk=>hk.elim,fun i hi _=>if_neg (by omega),fun i hi=>(by cases hi),fun i h1 h2 k hk=>?_,.inr hk,fun _ k hk=>by cases hk⟩⟩
 ·by_cases hi:i<rs.length
  ·rw [aU,if_pos hi]at Jg
   simp only [if_neg (show ¬i=rs.length by omega)]
   exact(hs.res i r' Jg).ch q fun _ _ h=>h
  ·have h1:=aP Jg
   simp at h1
   obtain rfl:i=rs.length:=by omega
   rw [aU,if_neg (by omega),Nat.sub_self]at Jg
   obtain rfl:r=r':=by simpa [nth]using Jg
   simpa using hr
 ·simp at hi hj
  by_cases h1:i=rs.length
  ·have h2:¬j=rs.length:=by omega
   simp only [h1,if_true,if_neg h2]at J7 JH
   have:=hs.lt (i:=j) (by omega) k JH
   have:=hz k J7
   omega
  ·simp only [if_neg h1]at J7
   by_cases h2:j=rs.length
   ·simp only [h2,if_true]at JH
    have:=hs.lt (i:=i) (by omega) k J7
    have:=hz k JH
    omega
   ·simp only [if_neg h2]at JH
    exact hs.dis i j (by omega) (by omega) JI k J7 JH
 ·simp at h2
  obtain rfl:i=rs.length:=by omega
  simp only [if_true]at hk
  exact hz k hk
theorem GU {t:Nat} {T:TypeId} {A:Option Addr} {n c:Nat} {l:List (U.el t)} {Z:Nat→Prop} {w:World}(h:Own w Z T A n c l):RS (U:=U) (fun k=>Z k∧k<w.heap.size) w (.lst t true T A c l):=by
 have hl:=h.len
 subst hl
 exact⟨h.within,fun k hk=>hk.2⟩
end
end V
section
variable {r rm:Nat→Nat} {E:Pd} {m:Mem} {X:Nat→Nat→Prop} {w w':World}
theorem oO(hs:Sat (U:=Un) [.ob 0 rm m] X w):∃L:dA,rm 0=L.g∧bH w L m∧∀k,L.X k↔X 0 k:=by
 obtain⟨L,h1,h2,h3⟩:=(hs.res 0 _ rfl:cT 0 rm m (X 0) w)
 exact⟨L,h1,h3,h2⟩
theorem uu(hs:Sat (U:=Un) [.ob 1 r E,.ob 0 rm m] X w)(hl:aw (U:=Un) [.ob 1 r E,.ob 0 rm m] fr0 [(.l 0 1,.p (.obj 1 0 0))])(hn:E.n=m.S):
 ∃(a:Nat)(L:dA),rm 0=L.g∧r 1=L.g∧DBP w ⟨r 0,a,L⟩ (E.on m)∧(∀k,(k=r 0∨k=a)↔X 0 k)∧(∀k,L.X k↔X 1 k):=by
 obtain⟨a,h1,h2⟩:=(hs.res 0 _ rfl:cT 1 r E (X 0) w)
 obtain⟨L,h3,h4,h5⟩:=(hs.res 1 _ rfl:cT 0 rm m (X 1) w)
 obtain⟨t',r',s',S5,hk⟩:=hl _ _ (List.mem_singleton.2 rfl)
 simp only [nth,Option.some.injEq,Res.ob.injEq]at S5
 obtain⟨rfl,rfl,_⟩:=S5
 have hk:some (Value.pointer (some ⟨rm 0,0,none⟩))=some (Value.pointer (some ⟨r 1,0,none⟩)):=hk
 simp only [Option.some.injEq,Value.pointer.injEq,Addr.mk.injEq]at hk
 have hg:r 1=L.g:=by rw [← h3];exact hk.1.symm
 rw [hg]at h2
 have hx:∀k,(k=r 0∨k=a)→¬L.X k:=fun k hk hL=>hs.dis 0 1 (by simp) (by simp) (by omega) k ((h1 k).1 hk) ((h4 k).1 hL)
 exact⟨a,L,h3,hg,h2.db h5 hn ⟨hx _ (.inl rfl),hx _ (.inr rfl)⟩,h1,h4⟩
theorem yE {a:Nat} {L:dA} {D:DB} {Q:Ou Un→Prop} {v:Value} {k:Option Kn}(hs:Sat (U:=Un) [.ob 1 r E,.ob 0 rm m] X w)(ME:∀k,(k=r 0∨k=a)↔X 0 k)(MY:∀k,L.X k↔X 1 k)(hg:rm 0=L.g)(hr:r 1=L.g)(h:DBP w' ⟨r 0,a,L⟩ D)(q:Ch (eg.X ⟨r 0,a,L⟩) w w')
 (hQ:Q ⟨v,k,[.ob 1 D.pd,.ob 0 D.mem],[],[]⟩)(hk:KnO (U:=Un) [.ob 1 r D.pd,.ob 0 rm D.mem] v k):bn (U:=Un) [.ob 1 r E,.ob 0 rm m] [0,1] X w Q (.returned v) w':=by
 refine⟨_,[.ob 1 r D.pd,.ob 0 rm D.mem],X,dG hk,hQ,by simp [bh,cq,nth,bt],⟨⟨fun i r' Jg=>?_,hs.dis⟩,q.mono fun k hk=>?_,fun i hi hm=>rfl,fun i hi k hk=>.inl hk,fun i h1 h2=>by simp at h1 h2;omega,.inr (by simpa using hk),fun _ k hk=>by cases hk⟩⟩
 ·match i with
  | 0=>
   simp only [List.append_nil,nth,Option.some.injEq]at Jg
   subst Jg
   exact(⟨a,ME,by rw [hr];exact h.pd⟩:cT 1 r D.pd (X 0) w')
  | 1=>
   simp only [List.append_nil,nth,Option.some.injEq]at Jg
   subst Jg
   exact(⟨L,hg,MY,h.mem⟩:cT 0 rm D.mem (X 1) w')
  | i+2=>simp [nth]at Jg
 ·rcases hk with hk | hk | hk
  ·exact⟨0,by simp,(ME k).1 (.inl hk)⟩
  ·exact⟨0,by simp,(ME k).1 (.inr hk)⟩
  ·exact⟨1,by simp,(MY k).1 hk⟩
end
end
section
set_option maxRecDepth 10000
set_option maxHeartbeats 1000000
theorem xD {w:World}(t:Int):
 Calls prog 72 #[(.int .i64 t)] w fun e w'=>∃v,e= .returned v∧v= .bool (DB.turns t)∧Pu w w':=by
 refine tH _ ?_
 have hp:=Ch.refl (fun _=>False) w
 refine⟨fun x w'=>x=(((t:Int)==4) || (((t:Int)==5) || ((t:Int)==6)))∧Pu w w',?_,?_⟩
 ·refine ae (fun c1=>?_) (fun c1=>?_)
  ·exact⟨by simp only [c1,Bool.true_and,Bool.and_true,Bool.false_and,Bool.and_false,Bool.true_or,Bool.or_true,Bool.false_or,Bool.or_false,Bool.not_true,Bool.not_false,if_true,if_false,Bool.false_eq_true],Ch.refl _ _⟩
  ·refine ae (fun c2=>?_) (fun c2=>?_)
   ·exact⟨by simp only [c1,c2,Bool.true_and,Bool.and_true,Bool.false_and,Bool.and_false,Bool.true_or,Bool.or_true,Bool.false_or,Bool.or_false,Bool.not_true,Bool.not_false,if_true,if_false,Bool.false_eq_true],Ch.refl _ _⟩
   ·exact⟨by simp only [c1,c2,Bool.true_and,Bool.and_true,Bool.false_and,Bool.and_false,Bool.true_or,Bool.or_true,Bool.false_or,Bool.or_false,Bool.not_true,Bool.not_false,if_true,if_false,Bool.false_eq_true],Ch.refl _ _⟩
 rintro _ _ wv ⟨rfl,Jd⟩
 have hp:=Ch.pu hp Jd
 exact⟨congrArg Value.bool (by simp [DB.turns,Bool.or_assoc]),hp⟩
theorem lJ {w:World}(ah:Int):
 Calls prog 67 #[(.int .i64 ah)] w fun e w'=>∃v,e= .returned v∧v= .agg #[(.bool true),(.int .i64 ah)]∧Pu w w':=by
 refine qF _ ?_
 have hp:=Ch.refl (fun _=>False) w
 refine mkd fun gv wv I7=>?_
 have Jc:=I7.lo hp
 have I0:=I7.blk
 refine bE I0 (by simp) fun I2 Mc=>?_
 have I0:Blk I2 gv #[(.bool true),(.int .i64 ah)] _:=Mc.blk
 refine⟨_,_,⟨I0.at rfl,I0.at rfl⟩,?_⟩
 have hp:=Ch.call (Ch.made hp I7) Mc.ch (by exact fun k e=>.inr (e▸Jc))
 exact⟨rfl,hp⟩
theorem xF {L:eg} {D:DB} {w:World}(h:DBP w L D):
 Calls prog 62 #[(.pointer (some (Addr.mk L.g 0 none)))] w fun e w'=>∃v,e= .returned v∧v= .int .i64 (D.S:Int)∧w'=w:=by
 refine tL (some (Addr.mk L.g 0 none)) ?_
 obtain⟨_,dhd_h⟩:=h.hd
 refine ai _ rfl ⟨_,_,_,dhd_h.at rfl,?_⟩
 exact⟨congrArg (Value.int .i64) (by have:=h.S64;rw [ak (by rw [Int.tdiv_eq_ediv_of_nonneg (by omega)];unfold DB.S DB.n2 at *;omega)];rw [Int.tdiv_eq_ediv_of_nonneg (by omega)];unfold DB.S DB.n2;omega),rfl⟩
theorem xG {L:eg} {D:DB} {w:World}(h:DBP w L D)(ah:Int):
 Calls prog 29 #[(.pointer (some (Addr.mk L.g 0 none))),(.int .i64 ah)] w fun e w'=>∃v,e= .returned v∧v= .bool (D.has ah)∧Pu w w':=by
 refine yp (some (Addr.mk L.g 0 none)) _ ?_
 have hp:=Ch.refl (fun _=>False) w
 have JY:=h.lt
 refine⟨fun x w'=>x=((decide ((ah:Int)≥0)) && (decide ((ah:Int)<(D.S:Int))))∧Pu w w',?_,?_⟩
 ·refine ae (fun c1=>?_) (fun c1=>?_)
  ·refine Calls.mono (xF h) ?_
   rintro e w9 ⟨_,rfl,rfl,e9⟩
   obtain rfl:=e9.symm
   refine⟨_,rfl,?_⟩
   exact⟨by simp only [c1,Bool.true_and,Bool.and_true,Bool.false_and,Bool.and_false,Bool.true_or,Bool.or_true,Bool.false_or,Bool.or_false,Bool.not_true,Bool.not_false,if_true,if_false,Bool.false_eq_true],Ch.refl _ _⟩
  ·exact⟨by simp only [c1,Bool.true_and,Bool.and_true,Bool.false_and,Bool.and_false,Bool.true_or,Bool.or_true,Bool.false_or,Bool.or_false,Bool.not_true,Bool.not_false,if_true,if_false,Bool.false_eq_true],Ch.refl _ _⟩
 rintro _ _ wv ⟨rfl,Jd⟩
 have hp:=Ch.pu hp Jd
 exact⟨congrArg Value.bool (by rw [Bool.eq_iff_iff];simp [DB.has]),hp⟩
theorem dAt {L:eg} {D:DB} {w:World}(h:DBP w L D)(ah:Int)(hp:D.has ah=true):
 Calls prog 30 #[.pointer (some (Addr.mk L.g 0 none)),.int .i64 ah] w fun e w'=>∃v,e= .returned v∧v= .agg #[.int .i64 (D.at_ ah).typ,.int .i64 (D.at_ ah).owner,.int .i64 (D.at_ ah).refs,.int .i64 (D.at_ ah).state,.bool (D.at_ ah).aS]∧Pu w w':=by
 refine BM _ _ ?_
 refine mkd fun gv wv m=>?_
 have h1:=h.pu m.pu
 obtain⟨T,hd⟩:=h1.hd
 obtain⟨T2,cs,hr,Js,hw⟩:=h1.ws
 have hn:=DB.cy hp
 have ho:=DB.cx hp
 have TD:=h.S64
 have e0:i64.wrap (2*ah)=2*ah:=ak (by omega)
 have e1:(2*ah).toNat=2*ah.toNat:=by omega
 have e2:D.n2=2*D.S:=rfl
 refine ai _ rfl ⟨_,_,_,hd.at rfl,by rw [e0,e2];omega,?_⟩
 rintro _ rfl _ rfl _ rfl
 rw [e0,e1,e2]
 refine⟨by omega,ai (Addr.mk L.a (2*ah.toNat) none) (by rw [if_neg (by omega)];simp [Addr.add];omega) ?_⟩
 refine⟨_,_,⟨by rw [bu];exact hr.cell (hw _ hn).1,by rw [bu];exact hr.cell (hw _ hn).2⟩,?_⟩
 have KP:=(h.ok.ent _ hn).1
 refine Calls.mono (E9 _ _ (Ent.BP KP) (Ent.BO KP)) ?_
 rw [(Ent.zd KP).1,(Ent.zd KP).2]
 rintro e w1 ⟨_,rfl,rfl,q1⟩
 refine⟨_,_,_,_,_,_,rfl,?_⟩
 refine mkd fun g1 w2 m1=>?_
 have b1:=m1.blk
 have b0:=m1.old (q1.blk m.blk)
 have ne:=m1.ne (q1.blk m.blk)
 refine bE b1 (by simp) fun w3 s3=>?_
 have TL:Blk w3 g1 #[.int .i64 (D.at_ ah).typ,.int .i64 (D.at_ ah).owner,.int .i64 (D.at_ ah).refs,.int .i64 (D.at_ ah).state,.bool (D.at_ ah).aS] _:=s3.blk
 refine⟨_,_,_,_,_,⟨TL.at rfl,TL.at rfl,TL.at rfl,TL.at rfl,TL.at rfl⟩,?_⟩
 refine bE (s3.old b0 ne) (by simp) fun w4 s4=>?_
 have TM:Blk w4 gv #[.int .i64 (D.at_ ah).typ,.int .i64 (D.at_ ah).owner,.int .i64 (D.at_ ah).refs,.int .i64 (D.at_ ah).state,.bool (D.at_ ah).aS] _:=s4.blk
 refine⟨_,_,_,_,_,⟨TM.at rfl,TM.at rfl,TM.at rfl,TM.at rfl,TM.at rfl⟩,?_⟩
 have I6:Pu w wv:=m.pu
 have Jw:Pu w w2:=(I6.trans q1).made m1
 exact⟨rfl,(Jw.stored s3 (.inr (m1.lo (I6.trans q1)))).stored s4 (.inr (m.lo (Ch.refl (fun _=>False) w)))⟩
theorem Ab {L:eg} {D:DB} {w:World}(h:DBP w L D)(ah:Int)(ea eb ec ed:Int)(ee:Bool)(hp:D.has ah=true)(he:(Ent.mk ea eb ec ed ee).ok=true)(Mf:eb<(D.S:Int)):
 Calls prog 71 #[.pointer (some (Addr.mk L.g 0 none)),.int .i64 ah,.agg #[.int .i64 ea,.int .i64 eb,.int .i64 ec,.int .i64 ed,.bool ee]] w fun e w'=>∃v,e= .returned v∧v= .tuple #[]∧DBP w' L (D.set ah ⟨ea,eb,ec,ed,ee⟩)∧Ch L.X w w':=by
 refine yi _ _ _ _ _ _ _ ?_
 refine mkd fun gv wv m=>?_
 have b:=m.blk
 refine⟨_,_,_,_,_,⟨b.at rfl,b.at rfl,b.at rfl,b.at rfl,b.at rfl⟩,?_⟩
 refine Calls.mono (E8 _ _ _ _ _) ?_
 rw [if_pos he,if_pos he,if_pos he]
 rintro e w1 ⟨_,rfl,rfl,q1⟩
 refine⟨_,_,_,rfl,?_⟩
 refine mkd fun g1 w2 m1=>?_
 have p2:Pu w w2:=((show Pu w wv from m.pu).trans q1).made m1
 refine bE m1.blk (by simp) fun w3 s3=>?_
 have b1:Blk w3 g1 #[.int .u32 (Ent.mk ea eb ec ed ee).w0,.int .u32 (Ent.mk ea eb ec ed ee).w1] _:=s3.blk
 have p3:Pu w w3:=p2.stored s3 (.inr (m1.lo ((show Pu w wv from m.pu).trans q1)))
 have h3:=(h.pu p3).pu (Pu.cu w3)
 have b1:=b1.drew
 obtain⟨T,hd⟩:=h3.hd
 obtain⟨T2,cs,hr,Js,hw⟩:=h3.ws
 have hn:=DB.cy hp
 have ho:=DB.cx hp
 have TD:=h.S64
 have e0:i64.wrap (2*ah)=2*ah:=ak (by omega)
 have e1:(2*ah).toNat=2*ah.toNat:=by omega
 have e2:D.n2=2*D.S:=rfl
 have hga:g1≠L.a:=fun e=>by have h5:=(h.lt L.a (.inr (.inl rfl)));have h6:=m1.lo ((show Pu w wv from m.pu).trans q1);omega
 refine⟨fun _ k=>k=L.g,ai _ rfl ⟨block_add _ _,_,_,_,hd.at rfl,by rw [e0,e2];omega,?_⟩⟩
 rintro _ rfl _ rfl _ rfl _ rfl _ rfl _ rfl
 rw [e0,e1,e2,if_neg (by omega),if_neg (by omega)]
 have hl:cS w3.drew (fun k=>k=g1) .u32 (some ((Addr.mk g1 0 none).add (0*1))) (2 - 0) (2 - 0) [(Ent.mk ea eb ec ed ee).w0,(Ent.mk ea eb ec ed ee).w1]:=
  cS.blk (m:=0) (Z:=fun k=>k=g1) b1 rfl (Nat.le_refl _) rfl (fun j x hx=>by
   match j with
   | 0=>simp at hx;subst hx;rfl
   | 1=>simp at hx;subst hx;rfl
   | j+2=>simp at hx)
 have hA:(Option.map (fun x:Addr=>x.add (2*ah.toNat *1)) (some (Addr.mk L.a 0 none)))=some (Addr.mk L.a (2*ah.toNat) none):=by simp [Addr.add];omega
 rw [hA]
 obtain⟨x,w4,Ki,UU⟩:=ze (P:=prog) (dT:=64) (sT:=64) (ty:=3) (o:=2*ah.toNat) (dn:=2*D.S - 2*ah.toNat) (dc:=2*D.S - 2*ah.toNat) qR hr hl (by rw [Js,e2];omega) (K:=fun w4=>bm w3.drew L.a (setAt cs (2*ah.toNat) [.int .u32 (Ent.mk ea eb ec ed ee).w0,.int .u32 (Ent.mk ea eb ec ed ee).w1]) T2 w4)
  (fun w4 hs=>by rw [show min (2 - 0) (2*D.S - 2*ah.toNat)=2 by omega]at hs;exact hs)
 refine⟨x,w4,Ki,UU.kept.mono (fun k hk=>by have hk:k=L.g:=(by simpa [cn]using hk);rw [hk];exact fun e=>h.dis.1 e.symm),fun _ k=>k=L.g,fun _ k hk=>hk,rfl,h3.GH hp he Mf hr UU,?_⟩
 exact(((p3.mono (by simp):Ch L.X w w3)).drew).stored UU (.inl (.inr (.inl rfl)))
theorem Hg {L:eg} {D:DB} {w:World}(h:DBP w L D)(ah:Int):
 Calls prog 16 #[(.pointer (some (Addr.mk L.g 0 none))),(.int .i64 ah)] w fun e w'=>∃v,e= .returned v∧v= .tuple #[(.agg #[(.int .i64 ((D.entry ah).typ)),(.int .i64 ((D.entry ah).owner)),(.int .i64 ((D.entry ah).refs)),(.int .i64 ((D.entry ah).state)),(.bool ((D.entry ah).aS))]),(.int .i64 (D.bb ah))]∧Pu w w':=by
 refine tN (some (Addr.mk L.g 0 none)) _ ?_
 have hp:=Ch.refl (fun _=>False) w
 have JY:=h.lt
 refine mkd fun gv wv I7=>?_
 have Jc:=I7.lo hp
 have I0:=I7.blk
 have h:=h.pu I7.pu
 refine Calls.mono (xG h _) ?_
 rintro e I2 ⟨_,rfl,rfl,I4⟩
 refine⟨_,rfl,?_⟩
 refine aY (fun c1=>?_) (fun c1=>?_)
 ·have I0:=Pu.blk I4 I0
  refine bE I0 (by simp) fun I3 Lj=>?_
  have I0:Blk I3 gv #[(.int .i64 0),(.int .i64 0),(.int .i64 0),(.int .i64 0),(.bool false)] _:=Lj.blk
  refine⟨_,_,_,_,_,⟨I0.at rfl,I0.at rfl,I0.at rfl,I0.at rfl,I0.at rfl⟩,?_⟩
  have hp:=Ch.call (Ch.pu (Ch.made hp I7) I4) Lj.ch (by exact fun k e=>.inr (e▸Jc))
  exact⟨by(simp [DB.entry,DB.bb,c1];done),hp⟩
 ·have h:=h.pu I4
  refine Calls.mono (dAt h _ ‹_›) ?_
  rintro e I3 ⟨_,rfl,rfl,Jm⟩
  have I0:=Pu.blk Jm (Pu.blk I4 I0)
  refine⟨_,_,_,_,_,rfl,bE I0 (by simp) fun I5 JB=>?_⟩
  have I0:Blk I5 gv #[(.int .i64 ((D.at_ ah).typ)),(.int .i64 ((D.at_ ah).owner)),(.int .i64 ((D.at_ ah).refs)),(.int .i64 ((D.at_ ah).state)),(.bool ((D.at_ ah).aS))] _:=JB.blk
  refine⟨_,_,_,_,_,⟨I0.at rfl,I0.at rfl,I0.at rfl,I0.at rfl,I0.at rfl⟩,?_⟩
  have hp:=Ch.call (Ch.pu (Ch.pu (Ch.made hp I7) I4) Jm) JB.ch (by exact fun k e=>.inr (e▸Jc))
  exact⟨by(simp [DB.entry,DB.bb,c1];done),hp⟩
theorem u4 {L:eg} {D:DB} {w:World}(h:DBP w L D)(ah:Int):
 Calls prog 73 #[(.pointer (some (Addr.mk L.g 0 none))),(.int .i64 ah)] w fun e w'=>∃v,e= .returned v∧v= .bool (D.dM ah)∧Pu w w':=by
 refine qf (some (Addr.mk L.g 0 none)) _ ?_
 have hp:=Ch.refl (fun _=>False) w
 have JY:=h.lt
 refine⟨fun x w'=>x=((D.has ah) && ((((D.at_ ah).typ):Int)==1))∧Pu w w',?_,?_⟩
 ·refine Calls.mono (xG h _) ?_
  rintro e wv ⟨_,rfl,rfl,Jd⟩
  refine⟨_,rfl,?_⟩
  refine ae (fun c1=>?_) (fun c1=>?_)
  ·have h:=h.pu Jd
   refine Calls.mono (dAt h _ ‹_›) ?_
   rintro e I2 ⟨_,rfl,rfl,I4⟩
   refine⟨_,_,_,_,_,rfl,?_⟩
   exact⟨by simp only [c1,Bool.true_and,Bool.and_true,Bool.false_and,Bool.and_false,Bool.true_or,Bool.or_true,Bool.false_or,Bool.or_false,Bool.not_true,Bool.not_false,if_true,if_false,Bool.false_eq_true],(Ch.pu Jd I4)⟩
  ·exact⟨by simp only [c1,Bool.true_and,Bool.and_true,Bool.false_and,Bool.and_false,Bool.true_or,Bool.or_true,Bool.false_or,Bool.or_false,Bool.not_true,Bool.not_false,if_true,if_false,Bool.false_eq_true],Jd⟩
 rintro _ _ wv ⟨rfl,Jd⟩
 have hp:=Ch.pu hp Jd
 exact⟨congrArg Value.bool (by(simp [DB.dM];done)),hp⟩
theorem Ig {L:eg} {D:DB} {w:World}(h:DBP w L D)(space:Int)(more:Int)(hp:D.has space=true)(he:({D.at_ space with refs:=(D.at_ space).refs+more}:Ent).ok=true):
 Calls prog 74 #[(.pointer (some (Addr.mk L.g 0 none))),(.int .i64 space),(.int .i64 more)] w fun e w'=>∃v,e= .returned v∧v= .tuple #[]∧DBP w' L (D.more space more)∧Ch L.X w w':=by
 refine wH (some (Addr.mk L.g 0 none)) _ _ ?_
 have hi:i64.wrap ((D.at_ space).refs+more)=(D.at_ space).refs+more:=ak (by have:=Ent.dC he;simp only at this;omega)
 have ho:=(h.ok.ent _ (DB.cy hp)).2
 have hp:=Ch.refl L.X w
 have JY:=h.lt
 refine Calls.mono (dAt h _ ‹_›) ?_
 rintro e wv ⟨_,rfl,rfl,Jd⟩
 refine⟨_,_,_,_,_,rfl,?_⟩
 have hp:=Ch.pu hp Jd
 refine mkd fun gv I2 I7=>?_
 have Jc:=I7.lo hp
 have I0:=I7.blk
 refine bE I0 (by simp) fun I3 Lj=>?_
 have I0:Blk I3 gv #[(.int .i64 ((D.at_ space).typ)),(.int .i64 ((D.at_ space).owner)),(.int .i64 ((D.at_ space).refs)),(.int .i64 ((D.at_ space).state)),(.bool ((D.at_ space).aS))] _:=Lj.blk
 refine⟨_,I0.at rfl,bV I0 (by simp) fun I5 JB=>?_⟩
 have I0:Blk I5 gv #[(.int .i64 ((D.at_ space).typ)),(.int .i64 ((D.at_ space).owner)),_,(.int .i64 ((D.at_ space).state)),(.bool ((D.at_ space).aS))] _:=JB.blk
 refine⟨_,_,_,_,_,⟨I0.at rfl,I0.at rfl,I0.at rfl,I0.at rfl,I0.at rfl⟩,?_⟩
 have h:=(((h.pu Jd).pu I7.pu).ch Lj.ch (fun k hx e=>(fun hx=>absurd (JY _ hx) (Nat.not_lt.2 Jc)) (e▸hx))).ch JB.ch (fun k hx e=>(fun hx=>absurd (JY _ hx) (Nat.not_lt.2 Jc)) (e▸hx))
 refine Calls.mono (Ab h _ _ _ _ _ _ ‹_› (by rw [hi];exact he) (by exact ho)) ?_
 rintro e Jh ⟨_,rfl,rfl,h,Jq⟩
 refine⟨rfl,?_⟩
 have hp:=Ch.call (Ch.call (Ch.call (Ch.made hp I7) Lj.ch (by exact fun k e=>.inr (e▸Jc))) JB.ch (by exact fun k e=>.inr (e▸Jc))) Jq (by exact fun k hk=>.inl hk)
 exact⟨rfl,by rw [show D.more space more=D.set space ⟨((D.at_ space).typ),((D.at_ space).owner),(i64.wrap (((D.at_ space).refs)+more)),((D.at_ space).state),((D.at_ space).aS)⟩from by rw [hi];rfl];exact h,hp⟩
theorem Ie {L:eg} {D:DB} {w:World}(h:DBP w L D)(ah:Int)(t:Int)(space:Int):
 Calls prog 38 #[(.pointer (some (Addr.mk L.g 0 none))),(.int .i64 ah),(.int .i64 t),(.int .i64 space)] w fun e w'=>∃v,e= .returned v∧v= .int .i64 (D.bY ah t space)∧DBP w' L (D.take ah t space)∧Ch L.X w w':=by
 refine wE (some (Addr.mk L.g 0 none)) _ _ _ ?_
 have h_0:=h
 have hp:=Ch.refl L.X w
 have JY:=h.lt
 refine Calls.mono (xG h _) ?_
 rintro e wv ⟨_,rfl,rfl,Jd⟩
 refine⟨_,rfl,?_⟩
 rintro _ rfl
 refine aY (fun c1=>?_) (fun c1=>?_)
 ·have h:=h.pu Jd
  have hp:=Ch.pu hp Jd
  exact⟨congrArg (Value.int .i64) (by(simp [DB.take,DB.ej,DB.bY,c1];done)),by rw [show D.take ah t space=D from by(simp [DB.take,DB.ej,DB.bY,c1];done)];exact h,hp⟩
 ·refine⟨fun x w'=>x=(((t:Int) !=2) && (!(DB.turns t)))∧Pu wv w',?_,?_⟩
  ·refine ae (fun c2=>?_) (fun c2=>?_)
   ·refine Calls.mono (xD _) ?_
    rintro e I2 ⟨_,rfl,rfl,I4⟩
    refine⟨_,rfl,?_⟩
    rintro _ rfl
    exact⟨by simp only [c2,Bool.true_and,Bool.and_true,Bool.false_and,Bool.and_false,Bool.true_or,Bool.or_true,Bool.false_or,Bool.or_false,Bool.not_true,Bool.not_false,if_true,if_false,Bool.false_eq_true],I4⟩
   ·rintro _ rfl
    exact⟨by simp only [c2,Bool.true_and,Bool.and_true,Bool.false_and,Bool.and_false,Bool.true_or,Bool.or_true,Bool.false_or,Bool.or_false,Bool.not_true,Bool.not_false,if_true,if_false,Bool.false_eq_true],Ch.refl _ _⟩
  rintro _ _ I2 ⟨rfl,I4⟩
  refine cP (fun c3=>?_) (fun c3=>?_)
  ·have h:=(h.pu Jd).pu I4
   have hp:=Ch.pu (Ch.pu hp Jd) I4
   exact⟨congrArg (Value.int .i64) (by(simp [DB.take,DB.ej,DB.bY,c1,c3];done)),by rw [show D.take ah t space=D from by(simp [DB.take,DB.ej,DB.bY,c1,c3];done)];exact h,hp⟩
  ·refine⟨fun x w'=>x=((!(D.dM space)) || (decide ((((D.at_ space).refs):Int)≥63)))∧Pu I2 w',?_,?_⟩
   ·have h:=(h.pu Jd).pu I4
    refine Calls.mono (u4 h _) ?_
    rintro e I3 ⟨_,rfl,rfl,Jm⟩
    refine⟨_,rfl,?_⟩
    refine ae (fun c4=>?_) (fun c4=>?_)
    ·rintro _ rfl
     exact⟨by simp only [c4,Bool.true_and,Bool.and_true,Bool.false_and,Bool.and_false,Bool.true_or,Bool.or_true,Bool.false_or,Bool.or_false,Bool.not_true,Bool.not_false,if_true,if_false,Bool.false_eq_true],Jm⟩
    ·have h:=h.pu Jm
     refine Calls.mono (dAt h _ (by grind [DB.take,DB.ej,DB.bY,DB.dM])) ?_
     rintro e I5 ⟨_,rfl,rfl,JJ⟩
     refine⟨_,_,_,_,_,rfl,?_⟩
     rintro _ rfl
     exact⟨by simp only [c4,Bool.true_and,Bool.and_true,Bool.false_and,Bool.and_false,Bool.true_or,Bool.or_true,Bool.false_or,Bool.or_false,Bool.not_true,Bool.not_false,if_true,if_false,Bool.false_eq_true],(Ch.pu Jm JJ)⟩
   rintro _ _ I3 ⟨rfl,Jm⟩
   refine aM (fun c5=>?_) (fun c5=>?_)
   ·have h:=((h.pu Jd).pu I4).pu Jm
    have hp:=Ch.pu (Ch.pu (Ch.pu hp Jd) I4) Jm
    exact⟨congrArg (Value.int .i64) (by grind [DB.take,DB.ej,DB.bY]),by rw [show D.take ah t space=D from by grind [DB.take,DB.ej,DB.bY]];exact h,hp⟩
   ·have h:=((h.pu Jd).pu I4).pu Jm
    refine Calls.mono (dAt h _ ‹_›) ?_
    rintro e I5 ⟨_,rfl,rfl,JJ⟩
    refine⟨_,_,_,_,_,rfl,?_⟩
    rintro _ rfl
    refine aG (fun c6=>?_) (fun c6=>?_)
    ·have h:=h.pu JJ
     have hp:=Ch.pu (Ch.pu (Ch.pu (Ch.pu hp Jd) I4) Jm) JJ
     exact⟨congrArg (Value.int .i64) (by grind [DB.take,DB.ej,DB.bY]),by rw [show D.take ah t space=D from by grind [DB.take,DB.ej,DB.bY]];exact h,hp⟩
    ·have h:=h.pu JJ
     refine Calls.mono (Ab h _ _ _ _ _ _ ‹_› (by obtain⟨Lo,O8⟩:=DB.gl (d:=D) (p:=space) (by grind);have:=DB.cx Lo;have:=h.S64;exact DB.Cl (by grind) (by omega)) (by obtain⟨Lo,O8⟩:=DB.gl (d:=D) (p:=space) (by grind);exact(DB.cx Lo).2)) ?_
     rintro e Jh ⟨_,rfl,rfl,h,Jq⟩
     refine⟨rfl,?_⟩
     refine Calls.mono (Ig h _ _ (by obtain⟨Lo,O8⟩:=DB.gl (d:=D) (p:=space) (by grind);exact Lo) (by obtain⟨Lo,O8⟩:=DB.gl (d:=D) (p:=space) (by grind);rw [DB.Iq (d:=D) c1 Lo (by omega)];have h3:=(h_0.ok.at_ Lo).1;have h4:=Ent.dC h3;exact DB.sF h3 O8 (by grind))) ?_
     rintro e Ju ⟨_,rfl,rfl,h,Lm⟩
     refine⟨rfl,?_⟩
     have hp:=Ch.call (Ch.call (Ch.pu (Ch.pu (Ch.pu (Ch.pu hp Jd) I4) Jm) JJ) Jq (by exact fun k hk=>.inl hk)) Lm (by exact fun k hk=>.inl hk)
     exact⟨congrArg (Value.int .i64) (by grind [DB.take,DB.ej,DB.bY]),by rw [show D.take ah t space=(D.set ah ⟨t,space,0,0,false⟩).more space 1 from by grind [DB.take,DB.ej,DB.bY]];exact h,hp⟩
theorem Ic {L:eg} {D:DB} {w:World}(h:DBP w L D)(ah:Int)(t:Int):
 Calls prog 40 #[(.pointer (some (Addr.mk L.g 0 none))),(.int .i64 ah),(.int .i64 t)] w fun e w'=>∃v,e= .returned v∧v= .int .i64 (D.dw ah t)∧DBP w' L (D.dZ ah t)∧Ch L.X w w':=by
 refine wB (some (Addr.mk L.g 0 none)) _ _ ?_
 have hp:=Ch.refl L.X w
 have JY:=h.lt
 refine Calls.mono (xG h _) ?_
 rintro e wv ⟨_,rfl,rfl,Jd⟩
 refine⟨_,rfl,?_⟩
 refine aY (fun c1=>?_) (fun c1=>?_)
 ·have h:=h.pu Jd
  have hp:=Ch.pu hp Jd
  exact⟨congrArg (Value.int .i64) (by(simp [DB.dZ,DB.iA,DB.dw,DB.fq,DB.di,Mem.bJ,DB.iG,DB.jU,DB.mem_set,c1];done)),by rw [show D.dZ ah t=D from by(simp [DB.dZ,DB.iA,DB.dw,DB.fq,DB.di,Mem.bJ,DB.iG,DB.jU,DB.mem_set,c1];done)];exact h,hp⟩
 ·have h:=h.pu Jd
  refine Calls.mono (dAt h _ ‹_›) ?_
  rintro e I2 ⟨_,rfl,rfl,I4⟩
  refine⟨_,_,_,_,_,rfl,?_⟩
  have hp:=Ch.pu (Ch.pu hp Jd) I4
  refine mkd fun gv I3 I7=>?_
  have Jc:=I7.lo hp
  have I0:=I7.blk
  refine bE I0 (by simp) fun I5 JB=>?_
  have I0:Blk I5 gv #[(.int .i64 ((D.at_ ah).typ)),(.int .i64 ((D.at_ ah).owner)),(.int .i64 ((D.at_ ah).refs)),(.int .i64 ((D.at_ ah).state)),(.bool ((D.at_ ah).aS))] _:=JB.blk
  refine⟨fun x w'=>x=((!(DB.turns ((D.at_ ah).typ))) || (!(DB.turns t)))∧Pu I5 w',?_,?_⟩
  ·refine⟨_,I0.at rfl,?_⟩
   refine Calls.mono (xD _) ?_
   rintro e Jh ⟨_,rfl,rfl,Jq⟩
   refine⟨_,rfl,?_⟩
   refine ae (fun c2=>?_) (fun c2=>?_)
   ·exact⟨by simp only [c2,Bool.true_and,Bool.and_true,Bool.false_and,Bool.and_false,Bool.true_or,Bool.or_true,Bool.false_or,Bool.or_false,Bool.not_true,Bool.not_false,if_true,if_false,Bool.false_eq_true],Jq⟩
   ·refine Calls.mono (xD _) ?_
    rintro e Ju ⟨_,rfl,rfl,Lm⟩
    refine⟨_,rfl,?_⟩
    exact⟨by simp only [c2,Bool.true_and,Bool.and_true,Bool.false_and,Bool.and_false,Bool.true_or,Bool.or_true,Bool.false_or,Bool.or_false,Bool.not_true,Bool.not_false,if_true,if_false,Bool.false_eq_true],(Ch.pu Jq Lm)⟩
  rintro _ _ Jh ⟨rfl,Jq⟩
  refine aM (fun c3=>?_) (fun c3=>?_)
  ·have h:=(((h.pu I4).pu I7.pu).ch JB.ch (fun k hx e=>(fun hx=>absurd (JY _ hx) (Nat.not_lt.2 Jc)) (e▸hx))).pu Jq
   have hp:=Ch.pu (Ch.call (Ch.made hp I7) JB.ch (by exact fun k e=>.inr (e▸Jc))) Jq
   exact⟨congrArg (Value.int .i64) (by grind [DB.dZ,DB.iA,DB.dw,DB.fq,DB.di,Mem.bJ,DB.iG,DB.jU,DB.mem_set]),by rw [show D.dZ ah t=D from by grind [DB.dZ,DB.iA,DB.dw,DB.fq,DB.di,Mem.bJ,DB.iG,DB.jU,DB.mem_set]];exact h,hp⟩
  ·have I0:=Pu.blk Jq I0
   refine bV I0 (by simp) fun Ju KX=>?_
   have I0:Blk Ju gv #[(.int .i64 t),(.int .i64 ((D.at_ ah).owner)),(.int .i64 ((D.at_ ah).refs)),(.int .i64 ((D.at_ ah).state)),(.bool ((D.at_ ah).aS))] _:=KX.blk
   refine⟨_,_,_,_,_,⟨I0.at rfl,I0.at rfl,I0.at rfl,I0.at rfl,I0.at rfl⟩,?_⟩
   have h:=((((h.pu I4).pu I7.pu).ch JB.ch (fun k hx e=>(fun hx=>absurd (JY _ hx) (Nat.not_lt.2 Jc)) (e▸hx))).pu Jq).ch KX.ch (fun k hx e=>(fun hx=>absurd (JY _ hx) (Nat.not_lt.2 Jc)) (e▸hx))
   refine Calls.mono (Ab h _ _ _ _ _ _ ‹_› (by exact DB.Ck (h.ok.at_ c1).1 (by grind) (by grind)) (by exact(h.ok.at_ c1).2.1)) ?_
   rintro e Kf ⟨_,rfl,rfl,h,KZ⟩
   refine⟨rfl,?_⟩
   refine⟨bXU [3] [] Kf.drew L.M.X,?_⟩
   have h:=h.pu (Pu.cu _)
   obtain⟨_,dhd_h⟩:=h.hd
   refine ai _ rfl ⟨.inr ⟨by decide,bX.ld dhd_h (h.dis.2.1) _⟩,_,dhd_h.at rfl,?_⟩
   refine Calls.mono (lJ _) ?_
   rintro e KA ⟨_,rfl,rfl,Ll⟩
   refine⟨_,_,rfl,?_⟩
   refine bXU.uE Ll (by decide) ?_
   have h:=h.pu Ll
   refine Calls.mono (Hd h _ _) ?_
   rintro e KI ⟨_,rfl,rfl,h,Lk⟩
   refine⟨_,rfl,?_⟩
   refine bXU.more Lk (by intro k hk;exact .inl hk) (by decide) ?_
   have hp:=Ch.call (Ch.pu (Ch.drew (Ch.call (Ch.call (Ch.pu (Ch.call (Ch.made hp I7) JB.ch (by exact fun k e=>.inr (e▸Jc))) Jq) KX.ch (by exact fun k e=>.inr (e▸Jc))) KZ (by exact fun k hk=>.inl hk))) Ll) (Lk.mono L.inM) (by exact fun k hk=>.inl hk)
   exact⟨congrArg (Value.int .i64) (by(simp [DB.dZ,DB.iA,DB.dw,DB.fq,DB.di,Mem.bJ,DB.iG,DB.jU,DB.mem_set,c1,c3];done)),by rw [show D.dZ ah t=((D.set ah ⟨t,((D.at_ ah).owner),((D.at_ ah).refs),((D.at_ ah).state),((D.at_ ah).aS)⟩).aT ((D.set ah ⟨t,((D.at_ ah).owner),((D.at_ ah).refs),((D.at_ ah).state),((D.at_ ah).aS)⟩).mem.zero true ah))from by(simp [DB.dZ,DB.iA,DB.dw,DB.fq,DB.di,Mem.bJ,DB.iG,DB.jU,DB.mem_set,c1,c3];done)];exact h,hp⟩
theorem Aa {L:eg} {D:DB} {w:World}(h:DBP w L D)(space:Int)(s:Int):
 Calls prog 44 #[(.pointer (some (Addr.mk L.g 0 none))),(.int .i64 space),(.int .i64 s)] w fun e w'=>∃v,e= .returned v∧v= .int .i64 (D.bj space s)∧DBP w' L (D.setState space s)∧Ch L.X w w':=by
 refine nG (some (Addr.mk L.g 0 none)) _ _ ?_
 have hp:=Ch.refl L.X w
 have JY:=h.lt
 refine Calls.mono (xG h _) ?_
 rintro e wv ⟨_,rfl,rfl,Jd⟩
 refine⟨_,rfl,?_⟩
 refine aY (fun c1=>?_) (fun c1=>?_)
 ·have h:=h.pu Jd
  have hp:=Ch.pu hp Jd
  exact⟨congrArg (Value.int .i64) (by(simp [DB.setState,DB.bj,c1];done)),by rw [show D.setState space s=D from by(simp [DB.setState,DB.bj,c1];done)];exact h,hp⟩
 ·have h:=h.pu Jd
  refine Calls.mono (dAt h _ ‹_›) ?_
  rintro e I2 ⟨_,rfl,rfl,I4⟩
  refine⟨_,_,_,_,_,rfl,?_⟩
  have hp:=Ch.pu (Ch.pu hp Jd) I4
  refine mkd fun gv I3 I7=>?_
  have Jc:=I7.lo hp
  have I0:=I7.blk
  refine bE I0 (by simp) fun I5 JB=>?_
  have I0:Blk I5 gv #[(.int .i64 ((D.at_ space).typ)),(.int .i64 ((D.at_ space).owner)),(.int .i64 ((D.at_ space).refs)),(.int .i64 ((D.at_ space).state)),(.bool ((D.at_ space).aS))] _:=JB.blk
  refine⟨_,I0.at rfl,?_⟩
  rintro _ rfl
  refine aG (fun c2=>?_) (fun c2=>?_)
  ·have h:=((h.pu I4).pu I7.pu).ch JB.ch (fun k hx e=>(fun hx=>absurd (JY _ hx) (Nat.not_lt.2 Jc)) (e▸hx))
   have hp:=Ch.call (Ch.made hp I7) JB.ch (by exact fun k e=>.inr (e▸Jc))
   exact⟨congrArg (Value.int .i64) (by(simp [DB.setState,DB.bj,c1,c2];done)),by rw [show D.setState space s=D from by(simp [DB.setState,DB.bj,c1,c2];done)];exact h,hp⟩
  ·refine⟨fun x w'=>x=(((s:Int) !=3) && (((((D.at_ space).state):Int) !=1) || ((s:Int) !=2)))∧Pu I5 w',?_,?_⟩
   ·refine ae (fun c3=>?_) (fun c3=>?_)
    ·refine⟨_,I0.at rfl,?_⟩
     refine ae (fun c4=>?_) (fun c4=>?_)
     ·rintro _ rfl
      exact⟨by simp only [c3,c4,Bool.true_and,Bool.and_true,Bool.false_and,Bool.and_false,Bool.true_or,Bool.or_true,Bool.false_or,Bool.or_false,Bool.not_true,Bool.not_false,if_true,if_false,Bool.false_eq_true],Ch.refl _ _⟩
     ·rintro _ rfl
      exact⟨by simp only [c3,c4,Bool.true_and,Bool.and_true,Bool.false_and,Bool.and_false,Bool.true_or,Bool.or_true,Bool.false_or,Bool.or_false,Bool.not_true,Bool.not_false,if_true,if_false,Bool.false_eq_true],Ch.refl _ _⟩
    ·rintro _ rfl
     exact⟨by simp only [c3,Bool.true_and,Bool.and_true,Bool.false_and,Bool.and_false,Bool.true_or,Bool.or_true,Bool.false_or,Bool.or_false,Bool.not_true,Bool.not_false,if_true,if_false,Bool.false_eq_true],Ch.refl _ _⟩
   rintro _ _ Jh ⟨rfl,Jq⟩
   refine cP (fun c5=>?_) (fun c5=>?_)
   ·have h:=(((h.pu I4).pu I7.pu).ch JB.ch (fun k hx e=>(fun hx=>absurd (JY _ hx) (Nat.not_lt.2 Jc)) (e▸hx))).pu Jq
    have hp:=Ch.pu (Ch.call (Ch.made hp I7) JB.ch (by exact fun k e=>.inr (e▸Jc))) Jq
    exact⟨congrArg (Value.int .i64) (by(simp [DB.setState,DB.bj,c1,c2,c5];done)),by rw [show D.setState space s=D from by(simp [DB.setState,DB.bj,c1,c2,c5];done)];exact h,hp⟩
   ·have I0:=Pu.blk Jq I0
    refine bV I0 (by simp) fun Ju KX=>?_
    have I0:Blk Ju gv #[(.int .i64 ((D.at_ space).typ)),(.int .i64 ((D.at_ space).owner)),(.int .i64 ((D.at_ space).refs)),(.int .i64 s),(.bool ((D.at_ space).aS))] _:=KX.blk
    refine⟨_,_,_,_,_,⟨I0.at rfl,I0.at rfl,I0.at rfl,I0.at rfl,I0.at rfl⟩,?_⟩
    have h:=((((h.pu I4).pu I7.pu).ch JB.ch (fun k hx e=>(fun hx=>absurd (JY _ hx) (Nat.not_lt.2 Jc)) (e▸hx))).pu Jq).ch KX.ch (fun k hx e=>(fun hx=>absurd (JY _ hx) (Nat.not_lt.2 Jc)) (e▸hx))
    refine Calls.mono (Ab h _ _ _ _ _ _ ‹_› (by exact DB.Gb (h.ok.at_ c1).1 (by grind) (by grind)) (by exact(h.ok.at_ c1).2.1)) ?_
    rintro e Kf ⟨_,rfl,rfl,h,KZ⟩
    refine⟨rfl,?_⟩
    have hp:=Ch.call (Ch.call (Ch.pu (Ch.call (Ch.made hp I7) JB.ch (by exact fun k e=>.inr (e▸Jc))) Jq) KX.ch (by exact fun k e=>.inr (e▸Jc))) KZ (by exact fun k hk=>.inl hk)
    exact⟨congrArg (Value.int .i64) (by grind [DB.setState,DB.bj]),by rw [show D.setState space s=D.set space ⟨((D.at_ space).typ),((D.at_ space).owner),((D.at_ space).refs),s,((D.at_ space).aS)⟩from by grind [DB.setState,DB.bj]];exact h,hp⟩
theorem xE {L:eg} {D:DB} {w:World}(h:DBP w L D)(space:Int)(first:Int):
 Calls prog 36 #[(.pointer (some (Addr.mk L.g 0 none))),(.int .i64 space),(.int .i64 first)] w fun e w'=>∃v,e= .returned v∧v= .int .i64 (D.aR space first)∧DBP w' L (D.ay space first)∧Ch L.X w w':=by
 refine mP (some (Addr.mk L.g 0 none)) _ _ ?_
 have TD:=h.S64
 have hbo:=h.ok.au
 have hp:=Ch.refl L.X w
 have JY:=h.lt
 refine⟨fun x w'=>x=((!(D.has space)) || (!(D.has first)))∧Pu w w',?_,?_⟩
 ·refine Calls.mono (xG h _) ?_
  rintro e wv ⟨_,rfl,rfl,Jd⟩
  refine⟨_,rfl,?_⟩
  refine ae (fun c1=>?_) (fun c1=>?_)
  ·rintro _ rfl
   exact⟨by simp only [c1,Bool.true_and,Bool.and_true,Bool.false_and,Bool.and_false,Bool.true_or,Bool.or_true,Bool.false_or,Bool.or_false,Bool.not_true,Bool.not_false,if_true,if_false,Bool.false_eq_true],Jd⟩
  ·have h:=h.pu Jd
   refine Calls.mono (xG h _) ?_
   rintro e I2 ⟨_,rfl,rfl,I4⟩
   refine⟨_,rfl,?_⟩
   rintro _ rfl
   exact⟨by simp only [c1,Bool.true_and,Bool.and_true,Bool.false_and,Bool.and_false,Bool.true_or,Bool.or_true,Bool.false_or,Bool.or_false,Bool.not_true,Bool.not_false,if_true,if_false,Bool.false_eq_true],(Ch.pu Jd I4)⟩
 rintro _ _ wv ⟨rfl,Jd⟩
 refine aM (fun c2=>?_) (fun c2=>?_)
 ·have h:=h.pu Jd
  have hp:=Ch.pu hp Jd
  exact⟨congrArg (Value.int .i64) (by grind [DB.ay,DB.bp,DB.aR]),by rw [show D.ay space first=D from by grind [DB.ay,DB.bp,DB.aR]];exact h,hp⟩
 ·rintro _ rfl
  refine aE (fun c3=>?_) (fun c3=>?_)
  ·have h:=h.pu Jd
   have hp:=Ch.pu hp Jd
   exact⟨congrArg (Value.int .i64) (by(simp [DB.ay,DB.bp,DB.aR,c2,c3];done)),by rw [show D.ay space first=D from by(simp [DB.ay,DB.bp,DB.aR,c2,c3];done)];exact h,hp⟩
  ·refine⟨fun x w'=>x=(((((D.at_ space).typ):Int) !=0) || ((((D.at_ first).typ):Int) !=0))∧Pu wv w',?_,?_⟩
   ·have h:=h.pu Jd
    refine Calls.mono (dAt h _ (by grind [DB.ay,DB.bp,DB.aR])) ?_
    rintro e I2 ⟨_,rfl,rfl,I4⟩
    refine⟨_,_,_,_,_,rfl,?_⟩
    refine ae (fun c4=>?_) (fun c4=>?_)
    ·rintro _ rfl
     exact⟨by simp only [c4,Bool.true_and,Bool.and_true,Bool.false_and,Bool.and_false,Bool.true_or,Bool.or_true,Bool.false_or,Bool.or_false,Bool.not_true,Bool.not_false,if_true,if_false,Bool.false_eq_true],I4⟩
    ·have h:=h.pu I4
     refine Calls.mono (dAt h _ (by grind [DB.ay,DB.bp,DB.aR])) ?_
     rintro e I3 ⟨_,rfl,rfl,Jm⟩
     refine⟨_,_,_,_,_,rfl,?_⟩
     rintro _ rfl
     exact⟨by simp only [c4,Bool.true_and,Bool.and_true,Bool.false_and,Bool.and_false,Bool.true_or,Bool.or_true,Bool.false_or,Bool.or_false,Bool.not_true,Bool.not_false,if_true,if_false,Bool.false_eq_true],(Ch.pu I4 Jm)⟩
   rintro _ _ I2 ⟨rfl,I4⟩
   refine aM (fun c5=>?_) (fun c5=>?_)
   ·have h:=(h.pu Jd).pu I4
    have hp:=Ch.pu (Ch.pu hp Jd) I4
    exact⟨congrArg (Value.int .i64) (by grind [DB.ay,DB.bp,DB.aR]),by rw [show D.ay space first=D from by grind [DB.ay,DB.bp,DB.aR]];exact h,hp⟩
   ·have h:=(h.pu Jd).pu I4
    obtain⟨_,dhd_h⟩:=h.hd
    refine ai _ rfl ⟨_,dhd_h.at rfl,?_⟩
    rintro _ rfl
    refine aB (fun c6=>?_) (fun c6=>?_)
    ·have hp:=Ch.pu (Ch.pu hp Jd) I4
     exact⟨congrArg (Value.int .i64) (by(simp [DB.ay,DB.bp,DB.aR,c2,c3,c5,c6];done)),by rw [show D.ay space first=D from by(simp [DB.ay,DB.bp,DB.aR,c2,c3,c5,c6];done)];exact h,hp⟩
    ·refine Calls.mono (Ab h _ _ _ _ _ _ (by(show D.has space=true;grind)) (by have h1:D.has space=true:=(by grind);have:=DB.cx h1;simp only [Ent.ok,decide_eq_true_eq];simp;omega) (by exact(DB.cx (d:=D) (p:=space) (by grind)).2)) ?_
     rintro e I3 ⟨_,rfl,rfl,h,Jm⟩
     refine⟨rfl,?_⟩
     refine Calls.mono (Ab h _ _ _ _ _ _ (by(show D.has first=true;grind)) (by have h1:D.has space=true:=(by grind);have:=DB.cx h1;simp only [Ent.ok,decide_eq_true_eq];simp;omega) (by exact(DB.cx (d:=D) (p:=space) (by grind)).2)) ?_
     rintro e I5 ⟨_,rfl,rfl,h,JJ⟩
     refine⟨rfl,?_⟩
     refine⟨bXU [3] [] I5.drew L.M.X,?_⟩
     have h:=h.pu (Pu.cu _)
     obtain⟨_,dhd_h⟩:=h.hd
     refine ai _ rfl ⟨.inr ⟨by decide,bX.ld dhd_h (h.dis.2.1) _⟩,_,dhd_h.at rfl,?_⟩
     refine Calls.mono (lJ _) ?_
     rintro e Jh ⟨_,rfl,rfl,Jq⟩
     refine⟨_,_,rfl,?_⟩
     refine bXU.uE Jq (by decide) ?_
     have h:=h.pu Jq
     refine Calls.mono (sW h _ _ _ _ (by exact gK _)) ?_
     rintro e Ju ⟨_,rfl,rfl,h,Lm⟩
     refine⟨_,rfl,?_⟩
     refine bXU.more Lm (by intro k hk;exact .inl hk) (by decide) ?_
     refine⟨bXU [3,9] [] Ju.drew L.M.X,?_⟩
     have h:=h.pu (Pu.cu _)
     obtain⟨_,dhd_h⟩:=h.hd
     refine ai _ rfl ⟨.inr ⟨by decide,bX.ld dhd_h (h.dis.2.1) _⟩,_,dhd_h.at rfl,ai _ rfl ⟨.inr ⟨by decide,bX.ld dhd_h (h.dis.2.1) _⟩,_,dhd_h.at rfl,?_⟩⟩
     refine Calls.mono (lJ _) ?_
     rintro e Kf ⟨_,rfl,rfl,KZ⟩
     refine⟨_,_,rfl,?_⟩
     refine bXU.uE KZ (by decide) ?_
     have h:=h.pu KZ
     refine Calls.mono (sW h _ _ _ _ (by exact gK _)) ?_
     rintro e KA ⟨_,rfl,rfl,h,Ll⟩
     refine⟨_,rfl,?_⟩
     refine bXU.more Ll (by intro k hk;exact .inl hk) (by decide) ?_
     refine⟨bXU [3] [] KA.drew L.M.X,?_⟩
     have h:=h.pu (Pu.cu _)
     obtain⟨_,dhd_h⟩:=h.hd
     refine ai _ rfl ⟨.inr ⟨by decide,bX.ld dhd_h (h.dis.2.1) _⟩,_,dhd_h.at rfl,?_⟩
     refine Calls.mono (lJ _) ?_
     rintro e KI ⟨_,rfl,rfl,Lk⟩
     refine⟨_,_,rfl,?_⟩
     refine bXU.uE Lk (by decide) ?_
     have h:=h.pu Lk
     refine Calls.mono (sW h _ _ _ _ (by omega)) ?_
     rintro e Ni ⟨_,rfl,rfl,h,Pq⟩
     refine⟨_,rfl,?_⟩
     refine bXU.more Pq (by intro k hk;exact .inl hk) (by decide) ?_
     obtain⟨_,dhd_h⟩:=h.hd
     refine ai _ rfl ⟨_,dhd_h.at rfl,ai _ rfl (bV dhd_h (by simp) fun M7 N4=>?_)⟩
     have h:=h.zK N4 (by show 0≤i64.wrap (D.au+1)∧i64.wrap (D.au+1)≤64;rw [ak (by omega)];omega)
     have hp:=Ch.call (Ch.call (Ch.pu (Ch.drew (Ch.call (Ch.pu (Ch.drew (Ch.call (Ch.pu (Ch.drew (Ch.call (Ch.call (Ch.pu (Ch.pu hp Jd) I4) Jm (by exact fun k hk=>.inl hk)) JJ (by exact fun k hk=>.inl hk))) Jq) (Lm.mono L.inM) (by exact fun k hk=>.inl hk))) KZ) (Ll.mono L.inM) (by exact fun k hk=>.inl hk))) Lk) (Pq.mono L.inM) (by exact fun k hk=>.inl hk)) N4.ch (by exact fun k e=>.inl (by subst e;exact .inl rfl))
     exact⟨congrArg (Value.int .i64) (by(simp [DB.ay,DB.bp,DB.aR,c2,c3,c5,c6];done)),by rw [show D.ay space first=(((((D.set space ⟨1,space,1,1,false⟩).set first ⟨3,space,0,0,false⟩).aT (((D.set space ⟨1,space,1,1,false⟩).set first ⟨3,space,0,0,false⟩).mem.write true space 0 (u32.wrap first))).aT ((((D.set space ⟨1,space,1,1,false⟩).set first ⟨3,space,0,0,false⟩).aT (((D.set space ⟨1,space,1,1,false⟩).set first ⟨3,space,0,0,false⟩).mem.write true space 0 (u32.wrap first))).mem.write true space 1 (u32.wrap ((((D.set space ⟨1,space,1,1,false⟩).set first ⟨3,space,0,0,false⟩).aT (((D.set space ⟨1,space,1,1,false⟩).set first ⟨3,space,0,0,false⟩).mem.write true space 0 (u32.wrap first))).au)))).aT (((((D.set space ⟨1,space,1,1,false⟩).set first ⟨3,space,0,0,false⟩).aT (((D.set space ⟨1,space,1,1,false⟩).set first ⟨3,space,0,0,false⟩).mem.write true space 0 (u32.wrap first))).aT ((((D.set space ⟨1,space,1,1,false⟩).set first ⟨3,space,0,0,false⟩).aT (((D.set space ⟨1,space,1,1,false⟩).set first ⟨3,space,0,0,false⟩).mem.write true space 0 (u32.wrap first))).mem.write true space 1 (u32.wrap ((((D.set space ⟨1,space,1,1,false⟩).set first ⟨3,space,0,0,false⟩).aT (((D.set space ⟨1,space,1,1,false⟩).set first ⟨3,space,0,0,false⟩).mem.write true space 0 (u32.wrap first))).au)))).mem.write true space 2 0)).eh (i64.wrap (((((((D.set space ⟨1,space,1,1,false⟩).set first ⟨3,space,0,0,false⟩).aT (((D.set space ⟨1,space,1,1,false⟩).set first ⟨3,space,0,0,false⟩).mem.write true space 0 (u32.wrap first))).aT ((((D.set space ⟨1,space,1,1,false⟩).set first ⟨3,space,0,0,false⟩).aT (((D.set space ⟨1,space,1,1,false⟩).set first ⟨3,space,0,0,false⟩).mem.write true space 0 (u32.wrap first))).mem.write true space 1 (u32.wrap ((((D.set space ⟨1,space,1,1,false⟩).set first ⟨3,space,0,0,false⟩).aT (((D.set space ⟨1,space,1,1,false⟩).set first ⟨3,space,0,0,false⟩).mem.write true space 0 (u32.wrap first))).au)))).aT (((((D.set space ⟨1,space,1,1,false⟩).set first ⟨3,space,0,0,false⟩).aT (((D.set space ⟨1,space,1,1,false⟩).set first ⟨3,space,0,0,false⟩).mem.write true space 0 (u32.wrap first))).aT ((((D.set space ⟨1,space,1,1,false⟩).set first ⟨3,space,0,0,false⟩).aT (((D.set space ⟨1,space,1,1,false⟩).set first ⟨3,space,0,0,false⟩).mem.write true space 0 (u32.wrap first))).mem.write true space 1 (u32.wrap ((((D.set space ⟨1,space,1,1,false⟩).set first ⟨3,space,0,0,false⟩).aT (((D.set space ⟨1,space,1,1,false⟩).set first ⟨3,space,0,0,false⟩).mem.write true space 0 (u32.wrap first))).au)))).mem.write true space 2 0)).au)+1))from by have h5:D.has first=true:=(by grind);have h6:=DB.cx h5;have e1:u32.wrap first=first:=cJ (by omega);have e2:u32.wrap D.au=D.au:=cJ (by omega);have e3:i64.wrap (D.au+1)=D.au+1:=ak (by omega);show D.ay space first=(((((D.set space ⟨1,space,1,1,false⟩).set first ⟨3,space,0,0,false⟩)).aT (((D.mem.write true space 0 (u32.wrap first)).write true space 1 (u32.wrap D.au)).write true space 2 0)).eh (i64.wrap (D.au+1)));rw [e1,e2,e3];unfold DB.ay;rw [if_pos (by grind [DB.aR])];rfl];exact h,hp⟩
end
section
set_option maxRecDepth 10000
set_option maxHeartbeats 1000000
end
end Go.Proofs.YtfgpafjlcgaimaaGreatDoor
namespace Go.Proofs.YtfgpafjlcgaimaaGreatDoor
open Go.Proofs.Tryz (prog)
open Go Go.RowKit V
open Go.IntKind (i64 u32 u64)
section
set_option maxRecDepth 100000
def zw(m:Option Addr)(R:ax)(w:World):Prop:=
 split m.isNone (
  R (.pointer none) w) (
  Calls prog 65 #[(.pointer m)] w fun e wv=>
  ∃x7:Int,e= .returned (.int .i64 x7)∧
  ∃I:Nat→Int→World→Prop,(∃m1,I m1 0 wv)∧∀(m1:Nat)(JW:Nat→Value)(x8:Int),∀I2,I m1 x8 I2→
  split (decide ((x8:Int)<x7)) (
   Calls prog 67 #[(.int .i64 x8)] I2 fun e I3=>
   ∃Ku:Bool,∃KD:Int,e= .returned (.agg #[(.bool Ku),(.int .i64 KD)])∧
   Calls prog 66 #[(.pointer m),(.agg #[(.bool Ku),(.int .i64 KD)])] I3 fun e I5=>
   ∃JU:Int,e= .returned (.int .i64 JU)∧
   ∃m2,m2<m1∧I m2 (i64.wrap (x8+1)) I5) (
   Calls prog 65 #[(.pointer m)] I2 fun e I3=>
   ∃La:Int,e= .returned (.int .i64 La)∧
   ∃NL:Option Addr,∃NJ:Nat,∃NK:Nat,∃I5,(Instr.makeSlice 64 (.int .i64 (i64.wrap (2*La))) (.int .i64 (i64.wrap (2*La))):Sem Value).run prog I3= .ok (.slice NL NJ NK) I5∧
   ∀(I8:Nat)(Jh:World),I8=I5.heap.size→Jh=I5.alloc (.cells #[(.pointer m),(.int .i64 0),(.slice NL NJ NK)] 73)→
   R (.pointer (some (Addr.mk I8 0 none))) Jh))
def F5:Ann:=(.node none .leaf (.node none .leaf (.node none (.node none .leaf (.node none (.node (some ⟨[(8,.one (.int .i64))],[3,8,9,10,11,12,13,14,15]⟩) .leaf .leaf) .leaf)) .leaf)))
theorem DNew_eq(m:Option Addr)(R:ax)(w:World):zw m R w=vcF prog aJ [] Tryz.f33 F5 [(.pointer m)] R none w:=by kernel_rfl
theorem yk(m:Option Addr) {R:ax} {w:World}(h:zw m R w):Calls prog 33 #[(.pointer m)] w fun e w'=>∃v,e= .returned v∧R v w':=
 aj Tryz.func33 ar aa ((DNew_eq m R w).mp h)
end
end Go.Proofs.YtfgpafjlcgaimaaGreatDoor
namespace Go.Proofs.YtfgpafjlcgaimaaGreatDoor
open Go.Proofs.Tryz (prog)
open Go Go.RowKit V
open Go.IntKind (i64 u32 u64)
section
set_option maxRecDepth 10000
set_option maxHeartbeats 1000000
theorem IW {L:dA} {m:Mem} {w:World}(h:bH w L m)(hS:1≤m.S):
 Calls prog 33 #[(.pointer (some (Addr.mk L.g 0 none)))] w fun e w'=>∃v,e= .returned v∧∃g:Nat,∃a:Nat,v= .pointer (some (Addr.mk g 0 none))∧bH w' L (m.bL m.S)∧DBP w' ⟨g,a,L⟩ (DB.new m)∧(w.heap.size≤g∧w.heap.size≤a)∧Ch L.X w w':=by
 refine yk (some (Addr.mk L.g 0 none)) ?_
 have hm:=h.cF
 have hp:=Ch.refl L.X w
 have JY:=h.lt
 refine iB ?_
 refine Calls.mono (yO h) ?_
 rintro e w9 ⟨_,rfl,rfl,e9⟩
 obtain rfl:=e9.symm
 refine⟨_,rfl,?_⟩
 refine⟨fun mz x8 W=>mz=(m.S - x8).toNat∧(0≤x8∧x8≤m.S)∧Ch L.X w W∧bH W L (m.bL x8.toNat),⟨_,rfl,(by omega),hp,by exact h⟩,?_⟩
 rintro _ _ x8 I2 ⟨rfl,h0,hp,h⟩
 refine aB (fun c1=>?_) (fun c1=>?_)
 ·refine Calls.mono (lJ _) ?_
  rintro e I3 ⟨_,rfl,rfl,Jm⟩
  refine⟨_,_,rfl,?_⟩
  have h:=h.pu Jm
  refine Calls.mono (Gf h _ _) ?_
  rintro e I5 ⟨_,rfl,rfl,h,JJ⟩
  refine⟨_,rfl,?_⟩
  have hp:=Ch.call (Ch.pu hp Jm) JJ (by exact fun k hk=>.inl hk)
  exact⟨_,by rw [IntKind.wrap_i64];omega,rfl,by rw [IntKind.wrap_i64];omega,hp,by rw [Mem.nV _ (by omega)];exact h⟩
 ·have Nb:=h.lt
  have QC:=hp
  have hx:x8.toNat=m.S:=by omega
  have Lp:=h.cF.1
  have QK:Int.toNat (i64.wrap (2*(((m.bL x8.toNat).S:Nat):Int)))=2*m.S:=by rw [Mem.ir,ak (by omega)];omega
  refine Calls.mono (yO h) ?_
  rintro e w9 ⟨_,rfl,rfl,e9⟩
  obtain rfl:=e9.symm
  refine⟨_,rfl,?_⟩
  refine Ct Ga ((⟨0⟩:U32)) (by rfl) (n:=(i64.wrap (2*((m.bL x8.toNat).S)))) (by rw [ak (by omega)];omega) (by rw [ak (by omega)];omega) (by rw [ak (by omega)];omega) fun PU I5 Kv KJ=>?_
  have lo_g_wv3:=Kv.lo hp
  refine mkd fun I8 Jh K0=>?_
  have TK:=K0.blk
  have h:=(h.pu Kv.pu).pu K0.pu
  have hp:=Ch.made (Ch.made hp Kv) K0
  exact⟨I8,PU,rfl,by rw [show(m.bL m.S)=(m.bL x8.toNat)from by rw [hx]];exact h,⟨⟨_,Blk.cast TK (by rw [QK];show _=_;simp only [DB.n2,DB.new,Mem.ir])⟩,⟨_,_,Made.old K0 Kv.blk,by rw [Array.size_replicate,QK];show _=2*(m.bL m.S).S;rw [Mem.ir],fun p hp=>by have U5:p<m.S:=(by rwa [DB.uA]at hp);exact⟨yz (by rw [QK];omega),yz (by rw [QK];omega)⟩⟩,by show bH _ _ (m.bL m.S);rw [← hx];exact h,DB.sH m hS,by have:=K0.num;have:=Kv.lt;simp only [];omega,fun hh=>absurd (show I8<I2.heap.size from Nb _ hh) (by have:=K0.num;have:=Kv.kept.size;omega),fun hh=>absurd (show PU<I2.heap.size from Nb _ hh) (by have:=Kv.num;omega)⟩,by have h1:=K0.num;have h2:=Kv.num;have h3:=Kv.kept.size;have h4:=QC.size;omega,hp⟩
theorem GK:S1 prog 180 3 (.int .i64 0) 8:=S1.of (by kernel_rfl) (by kernel_rfl) rfl
theorem GG:SN prog 180 3 (.int .i64 0) 1 8:=GK.sn
end
end Go.Proofs.YtfgpafjlcgaimaaGreatDoor
namespace Go.Proofs.YtfgpafjlcgaimaaGreatDoor
open Go.Proofs.Tryz (prog)
open Go Go.RowKit V
open Go.IntKind (i64 u32 u64)
section
set_option maxRecDepth 100000
def nw(d:Option Addr)(R:ax)(w:World):Prop:=
 ∀(gv:Nat)(wv:World),gv=w.heap.size→wv=w.alloc (.cells #[(.pointer d)] 26)→
 R (.func (.func 153) #[] #[(.pointer (some (Addr.mk gv 0 none)))]) wv
def wJ:Ann:= .leaf
theorem DEntries_eq(d:Option Addr)(R:ax)(w:World):nw d R w=vcF prog aJ [] Tryz.f127 wJ [(.pointer d)] R none w:=by kernel_rfl
theorem qg(d:Option Addr) {R:ax} {w:World}(h:nw d R w):Calls prog 127 #[(.pointer d)] w fun e w'=>∃v,e= .returned v∧R v w':=
 aj Tryz.func127 ar aa ((DEntries_eq d R w).mp h)
def ko(yield:Value)(cap0:Addr)(R:ax)(w:World):Prop:=
 ∃x4:Option Addr,w.cell? cap0=some (.pointer x4)∧
 Calls prog 62 #[(.pointer x4)] w fun e wv=>
 ∃x5:Int,e= .returned (.int .i64 x5)∧
 ∃I:Nat→Int→World→Prop,(∃m,I m 0 wv)∧∀(m:Nat)(JW:Nat→Value)(x6:Int),∀I2,I m x6 I2→
 split (decide ((x6:Int)<x5)) (
  ∃JS:Option Addr,I2.cell? cap0=some (.pointer JS)∧
  Calls prog 30 #[(.pointer JS),(.int .i64 x6)] I2 fun e I3=>
  ∃Ku:Int,∃KD:Int,∃NW:Int,∃NV:Int,∃NU:Bool,e= .returned (.agg #[(.int .i64 Ku),(.int .i64 KD),(.int .i64 NW),(.int .i64 NV),(.bool NU)])∧
  CU prog aJ true yield #[(.int .i64 x6),(.agg #[(.int .i64 Ku),(.int .i64 KD),(.int .i64 NW),(.int .i64 NV),(.bool NU)])] I3 fun e I5=>
  ∃JU:Bool,e= .returned (.bool JU)∧
  split (!JU) (
   R (.tuple #[]) I5) (
   ∃m1,m1<m∧I m1 (i64.wrap (x6+1)) I5)) (
  R (.tuple #[]) I2)
def qG:Ann:=(.node none .leaf (.node none (.node (some ⟨[(6,.one (.int .i64))],[3,6,7,8,9,10,11,12,13,14,15,16]⟩) .leaf .leaf) .leaf))
theorem DEntries_1_eq(yield:Value)(cap0:Addr)(R:ax)(w:World):ko yield cap0 R w=vcF prog aJ [] Tryz.f153 qG [yield,(.pointer (some cap0))] R none w:=by kernel_rfl
theorem mQ(yield:Value)(cap0:Addr) {R:ax} {w:World}(h:ko yield cap0 R w):Calls prog 153 #[yield,(.pointer (some cap0))] w fun e w'=>∃v,e= .returned v∧R v w':=
 aj Tryz.func153 ar aa ((DEntries_1_eq yield cap0 R w).mp h)
def sa(d:Option Addr)(space:Int)(R:ax)(w:World):Prop:=
 ∀(gv:Nat)(wv:World),gv=w.heap.size→wv=w.alloc (.cells #[(.int .i64 space)] 3)→
 ∃x9:Int,wv.cell? (Addr.mk gv 0 none)=some (.int .i64 x9)∧
 Calls prog 73 #[(.pointer d),(.int .i64 x9)] wv fun e I2=>
 ∃Jz:Bool,e= .returned (.bool Jz)∧
 split (!Jz) (
  R (.slice none 0 0) I2) (
  ∀(I8:Nat)(I3:World),I8=I2.heap.size→I3=I2.alloc (.cells (#[(.slice none 0 0)]) 180)→
  Calls prog 127 #[(.pointer d)] I3 fun e I5=>
  ∃LD:Value,e= .returned LD∧
  ∃(gf:Nat)(cap:Array Value),LD= .func (.func gf) #[] cap∧aJ.elem gf=true∧
  ∀(l dl:Nat)(Jh:World),dl=I5.heap.size→l=I5.heap.size+1→Kept (fun k=>k<I5.heap.size) I5 Jh→l<Jh.heap.size→Jh.heap[dl]? =some (.deferred (some []))→
  ∃(xs:List (List Value))(X:Nat→Prop)(D J Jr:Nat→World→Prop)(Je:Nat→Nat→World→Prop),
  Iter prog gf cap xs X D∧(∀k,X k→k<I5.heap.size)∧(∀x∈xs,uT [.one (.int .i64),.agg [.int .i64,.int .i64,.int .i64,.int .i64,.bool]] fun vs=>x=vs)∧
  (vO X l J∧vO X l Jr∧∀id,vO X l (Je id))∧D 0 Jh∧J 0 Jh∧
  (∀(i:Nat)(A:World),J i A→D i A→∀(JU:Int)(NQ:Int)(Ms:Int)(Sq:Int)(Sp:Int)(So:Bool),xs[i]? =some [(.int .i64 JU),(.agg #[(.int .i64 NQ),(.int .i64 Ms),(.int .i64 Sq),(.int .i64 Sp),(.bool So)])]→
   ∀(KU:Nat)(Kf:World),KU=A.heap.size→Kf=A.alloc (.cells (#[(.int .i64 0),(.int .i64 0),(.int .i64 0),(.int .i64 0),(.bool false)]) 59)→
   aI Kf (Addr.mk KU 0 none) [(.int .i64 NQ),(.int .i64 Ms),(.int .i64 Sq),(.int .i64 Sp),(.bool So)] fun KA=>
   Kept (fun k=>X k∨k=l) A KA∧∀Ju,Kept (fun k=>k<KA.heap.size∧k≠l) KA Ju→
   ∃J1:Bool→World→Prop,(
    ∃Kj:Int,Ju.cell? (Addr.mk gv 0 none)=some (.int .i64 Kj)∧
    split ((JU:Int) !=Kj) (
     ∃Kh:Int,Ju.cell? ((Addr.mk KU 0 none).add 0)=some (.int .i64 Kh)∧
     split ((Kh:Int) !=0) (
      ∃Lh:Int,Ju.cell? ((Addr.mk KU 0 none).add 1)=some (.int .i64 Lh)∧
      ∃M0:Int,Ju.cell? (Addr.mk gv 0 none)=some (.int .i64 M0)∧
      J1 ((Lh:Int)==M0) Ju) (
      J1 false Ju)) (
     J1 false Ju))∧∀(Nh:Nat→Value)(LY:Bool),∀KI,J1 LY KI→
   split LY (
    ∃RU:Option Addr,∃RR:Nat,∃RT:Nat,KI.cell? (Addr.mk I8 0 none)=some (.slice RU RR RT)∧
    ∀(VP:Nat)(Ni:World),VP=KI.heap.size→Ni=KI.alloc (.cells #[(.int .i64 JU)] 3)→
    ∃RK:Option Addr,∃RI:Nat,∃RJ:Nat,∃M7,(Builtin.append_ #[180,180] 180 #[(.slice RU RR RT),(.slice (some (Addr.mk VP 0 none)) 1 1)]:Sem Value).run prog Ni= .ok (.slice RK RI RJ) M7∧
    aI M7 (Addr.mk I8 0 none) [(.slice RK RI RJ)] fun O2=>
    Kept (fun k=>X k∨k=l) Ju O2∧J (i+1) O2) (
    Kept (fun k=>X k∨k=l) Ju KI∧J (i+1) KI))∧
  (∀W,J xs.length W→D xs.length W→
   ∃OV:Option Addr,∃NB:Nat,∃OU:Nat,W.cell? (Addr.mk I8 0 none)=some (.slice OV NB OU)∧
   W.heap[dl]? =some (.deferred (some []))∧
   R (.slice OV NB OU) (W.putObj dl (.deferred none)))∧
  (∀i W,Jr i W→D i W→
   W.heap[dl]? =some (.deferred (some []))∧
   R (.slice none 0 0) (W.putObj dl (.deferred none)))∧True)
def BG:Ann:=(.node none .leaf (.node none .leaf (.node none .leaf (.node none (.node none .leaf (.node none (.node (some ⟨[(14,.one (.int .i64)),(15,.agg [.int .i64,.int .i64,.int .i64,.int .i64,.bool])],[]⟩) .leaf (.node none (.node none (.node (some ⟨[(29,.one (.bool))],[16,17,18,19,20,21,22,23,24,25,26,27,28,29]⟩) .leaf .leaf) .leaf) .leaf)) .leaf)) .leaf))))
theorem DOwned_eq(d:Option Addr)(space:Int)(R:ax)(w:World):sa d space R w=vcF prog aJ [] Tryz.f95 BG [(.pointer d),(.int .i64 space)] R none w:=by kernel_rfl
theorem tM(d:Option Addr)(space:Int) {R:ax} {w:World}(h:sa d space R w):Calls prog 95 #[(.pointer d),(.int .i64 space)] w fun e w'=>∃v,e= .returned v∧R v w':=
 aj Tryz.func95 ar aa ((DOwned_eq d space R w).mp h)
end
end Go.Proofs.YtfgpafjlcgaimaaGreatDoor
namespace Go.Proofs.YtfgpafjlcgaimaaGreatDoor
open Go.Proofs.Tryz (prog)
open Go Go.RowKit V
open Go.IntKind (i64 u32 u64)
section
set_option maxRecDepth 10000
set_option maxHeartbeats 1000000
def DB.row(D:DB)(p:Nat):List Value:= [.int .i64 (p:Int),.agg #[.int .i64 (D.ent p).typ,.int .i64 (D.ent p).owner,.int .i64 (D.ent p).refs,.int .i64 (D.ent p).state,.bool (D.ent p).aS]]
def DB.rows(D:DB):List (List Value):=(List.range D.S).map D.row
theorem DB.oE(D:DB):D.rows.length=D.S:=by simp [DB.rows]
theorem DB.ud {D:DB} {i:Nat}(h:i<D.S):D.rows[i]? =some (D.row i):=by simp [DB.rows,h]
theorem DB.EF {D:DB} {i:Nat} {x:List Value}(h:D.rows[i]? =some x):i<D.S∧x=D.row i:=by
 have:=(List.getElem?_eq_some_iff.1 h).1
 rw [DB.oE]at this
 rw [DB.ud this]at h
 exact⟨this,(Option.some.inj h).symm⟩
def eg.XI(L:eg)(g:Nat):Nat→Prop:=fun k=>L.X k∨k=g
theorem DBP.it {L:eg} {D:DB} {w A:World} {g:Nat}(h:DBP w L D)(k:Kept (L.XI g) w A):DBP A L D:=h.ch (Ch.EN k) fun _ hx hn=>hn (.inl hx)
theorem CN {L:eg} {D:DB} {w:World}(h:DBP w L D):
 Calls prog 127 #[.pointer (some (Addr.mk L.g 0 none))] w fun e w'=>∃v,e= .returned v∧∃g T,v= .func (.func 153) #[] #[.pointer (some (Addr.mk g 0 none))]∧Blk w' g #[.pointer (some (Addr.mk L.g 0 none))] T∧w.heap.size≤g∧Pu w w':=by
 refine qg _ ?_
 refine mkd fun gv wv m=>?_
 exact⟨gv,_,rfl,m.blk,m.lo (Ch.refl (fun _=>False) w),m.pu⟩
theorem Ih {L:eg} {D:DB} {w:World} {g:Nat} {T:TypeId}(h:DBP w L D)(hg:Blk w g #[.pointer (some (Addr.mk L.g 0 none))] T):
 Iter prog 153 #[.pointer (some (Addr.mk g 0 none))] D.rows (L.XI g) (fun _ A=>Kept (L.XI g) w A):=by
 have Jt:∀k,L.XI g k→k<w.heap.size:=fun k hk=>hk.elim (h.lt k) (fun e=>e▸hg.lt)
 have TD:=h.S64
 refine z0 Jt fun l J Jx W sJ sJx j0 d0 hy=>?_
 rw [DB.oE]
 have pJ:∀ {i A B},J i A→Pu A B→J i B:=fun a q=>sJ _ _ _ a (q.mono fun _ h=>h.elim)
 have ef:∀ {A B},Kept (L.XI g) w A→Pu A B→Kept (L.XI g) w B:=fun a q=>a.trans (q.ef fun k hk=>Nat.lt_of_lt_of_le (Jt k hk) a.size)
 have ld:∀ {A},Kept (L.XI g) w A→A.cell? (Addr.mk g 0 none)=some (.pointer (some (Addr.mk L.g 0 none))):=fun a=>by rw [a.cell (p:=Addr.mk g 0 none) (.inr rfl)];exact hg.at0 rfl
 refine Calls.mono (P:=prog) (mQ (.func (.yield l) #[] #[]) (Addr.mk g 0 none) (R:=fun _ B=>(J D.S B∧Kept (L.XI g) w B)∨∃i,Jx i B∧Kept (L.XI g) w B) ?_) (fun e B hh=>by obtain⟨v,h1,h2⟩:=hh;exact⟨⟨v,h1⟩,h2⟩)
 refine⟨_,ld d0,Calls.mono (xF (h.it d0)) ?_⟩
 rintro e _ ⟨_,rfl,rfl,rfl⟩
 refine⟨_,rfl,?_⟩
 refine⟨fun mz x A=>0≤x∧x≤D.S∧mz=((D.S:Int) - x).toNat∧J x.toNat A∧Kept (L.XI g) w A,⟨_,by omega,by omega,rfl,j0,d0⟩,?_⟩
 rintro mz _ x A ⟨hx0,QE,rfl,hj,hd⟩
 refine aB (fun c1=>?_) (fun c1=>?_)
 ·refine⟨_,ld hd,Calls.mono (dAt (h.it hd) _ (by simp [DB.has];omega)) ?_⟩
  rintro e A1 ⟨_,rfl,rfl,q1⟩
  refine⟨_,_,_,_,_,rfl,?_⟩
  have hyy:=hy x.toNat _ A1 (DB.ud (by omega)) (pJ hj q1) (ef hd q1)
  simp only [DB.row,show((x.toNat:Nat):Int)=x by omega]at hyy
  refine sf hyy ?_
  rintro e B (⟨rfl,Vm,JH⟩ | ⟨rfl,Vm,JH⟩)
  ·refine⟨_,rfl,iB ?_⟩
   refine⟨_,?_,by rw [IntKind.wrap_i64];omega,by rw [IntKind.wrap_i64];omega,rfl,?_,(ef hd q1).trans JH⟩
   ·rw [IntKind.wrap_i64];omega
   ·rw [ak (by omega),show(x+1).toNat=x.toNat+1 by omega];exact Vm
  ·exact⟨_,rfl,jM (.inr ⟨_,Vm,(ef hd q1).trans JH⟩)⟩
 ·exact .inl ⟨by rw [show D.S=x.toNat by omega];exact hj,hd⟩
theorem Hf {L:eg} {D:DB} {w:World}(h:DBP w L D)(space:Int):
 Calls prog 95 #[.pointer (some (Addr.mk L.g 0 none)),.int .i64 space] w fun e w'=>∃v,e= .returned v∧∃Z':Nat→Prop,∃A':Option Addr,∃N' C':Nat,v= .slice A' N' C'∧Own w' Z' 3 A' N' C' (if D.dM space then D.cR space D.S else [])∧(∀k,Z' k→w.heap.size≤k)∧Pu w w':=by
 refine tM _ _ ?_
 have TD:=h.S64
 refine mkd fun gv wv m=>?_
 refine⟨_,m.blk.at0 rfl,Calls.mono (u4 (h.pu m.pu) _) ?_⟩
 rintro e I2 ⟨_,rfl,rfl,q1⟩
 refine⟨_,rfl,?_⟩
 have b0:=q1.blk m.blk
 have lg:=m.lo (Ch.refl (fun _=>False) w)
 have p1:Pu w I2:=Ch.pu m.pu q1
 refine aY (fun c1=>?_) (fun c1=>?_)
 ·exact⟨fun _=>False,_,_,_,rfl,by rw [if_neg (by simp [c1])];exact Own.nil,fun k hk=>hk.elim,p1⟩
 refine mkd fun I8 I3 m1=>?_
 have b0:=m1.old b0
 have ne:=m1.ne (q1.blk m.blk)
 have p2:Pu w I3:=Ch.pu p1 m1.pu
 have lg1:=m1.lo p1
 refine Calls.mono (CN (h.pu p2)) ?_
 rintro e I5 ⟨_,rfl,g,T,rfl,bg,lgg,q3⟩
 refine⟨_,rfl,_,_,rfl,by kernel_rfl,?_⟩
 intro l dl Jh hdl hl k4 Vh hdo
 have b0:=q3.blk b0
 have b1:=q3.blk m1.blk
 have q4:Pu I5 Jh:=⟨k4.mono fun _ h=>h.1⟩
 have p3:Pu w I5:=Ch.pu p2 q3
 have p4:Pu w Jh:=Ch.pu p3 q4
 have h4:=h.pu p4
 have bg4:=q4.blk bg
 have glt:=bg.lt
 have g1lt:=(q3.blk m1.blk).lt
 have g0lt:=b0.lt
 have Nf:∀k,L.XI g k→k<I5.heap.size:=fun k hk=>hk.elim ((h.pu p3).lt k) (fun e=>e▸glt)
 have nX0:¬L.XI g gv:=fun hx=>hx.elim (fun hx=>absurd (h.lt _ hx) (by omega)) (fun e=>by have:=m1.old (q1.blk m.blk) |>.lt;omega)
 have nX1:¬L.XI g I8:=fun hx=>hx.elim (fun hx=>absurd (h.lt _ hx) (by omega)) (fun e=>by have:=m1.lt;omega)
 have Nb:=p3.size
 let Zn:Nat→Prop:=fun k=>Jh.heap.size≤k
 let J:Nat→World→Prop:=fun i A=>Ch (L.XI g) w A∧Blk A gv #[.int .i64 space] 3∧(∃ad n c T,Blk A I8 #[.slice ad n c] T∧Own A Zn 3 ad n c (D.cR space i))∧A.heap[dl]? =some (.deferred (some []))∧Jh.heap.size≤A.heap.size
 have sJ:vO (L.XI g) l J:=Ez fun i A B hj q=>by
  obtain⟨a1,a2,⟨ad,n,c,T2,a3,a4⟩,a5,a6⟩:=hj
  refine⟨a1.call q fun k hk=>hk.elim .inl (fun e=>.inr (by omega)),q.blk a2 (fun hx=>hx.elim nX0 (by omega)),⟨ad,n,c,T2,q.blk a3 (fun hx=>hx.elim nX1 (by omega)),a4.ch q fun k hk hx=>?_⟩,q.obj a5 (fun hx=>hx.elim (fun hx=>absurd (Nf _ hx) (by omega)) (by omega)),Nat.le_trans a6 q.size⟩
  have hk:Jh.heap.size≤k:=hk
  exact hx.elim (fun hx=>absurd (Nf _ hx) (by have:=k4.size;omega)) (by omega)
 refine⟨D.rows,L.XI g,_,J,fun _ _=>False,fun _ _ _=>False,Ih h4 bg4,Nf,?_,⟨sJ,fun _ _ _ h _=>h,fun _ _ _ _ h _=>h⟩,Kept.refl _ _,?_,?_,?_,fun _ _ h _=>h.elim,trivial⟩
 ·intro x hx
  obtain⟨i,hi,rfl⟩:=List.mem_map.1 hx
  exact⟨_,_,_,_,_,_,rfl⟩
 ·exact⟨p4.mono fun _ h=>h.elim,q4.blk b0,⟨_,_,_,_,q4.blk b1,by exact Own.nil⟩,hdo,Nat.le_refl _⟩
 ·rintro i A ⟨a1,a2,⟨ad,n,c,T2,a3,a4⟩,a5,a6⟩ hd JU xa xb xc xd xe hx
  obtain⟨hi,hx⟩:=DB.EF hx
  simp only [DB.row,List.cons.injEq,Value.int.injEq,Value.agg.injEq,Value.bool.injEq,Array.mk.injEq,and_true,true_and]at hx
  obtain⟨rfl,rfl,rfl,rfl,rfl,rfl⟩:=hx
  refine mkd fun KU Kf m6=>?_
  refine bE m6.blk (by simp) fun KA s7=>?_
  have q6:Pu A KA:=(show Pu A Kf from m6.pu).stored s7 (.inr (m6.lo (Ch.refl (fun _=>False) A)))
  have Js:∀k,L.XI g k∨k=l→k<A.heap.size:=fun k hk=>hk.elim (fun hx=>by have:=Nf _ hx;have:=k4.size;omega) (by omega)
  refine⟨q6.ef Js,fun Ju k5=>?_⟩
  have b2:Blk KA KU #[.int .i64 (D.ent i).typ,.int .i64 (D.ent i).owner,.int .i64 (D.ent i).refs,.int .i64 (D.ent i).state,.bool (D.ent i).aS] _:=s7.blk
  have q5:Ch (fun k=>k=l) KA Ju:=⟨k5⟩
  have n2:=m6.num
  have b2:=q5.blk b2 (by omega)
  have qa:Ch (fun k=>k=l) A Ju:=(q6.mono fun _ h=>h.elim).trans q5
  have b0:=qa.blk a2 (by omega)
  refine⟨fun b B=>b=D.eK space i∧B=Ju,?_,?_⟩
  ·refine⟨_,b0.at0 rfl,aG (fun c2=>?_) (fun c2=>⟨by simp [DB.eK,c2],rfl⟩)⟩
   refine⟨_,b2.at rfl,aG (fun c3=>?_) (fun c3=>⟨by simp [DB.eK,c3],rfl⟩)⟩
   exact⟨_,b2.at rfl,_,b0.at0 rfl,by simp [DB.eK,c2,c3],rfl⟩
  rintro _ b B ⟨rfl,rfl⟩
  have e1:D.cR space (i+1)=if D.eK space i then D.cR space i++ [I64.mk i]else D.cR space i:=by
   have:=D.uv space (p:=(i:Int)) (by omega)
   rwa [ak (by omega),show((i:Int)+1).toNat=i+1 by omega,show((i:Nat):Int).toNat=i by omega]at this
  have hj5:Ch (L.XI g) w B∧Blk B gv #[.int .i64 space] 3∧(∃T,Blk B I8 #[.slice ad n c] T)∧Own B Zn 3 ad n c (D.cR space i)∧B.heap[dl]? =some (.deferred (some []))∧Jh.heap.size≤B.heap.size:=
   ⟨a1.call qa fun k e=>.inr (by omega),b0,⟨_,qa.blk a3 (by omega)⟩,a4.ch qa (fun k (hk:Jh.heap.size≤k) e=>by omega),qa.obj a5 (by omega),Nat.le_trans a6 qa.size⟩
  obtain⟨c1,c2,⟨T3,c3⟩,c4,c5,c6⟩:=hj5
  cases hb:D.eK space i
  ·refine iB ⟨Kept.refl _ _,c1,c2,⟨_,_,_,_,c3,by rw [e1,hb];exact c4⟩,c5,c6⟩
  ·refine jM ?_
   refine⟨_,_,_,c3.at0 rfl,?_⟩
   refine mkd fun VP Ni m9=>?_
   have hlen:=(c4.pu m9.pu).len
   have hol:=D.xh space i
   refine(c4.pu m9.pu).app GG m9.blk (x:=I64.mk i) (by rfl) (by omega) (by omega) (by exact Nat.le_trans c6 m9.pu.size) (fun A9 c9 M7 o9 q9=>?_)
   have c3:=q9.blk (m9.old c3) (fun hx=>absurd c3.lt (by have hx:Jh.heap.size≤I8:=hx;omega))
   refine bE c3 (by simp) fun O2 Ly=>?_
   have hZ1:∀k,Zn k→k≠I8:=fun k (hk:Jh.heap.size≤k) e=>by omega
   have SB:Ch (fun k=>Jh.heap.size≤k∨k=I8) B O2:=((show Ch _ B Ni from m9.pu.mono fun _ h=>h.elim).call q9 fun k hk=>.inl (.inl hk)).call Ly.ch fun k e=>.inl (.inr e)
   refine⟨SB.kept.mono fun k hk=>⟨hk.elim (fun hx=>by have:=Nf _ hx;have:=k4.size;omega) (by omega),fun h=>hk.elim (fun hx=>h.elim (fun h=>absurd (Nf _ hx) (by have:=k4.size;omega)) (fun e=>nX1 (e▸hx))) (fun e=>h.elim (by omega) (by omega))⟩,?_⟩
   refine⟨c1.call SB fun k hk=>.inr (hk.elim (fun h=>Nat.le_trans p4.size h) (fun e=>by omega)),SB.blk c2 (fun h=>h.elim (by omega) (fun e=>ne e)),⟨_,_,_,_,Ly.blk,by rw [e1,hb];exact o9.ch Ly.ch fun k hk e=>hZ1 k hk e⟩,SB.obj c5 (fun h=>h.elim (by omega) (by omega)),Nat.le_trans c6 SB.size⟩
 ·rintro W ⟨a1,a2,⟨ad,n,c,T2,a3,a4⟩,a5,a6⟩ hd
  refine⟨_,_,_,a3.at0 rfl,a5,Zn,_,_,_,rfl,?_,fun k (hk:Jh.heap.size≤k)=>Nat.le_trans p4.size hk,?_⟩
  ·rw [if_pos c1]
   rw [DB.oE]at a4
   exact a4.ch (Pu.put W dl _ (fun k=>k=dl) rfl) fun k (hk:Jh.heap.size≤k) e=>by omega
  ·exact(Pu.join p4 hd a1).call (Pu.put W dl _ (fun k=>k=dl) rfl) fun k e=>.inr (by omega)
end
end Go.Proofs.YtfgpafjlcgaimaaGreatDoor
namespace Go.Proofs.YtfgpafjlcgaimaaGreatDoor
open Go.Proofs.Tryz (prog)
open Go Go.RowKit V
open Go.IntKind (i64 u32 u64)
section
set_option maxRecDepth 100000
set_option maxHeartbeats 1000000
attribute [local irreducible] Vc2 VcD
attribute [local grind=] Pd.cg Pd.bI Pd.gD Pd.gS Pd.eU Pd.dR Pd.ek Pd.eI Pd.j6
attribute [local grind .] Pd.Ok.ent
attribute [local grind→] Pd.Ok.cF
def pZ:Ctr Un:=⟨[.one (.obj 0 0),.agg [.bool,.int .i64]],[],[.ob 0 []],[],fun fa fb rm m K=>K ⟨(.bool (m.has fa fb)),none,[],[],[]⟩⟩
theorem DX:LV Un prog 60 pZ:=by
 show ∀(fa:Bool)(fb:Int)(rm:Nat→Nat)(m:Mem),∀Q:Ou Un→Prop,(Q ⟨(.bool (m.has fa fb)),none,[],[],[]⟩)→∀(X:Nat→Nat→Prop)(w:World),Sat (U:=Un) [(.ob 0 rm m)] X w→aw (U:=Un) [(.ob 0 rm m)] fr0 []→Calls prog 60 #[(.pointer (some (Addr.mk (rm 0) 0 none))),(.agg #[(.bool fa),(.int .i64 fb)])] w (bn (U:=Un) [(.ob 0 rm m)] [] X w Q)
 intro fa fb rm m Q hQ X w hs hl
 obtain⟨L,hg,hM,hX⟩:=oO hs
 rw [hg]
 refine(IN hM fa fb).mono ?_
 rintro e w' ⟨u,rfl,rfl,q⟩
 exact bn.pu hs q hQ trivial
def tA:Ctr Un:=⟨[.one (.obj 0 0),.agg [.bool,.int .i64],.one (.int .i64)],[],[.ob 0 []],[],fun fa fb off rm m K=>K ⟨(.int .u32 (m.bQ fa fb off)),none,[],[],[]⟩⟩
theorem FX:LV Un prog 152 tA:=by
 show ∀(fa:Bool)(fb:Int)(off:Int)(rm:Nat→Nat)(m:Mem),∀Q:Ou Un→Prop,(Q ⟨(.int .u32 (m.bQ fa fb off)),none,[],[],[]⟩)→∀(X:Nat→Nat→Prop)(w:World),Sat (U:=Un) [(.ob 0 rm m)] X w→aw (U:=Un) [(.ob 0 rm m)] fr0 []→Calls prog 152 #[(.pointer (some (Addr.mk (rm 0) 0 none))),(.agg #[(.bool fa),(.int .i64 fb)]),(.int .i64 off)] w (bn (U:=Un) [(.ob 0 rm m)] [] X w Q)
 intro fa fb off rm m Q hQ X w hs hl
 obtain⟨L,hg,hM,hX⟩:=oO hs
 rw [hg]
 refine(HZ hM fa fb off).mono ?_
 rintro e w' ⟨u,rfl,rfl,q⟩
 exact bn.pu hs q hQ trivial
def jC:Ctr Un:=⟨[.one (.obj 0 0),.agg [.bool,.int .i64],.one (.int .i64),.one (.int .u32)],[],[.ob 0 []],[0],fun fa fb off v rm m K=>(0≤(v:Int)∧(v:Int)<4294967296)∧K ⟨(.int .i64 (m.err fa fb off)),none,[.ob 0 (m.write fa fb off v)],[],[]⟩⟩
theorem v7:LV Un prog 15 jC:=by
 show ∀(fa:Bool)(fb:Int)(off:Int)(v:Int)(rm:Nat→Nat)(m:Mem),∀Q:Ou Un→Prop,((0≤(v:Int)∧(v:Int)<4294967296)∧Q ⟨(.int .i64 (m.err fa fb off)),none,[.ob 0 (m.write fa fb off v)],[],[]⟩)→∀(X:Nat→Nat→Prop)(w:World),Sat (U:=Un) [(.ob 0 rm m)] X w→aw (U:=Un) [(.ob 0 rm m)] fr0 []→Calls prog 15 #[(.pointer (some (Addr.mk (rm 0) 0 none))),(.agg #[(.bool fa),(.int .i64 fb)]),(.int .i64 off),(.int .u32 v)] w (bn (U:=Un) [(.ob 0 rm m)] [0] X w Q)
 intro fa fb off v rm m Q hQ X w hs hl
 obtain⟨I6,hQ⟩:=hQ
 obtain⟨L,hg,hM,hX⟩:=oO hs
 rw [hg]
 refine(xr hM fa fb off v I6).mono ?_
 rintro e w' ⟨u,rfl,rfl,h2,q⟩
 exact bn.one (Z:=X 0) (q.mono fun k hk=>(hX k).1 hk) (show cT 0 rm _ (X 0) w' from⟨L,hg,hX,h2⟩) (fun k hk=>.inl hk) hQ trivial
theorem GS {r rm:Nat→Nat} {E:Pd} {m:Mem}(hl:aw (U:=Un) [.ob 1 r E,.ob 0 rm m] fr0 [(.l 0 1,.p (.obj 1 0 0))]):r 1=rm 0:=by
 obtain⟨t',r',s',S5,hk⟩:=hl _ _ (List.mem_singleton.2 rfl)
 simp only [nth,Option.some.injEq,Res.ob.injEq]at S5
 obtain⟨rfl,rfl,_⟩:=S5
 have hk:some (Value.pointer (some ⟨rm 0,0,none⟩))=some (Value.pointer (some ⟨r 1,0,none⟩)):=hk
 simp only [Option.some.injEq,Value.pointer.injEq,Addr.mk.injEq]at hk
 exact hk.1.symm
def kR:Ctr Un:=⟨[.one (.obj 0 0)],[],[.ob 1 [(1,1,0)],.ob 0 []],[],fun r E rm m K=>K ⟨(.pointer (some (Addr.mk (r 1) 0 none))),(some (.p (.obj 1 0 0))),[],[],[]⟩⟩
def yn(r:Nat→Nat)(E:Pd)(rm:Nat→Nat)(m:Mem)(Q:Ou Un→Prop):Prop:=
 Pd.Ok E→
 Mem.Wf m→
 Q ⟨(.pointer (some (Addr.mk (r 1) 0 none))),(some (.p (.obj 1 0 0))),[],[],[]⟩
theorem yo:Vc2 Un prog (aQ []) [] Tryz.f11 .leaf [] kR=(∀r (E:Pd) rm (m:Mem),∀Q,(kR.body r E rm m Q)→yn r E rm m Q):=by kernel_rfl
theorem ym:LV Un prog 11 kR:=verify Tryz.func11 aa (tb:= []) trivial (by kernel_rfl) (yo.mpr fun r E rm m Q h f1 f2=>h)
def cD:Ctr Un:=⟨[.one (.obj 0 0)],[],[.ob 1 [(1,1,0)],.ob 0 []],[],fun r E rm m K=>K ⟨(.pointer (some (Addr.mk (rm 0) 0 none))),(some (.p (.obj 1 0 0))),[],[],[]⟩⟩
theorem il:LV Un prog 11 cD:=by
 show ∀(r:Nat→Nat)(E:Pd)(rm:Nat→Nat)(m:Mem),∀Q:Ou Un→Prop,(Q ⟨(.pointer (some (Addr.mk (rm 0) 0 none))),(some (.p (.obj 1 0 0))),[],[],[]⟩)→∀(X:Nat→Nat→Prop)(w:World),Sat (U:=Un) [(.ob 1 r E),(.ob 0 rm m)] X w→aw (U:=Un) [(.ob 1 r E),(.ob 0 rm m)] fr0 [(.l 0 1,.p (.obj 1 0 0))]→Calls prog 11 #[(.pointer (some (Addr.mk (r 0) 0 none)))] w (bn (U:=Un) [(.ob 1 r E),(.ob 0 rm m)] [] X w Q)
 intro r E rm m Q hQ X w hs hl
 exact ym r E rm m Q (show Q ⟨.pointer (some (Addr.mk (r 1) 0 none)),some (.p (.obj 1 0 0)),[],[],[]⟩from(by rw [GS hl];exact hQ)) X w hs hl
def iq:Ctr Un:=⟨[.one (.obj 0 0)],[],[.ob 1 []],[],fun r E K=>K ⟨(.int .i64 E.au),none,[],[],[]⟩⟩
def BK(r:Nat→Nat)(E:Pd)(Q:Ou Un→Prop):Prop:=
 Pd.Ok E→
 Q ⟨(.int .i64 (Pd.au E)),none,[],[],[]⟩
theorem BL:Vc2 Un prog (aQ []) [] Tryz.f128 .leaf [] iq=(∀r (E:Pd),∀Q,(iq.body r E Q)→BK r E Q):=by kernel_rfl
theorem BJ:LV Un prog 128 iq:=verify Tryz.func128 aa (tb:= []) trivial (by kernel_rfl) (BL.mpr fun r E Q h f1=>eo h (by omega))
def fY:Ctr Un:=⟨[.one (.obj 0 0)],[],[.ob 1 [(1,1,0)],.ob 0 []],[],fun r E rm m K=>E.n=m.S∧K ⟨(.int .i64 ((E.on m).S:Int)),none,[],[],[]⟩⟩
theorem qd:LV Un prog 62 fY:=by
 show ∀(r:Nat→Nat)(E:Pd)(rm:Nat→Nat)(m:Mem),∀Q:Ou Un→Prop,(E.n=m.S∧Q ⟨(.int .i64 ((E.on m).S:Int)),none,[],[],[]⟩)→∀(X:Nat→Nat→Prop)(w:World),Sat (U:=Un) [(.ob 1 r E),(.ob 0 rm m)] X w→aw (U:=Un) [(.ob 1 r E),(.ob 0 rm m)] fr0 [(.l 0 1,.p (.obj 1 0 0))]→Calls prog 62 #[(.pointer (some (Addr.mk (r 0) 0 none)))] w (bn (U:=Un) [(.ob 1 r E),(.ob 0 rm m)] [] X w Q)
 intro r E rm m Q hQ X w hs hl
 obtain⟨hn,hQ⟩:=hQ
 obtain⟨a,L,hg,hr,hD,ME,MY⟩:=uu hs hl hn
 refine(xF hD).mono ?_
 rintro e w' ⟨u,rfl,rfl,rfl⟩
 exact bn.pu hs (Ch.refl _ _) hQ trivial
def cE:Ctr Un:=⟨[.one (.obj 0 0),.one (.int .i64)],[],[.ob 1 [(1,1,0)],.ob 0 []],[],fun p r E rm m K=>E.n=m.S∧K ⟨(.tuple #[(.agg #[(.int .i64 (((E.on m).entry p).typ)),(.int .i64 (((E.on m).entry p).owner)),(.int .i64 (((E.on m).entry p).refs)),(.int .i64 (((E.on m).entry p).state)),(.bool (((E.on m).entry p).aS))]),(.int .i64 ((E.on m).bb p))]),(some (.t [none,none])),[],[],[]⟩⟩
theorem im:LV Un prog 16 cE:=by
 show ∀(p:Int)(r:Nat→Nat)(E:Pd)(rm:Nat→Nat)(m:Mem),∀Q:Ou Un→Prop,(E.n=m.S∧Q ⟨(.tuple #[(.agg #[(.int .i64 (((E.on m).entry p).typ)),(.int .i64 (((E.on m).entry p).owner)),(.int .i64 (((E.on m).entry p).refs)),(.int .i64 (((E.on m).entry p).state)),(.bool (((E.on m).entry p).aS))]),(.int .i64 ((E.on m).bb p))]),(some (.t [none,none])),[],[],[]⟩)→∀(X:Nat→Nat→Prop)(w:World),Sat (U:=Un) [(.ob 1 r E),(.ob 0 rm m)] X w→aw (U:=Un) [(.ob 1 r E),(.ob 0 rm m)] fr0 [(.l 0 1,.p (.obj 1 0 0))]→Calls prog 16 #[(.pointer (some (Addr.mk (r 0) 0 none))),(.int .i64 p)] w (bn (U:=Un) [(.ob 1 r E),(.ob 0 rm m)] [] X w Q)
 intro p r E rm m Q hQ X w hs hl
 obtain⟨hn,hQ⟩:=hQ
 obtain⟨a,L,hg,hr,hD,ME,MY⟩:=uu hs hl hn
 refine(Hg hD p).mono ?_
 rintro e w' ⟨u,rfl,rfl,q⟩
 exact bn.pu hs q hQ (KnO.tup _ (by simp))
def iW:Ctr Un:=⟨[.one (.obj 0 0),.one (.int .i64),.one (.int .i64)],[],[.ob 1 [(1,1,0)],.ob 0 []],[0,1],fun p q r E rm m K=>E.n=m.S∧K ⟨(.int .i64 ((E.on m).aR p q)),none,[.ob 1 (((E.on m).ay p q).pd),.ob 0 (((E.on m).ay p q).mem)],[],[]⟩⟩
theorem tJ:LV Un prog 36 iW:=by
 show ∀(p:Int)(q:Int)(r:Nat→Nat)(E:Pd)(rm:Nat→Nat)(m:Mem),∀Q:Ou Un→Prop,(E.n=m.S∧Q ⟨(.int .i64 ((E.on m).aR p q)),none,[.ob 1 (((E.on m).ay p q).pd),.ob 0 (((E.on m).ay p q).mem)],[],[]⟩)→∀(X:Nat→Nat→Prop)(w:World),Sat (U:=Un) [(.ob 1 r E),(.ob 0 rm m)] X w→aw (U:=Un) [(.ob 1 r E),(.ob 0 rm m)] fr0 [(.l 0 1,.p (.obj 1 0 0))]→Calls prog 36 #[(.pointer (some (Addr.mk (r 0) 0 none))),(.int .i64 p),(.int .i64 q)] w (bn (U:=Un) [(.ob 1 r E),(.ob 0 rm m)] [0,1] X w Q)
 intro p q r E rm m Q hQ X w hs hl
 obtain⟨hn,hQ⟩:=hQ
 obtain⟨a,L,hg,hr,hD,ME,MY⟩:=uu hs hl hn
 refine(xE hD p q).mono ?_
 rintro e w' ⟨u,rfl,rfl,h2,q⟩
 exact yE hs ME MY hg hr h2 q hQ trivial
def tI:Ctr Un:=⟨[.one (.obj 0 0),.one (.int .i64),.one (.int .i64),.one (.int .i64)],[],[.ob 1 [(1,1,0)],.ob 0 []],[0,1],fun p t o r E rm m K=>E.n=m.S∧K ⟨(.int .i64 ((E.on m).bY p t o)),none,[.ob 1 (((E.on m).take p t o).pd),.ob 0 (((E.on m).take p t o).mem)],[],[]⟩⟩
theorem F3:LV Un prog 38 tI:=by
 show ∀(p:Int)(t:Int)(o:Int)(r:Nat→Nat)(E:Pd)(rm:Nat→Nat)(m:Mem),∀Q:Ou Un→Prop,(E.n=m.S∧Q ⟨(.int .i64 ((E.on m).bY p t o)),none,[.ob 1 (((E.on m).take p t o).pd),.ob 0 (((E.on m).take p t o).mem)],[],[]⟩)→∀(X:Nat→Nat→Prop)(w:World),Sat (U:=Un) [(.ob 1 r E),(.ob 0 rm m)] X w→aw (U:=Un) [(.ob 1 r E),(.ob 0 rm m)] fr0 [(.l 0 1,.p (.obj 1 0 0))]→Calls prog 38 #[(.pointer (some (Addr.mk (r 0) 0 none))),(.int .i64 p),(.int .i64 t),(.int .i64 o)] w (bn (U:=Un) [(.ob 1 r E),(.ob 0 rm m)] [0,1] X w Q)
 intro p t o r E rm m Q hQ X w hs hl
 obtain⟨hn,hQ⟩:=hQ
 obtain⟨a,L,hg,hr,hD,ME,MY⟩:=uu hs hl hn
 refine(Ie hD p t o).mono ?_
 rintro e w' ⟨u,rfl,rfl,h2,q⟩
 exact yE hs ME MY hg hr h2 q hQ trivial
def l9:Ctr Un:=⟨[.one (.obj 0 0),.one (.int .i64),.one (.int .i64)],[],[.ob 1 [(1,1,0)],.ob 0 []],[0,1],fun p t r E rm m K=>E.n=m.S∧K ⟨(.int .i64 ((E.on m).dw p t)),none,[.ob 1 (((E.on m).dZ p t).pd),.ob 0 (((E.on m).dZ p t).mem)],[],[]⟩⟩
theorem zu:LV Un prog 40 l9:=by
 show ∀(p:Int)(t:Int)(r:Nat→Nat)(E:Pd)(rm:Nat→Nat)(m:Mem),∀Q:Ou Un→Prop,(E.n=m.S∧Q ⟨(.int .i64 ((E.on m).dw p t)),none,[.ob 1 (((E.on m).dZ p t).pd),.ob 0 (((E.on m).dZ p t).mem)],[],[]⟩)→∀(X:Nat→Nat→Prop)(w:World),Sat (U:=Un) [(.ob 1 r E),(.ob 0 rm m)] X w→aw (U:=Un) [(.ob 1 r E),(.ob 0 rm m)] fr0 [(.l 0 1,.p (.obj 1 0 0))]→Calls prog 40 #[(.pointer (some (Addr.mk (r 0) 0 none))),(.int .i64 p),(.int .i64 t)] w (bn (U:=Un) [(.ob 1 r E),(.ob 0 rm m)] [0,1] X w Q)
 intro p t r E rm m Q hQ X w hs hl
 obtain⟨hn,hQ⟩:=hQ
 obtain⟨a,L,hg,hr,hD,ME,MY⟩:=uu hs hl hn
 refine(Ic hD p t).mono ?_
 rintro e w' ⟨u,rfl,rfl,h2,q⟩
 exact yE hs ME MY hg hr h2 q hQ trivial
def jJ:Ctr Un:=⟨[.one (.obj 0 0),.one (.int .i64),.one (.int .i64)],[],[.ob 1 [(1,1,0)],.ob 0 []],[0,1],fun p t r E rm m K=>E.n=m.S∧K ⟨(.int .i64 ((E.on m).bj p t)),none,[.ob 1 (((E.on m).setState p t).pd),.ob 0 (((E.on m).setState p t).mem)],[],[]⟩⟩
theorem wF:LV Un prog 44 jJ:=by
 show ∀(p:Int)(t:Int)(r:Nat→Nat)(E:Pd)(rm:Nat→Nat)(m:Mem),∀Q:Ou Un→Prop,(E.n=m.S∧Q ⟨(.int .i64 ((E.on m).bj p t)),none,[.ob 1 (((E.on m).setState p t).pd),.ob 0 (((E.on m).setState p t).mem)],[],[]⟩)→∀(X:Nat→Nat→Prop)(w:World),Sat (U:=Un) [(.ob 1 r E),(.ob 0 rm m)] X w→aw (U:=Un) [(.ob 1 r E),(.ob 0 rm m)] fr0 [(.l 0 1,.p (.obj 1 0 0))]→Calls prog 44 #[(.pointer (some (Addr.mk (r 0) 0 none))),(.int .i64 p),(.int .i64 t)] w (bn (U:=Un) [(.ob 1 r E),(.ob 0 rm m)] [0,1] X w Q)
 intro p t r E rm m Q hQ X w hs hl
 obtain⟨hn,hQ⟩:=hQ
 obtain⟨a,L,hg,hr,hD,ME,MY⟩:=uu hs hl hn
 refine(Aa hD p t).mono ?_
 rintro e w' ⟨u,rfl,rfl,h2,q⟩
 exact yE hs ME MY hg hr h2 q hQ trivial
def qe:Ctr Un:=⟨[.one (.obj 0 0),.one (.int .i64)],[],[.ob 1 [(1,1,0)],.ob 0 []],[],fun s r E rm m K=>E.n=m.S∧∀(A:Option Addr)(c:Nat),K ⟨(.slice A ((own (E.on m) s).length) c),(some (.p (.sl 2 0))),[],[(.lst 0 true 3 A c (own (E.on m) s))],[]⟩⟩
theorem Em:LV Un prog 95 qe:=by
 show ∀(s:Int)(r:Nat→Nat)(E:Pd)(rm:Nat→Nat)(m:Mem),∀Q:Ou Un→Prop,(E.n=m.S∧∀(A:Option Addr)(c:Nat),Q ⟨(.slice A ((own (E.on m) s).length) c),(some (.p (.sl 2 0))),[],[(.lst 0 true 3 A c (own (E.on m) s))],[]⟩)→∀(X:Nat→Nat→Prop)(w:World),Sat (U:=Un) [(.ob 1 r E),(.ob 0 rm m)] X w→aw (U:=Un) [(.ob 1 r E),(.ob 0 rm m)] fr0 [(.l 0 1,.p (.obj 1 0 0))]→Calls prog 95 #[(.pointer (some (Addr.mk (r 0) 0 none))),(.int .i64 s)] w (bn (U:=Un) [(.ob 1 r E),(.ob 0 rm m)] [] X w Q)
 intro s r E rm m Q hQ X w hs hl
 obtain⟨hn,hQ⟩:=hQ
 obtain⟨a,L,hg,hr,hD,ME,MY⟩:=uu hs hl hn
 refine(Hf hD s).mono ?_
 rintro e w' ⟨u,rfl,Z',A',N',C',rfl,ho,hz,q⟩
 have Mw:=ho.len
 subst Mw
 exact bn.more hs q (GU (U:=Un) (t:=0) ho) (fun k hk=>hz k hk.1) (hQ _ _) rfl
def tn:Ctr Un:=⟨[.one (.sl 0)],[],[.lst 1 false 22],[],fun A c l K=>((∀x∈l,0≤x.v∧x.v<4294967296))∧∀(dp:Value),K ⟨(.tuple #[dp,(.int .i64 (Dg.bK l))]),(some (.t [none,none])),[],[],[]⟩⟩
theorem FD:LV Un prog 129 tn:=by
 show ∀(A:Option Addr)(c:Nat)(l:List U32),∀Q:Ou Un→Prop,(((∀x∈l,0≤x.v∧x.v<4294967296))∧∀(dp:Value),Q ⟨(.tuple #[dp,(.int .i64 (Dg.bK l))]),(some (.t [none,none])),[],[],[]⟩)→∀(X:Nat→Nat→Prop)(w:World),Sat (U:=Un) [(.lst 1 false 22 A c l)] X w→aw (U:=Un) [(.lst 1 false 22 A c l)] fr0 []→Calls prog 129 #[(.slice A l.length c)] w (bn (U:=Un) [(.lst 1 false 22 A c l)] [] X w Q)
 intro A c l Q hQ X w hs hl
 obtain⟨hw,hQ⟩:=hQ
 have hr:Rd w (X 0) A l.length c l:=hs.res 0 _ rfl
 refine(HM hr hw).mono ?_
 rintro e w' ⟨u,rfl,p,rfl,_,q⟩
 exact bn.pu hs q (hQ _) (KnO.tup _ (by simp))
end
section
set_option maxRecDepth 100000
set_option maxHeartbeats 1000000
attribute [local irreducible] Vc2 VcD
attribute [local grind=] Pd.cg Pd.bI Pd.gD Pd.gS Pd.eU Pd.dR Pd.ek Pd.eI Pd.j6 Pd.oJ
attribute [local grind .] Pd.Ok.ent
attribute [local grind→] Pd.Ok.cF
def lU:Ctr Un:=⟨[.one (.obj 0 0)],[],[.ob 1 [(1,1,0)],.ob 0 []],[],fun r E rm m K=>E.n=m.S∧∀(g:Nat)(A:Option Addr)(c:Nat),K ⟨(.pointer (some (Addr.mk g 0 none))),(some (.p (.loc 2 0))),[],[(.blk g [(.pointer (some (Addr.mk (r 0) 0 none))),(.slice A E.ao.length c)] 127),(.lst 4 true 59 A c E.ao)],[(.c 2 0,.p (.obj 0 0 0)),(.c 2 1,.p (.sl 3 0))]⟩⟩
def Fx(r:Nat→Nat)(E:Pd)(rm:Nat→Nat)(m:Mem)(Q:Ou Un→Prop):Prop:=
 Pd.Ok E→
 Mem.Wf m→
 (some (.pointer (some (Addr.mk (r 0) 0 none))):Option Value)=some (.pointer (some (Addr.mk (r 0) 0 none)))∧
 ∀(gv:Nat),
 E.n=m.S∧
 ∃I:Nat→Int→Option Addr→Nat→List Ent→Prop,(∃m1,I m1 0 none 0 ([]:List Ent))∧∀(m1:Nat)(Ji:Nat→Value)(Jy:Int)(A3:Option Addr)(c3:Nat)(l3:List Ent),I m1 Jy A3 c3 l3→
 split (decide (Jy<(E.on m).S)) (
  E.n=m.S∧
  ∀(KU:Nat),
  ∀(KT:Nat),
  ∀(l:List Ent),l=([Ent.mk (((E.on m).entry Jy).typ) (((E.on m).entry Jy).owner) (((E.on m).entry Jy).refs) (((E.on m).entry Jy).state) (((E.on m).entry Jy).aS)]:List Ent)→
  ((l3.length+l.length)*40≤140737488355328)∧
  ∀(A:Option Addr)(c:Nat),
  ∀(l1:List Ent),l1=(l3++l)→
  ∃m2,m2<m1∧I m2 (i64.wrap (Jy+1)) A c l1) (
  Q ⟨(.pointer (some (Addr.mk gv 0 none))),(some (.p (.loc 2 0))),[],[(.blk gv [(.pointer (some (Addr.mk (r 0) 0 none))),(.slice A3 l3.length c3)] 127),(.lst 4 true 59 A3 c3 l3)],[(.c 2 0,.p (.obj 0 0 0)),(.c 2 1,.p (.sl 3 0))]⟩)
theorem Fy:Vc2 Un prog (aQ [(62,fY),(16,cE)]) [] Tryz.f51 (.r' (.r' (.two (.r' (.two (.node [(.c 2 1,4,59)] (some ⟨[(12,(.one (.int .i64)))],[],[4,5,6]++upN 12 20,[(2,(.blk [(.k (.obj 0 0 0)),(.k (.sl 3 0))])),(3,(.lst 4))]⟩) [] [] (.r' (.r' (.two (.two (.r' (.r' (.node [] none [] [(4,[2]),(5,[4])] .leaf .leaf))) .leaf) .leaf))) .leaf) .leaf)) .leaf))) [2,3] lU=(∀r (E:Pd) rm (m:Mem),∀Q,(lU.body r E rm m Q)→Fx r E rm m Q):=by kernel_rfl
theorem Fw:LV Un prog 51 lU:=verify Tryz.func51 aa (tb:= [(62,fY),(16,cE)]) ⟨qd,im,trivial⟩ (by kernel_rfl) (Fy.mpr fun r E rm m Q h=>by
 obtain⟨I6,h⟩:=h
 exact fun f1 f2=>af (by rfl) fun s3 gv=>af ‹_› fun s4=>⟨fun m1 Jy A3 c3 l3=>(m1=((E.n:Int) - Jy).toNat)∧(0≤Jy∧Jy≤(E.n:Int))∧(l3=E.ao.take Jy.toNat),⟨_,rfl,(by omega),(by rfl)⟩,fun m1 _ Jy A3 c3 l3 ⟨hm,hi,Nn⟩=>aB (fun c1=>af ‹_› fun s5 KU KT l Lg=>af (by(have h8:l3.length≤E.n:=by rw [Nn,List.length_take,Pd.cg];omega);rw [Lg];simp;grind) fun s6 A c l1 J9=>⟨_,(by(have h9:=ak (x:=Jy+1) (by grind));grind),rfl,(by(have h9:=ak (x:=Jy+1) (by grind));grind),(by rw [J9,Lg,Nn,ak (x:=Jy+1) (by grind),← zF (E:=E) (by grind)];(have hh:(E.on m).entry Jy=E.ent Jy.toNat:=by(grind [DB.entry]));rw [hh])⟩) fun c1=>(by(have h7:E.ao=l3:=by rw [Nn,List.take_of_length_le];grind);exact av (h gv A3 c3) rfl rfl (ab (congrArg (fun l=>Res.blk (U:=Un) _ l _) (ab rfl (ab (by grind) rfl))) (ab (congrArg (Res.lst (U:=Un) 4 true 59 _ _) ‹_›) rfl)))⟩)
def cp:Ctr Un:=⟨[.one (.ptr 0),.one (.int .i64),.one (.int .i64)],[],[.blk [.obj 1 0,.sl 3] 127,.ob 1 [(1,2,0)],.ob 0 [],.lst 4 false 59],[],fun p t g r E rm m A c l K=>E.n=m.S∧l=E.ao∧(E.on m).has p=true∧K ⟨(.bool ((E.on m).is p t)),none,[],[],[]⟩⟩
def Iu(p:Int)(t:Int)(g:Nat)(r:Nat→Nat)(E:Pd)(rm:Nat→Nat)(m:Mem)(A:Option Addr)(c:Nat)(l:List Ent)(Q:Ou Un→Prop):Prop:=
 Pd.Ok E→
 Mem.Wf m→
 (0≤p∧p<(l.length:Int))∧
 Q ⟨(.bool ((l.getD p.toNat Ent.free).typ==t)),none,[],[],[]⟩
theorem Iv:Vc2 Un prog (aQ []) [] Tryz.f89 .leaf [] cp=(∀p t g r (E:Pd) rm (m:Mem) A c (l:List Ent),∀Q,(E.n=m.S∧l=E.ao∧(E.on m).has p=true∧Q ⟨(.bool ((E.on m).is p t)),none,[],[],[]⟩)→Iu p t g r E rm m A c l Q):=by kernel_rfl
section
attribute [local grind=] DB.is
theorem gr:LV Un prog 89 cp:=verify Tryz.func89 aa (tb:= []) trivial (by kernel_rfl) (Iv.mpr fun p t g r E rm m A c l Q h=>by
 obtain⟨I6,Ja,Jw,h⟩:=h
 subst Ja
 exact fun f1 f2=>af (by grind) fun s3=>bf h (by grind))
end
def eZ:Ctr Un:=⟨[.one (.ptr 0),.one (.int .i64)],[],[.blk [.obj 1 0,.sl 3] 127,.ob 1 [(1,2,0)],.ob 0 [],.lst 4 false 59],[],fun p g r E rm m A c l K=>E.n=m.S∧l=E.ao∧(E.on m).has p=true∧K ⟨(.int .i64 ((E.on m).bR p)),none,[],[],[]⟩⟩
def Dq(p:Int)(g:Nat)(r:Nat→Nat)(E:Pd)(rm:Nat→Nat)(m:Mem)(A:Option Addr)(c:Nat)(l:List Ent)(Q:Ou Un→Prop):Prop:=
 Pd.Ok E→
 Mem.Wf m→
 (0≤p∧p<(l.length:Int))∧
 ∃J:Bool→Prop,(
  split (decide ((l.getD p.toNat Ent.free).owner<0)) (
   J true) (
   split (decide ((l.getD p.toNat Ent.free).owner≥(l.length:Int))) (
    J true) (
    E.n=m.S∧
    l=E.ao∧
    (E.on m).has ((l.getD p.toNat Ent.free).owner)=true∧
    J (!((E.on m).is ((l.getD p.toNat Ent.free).owner) 1)))))∧∀(JW:Nat→Value)(JK:Bool),J JK→
 split JK (
  Q ⟨(.int .i64 (-1)),none,[],[],[]⟩) (
  Q ⟨(.int .i64 ((l.getD p.toNat Ent.free).owner)),none,[],[],[]⟩)
theorem Dr:Vc2 Un prog (aQ [(89,cp)]) [] Tryz.f93 (.r' (.r' (.two (.two (.node [] (some ⟨[(30,(.one .bool))],[],upN 14 17,[]⟩) [] [] .leaf .leaf) .leaf) .leaf))) [] eZ=(∀p g r (E:Pd) rm (m:Mem) A c (l:List Ent),∀Q,(E.n=m.S∧l=E.ao∧(E.on m).has p=true∧Q ⟨(.int .i64 ((E.on m).bR p)),none,[],[],[]⟩)→Dq p g r E rm m A c l Q):=by kernel_rfl
section
attribute [local grind=] DB.bR DB.is
theorem pC:LV Un prog 93 eZ:=verify Tryz.func93 aa (tb:= [(89,cp)]) ⟨gr,trivial⟩ (by kernel_rfl) (Dr.mpr fun p g r E rm m A c l Q h=>by
 obtain⟨I6,Ja,Jw,h⟩:=h
 subst Ja
 exact fun f1 f2=>af (by grind) fun s3=>bq ((decide (((E.ao.getD p.toNat Ent.free).owner:Int)<0)) || ((decide (((E.ao.getD p.toNat Ent.free).owner:Int)≥((E.ao.length:Nat):Int))) || (!((E.on m).is ((E.ao.getD p.toNat Ent.free).owner) 1)))) (ae (fun c1=>(by grind)) fun c1=>ae (fun c2=>(by grind)) fun c2=>af ‹_› fun s4=>af (by rfl) fun s5=>af (by grind) fun s6=>(by grind))<| aM (fun c3=>eo h (by grind)) fun c3=>eo h (by grind))
end
def dI:Ctr Un:=⟨[.one (.ptr 0),.one (.int .i64)],[],[.blk [.obj 1 0,.sl 3] 127,.ob 1 [(1,2,0)],.ob 0 [],.lst 4 false 59],[],fun p g r E rm m A c l K=>E.n=m.S∧l=E.ao∧(E.on m).has p=true∧K ⟨(.bool (if(E.on m).is p 1 then((E.on m).at_ p).state !=3 else(E.on m).alive p)),none,[],[],[]⟩⟩
def Dz(p:Int)(g:Nat)(r:Nat→Nat)(E:Pd)(rm:Nat→Nat)(m:Mem)(A:Option Addr)(c:Nat)(l:List Ent)(Q:Ou Un→Prop):Prop:=
 Pd.Ok E→
 Mem.Wf m→
 E.n=m.S∧
 l=E.ao∧
 (E.on m).has p=true∧
 split (!((E.on m).is p 1)) (
  E.n=m.S∧
  l=E.ao∧
  (E.on m).has p=true∧
  ∃J:Bool→Prop,(
   split (decide (((E.on m).bR p)≥0)) (
    (0≤((E.on m).bR p)∧((E.on m).bR p)<(l.length:Int))∧
    J ((l.getD (Int.toNat ((E.on m).bR p)) Ent.free).state !=3)) (
    J false))∧∀(JW:Nat→Value)(x4:Bool),J x4→
  Q ⟨(.bool x4),none,[],[],[]⟩) (
  ∃J:Bool→Prop,(
   split (decide (p≥0)) (
    (0≤p∧p<(l.length:Int))∧
    J ((l.getD p.toNat Ent.free).state !=3)) (
    J false))∧∀(JW:Nat→Value)(x4:Bool),J x4→
  Q ⟨(.bool x4),none,[],[],[]⟩)
theorem DA:Vc2 Un prog (aQ [(89,cp),(93,eZ)]) [] Tryz.f131 (.r' (.r' (.r' (.two (.node [] (some ⟨[(4,(.one .bool))],[],[4]++upN 14 13,[]⟩) [] [] .leaf .leaf) .leaf)))) [] dI=(∀p g r (E:Pd) rm (m:Mem) A c (l:List Ent),∀Q,(E.n=m.S∧l=E.ao∧(E.on m).has p=true∧Q ⟨(.bool (if(E.on m).is p 1 then((E.on m).at_ p).state !=3 else(E.on m).alive p)),none,[],[],[]⟩)→Dz p g r E rm m A c l Q):=by kernel_rfl
section
attribute [local grind=] DB.bR DB.is DB.alive
theorem lX:LV Un prog 131 dI:=verify Tryz.func131 aa (tb:= [(89,cp),(93,eZ)]) ⟨gr,pC,trivial⟩ (by kernel_rfl) (DA.mpr fun p g r E rm m A c l Q h=>by
 obtain⟨I6,Ja,Jw,h⟩:=h
 subst Ja
 exact fun f1 f2=>af ‹_› fun s3=>af (by rfl) fun s4=>af ‹_› fun s5=>aY (fun c1=>af ‹_› fun s6=>af (by rfl) fun s7=>af ‹_› fun s8=>bq ((decide ((((E.on m).bR p):Int)≥0)) && (((E.ao.getD (Int.toNat ((E.on m).bR p)) Ent.free).state:Int) !=3)) (ae (fun c2=>af (by grind) fun s9=>(by grind)) fun c2=>(by grind))<| bf h (by grind)) fun c1=>bq ((decide ((p:Int)≥0)) && (((E.ao.getD p.toNat Ent.free).state:Int) !=3)) (ae (fun c3=>af (by grind) fun N5=>(by grind)) fun c3=>(by grind))<| bf h (by grind))
end
def cA:Ctr Un:=⟨[.one (.ptr 0),.one (.int .i64),.one (.int .i64)],[],[.blk [.obj 1 0,.sl 3] 127,.ob 1 [(1,2,0)],.ob 0 [],.lst 4 false 59],[],fun p o g r E rm m A c l K=>E.n=m.S∧l=E.ao∧K ⟨(.int .u32 ((E.on m).word p o)),none,[],[],[]⟩⟩
def Fq(p:Int)(o:Int)(g:Nat)(r:Nat→Nat)(E:Pd)(rm:Nat→Nat)(m:Mem)(A:Option Addr)(c:Nat)(l:List Ent)(Q:Ou Un→Prop):Prop:=
 Pd.Ok E→
 Mem.Wf m→
 Q ⟨(.int .u32 (m.bQ true p o)),none,[],[],[]⟩
theorem Ft:Vc2 Un prog (aQ [(11,cD),(152,tA)]) [] Tryz.f126 .leaf [] cA=(∀p o g r (E:Pd) rm (m:Mem) A c (l:List Ent),∀Q,(E.n=m.S∧l=E.ao∧Q ⟨(.int .u32 ((E.on m).word p o)),none,[],[],[]⟩)→Fq p o g r E rm m A c l Q):=by kernel_rfl
section
attribute [local grind=] DB.word
theorem iS:LV Un prog 126 cA:=verify Tryz.func126 aa (tb:= [(11,cD),(152,tA)]) ⟨il,FX,trivial⟩ (by kernel_rfl) (Ft.mpr fun p o g r E rm m A c l Q h=>by
 obtain⟨I6,Ja,h⟩:=h
 subst Ja
 exact fun f1 f2=>eo h (by grind))
end
def dO:Ctr Un:=⟨[.one (.ptr 0),.one (.int .i64),.one (.int .i64),.one (.int .i64)],[],[.blk [.obj 1 0,.sl 3] 127,.ob 1 [(1,2,0)],.ob 0 [],.lst 4 false 59],[],fun p lo hi g r E rm m A c l K=>E.n=m.S∧l=E.ao∧(0≤(lo:Int)∧(hi:Int)≤1024)∧K ⟨(.bool ((E.on m).zero p lo hi)),none,[],[],[]⟩⟩
def Fm(p:Int)(lo:Int)(hi:Int)(g:Nat)(r:Nat→Nat)(E:Pd)(rm:Nat→Nat)(m:Mem)(A:Option Addr)(c:Nat)(l:List Ent)(Q:Ou Un→Prop):Prop:=
 Pd.Ok E→
 Mem.Wf m→
 ∀off:Int,off=lo→
 ∃I:Nat→Int→Prop,(∃m1,I m1 off)∧∀(m1:Nat)(JW:Nat→Value)(off1:Int),I m1 off1→
 split (decide (off1<hi)) (
  E.n=m.S∧
  l=E.ao∧
  split (((E.on m).word p off1) !=0) (
   Q ⟨(.bool false),none,[],[],[]⟩) (
   ∀off2:Int,off2=(i64.wrap (off1+1))→
   ∃m2,m2<m1∧I m2 off2)) (
  Q ⟨(.bool true),none,[],[],[]⟩)
theorem Fp:Vc2 Un prog (aQ [(126,cA)]) [9] Tryz.f91 (.r' (.two (.r' (.two (.node [] (some ⟨[(9,(.one (.int .i64)))],[],[8,9]++upN 11 10,[]⟩) [] [] .leaf .leaf) .leaf)) .leaf)) [] dO=(∀p lo hi g r (E:Pd) rm (m:Mem) A c (l:List Ent),∀Q,(E.n=m.S∧l=E.ao∧(0≤(lo:Int)∧(hi:Int)≤1024)∧Q ⟨(.bool ((E.on m).zero p lo hi)),none,[],[],[]⟩)→Fm p lo hi g r E rm m A c l Q):=by kernel_rfl
section
attribute [local grind=] DB.zero
theorem lS:LV Un prog 91 dO:=verify Tryz.func91 aa (tb:= [(126,cA)]) ⟨iS,trivial⟩ (by kernel_rfl) (Fp.mpr fun p lo hi g r E rm m A c l Q h=>by
 obtain⟨I6,Ja,Jw,h⟩:=h
 subst Ja
 exact fun f1 f2=>allEq<| ⟨fun m1 off1=>(m1=(hi - off1).toNat)∧(lo≤off1)∧(fZ (fun x=>(E.on m).word p x==0) lo off1=true),⟨_,rfl,(by omega),(g7 (Int.le_refl _))⟩,fun m1 _ off1 ⟨hm,PD,hz⟩=>aB (fun c1=>af ‹_› fun s3=>af (by rfl) fun s4=>aG (fun c2=>bf h (by grind [fN])) fun c2=>allEq<| ⟨_,(by(have h9:=ak (x:=off1+1) (by omega));omega),rfl,(by have h9:=ak (x:=off1+1) (by omega);omega),(eG hz (by grind) (ak (by omega)))⟩) fun c1=>bf h (bO.2 fun x a b=>bO.1 hz x a (by omega))⟩)
end
def jX:Ctr Un:=⟨[.one (.ptr 0),.one (.int .i64),.one (.int .i64),.one (.int .i64)],[],[.blk [.obj 1 0,.sl 3] 127,.ob 1 [(1,2,0)],.ob 0 [],.lst 4 false 59],[],fun p lo n g r E rm m A c l K=>E.n=m.S∧l=E.ao∧(0≤(lo:Int)∧(lo:Int)<1024∧0≤(n:Int)∧(n:Int)<1024)∧∀(A1:Option Addr)(c1:Nat),K ⟨(.slice A1 (((E.on m).some_ p lo n.toNat).length) c1),(some (.p (.sl 4 0))),[],[(.lst 1 true 22 A1 c1 ((E.on m).some_ p lo n.toNat))],[]⟩⟩
def Fu(p:Int)(lo:Int)(n:Int)(g:Nat)(r:Nat→Nat)(E:Pd)(rm:Nat→Nat)(m:Mem)(A:Option Addr)(c:Nat)(l:List Ent)(Q:Ou Un→Prop):Prop:=
 Pd.Ok E→
 Mem.Wf m→
 (n=n∧0≤n∧4*n≤281474976710656)∧
 ∀(gv:Nat),
 ∀(l1:List U32),l1=(List.replicate n.toNat (U32.mk 0:U32))→
 ∃I:Nat→Int→Option Addr→Nat→List U32→Prop,(∃m1,I m1 0 (some (Addr.mk gv 0 none)) n.toNat l1)∧∀(m1:Nat)(Ji:Nat→Value)(JD:Int)(A4:Option Addr)(c4:Nat)(l4:List U32),I m1 JD A4 c4 l4→
 split (decide (JD<((List.replicate n.toNat (U32.mk 0:U32)).length:Int))) (
  E.n=m.S∧
  l=E.ao∧
  (0≤JD∧JD<(l4.length:Int))∧
  ∀(l2:List U32),l2=(l4.set JD.toNat (U32.mk ((E.on m).word p (i64.wrap (lo+JD)))))→
  ∃m2,m2<m1∧I m2 (i64.wrap (JD+1)) A4 c4 l2) (
  Q ⟨(.slice A4 l4.length c4),(some (.p (.sl 4 0))),[],[(.lst 1 true 22 A4 c4 l4)],[]⟩)
theorem Fv:Vc2 Un prog (aQ [(126,cA)]) [] Tryz.f130 (.r' (.r' (.two (.r' (.two (.node [] (some ⟨[(15,(.one (.int .i64)))],[(9,(.p (.sl 4 0)))],[10]++upN 15 13,[(4,(.lst 1))]⟩) [] [] .leaf .leaf) .leaf)) .leaf))) [4] jX=(∀p lo n g r (E:Pd) rm (m:Mem) A c (l:List Ent),∀Q,(E.n=m.S∧l=E.ao∧(0≤(lo:Int)∧(lo:Int)<1024∧0≤(n:Int)∧(n:Int)<1024)∧∀(A1:Option Addr)(c1:Nat),Q ⟨(.slice A1 (((E.on m).some_ p lo n.toNat).length) c1),(some (.p (.sl 4 0))),[],[(.lst 1 true 22 A1 c1 ((E.on m).some_ p lo n.toNat))],[]⟩)→Fu p lo n g r E rm m A c l Q):=by kernel_rfl
theorem zo:LV Un prog 130 jX:=verify Tryz.func130 aa (tb:= [(126,cA)]) ⟨iS,trivial⟩ (by kernel_rfl) (Fv.mpr fun p lo n g r E rm m A c l Q h=>by
 obtain⟨I6,Ja,Jw,h⟩:=h
 subst Ja
 exact fun f1 f2=>af (by omega) fun s3 gv l1 J9=>⟨fun m1 JD A4 c4 l4=>(m1=(n - JD).toNat)∧(0≤JD∧JD≤n)∧(kh (E.on m) p lo n.toNat JD l4),⟨_,rfl,(by omega),(by rw [J9];exact kh.init _ _ _ _)⟩,fun m1 _ JD A4 c4 l4 ⟨hm,PD,hz⟩=>aB (fun c1=>af ‹_› fun s4=>af (by rfl) fun s5=>af (by(grind [kh.len])) fun s6 l2 Lf=>⟨_,(by(have h9:=ak (x:=JD+1) (by grind));simp at c1;omega),rfl,(by(have h9:=ak (x:=JD+1) (by grind));simp at c1;omega),(by rw [Lf];exact hz.next PD.1 (by simp at c1;omega) (by omega))⟩) fun c1=>(by(have h7:(E.on m).some_ p lo n.toNat=l4:=hz.done (by simp at c1;omega));exact av (h A4 c4) (by grind) rfl (ab (congrArg (Res.lst (U:=Un) 1 true 22 _ _) ‹_›) rfl))⟩)
def np:Ctr Un:=⟨[.one (.ptr 0),.one (.int .i64),.one (.int .i64)],[],[.blk [.obj 1 0,.sl 3] 127,.ob 1 [(1,2,0)],.ob 0 [],.lst 4 false 59],[],fun t o g r E rm m A c l K=>E.n=m.S∧l=E.ao∧∀(A1:Option Addr)(c1:Nat),K ⟨(.slice A1 (((E.on m).pgs t o (E.on m).S).length) c1),(some (.p (.sl 4 0))),[],[(.lst 0 true 3 A1 c1 ((E.on m).pgs t o (E.on m).S))],[]⟩⟩
def Is(t:Int)(o:Int)(g:Nat)(r:Nat→Nat)(E:Pd)(rm:Nat→Nat)(m:Mem)(A:Option Addr)(c:Nat)(l:List Ent)(Q:Ou Un→Prop):Prop:=
 Pd.Ok E→
 Mem.Wf m→
 ∃I:Nat→Int→Option Addr→Nat→List I64→Prop,(∃m1,I m1 0 none 0 ([]:List I64))∧∀(m1:Nat)(JW:Nat→Value)(JD:Int)(A4:Option Addr)(c4:Nat)(l4:List I64),I m1 JD A4 c4 l4→
 split (decide (JD<(l.length:Int))) (
  (0≤JD∧JD<(l.length:Int))∧
  ∀(I8:Nat),
  ∃J:Bool→Prop,(
   split ((l.getD JD.toNat Ent.free).typ==t) (
    J ((l.getD JD.toNat Ent.free).owner==o)) (
    J false))∧∀(KH:Nat→Value)(LY:Bool),J LY→
  split LY (
   ∀(KT:Nat),
   ∀(l1:List I64),l1=([I64.mk JD]:List I64)→
   ((l4.length+l1.length)*8≤140737488355328)∧
   ∀(A1:Option Addr)(c1:Nat),
   ∀(l2:List I64),l2=(l4++l1)→
   ∃m2,m2<m1∧I m2 (i64.wrap (JD+1)) A1 c1 l2) (
   ∃m2,m2<m1∧I m2 (i64.wrap (JD+1)) A4 c4 l4)) (
  Q ⟨(.slice A4 l4.length c4),(some (.p (.sl 4 0))),[],[(.lst 0 true 3 A4 c4 l4)],[]⟩)
theorem It:Vc2 Un prog (aQ []) [7] Tryz.f132 (.r' (.r' (.two (.r' (.two (.node [(.s 7,0,3)] (some ⟨[(15,(.one (.int .i64)))],[(7,(.p (.sl 4 0)))],[7,8,9]++upN 15 20,[(4,(.lst 0))]⟩) [] [] (.r' (.r' (.two (.two (.r' (.two (.node [] (some ⟨[(29,(.one .bool))],[],upN 20 10,[]⟩) [] [] .leaf .leaf) .leaf)) .leaf) .leaf))) .leaf) .leaf)) .leaf))) [4] np=(∀t o g r (E:Pd) rm (m:Mem) A c (l:List Ent),∀Q,(E.n=m.S∧l=E.ao∧∀(A1:Option Addr)(c1:Nat),Q ⟨(.slice A1 (((E.on m).pgs t o (E.on m).S).length) c1),(some (.p (.sl 4 0))),[],[(.lst 0 true 3 A1 c1 ((E.on m).pgs t o (E.on m).S))],[]⟩)→Is t o g r E rm m A c l Q):=by kernel_rfl
theorem Ds:LV Un prog 132 np:=verify Tryz.func132 aa (tb:= []) trivial (by kernel_rfl) (It.mpr fun t o g r E rm m A c l Q h=>by
 obtain⟨I6,Ja,h⟩:=h
 subst Ja
 exact fun f1 f2=>⟨fun m1 JD A4 c4 l4=>(m1=((E.n:Int) - JD).toNat)∧(0≤JD∧JD≤(E.n:Int))∧(l4=(E.on m).pgs t o JD.toNat),⟨_,rfl,(by omega),(by rfl)⟩,fun m1 _ JD A4 c4 l4 ⟨hm,PD,hz⟩=>aB (fun c1=>af (by omega) fun s3 I8=>bq ((((E.ao.getD JD.toNat Ent.free).typ:Int)==t) && (((E.ao.getD JD.toNat Ent.free).owner:Int)==o)) (ae (fun c2=>(by grind)) fun c2=>(by grind))<| cP (fun c3 KT l1 J9=>af (by(have h8:=DB.iE (E.on m) t o JD.toNat);rw [J9,hz];simp;grind) fun s4 A1 c1 l2 Lf=>⟨_,(by(have h9:=ak (x:=JD+1) (by grind));grind),rfl,(by(have h9:=ak (x:=JD+1) (by grind));grind),(by rw [DB.uo _ _ _ (by grind)];(rw [if_pos (by grind)];grind))⟩) fun c3=>⟨_,(by(have h9:=ak (x:=JD+1) (by grind));grind),rfl,(by(have h9:=ak (x:=JD+1) (by grind));grind),(by rw [DB.uo _ _ _ (by grind)];(rw [if_neg (by grind)];exact hz))⟩) fun c1=>(by(have h7:(E.on m).pgs t o (E.on m).S=l4:=by rw [hz,show JD.toNat=(E.on m).S by grind]);exact av (h A4 c4) (by grind) rfl (ab (congrArg (Res.lst (U:=Un) 0 true 3 _ _) ‹_›) rfl))⟩)
def j3:Ctr Un:=⟨[.one (.ptr 0),.one (.int .i64)],[],[.blk [.obj 1 0,.sl 3] 127,.ob 1 [(1,2,0)],.ob 0 [],.lst 4 false 59],[],fun p g r E rm m A c l K=>E.n=m.S∧l=E.ao∧(E.on m).has p=true∧K ⟨(.bool ((E.on m).clause 5 p)),none,[],[],[]⟩⟩
def AJ(p:Int)(g:Nat)(r:Nat→Nat)(E:Pd)(rm:Nat→Nat)(m:Mem)(A:Option Addr)(c:Nat)(l:List Ent)(Q:Ou Un→Prop):Prop:=
 Pd.Ok E→
 Mem.Wf m→
 E.n=m.S∧
 l=E.ao∧
 (E.on m).has p=true∧
 split (!((E.on m).is p 1)) (
  Q ⟨(.bool true),none,[],[],[]⟩) (
  E.n=m.S∧
  l=E.ao∧
  ∃J:Bool→Prop,(
   split (decide ((u64.wrap ((E.on m).word p 1))≥(u64.wrap E.au))) (
    J true) (
    E.n=m.S∧
    l=E.ao∧
    J (decide (((E.on m).word p 2)>4096))))∧∀(JW:Nat→Value)(L5:Bool),J L5→
  split L5 (
   Q ⟨(.bool false),none,[],[],[]⟩) (
   ∃I:Nat→Int→Prop,(∃m1,I m1 0)∧∀(m1:Nat)(Ji:Nat→Value)(JK:Int),I m1 JK→
   split (decide (JK<p)) (
    ∃J1:Bool→Prop,(
     E.n=m.S∧
     l=E.ao∧
     (E.on m).has JK=true∧
     split ((E.on m).is JK 1) (
      E.n=m.S∧
      l=E.ao∧
      J1 (((E.on m).word JK 1)==((E.on m).word p 1))) (
      J1 false))∧∀(KH:Nat→Value)(Pn:Bool),J1 Pn→
    split Pn (
     Q ⟨(.bool false),none,[],[],[]⟩) (
     ∃m2,m2<m1∧I m2 (i64.wrap (JK+1)))) (
    Q ⟨(.bool true),none,[],[],[]⟩)))
theorem AK:Vc2 Un prog (aQ [(89,cp),(126,cA),(128,iq)]) [] Tryz.f96 (.r' (.r' (.r' (.two (.two (.node [] (some ⟨[(28,(.one .bool))],[],upN 14 15,[]⟩) [] [] .leaf .leaf) .leaf) (.two (.r' (.two (.node [] (some ⟨[(30,(.one (.int .i64)))],[],[4,6]++upN 30 14,[]⟩) [] [] (.r' (.r' (.two (.two (.r' (.two (.node [] (some ⟨[(42,(.one .bool))],[],upN 33 10,[]⟩) [] [] .leaf .leaf) .leaf)) .leaf) .leaf))) .leaf) .leaf)) .leaf))))) [] j3=(∀p g r (E:Pd) rm (m:Mem) A c (l:List Ent),∀Q,(E.n=m.S∧l=E.ao∧(E.on m).has p=true∧Q ⟨(.bool ((E.on m).clause 5 p)),none,[],[],[]⟩)→AJ p g r E rm m A c l Q):=by kernel_rfl
section
attribute [local grind=] DB.lL DB.iy DB.is Pd.rf
theorem AI:LV Un prog 96 j3:=verify Tryz.func96 aa (tb:= [(89,cp),(126,cA),(128,iq)]) ⟨gr,iS,BJ,trivial⟩ (by kernel_rfl) (AK.mpr fun p g r E rm m A c l Q h=>by
 obtain⟨I6,Ja,Jw,h⟩:=h
 subst Ja
 exact fun f1 f2=>(by(have hw:=fun a b=>eP (E:=E) f2 a b);(have Pb:=fun a b=>ak (x:=(E.on m).word a b) (by have:=hw a b;omega));(have O6:=fun a b=>fc (x:=(E.on m).word a b) (by have:=hw a b;omega));(have hub:=fc (x:=E.au) (by have:=f1.au;omega));exact af ‹_› fun s3=>af (by rfl) fun s4=>af ‹_› fun s5=>aY (fun c1=>bf h (by grind)) fun c1=>af ‹_› fun s6=>af (by rfl) fun s7=>bq ((decide ((u64.wrap ((E.on m).word p 1):Int)≥(u64.wrap E.au))) || (decide ((((E.on m).word p 2):Int)>4096))) (ae (fun c2=>(by grind)) fun c2=>af ‹_› fun s8=>af (by rfl) fun s9=>(by grind))<| aM (fun c3=>bf h (by grind)) fun c3=>⟨fun m1 JK=>(m1=(p - JK).toNat)∧(0≤JK∧JK≤p)∧(fZ (fun z=>!(((E.on m).at_ z).typ==1 && (E.on m).word z 1==(E.on m).word p 1)) 0 JK=true),⟨_,rfl,(by grind),(g7 (Int.le_refl _))⟩,fun m1 _ JK ⟨hm,PD,hz⟩=>aB (fun c4=>bq (((E.on m).is JK 1) && ((((E.on m).word JK 1):Int)==((E.on m).word p 1))) (af ‹_› fun N5=>af (by rfl) fun Ly=>af (by grind) fun OH=>ae (fun c5=>af ‹_› fun Nj=>af (by rfl) fun OG=>(by grind)) fun c5=>(by grind))<| cP (fun c6=>bf h (by rw [DB.lL,DB.iy,fN PD.1 c4 (by grind)];grind)) fun c6=>⟨_,(by(have h9:=ak (x:=JK+1) (by grind));grind),rfl,(by(have h9:=ak (x:=JK+1) (by grind));grind),(by exact eG hz (by have hh:(E.on m).has JK=true:=(by grind);rw [DB.is,hh]at c6;grind) (ak (by grind)))⟩) fun c4=>bf h (by(have hq:JK=p:=by omega);subst hq;rw [DB.lL,DB.iy,hz];grind)⟩))
end
def lT:Ctr Un:=⟨[.one (.ptr 0),.one (.int .i64)],[],[.blk [.obj 1 0,.sl 3] 127,.ob 1 [(1,2,0)],.ob 0 [],.lst 4 false 59],[],fun p g r E rm m A c l K=>E.n=m.S∧l=E.ao∧(E.on m).has p=true∧K ⟨(.bool ((E.on m).clause 6 p)),none,[],[],[]⟩⟩
def Dn(p:Int)(g:Nat)(r:Nat→Nat)(E:Pd)(rm:Nat→Nat)(m:Mem)(A:Option Addr)(c:Nat)(l:List Ent)(Q:Ou Un→Prop):Prop:=
 Pd.Ok E→
 Mem.Wf m→
 E.n=m.S∧
 l=E.ao∧
 (E.on m).has p=true∧
 split (!((E.on m).is p 1)) (
  Q ⟨(.bool true),none,[],[],[]⟩) (
  E.n=m.S∧
  l=E.ao∧
  (0≤(37:Int)∧(1024:Int)≤1024)∧
  split (!((E.on m).zero p 37 1024)) (
   Q ⟨(.bool false),none,[],[],[]⟩) (
   E.n=m.S∧
   l=E.ao∧
   (0≤(11:Int)∧(11:Int)<1024∧0≤(26:Int)∧(26:Int)<1024)∧
   ∀(A1:Option Addr)(c1:Nat),
   ∀(l1:List U32),l1=(E.on m).some_ p 11 (Int.toNat 26)→
   ((∀x∈l1,0≤x.v∧x.v<4294967296))∧
   ∀(dp:Value),
   ∃J:Bool→Prop,(
    split ((Dg.bK l1)==0) (
     E.n=m.S∧
     l=E.ao∧
     (0≤(3:Int)∧(11:Int)≤1024)∧
     ∀init:Bool,init=((E.on m).zero p 3 11)→
     J init) (
     ∀init:Bool,init=false→
     J init))∧∀(JW:Nat→Value)(init:Bool),J init→
   E.n=m.S∧
   l=E.ao∧
   (0≤(11:Int)∧(37:Int)≤1024)∧
   (0≤p∧p<(l.length:Int))∧
   ∀Pn:Bool,Pn=(((l.getD p.toNat Ent.free).state:Int)==1)→
   split Pn (
    Q ⟨(.bool init),none,[],[],[]⟩) (
    ∀Pm:Bool,Pm=(((l.getD p.toNat Ent.free).state:Int)==2)→
    split Pm (
     Q ⟨(.bool ((E.on m).zero p 11 37)),none,[],[],[]⟩) (
     ∃J1:Bool→Prop,(
      split init (
       J1 true) (
       J1 ((E.on m).zero p 11 37)))∧∀(Ji:Nat→Value)(x4:Bool),J1 x4→
     Q ⟨(.bool x4),none,[],[],[]⟩))))
theorem Dp:Vc2 Un prog (aQ [(89,cp),(91,dO),(130,jX),(129,tn)]) [7,42,45] Tryz.f97 (.r' (.r' (.r' (.r' (.two (.node [] (some ⟨[(7,(.one .bool))],[],[7]++upN 24 7,[]⟩) [] [] .leaf .leaf) (.r' (.r' (.two (.node [] (some ⟨[(4,(.one .bool))],[],[4,48,49,50,51],[]⟩) [] [] .leaf .leaf) .leaf)))))))) [] lT=(∀p g r (E:Pd) rm (m:Mem) A c (l:List Ent),∀Q,(E.n=m.S∧l=E.ao∧(E.on m).has p=true∧Q ⟨(.bool ((E.on m).clause 6 p)),none,[],[],[]⟩)→Dn p g r E rm m A c l Q):=by kernel_rfl
section
attribute [local grind=] DB.vb DB.sm DB.BT DB.is
theorem Dm:LV Un prog 97 lT:=verify Tryz.func97 aa (tb:= [(89,cp),(91,dO),(130,jX),(129,tn)]) ⟨gr,lS,zo,FD,trivial⟩ (by kernel_rfl) (Dp.mpr fun p g r E rm m A c l Q h=>by
 obtain⟨I6,Ja,Jw,h⟩:=h
 subst Ja
 exact fun f1 f2=>(by(have hw:=fun a b=>eP (E:=E) f2 a b);(have Pb:=fun a b=>ak (x:=(E.on m).word a b) (by have:=hw a b;omega));(have O6:=fun a b=>fc (x:=(E.on m).word a b) (by have:=hw a b;omega));exact af ‹_› fun s3=>af (by rfl) fun s4=>af ‹_› fun s5=>aY (fun c1=>bf h (by grind)) fun c1=>af ‹_› fun s6=>af (by rfl) fun s7=>af (by omega) fun s8=>aY (fun c2=>bf h (by grind)) fun c2=>af ‹_› fun s9=>af (by rfl) fun N5=>af (by omega) fun Ly A1 c1 l1 J9=>af (by rw [J9];exact tY f2 _ _ _) fun OH dp=>bq ((((Dg.bK l1):Int)==0) && ((E.on m).zero p 3 11)) (ae (fun c3=>af ‹_› fun Nj=>af (by rfl) fun OG=>af (by omega) fun O4=>allEq<| (by grind)) fun c3=>allEq<| (by grind))<| af ‹_› fun TU=>af (by rfl) fun TT=>af (by omega) fun s18=>af (by grind) fun UI=>allEq<| aE (fun c4=>bf h (by grind)) fun c4=>allEq<| aE (fun c5=>bf h (by grind)) fun c5=>bq (((((Dg.bK l1):Int)==0) && ((E.on m).zero p 3 11)) || ((E.on m).zero p 11 37)) (ae (fun c6=>(by grind)) fun c6=>(by grind))<| bf h (by grind)))
end
def lW:Ctr Un:=⟨[.one (.ptr 0),.one (.int .i64)],[],[.blk [.obj 1 0,.sl 3] 127,.ob 1 [(1,2,0)],.ob 0 [],.lst 4 false 59],[],fun p g r E rm m A c l K=>E.n=m.S∧l=E.ao∧(E.on m).has p=true∧K ⟨(.bool ((E.on m).clause 7 p)),none,[],[],[]⟩⟩
def Dx(p:Int)(g:Nat)(r:Nat→Nat)(E:Pd)(rm:Nat→Nat)(m:Mem)(A:Option Addr)(c:Nat)(l:List Ent)(Q:Ou Un→Prop):Prop:=
 Pd.Ok E→
 Mem.Wf m→
 ∃J:Bool→Prop,(
  E.n=m.S∧
  l=E.ao∧
  (E.on m).has p=true∧
  split (!((E.on m).is p 1)) (
   J true) (
   E.n=m.S∧
   l=E.ao∧
   (E.on m).has p=true∧
   J (!(if(E.on m).is p 1 then((E.on m).at_ p).state !=3 else(E.on m).alive p))))∧∀(JW:Nat→Value)(JD:Bool),J JD→
 split JD (
  Q ⟨(.bool true),none,[],[],[]⟩) (
  E.n=m.S∧
  l=E.ao∧
  ∀(A1:Option Addr)(c1:Nat),
  ∀(l1:List I64),l1=(E.on m).pgs 3 p (E.on m).S→
  ∃J1:Bool→Prop,(
   split (((((E.on m).pgs 3 p (E.on m).S).length):Int)==1) (
    (0≤(0:Int)∧(0:Int)<(l1.length:Int))∧
    E.n=m.S∧
    l=E.ao∧
    J1 (((E.on m).word p 0)==(u32.wrap ((l1.getD (Int.toNat 0) (I64.mk 0)).v)))) (
    J1 false))∧∀(Ji:Nat→Value)(x4:Bool),J1 x4→
  Q ⟨(.bool x4),none,[],[],[]⟩)
theorem Dy:Vc2 Un prog (aQ [(89,cp),(131,dI),(132,np),(126,cA)]) [] Tryz.f98 (.r' (.two (.two (.node [] (some ⟨[(15,(.one .bool))],[],upN 6 10,[]⟩) [] [] .leaf .leaf) .leaf) (.r' (.two (.node [] (some ⟨[(4,(.one .bool))],[],[4]++upN 19 13,[]⟩) [] [(9,[4])] .leaf .leaf) .leaf)))) [] lW=(∀p g r (E:Pd) rm (m:Mem) A c (l:List Ent),∀Q,(E.n=m.S∧l=E.ao∧(E.on m).has p=true∧Q ⟨(.bool ((E.on m).clause 7 p)),none,[],[],[]⟩)→Dx p g r E rm m A c l Q):=by kernel_rfl
section
attribute [local grind=] DB.u9 DB.so DB.is
theorem Dw:LV Un prog 98 lW:=verify Tryz.func98 aa (tb:= [(89,cp),(131,dI),(132,np),(126,cA)]) ⟨gr,lX,Ds,iS,trivial⟩ (by kernel_rfl) (Dy.mpr fun p g r E rm m A c l Q h=>by
 obtain⟨I6,Ja,Jw,h⟩:=h
 subst Ja
 exact fun f1 f2=>bq ((!((E.on m).is p 1)) || (!(if(E.on m).is p 1 then((E.on m).at_ p).state !=3 else(E.on m).alive p))) (af ‹_› fun s3=>af (by rfl) fun s4=>af ‹_› fun s5=>ae (fun c1=>(by grind)) fun c1=>af ‹_› fun s6=>af (by rfl) fun s7=>af ‹_› fun s8=>(by grind))<| aM (fun c2=>bf h (by grind)) fun c2=>af ‹_› fun s9=>af (by rfl) fun N5 A1 c1 l1 J9=>bq ((((((((E.on m).pgs 3 p (E.on m).S).length):Nat):Int):Int)==1) && ((((E.on m).word p 0):Int)==(u32.wrap ((l1.getD (Int.toNat 0) (I64.mk 0)).v)))) (ae (fun c3=>af (by grind) fun Ly=>af ‹_› fun OH=>af (by rfl) fun Nj=>(by grind)) fun c3=>(by grind))<| bf h (by rw [J9,DB.first_eq (by grind)];grind))
end
def jW:Ctr Un:=⟨[.one (.ptr 0),.one (.int .i64)],[],[.blk [.obj 1 0,.sl 3] 127,.ob 1 [(1,2,0)],.ob 0 [],.lst 4 false 59],[],fun p g r E rm m A c l K=>E.n=m.S∧l=E.ao∧(E.on m).has p=true∧K ⟨(.bool ((E.on m).clause 11 p)),none,[],[],[]⟩⟩
def Av(p:Int)(g:Nat)(r:Nat→Nat)(E:Pd)(rm:Nat→Nat)(m:Mem)(A:Option Addr)(c:Nat)(l:List Ent)(Q:Ou Un→Prop):Prop:=
 Pd.Ok E→
 Mem.Wf m→
 E.n=m.S∧
 l=E.ao∧
 (E.on m).has p=true∧
 split (!((E.on m).is p 2)) (
  Q ⟨(.bool true),none,[],[],[]⟩) (
  E.n=m.S∧
  l=E.ao∧
  (0≤(18:Int)∧(1024:Int)≤1024)∧
  split (!((E.on m).zero p 18 1024)) (
   Q ⟨(.bool false),none,[],[],[]⟩) (
   (0≤p∧p<(l.length:Int))∧
   split (!((l.getD p.toNat Ent.free).aS)) (
    E.n=m.S∧
    l=E.ao∧
    (0≤(1:Int)∧(18:Int)≤1024)∧
    Q ⟨(.bool ((E.on m).zero p 1 18)),none,[],[],[]⟩) (
    E.n=m.S∧
    l=E.ao∧
    (0≤(1:Int)∧(1:Int)<1024∧0≤(17:Int)∧(17:Int)<1024)∧
    ∀(A1:Option Addr)(c1:Nat),
    ∀(l1:List U32),l1=(E.on m).some_ p 1 (Int.toNat 17)→
    ((∀x∈l1,0≤x.v∧x.v<4294967296))∧
    ∀(gv:Nat),
    ∀(s:Fl),s=Fl.zero→
    Fl.Ok s→
    True∧
    ∀(s1:Fl),s1=(Fl.norm (File.unpack l1))→
    Fl.Ok s1→
    E.n=m.S∧
    l=E.ao∧
    (E.on m).has p=true∧
    ∃J:Bool→Prop,(
     split ((File.ez l1)==0) (
      split (decide (((E.on m).bR p)<0)) (
       J true) (
       (0≤((E.on m).bR p)∧((E.on m).bR p)<(l.length:Int))∧
       J ((l.getD (Int.toNat ((E.on m).bR p)) Ent.free).state !=1))) (
      J false))∧∀(Ji:Nat→Value)(x4:Bool),J x4→
    Q ⟨(.bool x4),none,[],[],[]⟩)))
theorem Aw:Vc2 Un prog (aQ [(89,cp),(91,dO),(130,jX),(133,j4),(93,eZ)]) [] Tryz.f102 (.r' (.r' (.r' (.r' (.r' (.r' (.two (.node [] (some ⟨[(4,(.one .bool))],[],[4]++upN 38 17,[]⟩) [] [] .leaf .leaf) .leaf))))))) [] jW=(∀p g r (E:Pd) rm (m:Mem) A c (l:List Ent),∀Q,(E.n=m.S∧l=E.ao∧(E.on m).has p=true∧Q ⟨(.bool ((E.on m).clause 11 p)),none,[],[],[]⟩)→Av p g r E rm m A c l Q):=by kernel_rfl
section
attribute [local grind=] DB.rB DB.nH DB.is DB.bR
theorem Au:LV Un prog 102 jW:=verify Tryz.func102 aa (tb:= [(89,cp),(91,dO),(130,jX),(133,j4),(93,eZ)]) ⟨gr,lS,zo,Bv,pC,trivial⟩ (by kernel_rfl) (Aw.mpr fun p g r E rm m A c l Q h=>by
 obtain⟨I6,Ja,Jw,h⟩:=h
 subst Ja
 exact fun f1 f2=>(by(have hw:=fun a b=>eP (E:=E) f2 a b);(have Pb:=fun a b=>ak (x:=(E.on m).word a b) (by have:=hw a b;omega));(have O6:=fun a b=>fc (x:=(E.on m).word a b) (by have:=hw a b;omega));exact af ‹_› fun s3=>af (by rfl) fun s4=>af ‹_› fun s5=>aY (fun c1=>bf h (by grind)) fun c1=>af ‹_› fun s6=>af (by rfl) fun s7=>af (by omega) fun s8=>aY (fun c2=>bf h (by grind)) fun c2=>af (by grind) fun s9=>aY (fun c3=>af ‹_› fun N5=>af (by rfl) fun Ly=>af (by omega) fun OH=>bf h (by grind)) fun c3=>af ‹_› fun Nj=>af (by rfl) fun OG=>af (by omega) fun O4 A1 c1 l1 J9=>af (by rw [J9];exact tY f2 _ _ _) fun TU gv s MB f17=>af trivial fun _ s1 Kd f19=>af ‹_› fun s20=>af (by rfl) fun s21=>af ‹_› fun s22=>bq ((((File.ez l1):Int)==0) && ((decide ((((E.on m).bR p):Int)<0)) || (((E.ao.getD (Int.toNat ((E.on m).bR p)) Ent.free).state:Int) !=1))) (ae (fun c4=>ae (fun c5=>(by grind)) fun c5=>af (by grind) fun TS=>(by grind)) fun c4=>(by grind))<| bf h (by grind)))
end
end
section
set_option maxRecDepth 100000
set_option maxHeartbeats 1000000
attribute [local irreducible] Vc2 VcD
attribute [local grind=] Pd.cg Pd.bI Pd.gD Pd.gS Pd.eU Pd.dR Pd.ek Pd.eI Pd.j6 Pd.oJ
attribute [local grind .] Pd.Ok.ent
attribute [local grind→] Pd.Ok.cF
def lV:Ctr Un:=⟨[.one (.ptr 0),.one (.int .i64)],[],[.blk [.obj 1 0,.sl 3] 127,.ob 1 [(1,2,0)],.ob 0 [],.lst 4 false 59],[],fun p g r E rm m A c l K=>E.n=m.S∧l=E.ao∧(E.on m).has p=true∧K ⟨(.bool ((E.on m).clause 8 p)),none,[],[],[]⟩⟩
def Du(p:Int)(g:Nat)(r:Nat→Nat)(E:Pd)(rm:Nat→Nat)(m:Mem)(A:Option Addr)(c:Nat)(l:List Ent)(Q:Ou Un→Prop):Prop:=
 Pd.Ok E→
 Mem.Wf m→
 ∃J:Bool→Prop,(
  E.n=m.S∧
  l=E.ao∧
  (E.on m).has p=true∧
  split (!((E.on m).is p 3)) (
   J true) (
   E.n=m.S∧
   l=E.ao∧
   (E.on m).has p=true∧
   J (!(if(E.on m).is p 1 then((E.on m).at_ p).state !=3 else(E.on m).alive p))))∧∀(JW:Nat→Value)(NG:Bool),J NG→
 split NG (
  Q ⟨(.bool true),none,[],[],[]⟩) (
  E.n=m.S∧
  l=E.ao∧
  (0≤(256:Int)∧(1024:Int)≤1024)∧
  split (!((E.on m).zero p 256 1024)) (
   Q ⟨(.bool false),none,[],[],[]⟩) (
   ((64:Int)=64∧0≤(64:Int)∧1*(64:Int)≤281474976710656)∧
   ∀(I8:Nat),
   ∀(l1:List Bl),l1=(List.replicate (Int.toNat 64) (Bl.mk false:Bl))→
   ∀count:Int,count=0→
   (0≤p∧p<(l.length:Int))∧
   E.n=m.S∧
   l=E.ao∧
   ∀(A1:Option Addr)(c1:Nat),
   ∀(l2:List I64),l2=(E.on m).pgs 4 ((l.getD p.toNat Ent.free).owner) (E.on m).S→
   ∃I:Nat→Int→Int→Option Addr→Nat→List Bl→Prop,(∃m1,I m1 count 0 (some (Addr.mk I8 0 none)) (Int.toNat 64) l1)∧∀(m1:Nat)(KH:Nat→Value)(count1:Int)(JM:Int)(A4:Option Addr)(c4:Nat)(l4:List Bl),I m1 count1 JM A4 c4 l4→
   split (decide (JM<256)) (
    E.n=m.S∧
    l=E.ao∧
    split (((E.on m).word p JM)==0) (
     ∃m2,m2<m1∧I m2 count1 (i64.wrap (JM+1)) A4 c4 l4) (
     (0≤((E.on m).word p JM)∧((E.on m).word p JM)<4294967296)∧
     ∃J1:Bool→Prop,(
      split ((iZ ((E.on m).word p JM)) !=0) (
       J1 true) (
       (0≤(aL ((E.on m).word p JM))∧(aL ((E.on m).word p JM))<(l4.length:Int))∧
       J1 ((l4.getD (Int.toNat (aL ((E.on m).word p JM))) (Bl.mk false)).v)))∧∀(Nh:Nat→Value)(x60:Bool),J1 x60→
     split x60 (
      Q ⟨(.bool false),none,[],[],[]⟩) (
      ∃I1:Nat→Int→Int→Option Addr→Nat→List Bl→Prop,(∃m3,I1 m3 count1 0 A4 c4 l4)∧∀(m3:Nat)(KR:Nat→Value)(count2:Int)(K6:Int)(TQ:Option Addr)(TI:Nat)(P2:List Bl),I1 m3 count2 K6 TQ TI P2→
      split (decide (K6<((((E.on m).pgs 4 ((l.getD p.toNat Ent.free).owner) (E.on m).S).length):Int))) (
       (0≤K6∧K6<(l2.length:Int))∧
       split ((l2.getD K6.toNat (I64.mk 0)).v==(aL ((E.on m).word p JM))) (
        (0≤(aL ((E.on m).word p JM))∧(aL ((E.on m).word p JM))<(P2.length:Int))∧
        ∀(l3:List Bl),l3=(P2.set (Int.toNat (aL ((E.on m).word p JM))) (Bl.mk true))→
        ∀count3:Int,count3=(i64.wrap (count2+1))→
        ∃m2,m2<m1∧I m2 count3 (i64.wrap (JM+1)) TQ TI l3) (
        ∃m4,m4<m3∧I1 m4 count2 (i64.wrap (K6+1)) TQ TI P2)) (
       Q ⟨(.bool false),none,[],[],[]⟩)))) (
    Q ⟨(.bool (count1==((((E.on m).pgs 4 ((l.getD p.toNat Ent.free).owner) (E.on m).S).length):Int))),none,[],[],[]⟩)))
theorem Dv:Vc2 Un prog (aQ [(89,cp),(131,dI),(91,dO),(132,np),(126,cA),(114,cv)]) [6] Tryz.f99 (.r' (.two (.two (.two (.node [] (some ⟨[(23,(.one .bool))],[],upN 14 10,[]⟩) [] [] .leaf .leaf) .leaf) (.r' (.r' (.r' (.r' (.two (.r' (.two (.node [] (some ⟨[(6,(.one (.int .i64))),(39,(.one (.int .i64)))],[(5,(.p (.sl 4 0)))],[4,6,8,9,10,11,13]++upN 39 38,[(4,(.lst 3))]⟩) [] [] (.r' (.r' (.two (.two (.r' (.r' (.r' (.r' (.two (.two (.node [] (some ⟨[(60,(.one .bool))],[],upN 53 8,[]⟩) [] [] .leaf .leaf) .leaf) (.two (.r' (.two (.node [] (some ⟨[(6,(.one (.int .i64))),(63,(.one (.int .i64)))],[(5,(.p (.sl 4 0)))],[6,13]++upN 63 13,[(4,(.lst 3))]⟩) [] [] .leaf .leaf) .leaf)) .leaf)))))) .leaf) .leaf))) .leaf) .leaf)) .leaf)))))) .leaf)) [] lV=(∀p g r (E:Pd) rm (m:Mem) A c (l:List Ent),∀Q,(E.n=m.S∧l=E.ao∧(E.on m).has p=true∧Q ⟨(.bool ((E.on m).clause 8 p)),none,[],[],[]⟩)→Du p g r E rm m A c l Q):=by kernel_rfl
section
attribute [local grind=] DB.g5 DB.is
theorem Dt:LV Un prog 99 lV:=verify Tryz.func99 aa (tb:= [(89,cp),(131,dI),(91,dO),(132,np),(126,cA),(114,cv)]) ⟨gr,lX,lS,Ds,iS,kg,trivial⟩ (by kernel_rfl) (Dv.mpr fun p g r E rm m A c l Q h=>by
 obtain⟨I6,Ja,Jw,h⟩:=h
 subst Ja
 exact fun f1 f2=>(by(have hw:=fun a b=>eP (E:=E) f2 a b);(have On:E.ao.getD p.toNat Ent.free=(E.on m).at_ p:=by rw [Pd.bI (by grind),Pd.gS]);exact bq ((!((E.on m).is p 3)) || (!(if(E.on m).is p 1 then((E.on m).at_ p).state !=3 else(E.on m).alive p))) (af ‹_› fun s3=>af (by rfl) fun s4=>af ‹_› fun s5=>ae (fun c1=>(by grind)) fun c1=>af ‹_› fun s6=>af (by rfl) fun s7=>af ‹_› fun s8=>(by grind))<| aM (fun c2=>bf h (by grind)) fun c2=>(by(have TX:((E.on m).at_ p).typ=3∧(E.on m).alive p=true:=by grind);exact af ‹_› fun s9=>af (by rfl) fun N5=>af (by omega) fun Ly=>aY (fun c3=>bf h (by rw [DB.g5,DB.iw,c3];simp [TX])) fun c3=>af (by omega) fun OH I8 l1 J9=>allEq<| af (by grind) fun Nj=>af ‹_› fun OG=>af (by rfl) fun O4 A1 c1 l2 Lf=>⟨fun m1 count1 JM A4 c4 l4=>(m1=(256 - JM).toNat)∧(0≤JM∧JM≤256)∧(DB.Nms (E.on m) p JM count1 l4),⟨_,rfl,(by omega),(by rw [J9];exact DB.Nms.init _ _)⟩,fun m1 _ count1 JM A4 c4 l4 ⟨hm,hx,hn⟩=>(by(have Mw:l2=(E.on m).pgs 4 ((E.on m).at_ p).owner (E.on m).S:=by rw [Lf,On]);(have TD:(l2.length:Int)≤64:=by rw [Mw];(have h8:=DB.iE (E.on m) 4 ((E.on m).at_ p).owner (E.on m).S);have h7:=f1.cF;(rw [Pd.oJ _ _ I6]at h8 ⊢);omega);(have hcb:0≤count1∧count1≤64:=by rw [hn.cnt];(have h7:=lK (f:=fun q=>(E.on m).named p JM q==1) (n:=((E.on m).S:Int)) (by omega));(have h6:=gn (f:=fun q=>(E.on m).named p JM q==1) (n:=((E.on m).S:Int)));have h5:=f1.cF;(rw [Pd.oJ _ _ I6]at h7 h6 ⊢);omega);exact aB (fun c4=>af ‹_› fun TU=>af (by rfl) fun TT=>aE (fun c5=>⟨_,(by rw [ak (x:=JM+1) (by omega)];omega),rfl,(by rw [ak (x:=JM+1) (by omega)];omega),(by rw [ak (x:=JM+1) (by omega)];exact hn.skip hx.1 c5)⟩) fun c5=>af (hw p JM) fun s18=>bq ((((iZ ((E.on m).word p JM)):Int) !=0) || ((l4.getD (Int.toNat (aL ((E.on m).word p JM))) (Bl.mk false)).v)) (ae (fun c6=>(by grind)) fun c6=>af (by(have h8:=nM (hw p JM).1);(have h7:=hn.len);(rw [h7];exact h8)) fun UI=>(by grind))<| aM (fun c7=>bf h (by(have hb:=hn.bad ⟨hx.1,c4⟩ (hw p JM).1 c5 (fun he ho=>by rcases c7 with h | h;(simp [he]at h);exact h));rw [DB.g5,hb];simp [TX])) fun c7=>⟨fun m3 count2 K6 TQ TI P2=>(m3=((l2.length:Int) - K6).toNat)∧(0≤K6∧K6≤(l2.length:Int))∧(count2=count1)∧(P2=l4)∧(∀j:Nat,(j:Int)<K6→¬(l2.getD j (I64.mk 0)).v=aL ((E.on m).word p JM)),⟨_,rfl,(by omega),(by rfl),(by rfl),(by intro j hj;omega)⟩,fun m3 _ count2 K6 TQ TI P2 ⟨hm,hy,Oq,Qb,T9⟩=>(by have hy2:K6<(l2.length:Int)∨¬K6<(l2.length:Int):=Classical.em _;exact aB (fun c8=>af (by rw [Lf];exact⟨hy.1,c8⟩) fun s20=>aE (fun c9=>af (by(have h8:=nM (hw p JM).1);(have h7:=hn.len);(rw [Qb,h7];exact h8)) fun s21 l3 VG=>allEq<| ⟨_,(by rw [ak (x:=JM+1) (by omega)];omega),rfl,(by rw [ak (x:=JM+1) (by omega)];omega),(by rw [ak (x:=JM+1) (by omega)];(rw [VG,Qb,Oq,ak (x:=count1+1) (by omega)];exact hn.put hx.1 (hw p JM).1 c5 (by simpa using c7.1) c7.2 (DB.G4 Mw ⟨hy.1,by rw [Lf];exact c8⟩ c9)))⟩) fun c9=>⟨_,(by have TH:=c8;rw [← Lf]at TH;rw [ak (x:=K6+1) (by omega)];omega),rfl,(by have TH:=c8;rw [← Lf]at TH;rw [ak (x:=K6+1) (by omega)];omega),(Oq),(Qb),(by have TH:=c8;rw [← Lf]at TH;rw [ak (x:=K6+1) (by omega)];intro j hj;by_cases hjx:(j:Int)=K6;(have hjn:j=K6.toNat:=by omega);subst hjn;exact c9;exact T9 j (by omega))⟩) fun c8=>bf h (by(have hb:=hn.bad ⟨hx.1,c4⟩ (hw p JM).1 c5 (fun _ ho=>by rw [DB.EO Mw (fun j hj=>T9 j (by rw [← Lf]at c8;omega))]at ho;cases ho));rw [DB.g5,hb];simp [TX]))⟩) fun c4=>bf h (by(have SI:JM=256:=by omega);subst SI;rw [DB.g5,hn.done (by rw [Pd.oJ _ _ I6];exact f1.cF) c3,On];simp [TX]))⟩)))
end
def nU:Ctr Un:=⟨[.one (.ptr 0),.one (.int .i64)],[],[.blk [.obj 1 0,.sl 3] 127,.ob 1 [(1,2,0)],.ob 0 [],.lst 4 false 59],[],fun p g r E rm m A c l K=>E.n=m.S∧l=E.ao∧(E.on m).has p=true∧K ⟨(.bool ((E.on m).clause 9 p)),none,[],[],[]⟩⟩
def FA(p:Int)(g:Nat)(r:Nat→Nat)(E:Pd)(rm:Nat→Nat)(m:Mem)(A:Option Addr)(c:Nat)(l:List Ent)(Q:Ou Un→Prop):Prop:=
 Pd.Ok E→
 Mem.Wf m→
 ∃J:Bool→Prop,(
  E.n=m.S∧
  l=E.ao∧
  (E.on m).has p=true∧
  split (!((E.on m).is p 4)) (
   J true) (
   E.n=m.S∧
   l=E.ao∧
   (E.on m).has p=true∧
   J (!(if(E.on m).is p 1 then((E.on m).at_ p).state !=3 else(E.on m).alive p))))∧∀(JW:Nat→Value)(La:Bool),J La→
 split La (
  Q ⟨(.bool true),none,[],[],[]⟩) (
  ∃I:Nat→Int→Prop,(∃m1,I m1 0)∧∀(m1:Nat)(Ji:Nat→Value)(Jk:Int),I m1 Jk→
  split (decide (Jk<1024)) (
   E.n=m.S∧
   l=E.ao∧
   split (((E.on m).word p Jk)==0) (
    ∃m2,m2<m1∧I m2 (i64.wrap (Jk+1))) (
    (0≤((E.on m).word p Jk)∧((E.on m).word p Jk)<4294967296)∧
    ∀(KU:Nat),
    ∃J1:Bool→Prop,(
     split ((gi ((E.on m).word p Jk)) !=0) (
      J1 true) (
      J1 (!(m.has ((bo ((E.on m).word p Jk)).aO) ((bo ((E.on m).word p Jk)).ah)))))∧∀(Nh:Nat→Value)(Pm:Bool),J1 Pm→
    split Pm (
     Q ⟨(.bool false),none,[],[],[]⟩) (
     ∃J2:Bool→Prop,(
      split ((bo ((E.on m).word p Jk)).aO) (
       E.n=m.S∧
       l=E.ao∧
       (E.on m).has ((bo ((E.on m).word p Jk)).ah)=true∧
       split (!((E.on m).is ((bo ((E.on m).word p Jk)).ah) 5)) (
        J2 true) (
        (0≤(bo ((E.on m).word p Jk)).ah∧(bo ((E.on m).word p Jk)).ah<(l.length:Int))∧
        (0≤p∧p<(l.length:Int))∧
        J2 ((l.getD (Int.toNat ((bo ((E.on m).word p Jk)).ah)) Ent.free).owner !=((l.getD p.toNat Ent.free).owner)))) (
       J2 false))∧∀(KR:Nat→Value)(QZ:Bool),J2 QZ→
     split QZ (
      Q ⟨(.bool false),none,[],[],[]⟩) (
      ∃m2,m2<m1∧I m2 (i64.wrap (Jk+1)))))) (
   Q ⟨(.bool true),none,[],[],[]⟩))
theorem FB:Vc2 Un prog (aQ [(89,cp),(131,dI),(126,cA),(59,bD),(11,cD),(60,pZ)]) [] Tryz.f100 (.r' (.two (.two (.node [] (some ⟨[(18,(.one .bool))],[],upN 9 10,[]⟩) [] [] .leaf .leaf) .leaf) (.two (.r' (.two (.node [] (some ⟨[(19,(.one (.int .i64)))],[],upN 4 5++upN 19 60,[]⟩) [] [] (.r' (.r' (.two (.two (.r' (.r' (.r' (.r' (.two (.two (.node [] (some ⟨[(45,(.one .bool))],[],upN 33 13,[]⟩) [] [(6,[0]),(9,[4])] .leaf .leaf) .leaf) (.two (.node [] (some ⟨[(77,(.one .bool))],[],upN 46 32,[]⟩) [] [(2,[4]),(7,[4]),(14,[0]),(17,[4]),(20,[3]),(24,[0]),(28,[3])] .leaf .leaf) .leaf)))))) .leaf) .leaf))) .leaf) .leaf)) .leaf))) [] nU=(∀p g r (E:Pd) rm (m:Mem) A c (l:List Ent),∀Q,(E.n=m.S∧l=E.ao∧(E.on m).has p=true∧Q ⟨(.bool ((E.on m).clause 9 p)),none,[],[],[]⟩)→FA p g r E rm m A c l Q):=by kernel_rfl
section
attribute [local grind=] DB.jw DB.is
theorem Fz:LV Un prog 100 nU:=verify Tryz.func100 aa (tb:= [(89,cp),(131,dI),(126,cA),(59,bD),(11,cD),(60,pZ)]) ⟨gr,lX,iS,fP,il,DX,trivial⟩ (by kernel_rfl) (FB.mpr fun p g r E rm m A c l Q h=>by
 obtain⟨I6,Ja,Jw,h⟩:=h
 subst Ja
 exact fun f1 f2=>(by(have hw:=fun a b=>eP (E:=E) f2 a b);(have Pb:=fun a b=>ak (x:=(E.on m).word a b) (by have:=hw a b;omega));(have O6:=fun a b=>fc (x:=(E.on m).word a b) (by have:=hw a b;omega));(have On:E.ao.getD p.toNat Ent.free=(E.on m).at_ p:=by rw [Pd.bI (by grind),Pd.gS]);(have hmt:∀q,m.has true q=(E.on m).has q:=fun q=>rfl);(have hmf:∀q,m.has false q=decide (0≤q∧q<(m.I:Int)):=fun q=>rfl);(have U4:=fun w=>yC w);exact bq ((!((E.on m).is p 4)) || (!(if(E.on m).is p 1 then((E.on m).at_ p).state !=3 else(E.on m).alive p))) (af ‹_› fun s3=>af (by rfl) fun s4=>af ‹_› fun s5=>ae (fun c1=>(by grind)) fun c1=>af ‹_› fun s6=>af (by rfl) fun s7=>af ‹_› fun s8=>(by grind))<| aM (fun c2=>bf h (by grind)) fun c2=>⟨fun m1 Jk=>(m1=(1024 - Jk).toNat)∧(0≤Jk∧Jk≤1024)∧(fZ ((E.on m).lv p) 0 Jk=true),⟨_,rfl,(by omega),(g7 (Int.le_refl _))⟩,fun m1 _ Jk ⟨hm,hx,hz⟩=>aB (fun c3=>af ‹_› fun s9=>af (by rfl) fun N5=>aE (fun c4=>⟨_,(by(have h9:=ak (x:=Jk+1) (by grind));omega),rfl,(by(have h9:=ak (x:=Jk+1) (by grind));omega),(eG hz (by(grind [DB.lv,DB.of])) (ak (by omega)))⟩) fun c4=>af (hw p Jk) fun Ly KU=>bq ((((gi ((E.on m).word p Jk)):Int) !=0) || (!(m.has ((bo ((E.on m).word p Jk)).aO) ((bo ((E.on m).word p Jk)).ah)))) (ae (fun c5=>(by grind)) fun c5=>(by grind))<| aM (fun c6=>bf h (by(have hb:(E.on m).lv p Jk=false:=by(grind [DB.lv,DB.of]));rw [DB.jw,DB.qK,fN hx.1 c3 hb];grind)) fun c6=>bq (((bo ((E.on m).word p Jk)).aO) && ((!((E.on m).is ((bo ((E.on m).word p Jk)).ah) 5)) || (((E.ao.getD (Int.toNat ((bo ((E.on m).word p Jk)).ah)) Ent.free).owner:Int) !=((E.ao.getD p.toNat Ent.free).owner)))) (ae (fun c7=>af ‹_› fun OH=>af (by rfl) fun Nj=>af (by grind) fun OG=>ae (fun c8=>(by grind)) fun c8=>af (by grind) fun O4=>af (by grind) fun TU=>(by grind)) fun c7=>(by grind))<| cP (fun c9=>bf h (by(have hb:(E.on m).lv p Jk=false:=by(grind [DB.lv,DB.of]));rw [DB.jw,DB.qK,fN hx.1 c3 hb];grind)) fun c9=>⟨_,(by(have h9:=ak (x:=Jk+1) (by grind));omega),rfl,(by(have h9:=ak (x:=Jk+1) (by grind));omega),(eG hz (by(grind [DB.lv,DB.of])) (ak (by omega)))⟩) fun c3=>bf h (by rw [DB.jw,DB.qK,← show Jk=1024 by omega,hz];simp)⟩))
end
def jY:Ctr Un:=⟨[.one (.ptr 0),.one (.int .i64)],[],[.blk [.obj 1 0,.sl 3] 127,.ob 1 [(1,2,0)],.ob 0 [],.lst 4 false 59],[],fun p g r E rm m A c l K=>E.n=m.S∧l=E.ao∧(E.on m).has p=true∧K ⟨(.bool ((E.on m).clause 10 p)),none,[],[],[]⟩⟩
def Ay(p:Int)(g:Nat)(r:Nat→Nat)(E:Pd)(rm:Nat→Nat)(m:Mem)(A:Option Addr)(c:Nat)(l:List Ent)(Q:Ou Un→Prop):Prop:=
 Pd.Ok E→
 Mem.Wf m→
 ∃J:Bool→Prop,(
  E.n=m.S∧
  l=E.ao∧
  (E.on m).has p=true∧
  split (!((E.on m).is p 5)) (
   J true) (
   E.n=m.S∧
   l=E.ao∧
   (E.on m).has p=true∧
   J (!(if(E.on m).is p 1 then((E.on m).at_ p).state !=3 else(E.on m).alive p))))∧∀(JW:Nat→Value)(MM:Bool),J MM→
 split MM (
  Q ⟨(.bool true),none,[],[],[]⟩) (
  ∀n:Int,n=0→
  (0≤p∧p<(l.length:Int))∧
  E.n=m.S∧
  l=E.ao∧
  ∀(A1:Option Addr)(c1:Nat),
  ∀(l1:List I64),l1=(E.on m).pgs 4 ((l.getD p.toNat Ent.free).owner) (E.on m).S→
  ∃I:Nat→Int→Int→Prop,(∃m1,I m1 n 0)∧∀(m1:Nat)(Ji:Nat→Value)(n1:Int)(Km:Int),I m1 n1 Km→
  split (decide (Km<((((E.on m).pgs 4 ((l.getD p.toNat Ent.free).owner) (E.on m).S).length):Int))) (
   (0≤Km∧Km<(l1.length:Int))∧
   ∃I1:Nat→Int→Int→Prop,(∃m3,I1 m3 n1 0)∧∀(m3:Nat)(KH:Nat→Value)(n2:Int)(JX:Int),I1 m3 n2 JX→
   split (decide (JX<1024)) (
    E.n=m.S∧
    l=E.ao∧
    (0≤((E.on m).word ((l1.getD Km.toNat (I64.mk 0)).v) JX)∧((E.on m).word ((l1.getD Km.toNat (I64.mk 0)).v) JX)<4294967296)∧
    ∀(KT:Nat),
    ∃J1:Bool→Prop,(
     split ((gi ((E.on m).word ((l1.getD Km.toNat (I64.mk 0)).v) JX))==0) (
      J1 (aK #[(.bool ((bo ((E.on m).word ((l1.getD Km.toNat (I64.mk 0)).v) JX)).aO)),(.int .i64 ((bo ((E.on m).word ((l1.getD Km.toNat (I64.mk 0)).v) JX)).ah))] #[(.bool true),(.int .i64 p)])) (
      J1 false))∧∀(KR:Nat→Value)(Pl:Bool),J1 Pl→
    split Pl (
     ∀n3:Int,n3=(i64.wrap (n2+1))→
     ∃m4,m4<m3∧I1 m4 n3 (i64.wrap (JX+1))) (
     ∃m4,m4<m3∧I1 m4 n2 (i64.wrap (JX+1)))) (
    ∃m2,m2<m1∧I m2 n2 (i64.wrap (Km+1)))) (
   Q ⟨(.bool (n1==1)),none,[],[],[]⟩))
theorem Az:Vc2 Un prog (aQ [(89,cp),(131,dI),(132,np),(126,cA),(59,bD)]) [5] Tryz.f101 (.r' (.two (.two (.node [] (some ⟨[(20,(.one .bool))],[],upN 11 10,[]⟩) [] [] .leaf .leaf) .leaf) (.r' (.two (.r' (.two (.node [] (some ⟨[(5,(.one (.int .i64))),(32,(.one (.int .i64)))],[],[5,7,8,9,10]++upN 32 28,[]⟩) [] [] (.r' (.r' (.two (.two (.r' (.r' (.two (.node [] (some ⟨[(5,(.one (.int .i64))),(36,(.one (.int .i64)))],[],[5,8,9,10]++upN 36 23,[]⟩) [] [] (.r' (.r' (.two (.two (.r' (.r' (.two (.node [] (some ⟨[(55,(.one .bool))],[],upN 47 9,[]⟩) [] [] .leaf .leaf) .leaf))) .leaf) .leaf))) .leaf) .leaf))) .leaf) .leaf))) .leaf) .leaf)) .leaf)))) [] jY=(∀p g r (E:Pd) rm (m:Mem) A c (l:List Ent),∀Q,(E.n=m.S∧l=E.ao∧(E.on m).has p=true∧Q ⟨(.bool ((E.on m).clause 10 p)),none,[],[],[]⟩)→Ay p g r E rm m A c l Q):=by kernel_rfl
section
attribute [local grind=] DB.mH DB.is
theorem Ax:LV Un prog 101 jY:=verify Tryz.func101 aa (tb:= [(89,cp),(131,dI),(132,np),(126,cA),(59,bD)]) ⟨gr,lX,Ds,iS,fP,trivial⟩ (by kernel_rfl) (Az.mpr fun p g r E rm m A c l Q h=>by
 obtain⟨I6,Ja,Jw,h⟩:=h
 subst Ja
 exact fun f1 f2=>(by(have hw:=fun a b=>eP (E:=E) f2 a b);(have Pb:=fun a b=>ak (x:=(E.on m).word a b) (by have:=hw a b;omega));(have O6:=fun a b=>fc (x:=(E.on m).word a b) (by have:=hw a b;omega));(have On:E.ao.getD p.toNat Ent.free=(E.on m).at_ p:=by rw [Pd.bI (by grind),Pd.gS]);(have hmt:∀q,m.has true q=(E.on m).has q:=fun q=>rfl);(have hmf:∀q,m.has false q=decide (0≤q∧q<(m.I:Int)):=fun q=>rfl);(have U4:=fun w=>yC w);exact bq ((!((E.on m).is p 5)) || (!(if(E.on m).is p 1 then((E.on m).at_ p).state !=3 else(E.on m).alive p))) (af ‹_› fun s3=>af (by rfl) fun s4=>af ‹_› fun s5=>ae (fun c1=>(by grind)) fun c1=>af ‹_› fun s6=>af (by rfl) fun s7=>af ‹_› fun s8=>(by grind))<| aM (fun c2=>bf h (by grind)) fun c2=>allEq<| af (by grind) fun s9=>af ‹_› fun N5=>af (by rfl) fun Ly A1 c1 l1 J9=>⟨fun m1 n1 Km=>(m1=((l1.length:Int) - Km).toNat)∧(0≤Km∧Km≤(l1.length:Int))∧(n1=(E.on m).gM p l1 Km),⟨_,rfl,(by constructor<;>omega),(by rfl)⟩,fun m1 _ n1 Km ⟨hm,hx,hn⟩=>(by(have Nc:l1=(E.on m).pgs 4 ((E.on m).at_ p).owner (E.on m).S:=by rw [J9,On]);exact aB (fun c3=>af (by grind) fun OH=>⟨fun m3 n2 JX=>(m3=(1024 - JX).toNat)∧(0≤JX∧JX≤1024)∧(n2=(E.on m).gM p l1 Km+cm ((E.on m).iK p (l1.getD Km.toNat (I64.mk 0)).v) JX),⟨_,rfl,(by omega),(by rw [Ae,Int.add_zero];exact hn)⟩,fun m3 _ n2 JX ⟨hm,hj,Lp⟩=>aB (fun c4=>af ‹_› fun Nj=>af (by rfl) fun OG=>af (hw _ JX) fun O4 KT=>bq ((((gi ((E.on m).word ((l1.getD Km.toNat (I64.mk 0)).v) JX)):Int)==0) && (aK #[(.bool ((bo ((E.on m).word ((l1.getD Km.toNat (I64.mk 0)).v) JX)).aO)),(.int .i64 ((bo ((E.on m).word ((l1.getD Km.toNat (I64.mk 0)).v) JX)).ah))] #[(.bool true),(.int .i64 p)])) (ae (fun c5=>(by grind)) fun c5=>(by grind))<| cP (fun c6=>allEq<| ⟨_,(by(have h9:=ak (x:=JX+1) (by grind));omega),rfl,(by(have h9:=ak (x:=JX+1) (by grind));omega),(by have Pf:=DB.iE (E.on m) 4 ((E.on m).at_ p).owner (E.on m).S;rw [← Nc]at Pf;have h9:=ak (x:=JX+1) (by omega);have h8:=cQ (f:=(E.on m).iK p (l1.getD Km.toNat (I64.mk 0)).v) hj.1;have h7:=lK (f:=(E.on m).iK p (l1.getD Km.toNat (I64.mk 0)).v) hj.1;have h6:=gn (f:=(E.on m).iK p (l1.getD Km.toNat (I64.mk 0)).v) (n:=JX);have h5:=DB.qN (D:=E.on m) (p:=p) (l:=l1) hx.1;have h3:=ak (x:=n2+1) (by grind);(grind [DB.iK,eqF]))⟩) fun c6=>⟨_,(by(have h9:=ak (x:=JX+1) (by grind));omega),rfl,(by(have h9:=ak (x:=JX+1) (by grind));omega),(by have Pf:=DB.iE (E.on m) 4 ((E.on m).at_ p).owner (E.on m).S;rw [← Nc]at Pf;have h9:=ak (x:=JX+1) (by omega);have h8:=cQ (f:=(E.on m).iK p (l1.getD Km.toNat (I64.mk 0)).v) hj.1;have h7:=lK (f:=(E.on m).iK p (l1.getD Km.toNat (I64.mk 0)).v) hj.1;have h6:=gn (f:=(E.on m).iK p (l1.getD Km.toNat (I64.mk 0)).v) (n:=JX);have h5:=DB.qN (D:=E.on m) (p:=p) (l:=l1) hx.1;have h3:=ak (x:=n2+1) (by grind);(grind [DB.iK,eqF]))⟩) fun c4=>⟨_,(by have Pf:=DB.iE (E.on m) 4 ((E.on m).at_ p).owner (E.on m).S;rw [← Nc]at Pf;rw [ak (x:=Km+1) (by grind)];grind),rfl,(by have Pf:=DB.iE (E.on m) 4 ((E.on m).at_ p).owner (E.on m).S;rw [← Nc]at Pf;rw [ak (x:=Km+1) (by grind)];grind),(by have Pf:=DB.iE (E.on m) 4 ((E.on m).at_ p).owner (E.on m).S;rw [← Nc]at Pf;rw [ak (x:=Km+1) (by grind),DB.om ⟨hx.1,by grind⟩,Lp,show JX=1024 by omega])⟩⟩) fun c3=>bf h (by(have hb:=DB.once_eq (D:=E.on m) (p:=p) (n:=n1) (x:=Km) (by rw [← Nc];grind) (by rw [← Nc];exact hn));rw [DB.mH,hb];grind))⟩))
end
end
section
set_option maxRecDepth 100000
set_option maxHeartbeats 1000000
attribute [local irreducible] Vc2 VcD
attribute [local grind=] Pd.cg Pd.bI Pd.gD Pd.gS Pd.eU Pd.dR Pd.ek Pd.eI Pd.j6
attribute [local grind .] Pd.Ok.ent
attribute [local grind→] Pd.Ok.cF
theorem DB.pf {D:DB} {c p:Int}(hc:1≤c∧c≤12)(hb:D.eO (13 - c).toNat c=D.broken)(hz:fZ (D.clause c) 0 p=true)(hf:D.clause c p=false)(hp:0≤p∧p<(D.S:Int)):D.broken=(c,p):=by
 rw [← hb,show(13 - c).toNat=(12 - c).toNat+1 by omega,eO,iJ,fN hp.1 hp.2 hf,leastN_eq hz hf hp.1 (by omega)]
 rfl
theorem DB.vj {D:DB} {c:Int}(hc:1≤c∧c≤12)(hb:D.eO (13 - c).toNat c=D.broken) {p:Int}(hp:p=(D.S:Int))(hz:fZ (D.clause c) 0 p=true):D.eO (13 - (c+1)).toNat (c+1)=D.broken:=by
 subst hp
 rw [← hb,show(13 - c).toNat=(13 - (c+1)).toNat+1 by omega,eO,iJ,hz]
 rfl
theorem DB.ng {D:DB} {c:Int}(hc:¬c≤12)(Oq:c≤13)(hb:D.eO (13 - c).toNat c=D.broken):D.broken=(0,0):=by
 rw [← hb,show(13 - c).toNat=0 by omega];rfl
end
section
set_option maxRecDepth 100000
set_option maxHeartbeats 1000000
attribute [local irreducible] Vc2 VcD
attribute [local grind=] Pd.cg Pd.bI Pd.gD Pd.gS Pd.eU Pd.dR Pd.ek Pd.eI Pd.j6 Pd.oJ
attribute [local grind .] Pd.Ok.ent
attribute [local grind→] Pd.Ok.cF
def gz:Ctr Un:=⟨[.one (.int .i64),.one (.ptr 0)],[],[.blk [.ptr 1] 122,.blk [.obj 2 0,.sl 4] 127,.ob 1 [(1,3,0)],.ob 0 [],.lst 4 false 59],[],fun p gb g r E rm m A c l K=>E.n=m.S∧l=E.ao∧(E.on m).has p=true∧K ⟨(.bool ((E.on m).clause 1 p)),none,[],[],[]⟩⟩
def vL(p:Int)(gb:Nat)(g:Nat)(r:Nat→Nat)(E:Pd)(rm:Nat→Nat)(m:Mem)(A:Option Addr)(c:Nat)(l:List Ent)(Q:Ou Un→Prop):Prop:=
 Pd.Ok E→
 Mem.Wf m→
 ∃J:Bool→Prop,(
  E.n=m.S∧
  l=E.ao∧
  (E.on m).has p=true∧
  split (!((E.on m).is p 1)) (
   J true) (
   (0≤p∧p<(l.length:Int))∧
   J ((l.getD p.toNat Ent.free).owner==p)))∧∀(JW:Nat→Value)(x3:Bool),J x3→
 Q ⟨(.bool x3),none,[],[],[]⟩
theorem vM:Vc2 Un prog (aQ [(89,cp)]) [] Tryz.f88 (.r' (.two (.node [] (some ⟨[(3,(.one .bool))],[],upN 3 17,[]⟩) [] [] .leaf .leaf) .leaf)) [] gz=(∀p gb g r (E:Pd) rm (m:Mem) A c (l:List Ent),∀Q,(E.n=m.S∧l=E.ao∧(E.on m).has p=true∧Q ⟨(.bool ((E.on m).clause 1 p)),none,[],[],[]⟩)→vL p gb g r E rm m A c l Q):=by kernel_rfl
section
attribute [local grind=] DB.vf DB.is
theorem vK:LV Un prog 88 gz:=verify Tryz.func88 aa (tb:= [(89,cp)]) ⟨gr,trivial⟩ (by kernel_rfl) (vM.mpr fun p gb g r E rm m A c l Q h=>by
 obtain⟨I6,Ja,Jw,h⟩:=h
 subst Ja
 exact fun f1 f2=>bq ((!((E.on m).is p 1)) || (((E.ao.getD p.toNat Ent.free).owner:Int)==p)) (af ‹_› fun s3=>af (by rfl) fun s4=>af ‹_› fun s5=>ae (fun c1=>(by grind)) fun c1=>af (by grind) fun s6=>(by grind))<| bf h (by grind))
end
def gy:Ctr Un:=⟨[.one (.int .i64),.one (.ptr 0)],[],[.blk [.ptr 1] 122,.blk [.obj 2 0,.sl 4] 127,.ob 1 [(1,3,0)],.ob 0 [],.lst 4 false 59],[],fun p gb g r E rm m A c l K=>E.n=m.S∧l=E.ao∧(E.on m).has p=true∧K ⟨(.bool ((E.on m).clause 2 p)),none,[],[],[]⟩⟩
def vI(p:Int)(gb:Nat)(g:Nat)(r:Nat→Nat)(E:Pd)(rm:Nat→Nat)(m:Mem)(A:Option Addr)(c:Nat)(l:List Ent)(Q:Ou Un→Prop):Prop:=
 Pd.Ok E→
 Mem.Wf m→
 ∃J:Bool→Prop,(
  E.n=m.S∧
  l=E.ao∧
  (E.on m).has p=true∧
  split (!((E.on m).is p 0)) (
   J true) (
   E.n=m.S∧
   l=E.ao∧
   (0≤(0:Int)∧(1024:Int)≤1024)∧
   J ((E.on m).zero p 0 1024)))∧∀(JW:Nat→Value)(x3:Bool),J x3→
 Q ⟨(.bool x3),none,[],[],[]⟩
theorem vJ:Vc2 Un prog (aQ [(89,cp),(91,dO)]) [] Tryz.f90 (.r' (.two (.node [] (some ⟨[(3,(.one .bool))],[],upN 3 10,[]⟩) [] [] .leaf .leaf) .leaf)) [] gy=(∀p gb g r (E:Pd) rm (m:Mem) A c (l:List Ent),∀Q,(E.n=m.S∧l=E.ao∧(E.on m).has p=true∧Q ⟨(.bool ((E.on m).clause 2 p)),none,[],[],[]⟩)→vI p gb g r E rm m A c l Q):=by kernel_rfl
section
attribute [local grind=] DB.ve DB.is
theorem vH:LV Un prog 90 gy:=verify Tryz.func90 aa (tb:= [(89,cp),(91,dO)]) ⟨gr,lS,trivial⟩ (by kernel_rfl) (vJ.mpr fun p gb g r E rm m A c l Q h=>by
 obtain⟨I6,Ja,Jw,h⟩:=h
 subst Ja
 exact fun f1 f2=>bq ((!((E.on m).is p 0)) || ((E.on m).zero p 0 1024)) (af ‹_› fun s3=>af (by rfl) fun s4=>af ‹_› fun s5=>ae (fun c1=>(by grind)) fun c1=>af ‹_› fun s6=>af (by rfl) fun s7=>af (by omega) fun s8=>(by grind))<| bf h (by grind))
end
def gx:Ctr Un:=⟨[.one (.int .i64),.one (.ptr 0)],[],[.blk [.ptr 1] 122,.blk [.obj 2 0,.sl 4] 127,.ob 1 [(1,3,0)],.ob 0 [],.lst 4 false 59],[],fun p gb g r E rm m A c l K=>E.n=m.S∧l=E.ao∧(E.on m).has p=true∧K ⟨(.bool ((E.on m).clause 3 p)),none,[],[],[]⟩⟩
def vF(p:Int)(gb:Nat)(g:Nat)(r:Nat→Nat)(E:Pd)(rm:Nat→Nat)(m:Mem)(A:Option Addr)(c:Nat)(l:List Ent)(Q:Ou Un→Prop):Prop:=
 Pd.Ok E→
 Mem.Wf m→
 ∃J:Bool→Prop,(
  E.n=m.S∧
  l=E.ao∧
  (E.on m).has p=true∧
  split ((E.on m).is p 0) (
   J true) (
   E.n=m.S∧
   l=E.ao∧
   (E.on m).has p=true∧
   split ((E.on m).is p 1) (
    J true) (
    E.n=m.S∧
    l=E.ao∧
    (E.on m).has p=true∧
    J (decide (((E.on m).bR p)≥0)))))∧∀(JW:Nat→Value)(x3:Bool),J x3→
 Q ⟨(.bool x3),none,[],[],[]⟩
theorem vG:Vc2 Un prog (aQ [(89,cp),(93,eZ)]) [] Tryz.f92 (.r' (.two (.node [] (some ⟨[(3,(.one .bool))],[],upN 3 15,[]⟩) [] [] .leaf .leaf) .leaf)) [] gx=(∀p gb g r (E:Pd) rm (m:Mem) A c (l:List Ent),∀Q,(E.n=m.S∧l=E.ao∧(E.on m).has p=true∧Q ⟨(.bool ((E.on m).clause 3 p)),none,[],[],[]⟩)→vF p gb g r E rm m A c l Q):=by kernel_rfl
section
attribute [local grind=] DB.vd DB.is DB.bR
theorem vE:LV Un prog 92 gx:=verify Tryz.func92 aa (tb:= [(89,cp),(93,eZ)]) ⟨gr,pC,trivial⟩ (by kernel_rfl) (vG.mpr fun p gb g r E rm m A c l Q h=>by
 obtain⟨I6,Ja,Jw,h⟩:=h
 subst Ja
 exact fun f1 f2=>bq (((E.on m).is p 0) || (((E.on m).is p 1) || (decide ((((E.on m).bR p):Int)≥0)))) (af ‹_› fun s3=>af (by rfl) fun s4=>af ‹_› fun s5=>ae (fun c1=>(by grind)) fun c1=>af ‹_› fun s6=>af (by rfl) fun s7=>af ‹_› fun s8=>ae (fun c2=>(by grind)) fun c2=>af ‹_› fun s9=>af (by rfl) fun N5=>af ‹_› fun Ly=>(by grind))<| bf h (by grind))
end
def gw:Ctr Un:=⟨[.one (.int .i64),.one (.ptr 0)],[],[.blk [.ptr 1] 122,.blk [.obj 2 0,.sl 4] 127,.ob 1 [(1,3,0)],.ob 0 [],.lst 4 false 59],[],fun p gb g r E rm m A c l K=>E.n=m.S∧l=E.ao∧(E.on m).has p=true∧K ⟨(.bool ((E.on m).clause 4 p)),none,[],[],[]⟩⟩
def vC(p:Int)(gb:Nat)(g:Nat)(r:Nat→Nat)(E:Pd)(rm:Nat→Nat)(m:Mem)(A:Option Addr)(c:Nat)(l:List Ent)(Q:Ou Un→Prop):Prop:=
 Pd.Ok E→
 Mem.Wf m→
 ∃J:Bool→Prop,(
  E.n=m.S∧
  l=E.ao∧
  (E.on m).has p=true∧
  split (!((E.on m).is p 1)) (
   J true) (
   (0≤p∧p<(l.length:Int))∧
   E.n=m.S∧
   ∀(A1:Option Addr)(c1:Nat),
   ∀(l1:List I64),l1=own (E.on m) p→
   J ((l.getD p.toNat Ent.free).refs==(((own (E.on m) p).length):Int))))∧∀(JW:Nat→Value)(x3:Bool),J x3→
 Q ⟨(.bool x3),none,[],[],[]⟩
theorem vD:Vc2 Un prog (aQ [(89,cp),(95,qe)]) [] Tryz.f94 (.r' (.two (.node [] (some ⟨[(3,(.one .bool))],[],upN 3 23,[]⟩) [] [(0,[0]),(5,[0]),(8,[1]),(12,[4]),(13,[0]),(16,[1])] .leaf .leaf) .leaf)) [] gw=(∀p gb g r (E:Pd) rm (m:Mem) A c (l:List Ent),∀Q,(E.n=m.S∧l=E.ao∧(E.on m).has p=true∧Q ⟨(.bool ((E.on m).clause 4 p)),none,[],[],[]⟩)→vC p gb g r E rm m A c l Q):=by kernel_rfl
section
attribute [local grind=] DB.vc DB.is own DB.dM
theorem vB:LV Un prog 94 gw:=verify Tryz.func94 aa (tb:= [(89,cp),(95,qe)]) ⟨gr,Em,trivial⟩ (by kernel_rfl) (vD.mpr fun p gb g r E rm m A c l Q h=>by
 obtain⟨I6,Ja,Jw,h⟩:=h
 subst Ja
 exact fun f1 f2=>bq ((!((E.on m).is p 1)) || (((E.ao.getD p.toNat Ent.free).refs:Int)==((((own (E.on m) p).length):Nat):Int))) (af ‹_› fun s3=>af (by rfl) fun s4=>af ‹_› fun s5=>ae (fun c1=>(by grind)) fun c1=>af (by grind) fun s6=>af ‹_› fun s7 A1 c1 l1 J9=>(by grind))<| bf h (by grind))
end
def gu:Ctr Un:=⟨[.one (.int .i64),.one (.ptr 0)],[],[.blk [.ptr 1] 122,.blk [.obj 2 0,.sl 4] 127,.ob 1 [(1,3,0)],.ob 0 [],.lst 4 false 59],[],fun p gb g r E rm m A c l K=>E.n=m.S∧l=E.ao∧(E.on m).has p=true∧K ⟨(.bool ((E.on m).clause 12 p)),none,[],[],[]⟩⟩
def vz(p:Int)(gb:Nat)(g:Nat)(r:Nat→Nat)(E:Pd)(rm:Nat→Nat)(m:Mem)(A:Option Addr)(c:Nat)(l:List Ent)(Q:Ou Un→Prop):Prop:=
 Pd.Ok E→
 Mem.Wf m→
 ∃J:Bool→Prop,(
  E.n=m.S∧
  l=E.ao∧
  (E.on m).has p=true∧
  split (!((E.on m).is p 6)) (
   J true) (
   E.n=m.S∧
   l=E.ao∧
   (0≤(0:Int)∧(1024:Int)≤1024)∧
   J ((E.on m).zero p 0 1024)))∧∀(JW:Nat→Value)(x3:Bool),J x3→
 Q ⟨(.bool x3),none,[],[],[]⟩
theorem vA:Vc2 Un prog (aQ [(89,cp),(91,dO)]) [] Tryz.f103 (.r' (.two (.node [] (some ⟨[(3,(.one .bool))],[],upN 3 10,[]⟩) [] [] .leaf .leaf) .leaf)) [] gu=(∀p gb g r (E:Pd) rm (m:Mem) A c (l:List Ent),∀Q,(E.n=m.S∧l=E.ao∧(E.on m).has p=true∧Q ⟨(.bool ((E.on m).clause 12 p)),none,[],[],[]⟩)→vz p gb g r E rm m A c l Q):=by kernel_rfl
section
attribute [local grind=] DB.rA DB.is
theorem vy:LV Un prog 103 gu:=verify Tryz.func103 aa (tb:= [(89,cp),(91,dO)]) ⟨gr,lS,trivial⟩ (by kernel_rfl) (vA.mpr fun p gb g r E rm m A c l Q h=>by
 obtain⟨I6,Ja,Jw,h⟩:=h
 subst Ja
 exact fun f1 f2=>bq ((!((E.on m).is p 6)) || ((E.on m).zero p 0 1024)) (af ‹_› fun s3=>af (by rfl) fun s4=>af ‹_› fun s5=>ae (fun c1=>(by grind)) fun c1=>af ‹_› fun s6=>af (by rfl) fun s7=>af (by omega) fun s8=>(by grind))<| bf h (by grind))
end
def cz(g gb:Nat)(n:Int):Value:=
 if n=1 then .func (.func 88) #[] #[.pointer (some ⟨gb,0,none⟩)]
 else if n=2 then .func (.func 90) #[] #[.pointer (some ⟨gb,0,none⟩)]
 else if n=3 then .func (.func 92) #[] #[.pointer (some ⟨gb,0,none⟩)]
 else if n=4 then .func (.func 94) #[] #[.pointer (some ⟨gb,0,none⟩)]
 else if n=5 then .func (.func 96) #[.pointer (some ⟨g,0,none⟩)] #[]
 else if n=6 then .func (.func 97) #[.pointer (some ⟨g,0,none⟩)] #[]
 else if n=7 then .func (.func 98) #[.pointer (some ⟨g,0,none⟩)] #[]
 else if n=8 then .func (.func 99) #[.pointer (some ⟨g,0,none⟩)] #[]
 else if n=9 then .func (.func 100) #[.pointer (some ⟨g,0,none⟩)] #[]
 else if n=10 then .func (.func 101) #[.pointer (some ⟨g,0,none⟩)] #[]
 else if n=11 then .func (.func 102) #[.pointer (some ⟨g,0,none⟩)] #[]
 else .func (.func 103) #[] #[.pointer (some ⟨gb,0,none⟩)]
def jZ:Ctr Un:=⟨[.one (.ptr 0),.one (.int .i64)],[],[.blk [.obj 1 0,.sl 3] 127,.ob 1 [(1,2,0)],.ob 0 [],.lst 4 false 59],[],fun n g r E rm m A c l K=>E.n=m.S∧l=E.ao∧∀(gb:Nat)(v:Value),v=cz g gb n→K ⟨v,none,[],[(.blk gb [(.pointer (some (Addr.mk g 0 none)))] 122)],[(.c 4 0,.p (.loc 0 0))]⟩⟩
def AD(n:Int)(g:Nat)(r:Nat→Nat)(E:Pd)(rm:Nat→Nat)(m:Mem)(A:Option Addr)(c:Nat)(l:List Ent)(Q:Ou Un→Prop):Prop:=
 Pd.Ok E→
 Mem.Wf m→
 ∀(gv:Nat),
 ∀x6:Bool,x6=((n:Int)==1)→
 split x6 (
  ∃J:Value→Prop,(
   J (.func (.func 88) #[] #[(.pointer (some (Addr.mk gv 0 none)))]))∧∀(Ji:Nat→Value)(x4:Value),J x4→
  Q ⟨x4,none,[],[(.blk gv [(.pointer (some (Addr.mk g 0 none)))] 122)],[(.c 4 0,.p (.loc 0 0))]⟩) (
  ∀x9:Bool,x9=((n:Int)==2)→
  split x9 (
   ∃J:Value→Prop,(
    J (.func (.func 90) #[] #[(.pointer (some (Addr.mk gv 0 none)))]))∧∀(Ji:Nat→Value)(x4:Value),J x4→
   Q ⟨x4,none,[],[(.blk gv [(.pointer (some (Addr.mk g 0 none)))] 122)],[(.c 4 0,.p (.loc 0 0))]⟩) (
   ∀Jy:Bool,Jy=((n:Int)==3)→
   split Jy (
    ∃J:Value→Prop,(
     J (.func (.func 92) #[] #[(.pointer (some (Addr.mk gv 0 none)))]))∧∀(Ji:Nat→Value)(x4:Value),J x4→
    Q ⟨x4,none,[],[(.blk gv [(.pointer (some (Addr.mk g 0 none)))] 122)],[(.c 4 0,.p (.loc 0 0))]⟩) (
    ∀JD:Bool,JD=((n:Int)==4)→
    split JD (
     ∃J:Value→Prop,(
      J (.func (.func 94) #[] #[(.pointer (some (Addr.mk gv 0 none)))]))∧∀(Ji:Nat→Value)(x4:Value),J x4→
     Q ⟨x4,none,[],[(.blk gv [(.pointer (some (Addr.mk g 0 none)))] 122)],[(.c 4 0,.p (.loc 0 0))]⟩) (
     ∀La:Bool,La=((n:Int)==5)→
     split La (
      ∃J:Value→Prop,(
       J (.func (.func 96) #[(.pointer (some (Addr.mk g 0 none)))] #[]))∧∀(Ji:Nat→Value)(x4:Value),J x4→
      Q ⟨x4,none,[],[(.blk gv [(.pointer (some (Addr.mk g 0 none)))] 122)],[(.c 4 0,.p (.loc 0 0))]⟩) (
      ∀Jo:Bool,Jo=((n:Int)==6)→
      split Jo (
       ∃J:Value→Prop,(
        J (.func (.func 97) #[(.pointer (some (Addr.mk g 0 none)))] #[]))∧∀(Ji:Nat→Value)(x4:Value),J x4→
       Q ⟨x4,none,[],[(.blk gv [(.pointer (some (Addr.mk g 0 none)))] 122)],[(.c 4 0,.p (.loc 0 0))]⟩) (
       ∀Lh:Bool,Lh=((n:Int)==7)→
       split Lh (
        ∃J:Value→Prop,(
         J (.func (.func 98) #[(.pointer (some (Addr.mk g 0 none)))] #[]))∧∀(Ji:Nat→Value)(x4:Value),J x4→
        Q ⟨x4,none,[],[(.blk gv [(.pointer (some (Addr.mk g 0 none)))] 122)],[(.c 4 0,.p (.loc 0 0))]⟩) (
        ∀JK:Bool,JK=((n:Int)==8)→
        split JK (
         ∃J:Value→Prop,(
          J (.func (.func 99) #[(.pointer (some (Addr.mk g 0 none)))] #[]))∧∀(Ji:Nat→Value)(x4:Value),J x4→
         Q ⟨x4,none,[],[(.blk gv [(.pointer (some (Addr.mk g 0 none)))] 122)],[(.c 4 0,.p (.loc 0 0))]⟩) (
         ∀Po:Bool,Po=((n:Int)==9)→
         split Po (
          ∃J:Value→Prop,(
           J (.func (.func 100) #[(.pointer (some (Addr.mk g 0 none)))] #[]))∧∀(Ji:Nat→Value)(x4:Value),J x4→
          Q ⟨x4,none,[],[(.blk gv [(.pointer (some (Addr.mk g 0 none)))] 122)],[(.c 4 0,.p (.loc 0 0))]⟩) (
          ∀Rz:Bool,Rz=((n:Int)==10)→
          split Rz (
           ∃J:Value→Prop,(
            J (.func (.func 101) #[(.pointer (some (Addr.mk g 0 none)))] #[]))∧∀(Ji:Nat→Value)(x4:Value),J x4→
           Q ⟨x4,none,[],[(.blk gv [(.pointer (some (Addr.mk g 0 none)))] 122)],[(.c 4 0,.p (.loc 0 0))]⟩) (
           ∀Pn:Bool,Pn=((n:Int)==11)→
           split Pn (
            ∃J:Value→Prop,(
             J (.func (.func 102) #[(.pointer (some (Addr.mk g 0 none)))] #[]))∧∀(Ji:Nat→Value)(x4:Value),J x4→
            Q ⟨x4,none,[],[(.blk gv [(.pointer (some (Addr.mk g 0 none)))] 122)],[(.c 4 0,.p (.loc 0 0))]⟩) (
            ∃J:Value→Prop,(
             J (.func (.func 103) #[] #[(.pointer (some (Addr.mk gv 0 none)))]))∧∀(Ji:Nat→Value)(x4:Value),J x4→
            Q ⟨x4,none,[],[(.blk gv [(.pointer (some (Addr.mk g 0 none)))] 122)],[(.c 4 0,.p (.loc 0 0))]⟩)))))))))))
theorem AE:Vc2 Un prog (aQ []) [6,9,12,15,18,22,26,30,34,38,42] Tryz.f52 (.r' (.two (.r' (.two (.r' (.two (.two (.node [] (some ⟨[(4,(.one .val))],[],[4,8],[]⟩) [] [] .leaf .leaf) .leaf) (.r' (.two (.two (.node [] (some ⟨[(4,(.one .val))],[],[4,11],[]⟩) [] [] .leaf .leaf) .leaf) (.r' (.two (.two (.node [] (some ⟨[(4,(.one .val))],[],[4,14],[]⟩) [] [] .leaf .leaf) .leaf) (.r' (.two (.two (.node [] (some ⟨[(4,(.one .val))],[],[4,17],[]⟩) [] [] .leaf .leaf) .leaf) (.r' (.two (.two (.node [] (some ⟨[(4,(.one .val))],[],[4,20,21],[]⟩) [] [] .leaf .leaf) .leaf) (.r' (.two (.two (.node [] (some ⟨[(4,(.one .val))],[],[4,24,25],[]⟩) [] [] .leaf .leaf) .leaf) (.r' (.two (.two (.node [] (some ⟨[(4,(.one .val))],[],[4,28,29],[]⟩) [] [] .leaf .leaf) .leaf) (.r' (.two (.two (.node [] (some ⟨[(4,(.one .val))],[],[4,32,33],[]⟩) [] [] .leaf .leaf) .leaf) (.r' (.two (.two (.node [] (some ⟨[(4,(.one .val))],[],[4,36,37],[]⟩) [] [] .leaf .leaf) .leaf) (.r' (.two (.two (.node [] (some ⟨[(4,(.one .val))],[],[4,40,41],[]⟩) [] [] .leaf .leaf) .leaf) (.r' (.two (.two (.node [] (some ⟨[(4,(.one .val))],[],[4,44,45],[]⟩) [] [] .leaf .leaf) .leaf) .leaf)))))))))))))))))))))) .leaf)) (.two (.node [] (some ⟨[(4,(.one .val))],[],[4,46],[]⟩) [] [] .leaf .leaf) .leaf))) [4] jZ=(∀n g r (E:Pd) rm (m:Mem) A c (l:List Ent),∀Q,(E.n=m.S∧l=E.ao∧∀(gb:Nat)(v:Value),v=cz g gb n→Q ⟨v,none,[],[(.blk gb [(.pointer (some (Addr.mk g 0 none)))] 122)],[(.c 4 0,.p (.loc 0 0))]⟩)→AD n g r E rm m A c l Q):=by kernel_rfl
theorem AB:LV Un prog 52 jZ:=verify Tryz.func52 aa (tb:= []) trivial (by kernel_rfl) (AE.mpr fun n g r E rm m A c l Q h=>by
 obtain⟨I6,Ja,h⟩:=h
 subst Ja
 exact fun f1 f2 gv=>allEq<| aE (fun c1=>nE<| av (h gv (.func (.func 88) #[] #[(.pointer (some (Addr.mk gv 0 none)))]) (by simp [cz,c1])) rfl rfl (ab (congrArg (fun l=>Res.blk (U:=Un) _ l _) rfl) rfl)) fun c1=>allEq<| aE (fun c2=>nE<| av (h gv (.func (.func 90) #[] #[(.pointer (some (Addr.mk gv 0 none)))]) (by simp [cz,c1,c2])) rfl rfl (ab (congrArg (fun l=>Res.blk (U:=Un) _ l _) rfl) rfl)) fun c2=>allEq<| aE (fun c3=>nE<| av (h gv (.func (.func 92) #[] #[(.pointer (some (Addr.mk gv 0 none)))]) (by simp [cz,c1,c2,c3])) rfl rfl (ab (congrArg (fun l=>Res.blk (U:=Un) _ l _) rfl) rfl)) fun c3=>allEq<| aE (fun c4=>nE<| av (h gv (.func (.func 94) #[] #[(.pointer (some (Addr.mk gv 0 none)))]) (by simp [cz,c1,c2,c3,c4])) rfl rfl (ab (congrArg (fun l=>Res.blk (U:=Un) _ l _) rfl) rfl)) fun c4=>allEq<| aE (fun c5=>nE<| av (h gv (.func (.func 96) #[(.pointer (some (Addr.mk g 0 none)))] #[]) (by simp [cz,c1,c2,c3,c4,c5])) rfl rfl (ab (congrArg (fun l=>Res.blk (U:=Un) _ l _) rfl) rfl)) fun c5=>allEq<| aE (fun c6=>nE<| av (h gv (.func (.func 97) #[(.pointer (some (Addr.mk g 0 none)))] #[]) (by simp [cz,c1,c2,c3,c4,c5,c6])) rfl rfl (ab (congrArg (fun l=>Res.blk (U:=Un) _ l _) rfl) rfl)) fun c6=>allEq<| aE (fun c7=>nE<| av (h gv (.func (.func 98) #[(.pointer (some (Addr.mk g 0 none)))] #[]) (by simp [cz,c1,c2,c3,c4,c5,c6,c7])) rfl rfl (ab (congrArg (fun l=>Res.blk (U:=Un) _ l _) rfl) rfl)) fun c7=>allEq<| aE (fun c8=>nE<| av (h gv (.func (.func 99) #[(.pointer (some (Addr.mk g 0 none)))] #[]) (by simp [cz,c1,c2,c3,c4,c5,c6,c7,c8])) rfl rfl (ab (congrArg (fun l=>Res.blk (U:=Un) _ l _) rfl) rfl)) fun c8=>allEq<| aE (fun c9=>nE<| av (h gv (.func (.func 100) #[(.pointer (some (Addr.mk g 0 none)))] #[]) (by simp [cz,c1,c2,c3,c4,c5,c6,c7,c8,c9])) rfl rfl (ab (congrArg (fun l=>Res.blk (U:=Un) _ l _) rfl) rfl)) fun c9=>allEq<| aE (fun Mn=>nE<| av (h gv (.func (.func 101) #[(.pointer (some (Addr.mk g 0 none)))] #[]) (by simp [cz,c1,c2,c3,c4,c5,c6,c7,c8,c9,Mn])) rfl rfl (ab (congrArg (fun l=>Res.blk (U:=Un) _ l _) rfl) rfl)) fun Mn=>allEq<| aE (fun Ng=>nE<| av (h gv (.func (.func 102) #[(.pointer (some (Addr.mk g 0 none)))] #[]) (by simp [cz,c1,c2,c3,c4,c5,c6,c7,c8,c9,Mn,Ng])) rfl rfl (ab (congrArg (fun l=>Res.blk (U:=Un) _ l _) rfl) rfl)) fun Ng=>nE<| av (h gv (.func (.func 103) #[] #[(.pointer (some (Addr.mk gv 0 none)))]) (by simp [cz,c1,c2,c3,c4,c5,c6,c7,c8,c9,Mn,Ng])) rfl rfl (ab (congrArg (fun l=>Res.blk (U:=Un) _ l _) rfl) rfl))
def g9:Ctr Un:=⟨[.one (.obj 0 0)],[],[.ob 1 [(1,1,0)],.ob 0 []],[],fun r E rm m K=>E.n=m.S∧K ⟨(.tuple #[(.int .i64 ((E.on m).broken.1)),(.int .i64 ((E.on m).broken.2))]),(some (.t [none,none])),[],[],[]⟩⟩
def AG(r:Nat→Nat)(E:Pd)(rm:Nat→Nat)(m:Mem)(Q:Ou Un→Prop):Prop:=
 Pd.Ok E→
 Mem.Wf m→
 E.n=m.S∧
 ∀(gv:Nat)(A:Option Addr)(c:Nat),
 ∀(l:List Ent),l=E.ao→
 ∃I:Nat→Int→Int→Int→Prop,(∃m1,I m1 0 0 0)∧∀(m1:Nat)(Ji:Nat→Value)(number:Int)(ah:Int)(Jz:Int),I m1 number ah Jz→
 split (decide (Jz<12)) (
  E.n=m.S∧
  l=E.ao∧
  ∀(gb:Nat)(v:Value),
  v=cz gv gb (i64.wrap (Jz+1))→
  ∃I1:Nat→Int→Int→Int→Prop,(∃m3,I1 m3 number ah 0)∧∀(m3:Nat)(KH:Nat→Value)(number1:Int)(page1:Int)(Jo:Int),I1 m3 number1 page1 Jo→
  split (decide (Jo<(E.ao.length:Int))) (
   ∃b:Bool,(
    (v=(.func (.func 88) #[] #[(.pointer (some (Addr.mk gb 0 none)))])∧
     E.n=m.S∧
     l=E.ao∧
     (E.on m).has Jo=true∧
     ((.bool ((E.on m).clause 1 Jo)):Value)=(.bool b))∨
    (v=(.func (.func 90) #[] #[(.pointer (some (Addr.mk gb 0 none)))])∧
     E.n=m.S∧
     l=E.ao∧
     (E.on m).has Jo=true∧
     ((.bool ((E.on m).clause 2 Jo)):Value)=(.bool b))∨
    (v=(.func (.func 92) #[] #[(.pointer (some (Addr.mk gb 0 none)))])∧
     E.n=m.S∧
     l=E.ao∧
     (E.on m).has Jo=true∧
     ((.bool ((E.on m).clause 3 Jo)):Value)=(.bool b))∨
    (v=(.func (.func 94) #[] #[(.pointer (some (Addr.mk gb 0 none)))])∧
     E.n=m.S∧
     l=E.ao∧
     (E.on m).has Jo=true∧
     ((.bool ((E.on m).clause 4 Jo)):Value)=(.bool b))∨
    (v=(.func (.func 96) #[(.pointer (some (Addr.mk gv 0 none)))] #[])∧
     E.n=m.S∧
     l=E.ao∧
     (E.on m).has Jo=true∧
     ((.bool ((E.on m).clause 5 Jo)):Value)=(.bool b))∨
    (v=(.func (.func 97) #[(.pointer (some (Addr.mk gv 0 none)))] #[])∧
     E.n=m.S∧
     l=E.ao∧
     (E.on m).has Jo=true∧
     ((.bool ((E.on m).clause 6 Jo)):Value)=(.bool b))∨
    (v=(.func (.func 98) #[(.pointer (some (Addr.mk gv 0 none)))] #[])∧
     E.n=m.S∧
     l=E.ao∧
     (E.on m).has Jo=true∧
     ((.bool ((E.on m).clause 7 Jo)):Value)=(.bool b))∨
    (v=(.func (.func 99) #[(.pointer (some (Addr.mk gv 0 none)))] #[])∧
     E.n=m.S∧
     l=E.ao∧
     (E.on m).has Jo=true∧
     ((.bool ((E.on m).clause 8 Jo)):Value)=(.bool b))∨
    (v=(.func (.func 100) #[(.pointer (some (Addr.mk gv 0 none)))] #[])∧
     E.n=m.S∧
     l=E.ao∧
     (E.on m).has Jo=true∧
     ((.bool ((E.on m).clause 9 Jo)):Value)=(.bool b))∨
    (v=(.func (.func 101) #[(.pointer (some (Addr.mk gv 0 none)))] #[])∧
     E.n=m.S∧
     l=E.ao∧
     (E.on m).has Jo=true∧
     ((.bool ((E.on m).clause 10 Jo)):Value)=(.bool b))∨
    (v=(.func (.func 102) #[(.pointer (some (Addr.mk gv 0 none)))] #[])∧
     E.n=m.S∧
     l=E.ao∧
     (E.on m).has Jo=true∧
     ((.bool ((E.on m).clause 11 Jo)):Value)=(.bool b))∨
    (v=(.func (.func 103) #[] #[(.pointer (some (Addr.mk gb 0 none)))])∧
     E.n=m.S∧
     l=E.ao∧
     (E.on m).has Jo=true∧
     ((.bool ((E.on m).clause 12 Jo)):Value)=(.bool b)))∧
   split (!b) (
    Q ⟨(.tuple #[(.int .i64 (i64.wrap (Jz+1))),(.int .i64 Jo)]),(some (.t [none,none])),[],[],[]⟩) (
    ∃m4,m4<m3∧I1 m4 number1 page1 (i64.wrap (Jo+1)))) (
   ∃m2,m2<m1∧I m2 number1 page1 (i64.wrap (Jz+1)))) (
  Q ⟨(.tuple #[(.int .i64 number),(.int .i64 ah)]),(some (.t [none,none])),[],[],[]⟩)
theorem AH:Vc2 Un prog ⟨zE [(51,lU),(52,jZ),(88,gz),(90,gy),(92,gx),(94,gw),(96,j3),(97,lT),(98,lW),(99,lV),(100,nU),(101,jY),(102,jW),(103,gu)],.bool,[(88,[],[(.loc 4 0)]),(90,[],[(.loc 4 0)]),(92,[],[(.loc 4 0)]),(94,[],[(.loc 4 0)]),(96,[(.loc 2 0)],[]),(97,[(.loc 2 0)],[]),(98,[(.loc 2 0)],[]),(99,[(.loc 2 0)],[]),(100,[(.loc 2 0)],[]),(101,[(.loc 2 0)],[]),(102,[(.loc 2 0)],[]),(103,[],[(.loc 4 0)])]⟩ [] Tryz.f20 (.r' (.two (.r' (.r' (.two (.r' (.two (.node [] (some ⟨[(2,(.one (.int .i64))),(3,(.one (.int .i64))),(10,(.one (.int .i64)))],[],[2,3,5,6,7]++upN 10 24,[]⟩) [] [] (.r' (.r' (.two (.two (.r' (.r' (.r' (.two (.node [] (some ⟨[(2,(.one (.int .i64))),(3,(.one (.int .i64))),(22,(.one (.int .i64)))],[],[2,3,7]++upN 22 11,[]⟩) [] [] .leaf .leaf) .leaf)))) .leaf) .leaf))) .leaf) .leaf)) .leaf))) .leaf)) [] g9=(∀r (E:Pd) rm (m:Mem),∀Q,(g9.body r E rm m Q)→AG r E rm m Q):=by kernel_rfl
theorem AF:LV Un prog 20 g9:=verify Tryz.func20 aa (tb:= [(51,lU),(52,jZ),(88,gz),(90,gy),(92,gx),(94,gw),(96,j3),(97,lT),(98,lW),(99,lV),(100,nU),(101,jY),(102,jW),(103,gu)]) ⟨Fw,AB,vK,vH,vE,vB,AI,Dm,Dw,Dt,Fz,Ax,Au,vy,trivial⟩ (by kernel_rfl) (AH.mpr fun r E rm m Q h=>by
 obtain⟨I6,h⟩:=h
 exact fun f1 f2=>af ‹_› fun s3 gv A c l Lg=>⟨fun m1 number ah Jz=>(m1=(12 - Jz).toNat)∧(number=0∧ah=0)∧(0≤Jz∧Jz≤12)∧((E.on m).eO (13 - (Jz+1)).toNat (Jz+1)=(E.on m).broken),⟨_,rfl,(by omega),(by omega),(by rfl)⟩,fun m1 _ number ah Jz ⟨hm,hn,hc,hb⟩=>aB (fun c1=>af ‹_› fun s4=>af ‹_› fun s5 gb v f6=>(by(have hv:=(by assumption:v=cz gv gb (i64.wrap (Jz+1))));(rw [ak (x:=Jz+1) (by omega)]at hv);exact⟨fun m3 number1 page1 Jo=>(m3=((E.n:Int) - Jo).toNat)∧(number1=0∧page1=0)∧(0≤Jo∧Jo≤(E.n:Int))∧(fZ ((E.on m).clause (Jz+1)) 0 Jo=true),⟨_,rfl,‹_›,(by omega),(g7 (Int.le_refl _))⟩,fun m3 _ number1 page1 Jo ⟨hm,ON,PD,hz⟩=>aB (fun c2=>(by(have KQ:(E.on m).has Jo=true:=by grind);exact⟨((E.on m).clause (Jz+1) Jo),(by rcases(show Jz+1=1∨Jz+1=2∨Jz+1=3∨Jz+1=4∨Jz+1=5∨Jz+1=6∨Jz+1=7∨Jz+1=8∨Jz+1=9∨Jz+1=10∨Jz+1=11∨Jz+1=12 from by omega)with hk | hk | hk | hk | hk | hk | hk | hk | hk | hk | hk | hk<;>first | exact .inl ⟨by rw [hv,hk];rfl,I6,Lg,KQ,by rw [hk]⟩ | exact .inr (.inl ⟨by rw [hv,hk];rfl,I6,Lg,KQ,by rw [hk]⟩) | exact .inr (.inr (.inl ⟨by rw [hv,hk];rfl,I6,Lg,KQ,by rw [hk]⟩)) | exact .inr (.inr (.inr (.inl ⟨by rw [hv,hk];rfl,I6,Lg,KQ,by rw [hk]⟩))) | exact .inr (.inr (.inr (.inr (.inl ⟨by rw [hv,hk];rfl,I6,Lg,KQ,by rw [hk]⟩)))) | exact .inr (.inr (.inr (.inr (.inr (.inl ⟨by rw [hv,hk];rfl,I6,Lg,KQ,by rw [hk]⟩))))) | exact .inr (.inr (.inr (.inr (.inr (.inr (.inl ⟨by rw [hv,hk];rfl,I6,Lg,KQ,by rw [hk]⟩)))))) | exact .inr (.inr (.inr (.inr (.inr (.inr (.inr (.inl ⟨by rw [hv,hk];rfl,I6,Lg,KQ,by rw [hk]⟩))))))) | exact .inr (.inr (.inr (.inr (.inr (.inr (.inr (.inr (.inl ⟨by rw [hv,hk];rfl,I6,Lg,KQ,by rw [hk]⟩)))))))) | exact .inr (.inr (.inr (.inr (.inr (.inr (.inr (.inr (.inr (.inl ⟨by rw [hv,hk];rfl,I6,Lg,KQ,by rw [hk]⟩))))))))) | exact .inr (.inr (.inr (.inr (.inr (.inr (.inr (.inr (.inr (.inr (.inl ⟨by rw [hv,hk];rfl,I6,Lg,KQ,by rw [hk]⟩)))))))))) | exact .inr (.inr (.inr (.inr (.inr (.inr (.inr (.inr (.inr (.inr (.inr (⟨by rw [hv,hk];rfl,I6,Lg,KQ,by rw [hk]⟩)))))))))))),aY (fun c3=>av h (congrArg (fun l=>Value.tuple (List.toArray l)) (ab (aW (by(rw [ak (x:=Jz+1) (by omega),DB.pf ⟨by omega,by omega⟩ hb hz c3 ⟨PD.1,by grind⟩]))) (ab (aW (by(rw [DB.pf ⟨by omega,by omega⟩ hb hz c3 ⟨PD.1,by grind⟩]))) rfl))) rfl rfl) fun c3=>⟨_,(by(have h9:=ak (x:=Jo+1) (by grind));grind),rfl,‹_›,(by(have h9:=ak (x:=Jo+1) (by grind));grind),(eG hz (by grind) (ak (by grind)))⟩⟩)) fun c2=>⟨_,(by(have h8:=ak (x:=Jz+1) (by omega));omega),rfl,(ON),(by(have h8:=ak (x:=Jz+1) (by omega));omega),(by rw [ak (x:=Jz+1) (by omega)];exact DB.vj ⟨by omega,by omega⟩ hb (show Jo=((E.on m).S:Int)by grind) hz)⟩⟩)) fun c1=>av h (congrArg (fun l=>Value.tuple (List.toArray l)) (ab (aW (by rw [DB.ng (by omega) (by omega) hb];omega)) (ab (aW (by rw [DB.ng (by omega) (by omega) hb];omega)) rfl))) rfl rfl⟩)
end
section
set_option maxRecDepth 100000
def sd(d:Option Addr)(R:ax)(w:World):Prop:=
 ∃b:Nat→Nat→Prop,
 aq d fun p5=>
 b 3 ((p5.add 0).block)∧
 ∃x7:Option Addr,w.drew.cell? (p5.add 0)=some (.pointer x7)∧
 aq d fun SG=>
 b 8 ((SG.add 1).block)∧
 ∃Jy:Int,w.drew.cell? (SG.add 1)=some (.int .i64 Jy)∧
 aq d fun Pr=>
 b 12 ((Pr.add 2).block)∧
 ∃NO:Option Addr,∃Lv:Nat,∃NN:Nat,w.drew.cell? (Pr.add 2)=some (.slice NO Lv NN)∧
 (Calls prog 21 #[(.pointer x7)] w.drew fun e wv=>
  ∃x8:Option Addr,e= .returned (.pointer x8)∧
  Kept (cn b [0,5,6,7,8,9,10,11,12,13]) w.drew wv∧∃b1:Nat→Nat→Prop,(∀i k,b i k→b1 i k)∧
  ∃L9:Option Addr,∃L7:Nat,∃L8:Nat,∃I2,(Instr.makeSlice 64 (.int .i64 ((Lv:Nat):Int)) (.int .i64 ((Lv:Nat):Int)):Sem Value).run prog wv= .ok (.slice L9 L7 L8) I2∧
  Kept (cn b1 [0,1,2,3,4,5,6,7,8,9,10]) wv I2∧∃b2:Nat→Nat→Prop,(∀i k,b1 i k→b2 i k)∧
  ∀(gv:Nat)(I3:World),gv=I2.heap.size→I3=I2.alloc (.cells #[(.pointer x8),(.int .i64 Jy),(.slice L9 L7 L8)] 73)→
  Kept (cn b2 [0,1,2,5,6,9,10,11,12]) I2 I3∧∃b3:Nat→Nat→Prop,(∀i k,b2 i k→b3 i k)∧
  ∃b4:Nat→Nat→Prop,
  b4 3 (((Addr.mk gv 0 none).add 2).block)∧
  ∃K9:Option Addr,∃KV:Nat,∃K8:Nat,I3.drew.cell? ((Addr.mk gv 0 none).add 2)=some (.slice K9 KV K8)∧
  aq d fun Nl=>
  b4 7 ((Nl.add 2).block)∧
  ∃L4:Option Addr,∃LZ:Nat,∃L0:Nat,I3.drew.cell? (Nl.add 2)=some (.slice L4 LZ L0)∧
  ∃LY:Int,∃I5,(Builtin.copy_ #[64,64] 3 #[(.slice K9 KV K8),(.slice L4 LZ L0)]:Sem Value).run prog I3.drew= .ok (.int .i64 LY) I5∧
  Kept (cn b4 [0,4]) I3.drew I5∧∃b5:Nat→Nat→Prop,(∀i k,b4 i k→b5 i k)∧
  R (.pointer (some (Addr.mk gv 0 none))) I5)∧
 (∃L9:Option Addr,∃L7:Nat,∃L8:Nat,∃wv,(Instr.makeSlice 64 (.int .i64 ((Lv:Nat):Int)) (.int .i64 ((Lv:Nat):Int)):Sem Value).run prog w.drew= .ok (.slice L9 L7 L8) wv∧
  Kept (cn b [0,1,2,3,5,6,7,8,9,10]) w.drew wv∧∃b1:Nat→Nat→Prop,(∀i k,b i k→b1 i k)∧
  Calls prog 21 #[(.pointer x7)] wv fun e I2=>
  ∃x8:Option Addr,e= .returned (.pointer x8)∧
  Kept (cn b1 [0,5,6,7,8,9,10,11,12,13,14]) wv I2∧∃b2:Nat→Nat→Prop,(∀i k,b1 i k→b2 i k)∧
  ∀(gv:Nat)(I3:World),gv=I2.heap.size→I3=I2.alloc (.cells #[(.pointer x8),(.int .i64 Jy),(.slice L9 L7 L8)] 73)→
  Kept (cn b2 [0,1,2,5,6,9,10,11,12]) I2 I3∧∃b3:Nat→Nat→Prop,(∀i k,b2 i k→b3 i k)∧
  ∃b4:Nat→Nat→Prop,
  b4 3 (((Addr.mk gv 0 none).add 2).block)∧
  ∃K9:Option Addr,∃KV:Nat,∃K8:Nat,I3.drew.cell? ((Addr.mk gv 0 none).add 2)=some (.slice K9 KV K8)∧
  aq d fun Nl=>
  b4 7 ((Nl.add 2).block)∧
  ∃L4:Option Addr,∃LZ:Nat,∃L0:Nat,I3.drew.cell? (Nl.add 2)=some (.slice L4 LZ L0)∧
  ∃LY:Int,∃I5,(Builtin.copy_ #[64,64] 3 #[(.slice K9 KV K8),(.slice L4 LZ L0)]:Sem Value).run prog I3.drew= .ok (.int .i64 LY) I5∧
  Kept (cn b4 [0,4]) I3.drew I5∧∃b5:Nat→Nat→Prop,(∀i k,b4 i k→b5 i k)∧
  R (.pointer (some (Addr.mk gv 0 none))) I5)
def BI:Ann:= .leaf
theorem DClone_eq(d:Option Addr)(R:ax)(w:World):sd d R w=vcF prog aJ [] Tryz.f5 BI [(.pointer d)] R none w:=by kernel_rfl
theorem tO(d:Option Addr) {R:ax} {w:World}(h:sd d R w):Calls prog 5 #[(.pointer d)] w fun e w'=>∃v,e= .returned v∧R v w':=
 aj Tryz.func5 ar aa ((DClone_eq d R w).mp h)
end
end Go.Proofs.YtfgpafjlcgaimaaGreatDoor
namespace Go.Proofs.YtfgpafjlcgaimaaGreatDoor
open Go.Proofs.Tryz (prog)
open Go Go.RowKit V
open Go.IntKind (i64 u32 u64)
section
set_option maxRecDepth 10000
set_option maxHeartbeats 1000000
theorem DB.zY {m:Mem} {l:List U32}(h:l.length=1+2*m.S)(hb:¬DB.wd l 0>64):DB.bK m l=if(List.range m.S).all (DB.CJ m l)then 0 else 110:=by unfold DB.bK;rw [if_neg (by simpa using h),if_neg hb]
theorem DB.eW {m:Mem} {l:List U32}(h:l.length=1+2*m.S)(hb:¬DB.wd l 0>64) {p:Nat}(hp:p<m.S)(he:DB.CJ m l p=false):DB.bK m l=110:=by
 rw [zY h hb,if_neg]
 intro hh
 have:=List.all_eq_true.1 hh p (List.mem_range.2 hp)
 rw [he]at this;cases this
end
section
namespace V
section
variable {U:Uni}
theorem bn.Gd {rs:List (Res U)} {X:Nat→Nat→Prop} {w w':World} {Q:Ou U→Prop} {v:Value} {k:Option Kn} {Z:Nat→Prop} {r:Res U} {kc:List (Key×Kn)}(hs:Sat rs X w)(q:Pu w w')(hr:RS Z w' r)(hz:∀k,Z k→w.heap.size≤k)(hQ:Q ⟨v,k,[],[r],kc⟩)(hk:KnO (rs++ [r]) v k)
 (Om:∀key k,(key,k)∈kc→cW (rs++ [r]) fr0 key k):bn rs [] X w Q (.returned v) w':=by
 obtain⟨out,rs',X',h1,rfl,h3,h4⟩:=bn.more (Q:=fun o=>o=⟨v,k,[],[r],[]⟩) hs q hr hz rfl hk
 have h3:rs=rs':=by simpa [bh]using h3
 subst h3
 exact⟨⟨v,k,[],[r],kc⟩,rs,X',dG hk,hQ,rfl,⟨h4.sat,h4.ch,h4.same,h4.grow,h4.new,h4.kr,fun key k hm _=>Om key k hm⟩⟩
theorem bn.GV {t:Nat} {rm:Nat→Nat} {m m':U.ty t} {X:Nat→Nat→Prop} {w w':World} {Q:Ou U→Prop} {v:Value} {k:Option Kn} {Z0 Z1:Nat→Prop} {r:Res U} {kc:List (Key×Kn)}(q:Ch (X 0) w w')(hp:U.pred t rm m' Z0 w')(hz0:∀k,Z0 k→X 0 k∨w.heap.size≤k)(hr:RS Z1 w' r)(QC:∀k,Z1 k→w.heap.size≤k)(hd:∀k,Z0 k→¬Z1 k)
 (hQ:Q ⟨v,k,[.ob t m'],[r],kc⟩)(hk:KnO [.ob t rm m',r] v k)(Om:∀key k,(key,k)∈kc→cW [.ob t rm m',r] fr0 key k):bn [.ob t rm m] [0] X w Q (.returned v) w':=by
 refine⟨_,[.ob t rm m'],fun i=>if i=0 then Z0 else if i=1 then Z1 else X i,dG hk,hQ,by simp [bh,cq,nth,bt],⟨⟨fun i r' Jg=>?_,fun i j hi hj JI k J7 JH=>?_⟩,q.mono fun k hk=>⟨0,by simp,hk⟩,fun i hi hm=>?_,fun i hi k hk=>?_,fun i h1 h2 k hk=>?_,.inr hk,fun key k hm _=>Om key k hm⟩⟩
 ·match i with
  | 0=>simp only [List.cons_append,List.nil_append,nth,Option.some.injEq]at Jg;subst Jg;exact hp
  | 1=>simp only [List.cons_append,List.nil_append,nth,Option.some.injEq]at Jg;subst Jg;exact hr
  | i+2=>simp [nth]at Jg
 ·simp at hi hj
  match i,j,hi,hj,JI with
  | 0,1,_,_,_=>exact hd k J7 JH
  | 1,0,_,_,_=>exact hd k JH J7
  | 0,0,_,_,h=>exact h rfl
  | 1,1,_,_,h=>exact h rfl
 ·simp at hi hm;omega
 ·simp at hi;subst hi;exact hz0 k hk
 ·simp at h1 h2
  obtain rfl:i=1:=by omega
  exact QC k hk
theorem vk {rs rs':List (Res U)} {M:List Nat} {us:List (Upd U)}(h:bh rs M us=some rs'):rs'.length=rs.length:=(dX h).1
theorem nt.pack {rs rs':List (Res U)} {bd:List Nat} {X X':Nat→Nat→Prop} {w w':World} {v:Value} {k k':Option Kn} {us:List (Upd U)} {a b c:Res U} {kc kc':List (Key×Kn)}(h:nt rs bd X w ⟨v,k,us,[a,b],kc⟩ w' rs' X')(hl:rs'.length=rs.length) {Z:Nat→Prop}(hc:RS Z w' c)(hz:∀k,Z k→X' rs.length k∨X' (rs.length+1) k)
 (hk:KnO (rs'++ [c]) v k')(Om:∀key k,(key,k)∈kc'→cW (rs'++ [c]) fr0 key k):nt rs bd X w ⟨v,k',us,[c],kc'⟩ w' rs' (fun i=>if i=rs.length then Z else X' i):=by
 refine⟨⟨fun i r hr=>?_,fun i j hi hj JI k J7 JH=>?_⟩,h.ch,fun i hi hm=>?_,fun i hi k hk=>?_,fun i h1 h2 k hk=>?_,.inr hk,fun key k hm _=>Om key k hm⟩
 ·by_cases hi:i<rs'.length
  ·rw [aU,if_pos hi]at hr
   simp only [if_neg (show ¬i=rs.length by omega)]
   exact h.sat.res i r (by rw [aU,if_pos hi];exact hr)
  ·have h1:=aP hr
   simp at h1
   obtain rfl:i=rs'.length:=by omega
   rw [aU,if_neg (by omega),Nat.sub_self]at hr
   obtain rfl:c=r:=by simpa [nth]using hr
   simpa [hl]using hc
 ·simp at hi hj
  have Mo:∀j,j<rs'.length→Z k→¬X' j k:=fun j hj hZ hX=>by
   rcases hz k hZ with h1 | h1
   ·exact h.sat.dis rs.length j (by simp;omega) (by simp;omega) (by omega) k h1 hX
   ·exact h.sat.dis (rs.length+1) j (by simp;omega) (by simp;omega) (by omega) k h1 hX
  by_cases h1:i=rs.length
  ·have h2:¬j=rs.length:=by omega
   simp only [h1,if_true,if_neg h2]at J7 JH
   exact Mo j (by omega) J7 JH
  ·simp only [if_neg h1]at J7
   by_cases h2:j=rs.length
   ·simp only [h2,if_true]at JH
    exact Mo i (by omega) JH J7
   ·simp only [if_neg h2]at JH
    exact h.sat.dis i j (by simp;omega) (by simp;omega) JI k J7 JH
 ·simp only [if_neg (show ¬i=rs.length by omega)];exact h.same i hi hm
 ·by_cases h1:i=rs.length
  ·simp only [h1,if_true]at hk
   rcases hz k hk with h2 | h2
   ·exact .inr (h.new rs.length (by omega) (by simp) k h2)
   ·exact .inr (h.new (rs.length+1) (by omega) (by simp) k h2)
  ·simp only [if_neg h1]at hk;exact h.grow i hi k hk
 ·simp at h2
  obtain rfl:i=rs.length:=by omega
  simp only [if_true]at hk
  rcases hz k hk with h2 | h2
  ·exact h.new rs.length (by omega) (by simp) k h2
  ·exact h.new (rs.length+1) (by omega) (by simp) k h2
theorem bn.pack {rs rs':List (Res U)} {bd:List Nat} {X X':Nat→Nat→Prop} {w w':World} {Q:Ou U→Prop} {v:Value} {k k':Option Kn} {us:List (Upd U)} {a b c:Res U} {kc kc':List (Key×Kn)}(J8:bh rs bd us=some rs')(h:nt rs bd X w ⟨v,k,us,[a,b],kc⟩ w' rs' X') {Z:Nat→Prop}(hc:RS Z w' c)(hz:∀k,Z k→X' rs.length k∨X' (rs.length+1) k)
 (hQ:Q ⟨v,k',us,[c],kc'⟩)(hk:KnO (rs'++ [c]) v k')(Om:∀key k,(key,k)∈kc'→cW (rs'++ [c]) fr0 key k):bn rs bd X w Q (.returned v) w':=
 ⟨_,rs',_,dG hk,hQ,J8,h.pack (vk J8) hc hz hk Om⟩
theorem KnO.pair {rs:List (Res U)} {a b:Value} {p:PK}(h:den U rs p=some a):KnO rs (.tuple #[a,b]) (some (.t [some p,none])):=
 ⟨_,rfl,fun j k hj=>by
  match j,hj with
  | 0,hj=>simp only [nth,Option.some.injEq]at hj;subst hj;exact⟨a,rfl,h⟩
  | 1,hj=>simp [nth]at hj
  | j+2,hj=>simp [nth]at hj⟩
theorem xu {rs:List (Res U)} {fr:Fr} {key:Key} {k:Kn}(h:cW rs fr key k):∀key' k',(key',k')∈ [(key,k)]→cW rs fr key' k':=fun key' k' hm=>by
 simp only [List.mem_singleton,Prod.mk.injEq]at hm
 obtain⟨rfl,rfl⟩:=hm
 exact h
theorem bn.G7 {a a':Res U} {rest:List (Res U)} {u:Upd U} {X:Nat→Nat→Prop} {w w':World} {Q:Ou U→Prop} {v:Value} {k:Option Kn} {Z:Nat→Prop}(hs:Sat (a::rest) X w)(q:Ch (X 0) w w')(hu:cq a u=some a')(hp:RS Z w' a')(hz:∀k,Z k→X 0 k∨w.heap.size≤k)(hQ:Q ⟨v,k,[u],[],[]⟩)(hk:KnO (a'::rest) v k):bn (a::rest) [0] X w Q (.returned v) w':=by
 refine⟨_,a'::rest,fun i=>if i=0 then Z else X i,dG hk,hQ,by simp [bh,hu,nth,bt],⟨⟨fun i r hr=>?_,fun i j hi hj JI k J7 JH=>?_⟩,q.mono fun k hk=>⟨0,by simp,hk⟩,fun i hi hm=>?_,fun i hi k hk=>?_,fun i h1 h2=>by simp at h1 h2;omega,.inr (by simpa using hk),fun _ k hk=>by cases hk⟩⟩
 ·rw [List.append_nil]at hr
  match i with
  | 0=>simp only [nth,Option.some.injEq]at hr;subst hr;exact hp
  | i+1=>exact(hs.res (i+1) r hr).ch q fun k hk h0=>hs.dis 0 (i+1) (by simp) (aP hr) (by omega) k h0 hk
 ·simp at hi hj
  have key:∀j,j<rest.length+1→j≠0→Z k→X j k→False:=fun j hj h0 hZ hX=>by
   rcases hz k hZ with h | h
   ·exact hs.dis 0 j (by simp) (by simpa using hj) (by omega) k h hX
   ·have:=hs.lt (i:=j) (by simpa using hj) k hX;omega
  by_cases h1:i=0
  ·have h2:¬j=0:=by omega
   simp only [h1,if_true,if_neg h2]at J7 JH
   exact key j hj h2 J7 JH
  ·simp only [if_neg h1]at J7
   by_cases h2:j=0
   ·simp only [h2,if_true]at JH
    exact key i hi h1 JH J7
   ·simp only [if_neg h2]at JH
    exact hs.dis i j (by simpa using hi) (by simpa using hj) JI k J7 JH
 ·simp at hm;simp only [if_neg hm]
 ·simp at hi;subst hi;exact hz k hk
theorem bn.first {t:Nat} {r:Nat→Nat} {s s':U.ty t} {rest:List (Res U)} {X:Nat→Nat→Prop} {w w':World} {Q:Ou U→Prop} {v:Value} {k:Option Kn} {Z:Nat→Prop}(hs:Sat (.ob t r s::rest) X w)(q:Ch (X 0) w w')(hp:U.pred t r s' Z w')(hz:∀k,Z k→X 0 k∨w.heap.size≤k)(hQ:Q ⟨v,k,[.ob t s'],[],[]⟩)(hk:KnO (.ob t r s'::rest) v k):bn (.ob t r s::rest) [0] X w Q (.returned v) w':=
 bn.G7 (a':= .ob t r s') hs q (by simp [cq]) hp hz hQ hk
end
end V
theorem GL {g c mg:Nat} {A:Option Addr} {E:Pd} {Y Z:Nat→Prop} {w:World}(hb:RS (U:=Un) Y w (.blk g [.pointer (some (Addr.mk mg 0 none)),.slice A E.ao.length c,.int .i64 E.au] 119))(hl:RS (U:=Un) Z w (.lst 4 true 159 A c E.ao))(hd:∀k,Y k→¬Z k)(hn:1≤E.n)(ok:E.Ok):
 ∃e,RS (U:=Un) (fun k=>k=g∨k=e) w (.ob 3 (fun i=>if i=0 then g else if i=1 then mg else if i=2 then e else c) E)∧Z e:=by
 obtain⟨hY,hY2,hb⟩:=hb
 obtain⟨ho,_⟩: @Own Ent _ w Z 159 A E.ao.length c E.ao∧∀k,Z k→k<w.heap.size:=hl
 rw [Pd.cg]at ho hb
 obtain⟨e,rfl,hZ,Jt⟩:=ho.lt hn
 have he:e≠g:=fun h=>hd g hY (h▸hZ)
 refine⟨e,(⟨fun k=>Iff.rfl,⟨⟨_,hb⟩,?_,ok,he,hn⟩⟩:cT 3 (fun i=>if i=0 then g else if i=1 then mg else if i=2 then e else c) E (fun k=>k=g∨k=e) w),hZ⟩
 exact⟨⟨ho.own.1,fun a ha=>by injection ha with ha;rw [← ha]⟩,ho.len⟩
end
end Go.Proofs.YtfgpafjlcgaimaaGreatDoor
namespace Go.Proofs.YtfgpafjlcgaimaaGreatDoor
open Go.Proofs.Tryz (prog)
open Go Go.RowKit V
open Go.IntKind (i64 u32 u64)
section
set_option maxRecDepth 100000
set_option maxHeartbeats 1000000
attribute [local irreducible] Vc2 VcD
def xY:Ctr Un:=⟨[.one (.int .i64),.one (.int .i64)],[],[],[],fun s i K=>((1≤(s:Int)∧(s:Int)≤64)∧(1≤(i:Int)∧(i:Int)≤64))∧∀(rN:Nat→Nat),K ⟨(.tuple #[(.pointer (some (Addr.mk (rN 0) 0 none))),(.int .i64 0)]),(some (.t [(some (.obj 0 0 0)),none])),[],[(.ob 0 rN (Mem.fresh s.toNat i.toNat))],[]⟩⟩
theorem HC:LV Un prog 31 xY:=by
 show ∀(s:Int)(i:Int),∀Q:Ou Un→Prop,(((1≤(s:Int)∧(s:Int)≤64)∧(1≤(i:Int)∧(i:Int)≤64))∧∀(rN:Nat→Nat),Q ⟨(.tuple #[(.pointer (some (Addr.mk (rN 0) 0 none))),(.int .i64 0)]),(some (.t [(some (.obj 0 0 0)),none])),[],[(.ob 0 rN (Mem.fresh s.toNat i.toNat))],[]⟩)→∀(X:Nat→Nat→Prop)(w:World),Sat (U:=Un) [] X w→aw (U:=Un) [] fr0 []→Calls prog 31 #[(.int .i64 s),(.int .i64 i)] w (bn (U:=Un) [] [] X w Q)
 intro s i Q hQ X w hs hl
 obtain⟨⟨h1,h2⟩,hQ⟩:=hQ
 refine(IM s i h1 h2).mono ?_
 rintro e w' ⟨u,rfl,L,rfl,hM,hf,q⟩
 exact bn.Gd (Z:=L.X) hs q (show RS (U:=Un) L.X w' (.ob 0 (fun _=>L.g) (Mem.fresh s.toNat i.toNat))from(⟨L,rfl,fun _=>Iff.rfl,hM⟩:cT 0 (fun _=>L.g) (Mem.fresh s.toNat i.toNat) L.X w')) hf (hQ (fun _=>L.g)) (KnO.pair rfl) (fun _ _ h=>by cases h)
def pR:Ctr Un:=⟨[.one (.int .i64),.one (.int .i64)],[],[],[],fun s i K=>((1≤(s:Int)∧(s:Int)≤64)∧(1≤(i:Int)∧(i:Int)≤64))∧∀(rN:Nat→Nat),K ⟨(.tuple #[(.pointer (some (Addr.mk (rN 0) 0 none))),(.int .i64 0)]),(some (.t [(some (.obj 0 0 0)),none])),[],[(.ob 2 rN (Mem.fresh s.toNat i.toNat))],[]⟩⟩
theorem DJ:LV Un prog 34 pR:=by
 show ∀(s:Int)(i:Int),∀Q:Ou Un→Prop,(((1≤(s:Int)∧(s:Int)≤64)∧(1≤(i:Int)∧(i:Int)≤64))∧∀(rN:Nat→Nat),Q ⟨(.tuple #[(.pointer (some (Addr.mk (rN 0) 0 none))),(.int .i64 0)]),(some (.t [(some (.obj 0 0 0)),none])),[],[(.ob 2 rN (Mem.fresh s.toNat i.toNat))],[]⟩)→∀(X:Nat→Nat→Prop)(w:World),Sat (U:=Un) [] X w→aw (U:=Un) [] fr0 []→Calls prog 34 #[(.int .i64 s),(.int .i64 i)] w (bn (U:=Un) [] [] X w Q)
 intro s i Q hQ X w hs hl
 obtain⟨⟨h1,h2⟩,hQ⟩:=hQ
 refine(GQ s i h1 h2).mono ?_
 rintro e w' ⟨u,rfl,g,L,rfl,hM,hf,q⟩
 exact bn.Gd (Z:=L.X) hs q (show RS (U:=Un) L.X w' (.ob 2 (fun _=>g) (Mem.fresh s.toNat i.toNat))from(⟨L,fun _=>Iff.rfl,hM⟩:cT 2 (fun _=>g) (Mem.fresh s.toNat i.toNat) L.X w')) hf (hQ (fun _=>g)) (KnO.pair rfl) (fun _ _ h=>by cases h)
def yl:Ctr Un:=⟨[.one (.obj 0 0)],[],[.ob 0 []],[0],fun rm m K=>1≤m.S∧∀(rN:Nat→Nat),K ⟨(.pointer (some (Addr.mk (rN 0) 0 none))),(some (.p (.obj 1 0 0))),[.ob 0 (m.bL m.S)],[(.ob 1 rN ((DB.new m).pd))],[(.l 1 1,.p (.obj 0 0 0))]⟩⟩
theorem HE:LV Un prog 33 yl:=by
 show ∀(rm:Nat→Nat)(m:Mem),∀Q:Ou Un→Prop,(1≤m.S∧∀(rN:Nat→Nat),Q ⟨(.pointer (some (Addr.mk (rN 0) 0 none))),(some (.p (.obj 1 0 0))),[.ob 0 (m.bL m.S)],[(.ob 1 rN ((DB.new m).pd))],[(.l 1 1,.p (.obj 0 0 0))]⟩)→∀(X:Nat→Nat→Prop)(w:World),Sat (U:=Un) [(.ob 0 rm m)] X w→aw (U:=Un) [(.ob 0 rm m)] fr0 []→Calls prog 33 #[(.pointer (some (Addr.mk (rm 0) 0 none)))] w (bn (U:=Un) [(.ob 0 rm m)] [0] X w Q)
 intro rm m Q hQ X w hs hl
 obtain⟨hS,hQ⟩:=hQ
 obtain⟨L,hg,hM,hX⟩:=oO hs
 rw [hg]
 refine(IW hM hS).mono ?_
 rintro e w' ⟨u,rfl,g,a,rfl,VL,hD,⟨PI,Np⟩,q⟩
 have Jt:∀k,L.X k→k<w.heap.size:=hM.lt
 exact bn.GV (k:=some (.p (.obj 1 0 0))) (kc:= [(.l 1 1,.p (.obj 0 0 0))]) (Z0:=X 0) (Z1:=fun k=>k=g∨k=a) (q.mono fun k hk=>(hX k).1 hk) (show cT 0 rm (m.bL m.S) (X 0) w' from⟨L,hg,hX,VL⟩) (fun k hk=>.inl hk) (show RS (U:=Un) (fun k=>k=g∨k=a) w' (.ob 1 (fun i=>if i=0 then g else L.g) (DB.new m).pd)from(⟨a,fun k=>Iff.rfl,hD.pd⟩:cT 1 (fun i=>if i=0 then g else L.g) (DB.new m).pd (fun k=>k=g∨k=a) w'))
  (fun k hk=>by rcases hk with rfl | rfl;exact PI;exact Np) (fun k hk JH=>by have:=Jt k ((hX k).2 hk);rcases JH with rfl | rfl<;>omega) (hQ (fun i=>if i=0 then g else L.g)) rfl (xu ⟨_,_,_,rfl,show some (Value.pointer (some ⟨rm 0,0,none⟩))=some (.pointer (some ⟨L.g,0,none⟩))by rw [hg]⟩)
end
section
set_option maxRecDepth 100000
set_option maxHeartbeats 1000000
attribute [local irreducible] Vc2 VcD
attribute [local grind=] Pd.cg Pd.bI Pd.gD Pd.gS Pd.eU Pd.dR Pd.ek Pd.eI Pd.j6 Pd.oJ
attribute [local grind .] Pd.Ok.ent
attribute [local grind→] Pd.Ok.cF
def jB:Ctr Un:=⟨[.one (.obj 0 0)],[],[.ob 2 []],[],fun rm m K=>K ⟨(.int .i64 (m.S:Int)),none,[],[],[]⟩⟩
theorem vT:LV Un prog 68 jB:=by
 show ∀(rm:Nat→Nat)(m:Mem),∀Q:Ou Un→Prop,(Q ⟨(.int .i64 (m.S:Int)),none,[],[],[]⟩)→∀(X:Nat→Nat→Prop)(w:World),Sat (U:=Un) [(.ob 2 rm m)] X w→aw (U:=Un) [(.ob 2 rm m)] fr0 []→Calls prog 68 #[(.pointer (some (Addr.mk (rm 0) 0 none)))] w (bn (U:=Un) [(.ob 2 rm m)] [] X w Q)
 intro rm m Q hQ X w hs hl
 obtain⟨L,hX,hM⟩:=(hs.res 0 _ rfl:cT 2 rm m (X 0) w)
 refine(zR hM).mono ?_
 rintro e w' ⟨u,rfl,rfl,q⟩
 subst q
 exact bn.pu hs (Ch.refl _ _) hQ trivial
def mM:Ctr Un:=⟨[.one (.obj 0 0)],[],[.ob 2 []],[0],fun rm m K=>∀(g:Nat)(A1:Option Addr)(c1:Nat),K ⟨(.pointer (some (Addr.mk g 0 none))),(some (.p (.loc 1 0))),[.ob 2 (m.bL m.S)],[(.blk g [(.pointer (some (Addr.mk (rm 0) 0 none))),(.slice A1 ((List.replicate m.S Ent.free).length) c1),(.int .i64 0)] 119),(.lst 4 true 159 A1 c1 (List.replicate m.S Ent.free))],[(.c 1 0,.p (.obj 0 0 0)),(.c 1 1,.p (.sl 2 0))]⟩⟩
def A5(rm:Nat→Nat)(m:Mem)(Q:Ou Un→Prop):Prop:=
 Mem.Wf m→
 (some (.pointer (some (Addr.mk (rm 0) 0 none))):Option Value)=some (.pointer (some (Addr.mk (rm 0) 0 none)))∧
 ∀(gv:Nat),
 ∀p:Int,p=0→
 ∃I:Nat→Int→Mem→Int→Option Addr→Nat→List Ent→Prop,(∃m1,I m1 p m 0 none 0 ([]:List Ent))∧∀(m1:Nat)(Ji:Nat→Value)(p1:Int)(s0:Mem)(Mr:Int)(A2:Option Addr)(c2:Nat)(l2:List Ent),I m1 p1 s0 Mr A2 c2 l2→
 Mem.Wf s0→
 split (decide (p1<s0.S)) (
  ∀(m3:Mem),m3=(s0.zero true p1)→
  Mem.Wf m3→
  ∀(KU:Nat),
  ∀(l:List Ent),l=([Ent.mk 0 0 0 0 false]:List Ent)→
  ((l2.length+l.length)*40≤140737488355328)∧
  ∀(A:Option Addr)(c:Nat),
  ∀(l1:List Ent),l1=(l2++l)→
  ∀p2:Int,p2=(i64.wrap (p1+1))→
  ∃m2,m2<m1∧I m2 p2 m3 Mr A c l1) (
  Q ⟨(.pointer (some (Addr.mk gv 0 none))),(some (.p (.loc 1 0))),[.ob 2 s0],[(.blk gv [(.pointer (some (Addr.mk (rm 0) 0 none))),(.slice A2 l2.length c2),(.int .i64 Mr)] 119),(.lst 4 true 159 A2 c2 l2)],[(.c 1 0,.p (.obj 0 0 0)),(.c 1 1,.p (.sl 2 0))]⟩)
theorem A6:Vc2 Un prog (aQ [(68,jB),(70,dS),(69,mN)]) [4] Tryz.f35 (.r' (.r' (.r' (.two (.r' (.two (.node [(.c 1 1,4,159)] (some ⟨[(4,(.one (.int .i64)))],[],[4]++upN 10 20,[(0,(.ob 2)),(1,(.blk [(.k (.obj 0 0 0)),(.k (.sl 2 0)),(.v (.int .i64))])),(2,(.lst 4))]⟩) [] [] .leaf .leaf) .leaf)) .leaf)))) [1,2] mM=(∀rm (m:Mem),∀Q,(mM.body rm m Q)→A5 rm m Q):=by kernel_rfl
theorem AZ:LV Un prog 35 mM:=verify Tryz.func35 aa (tb:= [(68,jB),(70,dS),(69,mN)]) ⟨vT,pM,A7,trivial⟩ (by kernel_rfl) (A6.mpr fun rm m Q h f1=>(by have hS:=f1.2.1;exact af (by rfl) fun s2 gv=>allEq<| ⟨fun m1 p1 s0 Mr A2 c2 l2=>(m1=((m.S:Int) - p1).toNat)∧(0≤p1∧p1≤(m.S:Int))∧(s0=m.bL p1.toNat)∧(Mr=0)∧(l2=List.replicate p1.toNat Ent.free),⟨_,rfl,(by omega),(by rfl),(by rfl),(by rfl)⟩,fun m1 _ p1 s0 Mr A2 c2 l2 ⟨hm,hi,hs,hy,hl⟩=>(by(have hsS:s0.S=m.S:=by rw [hs,Mem.ir]);exact fun f3=>aB (fun c1 m3 Jj f4 KU l Lg=>af (by rw [Lg,hl];simp;omega) fun s5 A c l1 J9=>allEq<| ⟨_,(by rw [ak (x:=p1+1) (by omega)];omega),rfl,(by rw [ak (x:=p1+1) (by omega)];omega),(by rw [Jj,hs,Mem.nV _ (by omega)]),(hy),(by rw [J9,Lg,hl,ak (x:=p1+1) (by omega),show(p1+1).toNat=p1.toNat+1 by omega,List.replicate_succ'])⟩) fun c1=>(by(have Nn:List.replicate m.S Ent.free=l2:=by rw [hl,show p1.toNat=m.S by omega]);(have hm3:m.bL m.S=s0:=by rw [hs,show p1.toNat=m.S by omega]);exact av (h gv A2 c2) rfl (ab (uO2 ‹_›) rfl) (ab (congrArg (fun l=>Res.blk (U:=Un) _ l _) (ab rfl (ab (by grind) (ab (aW (by omega)) rfl)))) (ab (congrArg (Res.lst (U:=Un) 4 true 159 _ _) ‹_›) rfl))))⟩))
end
section
set_option maxRecDepth 100000
set_option maxHeartbeats 1000000
attribute [local irreducible] Vc2 VcD
theorem DB.uz(m:Mem):(DB.new m).pd.ao=List.replicate m.S Ent.free:=by
 show(List.range (DB.new m).S).map (fun _=>Ent.free)=_
 rw [DB.uA,List.map_const',List.length_range]
theorem DB.GX {m:Mem}(h:1≤m.S)(hS:m.S≤64):(DB.new m).pd.Ok:=⟨(DB.sH m h).ent,(DB.sH m h).au,by show(DB.new m).S≤64;rw [DB.uA];exact hS⟩
def pL:Ctr Un:=⟨[.one (.obj 0 0)],[],[.ob 2 []],[0],fun rm m K=>1≤m.S∧∀(rN:Nat→Nat),K ⟨(.pointer (some (Addr.mk (rN 0) 0 none))),(some (.p (.obj 1 0 0))),[.ob 2 (m.bL m.S)],[(.ob 3 rN ((DB.new m).pd))],[(.l 1 1,.p (.obj 0 0 0))]⟩⟩
theorem DI:LV Un prog 35 pL:=by
 show ∀(rm:Nat→Nat)(m:Mem),∀Q:Ou Un→Prop,(1≤m.S∧∀(rN:Nat→Nat),Q ⟨(.pointer (some (Addr.mk (rN 0) 0 none))),(some (.p (.obj 1 0 0))),[.ob 2 (m.bL m.S)],[(.ob 3 rN ((DB.new m).pd))],[(.l 1 1,.p (.obj 0 0 0))]⟩)→∀(X:Nat→Nat→Prop)(w:World),Sat (U:=Un) [(.ob 2 rm m)] X w→aw (U:=Un) [(.ob 2 rm m)] fr0 []→Calls prog 35 #[(.pointer (some (Addr.mk (rm 0) 0 none)))] w (bn (U:=Un) [(.ob 2 rm m)] [0] X w Q)
 intro rm m Q hQ X w hs hl
 obtain⟨hS,hQ⟩:=hQ
 have hwf:Mem.Wf m:=Hp (t:=2) (r:=rm) (s:=m) (hs.res 0 _ rfl)
 have h1:=AZ rm m (fun o=>∃(g:Nat)(A1:Option Addr)(c1:Nat),o=⟨(.pointer (some (Addr.mk g 0 none))),(some (.p (.loc 1 0))),[.ob 2 (m.bL m.S)],[(.blk g [(.pointer (some (Addr.mk (rm 0) 0 none))),(.slice A1 ((List.replicate m.S Ent.free).length) c1),(.int .i64 0)] 119),(.lst 4 true 159 A1 c1 (List.replicate m.S Ent.free))],[(.c 1 0,.p (.obj 0 0 0)),(.c 1 1,.p (.sl 2 0))]⟩) (fun g A1 c1=>⟨g,A1,c1,rfl⟩) X w hs hl
 refine h1.mono ?_
 rintro e w' ⟨out,rs',X',rfl,⟨g,A1,c1,rfl⟩,J8,hp⟩
 change bh [Res.ob 2 rm m] [0] [.ob 2 (m.bL m.S)]=some rs' at J8
 have Tw: [Res.ob (U:=Un) 2 rm (m.bL m.S)]=rs':=by simpa [bh,cq,nth,bt]using J8
 subst Tw
 have PI:RS (U:=Un) (X' 1) w' (.blk g [.pointer (some (Addr.mk (rm 0) 0 none)),.slice A1 (DB.new m).pd.ao.length c1,.int .i64 (DB.new m).pd.au] 119):=by rw [DB.uz];exact hp.sat.res 1 _ rfl
 have Np:RS (U:=Un) (X' 2) w' (.lst 4 true 159 A1 c1 (DB.new m).pd.ao):=by rw [DB.uz];exact hp.sat.res 2 _ rfl
 obtain⟨e,hob,hZ⟩:=GL (E:=(DB.new m).pd) PI Np (hp.sat.dis 1 2 (by simp) (by simp) (by omega)) (by show 1≤(DB.new m).S;rw [DB.uA];exact hS) (DB.GX hS hwf.2.1)
 exact bn.pack (k':=some (.p (.obj 1 0 0))) (kc':= [(.l 1 1,.p (.obj 0 0 0))]) J8 hp hob (fun k hk=>hk.elim (fun e=>.inl (e▸PI.1)) (fun e=>.inr (e▸hZ))) (hQ (fun i=>if i=0 then g else if i=1 then rm 0 else if i=2 then e else c1)) rfl (xu ⟨_,_,_,rfl,rfl⟩)
end
section
set_option maxRecDepth 100000
set_option maxHeartbeats 1000000
attribute [local irreducible] Vc2 VcD
def cC:Ctr Un:=⟨[.one (.int .i64)],[],[],[],fun n K=>K ⟨(.int .i64 n),none,[],[],[]⟩⟩
def D5(n:Int)(Q:Ou Un→Prop):Prop:=
 Q ⟨(.int .i64 n),none,[],[],[]⟩
theorem D6:Vc2 Un prog (aQ []) [] Tryz.f9 .leaf [] cC=(∀n,∀Q,(cC.body n Q)→D5 n Q):=by kernel_rfl
theorem jE:LV Un prog 9 cC:=verify Tryz.func9 aa (tb:= []) trivial (by kernel_rfl) (D6.mpr fun n Q h=>h)
def du:Ctr Un:=⟨[.one (.int .i64)],[],[],[],fun p K=>K ⟨(.agg #[(.bool true),(.int .i64 p)]),none,[],[],[]⟩⟩
def wx(p:Int)(Q:Ou Un→Prop):Prop:=
 ∀(gv:Nat),
 Q ⟨(.agg #[(.bool true),(.int .i64 p)]),none,[],[],[]⟩
theorem wy:Vc2 Un prog (aQ []) [] Tryz.f14 .leaf [] du=(∀p,∀Q,(du.body p Q)→wx p Q):=by kernel_rfl
theorem nu:LV Un prog 14 du:=verify Tryz.func14 aa (tb:= []) trivial (by kernel_rfl) (wy.mpr fun p Q h gv=>h)
def ig:Ctr Un:=⟨[.one (.int .i64)],[],[],[],fun n K=>K ⟨(.int .i64 (sz n)),none,[],[],[]⟩⟩
def Bq(n:Int)(Q:Ou Un→Prop):Prop:=
 Q ⟨(.int .i64 (i64.wrap (((i64.wrap ((n.tmod 8)+8)).tmod 8)+1))),none,[],[],[]⟩
theorem Br:Vc2 Un prog (aQ []) [] Tryz.f32 .leaf [] ig=(∀n,∀Q,(ig.body n Q)→Bq n Q):=by kernel_rfl
theorem Bp:LV Un prog 32 ig:=verify Tryz.func32 aa (tb:= []) trivial (by kernel_rfl) (Br.mpr fun n Q h=>eo h (by have h1:=Int.lt_tmod_of_pos n (show(0:Int)<8 by decide);have h2:=Int.tmod_lt_of_pos n (show(0:Int)<8 by decide);have h3:=Int.tmod_lt_of_pos (Int.tmod n 8+8) (show(0:Int)<8 by decide);have h4:=Int.tmod_nonneg (a:=Int.tmod n 8+8) 8 (by omega);unfold sz;rw [ak (x:=Int.tmod n 8+8) (by omega),ak (by omega)]))
def dU:Ctr Un:=⟨[.one (.ptr 0),.one (.int .i64),.one (.int .i64),.one (.int .u32)],[],[.blk [.obj 2 0,.obj 1 0,.obj 3 0] 30,.ob 1 [(1,2,0)],.ob 0 [],.ob 3 [(1,4,0)],.ob 2 []],[2,4],fun p off v g r E rm m r2 F N6 m2 K=>(0≤(v:Int)∧(v:Int)<4294967296)∧K ⟨(.bool (decide (m.err true p off=m2.err true p off))),none,[.ob 0 (m.write true p off v),.ob 2 (m2.write true p off v)],[],[]⟩⟩
def ya(p:Int)(off:Int)(v:Int)(g:Nat)(r:Nat→Nat)(E:Pd)(rm:Nat→Nat)(m:Mem)(r2:Nat→Nat)(F:Pd)(N6:Nat→Nat)(m2:Mem)(Q:Ou Un→Prop):Prop:=
 Pd.Ok E→
 Mem.Wf m→
 Pd.Ok F→
 Mem.Wf m2→
 (0≤v∧v<4294967296)∧
 ∀(m1:Mem),m1=(m.write true p off v)→
 Mem.Wf m1→
 (0≤v∧v<4294967296)∧
 ∀(m3:Mem),m3=(m2.write true p off v)→
 Mem.Wf m3→
 Q ⟨(.bool ((m.err true p off)==(m2.err true p off))),none,[.ob 0 m1,.ob 2 m3],[],[]⟩
theorem yb:Vc2 Un prog (aQ [(14,du),(15,jC),(50,fT),(9,cC)]) [] Tryz.f19 (.r' (.two (.node [] none [] [(3,[0])] .leaf .leaf) .leaf)) [] dU=(∀p off v g r (E:Pd) rm (m:Mem) r2 (F:Pd) N6 (m2:Mem),∀Q,(dU.body p off v g r E rm m r2 F N6 m2 Q)→ya p off v g r E rm m r2 F N6 m2 Q):=by kernel_rfl
theorem qb:LV Un prog 19 dU:=verify Tryz.func19 aa (tb:= [(14,du),(15,jC),(50,fT),(9,cC)]) ⟨nu,v7,pO,jE,trivial⟩ (by kernel_rfl) (yb.mpr fun p off v g r E rm m r2 F N6 m2 Q h=>by
 obtain⟨I6,h⟩:=h
 exact fun f1 f2 f3 f4=>af ‹_› fun s5 m1 I9 f6=>af ‹_› fun s7 m3 Jj f8=>av h (eQb (by grind)) (ab (uO0 (by grind)) (ab (uO2 (by grind)) rfl)) rfl)
def fV:Ctr Un:=⟨[.one (.int .i64),.one (.int .i64)],[],[],[],fun n i K=>∀(g:Nat)(rP:Nat→Nat)(rN:Nat→Nat)(rQ:Nat→Nat)(rM:Nat→Nat),K ⟨(.pointer (some (Addr.mk g 0 none))),(some (.p (.loc 0 0))),[],[(.blk g [(.pointer (some (Addr.mk (rN 0) 0 none))),(.pointer (some (Addr.mk (rP 0) 0 none))),(.pointer (some (Addr.mk (rQ 0) 0 none)))] 30),(.ob 1 rP ((DB.begun n i).pd)),(.ob 0 rN ((DB.begun n i).mem)),(.ob 3 rQ ((DB.begun n i).pd)),(.ob 2 rM ((DB.begun n i).mem))],[(.c 0 0,.p (.obj 2 0 0)),(.c 0 1,.p (.obj 1 0 0)),(.c 0 2,.p (.obj 3 0 0)),(.l 3 1,.p (.obj 4 0 0)),(.l 1 1,.p (.obj 2 0 0))]⟩⟩
def yd(n:Int)(i:Int)(Q:Ou Un→Prop):Prop:=
 ((1≤(sz n)∧(sz n)≤64)∧(1≤(sz i)∧(sz i)≤64))∧
 ∀(rN:Nat→Nat),
 ∀(m:Mem),m=(Mem.fresh (sz n).toNat (sz i).toNat)→
 Mem.Wf m→
 ∃J:Bool→Prop,(
  J false)∧∀(JW:Nat→Value)(ND:Bool),J ND→
 split ND (
  Q ⟨(.pointer none),none,[],[],[]⟩) (
  1≤m.S∧
  ∀(Pp:Nat→Nat),
  ∀(m1:Mem),m1=(m.bL m.S)→
  Mem.Wf m1→
  ∀(E:Pd),E=(DB.new m).pd→
  Pd.Ok E→
  ((1≤(sz n)∧(sz n)≤64)∧(1≤(sz i)∧(sz i)≤64))∧
  ∀(UJ:Nat→Nat),
  ∀(m2:Mem),m2=(Mem.fresh (sz n).toNat (sz i).toNat)→
  Mem.Wf m2→
  1≤m2.S∧
  ∀(Qz:Nat→Nat),
  ∀(m3:Mem),m3=(m2.bL m2.S)→
  Mem.Wf m3→
  ∀(E1:Pd),E1=(DB.new m2).pd→
  Pd.Ok E1→
  (some (.pointer (some (Addr.mk (rN 0) 0 none))):Option Value)=some (.pointer (some (Addr.mk (rN 0) 0 none)))∧
  (some (.pointer (some (Addr.mk (Pp 0) 0 none))):Option Value)=some (.pointer (some (Addr.mk (Pp 0) 0 none)))∧
  (some (.pointer (some (Addr.mk (Qz 0) 0 none))):Option Value)=some (.pointer (some (Addr.mk (Qz 0) 0 none)))∧
  ∀(I8:Nat),
  Q ⟨(.pointer (some (Addr.mk I8 0 none))),(some (.p (.loc 0 0))),[],[(.blk I8 [(.pointer (some (Addr.mk (rN 0) 0 none))),(.pointer (some (Addr.mk (Pp 0) 0 none))),(.pointer (some (Addr.mk (Qz 0) 0 none)))] 30),(.ob 1 Pp E),(.ob 0 rN m1),(.ob 3 Qz E1),(.ob 2 UJ m3)],[(.c 0 0,.p (.obj 2 0 0)),(.c 0 1,.p (.obj 1 0 0)),(.c 0 2,.p (.obj 3 0 0)),(.l 3 1,.p (.obj 4 0 0)),(.l 1 1,.p (.obj 2 0 0))]⟩)
theorem ye:Vc2 Un prog (aQ [(32,ig),(31,xY),(9,cC),(33,yl),(34,pR),(35,pL)]) [] Tryz.f17 (.r' (.r' (.two (.two (.node [] (some ⟨[(24,(.one .bool))],[],upN 18 7,[]⟩) [] [] .leaf .leaf) .leaf) .leaf))) [1000000,4,1,0,3,2] fV=(∀n i,∀Q,(fV.body n i Q)→yd n i Q):=by kernel_rfl
theorem yc:LV Un prog 17 fV:=verify Tryz.func17 aa (tb:= [(32,ig),(31,xY),(9,cC),(33,yl),(34,pR),(35,pL)]) ⟨Bp,HC,jE,HE,DJ,DI,trivial⟩ (by kernel_rfl) (ye.mpr fun n i Q h=>by
 have QC:=BZ n
 have SH:=BZ i
 exact af (by omega) fun s1 rN m Qq f2=>bq false ((by grind))<| iB<| af (by subst_vars;show 1≤(sz n).toNat;omega) fun s3 Pp m1 I9 f4 E Qr f5=>af (by omega) fun s6 UJ m2 Ke f7=>af (by subst_vars;show 1≤(sz n).toNat;omega) fun s8 Qz m3 Jj f9 E1 Jn f10=>af (by rfl) fun Ly=>af (by rfl) fun OH=>af (by rfl) fun Nj I8=>av (h I8 Pp rN Qz UJ) rfl rfl (ab (congrArg (fun l=>Res.blk (U:=Un) _ l _) rfl) (ab (rO1 (by subst_vars;rfl)) (ab (rO0 (by subst_vars;rfl)) (ab (rO3 (by subst_vars;rfl)) (ab (rO2 (by subst_vars;rfl)) rfl))))))
def jF:Ctr Un:=⟨[.one (.ptr 0),.agg [.int .i64,.int .i64,.int .i64,.int .i64,.int .u32,.any]],[],[.blk [.obj 2 0,.obj 1 0,.obj 3 0] 30,.ob 1 [(1,2,0)],.ob 0 [],.ob 3 [(1,4,0)],.ob 2 []],[1,2,3,4],fun k a b c v ws g r E rm m r2 F N6 m2 K=>(k=1∨k=2∨k=5∨k=7)∧E.n=m.S∧E=F∧m=m2∧(0≤(v:Int)∧(v:Int)<4294967296)∧1≤m.S∧K ⟨(.bool true),none,[.ob 1 (((E.on m).act k a b c v).pd),.ob 0 (((E.on m).act k a b c v).mem),.ob 3 (((E.on m).act k a b c v).pd),.ob 2 (((E.on m).act k a b c v).mem)],[],[]⟩⟩
def D8(k:Int)(a:Int)(b:Int)(c:Int)(v:Int)(ws:Value)(g:Nat)(r:Nat→Nat)(E:Pd)(rm:Nat→Nat)(m:Mem)(r2:Nat→Nat)(F:Pd)(N6:Nat→Nat)(m2:Mem)(Q:Ou Un→Prop):Prop:=
 Pd.Ok E→
 Mem.Wf m→
 Pd.Ok F→
 Mem.Wf m2→
 ∀(gv:Nat),
 ∀x7:Bool,x7=((k:Int)==1)→
 split x7 (
  E.n=m.S∧
  ∀(E1:Pd),E1=((E.on m).ay a b).pd→
  Pd.Ok E1→
  ∀(m1:Mem),m1=((E.on m).ay a b).mem→
  Mem.Wf m1→
  F.n=m2.S∧
  ∀(E2:Pd),E2=((F.on m2).ay a b).pd→
  Pd.Ok E2→
  ∀(m3:Mem),m3=((F.on m2).ay a b).mem→
  Mem.Wf m3→
  Q ⟨(.bool (((E.on m).aR a b)==((F.on m2).aR a b))),none,[.ob 1 E1,.ob 0 m1,.ob 3 E2,.ob 2 m3],[],[]⟩) (
  ∀LY:Bool,LY=((k:Int)==2)→
  split LY (
   E.n=m.S∧
   ∀(E1:Pd),E1=((E.on m).take a b c).pd→
   Pd.Ok E1→
   ∀(m1:Mem),m1=((E.on m).take a b c).mem→
   Mem.Wf m1→
   F.n=m2.S∧
   ∀(E2:Pd),E2=((F.on m2).take a b c).pd→
   Pd.Ok E2→
   ∀(m3:Mem),m3=((F.on m2).take a b c).mem→
   Mem.Wf m3→
   Q ⟨(.bool (((E.on m).bY a b c)==((F.on m2).bY a b c))),none,[.ob 1 E1,.ob 0 m1,.ob 3 E2,.ob 2 m3],[],[]⟩) (
   ∀Pl:Bool,Pl=((k:Int)==3)→
   split Pl (
    False) (
    ∀QZ:Bool,QZ=((k:Int)==4)→
    split QZ (
     False) (
     ∀x95:Bool,x95=((k:Int)==5)→
     split x95 (
      E.n=m.S∧
      ∀(E1:Pd),E1=((E.on m).setState a b).pd→
      Pd.Ok E1→
      ∀(m1:Mem),m1=((E.on m).setState a b).mem→
      Mem.Wf m1→
      F.n=m2.S∧
      ∀(E2:Pd),E2=((F.on m2).setState a b).pd→
      Pd.Ok E2→
      ∀(m3:Mem),m3=((F.on m2).setState a b).mem→
      Mem.Wf m3→
      Q ⟨(.bool (((E.on m).bj a b)==((F.on m2).bj a b))),none,[.ob 1 E1,.ob 0 m1,.ob 3 E2,.ob 2 m3],[],[]⟩) (
      ∀SA:Bool,SA=((k:Int)==6)→
      split SA (
       False) (
       ∀Sx:Bool,Sx=((k:Int)==7)→
       split Sx (
        (0≤v∧v<4294967296)∧
        ∀(m1:Mem),m1=(m.write true a b v)→
        Mem.Wf m1→
        ∀(m3:Mem),m3=(m2.write true a b v)→
        Mem.Wf m3→
        Q ⟨(.bool (decide (m.err true a b=m2.err true a b))),none,[.ob 1 E,.ob 0 m1,.ob 3 F,.ob 2 m3],[],[]⟩) (
        ∀Su:Bool,Su=((k:Int)==8)→
        split Su (
         False) (
         ∀Ss:Bool,Ss=((k:Int)==9)→
         split Ss (
          False) (
          Q ⟨(.bool true),none,[.ob 1 E,.ob 0 m,.ob 3 F,.ob 2 m2],[],[]⟩)))))))))
theorem D9:Vc2 Un prog (aQ [(36,iW),(9,cC),(37,dt),(38,tI),(39,ia),(44,jJ),(45,dJ),(19,dU)]) [7,29,55,77,95,117,143,153,158] Tryz.f18 (.r' (.two (.r' (.two (.r' (.two (.two (.node [] none [] [(3,[0]),(5,[5]),(7,[5]),(13,[0]),(15,[5]),(17,[5])] .leaf .leaf) .leaf) (.r' (.two (.two (.node [] none [] [(3,[0]),(5,[5]),(7,[5]),(9,[5]),(15,[0]),(17,[5]),(19,[5]),(21,[5])] .leaf .leaf) .leaf) (.r' (.two (.two (.node [] none [] [(3,[0]),(5,[5]),(7,[5]),(13,[0]),(15,[5]),(17,[5])] .leaf .leaf) .leaf) (.r' (.two (.two (.node [] none [] [(3,[0]),(5,[5]),(11,[0]),(13,[5])] .leaf .leaf) .leaf) (.r' (.two (.two (.node [] none [] [(3,[0]),(5,[5]),(7,[5]),(13,[0]),(15,[5]),(17,[5])] .leaf .leaf) .leaf) (.r' (.two (.two (.node [] none [] [(3,[0]),(5,[5]),(7,[5]),(15,[0]),(17,[5]),(19,[5])] .leaf .leaf) .leaf) .leaf)))))))))))) .leaf)) .leaf)) [] jF=(∀k a b c v ws g r (E:Pd) rm (m:Mem) r2 (F:Pd) N6 (m2:Mem),∀Q,(jF.body k a b c v ws g r E rm m r2 F N6 m2 Q)→D8 k a b c v ws g r E rm m r2 F N6 m2 Q):=by kernel_rfl
theorem D7:LV Un prog 18 jF:=verify Tryz.func18 aa (tb:= [(36,iW),(9,cC),(37,dt),(38,tI),(39,ia),(44,jJ),(45,dJ),(19,dU)]) ⟨tJ,jE,pH,F3,AW,wF,qx,qb,trivial⟩ (by kernel_rfl) (D9.mpr fun k a b c v ws g r E rm m r2 F N6 m2 Q h=>by
 obtain⟨I6,Ja,Jw,P5,Pz,hp5,h⟩:=h
 subst Jw
 subst P5
 exact fun f1 f2 f3 f4 gv=>allEq<| aE (fun c1=>af ‹_› fun s5 E1 Jn f6 m1 I9 f7=>af ‹_› fun s8 E2 JA f9 m3 Jj f10=>av h (eQb (by(simp [c1,Jn,I9,JA,Jj,DB.act];done))) (ab (uO1 (by(simp [c1,Jn,I9,JA,Jj,DB.act];done))) (ab (uO0 (by(simp [c1,Jn,I9,JA,Jj,DB.act];done))) (ab (uO3 (by(simp [c1,Jn,I9,JA,Jj,DB.act];done))) (ab (uO2 (by(simp [c1,Jn,I9,JA,Jj,DB.act];done))) rfl)))) rfl) fun c1=>allEq<| aE (fun c2=>af ‹_› fun Ly E1 Jn f12 m1 I9 f13=>af ‹_› fun OG E2 JA f15 m3 Jj f16=>av h (eQb (by(simp [c1,c2,Jn,I9,JA,Jj,DB.act];done))) (ab (uO1 (by(simp [c1,c2,Jn,I9,JA,Jj,DB.act];done))) (ab (uO0 (by(simp [c1,c2,Jn,I9,JA,Jj,DB.act];done))) (ab (uO3 (by(simp [c1,c2,Jn,I9,JA,Jj,DB.act];done))) (ab (uO2 (by(simp [c1,c2,Jn,I9,JA,Jj,DB.act];done))) rfl)))) rfl) fun c2=>allEq<| aE (fun c3=>(by exfalso;omega)) fun c3=>allEq<| aE (fun c4=>(by exfalso;omega)) fun c4=>allEq<| aE (fun c5=>af ‹_› fun TT E1 Jn f18 m1 I9 f19=>af ‹_› fun s20 E2 JA f21 m3 Jj f22=>av h (eQb (by(simp [c1,c2,c3,c4,c5,Jn,I9,JA,Jj,DB.act];done))) (ab (uO1 (by(simp [c1,c2,c3,c4,c5,Jn,I9,JA,Jj,DB.act];done))) (ab (uO0 (by(simp [c1,c2,c3,c4,c5,Jn,I9,JA,Jj,DB.act];done))) (ab (uO3 (by(simp [c1,c2,c3,c4,c5,Jn,I9,JA,Jj,DB.act];done))) (ab (uO2 (by(simp [c1,c2,c3,c4,c5,Jn,I9,JA,Jj,DB.act];done))) rfl)))) rfl) fun c5=>allEq<| aE (fun c6=>(by exfalso;omega)) fun c6=>allEq<| aE (fun c7=>af ‹_› fun TS m1 I9 f24 m3 Jj f25=>av h (eQb (by(simp [c1,c2,c3,c4,c5,c6,c7,I9,Jj,DB.act];done))) (ab (uO1 (by(simp [c1,c2,c3,c4,c5,c6,c7,I9,Jj,DB.act,DB.tS,DB.se,Pd.dR,Pd.eU _ _ Ja];done))) (ab (uO0 (by(simp [c1,c2,c3,c4,c5,c6,c7,I9,Jj,DB.act,DB.tS,DB.se,Pd.dR,Pd.eU _ _ Ja];done))) (ab (uO3 (by(simp [c1,c2,c3,c4,c5,c6,c7,I9,Jj,DB.act,DB.tS,DB.se,Pd.dR,Pd.eU _ _ Ja];done))) (ab (uO2 (by(simp [c1,c2,c3,c4,c5,c6,c7,I9,Jj,DB.act,DB.tS,DB.se,Pd.dR,Pd.eU _ _ Ja];done))) rfl)))) rfl) fun c7=>allEq<| aE (fun c8=>(by exfalso;omega)) fun c8=>allEq<| aE (fun c9=>(by exfalso;omega)) fun c9=>av h (eQb (by(exfalso;omega))) (ab (uO1 (by(exfalso;omega))) (ab (uO0 (by(exfalso;omega))) (ab (uO3 (by(exfalso;omega))) (ab (uO2 (by(exfalso;omega))) rfl)))) rfl)
end
end Go.Proofs.YtfgpafjlcgaimaaGreatDoor
