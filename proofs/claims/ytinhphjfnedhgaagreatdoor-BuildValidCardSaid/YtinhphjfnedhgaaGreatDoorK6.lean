/- Chapter 17, BuildValid: behind every call of every script the state is valid. -/
import Derived.Test.YtinhphjfnedhgaaGreatDoorK5
import Derived.KernelRfl
import Derived.Test.YtinhphjfnedhgaaGreatDoorRows
import Derived.LaidHandle
import Derived.LaidLaws
import Derived.Carry
import Derived.Test.YtinhphjfnedhgaaGreatDoorTie
import Derived.Test.YtinhphjfnedhgaaGreatDoorCards
import Derived.SevenTiedAt
set_option linter.unusedVariables false
set_option linter.unusedSimpArgs false
namespace Go.Proofs.YtinhphjfnedhgaaGreatDoor
open Go.Proofs.Tryz (prog)
open Go Go.RowKit V
open Go.IntKind (i64 u32 u64)
theorem Dr {f:Int→Bool} {a:Int}:∀(m:Nat),0≤a→a<(m:Int)→f a=true→dM f m=dM (fun x=>f x && x !=a) m+1
 | 0,h0,h1,_=>by omega
 | m+1,h0,h1,hf=>by
  have e:((m+1:Nat):Int)=(m:Int)+1:=by omega
  rw [e,et (by omega),et (by omega)]
  by_cases ha:a=m
  ·have h2:dM (fun x=>f x && x !=a) m=dM f m:=te fun x _ h3=>by rw [show(x !=a)=true by rw [bne_iff_ne];omega,Bool.and_true]
   rw [h2,← ha,hf]
   simp
  ·rw [Dr m h0 (by omega) hf,show((m:Int) !=a)=true by rw [bne_iff_ne];omega,Bool.and_true]
   omega
theorem oG {f:Int→Bool} {n a:Int}(ha:0≤a∧a<n)(hf:f a=true)(h:∀x,0≤x→x<n→x≠a→f x=false):dM f n=1:=by
 obtain⟨m,rfl⟩:=Int.eq_ofNat_of_zero_le (show 0≤n by omega)
 rw [Dr m ha.1 ha.2 hf,j2]
 ·rfl
 ·intro x h1 h2
  by_cases hx:x=a
  ·simp [hx]
  ·rw [h x h1 h2 hx];rfl
theorem CM {g:Nat→Int} {a:Nat}:∀ {n:Nat},a<n→g a=1→(∀q,q<n→q≠a→g q=0)→((List.range n).map g).sum=1
 | 0,h,_,_=>by omega
 | n+1,h,h1,hz=>by
  rw [List.range_succ,List.map_append,List.sum_append]
  by_cases e:a=n
  ·subst e
   have h0:((List.range a).map g).sum=0:=by
    have:∀m,m≤a→((List.range m).map g).sum=0:=by
     intro m
     induction m with
     | zero=>intro _;rfl
     | succ m ih=>
      intro hm
      rw [List.range_succ,List.map_append,List.sum_append,ih (by omega)]
      simp [hz m (by omega) (by omega)]
    exact this a (Nat.le_refl _)
   rw [h0];simp [h1]
  ·rw [CM (by omega) h1 (fun q hq=>hz q (by omega))]
   simp [hz n (by omega) (by omega)]
namespace DB
theorem wJ {D:DB} {c:Int}(h1:1≤c)(h2:c≤13)(h:∀c',1≤c'→c'<c→D.pW c'=true):D.gF (13 - c).toNat c=D.broken:=by
 obtain⟨n,rfl⟩:∃n:Nat,c=1+(n:Int):=⟨(c - 1).toNat,by omega⟩
 induction n with
 | zero=>rfl
 | succ n ih=>
  rw [← ih (by omega) (by omega) (fun c' a b=>h c' a (by omega)),show(13 - (1+(n:Int))).toNat=(13 - (1+((n+1:Nat):Int))).toNat+1 by omega]
  show _=if D.pW (1+(n:Int))then _ else _
  rw [if_pos (h _ (by omega) (by omega)),show 1+(n:Int)+1=1+((n+1:Nat):Int)by omega]
theorem EB {D:DB}(h:∀c,1≤c→c≤12→D.pW c=true):D.broken=(0,0):=by
 rw [← wJ (c:=13) (by omega) (by omega) fun c a b=>h c a (by omega)];rfl
structure Tbl(d:DB):Prop where
 fst:∀x,d.is x 1=true→(d.at_ x).state≠3→d.of (d.word x 0) 3 x=true∧∀q,d.of q 3 x=true→q=d.word x 0
 nz:∀x p,d.is x 1=true→(d.at_ x).state≠3→d.of p 3 x=true→∀o,256≤o→d.word p o=0
 nms:∀x p,d.is x 1=true→(d.at_ x).state≠3→d.of p 3 x=true→∀i,0≤i→i<256→d.word p i=0∨(iP (d.word p i)=0∧d.of (aH (d.word p i)) 4 x=true)
 all:∀x p q,d.is x 1=true→(d.at_ x).state≠3→d.of p 3 x=true→d.of q 4 x=true→∃i,(0≤i∧i<256)∧d.word p i≠0∧aH (d.word p i)=q
 once:∀x p i j,d.is x 1=true→(d.at_ x).state≠3→d.of p 3 x=true→(0≤i∧i<256)→(0≤j∧j<256)→d.word p i≠0→d.word p j≠0→aH (d.word p i)=aH (d.word p j)→i=j
 mps:∀x p,d.is x 1=true→(d.at_ x).state≠3→d.of p 4 x=true→∀j,0≤j→j<1024→d.kY p j=true
 hit:∀x p,d.is x 1=true→(d.at_ x).state≠3→d.of p 5 x=true→∃q j,(d.of q 4 x=true∧(0≤j∧j<1024)∧d.eC p q j=true)∧∀q' j',d.of q' 4 x=true→(0≤j'∧j'<1024)→d.eC p q' j'=true→q'=q∧j'=j
structure Ens(d:DB):Prop where
 typ:∀x,d.has x=true→(d.at_ x).typ≠6
 sp:∀x,d.has x=true→(d.at_ x).typ≠0→(d.at_ x).typ≠1→d.is (d.at_ x).owner 1=true
 refs:∀x,d.is x 1=true→(d.at_ x).refs=(d.cnt x:Int)
 free:∀x,d.is x 0=true→∀o,d.word x o=0
 thr:∀x,d.is x 2=true→(d.at_ x).bm=false∧∀o,1≤o→d.word x o=0
 qI:∀x,d.is x 1=true→d.word x 1<d.av∧d.word x 2=0
 En:∀x y,d.is x 1=true→d.is y 1=true→d.word x 1=d.word y 1→x=y
 high:∀x,d.is x 1=true→∀o,37≤o→d.word x o=0
 low:∀x,d.is x 1=true→∀o,3≤o→o<11→d.word x o=0
 st:∀x,d.is x 1=true→(d.at_ x).state=1∨(d.at_ x).state=2∨(d.at_ x).state=3
 fin:∀x,d.is x 1=true→(d.at_ x).state=2→∀o,11≤o→d.word x o=0
 stop:∀x,d.is x 1=true→(d.at_ x).state=3→Dg.ay (d.mem.dgW x)=0∨∀o,11≤o→d.word x o=0
structure Val(d:DB):Prop where
 BC:d.Good
 ens:d.Ens
 tab:d.Tbl
theorem aO {d:DB} {p t:Int}(h:d.is p t=true):d.has p=true∧(d.at_ p).typ=t:=by simpa [is]using h
theorem eg {d:DB} {p t:Int}(h:d.has p=true∧(d.at_ p).typ=t):d.is p t=true:=by simpa [is]using h
theorem ji {d:DB} {p lo hi:Int}(h:∀o,lo≤o→o<hi→d.word p o=0):d.zero p lo hi=true:=cP.2 fun o a b=>by rw [h o a b];rfl
theorem Hb {d:DB} {p:Int}:d.some_ p 11 26=d.mem.dgW p:=rfl
theorem qf {d:DB} {p:Int}(h:d.alive p=true):d.is (d.at_ p).owner 1=true∧(d.at_ (d.at_ p).owner).state≠3:=by
 unfold alive at h
 simpa using h
theorem Val.broken {d:DB}(h:d.Val)(hS:d.S≤64):d.broken=(0,0):=by
 refine EB fun c h1 h2=>cP.2 fun p p0 p1=>?_
 have hp:d.has p=true:=by unfold has;simp;omega
 have T:=h.tab
 have N:=h.ens
 have one:(d.at_ p).typ=1→d.is p 1=true:=fun e=>eg ⟨hp,e⟩
 have ofp:∀t,(d.at_ p).typ=t→d.of p t (d.at_ p).owner=true:=fun t e=>gL ⟨hp,e,rfl⟩
 rcases(show c=1∨c=2∨c=3∨c=4∨c=5∨c=6∨c=7∨c=8∨c=9∨c=10∨c=11∨c=12 by omega)with rfl | rfl | rfl | rfl | rfl | rfl | rfl | rfl | rfl | rfl | rfl | rfl
 ·rw [y8]
  by_cases e:(d.at_ p).typ=1
  ·simp [h.BC.own p hp e]
  ·simp [e]
 ·rw [y7]
  by_cases e:(d.at_ p).typ=0
  ·rw [ji fun o _ _=>N.free p (eg ⟨hp,e⟩) o];simp
  ·simp [e]
 ·rw [y6]
  by_cases e:(d.at_ p).typ=1
  ·simp [e]
  ·by_cases e0:(d.at_ p).typ=0
   ·simp [e0]
   ·rw [N.sp p hp e0 e];simp
 ·rw [y5]
  by_cases e:(d.at_ p).typ=1
  ·have:=N.refs p (one e)
   rw [this]
   unfold cnt lQ eZ
   simp
  ·simp [e]
 ·rw [oI]
  by_cases e:(d.at_ p).typ=1
  ·have b:=N.qI p (one e)
   have:d.ko p=true:=by
    unfold ko
    rw [cP.2 fun q q0 q1=>?_]
    ·simp [b.1,b.2]
    ·rw [Bool.not_eq_true']
     rw [← Bool.not_eq_true]
     intro hq
     have hq:(d.at_ q).typ=1∧d.word q 1=d.word p 1:=by simpa using hq
     have:=N.En q p (eg ⟨by unfold has;simp;omega,hq.1⟩) (one e) hq.2
     omega
   rw [this];simp
  ·simp [e]
 ·rw [yZ]
  by_cases e:(d.at_ p).typ=1
  ·have hl:=N.low p (one e)
   have:d.rV p=true:=by
    unfold rV
    rw [ji fun o a _=>N.high p (one e) o a]
    have hi:Dg.ay (d.mem.dgW p)=0→d.xK p=true:=fun h0=>by
     unfold xK
     rw [Hb,h0,ji fun o a b=>hl o a b];rfl
    rcases N.st p (one e)with s | s | s
    ·rw [if_pos s,hi (h.BC.inv p (bW.2 ⟨hp,e,s⟩))];rfl
    ·rw [if_neg (by omega),if_pos s,ji fun o a _=>N.fin p (one e) s o a];rfl
    ·rw [if_neg (by omega),if_neg (by omega)]
     rcases N.stop p (one e) s with h0 | h0
     ·rw [hi h0];rfl
     ·rw [ji fun o a _=>h0 o a];simp
   rw [this];simp
  ·simp [e]
 ·rw [yY]
  by_cases e:(d.at_ p).typ=1
  ·have:d.rW p=true:=by
    unfold rW
    by_cases s:(d.at_ p).state=3
    ·simp [s]
    ·obtain⟨a,b⟩:=T.fst p (one e) s
     have q0:=ai (bf a).1
     rw [a,oG (a:=d.word p 0) ⟨q0.1,q0.2⟩ a fun x _ _ hx=>by rw [← Bool.not_eq_true];intro hc;exact hx (b x hc)]
     simp
   rw [this];simp
  ·simp [e]
 ·rw [j4]
  by_cases e:(d.at_ p).typ=3
  ·by_cases al:d.alive p=true
   ·obtain⟨a1,a2⟩:=qf al
    have op:=ofp 3 e
    have:d.km p=true:=by
     unfold km
     rw [ji fun o a _=>T.nz _ p a1 a2 op o a,cP.2 fun i i0 i1=>?_,cP.2 fun q q0 q1=>?_]
     ·rfl
     ·have hle:d.named p 256 q≤1:=by
       by_cases hex:∃i,(0≤i∧i<256)∧(d.word p i !=0 && aH (d.word p i)==q)=true
       ·obtain⟨i,hi,hf⟩:=hex
        unfold named
        rw [oG (a:=i) hi hf fun x x0 x1 hx=>?_]
        ·omega
        ·rw [← Bool.not_eq_true];intro hc
         simp only [Bool.and_eq_true,bne_iff_ne,ne_eq,beq_iff_eq]at hc hf
         exact hx (T.once _ p x i a1 a2 op ⟨x0,x1⟩ hi hc.1 hf.1 (hc.2.trans hf.2.symm))
       ·unfold named
        rw [j2 fun x x0 x1=>?_]
        ·omega
        ·rw [← Bool.not_eq_true];intro hc;exact hex ⟨x,⟨x0,x1⟩,hc⟩
      have So:d.of q 4 (d.at_ p).owner=true→d.named p 256 q≠0:=fun hq=>by
       obtain⟨i,hi,hw,hpf⟩:=T.all _ p q a1 a2 op hq
       unfold named
       rw [oG (a:=i) hi (by simp [hw,hpf]) fun x x0 x1 hx=>?_]
       ·omega
       ·rw [← Bool.not_eq_true];intro hc
        simp only [Bool.and_eq_true,bne_iff_ne,ne_eq,beq_iff_eq]at hc
        exact hx (T.once _ p x i a1 a2 op ⟨x0,x1⟩ hi hc.1 hw (hc.2.trans hpf.symm))
      cases hq:d.of q 4 (d.at_ p).owner
      ·simp;omega
      ·have:=So hq
       simp;omega
     ·unfold kB
      rcases T.nms _ p a1 a2 op i i0 i1 with h0 | ⟨h0,h1⟩
      ·simp [h0]
      ·simp [h0,h1]
    rw [this];simp
   ·simp [al]
  ·simp [e]
 ·rw [lR]
  by_cases e:(d.at_ p).typ=4
  ·by_cases al:d.alive p=true
   ·obtain⟨a1,a2⟩:=qf al
    have:d.uC p=true:=cP.2 fun j j0 j1=>T.mps _ p a1 a2 (ofp 4 e) j j0 j1
    rw [this];simp
   ·simp [al]
  ·simp [e]
 ·rw [qb]
  by_cases e:(d.at_ p).typ=5
  ·by_cases al:d.alive p=true
   ·obtain⟨a1,a2⟩:=qf al
    obtain⟨q,j,⟨h1,h2,h3⟩,h4⟩:=T.hit _ p a1 a2 (ofp 5 e)
    have q0:=ai (bf h1).1
    have hqn:((q.toNat:Nat):Int)=q:=Int.toNat_of_nonneg q0.1
    have:d.uB p=true:=by
     unfold uB mG
     rw [Int.toNat_natCast,CM (a:=q.toNat) (show q.toNat<d.S by have:=q0.1;have:=q0.2;omega) ?_ ?_]
     ·rfl
     ·show(if d.of ((q.toNat:Nat):Int) 4 (d.at_ p).owner then _ else _)=_
      rw [hqn,if_pos h1,oG h2 h3 fun x x0 x1 hx=>?_]
      rw [← Bool.not_eq_true];intro hc
      exact hx (h4 q x h1 ⟨x0,x1⟩ hc).2
     ·intro q' _ O0
      show(if d.of (q':Int) 4 (d.at_ p).owner then _ else _)=_
      by_cases hq4:d.of (q':Int) 4 (d.at_ p).owner=true
      ·rw [if_pos hq4,j2 fun x x0 x1=>?_]
       rw [← Bool.not_eq_true];intro hc
       have:=(h4 (q':Int) x hq4 ⟨x0,x1⟩ hc).1
       omega
      ·rw [if_neg hq4]
    rw [this];simp
   ·simp [al]
  ·simp [e]
 ·rw [vb]
  by_cases e:(d.at_ p).typ=2
  ·obtain⟨a,b⟩:=N.thr p (eg ⟨hp,e⟩)
   have:d.nR p=true:=by
    unfold nR
    rw [ji fun o a' _=>b o (by omega),a,ji fun o a' _=>b o (by omega)];simp
   rw [this];simp
  ·simp [e]
 ·rw [u9]
  simp [N.typ p hp]
theorem dR {d:DB} {m:Mem}(x o:Int):(d.aE m).word x o=m.aZ true x o:=rfl
theorem iq {d:DB} {m:Mem}(hS:m.S=d.mem.S)(x t:Int):(d.aE m).is x t=d.is x t:=by
 unfold is has;rw [show(d.aE m).S=d.S from hS];rfl
theorem kA {d:DB} {m:Mem}(hS:m.S=d.mem.S)(x t o:Int):(d.aE m).of x t o=d.of x t o:=by
 unfold of;rw [iq hS];rfl
theorem Ens.aD {d:DB} {m:Mem}(N:d.Ens)(hS:m.S=d.mem.S)(h0:∀x o,d.is x 0=true→m.aZ true x o=d.word x o)(h1:∀x o,d.is x 1=true→¬(d.aT x=0∧11≤o∧o<37)→m.aZ true x o=d.word x o)(h2:∀x o,d.is x 2=true→1≤o→m.aZ true x o=d.word x o):(d.aE m).Ens:=by
 have hh:∀x,(d.aE m).has x=d.has x:=fun x=>by unfold has;rw [show(d.aE m).S=d.S from hS]
 have hi:=fun x t=>iq hS (d:=d) x t
 refine⟨fun x hx=>N.typ x (by rw [← hh];exact hx),fun x hx a b=>?_,fun x hx=>?_,fun x hx o=>?_,fun x hx=>?_,fun x hx=>?_,fun x y hx hy he=>?_,fun x hx o ho=>?_,fun x hx o ha hb=>?_,fun x hx=>?_,fun x hx s o ho=>?_,fun x hx s=>?_⟩
 ·rw [hi];exact N.sp x (by rw [← hh];exact hx) a b
 ·rw [hi]at hx
  have e:(d.aE m).cnt x=d.cnt x:=by unfold cnt;rw [show(d.aE m).S=d.S from hS];rfl
  rw [e];exact N.refs x hx
 ·rw [hi]at hx;rw [dR,h0 x o hx];exact N.free x hx o
 ·rw [hi]at hx;exact⟨(N.thr x hx).1,fun o ho=>by rw [dR,h2 x o hx ho];exact(N.thr x hx).2 o ho⟩
 ·rw [hi]at hx
  rw [dR,dR,h1 x 1 hx (by omega),h1 x 2 hx (by omega)];exact N.qI x hx
 ·rw [hi]at hx hy
  rw [dR,dR,h1 x 1 hx (by omega),h1 y 1 hy (by omega)]at he
  exact N.En x y hx hy he
 ·rw [hi]at hx;rw [dR,h1 x o hx (by omega)];exact N.high x hx o ho
 ·rw [hi]at hx;rw [dR,h1 x o hx (by omega)];exact N.low x hx o ha hb
 ·rw [hi]at hx;exact N.st x hx
 ·rw [hi]at hx
  have hb:¬d.aT x=0:=by rw [bW];have:(d.at_ x).state=2:=s;omega
  rw [dR,h1 x o hx (fun h9=>hb h9.1)];exact N.fin x hx s o ho
 ·rw [hi]at hx
  have hb:¬d.aT x=0:=by rw [bW];have:(d.at_ x).state=3:=s;omega
  have hw:∀o,m.aZ true x o=d.word x o:=fun o=>h1 x o hx (fun h9=>hb h9.1)
  have e:m.dgW x=d.mem.dgW x:=List.map_congr_left fun i _=>congrArg U32.mk (hw _)
  rcases N.stop x hx s with h | h
  ·left;show Dg.ay (m.dgW x)=0;rw [e];exact h
  ·right;intro o ho;rw [dR,hw];exact h o ho
theorem yO {d:DB} {p t s:Int}(hp:d.has p=true)(hs:d.has s=true)(PZ:s≠p)(q:Nat):(d.bZ p t s).ent q=if(q:Int)=s then {d.ent q with refs:=(d.ent q).refs+1}else if(q:Int)=p then⟨t,s,0,0,false⟩else d.ent q:=by
 have e1:=ej (t:=t) hp hs (q:=(q:Int)) (by omega) PZ
 rw [cW,cW]at e1
 rw [e1]
 by_cases e3:(q:Int)=s
 ·rw [if_pos e3,if_pos e3,← e3,cW]
 ·rw [if_neg e3,if_neg e3]
structure lY(d:DB)(p t s:Int):Prop where
 hp:d.has p=true
 hs:d.has s=true
 ts:(d.at_ s).typ=1
 fp:(d.at_ p).typ=0
 ne:s≠p
 eq:d.take p t s=d.bZ p t s
theorem A8 {d:DB} {p t s:Int}(h:d.bM p t s=0):lY d p t s:=by
 obtain⟨hp,hs,Vj,hr,hf,e⟩:=nW h
 exact⟨hp,hs,Vj,hf,by rintro rfl;omega,e⟩
theorem lY.is {d:DB} {p t s:Int}(k:lY d p t s) {x u:Int}(hu:u≠0)(h:(d.take p t s).is x u=true):(x=p∧u=t)∨(x≠p∧d.is x u=true):=by
 rw [k.eq]at h
 obtain⟨a,b⟩:=aO h
 have a:d.has x=true:=a
 rw [ej k.hp k.hs (ai a).1 k.ne]at b
 by_cases e1:x=s
 ·subst e1;rw [if_pos rfl]at b;exact .inr ⟨k.ne,eg ⟨a,b⟩⟩
 ·rw [if_neg e1]at b
  by_cases e2:x=p
  ·rw [if_pos e2]at b;exact .inl ⟨e2,b.symm⟩
  ·rw [if_neg e2]at b;exact .inr ⟨e2,eg ⟨a,b⟩⟩
theorem lY.was {d:DB} {p t s:Int}(k:lY d p t s) {x u:Int}(hu:u≠0)(h:d.is x u=true):(d.take p t s).is x u=true∧x≠p:=by
 obtain⟨a,b⟩:=aO h
 have n:x≠p:=by rintro rfl;have:=k.fp;omega
 rw [k.eq]
 refine⟨eg ⟨a,?_⟩,n⟩
 rw [ej k.hp k.hs (ai a).1 k.ne]
 by_cases e1:x=s
 ·subst e1;rw [if_pos rfl];exact b
 ·rw [if_neg e1,if_neg n];exact b
theorem lY.same {d:DB} {p t s:Int}(k:lY d p t s) {x:Int}(hx:d.has x=true)(n:x≠p):((d.take p t s).at_ x).typ=(d.at_ x).typ∧((d.take p t s).at_ x).owner=(d.at_ x).owner∧((d.take p t s).at_ x).state=(d.at_ x).state∧((d.take p t s).at_ x).bm=(d.at_ x).bm:=by
 rw [k.eq,ej k.hp k.hs (ai hx).1 k.ne]
 by_cases e1:x=s
 ·subst e1;rw [if_pos rfl];exact⟨rfl,rfl,rfl,rfl⟩
 ·rw [if_neg e1,if_neg n];exact⟨rfl,rfl,rfl,rfl⟩
theorem lY.self {d:DB} {p t s:Int}(k:lY d p t s):(d.take p t s).at_ p=⟨t,s,0,0,false⟩:=by
 rw [k.eq,ej k.hp k.hs (ai k.hp).1 k.ne,if_neg (Ne.symm k.ne),if_pos rfl]
theorem lY.of {d:DB} {p t s:Int}(k:lY d p t s) {x u o:Int}(hu:u≠0):(d.take p t s).of x u o=true↔(x=p∧u=t∧o=s)∨d.of x u o=true:=by
 constructor
 ·intro h
  obtain⟨a,b,c⟩:=bf h
  rcases k.is hu (eg ⟨a,b⟩)with⟨e,e2⟩ | ⟨n,h2⟩
  ·subst e;rw [k.self]at c;exact .inl ⟨rfl,e2,c.symm⟩
  ·have h3:=aO h2
   have:=k.same h3.1 n
   exact .inr (gL ⟨h3.1,h3.2,by rw [← this.2.1];exact c⟩)
 ·rintro(⟨rfl,rfl,rfl⟩ | h)
  ·refine gL ⟨?_,?_⟩
   ·rw [k.eq];exact k.hp
   ·rw [k.self];exact⟨rfl,rfl⟩
  ·obtain⟨a,b,c⟩:=bf h
   have w:=k.was hu (eg ⟨a,b⟩)
   have:=k.same a w.2
   exact gL ⟨(aO w.1).1,(aO w.1).2,by rw [this.2.1];exact c⟩
theorem cE(d:DB)(p t s x o:Int):(d.take p t s).word x o=d.word x o:=by unfold word;rw [bx]
theorem xP(d:DB)(p t s:Int):(d.take p t s).av=d.av:=by unfold DB.take;split<;>rfl
theorem Ens.take {d:DB} {p t s:Int}(N:d.Ens)(k:lY d p t s)(ht:t=2∨t=4∨t=5):(d.take p t s).Ens:=by
 have hh:∀x,(d.take p t s).has x=d.has x:=fun x=>by rw [k.eq];rfl
 have hS:(d.take p t s).S=d.S:=by rw [k.eq];rfl
 have one:∀x,(d.take p t s).is x 1=true→x≠p∧d.is x 1=true:=fun x hx=>by
  rcases k.is (by omega) hx with⟨_,e⟩ | h
  ·omega
  ·exact h
 refine⟨fun x hx=>?_,fun x hx a b=>?_,fun x hx=>?_,fun x hx o=>?_,fun x hx=>?_,fun x hx=>?_,fun x y hx hy he=>?_,fun x hx o ho=>?_,fun x hx o ha hb=>?_,fun x hx=>?_,fun x hx st o ho=>?_,fun x hx st=>?_⟩
 ·rw [hh]at hx
  by_cases e:x=p
  ·rw [e,k.self];show t≠6;omega
  ·rw [(k.same hx e).1];exact N.typ x hx
 ·rw [hh]at hx
  by_cases e:x=p
  ·rw [e,k.self];exact(k.was (by omega) (eg ⟨k.hs,k.ts⟩)).1
  ·have w:=k.same hx e
   rw [w.1]at a b;rw [w.2.1]
   exact(k.was (by omega) (N.sp x hx a b)).1
 ·obtain⟨n,h1⟩:=one x hx
  have S7:=(aO h1).1
  have own:∀q:Nat,(q:Int)≠p→((d.take p t s).aP x q=true↔d.aP x q=true):=fun q hq=>by
   have e:=yO (t:=t) k.hp k.hs k.ne q
   unfold aP
   rw [k.eq,e]
   by_cases e1:(q:Int)=s
   ·rw [if_pos e1]
   ·rw [if_neg e1,if_neg hq]
  have Vp:((p.toNat:Nat):Int)=p:=Int.toNat_of_nonneg (ai k.hp).1
  have hpS:p.toNat<d.S:=by have:=ai k.hp;omega
  have fpn:d.aP x p.toNat=false:=by
   rw [← Bool.not_eq_true];intro hq
   exact(bH hq).2.1 k.fp
  have ep:=yO (t:=t) k.hp k.hs k.ne p.toNat
  rw [Vp,if_neg (Ne.symm k.ne),if_pos rfl]at ep
  have hr:=N.refs x h1
  by_cases e1:x=s
  ·subst e1
   have hc:(d.take p t x).cnt x=d.cnt x+1:=by
    unfold cnt
    rw [hS]
    have u1:=ir (f:=d.aP x) (g:=(d.take p t x).aP x) (p:=p.toNat) (cG (by rw [Vp,k.eq,ep];exact⟨n.symm,by show t≠0;omega,rfl⟩)) fpn hpS (fun q _ hq=>by
     by_cases e:(q:Int)=p
     ·rw [show q=p.toNat by omega,fpn]at hq;cases hq
     ·exact(own q e).2 hq)
    have u2:=j3 (f:=(d.take p t x).aP x) (g:=d.aP x) (p:=p.toNat) (n:=d.S) (fun q _ hq h=>(own q (by omega)).1 h)
    omega
   have ha:(d.take p t x).at_ x= {d.at_ x with refs:=(d.at_ x).refs+1}:=by rw [k.eq,ej k.hp k.hs (ai S7).1 k.ne,if_pos rfl]
   rw [ha,hc]
   show(d.at_ x).refs+1=_
   omega
  ·have hc:(d.take p t s).cnt x=d.cnt x:=by
    unfold cnt
    rw [hS]
    have fp':(d.take p t s).aP x p.toNat=false:=by
     rw [← Bool.not_eq_true];intro hq
     have:=(bH hq).2.2
     rw [k.eq,ep]at this
     exact e1 this.symm
    have u1:=ez (f:=d.aP x) (g:=(d.take p t s).aP x) (n:=d.S) fun q _ hq=>by
     by_cases e:(q:Int)=p
     ·rw [show q=p.toNat by omega,fpn]at hq;cases hq
     ·exact(own q e).2 hq
    have u2:=ez (f:=(d.take p t s).aP x) (g:=d.aP x) (n:=d.S) fun q _ hq=>by
     by_cases e:(q:Int)=p
     ·rw [show q=p.toNat by omega,fp']at hq;cases hq
     ·exact(own q e).1 hq
    omega
   have ha:(d.take p t s).at_ x=d.at_ x:=by rw [k.eq,ej k.hp k.hs (ai S7).1 k.ne,if_neg e1,if_neg n]
   rw [ha,hc];exact hr
 ·obtain⟨a,b⟩:=aO hx
  rw [hh]at a
  by_cases e:x=p
  ·rw [e,k.self]at b;have:t=0:=b;omega
  ·rw [(k.same a e).1]at b
   rw [cE];exact N.free x (eg ⟨a,b⟩) o
 ·rcases k.is (by omega) hx with⟨e,e2⟩ | ⟨n,h⟩
  ·subst e
   refine⟨by rw [k.self],fun o _=>?_⟩
   rw [cE];exact N.free x (eg ⟨k.hp,k.fp⟩) o
  ·have w:=k.same (aO h).1 n
   exact⟨by rw [w.2.2.2];exact(N.thr x h).1,fun o ho=>by rw [cE];exact(N.thr x h).2 o ho⟩
 ·rw [cE,cE,xP];exact N.qI x (one x hx).2
 ·rw [cE,cE]at he;exact N.En x y (one x hx).2 (one y hy).2 he
 ·rw [cE];exact N.high x (one x hx).2 o ho
 ·rw [cE];exact N.low x (one x hx).2 o ha hb
 ·obtain⟨n,h⟩:=one x hx
  rw [(k.same (aO h).1 n).2.2.1];exact N.st x h
 ·obtain⟨n,h⟩:=one x hx
  rw [(k.same (aO h).1 n).2.2.1]at st
  rw [cE];exact N.fin x h st o ho
 ·obtain⟨n,h⟩:=one x hx
  rw [(k.same (aO h).1 n).2.2.1]at st
  rw [bx]
  rcases N.stop x h st with h9 | h9
  ·exact .inl h9
  ·exact .inr fun o ho=>by rw [cE];exact h9 o ho
theorem gI {d:DB} {p s:Int}(x t:Int):(d.setState p s).is x t=d.is x t:=by
 by_cases he:d.aS p s=0
 ·have e:d.setState p s=d.set p {d.at_ p with state:=s}:=by unfold DB.setState;rw [if_pos he]
  have hp:d.has p=true:=by
   cases hp:d.has p
   ·unfold aS at he;simp [hp]at he
   ·rfl
  rw [e]
  unfold is
  rw [dB]
  cases hx:d.has x
  ·rfl
  ·rw [bD (ai hp).1 (ai hx).1]
   by_cases e1:x=p
   ·subst e1;rw [if_pos rfl]
   ·rw [if_neg e1]
 ·have e:d.setState p s=d:=by unfold DB.setState;rw [if_neg he]
  rw [e]
theorem cq {d:DB} {p s x:Int}(hx:d.has x=true):((d.setState p s).at_ x).typ=(d.at_ x).typ∧((d.setState p s).at_ x).owner=(d.at_ x).owner∧((d.setState p s).at_ x).refs=(d.at_ x).refs∧((d.setState p s).at_ x).bm=(d.at_ x).bm∧(((d.setState p s).at_ x).state=(d.at_ x).state∨x=p∧((d.setState p s).at_ x).state=s):=by
 by_cases he:d.aS p s=0
 ·have e:d.setState p s=d.set p {d.at_ p with state:=s}:=by unfold DB.setState;rw [if_pos he]
  have hp:d.has p=true:=by
   cases hp:d.has p
   ·unfold aS at he;simp [hp]at he
   ·rfl
  rw [e,bD (ai hp).1 (ai hx).1]
  by_cases e1:x=p
  ·subst e1;rw [if_pos rfl];exact⟨rfl,rfl,rfl,rfl,.inr ⟨rfl,rfl⟩⟩
  ·rw [if_neg e1];exact⟨rfl,rfl,rfl,rfl,.inl rfl⟩
 ·have e:d.setState p s=d:=by unfold DB.setState;rw [if_neg he]
  rw [e];exact⟨rfl,rfl,rfl,rfl,.inl rfl⟩
theorem n7 {d:DB} {p s:Int}(x:Int):(d.setState p s).has x=d.has x:=by unfold DB.setState;split<;>rfl
theorem bC {d:DB} {p s:Int}(x o:Int):(d.setState p s).word x o=d.word x o:=by unfold word;rw [cI]
theorem qR(d:DB)(p s:Int):(d.setState p s).av=d.av:=by unfold DB.setState;split<;>rfl
theorem Ens.setState {d:DB} {p s:Int}(N:d.Ens)(hs:s=2∨s=3)(h2:s=2→∀o,11≤o→d.word p o=0)(h3:s=3→d.is p 1=true→Dg.ay (d.mem.dgW p)=0∨∀o,11≤o→d.word p o=0):(d.setState p s).Ens:=by
 have hi:=fun x t=>gI (d:=d) (p:=p) (s:=s) x t
 have hS:(d.setState p s).S=d.S:=by show(d.setState p s).mem.S=_;rw [cI];rfl
 refine⟨fun x hx=>?_,fun x hx a b=>?_,fun x hx=>?_,fun x hx o=>?_,fun x hx=>?_,fun x hx=>?_,fun x y hx hy he=>?_,fun x hx o ho=>?_,fun x hx o ha hb=>?_,fun x hx=>?_,fun x hx st o ho=>?_,fun x hx st=>?_⟩
 ·rw [n7]at hx;rw [(cq hx).1];exact N.typ x hx
 ·rw [n7]at hx
  have w:=cq (p:=p) (s:=s) hx
  rw [w.1]at a b;rw [hi,w.2.1];exact N.sp x hx a b
 ·rw [hi]at hx
  have S7:=(aO hx).1
  have hc:(d.setState p s).cnt x=d.cnt x:=by
   unfold cnt
   rw [hS]
   refine Nat.le_antisymm (ez fun q hq h=>?_) (ez fun q hq h=>?_)
   ·have w:=cq (d:=d) (p:=p) (s:=s) (x:=(q:Int)) (by unfold has;simp;exact hq)
    obtain⟨a,b,c⟩:=bH h
    rw [← cW]at b c
    exact cG ⟨a,by rw [← cW,← w.1];exact b,by rw [← cW,← w.2.1];exact c⟩
   ·have w:=cq (d:=d) (p:=p) (s:=s) (x:=(q:Int)) (by unfold has;simp;exact hq)
    obtain⟨a,b,c⟩:=bH h
    rw [← cW]at b c
    exact cG ⟨a,by rw [← cW,w.1];exact b,by rw [← cW,w.2.1];exact c⟩
  rw [(cq S7).2.2.1,hc];exact N.refs x hx
 ·rw [hi]at hx;rw [bC];exact N.free x hx o
 ·rw [hi]at hx
  exact⟨by rw [(cq (aO hx).1).2.2.2.1];exact(N.thr x hx).1,fun o ho=>by rw [bC];exact(N.thr x hx).2 o ho⟩
 ·rw [hi]at hx;rw [bC,bC,qR];exact N.qI x hx
 ·rw [hi]at hx hy;rw [bC,bC]at he;exact N.En x y hx hy he
 ·rw [hi]at hx;rw [bC];exact N.high x hx o ho
 ·rw [hi]at hx;rw [bC];exact N.low x hx o ha hb
 ·rw [hi]at hx
  rcases(cq (p:=p) (s:=s) (aO hx).1).2.2.2.2 with h | ⟨_,h⟩
  ·rw [h];exact N.st x hx
  ·rw [h];omega
 ·rw [hi]at hx;rw [bC]
  rcases(cq (p:=p) (s:=s) (aO hx).1).2.2.2.2 with h | ⟨e,h⟩
  ·exact N.fin x hx (h▸st) o ho
  ·subst e;exact h2 (h▸st) o ho
 ·rw [hi]at hx;rw [cI]
  have key:Dg.ay (d.mem.dgW x)=0∨∀o,11≤o→d.word x o=0:=by
   rcases(cq (p:=p) (s:=s) (aO hx).1).2.2.2.2 with h | ⟨e,h⟩
   ·exact N.stop x hx (h▸st)
   ·subst e;exact h3 (h▸st) hx
  rcases key with h9 | h9
  ·exact .inl h9
  ·exact .inr fun o ho=>by rw [bC];exact h9 o ho
theorem kF {d:DB} {p x:Int}(hp:d.has p=true)(ho:d.has (d.at_ p).owner=true)(hx:0≤x):(d.aW p).at_ x=if x=p then Ent.free else if x=(d.at_ p).owner∧(d.at_ p).typ≠1∧(d.at_ x).typ=1∧(d.at_ x).refs>0 then {d.at_ x with refs:=(d.at_ x).refs+ -1}else d.at_ x:=by
 have p0:=ai hp
 have o0:=ai ho
 have g:(d.aW p).at_ x=(if(d.at_ p).typ !=1 && ((d.set p .free).bR (d.at_ p).owner && decide (((d.set p .free).at_ (d.at_ p).owner).refs>0))then(d.set p .free).more (d.at_ p).owner (-1)else d.set p .free).at_ x:=rfl
 rw [g]
 by_cases Rt:((d.at_ p).typ !=1 && ((d.set p .free).bR (d.at_ p).owner && decide (((d.set p .free).at_ (d.at_ p).owner).refs>0)))=true
 ·rw [if_pos Rt]
  simp only [Bool.and_eq_true,bR,dB,bne_iff_ne,ne_eq,decide_eq_true_eq,beq_iff_eq]at Rt
  have OG:(d.at_ p).owner≠p:=by
   intro e1
   have h9:=Rt.2.2
   rw [e1,bD p0.1 p0.1,if_pos rfl]at h9;exact absurd h9 (by decide)
  have e1:(d.set p .free).at_ (d.at_ p).owner=d.at_ (d.at_ p).owner:=by rw [bD p0.1 o0.1,if_neg OG]
  rw [e1]at Rt
  unfold more
  rw [bD o0.1 hx,e1]
  by_cases e2:x=(d.at_ p).owner
  ·rw [if_pos e2,if_neg (by rw [e2];exact OG),if_pos ⟨e2,Rt.1,by rw [e2];exact Rt.2.1.2,by rw [e2];exact Rt.2.2⟩,e2]
  ·rw [if_neg e2,bD p0.1 hx]
   by_cases e3:x=p
   ·rw [if_pos e3,if_pos e3]
   ·rw [if_neg e3,if_neg e3,if_neg (fun h9=>e2 h9.1)]
 ·rw [if_neg Rt,bD p0.1 hx]
  by_cases e1:x=p
  ·rw [if_pos e1,if_pos e1]
  ·rw [if_neg e1,if_neg e1,if_neg]
   rintro⟨rfl,a,b,c⟩
   apply Rt
   simp only [Bool.and_eq_true,bR,dB,bne_iff_ne,ne_eq,decide_eq_true_eq,beq_iff_eq]
   rw [bD p0.1 o0.1,if_neg e1]
   exact⟨a,⟨ho,b⟩,c⟩
theorem jY {d:DB} {p:Int}(x:Int):(d.aW p).has x=d.has x:=by
 unfold aW
 show(Mem.zero _ true p).has true x=_
 rw [oz];split<;>rfl
theorem wy {d:DB} {p:Int}:(d.aW p).S=d.S:=by
 unfold aW
 show(Mem.zero _ true p).S=_
 rw [Mem.qi];split<;>rfl
theorem oB {d:DB} {p:Int}:(d.aW p).mem=d.mem.zero true p:=by
 unfold aW
 have hm:∀c:Bool,(DB.aD (if c then(d.set p .free).more (d.at_ p).owner (-1)else d.set p .free) (·.zero true p)).mem=d.mem.zero true p:=by intro c;cases c<;>rfl
 exact hm _
theorem yB {d:DB} {p:Int}:(d.aW p).av=d.av:=by
 unfold aW
 have hm:∀c:Bool,(DB.aD (if c then(d.set p .free).more (d.at_ p).owner (-1)else d.set p .free) (·.zero true p)).av=d.av:=by intro c;cases c<;>rfl
 exact hm _
theorem yh {m:Mem} {p o:Int}:(m.zero true p).aZ true p o=0:=by
 unfold Mem.aZ
 rw [DB.oz]
 split
 ·rename_i h
  have h1:m.has true p=true:=by simp at h;exact h.1
  unfold Mem.zero
  rw [if_pos h1]
  show(if true=true∧p.toNat=p.toNat then(0:Int)else _)=0
  rw [if_pos ⟨rfl,rfl⟩]
 ·rfl
structure Fv(d:DB)(p:Int):Prop where
 hp:d.has p=true
 ho:d.has (d.at_ p).owner=true
 nt:(d.at_ p).typ≠0
 st:(d.at_ (d.at_ p).owner).state=3
 rf:(d.at_ p).typ=1→(d.at_ p).refs=0
theorem gone {d:DB} {p:Int}(hg:d.oA p=true):Fv d p:=by
 unfold oA at hg
 simp only [Bool.and_eq_true,bne_iff_ne,ne_eq,beq_iff_eq,Bool.or_eq_true]at hg
 obtain⟨hp,ho,ht,PF,hr⟩:=hg
 exact⟨hp,ho,ht,PF,fun h=>hr.resolve_left (fun h9=>h9 h)⟩
theorem Fv.same {d:DB} {p:Int}(k:Fv d p) {x:Int}(hx:d.has x=true)(n:x≠p):((d.aW p).at_ x).typ=(d.at_ x).typ∧((d.aW p).at_ x).owner=(d.at_ x).owner∧((d.aW p).at_ x).state=(d.at_ x).state∧((d.aW p).at_ x).bm=(d.at_ x).bm:=by
 rw [kF k.hp k.ho (ai hx).1,if_neg n]
 split<;>exact⟨rfl,rfl,rfl,rfl⟩
theorem Fv.is {d:DB} {p:Int}(k:Fv d p) {x u:Int}(hu:u≠0):(d.aW p).is x u=true↔x≠p∧d.is x u=true:=by
 constructor
 ·intro h
  obtain⟨a,b⟩:=aO h
  rw [jY]at a
  by_cases n:x=p
  ·rw [kF k.hp k.ho (ai a).1,if_pos n]at b
   have:(0:Int)=u:=b
   omega
  ·rw [(k.same a n).1]at b;exact⟨n,eg ⟨a,b⟩⟩
 ·rintro⟨n,h⟩
  obtain⟨a,b⟩:=aO h
  exact eg ⟨by rw [jY];exact a,by rw [(k.same a n).1];exact b⟩
theorem dz {d:DB} {p x o:Int}(n:x≠p):(d.aW p).word x o=d.word x o:=by
 unfold word;rw [oB,Mem.uN (Ne.symm n)]
theorem Ens.dY {d:DB} {p:Int}(N:d.Ens)(G:d.Good)(k:Fv d p):(d.aW p).Ens:=by
 have lone:∀x,d.has x=true→x≠p→(d.at_ x).typ≠0→(d.at_ x).typ≠1→(d.at_ x).owner≠p:=fun x hx n a b e=>by
  have h1:=N.sp x hx a b
  rw [e]at h1
  have h2:=N.refs p h1
  rw [k.rf (aO h1).2]at h2
  have x0:=ai hx
  have:=ir (f:=fun _=>false) (g:=d.aP p) (p:=x.toNat) (n:=d.S) (cG (by
   have hxn:((x.toNat:Nat):Int)=x:=Int.toNat_of_nonneg x0.1
   rw [hxn];exact⟨n,a,e⟩)) rfl (by omega) (fun q _ h9=>by cases h9)
  unfold cnt at h2
  omega
 refine⟨fun x hx=>?_,fun x hx a b=>?_,fun x hx=>?_,fun x hx o=>?_,fun x hx=>?_,fun x hx=>?_,fun x y hx hy he=>?_,fun x hx o ho=>?_,fun x hx o ha hb=>?_,fun x hx=>?_,fun x hx st o ho=>?_,fun x hx st=>?_⟩
 ·rw [jY]at hx
  by_cases n:x=p
  ·rw [kF k.hp k.ho (ai hx).1,if_pos n];show(0:Int)≠6;decide
  ·rw [(k.same hx n).1];exact N.typ x hx
 ·rw [jY]at hx
  by_cases n:x=p
  ·rw [kF k.hp k.ho (ai hx).1,if_pos n]at a;exact absurd rfl a
  ·have w:=k.same hx n
   rw [w.1]at a b;rw [w.2.1]
   exact(k.is (by omega)).2 ⟨lone x hx n a b,N.sp x hx a b⟩
 ·obtain⟨n,h1⟩:=(k.is (by omega)).1 hx
  have S7:=(aO h1).1
  have hr:=N.refs x h1
  have pn:((p.toNat:Nat):Int)=p:=Int.toNat_of_nonneg (ai k.hp).1
  have pS:p.toNat<d.S:=by have:=ai k.hp;omega
  have own:∀q:Nat,q<d.S→(q:Int)≠p→((d.aW p).aP x q=true↔d.aP x q=true):=fun q hq OG=>by
   have w:=k.same (x:=(q:Int)) (by unfold has;simp;exact hq) OG
   rw [cW,cW]at w
   unfold aP;rw [w.1,w.2.1]
  have pf:(d.aW p).aP x p.toNat=false:=by
   rw [← Bool.not_eq_true];intro hq
   have:=(bH hq).2.1
   rw [show(d.aW p).ent p.toNat=(d.aW p).at_ p from rfl,kF k.hp k.ho (ai k.hp).1,if_pos rfl]at this
   exact this rfl
  have le:(d.aW p).cnt x≤d.cnt x:=by
   unfold cnt;rw [wy]
   exact ez fun q hq h=>by
    by_cases e:(q:Int)=p
    ·rw [show q=p.toNat by omega,pf]at h;cases h
    ·exact(own q hq e).1 h
  have ge:d.cnt x≤(d.aW p).cnt x+1:=by
   unfold cnt;rw [wy]
   exact j3 (p:=p.toNat) fun q hq OG h=>(own q hq (by omega)).2 h
  by_cases e1:x=(d.at_ p).owner
  ·have pt:(d.at_ p).typ≠1:=fun h=>n (e1.trans (G.own p k.hp h))
   have po:d.aP x p.toNat=true:=cG (by rw [pn];exact⟨Ne.symm n,k.nt,e1.symm⟩)
   have lt:(d.aW p).cnt x+1≤d.cnt x:=by
    unfold cnt;rw [wy]
    exact ir po pf pS fun q hq h=>by
     by_cases e:(q:Int)=p
     ·rw [show q=p.toNat by omega];exact po
     ·exact(own q hq e).1 h
   rw [kF k.hp k.ho (ai S7).1,if_neg n,if_pos ⟨e1,pt,(aO h1).2,by omega⟩]
   show(d.at_ x).refs+ -1=_
   omega
  ·have eq:d.cnt x≤(d.aW p).cnt x:=by
    unfold cnt;rw [wy]
    exact ez fun q hq h=>by
     by_cases e:(q:Int)=p
     ·have:=(bH h).2.2
      rw [show q=p.toNat by omega]at this
      exact absurd this.symm e1
     ·exact(own q hq e).2 h
   rw [kF k.hp k.ho (ai S7).1,if_neg n,if_neg (fun h9=>e1 h9.1)]
   omega
 ·obtain⟨a,b⟩:=aO hx
  rw [jY]at a
  by_cases n:x=p
  ·subst n;unfold word;rw [oB,yh]
  ·rw [(k.same a n).1]at b;rw [dz n];exact N.free x (eg ⟨a,b⟩) o
 ·obtain⟨n,h⟩:=(k.is (by omega)).1 hx
  exact⟨by rw [(k.same (aO h).1 n).2.2.2];exact(N.thr x h).1,fun o ho=>by rw [dz n];exact(N.thr x h).2 o ho⟩
 ·obtain⟨n,h⟩:=(k.is (by omega)).1 hx
  rw [dz n,dz n,yB];exact N.qI x h
 ·obtain⟨n,h⟩:=(k.is (by omega)).1 hx
  obtain⟨n2,h2⟩:=(k.is (by omega)).1 hy
  rw [dz n,dz n2]at he;exact N.En x y h h2 he
 ·obtain⟨n,h⟩:=(k.is (by omega)).1 hx
  rw [dz n];exact N.high x h o ho
 ·obtain⟨n,h⟩:=(k.is (by omega)).1 hx
  rw [dz n];exact N.low x h o ha hb
 ·obtain⟨n,h⟩:=(k.is (by omega)).1 hx
  rw [(k.same (aO h).1 n).2.2.1];exact N.st x h
 ·obtain⟨n,h⟩:=(k.is (by omega)).1 hx
  rw [(k.same (aO h).1 n).2.2.1]at st
  rw [dz n];exact N.fin x h st o ho
 ·obtain⟨n,h⟩:=(k.is (by omega)).1 hx
  rw [(k.same (aO h).1 n).2.2.1]at st
  rw [oB,Mem.yP (Ne.symm n)]
  rcases N.stop x h st with h9 | h9
  ·exact .inl h9
  ·exact .inr fun o ho=>by rw [dz n];exact h9 o ho
theorem mapOk_eq {d:DB} {p x j:Int}(h:d.of p 4 x=true):d.kY p j=(d.word p j==0 || (hY (d.word p j)==0 && (if(bY (d.word p j)).cF then d.of (bY (d.word p j)).aj 5 x else decide ((bY (d.word p j)).aj<d.mem.I)))):=by
 unfold kY;rw [(bf h).2.2]
theorem hits_eq {d d':DB} {p q j:Int}(h:d'.word q j=d.word q j):d'.eC p q j=d.eC p q j:=by unfold eC;rw [h]
structure H0(d:DB)(x:Int):Prop where
 fst:d.of (d.word x 0) 3 x=true∧∀q,d.of q 3 x=true→q=d.word x 0
 nz:∀p,d.of p 3 x=true→∀o,256≤o→d.word p o=0
 nms:∀p,d.of p 3 x=true→∀i,0≤i→i<256→d.word p i=0∨(iP (d.word p i)=0∧d.of (aH (d.word p i)) 4 x=true)
 all:∀p q,d.of p 3 x=true→d.of q 4 x=true→∃i,(0≤i∧i<256)∧d.word p i≠0∧aH (d.word p i)=q
 once:∀p i j,d.of p 3 x=true→(0≤i∧i<256)→(0≤j∧j<256)→d.word p i≠0→d.word p j≠0→aH (d.word p i)=aH (d.word p j)→i=j
 mps:∀p,d.of p 4 x=true→∀j,0≤j→j<1024→d.kY p j=true
 hit:∀p,d.of p 5 x=true→∃q j,(d.of q 4 x=true∧(0≤j∧j<1024)∧d.eC p q j=true)∧∀q' j',d.of q' 4 x=true→(0≤j'∧j'<1024)→d.eC p q' j'=true→q'=q∧j'=j
theorem Tbl.x {d:DB}(T:d.Tbl) {x:Int}(a:d.is x 1=true)(b:(d.at_ x).state≠3):d.H0 x:=
 ⟨T.fst x a b,fun p=>T.nz x p a b,fun p=>T.nms x p a b,fun p q=>T.all x p q a b,fun p i j=>T.once x p i j a b,fun p=>T.mps x p a b,fun p=>T.hit x p a b⟩
theorem Tbl.mk' {d:DB}(h:∀x,d.is x 1=true→(d.at_ x).state≠3→d.H0 x):d.Tbl:=
 ⟨fun x a b=>(h x a b).fst,fun x p a b=>(h x a b).nz p,fun x p a b=>(h x a b).nms p,fun x p q a b=>(h x a b).all p q,fun x p i j a b=>(h x a b).once p i j,fun x p a b=>(h x a b).mps p,fun x p a b=>(h x a b).hit p⟩
theorem H0.frame {d d':DB} {x:Int}(T:d.H0 x)(hI:d'.mem.I=d.mem.I)(f:d'.word x 0=d.word x 0)(h2:∀p u,(u=3∨u=4∨u=5)→(d'.of p u x=true↔d.of p u x=true))(h3:∀p o,(d.of p 3 x=true∨d.of p 4 x=true)→d'.word p o=d.word p o):d'.H0 x:=by
 refine⟨?_,fun p hp o ho=>?_,fun p hp i i0 i1=>?_,fun p q hp hq=>?_,fun p i j hp hi hj wi wj e=>?_,fun p hp j j0 j1=>?_,fun p hp=>?_⟩
 ·obtain⟨g,h⟩:=T.fst
  rw [f]
  exact⟨(h2 _ 3 (by omega)).2 g,fun q hq=>h q ((h2 q 3 (by omega)).1 hq)⟩
 ·have Qq:=(h2 p 3 (by omega)).1 hp
  rw [h3 p o (.inl Qq)];exact T.nz p Qq o ho
 ·have Qq:=(h2 p 3 (by omega)).1 hp
  rw [h3 p i (.inl Qq)]
  exact(T.nms p Qq i i0 i1).imp id fun⟨u,v⟩=>⟨u,(h2 _ 4 (by omega)).2 v⟩
 ·have Qq:=(h2 p 3 (by omega)).1 hp
  obtain⟨i,u,v,w⟩:=T.all p q Qq ((h2 q 4 (by omega)).1 hq)
  exact⟨i,u,by rw [h3 p i (.inl Qq)];exact v,by rw [h3 p i (.inl Qq)];exact w⟩
 ·have Qq:=(h2 p 3 (by omega)).1 hp
  rw [h3 p i (.inl Qq)]at wi e
  rw [h3 p j (.inl Qq)]at wj e
  exact T.once p i j Qq hi hj wi wj e
 ·have Qq:=(h2 p 4 (by omega)).1 hp
  have old:=T.mps p Qq j j0 j1
  rw [mapOk_eq Qq]at old
  rw [mapOk_eq hp,h3 p j (.inr Qq),hI]
  have ho:d'.of (bY (d.word p j)).aj 5 x=d.of (bY (d.word p j)).aj 5 x:=by
   rw [Bool.eq_iff_iff];exact h2 _ 5 (by omega)
  rw [ho];exact old
 ·obtain⟨q,j,⟨u,v,w⟩,z⟩:=T.hit p ((h2 p 5 (by omega)).1 hp)
  refine⟨q,j,⟨(h2 q 4 (by omega)).2 u,v,by rw [hits_eq (h3 q j (.inr u))];exact w⟩,fun q' j' u' v' w'=>?_⟩
  have u2:=(h2 q' 4 (by omega)).1 u'
  rw [hits_eq (h3 q' j' (.inr u2))]at w'
  exact z q' j' u2 v' w'
theorem Tbl.frame {d d':DB}(T:d.Tbl)(hI:d'.mem.I=d.mem.I)
 (h1:∀x,d'.is x 1=true→(d'.at_ x).state≠3→d.is x 1=true∧(d.at_ x).state≠3∧d'.word x 0=d.word x 0)
 (h2:∀x p u,d'.is x 1=true→(d'.at_ x).state≠3→(u=3∨u=4∨u=5)→(d'.of p u x=true↔d.of p u x=true))
 (h3:∀x p o,d'.is x 1=true→(d'.at_ x).state≠3→(d.of p 3 x=true∨d.of p 4 x=true)→d'.word p o=d.word p o):d'.Tbl:=
 Tbl.mk' fun x a b=>by
  obtain⟨c,e,f⟩:=h1 x a b
  exact(T.x c e).frame hI f (fun p u=>h2 x p u a b) (fun p o=>h3 x p o a b)
theorem CV {M:Mp}(h:M.err=0):hY M.word=0∧bY M.word=M∧M.word≠0:=by
 obtain⟨s,p,w,e⟩:=M
 have hp:0≤p∧p<64:=by
  unfold Mp.err at h
  by_cases hp:0≤p∧p<64
  ·exact hp
  ·rw [if_neg hp]at h;omega
 have hw:Mp.word ⟨s,p,w,e⟩=256*p+1+Mp.bits ⟨s,p,w,e⟩:=by unfold Mp.word;rw [if_pos h]
 have hg:Mp.uY (Mp.word ⟨s,p,w,e⟩)=⟨s,p,w,e⟩:=by
  rw [hw]
  unfold Mp.uY Mp.bits
  have e1:∀(b:Bool)(x:Int),(x=1↔b=true)→decide (x=1)=b:=fun b x hx=>by
   cases b
   ·exact decide_eq_false (fun h9=>by have:=hx.1 h9;cases this)
   ·exact decide_eq_true (hx.2 rfl)
  congr 1
  ·apply e1;cases s<;>cases w<;>cases e<;>simp<;>omega
  ·cases s<;>cases w<;>cases e<;>simp<;>omega
  ·apply e1;cases s<;>cases w<;>cases e<;>simp<;>omega
  ·apply e1;cases s<;>cases w<;>cases e<;>simp<;>omega
 have hn:Mp.word ⟨s,p,w,e⟩≠0:=by
  rw [hw];unfold Mp.bits;cases s<;>cases w<;>cases e<;>simp<;>omega
 have ok:sx (Mp.word ⟨s,p,w,e⟩)=true:=by
  unfold sx;rw [hg];simp [h]
 refine⟨?_,?_,hn⟩
 ·unfold hY;rw [if_neg hn,if_pos ok]
 ·unfold bY;rw [if_pos ⟨hn,ok⟩,hg]
theorem Gr {p:Int}(h:0≤p∧p<64):iP (bS p)=0∧aH (bS p)=p∧bS p≠0:=by
 have e:bS p=256*p+1:=by unfold bS;rw [if_pos h]
 have ok:yg (bS p)=true:=by unfold yg;rw [e];simp;omega
 have hn:bS p≠0:=by rw [e];omega
 refine⟨?_,?_,hn⟩
 ·unfold iP;rw [if_neg hn,if_pos ok]
 ·unfold aH;rw [if_pos ok,e];omega
theorem Tbl.table {d D:DB} {p s i t:Int}(T:d.Tbl)(N:d.Ens)(k:lY d p 4 s)(p6:p<64)(hi:0≤i∧i<256)(ht:d.of t 3 s=true)(hz:d.word t i=0)(hI:D.mem.I=d.mem.I)
 (h1:∀x,D.is x 1=true→d.is x 1=true∧(D.at_ x).state=(d.at_ x).state)
 (O1:∀x u o,u≠0→(D.of x u o=true↔(x=p∧u=4∧o=s)∨d.of x u o=true))
 (hw:∀x o,D.word x o=if x=t∧o=i then bS p else d.word x o):D.Tbl:=by
 have P:=Gr ⟨(ai k.hp).1,p6⟩
 have np:∀u x,d.of p u x=true→u=0:=fun u x h=>by have:=(bf h).2.1;have:=k.fp;omega
 have tn:t≠p:=by rintro rfl;have:=np _ _ ht;omega
 have o3:∀x q,D.of q 3 x=true→d.of q 3 x=true:=fun x q h=>by
  rcases(O1 q 3 x (by omega)).1 h with⟨_,h9,_⟩ | h
  ·omega
  ·exact h
 have o5:∀x q,D.of q 5 x=true→d.of q 5 x=true:=fun x q h=>by
  rcases(O1 q 5 x (by omega)).1 h with⟨_,h9,_⟩ | h
  ·omega
  ·exact h
 have w1:∀x,d.is x 1=true→D.word x 0=d.word x 0:=fun x hx=>by
  rw [hw,if_neg];rintro⟨rfl,_⟩
  have:=(bf ht).2.1;have:=(aO hx).2;omega
 have w4:∀x q o,d.of q 4 x=true→D.word q o=d.word q o:=fun x q o hq=>by
  rw [hw,if_neg];rintro⟨rfl,_⟩
  have:=(bf ht).2.1;have:=(bf hq).2.1;omega
 have wp:∀o,D.word p o=0:=fun o=>by
  rw [hw,if_neg (fun h9=>tn h9.1.symm)];exact N.free p (eg ⟨k.hp,k.fp⟩) o
 have ts:∀x,d.of t 3 x=true→x=s:=fun x h=>(bf h).2.2.symm.trans (bf ht).2.2
 refine⟨fun x a b=>?_,fun x q a b hq o ho=>?_,fun x q a b hq j j0 j1=>?_,fun x q r a b hq hr=>?_,fun x q j l a b hq hj hl wj wl e=>?_,fun x q a b hq j j0 j1=>?_,fun x q a b hq=>?_⟩
 ·obtain⟨c,e⟩:=h1 x a
  rw [e]at b
  obtain⟨g,h⟩:=T.fst x c b
  rw [w1 x c]
  exact⟨(O1 _ 3 x (by omega)).2 (.inr g),fun q hq=>h q (o3 x q hq)⟩
 ·obtain⟨c,e⟩:=h1 x a
  rw [e]at b
  rw [hw,if_neg (by omega)];exact T.nz x q c b (o3 x q hq) o ho
 ·obtain⟨c,e⟩:=h1 x a
  rw [e]at b
  have O0:=o3 x q hq
  rw [hw]
  by_cases h9:q=t∧j=i
  ·rw [if_pos h9]
   right
   refine⟨P.1,?_⟩
   rw [P.2.1,O1 p 4 x (by omega)]
   exact .inl ⟨rfl,rfl,ts x (h9.1▸O0)⟩
  ·rw [if_neg h9]
   exact(T.nms x q c b O0 j j0 j1).imp id fun⟨u,v⟩=>⟨u,(O1 _ 4 x (by omega)).2 (.inr v)⟩
 ·obtain⟨c,e⟩:=h1 x a
  rw [e]at b
  have O0:=o3 x q hq
  rcases(O1 r 4 x (by omega)).1 hr with⟨rfl,_,rfl⟩ | h
  ·have e9:q=t:=by
    have f1:=(T.fst _ c b).2
    rw [f1 q O0,f1 t ht]
   subst e9
   exact⟨i,hi,by rw [hw,if_pos ⟨rfl,rfl⟩];exact P.2.2,by rw [hw,if_pos ⟨rfl,rfl⟩];exact P.2.1⟩
  ·obtain⟨j,u,v,w⟩:=T.all x q r c b O0 h
   have ne:¬(q=t∧j=i):=by rintro⟨rfl,rfl⟩;exact v hz
   exact⟨j,u,by rw [hw,if_neg ne];exact v,by rw [hw,if_neg ne];exact w⟩
 ·obtain⟨c,e1⟩:=h1 x a
  rw [e1]at b
  have O0:=o3 x q hq
  have no:∀j,0≤j∧j<256→d.word q j≠0→aH (d.word q j)≠p:=fun j hj hn e9=>by
   rcases T.nms x q c b O0 j hj.1 hj.2 with h | ⟨_,h⟩
   ·exact hn h
   ·rw [e9]at h;have:=np _ _ h;omega
  rw [hw]at wj wl e
  rw [hw]at e
  by_cases c1:q=t∧j=i
  ·by_cases c2:q=t∧l=i
   ·omega
   ·rw [if_pos c1,if_neg c2,P.2.1]at e
    rw [if_neg c2]at wl
    exact absurd e.symm (no l hl wl)
  ·rw [if_neg c1]at wj e
   by_cases c2:q=t∧l=i
   ·rw [if_pos c2,P.2.1]at e
    exact absurd e (no j hj wj)
   ·rw [if_neg c2]at wl e
    exact T.once x q j l c b O0 hj hl wj wl e
 ·obtain⟨c,e⟩:=h1 x a
  rw [e]at b
  rw [mapOk_eq hq]
  rcases(O1 q 4 x (by omega)).1 hq with⟨rfl,_,rfl⟩ | h
  ·rw [wp];rfl
  ·have old:=T.mps x q c b h j j0 j1
   rw [mapOk_eq h]at old
   rw [w4 x q j h,hI]
   have ho:d.of (bY (d.word q j)).aj 5 x=true→D.of (bY (d.word q j)).aj 5 x=true:=fun h9=>(O1 _ 5 x (by omega)).2 (.inr h9)
   revert old
   cases (bY (d.word q j)).cF
   ·exact id
   ·simp only [if_true,Bool.or_eq_true,Bool.and_eq_true]
    exact fun h9=>h9.imp id fun⟨u,v⟩=>⟨u,ho v⟩
 ·obtain⟨c,e⟩:=h1 x a
  rw [e]at b
  obtain⟨r,j,⟨u,v,w⟩,z⟩:=T.hit x q c b (o5 x q hq)
  refine⟨r,j,⟨(O1 r 4 x (by omega)).2 (.inr u),v,by rw [hits_eq (w4 x r j u)];exact w⟩,fun r' j' u' v' w'=>?_⟩
  rcases(O1 r' 4 x (by omega)).1 u' with⟨rfl,_,rfl⟩ | u2
  ·unfold eC at w'
   rw [wp]at w'
   simp [hY]at w'
  ·rw [hits_eq (w4 x r' j' u2)]at w'
   exact z r' j' u2 v' w'
theorem Tbl.data {d D:DB} {p s P J:Int} {M:Mp}(T:d.Tbl)(k:lY d p 5 s)(hP:d.of P 4 s=true)(hJ:0≤J∧J<1024)(hz:d.word P J=0)(hM:M.err=0)(hs:M.cF=true)(hp:M.aj=p)(hI:D.mem.I=d.mem.I)
 (h1:∀x,D.is x 1=true→d.is x 1=true∧(D.at_ x).state=(d.at_ x).state)
 (O1:∀x u o,u≠0→(D.of x u o=true↔(x=p∧u=5∧o=s)∨d.of x u o=true))
 (hw:∀x o,x≠p→D.word x o=if x=P∧o=J then M.word else d.word x o):D.Tbl:=by
 have W:=CV hM
 have np:∀u x,d.of p u x=true→u=0:=fun u x h=>by have:=(bf h).2.1;have:=k.fp;omega
 have nq:∀q u x,u≠0→d.of q u x=true→q≠p:=fun q u x hu h e=>by rw [e]at h;exact hu (np u x h)
 have TV:∀x q u,u=3∨u=4→D.of q u x=true→d.of q u x=true:=fun x q u hu h=>by
  rcases(O1 q u x (by omega)).1 h with⟨_,h9,_⟩ | h
  ·omega
  ·exact h
 have w1:∀x,d.is x 1=true→D.word x 0=d.word x 0:=fun x hx=>by
  have h2:=(aO hx).2
  rw [hw x 0 (by rintro rfl;have:=k.fp;omega),if_neg]
  rintro⟨rfl,_⟩;have:=(bf hP).2.1;omega
 have w3:∀x q o,d.of q 3 x=true→D.word q o=d.word q o:=fun x q o hq=>by
  rw [hw q o (nq q 3 x (by omega) hq),if_neg];rintro⟨rfl,_⟩
  have:=(bf hP).2.1;have:=(bf hq).2.1;omega
 have w4:∀x q o,d.of q 4 x=true→D.word q o=if q=P∧o=J then M.word else d.word q o:=fun x q o hq=>hw q o (nq q 4 x (by omega) hq)
 have ps:∀x,d.of P 4 x=true→x=s:=fun x h=>(bf h).2.2.symm.trans (bf hP).2.2
 have none:∀x q j,d.is x 1=true→(d.at_ x).state≠3→d.of q 4 x=true→0≤j∧j<1024→d.eC p q j=false:=fun x q j c b hq hj=>by
  rw [← Bool.not_eq_true];intro h
  unfold eC at h
  simp only [Bool.and_eq_true,beq_iff_eq]at h
  have old:=T.mps x q c b hq j hj.1 hj.2
  rw [mapOk_eq hq,h.2.1]at old
  simp only [if_true,Bool.or_eq_true,beq_iff_eq,Bool.and_eq_true]at old
  rcases old with h0 | ⟨_,h0⟩
  ·have:=h.1;rw [h0]at this;simp [hY]at this
  ·rw [h.2.2]at h0;have:=np _ _ h0;omega
 refine⟨fun x a b=>?_,fun x q a b hq o ho=>?_,fun x q a b hq j j0 j1=>?_,fun x q r a b hq hr=>?_,fun x q j l a b hq hj hl wj wl e=>?_,fun x q a b hq j j0 j1=>?_,fun x q a b hq=>?_⟩
 ·obtain⟨c,e⟩:=h1 x a
  rw [e]at b
  obtain⟨g,h⟩:=T.fst x c b
  rw [w1 x c]
  exact⟨(O1 _ 3 x (by omega)).2 (.inr g),fun q hq=>h q (TV x q 3 (by omega) hq)⟩
 ·obtain⟨c,e⟩:=h1 x a
  rw [e]at b
  have O0:=TV x q 3 (by omega) hq
  rw [w3 x q o O0];exact T.nz x q c b O0 o ho
 ·obtain⟨c,e⟩:=h1 x a
  rw [e]at b
  have O0:=TV x q 3 (by omega) hq
  rw [w3 x q j O0]
  exact(T.nms x q c b O0 j j0 j1).imp id fun⟨u,v⟩=>⟨u,(O1 _ 4 x (by omega)).2 (.inr v)⟩
 ·obtain⟨c,e⟩:=h1 x a
  rw [e]at b
  have O0:=TV x q 3 (by omega) hq
  obtain⟨j,u,v,w⟩:=T.all x q r c b O0 (TV x r 4 (by omega) hr)
  exact⟨j,u,by rw [w3 x q j O0];exact v,by rw [w3 x q j O0];exact w⟩
 ·obtain⟨c,e1⟩:=h1 x a
  rw [e1]at b
  have O0:=TV x q 3 (by omega) hq
  rw [w3 x q j O0]at wj e
  rw [w3 x q l O0]at wl e
  exact T.once x q j l c b O0 hj hl wj wl e
 ·obtain⟨c,e⟩:=h1 x a
  rw [e]at b
  have O0:=TV x q 4 (by omega) hq
  rw [mapOk_eq hq,w4 x q j O0]
  by_cases h9:q=P∧j=J
  ·rw [if_pos h9,W.1,W.2.1,hs,hp]
   have:D.of p 5 x=true:=(O1 p 5 x (by omega)).2 (.inl ⟨rfl,rfl,ps x (h9.1▸O0)⟩)
   simp [this]
  ·rw [if_neg h9,hI]
   have old:=T.mps x q c b O0 j j0 j1
   rw [mapOk_eq O0]at old
   have ho:d.of (bY (d.word q j)).aj 5 x=true→D.of (bY (d.word q j)).aj 5 x=true:=fun h9=>(O1 _ 5 x (by omega)).2 (.inr h9)
   revert old
   cases (bY (d.word q j)).cF
   ·exact id
   ·simp only [if_true,Bool.or_eq_true,Bool.and_eq_true]
    exact fun h9=>h9.imp id fun⟨u,v⟩=>⟨u,ho v⟩
 ·obtain⟨c,e⟩:=h1 x a
  rw [e]at b
  have new:∀q',d.of q' 4 x=true→q'=P→D.eC q q' J=(M.aj==q):=fun q' O0 e9=>by
   unfold eC
   rw [w4 x q' J O0,if_pos ⟨e9,rfl⟩,W.1,W.2.1,hs];rfl
  have old:∀q' j',d.of q' 4 x=true→¬(q'=P∧j'=J)→D.eC q q' j'=d.eC q q' j':=fun q' j' O0 n=>hits_eq (by rw [w4 x q' j' O0,if_neg n])
  rcases(O1 q 5 x (by omega)).1 hq with⟨rfl,_,rfl⟩ | O0
  ·refine⟨P,J,⟨(O1 P 4 _ (by omega)).2 (.inr hP),hJ,by rw [new P hP rfl,hp];simp⟩,fun q' j' u' v' w'=>?_⟩
   have u2:=TV _ q' 4 (by omega) u'
   by_cases n:q'=P∧j'=J
   ·exact n
   ·rw [old q' j' u2 n,none _ q' j' c b u2 v']at w';cases w'
  ·have qp:=nq q 5 x (by omega) O0
   obtain⟨r,j,⟨u,v,w⟩,z⟩:=T.hit x q c b O0
   have n:¬(r=P∧j=J):=by
    rintro⟨rfl,rfl⟩
    unfold eC at w
    rw [hz]at w;simp [hY]at w
   refine⟨r,j,⟨(O1 r 4 x (by omega)).2 (.inr u),v,by rw [old r j u n];exact w⟩,fun r' j' u' v' w'=>?_⟩
   have u2:=TV x r' 4 (by omega) u'
   by_cases n':r'=P∧j'=J
   ·rw [n'.2,new r' u2 n'.1,hp]at w'
    have:p=q:=by simpa using w'
    exact absurd this.symm qp
   ·rw [old r' j' u2 n']at w'
    exact z r' j' u2 v' w'
theorem Tbl.share {d D:DB} {s P J:Int} {M:Mp}(T:d.Tbl)(hP:d.of P 4 s=true)(hz:d.word P J=0)(hM:M.err=0)(hs:M.cF=false)(hp:M.aj<(d.mem.I:Int))(hI:D.mem.I=d.mem.I)
 (h1:∀x,D.is x 1=true→d.is x 1=true∧(D.at_ x).state=(d.at_ x).state)
 (O1:∀x u o,D.of x u o=d.of x u o)
 (hw:∀x o,D.word x o=if x=P∧o=J then M.word else d.word x o):D.Tbl:=by
 have W:=CV hM
 have w1:∀x,d.is x 1=true→D.word x 0=d.word x 0:=fun x hx=>by
  rw [hw x 0,if_neg]
  rintro⟨rfl,_⟩;have:=(bf hP).2.1;have:=(aO hx).2;omega
 have w3:∀x q o,d.of q 3 x=true→D.word q o=d.word q o:=fun x q o hq=>by
  rw [hw q o,if_neg];rintro⟨rfl,_⟩
  have:=(bf hP).2.1;have:=(bf hq).2.1;omega
 refine⟨fun x a b=>?_,fun x q a b hq o ho=>?_,fun x q a b hq j j0 j1=>?_,fun x q r a b hq hr=>?_,fun x q j l a b hq hj hl wj wl e=>?_,fun x q a b hq j j0 j1=>?_,fun x q a b hq=>?_⟩
 ·obtain⟨c,e⟩:=h1 x a
  rw [e]at b
  rw [w1 x c,O1]
  obtain⟨g,h⟩:=T.fst x c b
  exact⟨g,fun q hq=>h q (by rw [← O1];exact hq)⟩
 ·obtain⟨c,e⟩:=h1 x a
  rw [e]at b
  rw [O1]at hq
  rw [w3 x q o hq];exact T.nz x q c b hq o ho
 ·obtain⟨c,e⟩:=h1 x a
  rw [e]at b
  rw [O1]at hq
  rw [w3 x q j hq,O1]
  exact T.nms x q c b hq j j0 j1
 ·obtain⟨c,e⟩:=h1 x a
  rw [e]at b
  rw [O1]at hq hr
  obtain⟨j,u,v,w⟩:=T.all x q r c b hq hr
  exact⟨j,u,by rw [w3 x q j hq];exact v,by rw [w3 x q j hq];exact w⟩
 ·obtain⟨c,e1⟩:=h1 x a
  rw [e1]at b
  rw [O1]at hq
  rw [w3 x q j hq]at wj e
  rw [w3 x q l hq]at wl e
  exact T.once x q j l c b hq hj hl wj wl e
 ·obtain⟨c,e⟩:=h1 x a
  rw [e]at b
  rw [mapOk_eq hq]
  rw [O1]at hq
  rw [hw q j]
  by_cases h9:q=P∧j=J
  ·rw [if_pos h9,W.1,W.2.1,hs,hI]
   simp [hp]
  ·rw [if_neg h9,hI,O1,← mapOk_eq hq]
   exact T.mps x q c b hq j j0 j1
 ·obtain⟨c,e⟩:=h1 x a
  rw [e]at b
  rw [O1]at hq
  have new:D.eC q P J=false:=by
   unfold eC
   rw [hw P J,if_pos ⟨rfl,rfl⟩,W.2.1,hs];simp
  have old:∀q' j',¬(q'=P∧j'=J)→D.eC q q' j'=d.eC q q' j':=fun q' j' n=>hits_eq (by rw [hw q' j',if_neg n])
  obtain⟨r,j,⟨u,v,w⟩,z⟩:=T.hit x q c b hq
  have n:¬(r=P∧j=J):=by
   rintro⟨rfl,rfl⟩
   unfold eC at w
   rw [hz]at w;simp [hY]at w
  refine⟨r,j,⟨by rw [O1];exact u,v,by rw [old r j n];exact w⟩,fun r' j' u' v' w'=>?_⟩
  rw [O1]at u'
  by_cases n':r'=P∧j'=J
  ·rw [n'.1,n'.2,new]at w';cases w'
  ·rw [old r' j' n']at w'
   exact z r' j' u' v' w'
theorem fO {p x y:Int}(h:p≠x):∀(l:List Int)(m:Mem)(o:Int),(m.wrs p o l).aZ true x y=m.aZ true x y
 | [],_,_=>rfl
 | z::l,m,o=>by rw [Mem.wrs,fO h l,Mem.bU h]
structure wX(d D:DB)(s f:Int):Prop where
 hs:d.has s=true
 hf:d.has f=true
 fs:(d.at_ s).typ=0
 ff:(d.at_ f).typ=0
 ne:s≠f
 hh:∀x,D.has x=d.has x
 hS:D.S=d.S
 hI:D.mem.I=d.mem.I
 hb:D.av=d.av+1
 hat:∀x:Int,0≤x→D.at_ x=if x=f then⟨3,s,0,0,false⟩else if x=s then⟨1,s,1,1,false⟩else d.at_ x
 wo:∀x o,x≠s→D.word x o=d.word x o
 dg:∀x,x≠s→D.mem.dgW x=d.mem.dgW x
 w0:D.word s 0=f
 w1:D.word s 1=d.av
 w2:D.word s 2=0
 wz:∀o,3≤o→¬(11≤o∧o<37)→D.word s o=d.word s o
theorem Nm {d:DB} {s f:Int}(he:d.cz s f=0):wX d (d.bE s f) s f:=by
 have e:d.bE s f=(d.aN s f).aD (·.wrs s 11 Dg.new.save):=by unfold bE;rw [if_pos he]
 unfold cz at he
 have h1:¬d.bn s≠0:=by grind
 have h2:¬d.bn f≠0:=by grind
 have h3:¬s=f:=by grind
 have h4:¬d.bw s≠0:=by grind
 have h5:¬d.bw f≠0:=by grind
 have h6:¬d.av≥64:=by grind
 have hs:=fw h1
 have hf:=fw h2
 have r1:=ai hs
 have r2:=ai hf
 have ht:d.aR s f=0:=by rw [fi h1 h2 h3 h4 h5,if_neg h6]
 have e2:d.aN s f=d.aV s f:=by unfold aN;rw [if_pos ht]
 rw [e,e2]
 have hm:((d.aV s f).aD (·.wrs s 11 Dg.new.save)).mem=(((d.mem.write true s 0 f).write true s 1 d.av).write true s 2 0).wrs s 11 Dg.new.save:=rfl
 have hS:((d.aV s f).aD (·.wrs s 11 Dg.new.save)).S=d.S:=by
  show(((((d.mem.write true s 0 f).write true s 1 d.av).write true s 2 0)).wrs s 11 Dg.new.save).S=_
  rw [Mem.ig,Mem.bh,Mem.bh,Mem.bh];rfl
 have fZ:∀(m:Mem)(b:Bool)(p o v:Int),(m.write b p o v).I=m.I:=fun m b p o v=>by unfold Mem.write;split<;>rfl
 have AH:∀(l:List Int)(m:Mem)(o:Int),(m.wrs s o l).I=m.I:=by
  intro l
  induction l with
  | nil=>intro m o;rfl
  | cons x l ih=>intro m o;rw [Mem.wrs,ih,fZ]
 have hh:∀x,((d.aV s f).aD (·.wrs s 11 Dg.new.save)).has x=d.has x:=fun x=>by unfold has;rw [hS]
 have q1:(d.mem.write true s 0 f).has true s=true:=by rw [DB.cH];exact hs
 have q2:((d.mem.write true s 0 f).write true s 1 d.av).has true s=true:=by rw [DB.cH];exact q1
 have q3:(((d.mem.write true s 0 f).write true s 1 d.av).write true s 2 0).has true s=true:=by rw [DB.cH];exact q2
 have wl:Dg.new.save.length=26:=Dg.iL Dg.nm
 have ws:∀o,¬(11≤o∧o<37)→((d.aV s f).aD (·.wrs s 11 Dg.new.save)).word s o=if o=2 then 0 else if o=1 then d.av else if o=0 then f else d.word s o:=fun o ho=>by
  unfold word
  rw [hm,Mem.jR _ _ 11 q3 (by omega) (by rw [wl];decide),if_neg (by rw [wl];omega),Mem.dj q2 (by decide),Mem.dj q1 (by decide),Mem.dj hs (by decide)]
 have wo:∀x o,x≠s→((d.aV s f).aD (·.wrs s 11 Dg.new.save)).word x o=d.word x o:=fun x o hx=>by
  unfold word
  rw [hm,fO (Ne.symm hx),Mem.bU (Ne.symm hx),Mem.bU (Ne.symm hx),Mem.bU (Ne.symm hx)]
 refine⟨hs,hf,fq hs h4,fq hf h5,h3,hh,hS,?_,rfl,fun x hx=>?_,wo,fun x hx=>?_,?_,?_,?_,fun o h9 h8=>?_⟩
 ·rw [hm,AH,fZ,fZ,fZ]
 ·show((d.set s ⟨1,s,1,1,false⟩).set f ⟨3,s,0,0,false⟩).at_ x=_
  rw [bD r2.1 hx,bD r1.1 hx]
 ·exact List.map_congr_left fun i _=>congrArg U32.mk (wo x _ hx)
 ·rw [ws 0 (by omega)];rfl
 ·rw [ws 1 (by omega)];rfl
 ·rw [ws 2 (by omega)];rfl
 ·rw [ws o h8,if_neg (by omega),if_neg (by omega),if_neg (by omega)]
theorem wX.is {d D:DB} {s f:Int}(k:wX d D s f) {x u:Int}(hu:u≠0):D.is x u=true↔(x=f∧u=3)∨(x=s∧u=1)∨d.is x u=true:=by
 constructor
 ·intro h
  obtain⟨a,b⟩:=aO h
  rw [k.hh]at a
  rw [k.hat x (ai a).1]at b
  by_cases e1:x=f
  ·rw [if_pos e1]at b;exact .inl ⟨e1,b.symm⟩
  ·rw [if_neg e1]at b
   by_cases e2:x=s
   ·rw [if_pos e2]at b;exact .inr (.inl ⟨e2,b.symm⟩)
   ·rw [if_neg e2]at b;exact .inr (.inr (eg ⟨a,b⟩))
 ·rintro(⟨rfl,rfl⟩ | ⟨rfl,rfl⟩ | h)
  ·exact eg ⟨by rw [k.hh];exact k.hf,by rw [k.hat _ (ai k.hf).1,if_pos rfl]⟩
  ·exact eg ⟨by rw [k.hh];exact k.hs,by rw [k.hat _ (ai k.hs).1,if_neg k.ne,if_pos rfl]⟩
  ·obtain⟨a,b⟩:=aO h
   refine eg ⟨by rw [k.hh];exact a,?_⟩
   rw [k.hat _ (ai a).1,if_neg (by rintro rfl;have:=k.ff;omega),if_neg (by rintro rfl;have:=k.fs;omega)];exact b
theorem wX.same {d D:DB} {s f:Int}(k:wX d D s f) {x:Int}(hx:d.has x=true)(h:(d.at_ x).typ≠0):D.at_ x=d.at_ x∧x≠s∧x≠f:=by
 have n1:x≠f:=by rintro rfl;exact h k.ff
 have n2:x≠s:=by rintro rfl;exact h k.fs
 exact⟨by rw [k.hat _ (ai hx).1,if_neg n1,if_neg n2],n2,n1⟩
theorem Ens.lone {d:DB}(N:d.Ens)(G:d.Good) {s x:Int}(hs:(d.at_ s).typ=0)(hx:d.has x=true)(ht:(d.at_ x).typ≠0):(d.at_ x).owner≠s:=fun e=>by
 by_cases h1:(d.at_ x).typ=1
 ·have:=G.own x hx h1
  rw [this]at e;rw [e]at ht;exact ht hs
 ·have:=(aO (N.sp x hx ht h1)).2
  rw [e]at this;omega
theorem wX.of {d D:DB} {s f:Int}(k:wX d D s f)(N:d.Ens)(G:d.Good) {x u o:Int}(hu:u≠0)(h1:u≠1):D.of x u o=true↔(x=f∧u=3∧o=s)∨(d.of x u o=true∧o≠s):=by
 constructor
 ·intro h
  obtain⟨a,b,c⟩:=bf h
  rcases(k.is hu).1 (eg ⟨a,b⟩)with⟨rfl,rfl⟩ | ⟨_,rfl⟩ | h2
  ·rw [k.hat _ (ai k.hf).1,if_pos rfl]at c
   exact .inl ⟨rfl,rfl,c.symm⟩
  ·exact absurd rfl h1
  ·obtain⟨p,q⟩:=aO h2
   have w:=k.same p (by omega)
   rw [w.1]at c
   exact .inr ⟨gL ⟨p,q,c⟩,fun e=>N.lone G k.fs p (by omega) (c.trans e)⟩
 ·rintro(⟨rfl,rfl,rfl⟩ | ⟨h,_⟩)
  ·exact gL ⟨by rw [k.hh];exact k.hf,by rw [k.hat _ (ai k.hf).1,if_pos rfl];exact⟨rfl,rfl⟩⟩
  ·obtain⟨p,q,c⟩:=bf h
   have w:=k.same p (by omega)
   exact gL ⟨by rw [k.hh];exact p,by rw [w.1];exact⟨q,c⟩⟩
theorem Tbl.space {d D:DB} {s f:Int}(T:d.Tbl)(N:d.Ens)(G:d.Good)(k:wX d D s f):D.Tbl:=by
 have wf:∀o,D.word f o=0:=fun o=>by rw [k.wo f o k.ne.symm];exact N.free f (eg ⟨k.hf,k.ff⟩) o
 refine Tbl.mk' fun x a b=>?_
 by_cases e:x=s
 ·subst e
  have o3:∀q,D.of q 3 x=true→q=f:=fun q h=>by
   rcases(k.of N G (by omega) (by omega)).1 h with h | h
   ·exact h.1
   ·exact absurd rfl h.2
  have o4:∀q u,u=4∨u=5→D.of q u x=true→False:=fun q u hu h=>by
   rcases(k.of N G (by omega) (by omega)).1 h with h | h
   ·omega
   ·exact absurd rfl h.2
  refine⟨?_,fun p hp o ho=>?_,fun p hp i i0 i1=>?_,fun p q hp hq=>?_,fun p i j hp hi hj wi wj e=>?_,fun p hp j j0 j1=>?_,fun p hp=>?_⟩
  ·rw [k.w0]
   exact⟨(k.of N G (by omega) (by omega)).2 (.inl ⟨rfl,rfl,rfl⟩),o3⟩
  ·rw [o3 p hp];exact wf o
  ·rw [o3 p hp];exact .inl (wf i)
  ·exact(o4 q 4 (by omega) hq).elim
  ·rw [o3 p hp]at wi;exact absurd (wf i) wi
  ·exact(o4 p 4 (by omega) hp).elim
  ·exact(o4 p 5 (by omega) hp).elim
 ·have hx:d.is x 1=true:=by
   rcases(k.is (by omega)).1 a with⟨_,h⟩ | ⟨h,_⟩ | h
   ·omega
   ·exact absurd h e
   ·exact h
  have w:=k.same (aO hx).1 (by have:=(aO hx).2;omega)
  rw [w.1]at b
  refine(T.x hx b).frame k.hI (k.wo x 0 e) (fun p u hu=>?_) (fun p o hp=>k.wo p o ?_)
  ·rw [k.of N G (by omega) (by omega)]
   exact⟨fun h=>h.elim (fun h9=>absurd h9.2.2 e) (fun h9=>h9.1),fun h=>.inr ⟨h,e⟩⟩
  ·rintro rfl
   rcases hp with h | h<;>(have:=(bf h).2.1;have:=k.fs;omega)
theorem Ens.space {d D:DB} {s f:Int}(N:d.Ens)(G:d.Good)(k:wX d D s f):D.Ens:=by
 have one:∀x,D.is x 1=true→x=s∨(x≠s∧d.is x 1=true∧D.at_ x=d.at_ x):=fun x hx=>by
  rcases(k.is (by omega)).1 hx with⟨_,h⟩ | ⟨h,_⟩ | h
  ·omega
  ·exact .inl h
  ·have w:=k.same (aO h).1 (by have:=(aO h).2;omega)
   exact .inr ⟨w.2.1,h,w.1⟩
 have zs:∀o,d.word s o=0:=N.free s (eg ⟨k.hs,k.fs⟩)
 have sa:D.at_ s=⟨1,s,1,1,false⟩:=by rw [k.hat _ (ai k.hs).1,if_neg k.ne,if_pos rfl]
 have fa:D.at_ f=⟨3,s,0,0,false⟩:=by rw [k.hat _ (ai k.hf).1,if_pos rfl]
 have fn:((f.toNat:Nat):Int)=f:=Int.toNat_of_nonneg (ai k.hf).1
 have fS:f.toNat<d.S:=by have:=ai k.hf;omega
 have abJ:∀q:Nat,q<d.S→d.has (q:Int)=true:=fun q hq=>by unfold has;simp;exact hq
 refine⟨fun x hx=>?_,fun x hx a b=>?_,fun x hx=>?_,fun x hx o=>?_,fun x hx=>?_,fun x hx=>?_,fun x y hx hy he=>?_,fun x hx o ho=>?_,fun x hx o ha hb=>?_,fun x hx=>?_,fun x hx st o ho=>?_,fun x hx st=>?_⟩
 ·rw [k.hh]at hx
  rw [k.hat x (ai hx).1]
  split
  ·show(3:Int)≠6;decide
  ·split
   ·show(1:Int)≠6;decide
   ·exact N.typ x hx
 ·rw [k.hh]at hx
  rw [k.hat x (ai hx).1]at a b ⊢
  by_cases e1:x=f
  ·rw [if_pos e1];exact(k.is (by omega)).2 (.inr (.inl ⟨rfl,rfl⟩))
  ·rw [if_neg e1]at a b ⊢
   by_cases e2:x=s
   ·rw [if_pos e2]at b;exact absurd rfl b
   ·rw [if_neg e2]at a b ⊢;exact(k.is (by omega)).2 (.inr (.inr (N.sp x hx a b)))
 ·have own:∀q:Nat,q<d.S→∀y:Int,(y≠s→(D.aP y q=true↔d.aP y q=true))∧(D.aP s q=true→q=f.toNat):=fun q hq y=>by
   have hq1:=abJ q hq
   have ha:=k.hat (q:Int) (by omega)
   refine⟨fun hy=>⟨fun h=>?_,fun h=>?_⟩,fun h=>?_⟩
   ·obtain⟨a,b,c⟩:=bH h
    rw [← cW]at b c
    rw [ha]at b c
    by_cases e1:(q:Int)=f
    ·rw [if_pos e1]at c;exact absurd c.symm hy
    ·rw [if_neg e1]at b c
     by_cases e2:(q:Int)=s
     ·rw [if_pos e2]at c;exact absurd c.symm hy
     ·rw [if_neg e2,cW]at b c;exact cG ⟨a,b,c⟩
   ·obtain⟨a,b,c⟩:=bH h
    have w:=k.same hq1 (by rw [cW];exact b)
    rw [cW,cW]at w
    exact cG ⟨a,by rw [w.1];exact b,by rw [w.1];exact c⟩
   ·obtain⟨a,b,c⟩:=bH h
    rw [← cW]at b c
    rw [ha]at b c
    by_cases e1:(q:Int)=f
    ·omega
    ·rw [if_neg e1,if_neg a]at b c
     exact absurd c (N.lone G k.fs hq1 b)
  rcases one x hx with rfl | ⟨n,h,ea⟩
  ·rw [sa]
   have u1:=ir (f:=fun _=>false) (g:=D.aP x) (p:=f.toNat) (n:=d.S) (cG (by
    rw [fn,show D.ent f.toNat=D.at_ f from rfl,fa]
    exact⟨k.ne.symm,(by show(3:Int)≠0;decide),rfl⟩)) rfl fS (fun q _ h9=>by cases h9)
   have u2:=j3 (f:=D.aP x) (g:=fun _=>false) (p:=f.toNat) (n:=d.S) (fun q hq OG h9=>absurd ((own q hq x).2 h9) OG)
   have u3:lQ (fun _=>false) d.S=0:=by unfold lQ;simp
   show(1:Int)=_
   unfold cnt
   rw [k.hS];omega
  ·rw [ea]
   have hc:D.cnt x=d.cnt x:=by
    unfold cnt
    rw [k.hS]
    exact Nat.le_antisymm (ez fun q hq h9=>((own q hq x).1 n).1 h9) (ez fun q hq h9=>((own q hq x).1 n).2 h9)
   rw [hc];exact N.refs x h
 ·obtain⟨a,b⟩:=aO hx
  rw [k.hh]at a
  rw [k.hat x (ai a).1]at b
  by_cases e1:x=f
  ·rw [if_pos e1]at b;cases b
  ·rw [if_neg e1]at b
   by_cases e2:x=s
   ·rw [if_pos e2]at b;cases b
   ·rw [if_neg e2]at b
    rw [k.wo x o e2];exact N.free x (eg ⟨a,b⟩) o
 ·rcases(k.is (by omega)).1 hx with⟨_,h⟩ | ⟨_,h⟩ | h
  ·omega
  ·omega
  ·have w:=k.same (aO h).1 (by have:=(aO h).2;omega)
   exact⟨by rw [w.1];exact(N.thr x h).1,fun o ho=>by rw [k.wo x o w.2.1];exact(N.thr x h).2 o ho⟩
 ·rcases one x hx with rfl | ⟨n,h,ea⟩
  ·rw [k.w1,k.w2,k.hb];exact⟨by omega,rfl⟩
  ·have:=N.qI x h
   rw [k.wo x 1 n,k.wo x 2 n,k.hb];exact⟨by omega,this.2⟩
 ·rcases one x hx with rfl | ⟨n,h,ea⟩
  ·rcases one y hy with rfl | ⟨n2,h2,_⟩
   ·rfl
   ·rw [k.w1,k.wo y 1 n2]at he
    have:=(N.qI y h2).1;omega
  ·rcases one y hy with rfl | ⟨n2,h2,_⟩
   ·rw [k.w1,k.wo x 1 n]at he
    have:=(N.qI x h).1;omega
   ·rw [k.wo x 1 n,k.wo y 1 n2]at he
    exact N.En x y h h2 he
 ·rcases one x hx with rfl | ⟨n,h,ea⟩
  ·rw [k.wz o (by omega) (by omega)];exact zs o
  ·rw [k.wo x o n];exact N.high x h o ho
 ·rcases one x hx with rfl | ⟨n,h,ea⟩
  ·rw [k.wz o ha (by omega)];exact zs o
  ·rw [k.wo x o n];exact N.low x h o ha hb
 ·rcases one x hx with rfl | ⟨n,h,ea⟩
  ·rw [sa];exact .inl rfl
  ·rw [ea];exact N.st x h
 ·rcases one x hx with rfl | ⟨n,h,ea⟩
  ·rw [sa]at st;cases st
  ·rw [ea]at st;rw [k.wo x o n];exact N.fin x h st o ho
 ·rcases one x hx with rfl | ⟨n,h,ea⟩
  ·rw [sa]at st;cases st
  ·rw [ea]at st;rw [k.dg x n]
   rcases N.stop x h st with h9 | h9
   ·exact .inl h9
   ·exact .inr fun o ho=>by rw [k.wo x o n];exact h9 o ho
theorem xD(m:Mem):∀(k:Nat),k≤m.S→∀(p o:Nat),p<k→(m.dw k).pg true p o=0
 | 0,_,p,o,h=>by omega
 | k+1,hk,p,o,h=>by
  show((m.dw k).zero true k).pg true p o=0
  unfold Mem.zero
  rw [if_pos (by unfold Mem.has Mem.cnt;simp;omega)]
  show(if true=true∧p=(k:Int).toNat then 0 else(m.dw k).pg true p o)=0
  by_cases h1:p=k
  ·rw [if_pos (by simp [h1])]
  ·rw [if_neg (by simp;omega)]
   exact xD m k (by omega) p o (by omega)
theorem GH(m:Mem)(p o:Int):(DB.new m).word p o=0:=by
 show(m.dw m.S).aZ true p o=0
 unfold Mem.aZ
 split
 ·rename_i h
  simp only [Bool.and_eq_true]at h
  refine xD m m.S (Nat.le_refl _) _ _ ?_
  have:=Mem.dO h.1
  have e:(m.dw m.S).cnt true=m.S:=Mem.mu m m.S
  omega
 ·rfl
theorem Jk(m:Mem):(DB.new m).Val:=by
 have no:∀x u,u≠0→(DB.new m).is x u=true→False:=fun x u hu h=>by
  have:(0:Int)=u:=(aO h).2
  exact hu this.symm
 refine⟨GI m,⟨fun x _=>?_,fun x _ h=>absurd rfl h,fun x h=>(no x 1 (by omega) h).elim,fun x _ o=>GH m x o,fun x h=>(no x 2 (by omega) h).elim,fun x h=>(no x 1 (by omega) h).elim,fun x _ h=>(no x 1 (by omega) h).elim,fun x h=>(no x 1 (by omega) h).elim,fun x h=>(no x 1 (by omega) h).elim,fun x h=>(no x 1 (by omega) h).elim,fun x h=>(no x 1 (by omega) h).elim,fun x h=>(no x 1 (by omega) h).elim⟩,Tbl.mk' fun x h=>(no x 1 (by omega) h).elim⟩
 show(0:Int)≠6
 decide
theorem fZ(m:Mem)(b:Bool)(p o v:Int):(m.write b p o v).I=m.I:=by unfold Mem.write;split<;>rfl
theorem AH(s:Int):∀(l:List Int)(m:Mem)(o:Int),(m.wrs s o l).I=m.I
 | [],_,_=>rfl
 | x::l,m,o=>by rw [Mem.wrs,AH s l,fZ]
theorem L7(m:Mem)(s:Bool)(p:Int)(s':Bool)(p':Int):(m.copy s p s' p').I=m.I:=by unfold Mem.copy;split<;>rfl
theorem Na(kk:List Int)(m:Mem)(s k a:Int)(l:List U32):(m.msd kk s k a l).I=m.I:=by
 unfold Mem.msd;split
 ·exact AH ..
 ·rfl
theorem Gs {kk:List Int} {m:Mem} {s k a x o:Int} {l:List U32}(hw:m.Wf)(hs:m.has true s=true)(ha:0≤a∧a<4294967296)(hk:k=1∨k=2∨k=3∨k=4)(hl:fW l)(hn:¬(x=s∧11≤o∧o<37)):(m.msd kk s k a l).aZ true x o=m.aZ true x o:=by
 unfold Mem.msd
 split
 ·rename_i h
  have F:=Dg.oO (K:=kk) (l:=opW k a l) (Dg.fE (Mem.mI hw s) h) (vW ha hk hl)
  have wl:=Dg.iL F.1
  by_cases e:x=s
  ·subst e
   rw [Mem.jR _ _ 11 hs (by omega) (by rw [wl];decide),if_neg (by rw [wl];omega)]
  ·exact fO (Ne.symm e) _ _ _
 ·rfl
theorem rp {kk:List Int} {D:DB} {s k a:Int} {l:List U32}(N:D.Ens)(T:D.Tbl)(hw:D.mem.Wf)(hs:D.aT s=0)(ha:0≤a∧a<4294967296)(hk:k=1∨k=2∨k=3∨k=4)(hl:fW l):(D.aD (fun m=>m.msd kk s k a l)).Ens∧(D.aD (fun m=>m.msd kk s k a l)).Tbl:=by
 have b:=bW.1 hs
 have hS:(D.mem.msd kk s k a l).S=D.mem.S:=Mem.lH ..
 have pk:=fun(x o:Int)(hn:¬(x=s∧11≤o∧o<37))=>Gs (kk:=kk) hw (show D.mem.has true s=true from b.1) ha hk hl hn
 have ns:∀x u,u≠1→D.is x u=true→x≠s:=fun x u hu h e=>by have:=(aO h).2;rw [e]at this;exact hu (this.symm.trans b.2.1)
 refine⟨N.aD hS (fun x o h=>pk x o (fun h9=>ns x 0 (by omega) h h9.1)) (fun x o h hn=>pk x o (fun h9=>hn ⟨by rw [h9.1];exact hs,h9.2⟩)) (fun x o h _=>pk x o (fun h9=>ns x 2 (by omega) h h9.1)),?_⟩
 refine T.frame (Na ..) (fun x h1 h2=>?_) (fun x p u _ _ _=>by rw [show(D.aD (fun m=>m.msd kk s k a l)).of p u x=D.of p u x from kA hS p u x]) (fun x p o _ _ hp=>pk p o ?_)
 ·have h1:D.is x 1=true:=by rw [← iq hS];exact h1
  exact⟨h1,h2,pk x 0 (by omega)⟩
 ·rintro⟨rfl,_⟩
  rcases hp with h | h<;>(have:=(bf h).2.1;omega)
theorem CK(v:Int):0≤vaJ v∧vaJ v<1024:=by unfold vaJ;split<;>omega
theorem Ba {d:DB} {s p b:Int}(N:d.Ens)(T:d.Tbl)(k:lY d p 2 s):((d.take p 2 s).aD (·.write true p 0 b)).Ens∧((d.take p 2 s).aD (·.write true p 0 b)).Tbl:=by
 have hS:((d.take p 2 s).mem.write true p 0 b).S=(d.take p 2 s).mem.S:=Mem.bh ..
 have other:∀x o,x≠p→((d.take p 2 s).mem.write true p 0 b).aZ true x o=d.word x o:=fun x o hx=>by
  rw [Mem.bU (Ne.symm hx),bx];rfl
 refine⟨(N.take k (by omega)).aD hS (fun x o h=>?_) (fun x o h _=>?_) (fun x o h ho=>?_),?_⟩
 ·have n:x≠p:=by rintro rfl;have:=(aO h).2;rw [k.self]at this;cases this
  rw [other x o n,cE]
 ·have n:x≠p:=by rintro rfl;have:=(aO h).2;rw [k.self]at this;cases this
  rw [other x o n,cE]
 ·by_cases n:x=p
  ·subst n
   have hp:(d.take x 2 s).mem.has true x=true:=by rw [bx];exact k.hp
   rw [Mem.dj hp (by decide),if_neg (by omega)];rfl
  ·rw [other x o n,cE]
 ·refine T.frame ?_ (fun x h1 h2=>?_) (fun x q u _ _ hu=>?_) (fun x q o _ _ hq=>?_)
  ·show((d.take p 2 s).mem.write true p 0 b).I=_
   rw [fZ,bx]
  ·have h1:(d.take p 2 s).is x 1=true:=by rw [← iq hS];exact h1
   rcases k.is (by omega) h1 with⟨_,h⟩ | ⟨n,h⟩
   ·omega
   ·have w:=k.same (aO h).1 n
    have h2:((d.take p 2 s).at_ x).state≠3:=h2
    rw [w.2.2.1]at h2
    exact⟨h,h2,other x 0 n⟩
  ·rw [show((d.take p 2 s).aD (·.write true p 0 b)).of q u x=(d.take p 2 s).of q u x from kA hS q u x,k.of (by omega)]
   exact⟨fun h=>h.resolve_left (by omega),.inr⟩
  ·refine other q o ?_
   rintro rfl
   rcases hq with h | h<;>(have:=(bf h).2.1;have:=k.fp;omega)
theorem DT {d:DB} {s p i:Int}(N:d.Ens)(T:d.Tbl)(G:d.Good)(Ub:d.S≤64)(hi:0≤i)(he:d.dh s p i=0):((d.take p 4 s).add s i p).Ens∧((d.take p 4 s).add s i p).Tbl:=by
 obtain⟨ht,ha⟩:=G.Nx Ub hi he
 have k:=A8 ht
 unfold dh at he
 have h1:¬d.aT s≠0:=by grind
 have h3:¬256≤i:=by grind
 have h5:d.word (d.tbl s) i=0:=by grind
 obtain⟨t1,t0,t2,t3,t4⟩:=nV G ht h1
 have O1:d.of (d.tbl s) 3 s=true:=by
  unfold tbl;rw [if_pos t0];exact G.tbl s (by omega)
 have e:(d.take p 4 s).add s i p=(d.take p 4 s).aD (·.write true (d.tbl s) i (bS p)):=by
  unfold add;rw [if_pos ha,t2]
 rw [e]
 have hS:((d.take p 4 s).mem.write true (d.tbl s) i (bS p)).S=(d.take p 4 s).mem.S:=Mem.bh ..
 have hh:(d.take p 4 s).mem.has true (d.tbl s)=true:=by rw [bx];exact(bf O1).1
 have hw:∀x o,((d.take p 4 s).aD (·.write true (d.tbl s) i (bS p))).word x o=if x=d.tbl s∧o=i then bS p else d.word x o:=fun x o=>by
  show((d.take p 4 s).mem.write true (d.tbl s) i (bS p)).aZ true x o=_
  by_cases e1:x=d.tbl s
  ·subst e1
   rw [Mem.dj hh (by unfold Mem.dU;simp;omega)]
   by_cases e2:o=i
   ·rw [if_pos e2,if_pos ⟨rfl,e2⟩]
   ·rw [if_neg e2,if_neg (fun h9=>e2 h9.2),bx];rfl
  ·rw [Mem.bU (Ne.symm e1),if_neg (fun h9=>e1 h9.1),bx];rfl
 have nt:∀x u,u≠3→(d.take p 4 s).is x u=true→x≠d.tbl s:=fun x u hu h e9=>by
  have h2:=(aO h).2
  rw [e9,(k.same (bf O1).1 t3).1,(bf O1).2.1]at h2
  exact hu h2.symm
 have same:∀x o,x≠d.tbl s→((d.take p 4 s).mem.write true (d.tbl s) i (bS p)).aZ true x o=(d.take p 4 s).word x o:=fun x o hx=>by
  rw [Mem.bU (Ne.symm hx)];rfl
 refine⟨(N.take k (by omega)).aD hS (fun x o h=>same x o (nt x 0 (by omega) h)) (fun x o h _=>same x o (nt x 1 (by omega) h)) (fun x o h _=>same x o (nt x 2 (by omega) h)),?_⟩
 have p64:p<64:=by have:=(ai k.hp).2;omega
 refine T.table N k p64 ⟨hi,by omega⟩ O1 h5 ?_ (fun x h=>?_) (fun x u o hu=>?_) hw
 ·show((d.take p 4 s).mem.write true (d.tbl s) i (bS p)).I=_
  rw [fZ,bx]
 ·have h:(d.take p 4 s).is x 1=true:=by rw [← iq hS];exact h
  rcases k.is (by omega) h with⟨_,h9⟩ | ⟨n,h9⟩
  ·omega
  ·exact⟨h9,(k.same (aO h9).1 n).2.2.1⟩
 ·rw [show((d.take p 4 s).aD (·.write true (d.tbl s) i (bS p))).of x u o=(d.take p 4 s).of x u o from kA hS x u o]
  exact k.of hu
theorem DW {d:DB} {s w n:Int}(N:d.Ens)(T:d.Tbl)(abT:d.mem.I≤64)(hn:0≤n)(he:d.dW s w n=0):(d.put s (cm w) (Mp.mk false n (paW w) false)).Ens∧(d.put s (cm w) (Mp.mk false n (paW w) false)).Tbl:=by
 obtain⟨_,_,h3,h4⟩:=Good.shares abT hn he
 obtain⟨o1,o2,o3,_⟩:=ye h4
 obtain⟨s1,s2,s3,s4⟩:=n6 o3
 have e:d.put s (cm w) (Mp.mk false n (paW w) false)=d.aD (·.write true (d.plP s (cm w)) (vaJ (cm w)) (Mp.mk false n (paW w) false).word):=by unfold put;rw [if_pos h4]
 rw [e]
 generalize hPp:d.plP s (cm w)=P at *
 generalize hJp:vaJ (cm w)=J at *
 have hJ:0≤J∧J<1024:=by rw [← hJp];exact CK _
 have hS:(d.mem.write true P J (Mp.mk false n (paW w) false).word).S=d.mem.S:=Mem.bh ..
 have hw:∀x o,(d.aD (·.write true P J (Mp.mk false n (paW w) false).word)).word x o=if x=P∧o=J then(Mp.mk false n (paW w) false).word else d.word x o:=fun x o=>by
  show(d.mem.write true P J (Mp.mk false n (paW w) false).word).aZ true x o=_
  by_cases e1:x=P
  ·subst e1
   rw [Mem.dj (show d.mem.has true x=true from(bf o1).1) (by unfold Mem.dU;simp;omega)]
   by_cases e2:o=J
   ·rw [if_pos e2,if_pos ⟨rfl,e2⟩]
   ·rw [if_neg e2,if_neg (fun h9=>e2 h9.2)];rfl
  ·rw [Mem.bU (Ne.symm e1),if_neg (fun h9=>e1 h9.1)];rfl
 have nt:∀x u,u≠4→d.is x u=true→x≠P:=fun x u hu h e9=>by
  have h2:=(aO h).2
  rw [e9,(bf o1).2.1]at h2
  exact hu h2.symm
 have same:∀x o,x≠P→(d.mem.write true P J (Mp.mk false n (paW w) false).word).aZ true x o=d.word x o:=fun x o hx=>Mem.bU (Ne.symm hx)
 refine⟨N.aD hS (fun x o h=>same x o (nt x 0 (by omega) h)) (fun x o h _=>same x o (nt x 1 (by omega) h)) (fun x o h _=>same x o (nt x 2 (by omega) h)),?_⟩
 exact T.share o1 s4 o2 rfl h3 (fZ ..) (fun x h=>⟨by rw [← iq hS];exact h,rfl⟩) (fun x u o=>kA hS x u o) hw
theorem BI {d:DB} {s p w n:Int}(G:d.Good)(hS:d.S≤64)(hn:0≤n)(he:d.dq s p w n=0):((d.take p 5 s).aD (·.copy true p false n)).plP s (cm w)=d.plP s (cm w)∧d.of (d.plP s (cm w)) 4 s=true∧d.word (d.plP s (cm w)) (vaJ (cm w))=0∧lY d p 5 s:=by
 obtain⟨_,ht,_,hp⟩:=G.Mm hS hn he
 have k:=A8 ht
 unfold dq at he
 have h1:¬d.aT s≠0:=by grind
 have h6:d.eE s (cm w)=0:=by grind
 obtain⟨t1,t0,t2,t3,t4⟩:=nV G ht h1
 obtain⟨s1,s2,s3,s4⟩:=n6 (vL h6)
 have pf:iP (d.word (d.tbl s) (vaI (cm w)))=0∧d.of (aH (d.word (d.tbl s) (vaI (cm w)))) 4 s=true:=by simpa [iK]using s3
 obtain⟨o1,o2,o3,_⟩:=ye hp
 obtain⟨u1,_,_,_⟩:=n6 o3
 have ww:∀x y,x≠p→((d.take p 5 s).aD (·.copy true p false n)).word x y=d.word x y:=fun x y hx=>by
  show((d.take p 5 s).mem.copy true p false n).aZ true x y=_
  rw [Mem.iC (Ne.symm hx),bx];rfl
 have hTb:((d.take p 5 s).aD (·.copy true p false n)).tbl s=d.tbl s:=by
  rw [← t2]
  unfold DB.tbl
  rw [if_pos u1,if_pos t1,ww s 0 k.ne,cE]
 refine⟨?_,pf.2,s4,k⟩
 unfold plP
 rw [hTb,ww _ _ t3]
theorem He {d:DB} {s p w n:Int}(N:d.Ens)(T:d.Tbl)(G:d.Good)(Ub:d.S≤64)(hn:0≤n)(he:d.dq s p w n=0):(d.cO s p w n).Ens∧(d.cO s p w n).Tbl:=by
 obtain⟨e0,hP,hz,k⟩:=BI G Ub hn he
 obtain⟨_,_,_,hp⟩:=G.Mm Ub hn he
 have hM:(Mp.mk true p (paW w) (paX w)).err=0:=(ye hp).2.1
 have e:d.cO s p w n=(d.take p 5 s).aE (((d.take p 5 s).mem.copy true p false n).write true (d.plP s (cm w)) (vaJ (cm w)) (Mp.mk true p (paW w) (paX w)).word):=by
  unfold cO put;rw [if_pos hp,e0];rfl
 rw [e]
 have hJ:=CK (cm w)
 generalize hPp:d.plP s (cm w)=P at *
 generalize hJp:vaJ (cm w)=J at *
 have Pp:P≠p:=by rintro rfl;have:=(bf hP).2.1;have:=k.fp;omega
 have hS:(((d.take p 5 s).mem.copy true p false n).write true P J (Mp.mk true p (paW w) (paX w)).word).S=(d.take p 5 s).mem.S:=by rw [Mem.bh,Mem.lZ]
 have hh:((d.take p 5 s).mem.copy true p false n).has true P=true:=by rw [Mem.sP,bx];exact(bf hP).1
 have hw:∀x o,x≠p→((d.take p 5 s).aE (((d.take p 5 s).mem.copy true p false n).write true P J (Mp.mk true p (paW w) (paX w)).word)).word x o=if x=P∧o=J then(Mp.mk true p (paW w) (paX w)).word else d.word x o:=fun x o hx=>by
  rw [dR]
  by_cases e1:x=P
  ·subst e1
   rw [Mem.dj hh (by unfold Mem.dU;simp;omega)]
   by_cases e2:o=J
   ·rw [if_pos e2,if_pos ⟨rfl,e2⟩]
   ·rw [if_neg e2,if_neg (fun h9=>e2 h9.2),Mem.iC (Ne.symm hx),bx];rfl
  ·rw [Mem.bU (Ne.symm e1),if_neg (fun h9=>e1 h9.1),Mem.iC (Ne.symm hx),bx];rfl
 have nt:∀x u,u≠4→u≠5→(d.take p 5 s).is x u=true→x≠P∧x≠p:=fun x u hu h5 h=>by
  have h2:=(aO h).2
  refine⟨fun e9=>?_,fun e9=>?_⟩
  ·rw [e9,(k.same (bf hP).1 Pp).1,(bf hP).2.1]at h2
   exact hu h2.symm
  ·rw [e9,k.self]at h2
   exact h5 h2.symm
 have same:∀x o,x≠P∧x≠p→(((d.take p 5 s).mem.copy true p false n).write true P J (Mp.mk true p (paW w) (paX w)).word).aZ true x o=(d.take p 5 s).word x o:=fun x o hx=>by
  rw [Mem.bU (Ne.symm hx.1),Mem.iC (Ne.symm hx.2)];rfl
 refine⟨(N.take k (by omega)).aD hS (fun x o h=>same x o (nt x 0 (by omega) (by omega) h)) (fun x o h _=>same x o (nt x 1 (by omega) (by omega) h)) (fun x o h _=>same x o (nt x 2 (by omega) (by omega) h)),?_⟩
 refine T.data k hP hJ hz hM rfl rfl ?_ (fun x h=>?_) (fun x u o hu=>?_) hw
 ·show(((d.take p 5 s).mem.copy true p false n).write true P J _).I=_
  rw [fZ,L7,bx]
 ·have h:(d.take p 5 s).is x 1=true:=by rw [← iq hS];exact h
  rcases k.is (by omega) h with⟨_,h9⟩ | ⟨n,h9⟩
  ·omega
  ·exact⟨h9,(k.same (aO h9).1 n).2.2.1⟩
 ·rw [kA hS]
  exact k.of hu
theorem pB {d:DB} {p t s:Int}(k:lY d p t s)(hs:¬d.aT s≠0):(d.take p t s).aT s=0:=by
 have b:=kI hs
 have w:=k.same k.hs k.ne
 exact bW.2 ⟨by rw [k.eq];exact k.hs,by rw [w.1];exact k.ts,by rw [w.2.2.1];exact b.2.2⟩
theorem zb {kk:List Int} {d:DB} {o:LOp}(ho:o.Ok)(V:d.Val)(hw:d.mem.Wf):(d.call kk o).Val:=by
 suffices h:(d.call kk o).Ens∧(d.call kk o).Tbl from⟨EA ho V.BC hw,h.1,h.2⟩
 by_cases he:d.dC o=0
 ·have G:=V.BC
  have N:=V.ens
  have T:=V.tab
  have hS:d.S≤64:=hw.2.1
  obtain⟨a1,a2,a3,a4⟩:=ho
  unfold dC at he
  unfold call
  by_cases k1:o.k=1
  ·rw [if_pos k1]at he ⊢
   have k:=Nm he
   exact⟨N.space G k,T.space N G k⟩
  ·rw [if_neg k1]at he ⊢
   by_cases k2:o.k=2
   ·rw [if_pos k2]at he ⊢
    have VD:=he
    unfold bV at VD
    have h1:¬d.aT o.a≠0:=by grind
    have h2:¬d.bn o.b≠0:=by grind
    have h3:¬d.bw o.b≠0:=by grind
    have k:=A8 (G.xM hS h1 h2 h3 (t:=2) (by omega))
    have v:=Ba (b:=o.c) N T k
    unfold bu
    rw [if_pos he]
    exact rp (D:=(d.take o.b 2 o.a).aD (·.write true o.b 0 o.c)) v.1 v.2 (qB hw a3 h1 h2 h3).wf (by rw [fj (f:=fun m=>m.write true o.b 0 o.c) (Mem.bh ..)];exact pB k h1) a3 (by omega) jH
   ·rw [if_neg k2]at he ⊢
    by_cases k3:o.k=3
    ·rw [if_pos k3]at he ⊢
     have VD:=he
     unfold dh at VD
     have h1:¬d.aT o.a≠0:=by grind
     have h2:¬d.bn o.b≠0:=by grind
     have h3:¬d.bw o.b≠0:=by grind
     have k:=A8 (G.xM hS h1 h2 h3 (t:=4) (by omega))
     have v:=DT N T G hS a3.1 he
     unfold dG
     rw [if_pos he]
     exact rp v.1 v.2 (sM hw h1 h2 h3).wf (by rw [HF];exact pB k h1) a3 (by omega) jH
    ·rw [if_neg k3]at he ⊢
     by_cases k4:o.k=4
     ·rw [if_pos k4]at he ⊢
      have VD:=he
      unfold dq at VD
      have h1:¬d.aT o.a≠0:=by grind
      have h2:¬d.bn o.b≠0:=by grind
      have h3:¬d.bw o.b≠0:=by grind
      have k:=A8 (G.xM hS h1 h2 h3 (t:=5) (by omega))
      have v:=He N T G hS a4.1 he
      have K:Kept d (d.cO o.a o.b o.c o.d) o.a:=uX hw h1 h2 h3
      unfold eO
      rw [if_pos he]
      have e:(d.cO o.a o.b o.c o.d).aD (fun m=>m.msd kk o.a 3 o.c (m.words true o.b.toNat))=(d.cO o.a o.b o.c o.d).aD (fun m=>m.msd kk o.a 3 o.c ((d.cO o.a o.b o.c o.d).mem.words true o.b.toNat)):=by
       unfold aD;rfl
      rw [e]
      exact rp v.1 v.2 K.wf (by rw [cO,vS,fj (f:=fun m=>m.copy true o.b false o.d) (Mem.lZ ..)];exact pB k h1) a3 (by omega) (Mem.rL K.wf _ _)
     ·rw [if_neg k4]at he ⊢
      have VD:=he
      unfold dW at VD
      have h1:¬d.aT o.a≠0:=by grind
      have v:=DW N T hw.2.2 a3.1 he
      unfold dH
      rw [if_pos he]
      exact rp v.1 v.2 (sN (s:=o.a) hw).wf (by rw [vS];omega) a2 (by omega) jH
 ·rw [JJ he];exact⟨V.ens,V.tab⟩
theorem tk {d:DB} {o:LOp}(V:d.Val):(d.beside o).Val:=by
 suffices h:(d.beside o).Ens∧(d.beside o).Tbl from⟨ze V.BC,h.1,h.2⟩
 have N:=V.ens
 have T:=V.tab
 unfold beside
 by_cases k6:o.k=6
 ·rw [if_pos k6]
  have hS:(d.mem.write false o.a (o.b % 1024) o.c).S=d.mem.S:=Mem.bh ..
  have pk:∀x y,(d.mem.write false o.a (o.b % 1024) o.c).aZ true x y=d.word x y:=fun x y=>Mem.yk
  refine⟨N.aD hS (fun x y _=>pk x y) (fun x y _ _=>pk x y) (fun x y _ _=>pk x y),?_⟩
  exact T.frame (fZ ..) (fun x h1 h2=>⟨by rw [← iq hS];exact h1,h2,pk x 0⟩) (fun x p u _ _ _=>by rw [show(d.aD (·.write false o.a (o.b % 1024) o.c)).of p u x=d.of p u x from kA hS p u x]) (fun x p y _ _ _=>pk p y)
 rw [if_neg k6]
 by_cases k7:o.k=7
 ·rw [if_pos k7]
  by_cases hb:d.lL o.a=true
  ·rw [if_pos hb]
   have b0:d.has o.a=true∧(d.at_ o.a).typ=1∧(d.at_ o.a).state=1:=by simpa [lL,and_assoc]using hb
   have hS:(d.mem.wrs o.a 11 (List.replicate 26 0)).S=d.mem.S:=Mem.ig ..
   have UO:d.aT o.a=0:=bW.2 b0
   have pk:∀x y,¬(x=o.a∧11≤y∧y<37)→(d.mem.wrs o.a 11 (List.replicate 26 0)).aZ true x y=d.word x y:=fun x y hn=>by
    by_cases e:x=o.a
    ·subst e
     rw [Mem.jR _ _ 11 (show d.mem.has true o.a=true from b0.1) (by omega) (by decide),if_neg (by simp only [List.length_replicate];omega)];rfl
    ·exact fO (Ne.symm e) _ _ _
   have pz:∀y,11≤y→(d.mem.wrs o.a 11 (List.replicate 26 0)).aZ true o.a y=0:=fun y hy=>by
    by_cases h37:y<37
    ·rw [Mem.jR _ _ 11 (show d.mem.has true o.a=true from b0.1) (by omega) (by decide),if_pos (by simp only [List.length_replicate];omega),List.getD_eq_getElem?_getD,List.getElem?_replicate]
     split<;>rfl
    ·rw [pk o.a y (by omega)];exact N.high o.a (eg ⟨b0.1,b0.2.1⟩) y (by omega)
   have ns:∀x u,u≠1→d.is x u=true→x≠o.a:=fun x u hu h e=>by have:=(aO h).2;rw [e]at this;exact hu (this.symm.trans b0.2.1)
   have N1:(d.aD (·.wrs o.a 11 (List.replicate 26 0))).Ens:=N.aD hS (fun x y h=>pk x y (fun h9=>ns x 0 (by omega) h h9.1)) (fun x y h hn=>pk x y (fun h9=>hn ⟨by rw [h9.1];exact UO,h9.2⟩)) (fun x y h _=>pk x y (fun h9=>ns x 2 (by omega) h h9.1))
   refine⟨N1.setState (by omega) (fun _ y hy=>pz y hy) (fun h=>by omega),?_⟩
   refine T.frame ?_ (fun x h1 h2=>?_) (fun x p u h1 h2 hu=>?_) (fun x p y _ _ hp=>?_)
   ·rw [cI];exact AH ..
   ·rw [gI]at h1
    have h1':d.is x 1=true:=by rw [← iq hS];exact h1
    refine⟨h1',?_,?_⟩
    ·rcases(cq (d:=d.aD (·.wrs o.a 11 (List.replicate 26 0))) (p:=o.a) (s:=2) (aO h1).1).2.2.2.2 with h | ⟨e,h⟩
     ·rw [h]at h2;exact h2
     ·rw [e];omega
    ·rw [bC];exact pk x 0 (by omega)
   ·have ho:∀t y,((d.aD (·.wrs o.a 11 (List.replicate 26 0))).setState o.a 2).of p t y=(d.aD (·.wrs o.a 11 (List.replicate 26 0))).of p t y:=fun t y=>by
     unfold of
     rw [gI]
     cases hp:(d.aD (·.wrs o.a 11 (List.replicate 26 0))).is p t
     ·rfl
     ·rw [(cq (aO hp).1).2.1]
    rw [ho,show(d.aD (·.wrs o.a 11 (List.replicate 26 0))).of p u x=d.of p u x from kA hS p u x]
   ·rw [bC]
    refine pk p y ?_
    rintro⟨rfl,_⟩
    rcases hp with h | h<;>(have:=(bf h).2.1;omega)
  ·rw [if_neg hb];exact⟨N,T⟩
 rw [if_neg k7]
 by_cases k8:o.k=8
 ·rw [if_pos k8]
  refine⟨N.setState (by omega) (fun h=>by omega) (fun _ hi=>?_),?_⟩
  ·rcases N.st o.a hi with s | s | s
   ·exact .inl (V.BC.inv o.a (bW.2 ⟨(aO hi).1,(aO hi).2,s⟩))
   ·exact .inr (N.fin o.a hi s)
   ·exact N.stop o.a hi s
  ·refine T.frame (by rw [cI]) (fun x h1 h2=>?_) (fun x p u h1 h2 hu=>?_) (fun x p y _ _ _=>bC p y)
   ·rw [gI]at h1
    refine⟨h1,?_,bC x 0⟩
    rcases(cq (p:=o.a) (s:=3) (aO h1).1).2.2.2.2 with h | ⟨e,h⟩
    ·rw [h]at h2;exact h2
    ·exact absurd h h2
   ·have ho:(d.setState o.a 3).of p u x=d.of p u x:=by
     unfold of
     rw [gI]
     cases hp:d.is p u
     ·rfl
     ·rw [(cq (aO hp).1).2.1]
    rw [ho]
 rw [if_neg k8]
 by_cases k9:o.k=9
 ·rw [if_pos k9]
  by_cases hg:d.oA o.a=true
  ·rw [if_pos hg]
   have k:=gone hg
   by_cases he:d.cZ o.a=0
   ·have e:d.dY o.a=d.aW o.a:=by unfold DB.dY;rw [if_pos he]
    rw [e]
    refine⟨N.dY V.BC k,?_⟩
    refine T.frame ?_ (fun x h1 h2=>?_) (fun x p u h1 h2 hu=>?_) (fun x p y h1 h2 hp=>?_)
    ·rw [oB];unfold Mem.zero;split<;>rfl
    ·obtain⟨n,h⟩:=(k.is (by omega)).1 h1
     rw [(k.same (aO h).1 n).2.2.1]at h2
     exact⟨h,h2,dz n⟩
    ·obtain⟨n,h⟩:=(k.is (by omega)).1 h1
     rw [(k.same (aO h).1 n).2.2.1]at h2
     constructor
     ·intro h9
      obtain⟨a,b,c⟩:=bf h9
      obtain⟨m,q⟩:=(k.is (by omega)).1 (eg ⟨a,b⟩)
      have w:=k.same (aO q).1 m
      exact gL ⟨(aO q).1,(aO q).2,by rw [← w.2.1];exact c⟩
     ·intro h9
      obtain⟨a,b,c⟩:=bf h9
      have m:p≠o.a:=by rintro rfl;rw [← c]at h2;exact h2 k.st
      have w:=k.same a m
      exact gL ⟨by rw [jY];exact a,by rw [w.1];exact b,by rw [w.2.1];exact c⟩
    ·obtain⟨n,h⟩:=(k.is (by omega)).1 h1
     rw [(k.same (aO h).1 n).2.2.1]at h2
     refine dz ?_
     rintro rfl
     rcases hp with h9 | h9<;>(have c:=(bf h9).2.2;rw [← c]at h2;exact h2 k.st)
   ·have e:d.dY o.a=d:=by unfold DB.dY;rw [if_neg he]
    rw [e];exact⟨N,T⟩
  ·rw [if_neg hg];exact⟨N,T⟩
 ·rw [if_neg k9];exact⟨N,T⟩
end DB
end Go.Proofs.YtinhphjfnedhgaaGreatDoor
namespace Go.Proofs.YtinhphjfnedhgaaGreatDoor
open Go.Proofs.Tryz (prog)
open Go Go.RowKit V
open Go.IntKind (i64 u32 u64)
section
set_option maxRecDepth 100000
set_option maxHeartbeats 1000000
attribute [local irreducible] Vc2 VcD
def nI:Ctr Un:=⟨[.one (.any)],[(0,9)],[.ob 9 []],[],fun pv r s K=>Value.pointer (some (Addr.mk (Sv.pD s) 0 none))=pv∧K ⟨(.tuple #[(.int .i64 s.D.broken.1),(.int .i64 s.D.broken.2)]),(some (.t [none,none])),[],[],[]⟩⟩
theorem B3:LV Un prog 26 nI:=by
 show ∀(pv:Value)(r:Nat→Nat)(s:Sv),∀Q:Ou Un→Prop,(Value.pointer (some (Addr.mk (Sv.pD s) 0 none))=pv∧Q ⟨(.tuple #[(.int .i64 s.D.broken.1),(.int .i64 s.D.broken.2)]),(some (.t [none,none])),[],[],[]⟩)→∀(X:Nat→Nat→Prop)(w:World),Sat (U:=Un) [(.ob 9 r s)] X w→ax (U:=Un) [(.ob 9 r s)] fr0 []→Calls prog 26 #[pv] w (aU (U:=Un) [(.ob 9 r s)] [] X w Q)
 intro pv r s Q hQ X w hs hl
 obtain⟨Vo,hQ⟩:=hQ
 subst Vo
 refine svP (rest:= []) (k1:=some (.t [none,none])) rfl hs (fun r1 rm X1 Pn Px e=>?_) hQ (KnO.tup _ (by simp))
 rw [e.1];exact ES r1 s.D.pd rm s.D.mem (fun o=>o=_) ⟨rfl,rfl⟩ X1 w Pn Px
def lj:Ctr Un:=⟨[.agg [.int .i64,.int .i64],.one (.sl 0)],[(1,5)],[.lst 5 false 31,.ob 5 []],[],fun s i A c l rk kk K=>((∀o∈l,LOp.Ok o))∧l.length≤140737488355328∧K ⟨(.bool true),none,[],[],[]⟩⟩
def qY(s:Int)(i:Int)(A:Option Addr)(c:Nat)(l:List LOp)(rk:Nat→Nat)(kk:List Int)(Q:Ou Un→Prop):Prop:=
 ∀(gv:Nat),
 split (okM s i) (
  ∀(r:Nat→Nat)(s1:Sv),
  s1.D=DB.new (Mem.fresh s.toNat i.toNat)→
  ∀(s2:Sv),s2=s1→
  Sv.Ok s2→
  ∃J:Bool→Prop,(
   J false)∧∀(NU:Nat→Value)(PA:Bool),J PA→
  split PA (
   Q ⟨(.bool false),none,[],[],[]⟩) (
   ∀i1:Int,i1=0→
   ∃I:Nat→Option Addr→Int→Sv→Prop,(∃m,I m (some (Addr.mk (Sv.pD s1) 0 none)) i1 s2)∧∀(m:Nat)(OJ:Nat→Value)(d:Option Addr)(i2:Int)(s3:Sv),I m d i2 s3→
   Sv.Ok s3→
   split (decide (i2<(l.length:Int))) (
    (0≤i2∧i2<(l.length:Int))∧
    ∀(NW:Nat),
    ∃J1:Bool→Prop,(
     split (decide ((l.getD i2.toNat (LOp.mk 0 0 0 0 0)).k<1)) (
      J1 true) (
      J1 (decide ((l.getD i2.toNat (LOp.mk 0 0 0 0 0)).k>5))))∧∀(QD:Nat→Value)(PM:Bool),J1 PM→
    split PM (
     Value.pointer (some (Addr.mk (Sv.pD s3) 0 none))=(.pointer d)∧
     LOp.Ok (l.getD i2.toNat (LOp.mk 0 0 0 0 0))∧
     ∀(s4:Sv),s4= {s3 with D:=s3.D.beside (l.getD i2.toNat (LOp.mk 0 0 0 0 0))}→
     Sv.Ok s4→
     Value.pointer (some (Addr.mk (Sv.pD s4) 0 none))=(.pointer d)∧
     ∀(On:Sv),
     On.D=s4.D→
     ∀(s5:Sv),s5=On→
     Sv.Ok s5→
     Value.pointer (some (Addr.mk (Sv.pD s5) 0 none))=(.pointer (some (Addr.mk (Sv.pD On) 0 none)))∧
     split (s5.D.broken.1 !=0) (
      Q ⟨(.bool false),none,[],[],[]⟩) (
      ∀i3:Int,i3=(i64.wrap (i2+1))→
      ∃m1,m1<m∧I m1 (some (Addr.mk (Sv.pD On) 0 none)) i3 s5)) (
     Value.pointer (some (Addr.mk (Sv.pD s3) 0 none))=(.pointer d)∧
     LOp.Ok (l.getD i2.toNat (LOp.mk 0 0 0 0 0))∧
     ∀(s4:Sv),s4= {s3 with D:=DB.call kk s3.D (l.getD i2.toNat (LOp.mk 0 0 0 0 0))}→
     Sv.Ok s4→
     Value.pointer (some (Addr.mk (Sv.pD s4) 0 none))=(.pointer d)∧
     split (s4.D.broken.1 !=0) (
      Q ⟨(.bool false),none,[],[],[]⟩) (
      ∀i3:Int,i3=(i64.wrap (i2+1))→
      ∃m1,m1<m∧I m1 d i3 s4))) (
    Value.pointer (some (Addr.mk (Sv.pD s3) 0 none))=(.pointer d)∧
    ∃J1:Bool→Prop,(
     split (s3.D.broken.1==0) (
      J1 (s3.D.broken.2==0)) (
      J1 false))∧∀(Ry:Nat→Value)(x4:Bool),J1 x4→
    Q ⟨(.bool x4),none,[],[],[]⟩))) (
  ∃J:Bool→Prop,(
   J false)∧∀(NU:Nat→Value)(PA:Bool),J PA→
  split PA (
   Q ⟨(.bool false),none,[],[],[]⟩) (
   Q ⟨(.bool true),none,[],[],[]⟩))
theorem qZ:Vc2 Un prog (aQ [(16,nN),(8,kb),(11,kS),(13,l8),(26,nI),(9,kQ)]) [7] Tryz.f6 (.r' (.r' (.two (.two (.node [] (some ⟨[(23,(.one .bool))],[],upN 18 6,[]⟩) [] [] .leaf .leaf) .leaf) (.r' (.two (.r' (.two (.node [] (some ⟨[(5,(.one .ptr)),(7,(.one (.int .i64)))],[],[4,5,7,8,9,10]++upN 26 34,[(3,(.ob 9))]⟩) [] [] (.r' (.two (.two (.r' (.two (.two (.node [] (some ⟨[(43,(.one .bool))],[],upN 36 8,[]⟩) [] [] .leaf .leaf) .leaf) .leaf)) .leaf) .leaf)) .leaf) .leaf)) (.r' (.two (.node [] (some ⟨[(4,(.one .bool))],[],[4]++upN 65 6,[]⟩) [] [] .leaf .leaf) .leaf))))))) [] lj=(∀s i A c (l:List LOp) rk (kk:List Int),∀Q,(((∀o∈l,LOp.Ok o))∧l.length≤140737488355328∧Q ⟨(.bool true),none,[],[],[]⟩)→qY s i A c l rk kk Q):=by kernel_rfl
theorem qX:LV Un prog 6 lj:=verify Tryz.func6 aa (tb:= [(16,nN),(8,kb),(11,kS),(13,l8),(26,nI),(9,kQ)]) ⟨Ck,Fm,xn,Ak,B3,xm,trivial⟩ (by kernel_rfl) (qZ.mpr fun s i A c l rk kk Q h=>by
 obtain⟨NL,NQ,h⟩:=h
 exact fun gv=>ab (fun c1 r s1 f1 s2 OI f2=>⟨fun PA=>(PA=false),(by rfl),fun _ PA hx=>ab (fun c2=>(by exfalso;have h9:PA=false:=hx;rw [h9]at c2;cases c2)) fun c2=>allEq<| ⟨fun m d i2 s3=>(m=((l.length:Int) - i2).toNat)∧(0≤i2∧i2≤(l.length:Int))∧(d=some (Addr.mk (Sv.pD s3) 0 none))∧(DB.Val s3.D),⟨_,rfl,(by omega),(by rw [OI]),(by rw [OI,‹s1.D=_›];exact DB.Jk _)⟩,fun m _ d i2 s3 ⟨hm,hi,hd,hV⟩=>fun f3=>ar (fun c3=>af (by omega) fun e4 NW=>⟨fun PM=>True,ar (fun c4=>(by trivial)) fun c4=>(by trivial),fun _ PM hj=>ab (fun c5=>af (by rw [hd]) fun e5=>af (NL _ (ry (by omega))) fun e6 s4 Po f7=>af (by rw [hd,Po]) fun e8 On f9 s5 Rv f10=>af (by rw [Rv]) fun e11=>aL (fun c6=>(by exfalso;(have hv:DB.Val s5.D:=by rw [Rv,‹On.D=s4.D›,Po];exact DB.tk hV);have Wh:=hv.broken (‹Sv.Ok s5› :Sv.Ok s5).wf.2.1;rw [Wh]at c6;exact c6 rfl)) fun c6=>allEq<| ⟨_,(by rw [aq (by omega)];omega),rfl,(by rw [aq (by omega)];omega),(by(rw [Rv];done)),(by(rw [Rv,‹On.D=s4.D›,Po];exact DB.tk hV))⟩) fun c5=>af (by rw [hd]) fun e12=>af (NL _ (ry (by omega))) fun e13 s4 Po f14=>af (by rw [hd,Po]) fun e15=>aL (fun c7=>(by exfalso;(have hv:DB.Val s4.D:=by rw [Po];exact DB.zb (NL _ (ry (by omega))) hV (‹Sv.Ok s3› :Sv.Ok s3).wf);have Wh:=hv.broken (‹Sv.Ok s4› :Sv.Ok s4).wf.2.1;rw [Wh]at c7;exact c7 rfl)) fun c7=>allEq<| ⟨_,(by rw [aq (by omega)];omega),rfl,(by rw [aq (by omega)];omega),(by(rw [Po];exact hd)),(by(rw [Po];exact DB.zb (NL _ (ry (by omega))) hV (‹Sv.Ok s3› :Sv.Ok s3).wf))⟩⟩) fun c3=>(by have Wh:=hV.broken (‹Sv.Ok s3› :Sv.Ok s3).wf.2.1;exact af (by rw [hd]) fun Z5=>⟨fun x4=>(x4=true),aC (fun c8=>(by rw [Wh];rfl)) fun c8=>(by exfalso;rw [Wh]at c8;exact c8 rfl),fun _ x4 hx4=>cl h (by exact hx4.symm)⟩)⟩⟩) fun c1=>⟨fun PA=>(PA=false),(by rfl),fun _ PA hx=>ab (fun c9=>(by exfalso;have h9:PA=false:=hx;rw [h9]at c9;cases c9)) fun c9=>cl h (by rfl)⟩)
end
end Go.Proofs.YtinhphjfnedhgaaGreatDoor
namespace Go.Proofs.YtinhphjfnedhgaaGreatDoor
open Go.Proofs.Tryz (prog)
open Go Go.RowKit V Go.ChangeShapes Go.WideShapes Go.ChangeAt
open Go.IntKind (i64 u32 u64)
open Enc (enc)
theorem Js:ownKnob prog.godebug=none:=by kernel_rfl
theorem qz:laidOutB prog=true:=by kernel_rfl
theorem Jt:prog.bytesOf 31=24:=by kernel_rfl
theorem Lr:prog.cellsOf 31=5:=by kernel_rfl
theorem Bz:prog.cellsOf 3=1:=by kernel_rfl
theorem sL:prog.cellsOf 29=1:=by kernel_rfl
def Np:DataW Unit→List Int
 | .agg l=>l.filterMap fun d=>match d with
  | .lit (.int _ x)=>some x
  | _=>none
 | _=>[]
def kR:List Int:=Np Rows.laid_warden_sha_rounds
theorem Jv:Rows.laid_warden_sha_rounds (H:=Unit)= .agg (kR.map fun x=>.lit (.int .u32 x)):=by kernel_rfl
theorem GW:kR.length=64:=by kernel_rfl
theorem Di:prog.globalNamed "warden/sha.rounds" =some 0:=by kernel_rfl
theorem Jg {W:World}(h:laidMetH prog Rows.buildValidRow.laid W):mR W 0 kR:=by
 rw [MakeChecks.laidMetH_plain _ _ _ (by kernel_rfl)]at h
 obtain⟨ps,⟨g0,t0,VY,f0,p0,q0,hg0,ht0,hv0,hd0,hq0,e0⟩,_,hc⟩:=h
 obtain rfl:=Option.some.inj (Di.symm.trans hg0)
 obtain rfl:=Option.some.inj ((show(prog.globals[0]?).map (·.type)=some 287 by kernel_rfl).symm.trans ht0)
 rw [Jv]at hd0
 have c0:=D9 Tryz.underlying287 Tryz.underlying29 sL hd0 (by kernel_rfl)
 obtain⟨VY⟩:=VY
 simp only at c0
 subst c0
 have s0:∀x:Nat,MemPlace.row ⟨0,0,none⟩ (kR.map (Value.int .u32)).toArray.size ⊆ ps:=fun _=>by rw [e0];intro y hy;simp only [List.mem_append];exact .inl (.inl hy)
 have z0:0<(kR.map (Value.int .u32)).toArray.size:=by simp [GW]
 exact⟨GW,Gx Di hv0 z0 (s0 0) hc⟩
theorem G9(os:Os)(args:Array Value):laidMetH prog Rows.buildValidRow.laid ((World.doorLaid prog 400 os).forCall (fun _ _=>0) ⟨#[],args,[]⟩).memory:=
 laidMetH_of_parts3 (fuel:=8) (laidMet_of_run' 8 (by kernel_rfl) (by kernel_rfl)) (by kernel_rfl) (by kernel_rfl)
set_option maxRecDepth 100000 in
theorem By(os:Os)(started:os.Started)(H:Type)(enc:TypeId×Value→H):
 ReturnsInHanded {} Tryz.checked os 6 .any (fun w args=>(Rows.buildValidSpec.pre enc prog Tryz.f6 [] false w args∧laidMetH prog Rows.buildValidRow.laid w)∧sizedMet enc prog Tryz.f6 (OpenSpec.ofChange Rows.buildValidSpec) false w args)
  (Rows.buildValidSpec.post enc prog Tryz.f6 false true false false):=by
 refine returnsInHanded_of_change_and (C:=Tryz.checked) (X:=fun w _=>laidMetH prog Rows.buildValidRow.laid w) (fun _ _ _ hh h=>h.of_heap hh) Js started (by kernel_rfl) Tryz.func6
  (ChangeSpec.witness_shaped (enc:=enc) (C:=Tryz.checked) (os:=os) (X:=fun w _=>laidMetH prog Rows.buildValidRow.laid w) false (World.doorLaid prog 400 os) #[.agg #[.int .i64 1,.int .i64 1],.slice none 0 0] 8 rfl (World.shaped_of_RefB (by kernel_rfl) (by kernel_rfl)) (by kernel_rfl) (by kernel_rfl) (by kernel_rfl) (G9 os _)) ?_
 intro W base args ds gs before Ux hW _ Zg hL _
 have Of:(DataW.weightsEach prog (Tryz.f6.params.toList++Rows.buildValidSpec.plain.varTypes prog) (ds++gs)).all (· ≤reachBytes)=true:=Zg
 clear Zg
 have Vi:∀(j:Nat) t v,Tryz.f6.params[j]? =some t→args[j]? =some v→Value.okWide prog W .any base t v:=Ux
 have hW':=hW
 obtain⟨p,q,hA0,hV,rfl,_,_⟩:=hW
 have hA:DataW.TrodAll enc prog W 0 (fun _=>true) true Tryz.f6.params.toList args.toList ds p:=hA0
 rw [Tryz.params6]at hA Vi Of
 obtain⟨v0,v1,d0,d1,p0,p1,rfl,rfl,rfl,h0,h1⟩:=trodAll_two hA
 obtain⟨rfl,rfl⟩:=trodVars_none hV
 obtain⟨x0,x1,rfl⟩:=Gy Tryz.underlying23 ⟨rfl,rfl⟩ ⟨Bz,Bz⟩ Tryz.underlying3 Tryz.underlying3 (by kernel_rfl) (Vi 0 23 v0 rfl rfl) h0
 obtain⟨A,n,c,l,rfl,hr,hw,abA,hs⟩:=Gz Tryz.underlying24 Tryz.underlying31 Lr ⟨rfl,rfl,rfl,rfl,rfl⟩ ⟨Bz,sL,sL,sL,sL⟩ Tryz.underlying3 Tryz.underlying29 Tryz.underlying29 Tryz.underlying29 Tryz.underlying29 (Vi 1 24 v1 rfl rfl) h1
 clear hA0 Ux
 simp only [List.append_nil]at hW'
 have Od:∀x∈p0++p1,x.block<W.heap.size:=fun x hx=>by simpa using hW'.lt x hx
 have Vs:=hr.len
 subst Vs
 have b0:c*24≤140737488351232:=by
  rcases hs with rfl | ⟨el,sp,rfl,hlen⟩
  ·omega
  ·have:=sized_slice Of (j:=1) (t:=24) (e:=31) rfl rfl Tryz.underlying24
   rw [Jt,hlen]at this
   simpa [reachBytes]using this
 have hR1:=Jg hL
 have ne:∀g cs T,(∀v∈cs.toList,∀x,v≠ .int .i64 x)→Blk W g cs T→¬(0<l.length∧∃p,A=some p∧g=p.block):=fun g cs T OP hb ⟨h0,p,hp,hg⟩=>by
  obtain⟨x,hx⟩:=abA p hp h0
  exact OP _ (cell_of hb (by rw [V.block_add];exact hg.symm) hx) x rfl
 have n1:∀g,(∃T,Blk W g (bI kR) T)→¬(0<l.length∧∃p,A=some p∧g=p.block):=fun g ⟨T,hb⟩=>ne g _ T (fun v hv x e=>by
  subst e
  have hv:Value.int .i64 x∈kR.map (Value.int .u32):=hv
  obtain⟨y,_,hy⟩:=List.mem_map.1 hv
  cases hy) hb
 let X:Nat→Nat→Prop:=fun i=>if i=0 then fun k=>0<l.length∧∃p,A=some p∧k=p.block else fun k=>k=0
 have hsat:Sat (U:=Un) [.lst 5 false 31 A c l,.ob 5 (fun _=>0) kR] X W:=⟨fun i r QY=>by
  match i with
  | 0=>simp only [nth,Option.some.injEq]at QY;subst QY;exact hr
  | 1=>simp only [nth,Option.some.injEq]at QY;subst QY;exact(⟨fun k=>⟨fun h=>h,fun h=>h⟩,hR1⟩:(∀k,k=0↔X 1 k)∧mR W 0 kR)
  | i+2=>simp [nth]at QY,fun i j hi hj OH k k1 k2=>by
  have hi:i<2:=hi
  have hj:j<2:=hj
  have a0:∀k,X 1 k→k=0:=fun _ h=>h
  have m1:¬X 0 0:=n1 _ hR1.blk
  match i,hi,j,hj with
  | 0,_,0,_ | 1,_,1,_=>exact OH rfl
  | 0,_,1,_=>rw [a0 k k2]at k1;exact m1 k1
  | 1,_,0,_=>rw [a0 k k1]at k2;exact m1 k2⟩
 have VG:l.length≤c:=hr.cap
 have TA:l.length≤140737488355328:=by omega
 refine(qX x0 x1 A c l (fun _=>0) kR (fun o=>o=_) ⟨hw,TA,rfl⟩ X W hsat (fun _ _ h=>by cases h)).mono ?_
 rintro e W' ⟨out,rs',X',rfl,rfl,Oq,hp⟩
 have RC:Pu W W':=hp.ch.mono fun k ⟨j,hj,_⟩=>by cases hj
 have hn:Below W.heap.size W W':=⟨RC.kept.os,RC.kept.tape,RC.kept.output,RC.kept.size,fun k hk=>RC.kept.block k ⟨hk,fun h=>h⟩⟩
 refine⟨_,rfl,_,_,_,[],p0++p1,[],hW',trodAll_mk1 (shut_bool Tryz.underlying4 _),?_,rfl,hn.frame _,fun h=>by cases h⟩
 exact trodAll_mk2 (Below.trod qz (by kernel_rfl) (of_decide_eq_true (by kernel_rfl)) h0 hn (fun x hx=>Od x (List.mem_append_left _ hx)))
  (Below.trod qz (by kernel_rfl) (of_decide_eq_true (by kernel_rfl)) h1 hn (fun x hx=>Od x (List.mem_append_right _ hx)))
theorem tf:Rows.BuildValidSaid:=
 OpenClaim.holds_of_wide 6 Tryz.f6 rfl rfl rfl rfl rfl rfl rfl ⟨rfl,rfl,rfl,rfl,rfl⟩ rfl rfl rfl rfl rfl (by kernel_rfl) Tryz.func6 (by kernel_rfl)
  (of_decide_eq_true (by kernel_rfl)) (by unfold Func.isWrapper;(rw [if_neg (by decide+kernel)];exact⟨rfl,rfl⟩))
  (fun os started H enc _=>By os started H enc)
end Go.Proofs.YtinhphjfnedhgaaGreatDoor
namespace Go.Proofs.YtinhphjfnedhgaaGreatDoor
open Go.Proofs.Tryz (prog)
open Go
theorem buildValid_card:Rows.BuildValidCardSaid:=
 Claim7.holds_tied_plain_at .later [] [.data] true (true, "4005ff82abade87380ae656bae1277cdf77dd5fa8f92b5447bbfc42810012e7b") true
  tf (fun _ h=>by cases h) (by kernel_rfl) (fun _ h=>by cases h) buildValid_row_tie rfl ⟨rfl,rfl⟩ (by kernel_rfl) rfl
  (fun f fn hf UJ=>by
   obtain rfl:f=6:=Option.some.inj ((show prog.funcNamed "warden/wardenlaw17.BuildValid" =some 6 by kernel_rfl).symm.trans hf) |>.symm
   obtain rfl:fn=Tryz.f6:=(Option.some.inj (Tryz.func6.symm.trans UJ)).symm
   exact⟨by kernel_rfl,fun j t ht=>by
    rw [Tryz.params6]at ht
    have h3:t=23∨t=24:=by
     rcases j with _ | _ | j
     ·left;simpa using ht.symm
     ·right;simpa using ht.symm
     ·simp at ht
    rcases h3 with rfl | rfl
    ·exact(show prog.wantsStandIn 23=false by kernel_rfl)
    ·exact(show prog.wantsStandIn 24=false by kernel_rfl)⟩)
  (by kernel_rfl)
#print axioms buildValid_card
end Go.Proofs.YtinhphjfnedhgaaGreatDoor
