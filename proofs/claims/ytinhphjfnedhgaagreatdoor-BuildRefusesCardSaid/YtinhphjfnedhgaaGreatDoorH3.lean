/- Chapter 17, BuildRefuses: a call that is refused changes nothing; one that is taken does what the layers below do by hand. -/
import Derived.Test.YtinhphjfnedhgaaGreatDoorH2
import Derived.KernelRfl
set_option linter.unusedVariables false
set_option linter.unusedSimpArgs false
namespace Go.Proofs.YtinhphjfnedhgaaGreatDoor.V
open Go Go.RowKit
open Go.IntKind (i64 u32 u64)
section
section
variable {U:Uni} {P:Program} {tbl:Tb U} {may:List Nat} {k0:Nat}
variable {w0:World} {X0 X:Nat→Nat→Prop} {w:World} {fr:Fr} {st:St U} {n:Nat} {N:List Nat} {ops:Array Oper}
def MSw(P:Program):HC:=fun B o ρ w F=>∃v,F v∧∀w',Kept (held B w) w w'→(execOp ρ o).run P w'= .ok (.value v) w'
theorem sF {F G:Nat→Prop}:∀ {l:List Nat},yQ F l→(∀i,F i→G i)→yQ G l
 | [],_,_=>trivial
 | [_],h,hg=>hg _ h
 | _::j::r,h,hg=>⟨hg _ h.1,sF (l:=j::r) h.2 hg⟩
theorem wg {b:Nat→Nat→Prop}:∀ {l:List Nat} {k:Nat},bM b l k→∃i,i∈l∧b i k
 | [i],k,h=>⟨i,by simp,h⟩
 | i::j::r,k,h=>by
  rcases h with h | h
  ·exact⟨i,by simp,h⟩
  ·obtain⟨i',h1,h2⟩:=wg (l:=j::r) h
   exact⟨i',List.mem_cons_of_mem _ h1,h2⟩
theorem Cu {α:Type}(M L:List α):iU ((M++L).length - L.length) (M++L)=M:=by
 rw [eN,List.length_append,Nat.add_sub_cancel,List.take_left]
theorem Hh {rs:List (Res U)} {p:PK} {v:Value}(h:den U rs p=some v):p.id<rs.length:=by
 unfold den at h
 cases hn:nth rs p.id with
 | none=>rw [hn]at h;cases p<;>simp [cm]at h
 | some r=>exact aU hn
theorem BOk.step {V:List Nat} {rd:List (Nat×List Nat)} {b:Nat→Nat→Prop}(hb:BOk V rd b st.rs X w) {st':St U} {X':Nat→Nat→Prop} {w':World} {M:List Nat}(hs:dQ w0 k0 X0 may fr st X w st' X' w' M):
 BOk V rd (fun i k=>b i k∨∃id,id∈oc i rd∧id<st'.rs.length∧X' id k) st'.rs X' w':=by
 refine⟨fun i id k h1 h2 h3=>.inr ⟨id,h1,h2,h3⟩,fun i k h=>.inl (hb.all i k h),fun i k hi hk=>?_⟩
 rcases hk with hk | ⟨id,h1,h2,h3⟩
 ·obtain⟨h4,h5⟩:=hb.only i k hi hk
  refine⟨Nat.lt_of_lt_of_le h4 hs.ch.size,fun j hj hx=>?_⟩
  by_cases Pr:j<st.rs.length
  ·by_cases hm:j∈M
   ·rcases hs.grow j hm k hx with h6 | h6
    ·exact h5 j Pr h6
    ·omega
   ·rw [(hs.same j Pr hm).2]at hx
    exact h5 j Pr hx
  ·have:=hs.new j (Nat.le_of_not_lt Pr) hj k hx
   omega
 ·refine⟨hs.inv.sat.lt h2 k h3,fun j hj hx=>?_⟩
  by_cases Kj:id=j
  ·rw [← Kj];exact h1
  ·exact absurd hx (hs.inv.sat.dis id j h2 hj Kj k h3)
theorem yM {V:List Nat} {rd:List (Nat×List Nat)} {M beh:List Nat}(h:yN V rd M beh=true):∀i,i∈beh→i ∉ V∧∀j,j∈M→j ∉ oc i rd:=by
 intro i hi
 have:=cu.1 h i hi
 simp only [Bool.and_eq_true,Bool.not_eq_true']at this
 refine⟨fun hv=>?_,fun j hj hr=>?_⟩
 ·rw [eK.2 hv]at this;cases this.1
 ·have h2:=cu.1 this.2 j hj
  rw [eK.2 hr]at h2;cases h2
theorem BOk.kept {V:List Nat} {rd:List (Nat×List Nat)} {b:Nat→Nat→Prop}(hb:BOk V rd b st.rs X w) {st':St U} {X':Nat→Nat→Prop} {w':World} {M:List Nat}(hs:dQ w0 k0 X0 may fr st X w st' X' w' M) {beh:List Nat}(h:yN V rd M beh=true):Kept (bM b beh) w w':=by
 refine hs.ch.kept.mono fun k hk=>?_
 obtain⟨i,hi,hbi⟩:=wg hk
 obtain⟨h1,h2⟩:=yM h i hi
 obtain⟨h3,h4⟩:=hb.only i k h1 hbi
 exact⟨h3,fun⟨j,hj,hx⟩=>h2 j hj (h4 j (hs.mlt j hj) hx)⟩
theorem Fa {o:Oper} {kn:List (Key×Kn)} {x:Nat}(h:rdX o kn X x):∃t a p,o.op= .load t a∧kf kn a=some (.p p)∧X p.id x:=by
 unfold rdX at h
 cases UF:o.op<;>simp only [UF]at h
 rename_i t a
 cases hk:V.kf kn a with
 | none=>simp only [hk]at h
 | some k=>cases k<;>simp only [hk]at h;exact⟨t,a,_,rfl,hk,h⟩
theorem Cs {all:Bool} {V:List Nat} {rd:List (Nat×List Nat)} {K:Fr→St U→Prop}(Kx:∀f c,tbl.c f=some c→LV U P f c∧bP P f=true):
 ∀(fuel:Nat)(listed:Array Bool)(fr:Fr)(st0 st:St U)(Xs X:Nat→Nat→Prop)(w:World)(ds:List Deferred)(b:Nat→Nat→Prop),(all=false→BOk V rd b st.rs X w)→(all=true→∀i k,b i k)→Steps w0 k0 X0 may st0 Xs st X w→av st.rs fr st.kn→fr.ds=ds→
  rn U P tbl may k0 n N ops all V rd K fuel listed fr st→
  oF P (fun o ρ w K=>opW P false none o ρ w K) (MSw P) n N ops (Aft w0 k0 X0 may st0 Xs ds K) fuel (some b) listed fr w:=by
 intro fuel
 induction fuel with
 | zero=>
  intro listed fr st0 st Xs X w ds b hb JW hS hk hd h
  simp only [rn]at h
  simp only [oF]
  split at h
  ·rename_i Mk
   try simp only [Mk]
   exact⟨st,X,hS,hk,hd,h⟩
  ·exact h.elim
 | succ fuel ih=>
  intro listed fr st0 st Xs X w ds b hb JW hS hk hd h
  simp only [rn]at h
  simp only [oF]
  split at h
  ·rename_i Mk
   try simp only [Mk]
   exact⟨st,X,hS,hk,hd,h⟩
  ·rename_i i0 r0 Mk
   try simp only [Mk]
   split at h
   ·rename_i i U2
    try simp only [U2]
    split at h
    ·rename_i o ho
     try simp only [ho]
     refine kq h (fun fr' hl Lc hq=>?_) (fun fr' hl Lc h=>?_)
     ·have Ml:=hk.same hl
      clear h
      have h:=hq
      clear hq
      cases JJ:Dn o with
      | true=>simp only [JJ]at h
      | false=>
      cases NT:GW all V rd i o st.kn with
      | false=>simp only [JJ,NT]at h
      | true=>
       simp only [JJ,NT]at h
       obtain⟨v,k,h1,h2,h3⟩:=sd hS.inv.sat Ml h
       refine⟨v,?_,fun w' hw=>h3 w' (hw.mono fun x hx=>?_)⟩
       ·refine gP (iY h1 Ml h2) fun Kr hp=>?_
        obtain⟨KF,e1,e2,h4,h5,h6⟩:=hp
        exact ih _ Kr st0 KF Xs X w ds b (by rw [e1];exact hb) JW (hS.kn e1 e2) (by rw [e1];exact h4) (by rw [h5,Lc,hd]) h6
       ·show b i x
        obtain⟨t,a,p,UF,hp,hx⟩:=Fa hx
        unfold GW at NT
        simp only [UF,hp]at NT
        by_cases ha:all=true
        ·exact JW ha i x
        have hb:=hb (by simpa using ha)
        split at NT
        ·rename_i hv
         rcases Bool.or_eq_true_iff.1 hv with hv | hv
         ·exact absurd hv ha
         ·exact hb.all i x (eK.1 hv)
        ·have hpk:=Ml.kf a
         rw [hp]at hpk
         exact hb.has i p.id x (eK.1 NT) (Hh (show den U st.rs p=some _ from hpk)) hx
     ·refine gP (iY h (hk.same hl) trivial) fun Kr hp=>?_
      obtain⟨KF,e1,e2,h4,h5,h6⟩:=hp
      exact ih _ Kr st0 KF Xs X w ds b (by rw [e1];exact hb) JW (hS.kn e1 e2) (by rw [e1];exact h4) (by rw [h5,Lc,hd]) h6
    ·exact h.elim
   ·split at h
    ·exact h.elim
    ·rename_i P9 _
     try simp only [P9]
     refine sF h fun i h=>?_
     split at h
     ·rename_i o ho
      try simp only [ho]
      refine kq h (fun fr' hl Lc h=>?_) (fun fr' hl Lc h=>?_)
      ·have Ml:=hk.same hl
       refine pY (C0 (zT Kx hS.inv Ml h) fun ch w' ⟨_,_,_,_,_,h,_⟩=>h.elim) fun v w' hp=>?_
       obtain⟨k,st',X',M,h1,h2,h3⟩:=hp
       have h1:=zO h1
       split at h1
       ·rename_i hap
        rw [h3.md,Cu]at hap
        refine gP (iY h1 h3.kn h2) fun Kr hp=>?_
        obtain⟨KF,e1,e2,h4,h5,h6⟩:=hp
        have hb:=hb rfl
        have LS:=hb.step h3
        have P8:=ih (listed.setIfInBounds i true) Kr st0 KF Xs X' w' ds _ (fun _=>by rw [e1];exact LS) (fun ha=>by cases ha) ((hS.trans h3.steps).kn e1 e2) (by rw [e1];exact h4) (by rw [h5,Lc,hd]) h6
        unfold zX
        simp only
        split
        ·exact⟨_,fun i k WL=>.inl WL,P8⟩
        ·exact⟨hb.kept h3 hap,_,fun i k WL=>.inl WL,P8⟩
       ·exact h1.elim
      ·refine gP (iY h (hk.same hl) trivial) fun Kr hp=>?_
       obtain⟨KF,e1,e2,h4,h5,h6⟩:=hp
       exact ih _ Kr st0 KF Xs X w ds b (by rw [e1];exact hb) JW (hS.kn e1 e2) (by rw [e1];exact h4) (by rw [h5,Lc,hd]) h6
     ·exact h.elim
variable (U P tbl may k0 w0 X0 n)in
def qI(c:Code)(V:QF2 U→Fr→St U→Prop):Prop:=
 ∀(Q:QF2 U)(fr:Fr)(st:St U)(X:Nat→Nat→Prop)(a:Act)(w:World),Rep n fr a→Inv w0 k0 X0 may st.rs X w→av st.rs fr st.kn→V Q fr st→
  c.wpIn (WF none) 0 P (lD n (writes c) a fun x fr' w'=>Aft w0 k0 X0 may st X fr.ds (fun fr' st'=>Q x fr' st') fr' w') a w
theorem Real.two {ws:List Nat} {a0:Act} {Q:QF} {e:Exit} {a':Act} {w':World}(h:Real n ws a0 none Q e a' w'):lD n ws a0 Q e a' w':=by
 cases e<;>first | exact h | exact h.1.elim
theorem lD.mono {ws ws':List Nat} {a0:Act} {Q Q':QF} {e:Exit} {a':Act} {w':World}(h:lD n ws a0 Q e a' w')(hw:∀i,i∈ws→i∈ws')(hQ:∀x fr w,Q x fr w→Q' x fr w):lD n ws' a0 Q' e a' w':=by
 cases e<;>first | exact h | (obtain⟨fr,h1,h2,h3⟩:=h;exact⟨fr,h1,hQ _ _ _ h2,h3.mono hw⟩)
theorem Aft.mono {ds:List Deferred} {K K':Fr→St U→Prop} {fr':Fr} {w':World}(h:Aft w0 k0 X0 may st X ds K fr' w')(hK:∀fr st,K fr st→K' fr st):Aft w0 k0 X0 may st X ds K' fr' w':=by
 obtain⟨st',X',h1,h2,h3,h4⟩:=h
 exact⟨st',X',h1,h2,h3,hK _ _ h4⟩
theorem Aft.pre {MZ:St U} {X1:Nat→Nat→Prop} {w1:World} {ds:List Deferred} {K:Fr→St U→Prop} {fr':Fr} {w':World}(hs:Steps w0 k0 X0 may st X MZ X1 w1)(h:Aft w0 k0 X0 may MZ X1 ds K fr' w'):Aft w0 k0 X0 may st X ds K fr' w':=by
 obtain⟨st',X',h1,h2,h3,h4⟩:=h
 exact⟨st',X',hs.trans h1,h2,h3,h4⟩
theorem rq {id:Nat} {Q:QF2 U} {a:Act}(Kx:∀f c,tbl.c f=some c→LV U P f c∧bP P f=true)(hr:Rep n fr a)(hI:Inv w0 k0 X0 may st.rs X w)(hk:av st.rs fr st.kn)(h:Ax U P tbl may k0 n N ops (Q .normal) (fun ch=>Q (.panic ch)) ops.toList fr st):
 (Code.region id ops false).wpIn (WF none) 0 P (lD n (writes (.region id ops false)) a fun x fr' w'=>Aft w0 k0 X0 may st X fr.ds (fun fr' st'=>Q x fr' st') fr' w') a w:=by
 have hv:=pw (n:=n) (N:=N) (ops:=ops) Kx ops.toList fr st st X X w fr.ds (Steps.refl hI) hk rfl h
 exact wpIn_mono (wpIn_region_list (lG (ws:=writes (.region id ops false)) (a0:=a) ops.toList (fun o ho d hd=>List.mem_filterMap.2 ⟨o,ho,hd⟩) fr a w hr (Agr.refl _ _) hv)) fun e a' w' he=>by
  cases e<;>first | exact he | (obtain⟨_,_,h,_⟩:=he;exact h.elim)
theorem tr {id:Nat} {Q:QF2 U} {a:Act} {V:List Nat} {rd:List (Nat×List Nat)}(Kx:∀f c,tbl.c f=some c→LV U P f c∧bP P f=true)(hm:P.follows .mixedOrders=true)(hs:Region.noSelect ops=true)(Lz:dZ ops.toList=true)(hr:Rep n fr a)(hI:Inv w0 k0 X0 may st.rs X w)(hk:av st.rs fr st.kn) {all:Bool}
 (h:rn U P tbl may k0 n N ops all V rd (Q .normal) ops.size (Array.replicate ops.size false) fr st):
 (Code.region id ops true).wpIn (WF none) 0 P (lD n (writes (.region id ops true)) a fun x fr' w'=>Aft w0 k0 X0 may st X fr.ds (fun fr' st'=>Q x fr' st') fr' w') a w:=by
 have Xa:=Inv.drew hI
 have hS:Steps w0 k0 X0 may st X st X w.drew:=Steps.refl Xa
 have hv:=Cs (n:=n) (N:=N) (ops:=ops) Kx ops.size (Array.replicate ops.size false) fr st st X X w.drew fr.ds (fun i k=>i∈V∨all=true∨∃id,id∈oc i rd∧id<st.rs.length∧X id k) (fun ha=>⟨fun i id k h1 h2 h3=>.inr (.inr ⟨id,h1,h2,h3⟩),fun i k h=>.inl h,fun i k hi hk=>by
  rcases hk with hk | hk | ⟨id,h1,h2,h3⟩
  ·exact absurd hk hi
  ·rw [ha]at hk;cases hk
  ·refine⟨Xa.sat.lt h2 k h3,fun j hj hx=>?_⟩
   by_cases Kj:id=j
   ·rw [← Kj];exact h1
   ·exact absurd hx (Xa.sat.dis id j h2 hj Kj k h3)⟩) (fun ha i k=>.inr (.inl ha)) hS hk rfl h
 exact wpIn_mono (iS hm my (fun o ho=>g5 Lz o (Array.mem_toList_iff.2 ho)) (px (ws:=writes (.region id ops true)) (a0:=a) (Qp:=none) (M:=fun o ρ w K=>opW P false none o ρ w K) (MS:=MSw P) (fun _ _ _ _ h=>h) (fun _ _ _ _ _ h=>h) hs (fun i o ho d hd=>qd ho hd) ops.size _ (fun _ _ _=>True) _ fr a w.drew (gC.none _ _) (lE.none _ _) hr (Agr.refl _ _) hv)) fun e a' w' he=>Real.two (ke he)
end
end
section
section
variable {U:Uni} {P:Program} {tbl:Tb U} {may:List Nat} {k0:Nat}
variable {w0:World} {X0 X:Nat→Nat→Prop} {w:World} {fr:Fr} {st:St U} {n:Nat} {N:List Nat} {ops:Array Oper}
theorem uV {T:Type}:∀ {l:List (Nat×Sh2)} {J:SlT l T} {fr:Fr} {F:T→Prop},GM l J fr F→∃J' vs,F J'∧(∀G:T→List (Nat×Value)→Prop,alS l J G→G J' vs)∧∀s v,(s,v)∈vs→lk fr.g s fr.e=v
 | [],J,fr,F,h=>⟨J,[],h,fun G hG=>hG,fun s v hv=>by cases hv⟩
 | (s,sh)::r,J,fr,F,h=>by
  obtain⟨J1,h1,g1⟩:=sA h
  obtain⟨J2,vs,h2,g2,e2⟩:=uV h1
  refine⟨J2,(s,lk fr.g s fr.e)::vs,h2,fun G hG=>g2 (fun J'' vs=>G J'' ((s,lk fr.g s fr.e)::vs)) (g1 (fun J' v=>alS r J' fun J'' vs=>G J'' ((s,v)::vs)) hG),fun s' v hv=>?_⟩
  rcases List.mem_cons.1 hv with e | hv
  ·injection e with e1 e2;rw [e1,e2]
  ·exact e2 s' v hv
def dg(kn:List (Key×Kn))(id:Nat):Nat→List AV→List Value→Prop
 | _,[],[]=>True
 | i,.v x::r,v::vs=>x=v∧dg kn id (i+1) r vs
 | i,.k p::r,_::vs=>cN (.c id i) kn=some (.p p)∧dg kn id (i+1) r vs
 | _,_,_=>False
theorem pA {T:Type} {id:Nat} {kn:List (Key×Kn)}:∀ {l:List CS} {J:CST l T} {i:Nat} {vs:List Value} {F:T→Prop},xY id kn l J i vs F→∃J' az,F J'∧(∀G:T→List AV→Prop,D2 l J G→G J' az)∧dg kn id i az vs∧∀n,iI n l=true→∀p,AV.k p∈az→p.id<n
 | [],J,i,[],F,h=>⟨J,[],h,fun G hG=>hG,trivial,fun _ _ p hp=>by cases hp⟩
 | [],_,_,_::_,_,h=>h.elim
 | .v _::_,_,_,[],_,h=>h.elim
 | .k _::_,_,_,[],_,h=>h.elim
 | .v s::r,J,i,v::vs,F,h=>by
  obtain⟨J1,h1,g1⟩:=mW h
  obtain⟨J2,az,h2,g2,d2,b2⟩:=pA h1
  refine⟨J2,.v v::az,h2,fun G hG=>g2 (fun J'' vs=>G J'' (.v v::vs)) (g1 (fun J' v=>D2 r J' fun J'' l=>G J'' (.v v::l)) hG),⟨rfl,d2⟩,fun n hn p hp=>?_⟩
  rcases List.mem_cons.1 hp with e | hp
  ·cases e
  ·exact b2 n hn p hp
 | .k p::r,J,i,v::vs,F,h=>by
  simp only [xY]at h
  split at h
  ·rename_i q hq
   split at h
   ·rename_i he
    obtain⟨J2,az,h2,g2,d2,b2⟩:=pA h
    refine⟨J2,.k p::az,h2,fun G hG=>g2 (fun J'' vs=>G J'' (.k p::vs)) hG,⟨by rw [hq,(Kn.lQ he).1],d2⟩,fun n hn p' hp=>?_⟩
    simp only [iI]at hn
    split at hn
    ·rename_i JM
     rcases List.mem_cons.1 hp with e | hp
     ·injection e with e;subst e;simpa [Nat.blt_eq]using JM
     ·exact b2 n hn p' hp
    ·cases hn
   ·exact h.elim
  ·exact h.elim
def UpD(rs:List (Res U))(kn:List (Key×Kn))(id:Nat):UP U→Prop
 | .ob t s=>∃r,nth rs id=some (.ob t r s)
 | .blk az=>∃g cs T,nth rs id=some (.blk g cs T)∧dg kn id 0 az cs
 | .lst t A c l=>∃own T,nth rs id=some (.lst t own T A c l)
theorem l8 {T:Type} {rs:List (Res U)} {kn:List (Key×Kn)}:∀ {l:List (Nat×RSh)} {J:wA U l T} {F:T→Prop},oG rs kn l J F→∃J' us,F J'∧(∀G:T→List (Nat×UP U)→Prop,Bs l J G→G J' us)∧us.map (·.1)=l.map (·.1)∧(∀id u,(id,u)∈us→UpD rs kn id u)∧
 ∀n,dU n l=true→∀id u,(id,u)∈us→id<n∧∀az,u= .blk az→∀p,AV.k p∈az→p.id<n
 | [],J,F,h=>⟨J,[],h,fun G hG=>hG,rfl,fun id u hu=>(by cases hu),fun _ _ id u hu=>by cases hu⟩
 | (id,.ob t)::r,J,F,h=>by
  simp only [oG]at h
  split at h
  ·rename_i t' r' s hn
   split at h
   ·rename_i ht
    subst ht
    obtain⟨J2,us,h2,g2,m2,d2,b2⟩:=l8 h
    refine⟨J2,(id,.ob t' s)::us,h2,fun G hG=>g2 (fun J'' vs=>G J'' ((id,.ob t' s)::vs)) (hG s),by simp [m2],fun i u hu=>?_,fun n hb i u hu=>?_⟩
    ·rcases List.mem_cons.1 hu with e | hu
     ·injection e with e1 e2;subst e1;subst e2;exact⟨r',hn⟩
     ·exact d2 i u hu
    ·simp only [dU]at hb
     split at hb
     ·rename_i JM
      rcases List.mem_cons.1 hu with e | hu
      ·injection e with e1 e2;subst e1;subst e2;exact⟨by simpa [Nat.blt_eq]using JM,fun az e=>by cases e⟩
      ·exact b2 n hb i u hu
     ·cases hb
   ·exact h.elim
  ·exact h.elim
 | (id,.blk l)::r,J,F,h=>by
  simp only [oG]at h
  split at h
  ·rename_i g cs T' hn
   obtain⟨J1,az,h1,g1,d1,b1⟩:=pA h
   obtain⟨J2,us,h2,g2,m2,d2,b2⟩:=l8 h1
   refine⟨J2,(id,.blk az)::us,h2,fun G hG=>g2 (fun J'' vs=>G J'' ((id,.blk az)::vs)) (g1 (fun J' cs=>Bs r J' fun J'' us=>G J'' ((id,.blk cs)::us)) hG),by simp [m2],fun i u hu=>?_,fun n hb i u hu=>?_⟩
   ·rcases List.mem_cons.1 hu with e | hu
    ·injection e with e1 e2;subst e1;subst e2;exact⟨g,cs,T',hn,d1⟩
    ·exact d2 i u hu
   ·simp only [dU]at hb
    split at hb
    ·rename_i JM
     simp only [Bool.and_eq_true]at JM
     rcases List.mem_cons.1 hu with e | hu
     ·injection e with e1 e2;subst e1;subst e2
      exact⟨by simpa [Nat.blt_eq]using JM.1,fun as' e p hp=>by injection e with e;subst e;exact b1 n JM.2 p hp⟩
     ·exact b2 n hb i u hu
    ·cases hb
  ·exact h.elim
 | (id,.lst t)::r,J,F,h=>by
  simp only [oG]at h
  split at h
  ·rename_i t' own T' A c l hn
   split at h
   ·rename_i ht
    subst ht
    obtain⟨J2,us,h2,g2,m2,d2,b2⟩:=l8 h
    refine⟨J2,(id,.lst t' A c l)::us,h2,fun G hG=>g2 (fun J'' vs=>G J'' ((id,.lst t' A c l)::vs)) (hG A c l),by simp [m2],fun i u hu=>?_,fun n hb i u hu=>?_⟩
    ·rcases List.mem_cons.1 hu with e | hu
     ·injection e with e1 e2;subst e1;subst e2;exact⟨own,T',hn⟩
     ·exact d2 i u hu
    ·simp only [dU]at hb
     split at hb
     ·rename_i JM
      rcases List.mem_cons.1 hu with e | hu
      ·injection e with e1 e2;subst e1;subst e2;exact⟨by simpa [Nat.blt_eq]using JM,fun az e=>by cases e⟩
      ·exact b2 n hb i u hu
     ·cases hb
   ·exact h.elim
  ·exact h.elim
theorem tG {f:Nat→Res U→Option (Res U)}:∀ {i:Nat} {l l':List (Res U)},lay f i l=some l'→l'.length=l.length∧∀j r,nth l j=some r→∃r',f (i+j) r=some r'∧nth l' j=some r'
 | i,[],l',h=>by
  simp only [lay,Option.some.injEq]at h
  subst h
  exact⟨rfl,fun j r hr=>by simp [nth]at hr⟩
 | i,r::l,l',h=>by
  simp only [lay]at h
  split at h
  ·rename_i r' l2 h1 h2
   injection h with h
   subst h
   obtain⟨e1,e2⟩:=tG h2
   refine⟨by simp [e1],fun j x hx=>?_⟩
   cases j with
   | zero=>simp [nth]at hx;subst hx;exact⟨r',h1,rfl⟩
   | succ j=>
    obtain⟨y,h3,h4⟩:=e2 j x hx
    exact⟨y,by rw [show i+(j+1)=i+1+j by omega];exact h3,h4⟩
  ·cases h
theorem iT {i:Nat} {u:UP U}:∀ {us:List (Nat×UP U)},jY i us=some u→(i,u)∈us
 | [],h=>by cases h
 | (j,x)::r,h=>by
  unfold jY at h
  split at h
  ·rename_i he
   injection h with h
   rw [← h,Nat.eq_of_beq_eq_true he]
   exact List.mem_cons_self ..
  ·exact List.mem_cons_of_mem _ (iT h)
theorem pB {i:Nat}:∀ {us:List (Nat×UP U)},jY i us=none→i ∉ us.map (·.1)
 | [],_=>by simp
 | (j,x)::r,h=>by
  unfold jY at h
  split at h
  ·cases h
  ·rename_i he
   rw [List.map_cons,List.mem_cons,not_or]
   exact⟨by rintro rfl;simp at he,pB h⟩
theorem nO {kn:List (Key×Kn)} {s:Nat} {k:Kn}:∀ {l:List (Nat×Kn)},z1 kn l=true→(s,k)∈l→∃p,k= .p p∧cN (.s s) kn=some (.p p)
 | [],_,h=>by cases h
 | (a,q)::r,h,hm=>by
  simp only [z1]at h
  split at h
  ·rename_i x hx
   split at h
   ·rename_i he
    rcases List.mem_cons.1 hm with e | hm
    ·injection e with e1 e2
     subst e1;subst e2
     obtain⟨e3,p,e4⟩:=Kn.lQ he
     exact⟨p,by rw [← e3,e4],by rw [hx,e4]⟩
    ·exact nO h hm
   ·cases h
  ·cases h
theorem jE {m:Nat} {s:Nat} {p:PK}:∀ {l:List (Nat×Kn)},mH m l=true→(s,Kn.p p)∈l→p.id<m
 | [],_,h=>by cases h
 | (a,.p q)::r,h,hm=>by
  simp only [mH]at h
  split at h
  ·rename_i JM
   rcases List.mem_cons.1 hm with e | hm
   ·injection e with e1 e2;injection e2 with e2;subst e2;simpa [Nat.blt_eq]using JM
   ·exact jE h hm
  ·cases h
 | (a,.t _)::r,h,_=>by cases h
 | (a,.ag _)::r,h,_=>by cases h
 | (a,.f _ _)::r,h,_=>by cases h
theorem pE {key:Key} {k:Kn}:∀ {l:List (Nat×Kn)},(key,k)∈ye l→∃s,key= .s s∧(s,k)∈l
 | [],h=>by cases h
 | (s,q)::r,h=>by
  rcases List.mem_cons.1 h with e | h
  ·injection e with e1 e2;subst e1;subst e2;exact⟨s,rfl,List.mem_cons_self ..⟩
  ·obtain⟨s',h1,h2⟩:=pE (l:=r) h;exact⟨s',h1,List.mem_cons_of_mem _ h2⟩
theorem fH {rs:List (Res U)} {s:Nat} {v:Value}:∀ {l:List (Nat×Kn)},(s,v)∈kp rs l→∃p,(s,Kn.p p)∈l∧v=(den U rs p).getD undef
 | [],h=>by cases h
 | (a,.p q)::r,h=>by
  rcases List.mem_cons.1 h with e | h
  ·injection e with e1 e2;subst e1;subst e2;exact⟨q,List.mem_cons_self ..,rfl⟩
  ·obtain⟨p,h1,h2⟩:=fH (l:=r) h;exact⟨p,List.mem_cons_of_mem _ h1,h2⟩
 | (a,.t _)::r,h=>by obtain⟨p,h1,h2⟩:=fH (l:=r) h;exact⟨p,List.mem_cons_of_mem _ h1,h2⟩
 | (a,.ag _)::r,h=>by obtain⟨p,h1,h2⟩:=fH (l:=r) h;exact⟨p,List.mem_cons_of_mem _ h1,h2⟩
 | (a,.f _ _)::r,h=>by obtain⟨p,h1,h2⟩:=fH (l:=r) h;exact⟨p,List.mem_cons_of_mem _ h1,h2⟩
 | (a,.pan)::r,h=>by obtain⟨p,h1,h2⟩:=fH (l:=r) h;exact⟨p,List.mem_cons_of_mem _ h1,h2⟩
theorem dg.GL {kn:List (Key×Kn)} {id:Nat} {V:PK→Value}:∀ {i:Nat} {az:List AV} {vs:List Value},dg kn id i az vs→(∀j p v,nth az j=some (.k p)→nth vs j=some v→V p=v)→aF (fun a=>match a with | .v x=>x | .k p=>V p) az=vs
 | _,[],[],_,_=>rfl
 | _,[],_::_,h,_=>by simp [dg]at h
 | _,_::_,[],h,_=>by rename_i a l;cases a<;>simp [dg]at h
 | i,.v x::r,v::vs,h,hv=>by
  simp only [dg]at h
  simp only [aF,h.1]
  rw [dg.GL h.2 fun j p v h1 h2=>hv (j+1) p v h1 h2]
 | i,.k p::r,v::vs,h,hv=>by
  simp only [dg]at h
  simp only [aF]
  rw [hv 0 p v rfl rfl,dg.GL h.2 fun j p v h1 h2=>hv (j+1) p v h1 h2]
theorem dg.kn {kn:List (Key×Kn)} {id:Nat}:∀ {i j:Nat} {az:List AV} {vs:List Value} {p:PK},dg kn id i az vs→nth az j=some (.k p)→cN (.c id (i+j)) kn=some (.p p)
 | _,_,[],_,_,_,h=>by simp [nth]at h
 | i,0,.v _::_,_::_,_,_,h=>by simp [nth]at h
 | i,0,.k p::r,v::vs,p',hd,h=>by
  simp only [dg]at hd
  simp only [nth,Option.some.injEq,AV.k.injEq]at h
  subst h
  exact hd.1
 | i,j+1,.v _::r,_::vs,p,hd,h=>by
  simp only [dg]at hd
  have:=dg.kn hd.2 (show nth r j=some (.k p)from h)
  rwa [show i+1+j=i+(j+1)by omega]at this
 | i,j+1,.k _::r,_::vs,p,hd,h=>by
  simp only [dg]at hd
  have:=dg.kn hd.2 (show nth r j=some (.k p)from h)
  rwa [show i+1+j=i+(j+1)by omega]at this
 | _,_,.v _::_,[],_,hd,_=>by simp [dg]at hd
 | _,_,.k _::_,[],_,hd,_=>by simp [dg]at hd
theorem lT {id:Nat} {key:Key} {k:Kn}:∀ {i:Nat} {l:List CS},(key,k)∈tS id i l→∃j p,key= .c id (i+j)∧k= .p p∧nth l j=some (.k p)
 | _,[],h=>by cases h
 | i,.v _::r,h=>by
  obtain⟨j,p,h1,h2,h3⟩:=lT (l:=r) h
  exact⟨j+1,p,by rw [h1];congr 1;omega,h2,h3⟩
 | i,.k q::r,h=>by
  rcases List.mem_cons.1 h with e | h
  ·injection e with e1 e2;exact⟨0,q,e1,e2,rfl⟩
  ·obtain⟨j,p,h1,h2,h3⟩:=lT (l:=r) h
   exact⟨j+1,p,by rw [h1];congr 1;omega,h2,h3⟩
theorem k5 {key:Key} {k:Kn}:∀ {l:List (Nat×RSh)},(key,k)∈zI l→∃id cs j p,(id,RSh.blk cs)∈l∧key= .c id j∧k= .p p∧nth cs j=some (.k p)
 | [],h=>by cases h
 | (id,.blk cs)::r,h=>by
  rcases List.mem_append.1 h with h | h
  ·obtain⟨j,p,h1,h2,h3⟩:=lT h
   exact⟨id,cs,j,p,List.mem_cons_self ..,by simpa using h1,h2,h3⟩
  ·obtain⟨a,b,c,d,h1,h2⟩:=k5 (l:=r) h;exact⟨a,b,c,d,List.mem_cons_of_mem _ h1,h2⟩
 | (id,.ob _)::r,h=>by obtain⟨a,b,c,d,h1,h2⟩:=k5 (l:=r) h;exact⟨a,b,c,d,List.mem_cons_of_mem _ h1,h2⟩
 | (id,.lst _)::r,h=>by obtain⟨a,b,c,d,h1,h2⟩:=k5 (l:=r) h;exact⟨a,b,c,d,List.mem_cons_of_mem _ h1,h2⟩
theorem tf {T:Type} {id:Nat} {kn:List (Key×Kn)}:∀ {l:List CS} {J:CST l T} {i:Nat} {vs:List Value} {F:T→Prop},xY id kn l J i vs F→(∃J',F J')∧∀j p,nth l j=some (.k p)→cN (.c id (i+j)) kn=some (.p p)
 | [],J,i,[],F,h=>⟨⟨J,h⟩,fun j p hp=>by simp [nth]at hp⟩
 | [],_,_,_::_,_,h=>h.elim
 | .v _::_,_,_,[],_,h=>h.elim
 | .k _::_,_,_,[],_,h=>h.elim
 | .v s::r,J,i,v::vs,F,h=>by
  obtain⟨J1,h1,_⟩:=mW h
  obtain⟨h2,h3⟩:=tf h1
  refine⟨h2,fun j p hp=>?_⟩
  cases j with
  | zero=>simp [nth]at hp
  | succ j=>have:=h3 j p hp;rwa [show i+1+j=i+(j+1)by omega]at this
 | .k q::r,J,i,v::vs,F,h=>by
  simp only [xY]at h
  split at h
  ·rename_i x hx
   split at h
   ·rename_i he
    obtain⟨h2,h3⟩:=tf h
    refine⟨h2,fun j p hp=>?_⟩
    cases j with
    | zero=>simp only [nth,Option.some.injEq,CS.k.injEq]at hp;subst hp;rw [Nat.add_zero,hx,(Kn.lQ he).1]
    | succ j=>have:=h3 j p hp;rwa [show i+1+j=i+(j+1)by omega]at this
   ·exact h.elim
  ·exact h.elim
theorem oN {T:Type} {rs:List (Res U)} {kn:List (Key×Kn)}:∀ {l:List (Nat×RSh)} {J:wA U l T} {F:T→Prop},oG rs kn l J F→∀id cs,(id,RSh.blk cs)∈l→∀j p,nth cs j=some (.k p)→cN (.c id j) kn=some (.p p)
 | [],_,_,_,_,_,h=>by cases h
 | (id,.ob t)::r,J,F,h,i,cs,hm=>by
  simp only [oG]at h
  split at h
  ·split at h
   ·exact oN h i cs ((List.mem_cons.1 hm).resolve_left fun e=>by cases e)
   ·exact h.elim
  ·exact h.elim
 | (id,.lst t)::r,J,F,h,i,cs,hm=>by
  simp only [oG]at h
  split at h
  ·split at h
   ·exact oN h i cs ((List.mem_cons.1 hm).resolve_left fun e=>by cases e)
   ·exact h.elim
  ·exact h.elim
 | (id,.blk l)::r,J,F,h,i,cs,hm=>by
  simp only [oG]at h
  split at h
  ·obtain⟨⟨J',h1⟩,h2⟩:=tf h
   intro j p hp
   rcases List.mem_cons.1 hm with e | hm
   ·injection e with e1 e2
    injection e2 with e2
    subst e1;subst e2
    have:=h2 j p hp
    rwa [Nat.zero_add]at this
   ·exact oN h1 i cs hm j p hp
  ·exact h.elim
theorem de.FH {x:Res U} {g:Nat} {cs:List Value} {T:TypeId}(h:de x (.blk g cs T)):∃Qk,x= .blk g Qk T∧Qk.length=cs.length:=by
 cases h
 rename_i c hc
 exact⟨c,rfl,hc⟩
theorem vS {ct:xQ} {J:JT2 U ct} {stb st':St U} {fr fr':Fr} {a a':Act} {w':World} {X X':Nat→Nat→Prop} {ws:List Nat}(hr:Rep n fr a)(Jv:Rep n fr' a')(JZ:Agr ws a a')(Kg:qu ct.wr2 ws=true)
 (hkb:av stb.rs fr stb.kn)(Ml:av st'.rs fr' st'.kn)(hI:Inv w0 k0 X0 may st'.rs X' w')(hlen:stb.rs.length≤st'.rs.length)(hmd:∀i,i<stb.rs.length→i ∉ st'.md→i ∉ aF (·.1) ct.rsh→nth st'.rs i=nth stb.rs i∧X' i=X i)(KI:∀i a,nth stb.rs i=some a→∃b,nth st'.rs i=some b∧de a b)(WI:k0≤stb.rs.length)
 (hu:nw ct stb.rs.length J fr' st') {F:List (Nat×Value)→St U→Prop}(JW:yR ct J stb fr.e F):
 ∃e KF,F e KF∧Rep n ⟨e,fun i=>a'.tmps.getD i undef,fr.ds⟩ a'∧Inv w0 k0 X0 may KF.rs X' w'∧av KF.rs ⟨e,fun i=>a'.tmps.getD i undef,fr.ds⟩ KF.kn∧KF.md= []∧KF.rs.length=stb.rs.length∧(∀i,i<stb.rs.length→i ∉ aF (·.1) ct.rsh→nth KF.rs i=nth stb.rs i∧X' i=X i)∧∀i a,nth stb.rs i=some a→∃b,nth KF.rs i=some b∧de a b:=by
 unfold nw at hu
 split at hu
 case h_2=>exact hu.elim
 rename_i KM
 simp only [Bool.and_eq_true]at KM
 obtain⟨US,UM,Uy,UT⟩:=KM
 obtain⟨J1,vs,h1,g1,e1⟩:=uV hu
 have QU:=oN h1
 obtain⟨p,us,hp,g2,m2,d2,b2⟩:=l8 h1
 have JW:=g2 _ (g1 _ JW) hp
 split at JW
 case h_2=>exact JW.elim
 rename_i NP Lu
 split at JW
 case h_2=>exact JW.elim
 rename_i JX NL
 obtain⟨l1,f1⟩:=tG Lu
 obtain⟨l2,f2⟩:=tG NL
 have U0:aF (·.1) ct.rsh=us.map (·.1):=by rw [fZ,m2]
 have r1:∀i x,nth stb.rs i=some x→∃y z,nth NP i=some y∧nth st'.rs i=some z∧((∀az,jY i us≠some (.blk az))→y=z)∧((∃az,jY i us=some (.blk az))→y=x):=by
  intro i x hx
  obtain⟨y,hy,We⟩:=f1 i x hx
  rw [Nat.zero_add]at hy
  obtain⟨z,hz,PX⟩:=KI i x hx
  refine⟨y,z,We,hz,?_,?_⟩
  ·intro hnb
   unfold G7 at hy
   cases hg:jY i us with
   | none=>
    rw [hg]at hy
    simp only [Option.some.injEq]at hy
    subst hy
    have QN:=pB hg
    have:i ∉ st'.md:=fun hm=>by
     have:=cu.1 UM i hm
     rw [U0]at this
     rcases Bool.or_eq_true_iff.1 this with h | h
     ·have:=Nat.le_of_ble_eq_true h;have:=aU hx;omega
     ·exact QN (eK.1 h)
    have h2:=(hmd i (aU hx) this (by rw [U0];exact QN)).1
    rw [hz,hx]at h2
    injection h2 with h2
    exact h2.symm
   | some u=>
    rw [hg]at hy
    have hd:=d2 i u (iT hg)
    cases u with
    | ob t s=>
     obtain⟨r,hr⟩:=hd
     rw [hz]at hr
     injection hr with hr
     subst hr
     have h2:cZ x (.ob t s)=some y:=hy
     cases PX
     simp only [cZ,dif_pos]at h2
     injection h2 with h2
     exact h2.symm
    | blk az=>exact absurd hg (hnb az)
    | lst t A c l=>
     obtain⟨own,T,hr⟩:=hd
     rw [hz]at hr
     injection hr with hr
     subst hr
     have h2:cZ x (.lst t A c l)=some y:=hy
     cases PX
     simp only [cZ,dif_pos]at h2
     injection h2 with h2
     exact h2.symm
  ·rintro⟨az,hg⟩
   unfold G7 at hy
   rw [hg]at hy
   simp only [Option.some.injEq]at hy
   exact hy.symm
 have KC:∀q:PK,q.id<stb.rs.length→den U NP q=den U st'.rs q:=by
  intro q hq
  obtain⟨x,hx⟩:=bV hq
  obtain⟨y,z,hy,hz,ha,hb⟩:=r1 _ x hx
  unfold den
  rw [hy,hz]
  cases hg:jY q.id us with
  | none=>rw [ha (fun az e=>by rw [hg]at e;cases e)]
  | some u=>
   cases u with
   | ob t s=>rw [ha (fun az e=>by rw [hg]at e;cases e)]
   | lst t A c l=>rw [ha (fun az e=>by rw [hg]at e;cases e)]
   | blk az=>
    have Wd:=hb ⟨az,hg⟩
    subst Wd
    obtain⟨z',NF,PX⟩:=KI _ _ hx
    rw [hz]at NF
    injection NF with NF
    subst NF
    obtain⟨g,cs,T,hc,_⟩:=d2 _ _ (iT hg)
    rw [hz]at hc
    injection hc with hc
    subst hc
    cases PX
    cases q<;>rfl
 have r2:∀i,i<stb.rs.length→nth JX i=nth st'.rs i:=by
  intro i hi
  obtain⟨x,hx⟩:=bV hi
  obtain⟨y,z,hy,hz,ha,hb⟩:=r1 i x hx
  obtain⟨v,hv,Pn⟩:=f2 i y hy
  rw [Nat.zero_add]at hv
  rw [Pn,hz]
  unfold H8 at hv
  cases hg:jY i us with
  | none=>
   rw [hg]at hv
   simp only [Option.some.injEq]at hv
   rw [← hv,ha (fun az e=>by rw [hg]at e;cases e)]
  | some u=>
   rw [hg]at hv
   cases u with
   | ob t s=>simp only [Option.some.injEq]at hv;rw [← hv,ha (fun az e=>by rw [hg]at e;cases e)]
   | lst t A c l=>simp only [Option.some.injEq]at hv;rw [← hv,ha (fun az e=>by rw [hg]at e;cases e)]
   | blk az=>
    have Wd:=hb ⟨az,hg⟩
    subst Wd
    obtain⟨z',NF,PX⟩:=KI _ _ hx
    rw [hz]at NF
    injection NF with NF
    subst NF
    obtain⟨g,cs,T,hc,hcd⟩:=d2 _ _ (iT hg)
    rw [hz]at hc
    injection hc with hc
    subst hc
    have Q4:=(b2 _ Uy _ _ (iT hg)).2 az rfl
    have Q0:aF (jj NP) az=cs:=by
     have:=hcd.GL (V:=fun p=>(den U NP p).getD undef) (fun j p v hj hv=>by
      have hk:=hcd.kn hj
      obtain⟨g',cs',T',u,q1,q2,q3⟩:=Ml.get hk
      rw [hz]at q1
      injection q1 with q1
      injection q1 with _ q1 _
      subst q1
      rw [Nat.zero_add]at q2
      rw [hv]at q2
      injection q2 with q2
      subst q2
      have q3:den U st'.rs p=some v:=q3
      rw [KC p (Q4 p (gH hj)),q3]
      rfl)
     have e:(fun a=>match a with | .v x=>x | .k p=>(den U NP p).getD undef)=jj NP:=by funext a;cases a<;>rfl
     rw [e]at this
     exact this
    have hv:cZ y (.blk (aF (jj NP) az))=some v:=hv
    rw [Q0]at hv
    obtain⟨Qk,rfl,hle⟩:=PX.FH
    simp only [cZ,hle,Nat.beq_refl]at hv
    exact hv.symm
 have UN:JX.length=stb.rs.length:=by rw [l2,l1]
 have OK:∀q:PK,q.id<stb.rs.length→den U JX q=den U st'.rs q:=fun q hq=>by unfold den;rw [r2 _ hq]
 obtain⟨MF,Lc⟩:=nR Kg
 have Mh:∀s v,(s,v)∈vs++kp JX ct.kns→lk fr'.g s fr'.e=v:=by
  intro s v hm
  rcases List.mem_append.1 hm with hm | hm
  ·exact e1 s v hm
  ·obtain⟨q,hq,rfl⟩:=fH hm
   obtain⟨q',Vu,hg⟩:=nO US hq
   injection Vu with Vu
   subst Vu
   have:den U st'.rs q=some (lk fr'.g s fr'.e):=Ml.get hg
   rw [OK q (jE UT hq),this]
   rfl
 have Lq:Rep n ⟨vs++kp JX ct.kns++forget ct.wr2 fr.e,fun i=>a'.tmps.getD i undef,fr.ds⟩ a':=tp hr Jv (JZ.mono MF) Lc Mh
 have QR:∀i,lk (fun i=>a'.tmps.getD i undef) i (vs++kp JX ct.kns++forget ct.wr2 fr.e)=lk fr'.g i fr'.e:=fun i=>by rw [← Jv.get];exact(Lq.get i).symm
 have KW:∀i,i<stb.rs.length→i ∉ aF (·.1) ct.rsh→nth JX i=nth stb.rs i∧X' i=X i:=by
  intro i hi QN
  rw [r2 i hi]
  refine hmd i hi (fun hm=>?_) QN
  have:=cu.1 UM i hm
  rcases Bool.or_eq_true_iff.1 this with h | h
  ·have:=Nat.le_of_ble_eq_true h;omega
  ·exact QN (eK.1 h)
 have OF:∀i a,nth stb.rs i=some a→∃b,nth JX i=some b∧de a b:=by
  intro i x hx
  obtain⟨z,hz,PX⟩:=KI i x hx
  exact⟨z,by rw [r2 i (aU hx)];exact hz,PX⟩
 have hIt:Inv w0 k0 X0 may JX X' w':=hI.Gn (by omega) (fun i hi=>r2 i (by omega)) (by omega)
 have JW:=jf (fun r hr=>by
  obtain⟨i,hi⟩:=pN hr
  exact⟨_,_,hIt.sat.res i r hi⟩) JW
 refine⟨_,_,JW,Lq,hIt,?_,rfl,UN,KW,OF⟩
 refine av.app ?_ (av.app ?_ ?_)
 ·intro key k hm
  obtain⟨s,rfl,hs⟩:=pE hm
  obtain⟨q,rfl,hg⟩:=nO US hs
  show den U JX q=some (lk _ s _)
  rw [QR,OK q (jE UT hs)]
  exact Ml.get hg
 ·intro key k hm
  obtain⟨id,cs,j,q,h3,rfl,rfl,h5⟩:=k5 hm
  have hg:=QU id cs h3 j q h5
  obtain⟨g,cs',T,v,q1,q2,q3⟩:=Ml.get hg
  have OL:id<stb.rs.length∧q.id<stb.rs.length:=by
   have key:∀(l:List (Nat×RSh)),dU stb.rs.length l=true→(id,RSh.blk cs)∈l→id<stb.rs.length∧iI stb.rs.length cs=true:=by
    intro l
    induction l with
    | nil=>intro _ h;cases h
    | cons x r ih=>
     intro hb hm
     obtain⟨i,x⟩:=x
     cases x with
     | ob t=>
      simp only [dU]at hb
      split at hb
      ·exact ih hb ((List.mem_cons.1 hm).resolve_left fun e=>by cases e)
      ·cases hb
     | lst t=>
      simp only [dU]at hb
      split at hb
      ·exact ih hb ((List.mem_cons.1 hm).resolve_left fun e=>by cases e)
      ·cases hb
     | blk l=>
      simp only [dU]at hb
      split at hb
      ·rename_i JM
       simp only [Bool.and_eq_true]at JM
       rcases List.mem_cons.1 hm with e | hm
       ·injection e with e1 e2;injection e2 with e2;subst e1;subst e2
        exact⟨by simpa [Nat.blt_eq]using JM.1,JM.2⟩
       ·exact ih hb hm
      ·cases hb
   obtain⟨h6,h7⟩:=key ct.rsh Uy h3
   refine⟨h6,?_⟩
   have key2:∀(l:List CS)(j:Nat),iI stb.rs.length l=true→nth l j=some (.k q)→q.id<stb.rs.length:=by
    intro l
    induction l with
    | nil=>intro j _ h;simp [nth]at h
    | cons x r ih=>
     intro j hb hj
     cases x with
     | v s=>
      cases j with
      | zero=>simp [nth]at hj
      | succ j=>exact ih j hb hj
     | k p'=>
      simp only [iI]at hb
      split at hb
      ·rename_i JM
       cases j with
       | zero=>simp only [nth,Option.some.injEq,CS.k.injEq]at hj;subst hj;simpa [Nat.blt_eq]using JM
       | succ j=>exact ih j hb hj
      ·cases hb
   exact key2 cs j h7 h5
  exact⟨g,cs',T,v,by rw [r2 id OL.1];exact q1,q2,by show den U JX q=_;rw [OK q OL.2];exact q3⟩
 ·have P3:=av.fj (M:=aF (·.1) ct.rsh) hkb (rs':=JX) (fun i hi hm=>(KW i hi hm).1) (fun i _ x hx=>OF i x hx)
  intro key k hm
  obtain⟨P4,MU⟩:=cW hm
  have h0:=P3 key k P4
  cases key with
  | s i=>
   have QN:i ∉ ct.wr2:=by
    intro hh
    have MU:(!ko i ct.wr2)=true:=MU
    rw [eK.2 hh]at MU
    cases MU
   show im JX (lk _ i _) k
   have:lk (fun i=>a'.tmps.getD i undef) i (vs++kp JX ct.kns++forget ct.wr2 fr.e)=lk fr.g i fr.e:=by
    rw [QR,← Jv.get,← hr.get]
    exact JZ.tmps i fun hi=>QN (MF i hi)
   rw [this]
   exact h0
  | c id off=>exact h0
  | l id path=>exact h0
end
end
section
section
variable {U:Uni} {P:Program} {tbl:Tb U} {may:List Nat} {k0:Nat}
variable {w0:World} {X0 X:Nat→Nat→Prop} {w:World} {fr:Fr} {st:St U} {n:Nat} {N:List Nat} {ops:Array Oper}
theorem Steps.back {MZ:St U} {X':Nat→Nat→Prop} {w':World}(h:Steps w0 k0 X0 may {st with md:= []} X MZ X' w'):Steps w0 k0 X0 may st X (jD U MZ st.md) X' w':=by
 obtain⟨a,b,⟨L,h1,h2,h3⟩,d⟩:=h
 refine⟨a,b,⟨L,?_,h2,h3⟩,d⟩
 show MZ.md++st.md=L++st.md
 rw [h1];simp
theorem jK:∀ {l:List (Key×Nat×TypeId)} {st st':St U} {X:Nat→Nat→Prop},kB fr l st=some st'→Inv w0 k0 X0 may st.rs X w→av st.rs fr st.kn→∃X',Steps w0 k0 X0 may st X st' X' w∧av st'.rs fr st'.kn
 | [],st,st',X,h,hI,hk=>by
  simp only [kB,Option.some.injEq]at h
  subst h
  exact⟨X,Steps.refl hI,hk⟩
 | (key,tt,T)::r,st,st',X,h,hI,hk=>by
  simp only [kB]at h
  split at h
  ·rename_i hv
   have Lt:RS (fun _=>False) w (.lst tt true T none 0 []:Res U):=⟨Own.nil,fun k hk=>hk.elim⟩
   have L0:nth (st.rs++ [Res.lst tt true T none 0 []]) st.rs.length=some (.lst tt true T none 0 []):=vu
   have hI2:=hI.more (Ch.refl _ _) Lt (fun k hk=>hk.elim)
   have Kf:=oR hk (Res.lst tt true T none 0 [])
   have hd:den U (st.rs++ [Res.lst tt true T none 0 []]) (.sl st.rs.length 0)=some (.slice none 0 0):=by
    simp only [den,PK.id,L0,cm,jb,List.length_nil]
   have WG:av (st.rs++ [Res.lst tt true T none 0 []]) fr ((key,.p (.sl st.rs.length 0))::eH (fun a _=>!(a.eq key)) st.kn):=by
    intro key' k hm
    rcases List.mem_cons.1 hm with e | hm
    ·injection e with e1 e2
     subst e1;subst e2
     cases key' with
     | s i=>
      simp only [zE,Option.some.injEq]at hv
      show den U _ _=some (lk fr.g i fr.e)
      rw [hv];exact hd
     | c id off=>
      simp only [zE]at hv
      split at hv
      ·rename_i g cs T' hn
       exact⟨g,cs,T',_,by rw [bf,if_pos (aU hn)];exact hn,hv,hd⟩
      ·cases hv
     | l id path=>simp only [zE,reduceCtorEq]at hv
    ·exact Kf _ _ (cW hm).1
   obtain⟨X',h1,h2⟩:=jK h hI2 WG
   have hs0:Steps w0 k0 X0 may st X ⟨st.rs++ [Res.lst tt true T none 0 []],(key,.p (.sl st.rs.length 0))::eH (fun a _=>!(a.eq key)) st.kn,st.md⟩ (tg X st.rs.length fun _=>False) w:=⟨hI2,by simp,⟨[],rfl,fun i hi=>(by cases hi),fun i hi _=>⟨by show nth (st.rs++_) i=_;rw [bf,if_pos hi],l9 _ _ (by omega)⟩⟩,fun i a ha=>⟨a,by show nth (st.rs++_) i=_;rw [bf,if_pos (aU ha)];exact ha,de.refl a⟩⟩
   exact⟨X',hs0.trans h1,h2⟩
  ·cases h
theorem GI {c:Code} {Q:QF2 U} {a:Act} {st':St U} {X':Nat→Nat→Prop} {ws:List Nat}(hS:Steps w0 k0 X0 may st X st' X' w)(h:c.wpIn (WF none) 0 P (lD n ws a fun x Kr w2=>Aft w0 k0 X0 may st' X' fr.ds (fun fr' st'=>Q x fr' st') Kr w2) a w):
 c.wpIn (WF none) 0 P (lD n ws a fun x Kr w2=>Aft w0 k0 X0 may st X fr.ds (fun fr' st'=>Q x fr' st') Kr w2) a w:=by
 refine wpIn_mono h fun x a' w' he=>?_
 cases x
 case outgrown=>exact he
 all_goals
  obtain⟨fr',Jv,hq,JZ⟩:=he
  exact⟨fr',Jv,hq.pre hS,JZ⟩
theorem Bt {c:Code} {an:An} {V:QF2 U→Fr→St U→Prop}(h:qI U P may k0 w0 X0 n c V):qI U P may k0 w0 X0 n c fun Q fr st=>pq U an Q fr st fun Q st=>V Q fr st:=by
 intro Q fr st X a w hr hI hk hv
 simp only [pq]at hv
 split at hv
 ·rename_i st' La
  obtain⟨X',h1,h2⟩:=jK La hI hk
  refine wpIn_mono (h Q fr st' X' a w hr h1.inv h2 hv) fun x a' w' he=>?_
  cases x
  case outgrown=>exact he
  all_goals
   obtain⟨fr',Jv,hq,JZ⟩:=he
   exact⟨fr',Jv,hq.pre h1,JZ⟩
 ·exact hv.elim
theorem fJ {c:Code} {an:An} {V:QF2 U→Fr→St U→Prop}(h:qI U P may k0 w0 X0 n c V):qI U P may k0 w0 X0 n c fun Q fr st=>gT U may k0 c an Q fr st fun Q st=>V Q fr st:=by
 refine Bt (V:=fun Q fr st=>po U may k0 c an Q fr st fun Q st=>V Q fr st) ?_
 intro Q fr st X a w hr hI hk hv
 simp only [po]at hv
 split at hv
 ·exact h Q fr st X a w hr hI hk hv
 ·rename_i ct QY
  split at hv
  ·rename_i Kg
   simp only [Bool.and_eq_true]at Kg
   obtain⟨Kg,Kk⟩:=Kg
   obtain⟨J,h1,h2⟩:=hv
   have P8:=h _ fr {st with md:= []} X a w hr hI hk h1
   refine wpIn_mono P8 fun x a' w' he=>?_
   have other:∀fr',(Aft w0 k0 X0 may {st with md:= []} X fr.ds (fun fr' st'=>Q x fr' (jD U st' st.md)) fr' w')→Aft w0 k0 X0 may st X fr.ds (fun fr' st'=>Q x fr' st') fr' w':=by
    rintro fr' ⟨st',X',g1,g2,g3,g4⟩
    exact⟨jD U st' st.md,X',g1.back,g2,g3,g4⟩
   cases x
   case normal=>
    obtain⟨fr',Jv,⟨st',X',g1,g2,g3,g4⟩,JZ⟩:=he
    obtain⟨L,hL,cL,hl⟩:=g1.md
    have hL:st'.md=L:=by rw [hL];simp
    obtain⟨e,KF,f1,f2,f3,f4,f5,f6,f7,f8⟩:=vS (stb:=st) (X:=X) hr Jv JZ Kg hk g2 g1.inv g1.len (fun i hi hm _=>hl i hi (by rw [← hL];exact hm)) g1.root hI.len g4 (h2 _)
    refine⟨_,f2,⟨jD U KF (aF (·.1) ct.rsh++st.md),X',⟨f3,by show st.rs.length≤KF.rs.length;omega,⟨aF (·.1) ct.rsh,?_,fun i hi=>gg (cu.1 Kk i hi),f7⟩,f8⟩,f4,rfl,f1⟩,JZ⟩
    show KF.md++(aF (·.1) ct.rsh++st.md)=_
    rw [f5];rfl
   case outgrown=>exact he
   all_goals
    obtain⟨fr',Jv,hq,JZ⟩:=he
    exact⟨fr',Jv,other fr' hq,JZ⟩
  ·exact hv.elim
theorem cV(Kx:∀f c,tbl.c f=some c→LV U P f c∧bP P f=true)(hm:P.follows .mixedOrders=true):∀(c:Code)(an:An),qI U P may k0 w0 X0 n c (fun Q fr st=>ju U P tbl may k0 n N c an Q fr st)
 | .skip,an=>fun Q fr st X a w hr hI hk hv=>wpIn_skip ⟨fr,hr,⟨st,X,Steps.refl hI,hk,rfl,hv⟩,Agr.refl _ _⟩
 | .region id ops false,an=>fJ (c:= .region id ops false) (V:=fun Q fr st=>Ax U P tbl may k0 n N ops (Q .normal) (fun ch=>Q (.panic ch)) ops.toList fr st) fun Q fr st X a w hr hI hk hv=>rq Kx hr hI hk hv
 | .region id ops true,an=>fJ (c:= .region id ops true) (V:=fun Q fr st=>match Region.noSelect ops,dZ ops.toList with
  | true,true=>rn U P tbl may k0 n N ops (kz P ops.toList) an.V an.rd (Q .normal) ops.size (Array.replicate ops.size false) fr st
  | _,_=>False) fun Q fr st X a w hr hI hk hv=>by
  dsimp only at hv
  split at hv
  ·rename_i hs Lz
   exact tr Kx hm hs Lz hr hI hk hv
  ·exact hv.elim
 | .seq x y,an=>fJ (c:= .seq x y) (V:=fun Q fr st=>ju U P tbl may k0 n N x an.l (fun e fr' st'=>match e with | .normal=>ju U P tbl may k0 n N y an.r Q fr' st' | e=>Q e fr' st') fr st) fun Q fr st X a w hr hI hk hv=>by
  refine wpIn_seq (wpIn_mono (cV Kx hm x an.l _ fr st X a w hr hI hk hv) fun e a' w' he=>?_)
  cases e
  case normal=>
   obtain⟨fr',Jv,⟨st',X',g1,g2,g3,g4⟩,JZ⟩:=he
   refine wpIn_mono (cV Kx hm y an.r Q fr' st' X' a' w' Jv g1.inv g2 g4) fun e a2 w2 he=>?_
   cases e<;>first
    | exact he.elim
    | (obtain⟨Kr,h1,h2,h3⟩:=he
       exact⟨Kr,h1,g3▸h2.pre g1,(JZ.mono fun i hi=>List.mem_append_left _ hi).trans (h3.mono fun i hi=>List.mem_append_right _ hi)⟩)
  all_goals first
   | exact he.elim
   | (obtain⟨Kr,h1,h2,h3⟩:=he
      exact⟨Kr,h1,h2,h3.mono fun i hi=>List.mem_append_left _ hi⟩)
 | .cond c x y,an=>fJ (c:= .cond c x y) (V:=fun Q fr st=>match ev fr c with
  | .bool b=>split b (ju U P tbl may k0 n N x an.l Q fr st) (ju U P tbl may k0 n N y an.r Q fr st)
  | _=>False) fun Q fr st X a w hr hI hk hv=>by
  dsimp only at hv
  split at hv
  ·rename_i b hb
   rw [← hr.eval]at hb
   rcases eR hv with⟨rfl,Pn⟩ | ⟨rfl,Pn⟩
   ·exact wpIn_cond_true hb (wpIn_mono (cV Kx hm x an.l Q fr st X a w hr hI hk Pn) fun e a' w' he=>he.mono (fun i hi=>List.mem_append_left _ hi) (fun _ _ _ h=>h))
   ·exact wpIn_cond_false hb (wpIn_mono (cV Kx hm y an.r Q fr st X a w hr hI hk Pn) fun e a' w' he=>he.mono (fun i hi=>List.mem_append_right _ hi) (fun _ _ _ h=>h))
  ·exact hv.elim
 | .block id c,an=>fJ (c:= .block id c) (V:=fun Q fr st=>ju U P tbl may k0 n N c an.l (fun e fr' st'=>match e with
  | .exit id'=>(match Nat.beq id' id with | true=>Q .normal fr' st' | false=>Q (.exit id') fr' st')
  | e=>Q e fr' st') fr st) fun Q fr st X a w hr hI hk hv=>by
  refine wpIn_block (wpIn_mono (cV Kx hm c an.l _ fr st X a w hr hI hk hv) fun e a' w' he=>?_)
  cases e
  case exit id'=>
   obtain⟨fr',Jv,hq,JZ⟩:=he
   simp only [Exit.inBlock]
   split
   ·rename_i hi
    subst hi
    exact⟨fr',Jv,hq.mono fun fr st Me=>(by dsimp only at Me;rw [Nat.beq_refl]at Me;exact Me),JZ⟩
   ·rename_i hi
    refine⟨fr',Jv,hq.mono fun fr st Me=>?_,JZ⟩
    dsimp only at Me
    split at Me
    ·rename_i hb;exact absurd (Nat.eq_of_beq_eq_true hb) hi
    ·exact Me
  all_goals exact he
 | .loop c,an=>fun Q fr st00 X00 a w hr W9 WH hv=>by
  simp only [ju,pq]at hv
  split at hv
  case h_2=>exact hv.elim
  rename_i st Uv
  obtain⟨X,Ve,hk⟩:=jK Uv W9 WH
  have hI:=Ve.inv
  refine GI Ve ?_
  split at hv
  ·exact hv.elim
  ·rename_i ct QY
   split at hv
   ·rename_i Kg
    simp only [Bool.and_eq_true]at Kg
    obtain⟨Kg,Kk⟩:=Kg
    obtain⟨I,⟨m0,h0⟩,LL⟩:=hv
    refine l6 (fun m a' w'=>∃fr' st' X',Rep n fr' a'∧(Inv w0 k0 X0 may st'.rs X' w'∧st.rs.length≤st'.rs.length∧(∀i,i<st.rs.length→i ∉ st'.md→i ∉ aF (·.1) ct.rsh→nth st'.rs i=nth st.rs i∧X' i=X i)∧∀i a,nth st.rs i=some a→∃b,nth st'.rs i=some b∧de a b)∧av st'.rs fr' st'.kn∧nw ct st.rs.length (I m) fr' st'∧Agr (writes c) a a') m0 ⟨fr,{st with md:= []},X,hr,⟨hI,Nat.le_refl _,fun _ _ _ _=>⟨rfl,rfl⟩,fun i a ha=>⟨a,ha,de.refl a⟩⟩,hk,h0,Agr.refl _ _⟩ ?_
    rintro m a1 w1 ⟨OQ,MZ,X1,MC,⟨KH,NS,P2,Vt⟩,KT,hu,JZ⟩
    obtain⟨e,KF,f1,f2,f3,f4,f5,f6,f7,f8⟩:=vS (stb:=st) (X:=X) hr MC JZ Kg hk KT KH NS P2 Vt hI.len hu (LL m _)
    refine wpIn_mono (cV Kx hm c an.l _ _ KF X1 a1 w1 f2 f3 f4 f1) fun x a' w' he=>?_
    have join:∀ {Nl:St U} {X3:Nat→Nat→Prop},Steps w0 k0 X0 may KF X1 Nl X3 w'→∃L3,Nl.md=L3∧(∀i,i∈L3→i∈may∨k0≤i)∧∀i,i<st.rs.length→i ∉ L3→i ∉ aF (·.1) ct.rsh→nth Nl.rs i=nth st.rs i∧X3 i=X i:=by
     intro Nl X3 P2
     obtain⟨L3,Vf,Xh,QS⟩:=P2.md
     refine⟨L3,by rw [Vf,f5];simp,Xh,fun i hi hn NU=>?_⟩
     obtain⟨e1,e2⟩:=QS i (by omega) hn
     obtain⟨e3,e4⟩:=f7 i hi NU
     exact⟨e1.trans e3,e2.trans e4⟩
    have rootj:∀ {Nl:St U} {X3:Nat→Nat→Prop},Steps w0 k0 X0 may KF X1 Nl X3 w'→∀i a,nth st.rs i=some a→∃b,nth Nl.rs i=some b∧de a b:=by
     intro Nl X3 P2 i x hx
     obtain⟨b,hb,hr⟩:=f8 i x hx
     obtain⟨c',Q2,Jv⟩:=P2.root i b hb
     exact⟨c',Q2,hr.trans Jv⟩
    have out:∀ {K:Fr→St U→Prop} {fr':Fr},Aft w0 k0 X0 may KF X1 fr.ds (fun fr' st'=>K fr' (jD U st' (aF (·.1) ct.rsh++st.md))) fr' w'→Aft w0 k0 X0 may st X fr.ds K fr' w':=by
     rintro K fr' ⟨Nl,X3,g1,g2,g3,g4⟩
     obtain⟨L3,Vf,Xh,QS⟩:=join g1
     refine⟨jD U Nl (aF (·.1) ct.rsh++st.md),X3,⟨g1.inv,?_,⟨L3++aF (·.1) ct.rsh,?_,fun i hi=>(List.mem_append.1 hi).elim (Xh i) (fun hi=>gg (cu.1 Kk i hi)),fun i hi hn=>?_⟩,fun i x hx=>rootj g1 i x hx⟩,g2,g3,g4⟩
     ·show st.rs.length≤Nl.rs.length
      have:=g1.len;omega
     ·show Nl.md++(_++_)=_
      rw [Vf,List.append_assoc]
     ·rw [List.mem_append,not_or]at hn
      exact QS i hi hn.1 hn.2
    cases x
    case normal=>
     obtain⟨fr',Jv,⟨Nl,X3,g1,g2,g3,m',JM,hu'⟩,Na⟩:=he
     obtain⟨L3,Vf,_,QS⟩:=join g1
     exact⟨m',JM,fr',Nl,X3,Jv,⟨g1.inv,by have:=g1.len;omega,fun i hi hn NU=>QS i hi (by rw [← Vf];exact hn) NU,rootj g1⟩,g2,hu',JZ.trans Na⟩
    case outgrown=>exact he
    all_goals
     obtain⟨fr',Jv,hq,Na⟩:=he
     exact⟨fr',Jv,out hq,JZ.trans Na⟩
   ·exact hv.elim
 | .exit id,an=>fun Q fr st X a w hr hI hk hv=>wpIn_exit ⟨fr,hr,⟨st,X,Steps.refl hI,hk,rfl,hv⟩,Agr.refl _ _⟩
 | .ret,an=>fun Q fr st X a w hr hI hk hv=>wpIn_ret ⟨fr,hr,⟨st,X,Steps.refl hI,hk,rfl,hv⟩,Agr.refl _ _⟩
 | .scope c,an=>by
  refine fJ (c:= .scope c) (V:=fun Q fr st=>ju U P tbl may k0 n N c an.l (fun e fr' st'=>match e with
   | .goto _=>False
   | e=>Q e fr' st') fr st) fun Q fr st X a w hr hI hk hv=>?_
  refine(wpIn_wide (n:=0)).2 (wp_scope_straight ((wpIn_wide (n:=0)).1 (wpIn_mono (cV Kx hm c an.l _ fr st X a w hr hI hk hv) fun e a' w' he=>?_)))
  cases e
  case goto l=>obtain⟨_,_,⟨_,_,_,_,_,h⟩,_⟩:=he;exact h.elim
  all_goals exact he
 | .label _,an=>fun Q fr st X a w hr hI hk hv=>wpIn_label ⟨fr,hr,⟨st,X,Steps.refl hI,hk,rfl,hv⟩,Agr.refl _ _⟩
 | .rangeFunc _ _ _ _,an=>fun Q fr st X a w hr hI hk hv=>hv.elim
 | .goto _,an=>fun Q fr st X a w hr hI hk hv=>hv.elim
 | .refuse _,an=>fun Q fr st X a w hr hI hk hv=>hv.elim
end
end
end Go.Proofs.YtinhphjfnedhgaaGreatDoor.V
namespace Go.Proofs.YtinhphjfnedhgaaGreatDoor.V
open Go Go.RowKit
open Go.IntKind (i64 u32 u64)
open Enc (enc)
section
section
variable {U:Uni} {P:Program} {tbl:Tb U} {may:List Nat} {k0:Nat}
variable {w0:World} {X0 X:Nat→Nat→Prop} {w:World} {fr:Fr} {st:St U} {n:Nat} {N:List Nat}
theorem A6 {t:TypeId} {k:Option Kn} {x:Value} {K:Value→Option Kn→Prop}(h:sg U P t k st K)(hx:KnO st.rs x k):∃q,x= .pointer (some q):=by
 unfold sg at h
 split at h
 ·rename_i id off
  split at h
  ·rename_i g cs T hn
   have hd:den U st.rs (.loc id off)=some x:=hx
   simp only [den,PK.id,hn,cm,Option.some.injEq]at hd
   exact⟨_,hd.symm⟩
  ·exact h.elim
 ·rename_i id path off
  split at h
  ·rename_i tt r s hn
   have hd:den U st.rs (.obj id path off)=some x:=hx
   simp only [den,PK.id,hn,cm,Option.some.injEq]at hd
   exact⟨_,hd.symm⟩
  ·exact h.elim
 ·rename_i id li i off
  split at h
  ·rename_i r hn
   split at h
   ·rename_i L hL
    have hd:den U st.rs (.el id li i off)=some x:=hx
    simp only [den,PK.id,hn,cm,hL]at hd
    split at hd
    ·injection hd with hd;exact⟨_,hd.symm⟩
    ·cases hd
   ·exact h.elim
  ·exact h.elim
 ·exact h.elim
theorem jz {tmps:Array Value}(ht:∀i,tmps.getD i undef=lk fr.g i fr.e)(hS:Sat st.rs X w)(hk:av st.rs fr st.kn):∀(rs:List ResultVar) {F:List Value→List (Option Kn)→Prop},kd U P fr st rs F→
 ∃vs ks,F vs ks∧vs.length=ks.length∧(∀j v k,nth vs j=some v→nth ks j=some k→KnO st.rs v k)∧(rs.mapM (j8 tmps)).run P w= .ok vs w
 | [],F,h=>⟨[],[],h,rfl,fun j v k hv=>by simp [nth]at hv,rfl⟩
 | .tmp t::r,F,h=>by
  obtain⟨vs,ks,hF,hl,K2,hr⟩:=jz ht hS hk r h
  refine⟨_,_,hF,by simp [hl],fun j v k hv J5=>?_,?_⟩
  ·cases j with
   | zero=>
    simp only [nth,Option.some.injEq]at hv J5
    subst hv;subst J5
    cases hg:cN (.s t) st.kn with
    | none=>exact trivial
    | some q=>exact hk.get hg
   | succ j=>exact K2 j v k hv J5
  ·have h1:(j8 tmps (.tmp t)).run P w= .ok (lk fr.g t fr.e) w:=by rw [← ht];rfl
   rw [List.mapM_cons,Sem.run_bind,h1]
   show(Sem.run P (do let bs ← r.mapM (j8 tmps);pure (lk fr.g t fr.e::bs)) w)=_
   rw [Sem.run_bind,hr]
   rfl
 | .cell a t::r,F,h=>by
  simp only [kd]at h
  have hx:KnO st.rs (lk fr.g a fr.e) (cN (.s a) st.kn):=by
   cases hg:cN (.s a) st.kn with
   | none=>exact trivial
   | some q=>exact hk.get hg
  obtain⟨q,hq⟩:=A6 h hx
  obtain⟨v,kv,hF,Mh,KK⟩:=sf hS hk hx h
  obtain⟨vs,ks,hF,hl,K2,hr⟩:=jz ht hS hk r hF
  refine⟨_,_,hF,by simp [hl],fun j u k hv J5=>?_,?_⟩
  ·cases j with
   | zero=>
    simp only [nth,Option.some.injEq]at hv J5
    subst hv;subst J5
    exact Mh
   | succ j=>exact K2 j u k hv J5
  ·have h2:=KK w (Kept.refl _ _)
   rw [hq]at h2
   have h1:(j8 tmps (.cell a t)).run P w= .ok v w:=by
    show(do loadVar t (← asAddr (tmps.getD a undef)):Sem Value).run P w=_
    rw [ht,hq]
    exact h2
   rw [List.mapM_cons,Sem.run_bind,h1]
   show(Sem.run P (do let bs ← r.mapM (j8 tmps);pure (v::bs)) w)=_
   rw [Sem.run_bind,hr]
   rfl
theorem u9 {fn:Func} {tmps:Array Value} {vs:List Value}(hr:(fn.results.toList.mapM (j8 tmps)).run P w= .ok vs w):(results fn tmps).run P w= .ok (match vs with | [v]=>v | vs=>.tuple ⟨vs⟩) w:=by
 have hm:(fn.results.mapM (j8 tmps)).run P w= .ok ⟨vs⟩ w:=by
  rw [Array.mapM_eq_mapM_toList]
  simp [hr]
 have OG:results fn tmps=(do let vs ← fn.results.mapM (j8 tmps);pure (if h:vs.size=1 then vs[0]else .tuple vs)):=by
  unfold results j8
  congr 1
 rw [OG,Sem.run_bind,hm]
 cases vs with
 | nil=>rfl
 | cons v r=>
  cases r with
  | nil=>rfl
  | cons u r=>rfl
theorem tW {a b:Res U}(h:de a b):cZ a (rV U b)=some b:=by
 cases h
 ·rename_i h
  simp only [cZ,rV,h,Nat.beq_refl]
 ·simp [cZ,rV]
 ·simp [cZ,rV]
theorem lB {G:List (Res U)}:∀ {ms:List Nat} {us:List (Res U)} {L:List (Res U)},g8 (nth G) ms=some us→(∀i,i∈ms→∀b,nth G i=some b→∃a,nth L i=some a∧de a b)→∃L',bF L ms (aF (rV U) us)=some L'∧L'.length=L.length∧(∀i,i∈ms→nth L' i=nth G i)∧∀i,i ∉ ms→nth L' i=nth L i
 | [],us,L,hM,h=>by
  simp only [g8,Option.some.injEq]at hM
  subst hM
  exact⟨L,rfl,rfl,fun i hi=>(by cases hi),fun _ _=>rfl⟩
 | m::ms,us,L,hM,h=>by
  simp only [g8]at hM
  split at hM
  ·rename_i b bs hb Q3
   injection hM with hM
   subst hM
   obtain⟨a,ha,hr⟩:=h m (List.mem_cons_self ..) b hb
   have Vx:=aU ha
   have e:∀j,nth (cy L m b) j=if j=m then some b else nth L j:=fun j=>by
    rw [br]
    by_cases hj:j=m
    ·rw [if_pos ⟨hj,Vx⟩,if_pos hj]
    ·rw [if_neg (fun hh=>hj hh.1),if_neg hj]
   obtain⟨L',h1,h2,h3,h4⟩:=lB (L:=cy L m b) Q3 fun i hi x hx=>by
    rw [e]
    by_cases hj:i=m
    ·subst hj
     rw [hb]at hx
     injection hx with hx
     subst hx
     exact⟨b,by rw [if_pos rfl],de.refl b⟩
    ·rw [if_neg hj];exact h i (List.mem_cons_of_mem _ hi) x hx
   refine⟨L',?_,by rw [h2];simp,fun i hi=>?_,fun i hi=>?_⟩
   ·simp only [aF,bF,ha,tW hr]
    exact h1
   ·by_cases hm:i∈ms
    ·exact h3 i hm
    ·have:i=m:=(List.mem_cons.1 hi).resolve_right hm
     subst this
     rw [h4 i hm,e,if_pos rfl,hb]
   ·rw [List.mem_cons,not_or]at hi
    rw [h4 i hi.2,e,if_neg hi.1]
  ·cases hM
theorem r5 {i:Nat}:∀ {l:List Nat} {p q:Nat},posOf i l p=some q→p≤q∧nth l (q - p)=some i
 | [],_,_,h=>by cases h
 | j::r,p,q,h=>by
  simp only [posOf]at h
  split at h
  ·rename_i he
   injection h with h
   subst h
   exact⟨Nat.le_refl _,by rw [Nat.sub_self,Nat.eq_of_beq_eq_true he];rfl⟩
  ·obtain⟨h1,h2⟩:=r5 h
   refine⟨by omega,?_⟩
   rw [show q - p=(q - (p+1))+1 by omega]
   exact h2
theorem vo {α β:Type} {f:α→Option β} {l:List α} {r:List β}(h:g8 f l=some r) {i:Nat} {a:α}(ha:nth l i=some a):f a=nth r i:=by
 obtain⟨b,h1,h2⟩:=(qf h).2 i a ha
 rw [h1,h2]
theorem Dc {α β:Type} {f:α→Option β} {l:List α} {r:List β}(h:g8 f l=some r):r.length=l.length:=(qf h).1
theorem nP {rs:List (Res U)} {key:Key} {k:Kn}:∀ {l:List (Key×Kn)},ot rs l=true→(key,k)∈l→(∃p v,k= .p p∧den U rs p=some v)∨∃l,k= .ag l∧∀j p,nth l j=some (some p)→∃v,den U rs p=some v
 | [],_,h=>by cases h
 | (a,.p p)::r,h,hm=>by
  simp only [ot]at h
  split at h
  ·rename_i v hv
   rcases List.mem_cons.1 hm with e | hm
   ·injection e with e1 e2;subst e2;exact .inl ⟨p,v,rfl,hv⟩
   ·exact nP h hm
  ·cases h
 | (a,.t _)::r,h,_=>by cases h
 | (a,.ag l)::r,h,hm=>by
  simp only [ot]at h
  split at h
  ·rename_i hl
   rcases List.mem_cons.1 hm with e | hm
   ·injection e with e1 e2;subst e2
    refine .inr ⟨l,rfl,fun j p hj=>?_⟩
    have:=cu.1 hl _ (gH hj)
    simp only [Bd]at this
    split at this
    ·rename_i v hv;exact⟨v,hv⟩
    ·cases this
   ·exact nP h hm
  ·cases h
 | (a,.f _ _)::r,h,_=>by cases h
theorem mC {key:Key} {k:Kn}:∀ {l:List (Option Kn)} {i:Nat},(key,k)∈rv i l→∃j,key= .s (i+j)∧nth l j=some (some k)
 | [],_,h=>by cases h
 | none::r,i,h=>by
  obtain⟨j,h1,h2⟩:=mC (l:=r) h
  exact⟨j+1,by rw [h1];congr 1;omega,h2⟩
 | some q::r,i,h=>by
  rcases List.mem_cons.1 h with e | h
  ·injection e with e1 e2;subst e2;exact⟨0,e1,rfl⟩
  ·obtain⟨j,h1,h2⟩:=mC (l:=r) h
   exact⟨j+1,by rw [h1];congr 1;omega,h2⟩
theorem qy {id:Nat} {key:Key} {k:Kn}:∀ {l:List AV} {i:Nat},(key,k)∈FJ id i l→∃j p,key= .c id (i+j)∧k= .p p∧nth l j=some (.k p)
 | [],_,h=>by cases h
 | .v _::r,i,h=>by
  obtain⟨j,p,h1,h2,h3⟩:=qy (l:=r) h
  exact⟨j+1,p,by rw [h1];congr 1;omega,h2,h3⟩
 | .k q::r,i,h=>by
  rcases List.mem_cons.1 h with e | h
  ·injection e with e1 e2;exact⟨0,q,e1,e2,rfl⟩
  ·obtain⟨j,p,h1,h2,h3⟩:=qy (l:=r) h
   exact⟨j+1,p,by rw [h1];congr 1;omega,h2,h3⟩
theorem kg {key:Key} {k:Kn}:∀ {l:List (PR U)} {i:Nat},(key,k)∈yi i l→∃j g az T o p,nth l j=some (.blk g az T)∧key= .c (i+j) o∧k= .p p∧nth az o=some (.k p)
 | [],_,h=>by cases h
 | .blk g az T::r,i,h=>by
  rcases List.mem_append.1 h with h | h
  ·obtain⟨o,p,h1,h2,h3⟩:=qy h
   exact⟨0,g,az,T,o,p,rfl,by rw [h1];simp,h2,h3⟩
  ·obtain⟨j,a,b,c,o,p,h1,h2,h3⟩:=kg (l:=r) h
   exact⟨j+1,a,b,c,o,p,h1,by rw [h2];congr 1;omega,h3⟩
 | .ob .. ::r,i,h=>by
  obtain⟨j,a,b,c,o,p,h1,h2,h3⟩:=kg (l:=r) h
  exact⟨j+1,a,b,c,o,p,h1,by rw [h2];congr 1;omega,h3⟩
 | .lst .. ::r,i,h=>by
  obtain⟨j,a,b,c,o,p,h1,h2,h3⟩:=kg (l:=r) h
  exact⟨j+1,a,b,c,o,p,h1,by rw [h2];congr 1;omega,h3⟩
theorem wk {T:Type} {c:CP} {J:c.T T} {F G:T→AV→Prop}(h:alC c J F)(hg:∀a b,F a b→G a b):alC c J G:=by
 cases c<;>simp only [alC]at h ⊢ <;>first | exact fun x=>hg _ _ (h x) | exact fun x y z=>hg _ _ (h x y z) | exact hg _ _ h
theorem nX {T:Type}:∀ {l:List CP} {J:zp l T} {F G:T→List AV→Prop},yS l J F→(∀a b,F a b→G a b)→yS l J G
 | [],_,_,_,h,hg=>hg _ _ h
 | c::l,J,F,G,h,hg=>wk (c:=c) h fun _ _ h=>nX h fun _ _ h=>hg _ _ h
theorem D3 {T:Type} {a:AP} {J:a.T U T} {F G:T→AA→Prop}(h:alA a J F)(hg:∀a b,F a b→G a b):alA a J G:=by
 cases a with
 | one c=>exact wk (c:=c) h fun _ _ h=>hg _ _ h
 | agg l=>exact nX (l:=l) h fun _ _ h=>hg _ _ h
 | enc tt=>exact fun x=>hg _ _ (h x)
theorem sI {T:Type}:∀ {l:List AP} {J:zz U l T} {F G:T→List AA→Prop},tZ l J F→(∀a b,F a b→G a b)→tZ l J G
 | [],_,_,_,h,hg=>hg _ _ h
 | c::l,J,F,G,h,hg=>D3 (a:=c) h fun _ _ h=>sI h fun _ _ h=>hg _ _ h
theorem D1 {T:Type} {p:RP} {J:p.T U T} {F G:T→PR U→Prop}(h:alR p J F)(hg:∀a b,F a b→G a b):alR p J G:=by
 cases p with
 | ob t=>exact fun r s=>hg _ _ (h r s)
 | blk l T=>exact fun g=>nX (h g) fun _ _ h=>hg _ _ h
 | lst t own T=>exact fun A c l=>hg _ _ (h A c l)
theorem sH {T:Type}:∀ {l:List RP} {J:BA U l T} {F G:T→List (PR U)→Prop},tY l J F→(∀a b,b.length=l.length→F a b→G a b)→tY l J G
 | [],_,_,_,h,hg=>hg _ _ rfl h
 | c::l,J,F,G,h,hg=>D1 (p:=c) h fun _ _ h=>sH h fun _ _ hl h=>hg _ _ (by simp [hl]) h
theorem vE {bk rets:List Nat} {Q:Ou U→Prop} {v:Value} {k:Option Kn} {K8:List (Res U)} {X':Nat→Nat→Prop} {w':World}(h:Hd U k0 bk rets Q v k st)(WI:K8.length=k0)(hs:Steps w k0 X bk ⟨K8,[],[]⟩ X st X' w')(hk:av st.rs fr st.kn)(hv:k=some .pan∨KnO st.rs v k)(Ko:∀i,i∈bk→i<k0):
 ∃out rs' X'',iH k v=iH out.kr out.res∧Q out∧bF K8 bk out.upd=some rs'∧xd K8 bk X w out w' rs' X'':=by
 unfold Hd at h
 split at h
 case h_2=>exact h.elim
 rename_i us ns hus Vw KM
 simp only [Bool.and_eq_true]at KM
 obtain⟨WQ,Lz⟩:=KM
 have WQ:∀i,i∈rets→k0≤i:=fun i hi=>Nat.le_of_ble_eq_true (cu.1 WQ i hi)
 have Lz:=lM Lz
 obtain⟨L,hL,cL,hl⟩:=hs.md
 have KW:∀i,i<k0→i ∉ bk→nth st.rs i=nth K8 i∧X' i=X i:=by
  intro i hi hm
  refine hl i (by simp only [];omega) fun MU=>?_
  rcases cL i MU with h | h
  ·exact hm h
  ·omega
 obtain⟨rs',JS,UO,MF,Ws⟩:=lB (L:=K8) hus fun i hi b hb=>by
  obtain⟨a,ha⟩:=bV (l:=K8) (i:=i) (by rw [WI];exact Ko i hi)
  obtain⟨b',LS,hr⟩:=hs.root i a ha
  rw [hb]at LS
  injection LS with LS
  subst LS
  exact⟨a,ha,hr⟩
 have OE:∀i,i<k0→nth rs' i=nth st.rs i:=by
  intro i hi
  by_cases hm:i∈bk
  ·exact MF i hm
  ·rw [Ws i hm,(KW i hi hm).1]
 have QM:ns.length=rets.length:=Dc Vw
 have MR:rs'.length=k0:=by rw [UO,WI]
 have QL:∀i j,lL k0 rets i=some j→nth (rs'++ns) j=nth st.rs i:=by
  intro i j Kh
  unfold lL at Kh
  split at Kh
  ·rename_i hb
   have hb:i<k0:=by simpa [Nat.blt_eq]using hb
   injection Kh with Kh
   subst Kh
   rw [bf,if_pos (by omega),OE i hb]
  ·simp only [Option.map_eq_some_iff]at Kh
   obtain⟨p,hp,rfl⟩:=Kh
   obtain⟨_,JD⟩:=r5 hp
   rw [Nat.sub_zero]at JD
   rw [bf,if_neg (by omega),show k0+p - rs'.length=p by omega,← vo Vw JD]
 have KC:∀ {p q:PK} {u:Value},p.ren (lL k0 rets)=some q→den U st.rs p=some u→den U (rs'++ns) q=some u:=by
  intro p q u hp hd
  have h1:=QL _ _ (PK.tq hp)
  unfold den at hd ⊢
  rw [h1,← hd]
  cases p<;>simp only [PK.ren,Option.map_eq_some_iff]at hp<;>obtain⟨i,hi,rfl⟩:=hp<;>simp only [PK.id]<;>cases nth st.rs _<;>first | rfl | (rename_i r;cases r<;>rfl)
 have QT:∀ {v:Value} {k k':Kn},k.ren (lL k0 rets)=some k'→im st.rs v k→im (rs'++ns) v k':=by
  intro v k k' hk hv
  cases k with
  | pan=>exact hv.elim
  | p p=>
   simp only [Kn.ren,Option.map_eq_some_iff]at hk
   obtain⟨q,hq,rfl⟩:=hk
   exact KC hq hv
  | t l=>
   simp only [Kn.ren,Option.some.injEq]at hk
   subst hk
   obtain⟨vs,e,hh⟩:=hv
   refine⟨vs,e,fun j q hj=>?_⟩
   obtain⟨p,hp,hq⟩:=du hj
   obtain⟨u,hu,hd⟩:=hh j p hp
   exact⟨u,hu,KC hq hd⟩
  | ag l=>
   simp only [Kn.ren,Option.some.injEq]at hk
   subst hk
   obtain⟨vs,e,hh⟩:=hv
   refine⟨vs,e,fun j q hj=>?_⟩
   obtain⟨p,hp,hq⟩:=du hj
   obtain⟨u,hu,hd⟩:=hh j p hp
   exact⟨u,hu,KC hq hd⟩
  | f a b=>
   simp only [Kn.ren,Option.some.injEq]at hk
   subst hk
   obtain⟨fn,fs,cs,e,hl,h1,h2⟩:=hv
   refine⟨fn,fs,cs,e,by simpa using hl,fun j q hj=>?_,fun j q hj=>?_⟩
   ·obtain⟨p,hp,hq⟩:=du hj
    obtain⟨u,hu,hd⟩:=h1 j p hp
    exact⟨u,hu,KC hq hd⟩
   ·obtain⟨p,hp,hq⟩:=du hj
    obtain⟨u,hu,hd⟩:=h2 j p hp
    exact⟨u,hu,KC hq hd⟩
 let X'':Nat→Nat→Prop:=fun i=>if i<k0 then X' i else match nth rets (i - k0)with
  | some r=>X' r
  | none=>fun _=>False
 have hX:∀i,i<k0→X'' i=X' i:=fun i hi=>if_pos hi
 have hXr:∀i r,¬i<k0→nth rets (i - k0)=some r→X'' i=X' r:=fun i r hi hr=>by
  show(if i<k0 then _ else _)=_
  rw [if_neg hi,hr]
 have Nr:∀i,i<(rs'++ns).length→∃r,X'' i=X' r∧nth (rs'++ns) i=nth st.rs r∧r<st.rs.length∧((i<k0∧r=i)∨(¬i<k0∧k0≤r∧nth rets (i - k0)=some r)):=by
  intro i hi
  by_cases h1:i<k0
  ·refine⟨i,hX i h1,by rw [bf,if_pos (by omega),OE i h1],?_,.inl ⟨h1,rfl⟩⟩
   have:=hs.len
   simp only at this
   omega
  ·simp at hi
   obtain⟨r,hr⟩:=bV (l:=rets) (i:=i - k0) (by omega)
   have hn:=vo Vw hr
   obtain⟨y,hy⟩:=bV (l:=ns) (i:=i - k0) (by omega)
   rw [hy]at hn
   exact⟨r,hXr i r h1 hr,by rw [bf,if_neg (by omega),show i - rs'.length=i - k0 by omega,hy,hn],aU hn,.inr ⟨h1,WQ r (gH hr),hr⟩⟩
 refine⟨_,rs',X'',(sm ..).symm,h,JS,⟨⟨fun i r hr=>?_,fun i j hi hj Kh k O0=>?_⟩,hs.inv.ch,fun i hi hm=>?_,fun i hm k O0=>?_,fun i h1 h2 k O0=>?_,?_,fun key q hq Vw=>?_⟩⟩
 ·obtain⟨m,e1,e2,_⟩:=Nr i (aU hr)
  rw [e1]
  exact hs.inv.sat.res m r (by rw [← e2];exact hr)
 ·obtain⟨a,a1,a2,a3,a4⟩:=Nr i hi
  obtain⟨b,b1,b2,b3,b4⟩:=Nr j hj
  rw [a1]at O0
  rw [b1]
  refine hs.inv.sat.dis a b a3 b3 (fun RE=>?_) k O0
  subst RE
  rcases a4 with⟨a5,a6⟩ | ⟨a5,a6,a7⟩<;>rcases b4 with⟨b5,b6⟩ | ⟨b5,b6,b7⟩
  ·exact Kh (a6.symm.trans b6)
  ·omega
  ·omega
  ·have inj:∀(l:List Nat)(x y r:Nat),l.Nodup→nth l x=some r→nth l y=some r→x=y:=by
    intro l
    induction l with
    | nil=>intro x y r _ h;simp [nth]at h
    | cons z l ih=>
     intro x y r hn h1 h2
     rw [List.nodup_cons]at hn
     cases x with
     | zero=>
      simp only [nth,Option.some.injEq]at h1
      subst h1
      cases y with
      | zero=>rfl
      | succ y=>exact absurd (gH (l:=l) h2) hn.1
     | succ x=>
      cases y with
      | zero=>
       simp only [nth,Option.some.injEq]at h2
       subst h2
       exact absurd (gH (l:=l) h1) hn.1
      | succ y=>rw [ih x y r hn.2 h1 h2]
   have:=inj rets _ _ _ Lz a7 b7
   omega
 ·rw [hX i (by omega)]
  exact(KW i (by omega) hm).2
 ·rw [hX i (Ko i hm)]at O0
  exact hs.inv.old i (Ko i hm) k O0
 ·obtain⟨m,e1,e2,e3,e4⟩:=Nr i (by simp only [List.length_append];simp only at h2;omega)
  rw [e1]at O0
  rcases e4 with⟨e5,e6⟩ | ⟨e5,e6,_⟩
  ·omega
  ·exact hs.inv.new m e6 e3 k O0
 ·rcases hv with rfl | hv
  ·exact .inl rfl
  right
  cases k with
  | none=>exact trivial
  | some k=>
   show KnO _ v (k.ren _)
   cases hkr:k.ren (lL k0 rets)with
   | none=>exact trivial
   | some k'=>exact QT hkr hv
 ·obtain⟨i0,i',o',k1,⟨rfl,e2⟩ | ⟨rfl,e2⟩,e3,e4⟩:=je hq
  ·obtain⟨P4,_⟩:=cW e2
   obtain⟨g,cs,T,u,q1,q2,q3⟩:=hk _ _ P4
   exact⟨g,cs,T,u,by show nth (rs'++ns) _=_;rw [QL _ _ e3];exact q1,q2,QT e4 q3⟩
  ·obtain⟨P4,_⟩:=cW e2
   obtain⟨t,r,s,q1,q2⟩:=hk _ _ P4
   exact⟨t,r,s,by show nth (rs'++ns) _=_;rw [QL _ _ e3];exact q1,QT e4 q2⟩
theorem oV {fn:Func} {rets:List Nat} {Q:Ou U→Prop} {K8:List (Res U)} {bk:List Nat} {Wb:List (Key×Kn)} {a':Act} {w':World} {st':St U} {X':Nat→Nat→Prop}(MR:K8.length=k0)(Ko:∀i,i∈bk→i<k0)(hr:Rep n fr a')(hs:Steps w k0 X bk ⟨K8,Wb,[]⟩ X st' X' w')(hk:av st'.rs fr st'.kn)
 (OG:tn U P k0 bk rets Q fn fr st'):∃v,(results fn a'.tmps).run P w'= .ok v w'∧aT K8 bk X w Q (.returned v) w':=by
 obtain⟨vs,ks,hF,hlen,Mh,KK⟩:=jz hr.get hs.inv.sat hk _ OG
 refine⟨_,u9 KK,?_⟩
 have Ux:Steps w k0 X bk ⟨K8,[],[]⟩ X st' X' w':=⟨hs.inv,hs.len,hs.md,hs.root⟩
 have go:∀ {v k},Dx U k0 bk rets Q v k st'→KnO st'.rs v k→∃out rs' X',Ending.returned v=iH out.kr out.res∧Q out∧bF K8 bk out.upd=some rs'∧xd K8 bk X w out w' rs' X':=by
  intro v k M8 OJ
  obtain⟨out,rs',X'',h1,h2,h3,h4⟩:=vE M8 MR Ux hk (.inr OJ) Ko
  exact⟨out,rs',X'',by rw [← h1];cases k with | none=>rfl | some k=>cases k<;>first | rfl | exact OJ.elim,h2,h3,h4⟩
 have tup:∀ {vs:List Value} {ks:List (Option Kn)},vs.length=ks.length→(∀j v k,nth vs j=some v→nth ks j=some k→KnO st'.rs v k)→KnO st'.rs (.tuple ⟨vs⟩) (some (.t (aF iw ks))):=by
  intro vs ks hlen Mh
  refine⟨⟨vs⟩,rfl,fun j p hj=>?_⟩
  rw [aY]at hj
  cases hn:nth ks j with
  | none=>rw [hn]at hj;cases hj
  | some k=>
   rw [hn]at hj
   injection hj with hj
   obtain⟨v,hv⟩:=bV (l:=vs) (i:=j) (by rw [hlen];exact aU hn)
   refine⟨v,by rw [aH]at hv;simpa using hv,?_⟩
   have:=Mh j v k hv hn
   unfold iw at hj
   split at hj
   ·injection hj with hj;subst hj;exact this
   ·cases hj
 cases vs with
 | nil=>
  cases ks with
  | nil=>exact go hF (tup rfl Mh)
  | cons _ _=>simp at hlen
 | cons v r=>
  cases ks with
  | nil=>simp at hlen
  | cons k s=>
   cases r with
   | nil=>
    cases s with
    | nil=>exact go hF (Mh 0 v k rfl rfl)
    | cons _ _=>simp at hlen
   | cons u r=>
    cases s with
    | nil=>simp at hlen
    | cons _ _=>exact go hF (tup hlen Mh)
theorem zD {f:Nat} {fn:Func} {c:Ctr U} {V:Code→(Ou U→Prop)→Fr→St U→Prop} {W:List Value→List (Option Kn)→List (Res U)→List (Key×Kn)→(Ou U→Prop)→Prop}(hf:P.funcs[f]? =some fn)
 (hV:∀(code:Code)(Q:Ou U→Prop)(K8:List (Res U))(X:Nat→Nat→Prop)(w:World)(kn:List (Key×Kn))(fr:Fr)(a:Act),K8.length=c.res.length→Inv w c.res.length X c.bk K8 X w→Rep fn.ntmps fr a→av K8 fr kn→fr.ds= []→V code Q fr ⟨K8,kn,[]⟩→code.wpIn (WF none) 0 P (bodyPostM (WF none) 0 P fn (aT K8 c.bk X w Q)) a w)
 (hW:∀args ks rs kc Q,W args ks rs kc Q→∃code,fn.body=some code∧Nat.ble args.length fn.ntmps=true∧ot rs (rv 0 ks++kc)=true∧V code Q ⟨num 0 args,fun _=>undef,[]⟩ ⟨rs,rv 0 ks++kc,[]⟩)
 (h:tZ c.args c.body fun B az=>tY c.res B fun B ps=>∀Q:Ou U→Prop,B Q→tJ (dE ps) (W (aF (qF (aF PR.iW ps)) az) (aF Bv az) (dE ps) (yi 0 ps++tF 0 ps) Q)):LV U P f c:=by
 refine sI h fun B az h=>sH h fun B ps hl h=>?_
 intro Q hQ X w hsat hlkp
 have h:=jf (fun r hr=>by
  obtain⟨j,hj,he⟩:=List.mem_iff_getElem.1 hr
  exact⟨_,_,hsat.res j r (by rw [aH,List.getElem?_eq_getElem hj,he])⟩) (h Q hQ)
 obtain⟨code,hb,hnt,hkd,h⟩:=hW _ _ _ _ _ h
 have MT:(aF (qF (aF PR.iW ps)) az).length≤fn.ntmps:=Nat.le_of_ble_eq_true hnt
 have MR:(dE ps).length=c.res.length:=by simp [hl]
 have hI:Inv w c.res.length X c.bk (dE ps) X w:=⟨hsat,Ch.refl _ _,fun i _ k hk=>.inl hk,fun i h1 h2=>by omega,by omega⟩
 generalize LP:aF (qF (aF PR.iW ps)) az=args at h MT ⊢
 have K2:av (dE ps) ⟨num 0 args,fun _=>undef,[]⟩ (rv 0 (aF Bv az)++(yi 0 ps++tF 0 ps)):=by
  intro key k JJ
  rcases nP hkd JJ with⟨p,v,rfl,hd⟩ | ⟨l,rfl,hd⟩
  rotate_left
  ·rcases List.mem_append.1 JJ with JJ | JJ
   ·obtain⟨j,rfl,hj⟩:=mC JJ
    rw [Nat.zero_add]
    rw [aY]at hj
    cases ha:nth az j with
    | none=>rw [ha]at hj;cases hj
    | some a=>
     rw [ha]at hj
     injection hj with hj
     obtain⟨as',rfl,rfl⟩:∃as',a= .agg as'∧l=aF avK as':=by
      unfold Bv at hj
      split at hj
      ·cases hj
      ·cases hj
      ·split at hj
       ·injection hj with hj;injection hj with hj;exact⟨_,rfl,hj.symm⟩
       ·cases hj
     have hv:nth args j=some (.agg ⟨aF (jj (aF PR.iW ps)) as'⟩):=by rw [← LP,aY,ha];rfl
     have JM:=aU hv
     refine⟨⟨aF (jj (aF PR.iW ps)) as'⟩,?_,fun j' k hk=>?_⟩
     ·show lk _ j (num 0 args)=_
      rw [qg,dif_pos ⟨Nat.zero_le _,by simpa using JM⟩]
      rw [aH,List.getElem?_eq_getElem JM]at hv
      simpa using hv
     ·obtain⟨u,hu⟩:=hd j' k hk
      refine⟨u,?_,hu⟩
      rw [aY]at hk
      cases hn:nth as' j' with
      | none=>rw [hn]at hk;cases hk
      | some b=>
       rw [hn]at hk
       injection hk with hk
       cases b with
       | v x=>cases hk
       | k p=>
        injection hk with hk
        subst hk
        have h9:nth (aF (jj (aF PR.iW ps)) as') j'=some u:=by
         rw [aY,hn]
         show some ((den U (aF PR.iW ps) p).getD undef)=_
         rw [← oY,hu];rfl
        rw [aH]at h9
        simpa using h9
   ·rcases List.mem_append.1 JJ with JJ | JJ
    ·obtain⟨_,_,_,_,_,_,_,_,h3,_⟩:=kg JJ
     cases h3
    ·have h9:=jd JJ
     obtain⟨_,_,_,_,_,_,_,_,_,_,h3,h4⟩:=h9
     cases h4
  rcases List.mem_append.1 JJ with JJ | JJ
  ·obtain⟨j,rfl,hj⟩:=mC JJ
   rw [Nat.zero_add]
   rw [aY]at hj
   cases ha:nth az j with
   | none=>rw [ha]at hj;cases hj
   | some a=>
    rw [ha]at hj
    injection hj with hj
    have Vb:a= .one (.k p):=by
     unfold Bv at hj
     split at hj
     ·injection hj with hj;injection hj with hj;rw [hj]
     ·cases hj
     ·split at hj<;>cases hj
    subst Vb
    show den U (dE ps) p=some (lk _ j (num 0 args))
    have hv:nth args j=some v:=by
     rw [← LP,aY,ha]
     show some ((den U (aF PR.iW ps) p).getD undef)=_
     rw [← oY,hd];rfl
    have JM:=aU hv
    rw [qg,dif_pos ⟨Nat.zero_le _,by simpa using JM⟩,hd]
    rw [aH,List.getElem?_eq_getElem JM]at hv
    rw [← hv]
    simp
  rcases List.mem_append.1 JJ with JJ | JJ
  rotate_left
  ·have h0:=hlkp _ _ JJ
   obtain⟨_,_,_,_,_,_,_,_,_,_,rfl,_⟩:=jd JJ
   exact h0
  ·obtain⟨j,g,as',T,o,q,h1,h2,h3,h4⟩:=kg JJ
   injection h3 with h3
   subst h3
   rw [h2,Nat.zero_add]
   refine⟨g,aF (jj (aF PR.iW ps)) as',T,v,?_,?_,hd⟩
   ·rw [jg,h1];rfl
   ·rw [aY,h4]
    show some ((den U (aF PR.iW ps) p).getD undef)=_
    rw [← oY,hd];rfl
 refine(callsIn_wide (n:=0)).1 (callsIn_of_wp_marks (F:=WF none) hf hb trivial ?_)
 have Lq:Rep fn.ntmps ⟨num 0 args,fun _=>undef,[]⟩ {tmps:=(⟨args⟩:Array Value)++Array.replicate (fn.ntmps - (⟨args⟩:Array Value).size) undef,defers:= []}:=by
  refine⟨by simp;omega,fun i=>?_,rfl⟩
  rw [qg]
  simp only [Nat.zero_le,Nat.sub_zero,true_and,Array.getD_eq_getD_getElem?]
  by_cases hi:i<args.length
  ·rw [dif_pos hi,Array.getElem?_append_left (by simpa using hi)]
   simp [hi]
  ·rw [dif_neg hi,Array.getElem?_append_right (by simpa using hi)]
   rw [Array.getElem?_replicate]
   split<;>rfl
 exact hV code Q (dE ps) X w _ _ _ MR hI Lq K2 rfl h
theorem EY {f:Nat} {fn:Func} {an:An} {rets:List Nat} {c:Ctr U}(hf:P.funcs[f]? =some fn)(hm:P.follows .mixedOrders=true)(Kx:∀f c,tbl.c f=some c→LV U P f c∧bP P f=true)(Ko:gK (fun i=>Nat.blt i c.res.length) c.bk=true)(h:Vc2 U P tbl N fn an rets c):LV U P f c:=by
 have LM:∀i,i∈c.bk→i<c.res.length:=fun i hi=>by simpa [Nat.blt_eq]using cu.1 Ko i hi
 refine zD (V:=fun code Q fr st=>ju U P tbl c.bk c.res.length fn.ntmps N code an (fun e fr st=>match fr.ds,e with
  | [],.normal=>tn U P c.res.length c.bk rets Q fn fr st
  | [],.ret=>tn U P c.res.length c.bk rets Q fn fr st
  | [],.panic [⟨v,false,false⟩]=>Dx U c.res.length c.bk rets Q v (some .pan) st
  | _,_=>False) fr st) hf ?_ (fun args ks rs kc Q h=>?_) h
 ·intro code Q K8 X w kn fr a MR hI Lq K2 Lc h
  refine wpIn_mono (cV Kx hm code an _ _ _ X _ w Lq hI K2 h) fun e a' w' he=>?_
  cases e
  case normal=>
   obtain⟨fr',hr,⟨st',X',g1,g2,g3,g4⟩,_⟩:=he
   have g3:fr'.ds= []:=g3.trans Lc
   rw [g3]at g4
   show LeavesInM (WF none) 0 P fn a'.tmps _ a'.defers .returning w'
   rw [hr.defers,g3]
   exact oV MR LM hr g1 g2 g4
  case ret=>
   obtain⟨fr',hr,⟨st',X',g1,g2,g3,g4⟩,_⟩:=he
   have g3:fr'.ds= []:=g3.trans Lc
   rw [g3]at g4
   show LeavesInM (WF none) 0 P fn a'.tmps _ a'.defers .returning w'
   rw [hr.defers,g3]
   exact oV MR LM hr g1 g2 g4
  case panic ch=>
   obtain⟨fr',hr,⟨st',X',g1,g2,g3,g4⟩,_⟩:=he
   have g3:fr'.ds= []:=g3.trans Lc
   rw [g3]at g4
   rcases ch with _ | ⟨⟨v,_ | _,_ | _⟩,_ | ⟨c2,r⟩⟩<;>first | exact g4.elim | skip
   obtain⟨out,rs',X'',h1,h2,h3,h4⟩:=vE g4 MR ⟨g1.inv,g1.len,g1.md,g1.root⟩ g2 (.inl rfl) LM
   show LeavesInM (WF none) 0 P fn a'.tmps _ a'.defers (.panicking [⟨v,false,false⟩]) w'
   rw [hr.defers,g3]
   exact⟨out,rs',X'',h1,h2,h3,h4⟩
  case outgrown=>exact he.elim
  all_goals
   obtain⟨fr',hr,⟨st',X',g1,g2,g3,g4⟩,_⟩:=he
   have g3:fr'.ds= []:=g3.trans Lc
   rw [g3]at g4
   exact g4.elim
 ·unfold HL at h
  split at h
  case h_2=>exact h.elim
  rename_i code hb KM
  simp only [Bool.and_eq_true]at KM
  exact⟨code,hb,KM.1,KM.2,h⟩
def AD {U:Uni}:List (Nat×Ctr U)→Nat→Option (Ctr U)
 | [],_=>none
 | (g,c)::r,f=>match Nat.beq g f with
  | true=>some c
  | false=>AD r f
abbrev bc {U:Uni}(l:List (Nat×Ctr U)):Tb U:=⟨AD l,.bool,[]⟩
def th(U:Uni)(P:Program):List (Nat×Ctr U)→Prop
 | []=>True
 | (f,c)::r=>LV U P f c∧th U P r
theorem nB {c:Ctr U} {f:Nat}:∀ {tb:List (Nat×Ctr U)},AD tb f=some c→th U P tb→gK (fun p=>bP P p.1) tb=true→LV U P f c∧bP P f=true
 | [],h,_,_=>by cases h
 | (g,d)::r,h,ha,hb=>by
  unfold AD at h
  have hc:=cu.1 hb
  split at h
  ·rename_i he
   injection h with h
   rw [← h,← Nat.eq_of_beq_eq_true he]
   exact⟨ha.1,hc _ (List.mem_cons_self ..)⟩
  ·exact nB h ha.2 (cu.2 fun x hx=>hc x (List.mem_cons_of_mem _ hx))
theorem verify {f:Nat} {fn:Func} {an:An} {rets:List Nat} {c:Ctr U} {tb:List (Nat×Ctr U)} {sh:Sh} {al:List (Nat×List PK×List PK)}(hf:P.funcs[f]? =some fn)(hm:P.follows .mixedOrders=true)(ht:th U P tb)(hb:(gK (fun p=>bP P p.1) tb && gK (fun i=>Nat.blt i c.res.length) c.bk)=true)(h:Vc2 U P ⟨AD tb,sh,al⟩ N fn an rets c):LV U P f c:=by
 rw [Bool.and_eq_true]at hb
 exact EY hf hm (fun f c U1=>nB U1 ht hb.1) hb.2 h
theorem aT.pu {rs:List (Res U)} {X:Nat→Nat→Prop} {w w':World} {Q:Ou U→Prop} {v:Value} {k:Option Kn}(hs:Sat rs X w)(q:Pu w w')(hQ:Q ⟨v,k,[],[],[]⟩)(hk:KnO rs v k):aT rs [] X w Q (.returned v) w':=by
 have Ux:Sat (rs++ []) X w':=by
  rw [List.append_nil]
  exact⟨fun i r hr=>(hs.res i r hr).ch q (fun _ _ h=>h),hs.dis⟩
 refine⟨_,rs,X,ft hk,hQ,rfl,⟨Ux,q.mono fun k hk=>hk.elim,fun _ _ _=>rfl,fun i hi=>(by cases hi),fun i h1 h2=>by simp at h2;omega,.inr (by simpa using hk),fun _ k hk=>by cases hk⟩⟩
theorem aT.one {t:Nat} {r:Nat→Nat} {s s':U.ty t} {X:Nat→Nat→Prop} {w w':World} {Q:Ou U→Prop} {v:Value} {k:Option Kn} {Z:Nat→Prop}(q:Ch (X 0) w w')(hp:U.pred t r s' Z w')(hz:∀k,Z k→X 0 k∨w.heap.size≤k)(hQ:Q ⟨v,k,[.ob t s'],[],[]⟩)(hk:KnO [.ob t r s'] v k):aT [.ob t r s] [0] X w Q (.returned v) w':=by
 have JS:bF [Res.ob t r s] [0] [.ob t s']=some [.ob t r s']:=by simp [bF,cZ,nth,cy]
 refine⟨_,_,fun i=>if i=0 then Z else X i,ft hk,hQ,JS,⟨⟨fun i r' hr=>?_,fun i j hi hj Kh=>?_⟩,q.mono fun k hk=>⟨0,by simp,hk⟩,fun i hi hm=>?_,fun i hi k hk=>?_,fun i h1 h2=>by simp at h1 h2;omega,.inr hk,fun _ k hk=>by cases hk⟩⟩
 ·cases i with
  | zero=>simp only [List.append_nil,nth,Option.some.injEq]at hr;subst hr;exact hp
  | succ i=>simp [nth]at hr
 ·simp at hi hj;omega
 ·simp at hi hm;omega
 ·simp at hi;subst hi;exact hz k hk
theorem aT.new {t:Nat} {r:Nat→Nat} {s':U.ty t} {X:Nat→Nat→Prop} {w w':World} {Q:Ou U→Prop} {v:Value} {k:Option Kn} {Z:Nat→Prop}(q:Pu w w')(hp:U.pred t r s' Z w')(hz:∀k,Z k→w.heap.size≤k)(hQ:Q ⟨v,k,[],[.ob t r s'],[]⟩)(hk:KnO [.ob t r s'] v k):aT [] [] X w Q (.returned v) w':=by
 refine⟨_,[],fun i=>if i=0 then Z else X i,ft hk,hQ,rfl,⟨⟨fun i r' hr=>?_,fun i j hi hj Kh=>?_⟩,q.mono fun k hk=>hk.elim,fun i hi hm=>?_,fun i hi=>(by cases hi),fun i h1 h2 k hk=>?_,.inr hk,fun _ k hk=>by cases hk⟩⟩
 ·cases i with
  | zero=>simp only [List.nil_append,nth,Option.some.injEq]at hr;subst hr;exact hp
  | succ i=>simp [nth]at hr
 ·simp at hi hj;omega
 ·simp at hi
 ·simp at h2;subst h2;exact hz k hk
theorem bK {b:Bool} {x y:Prop}(h:split b x y)(hb:b=true):x:=(eR h).elim (·.2) fun h=>by rw [hb]at h;cases h.1
theorem bL {b:Bool} {x y:Prop}(h:split b x y)(hb:b=false):y:=(eR h).elim (fun h=>by rw [hb]at h;cases h.1) (·.2)
theorem af {a b:Prop}(h:a)(k:a→b):a∧b:=⟨h,k h⟩
theorem KnO.tup {U:Uni} {rs:List (Res U)} {vs:Array Value}:∀(l:List (Option PK)),(∀o∈l,o=none)→KnO rs (.tuple vs) (some (.t l)):=fun l h=>⟨vs,rfl,fun j k hj=>by have:=h _ (gH hj);cases this⟩
theorem allEq {α:Sort _} {a:α} {F:α→Prop}(h:F a):∀x,x=a→F x:=fun _ e=>e▸h
theorem ab {α:Type} {a b:α} {l m:List α}(h:a=b)(k:l=m):a::l=b::m:=by rw [h,k]
theorem gA {α:Type} {F:(α→Prop)→Prop} {G:α→Prop}(e:α)(h1:F (fun x=>x=e))(h2:G e):∃J:α→Prop,F J∧∀(_:Nat→Value)(x:α),J x→G x:=⟨_,h1,fun _ _ h=>h▸h2⟩
theorem dup2 {α β:Type} {F:(α→β→Prop)→Prop} {G:α→β→Prop}(h:F G):∃J:α→β→Prop,F J∧∀(_:Nat→Value)(x:α)(y:β),J x y→G x y:=⟨_,h,fun _ _ _ h=>h⟩
theorem mG {U:Uni} {Q:Ou U→Prop} {a b:Bool} {k:Option Kn} {u:List (Upd U)} {n:List (Res U)} {kc:List (Key×Kn)}(h:Q ⟨.bool a,k,u,n,kc⟩)(h1:a=b):Q ⟨.bool b,k,u,n,kc⟩:=h1▸h
theorem qi {U:Uni} {Q:Ou U→Prop} {i:IntKind} {a b:Int} {k:Option Kn} {u:List (Upd U)} {n:List (Res U)} {kc:List (Key×Kn)}(h:Q ⟨.int i a,k,u,n,kc⟩)(h1:a=b):Q ⟨.int i b,k,u,n,kc⟩:=h1▸h
theorem au {U:Uni} {Q:Ou U→Prop} {a b:Value} {k:Option Kn} {u u':List (Upd U)} {n n':List (Res U)} {kc:List (Key×Kn)}(h:Q ⟨a,k,u,n,kc⟩)(h1:a=b)(h2:u=u')(h3:n=n'):Q ⟨b,k,u',n',kc⟩:=by rw [← h1,← h2,← h3];exact h
end
theorem cr {a b:Int}(h:a=b):Value.int .i64 a=Value.int .i64 b:=congrArg _ h
theorem bQ {a b:Int}(h:a=b):Value.int .u32 a=Value.int .u32 b:=congrArg _ h
theorem eQb {a b:Bool}(h:a=b):Value.bool a=Value.bool b:=congrArg _ h
end
end Go.Proofs.YtinhphjfnedhgaaGreatDoor.V
namespace Go.Proofs.YtinhphjfnedhgaaGreatDoor
open Go.Proofs.Tryz (prog)
open Go Go.RowKit V
open Go.IntKind (i64 u32 u64)
open Enc (enc)
structure LOp where
 k:Int
 a:Int
 b:Int
 c:Int
 d:Int
instance:Enc LOp:=⟨fun x=>[.int .i64 x.k,.int .u32 x.a,.int .u32 x.b,.int .u32 x.c,.int .u32 x.d],5,fun _=>rfl,by simp [Value.oneCell'],by omega⟩
structure W26 where
 l:List U32
def W26.c(x:W26):List Value:=aF (fun j=>.int .u32 (x.l.getD j (U32.mk 0)).v) (upN 0 26)
def W26.n(x:W26):List U32:=aF (fun j=>U32.mk (x.l.getD j (U32.mk 0)).v) (upN 0 26)
instance:Enc W26:=⟨W26.c,26,fun _=>rfl,fun x u h=>by
 obtain⟨a,rfl⟩:=qe h
 rfl,by omega⟩
def UEl:Nat→Type
 | 0=>I64
 | 1=>U32
 | 2=>U8
 | 3=>Bl
 | 4=>Ent
 | 5=>LOp
 | 6=>Fl
 | 8=>W26
 | _=>I64
@[reducible] def UEn:(t:Nat)→Enc (UEl t)
 | 0=>inferInstanceAs (Enc I64)
 | 1=>inferInstanceAs (Enc U32)
 | 2=>inferInstanceAs (Enc U8)
 | 3=>inferInstanceAs (Enc Bl)
 | 4=>inferInstanceAs (Enc Ent)
 | 5=>inferInstanceAs (Enc LOp)
 | 6=>inferInstanceAs (Enc Fl)
 | 7=>inferInstanceAs (Enc I64)
 | 8=>inferInstanceAs (Enc W26)
 | _+9=>inferInstanceAs (Enc I64)
def UDf:(t:Nat)→UEl t
 | 0=>I64.mk 0
 | 1=>U32.mk 0
 | 2=>U8.mk 0
 | 3=>Bl.mk false
 | 4=>Ent.free
 | 5=>⟨0,0,0,0,0⟩
 | 6=>Fl.zero
 | 7=>I64.mk 0
 | 8=>⟨[]⟩
 | _+9=>I64.mk 0
def D9:(t:Nat)→List Value→Option (UEl t)
 | 0,[.int .i64 x]=>some (I64.mk x)
 | 1,[.int .u32 x]=>some (U32.mk x)
 | 2,[.int .u8 x]=>some (U8.mk x)
 | 3,[.bool x]=>some (Bl.mk x)
 | 4,[.int .i64 a,.int .i64 b,.int .i64 c,.int .i64 d,.bool e]=>some (Ent.mk a b c d e)
 | 5,[.int .i64 a,.int .u32 b,.int .u32 c,.int .u32 d,.int .u32 e]=>some (LOp.mk a b c d e)
 | _,_=>none
theorem gk {t:Nat} {cs:List Value} {x:UEl t}(h:D9 t cs=some x):(UEn t).enc x=cs:=by
 unfold D9 at h
 split at h<;>first | (injection h with h;subst h;rfl) | cases h
def Hi(cs:List Value):Option W26:=match vO cs with
 | some l=>(match Nat.beq l.length 26 with
  | true=>some ⟨l⟩
  | false=>none)
 | none=>none
theorem FC {cs:List Value} {x:W26}(h:Hi cs=some x):x.c=cs:=by
 unfold Hi at h
 split at h
 ·rename_i l hl
  split at h
  ·rename_i hn
   injection h with h
   subst h
   have hn:=Nat.eq_of_beq_eq_true hn
   rw [mO hl]
   apply List.ext_getElem?
   intro j
   show(aF _ _)[j]? =_
   rw [← aH,aY,List.getElem?_map,List.getElem?_map]
   cases hj:nth (upN 0 26) j with
   | none=>rw [List.getElem?_eq_none];rfl;(by_cases h9:j<26;(have h8:=bV (l:=upN 0 26) (i:=j) (by rw [fN];exact h9);rw [hj]at h8;obtain⟨_,h8⟩:=h8;cases h8);omega)
   | some i=>
    have h1:=iA hj
    have h2:=aU hj
    rw [fN]at h2
    have h3:i=j:=by omega
    subst h3
    show some (Value.int .u32 (l.getD i (U32.mk 0)).v)=_
    rw [List.getD_eq_getElem?_getD,List.getElem?_eq_getElem (by omega)];rfl
  ·cases h
 ·cases h
def IC:(t:Nat)→List Value→Option (UEl t)
 | 6,cs=>vQ cs
 | 8,cs=>Hi cs
 | t,cs=>D9 t cs
theorem FR:∀ {t:Nat} {cs:List Value} {x:UEl t},IC t cs=some x→(UEn t).enc x=cs
 | 6,_,_,h=>(nQ h).1.symm
 | 0,_,_,h=>gk (t:=0) h
 | 1,_,_,h=>gk (t:=1) h
 | 2,_,_,h=>gk (t:=2) h
 | 3,_,_,h=>gk (t:=3) h
 | 4,_,_,h=>gk (t:=4) h
 | 5,_,_,h=>gk (t:=5) h
 | 7,_,_,h=>gk (t:=7) h
 | 8,_,_,h=>FC h
 | t+9,_,_,h=>gk (t:=t+9) h
def UE:Els:=⟨UEl,UEn,UDf,IC,FR⟩
def IX:Kind UE where
 ty:=Mem
 pred:=fun r s X w=>∃L:dR,r 0=L.g∧(∀k,L.X k↔X k)∧bY w L s
 ch:=fun⟨L,h1,h2,h3⟩ q hb=>⟨L,h1,h2,h3.ch q fun k hk=>hb k ((h2 k).1 hk)⟩
 lt:=fun⟨_,_,h2,h3⟩ k hk=>h3.lt k ((h2 k).2 hk)
 iv:=true
 inv:=Mem.Wf
 gx:=fun⟨_,_,_,h⟩=>⟨h.u32,h.dz⟩
def kPd:Kind UE where
 ty:=Pd
 pred:=fun r s X w=>∃a,(∀k,(k=r 0∨k=a)↔X k)∧PdP w (r 0) a (r 1) s
 ch:=fun⟨a,h1,h2⟩ q hb=>⟨a,h1,h2.ch q (hb _ ((h1 _).1 (.inl rfl))) (hb _ ((h1 _).1 (.inr rfl)))⟩
 lt:=fun⟨a,h1,h2⟩ k hk=>by rcases(h1 k).2 hk with rfl | rfl;exact h2.lt.1;exact h2.lt.2
 iv:=true
 inv:=Pd.Ok
 gx:=fun⟨_,_,h⟩=>h.ok
 fo:=fun _ s path off=>match path,off with
  | 0,0=>some (.o 1 0)
  | 0,1=>some (.v (.int .i64 s.aE))
  | _,_=>none
 qo:=by
  rintro r s X w path off f v ⟨a,hX,hD⟩ hf hv
  have h:=HW hD
  split at hf
  ·injection hf with hf;subst hf;simp only [fvV]at hv
   exact⟨(hX _).1 (.inl rfl),by rw [← hv];exact h.1⟩
  ·injection hf with hf;subst hf;simp only [fvV]at hv
   exact⟨(hX _).1 (.inl rfl),by rw [← hv];exact h.2⟩
  ·cases hf
 fs:=fun _ s path off v=>match path,off,v with
  | 0,1,.int .i64 x=>some (0≤x∧x≤64,s.fU x)
  | _,_,_=>none
 qm:=by
  rintro r s s' X w path off v c ⟨a,hX,hD⟩ hf hc K hK
  split at hf
  ·simp only [Option.some.injEq,Prod.mk.injEq]at hf
   obtain⟨rfl,rfl⟩:=hf
   exact hD.AI hc fun w' h' q=>hK w' ⟨a,hX,h'⟩ (q.mono fun k hk=>(hX k).1 (.inl hk))
  ·cases hf
def Ia:Kind UE where
 ty:=Mem
 pred:=fun r s X w=>∃L:jN,(∀k,L.X k↔X k)∧fD w (r 0) L s
 ch:=fun⟨L,h2,h3⟩ q hb=>⟨L,h2,h3.ch q fun k hk=>hb k ((h2 k).1 hk)⟩
 lt:=fun⟨_,h2,h3⟩ k hk=>h3.lt k ((h2 k).2 hk)
 iv:=true
 inv:=Mem.Wf
 gx:=fun⟨_,_,h⟩=>⟨h.u32,h.dz⟩
def IW:Kind UE where
 ty:=Pd
 pred:=fun r s X w=>(∀k,(k=r 0∨k=r 2)↔X k)∧mZ w (r 0) (r 1) (r 2) (r 3) s
 ch:=fun⟨h1,h2⟩ q hb=>⟨h1,h2.ch q (hb _ ((h1 _).1 (.inl rfl))) (hb _ ((h1 _).1 (.inr rfl)))⟩
 lt:=fun⟨h1,h2⟩ k hk=>by rcases(h1 k).2 hk with rfl | rfl;exact h2.lt.1;exact h2.lt.2
 li:=fun r s i=>match i with
  | 0=>some ⟨4,some ⟨r 2,0,none⟩,r 3,s.jh⟩
  | _=>none
 oo:=by
  rintro r s X w i L h hl
  split at hl
  ·injection hl with hl;subst hl;exact GS h.1 h.2
  ·cases hl
 st:=fun _ s j i tt=>match j,tt with
  | 0,4=>fun x=>some ((Ent.ok x=true∧Ent.owner x<((s.n:Nat):Int)),s.set i x)
  | _,_=>fun _=>none
 pC:=by
  rintro r s s' X w j i L x y off vs c h hl hx ho hy hs hc K hK
  split at hl
  ·injection hl with hl
   subst hl
   simp only [Option.some.injEq,Prod.mk.injEq]at hs
   obtain⟨rfl,rfl⟩:=hs
   exact h.2.GQ hx ho hy hc fun w' h' q=>hK w' ⟨h.1,h'⟩ (q.mono fun k hk=>(h.1 k).1 (.inr hk))
  ·cases hl
 iv:=true
 inv:=Pd.Ok
 gx:=fun⟨_,h⟩=>h.ok
 fo:=fun _ s path off=>match path,off with
  | 0,0=>some (.o 1 0)
  | 0,1=>some (.l 0)
  | 0,2=>some (.v (.int .i64 s.aE))
  | _,_=>none
 qo:=by
  rintro r s X w path off f v ⟨hX,hD⟩ hf hv
  have h:=GU hD
  split at hf
  ·injection hf with hf;subst hf;simp only [fvV]at hv
   exact⟨(hX _).1 (.inl rfl),by rw [← hv];exact h.1⟩
  ·injection hf with hf;subst hf;simp only [fvV]at hv
   exact⟨(hX _).1 (.inl rfl),by rw [← hv];exact h.2.1⟩
  ·injection hf with hf;subst hf;simp only [fvV]at hv
   exact⟨(hX _).1 (.inl rfl),by rw [← hv];exact h.2.2⟩
  ·cases hf
 fs:=fun _ s path off v=>match path,off,v with
  | 0,2,.int .i64 x=>some (0≤x∧x≤64,s.fU x)
  | _,_,_=>none
 qm:=by
  rintro r s s' X w path off v c ⟨hX,hD⟩ hf hc K hK
  split at hf
  ·simp only [Option.some.injEq,Prod.mk.injEq]at hf
   obtain⟨rfl,rfl⟩:=hf
   exact hD.AI hc fun w' h' q=>hK w' ⟨hX,h'⟩ (q.mono fun k hk=>(hX k).1 (.inl hk))
  ·cases hf
def IY:Kind UE where
 ty:=Dg
 pred:=fun r s X w=>∃L:DgL,(∀k,L.X (r 0) k↔X k)∧nj w (r 0) L s
 ch:=fun⟨L,h2,h3⟩ q hb=>⟨L,h2,h3.ch q fun k hk=>hb k ((h2 k).1 hk)⟩
 lt:=fun⟨_,h2,h3⟩ k hk=>h3.lt k ((h2 k).2 hk)
def H9(b:Nat):Kind UE where
 ty:=List Int
 pred:=fun _ s X w=>(∀k,k=b↔X k)∧ln w b s
 ch:=fun⟨h2,h3⟩ q hb=>⟨h2,h3.ch q fun k hk=>hb k ((h2 k).1 hk)⟩
 lt:=fun⟨h2,h3⟩ k hk=>h3.lt k ((h2 k).2 hk)
def kU:Kind UE where
 ty:=List U32
 pred:=fun r s X w=>(∀k,k=r 0↔X k)∧wz w (r 0) s
 ch:=fun⟨h2,T,h3⟩ q hb=>⟨h2,T,q.blk h3 (hb _ ((h2 _).1 rfl))⟩
 lt:=fun⟨h2,T,h3⟩ k hk=>by rw [(h2 k).2 hk];exact h3.lt
 li:=fun r s i=>match i with
  | 0=>some ⟨1,some ⟨r 0,0,none⟩,s.length,s⟩
  | _=>none
 oo:=by
  rintro r s X w i L h hl
  split at hl
  ·injection hl with hl;subst hl;exact zJ h.1 h.2
  ·cases hl
 st:=fun _ s j i tt=>match j,tt with
  | 0,1=>fun x=>some (True,s.set i x)
  | _,_=>fun _=>none
 pC:=by
  rintro r s s' X w j i L x y off vs c h hl hx ho hy hs hc K hK
  split at hl
  ·injection hl with hl
   subst hl
   simp only [Option.some.injEq,Prod.mk.injEq]at hs
   obtain⟨rfl,rfl⟩:=hs
   exact E8 h.1 h.2 hx ho hy hK
  ·cases hl
 ix:=fun path off=>match path,off with
  | 0,0=>some 0
  | _,_=>none
 ql:=by
  rintro r s path off i L h hl
  split at h
  ·injection h with h;subst h
   injection hl with hl;subst hl;rfl
  ·cases h
 wl:=fun _ s path off n=>match path,off with
  | 0,0=>some (s.length=n,aF (fun j=>.int .u32 (s.getD j (U32.mk 0)).v) (upN 0 n))
  | _,_=>none
 rU:=by
  rintro r s X w path off n c cs h hw hc
  split at hw
  ·simp only [Option.some.injEq,Prod.mk.injEq]at hw
   obtain⟨rfl,rfl⟩:=hw
   exact E7 h.1 h.2 hc
  ·cases hw
 ws:=fun _ s path off vs=>match path,off with
  | 0,0=>(match vO vs with
   | some l=>some (s.length=l.length,l)
   | none=>none)
  | _,_=>none
 ph:=by
  rintro r s s' X w path off vs c h hs hc K hK
  split at hs
  ·split at hs
   ·rename_i l hl
    simp only [Option.some.injEq,Prod.mk.injEq]at hs
    obtain⟨rfl,rfl⟩:=hs
    exact E6 h.1 h.2 hl hc hK
   ·cases hs
  ·cases hs
def kFl:Kind UE where
 ty:=Fl
 pred:=fun r s X w=>(∀k,k=r 0↔X k)∧FlP w (r 0) s
 ch:=fun⟨h2,h3,T,h4⟩ q hb=>⟨h2,h3,T,q.blk h4 (hb _ ((h2 _).1 rfl))⟩
 lt:=fun⟨h2,_,T,h3⟩ k hk=>by rw [(h2 k).2 hk];exact h3.lt
 li:=fun r s i=>match i with
  | 0=>some ⟨1,some ⟨r 0,0,none⟩,s.rs.length,s.rs⟩
  | _=>none
 oo:=by
  rintro r s X w i L h hl
  split at hl
  ·injection hl with hl;subst hl;exact h.2.li h.1
  ·cases hl
 fs:=fun _ s path off v=>match path,off,v with
  | 0,15,.int .u32 x=>some (True,{s with pc:=x})
  | 0,16,.bool x=>some (True,{s with z:=x})
  | 0,17,.bool x=>some (True,{s with n:=x})
  | 0,18,.bool x=>some (True,{s with l:=x})
  | _,_,_=>none
 qm:=by
  rintro r s s' X w path off v c h hf hc K hK
  split at hf
  all_goals first
   | cases hf;done
   | (simp only [Option.some.injEq,Prod.mk.injEq]at hf
      obtain⟨rfl,rfl⟩:=hf
      exact FlP.st h.2 (by omega) (by exact h.2.len) (by rfl) fun w' h' q=>hK w' ⟨h.1,h'⟩ (q.mono fun k hk=>(h.1 k).1 hk))
 st:=fun _ s j i tt=>match j,tt with
  | 0,1=>fun x=>some (True,s.yg i x)
  | _,_=>fun _=>none
 pC:=by
  rintro r s s' X w j i L x y off vs c h hl hx ho hy hs hc K hK
  split at hl
  ·injection hl with hl
   subst hl
   simp only [Option.some.injEq,Prod.mk.injEq]at hs
   obtain⟨rfl,rfl⟩:=hs
   exact h.2.stR h.1 hx ho hy hK
  ·cases hl
 iv:=true
 inv:=Fl.Ok
 gx:=fun h=>h.2.len
 fo:=fun _ s path off=>match path,off with
  | 0,15=>some (.v (.int .u32 s.pc))
  | 0,16=>some (.v (.bool s.z))
  | 0,17=>some (.v (.bool s.n))
  | 0,18=>some (.v (.bool s.l))
  | _,_=>none
 qo:=by
  rintro r s X w path off f v ⟨hX,hl,T,hb⟩ hf hv
  split at hf
  all_goals first
   | cases hf;done
   | (injection hf with hf
      subst hf
      simp only [fvV,Option.some.injEq]at hv
      exact⟨(hX _).1 rfl,by rw [← hv];exact hb.cell rfl⟩)
 ix:=fun path off=>match path,off with
  | 0,0=>some 0
  | _,_=>none
 ql:=by
  rintro r s path off i L h hl
  split at h
  ·injection h with h;subst h
   injection hl with hl;subst hl;rfl
  ·cases h
 wl:=fun _ s path off n=>match path,off,n with
  | 0,0,19=>some (True,s.cells)
  | _,_,_=>none
 rU:=by
  rintro r s X w path off n c cs ⟨hX,hl,T,hb⟩ hw hc
  split at hw
  ·simp only [Option.some.injEq,Prod.mk.injEq]at hw
   obtain⟨rfl,rfl⟩:=hw
   exact⟨(hX _).1 rfl,fun j u hj=>by rw [Nat.zero_add];exact hb.cell (by simpa using hj)⟩
  ·cases hw
 ws:=fun _ _ path off vs=>match path,off with
  | 0,0=>(match vQ vs with
   | some l=>some (True,l)
   | none=>none)
  | _,_=>none
 ph:=by
  rintro r s s' X w path off vs c h hs hc K hK
  split at hs
  ·split at hs
   ·rename_i l hl
    simp only [Option.some.injEq,Prod.mk.injEq]at hs
    obtain⟨rfl,rfl⟩:=hs
    obtain⟨e,h2⟩:=nQ hl
    subst e
    exact h.2.all h2 fun w' h' q=>hK w' ⟨h.1,h'⟩ (q.mono fun k hk=>(h.1 k).1 hk)
   ·cases hs
  ·cases hs
structure Wt where
 A:Option Addr
 c:Nat
 l:List U32
def kWt:Kind UE where
 ty:=Wt
 pred:=fun _ s X w=>Rd w X s.A s.l.length s.c s.l
 ch:=fun h q hb=>h.ch q hb
 lt:=fun h=>h.lt
 li:=fun _ s i=>match i with
  | 0=>some ⟨1,s.A,s.c,s.l⟩
  | _=>none
 oo:=by
  rintro r s X w i L h hl
  split at hl
  ·injection hl with hl;subst hl;exact h
  ·cases hl
structure Sv where
 D:DB
 pD:Nat
 pM:Nat
structure Sv.Ok(s:Sv):Prop where
 wf:s.D.mem.Wf
 pd:s.D.pd.Ok
def kSv:Kind UE where
 ty:=Sv
 pred:=fun _ s X w=>∃(a:Nat)(L:dR),L.g=s.pM∧DBP w ⟨s.pD,a,L⟩ s.D∧∀k,fg.X ⟨s.pD,a,L⟩ k↔X k
 ch:=fun⟨a,L,h1,h2,h3⟩ q hb=>⟨a,L,h1,h2.ch q fun k hk=>hb k ((h3 k).1 hk),h3⟩
 lt:=fun⟨_,_,_,h2,h3⟩ k hk=>h2.lt k ((h3 k).2 hk)
 iv:=true
 inv:=Sv.Ok
 gx:=fun⟨_,_,_,h,_⟩=>⟨⟨h.mem.u32,h.mem.dz⟩,h.pd.ok⟩
def UK:Nat→Kind UE
 | 0=>IX
 | 1=>kPd
 | 2=>Ia
 | 3=>IW
 | 4=>IY
 | 5=>H9 0
 | 6=>H9 1
 | 7=>kU
 | 8=>kWt
 | 9=>kSv
 | 10=>kFl
 | _=>Kind.none UE
abbrev cw(t:Nat)(r:Nat→Nat)(s:(UK t).ty)(X:Nat→Prop)(w:World):Prop:=(UK t).pred r s X w
theorem Hx {t:Nat} {r:Nat→Nat} {s:(UK t).ty} {X:Nat→Prop} {w:World}(h:cw t r s X w):(UK t).inv s:=(UK t).gx h
def UMk:TypeId→List Value→Option ((t:Nat)×(UK t).ty)
 | 69,cs=>(match vO cs with
  | some l=>some ⟨7,l⟩
  | none=>none)
 | 276,cs=>(match vQ cs with
  | some s=>some ⟨10,s⟩
  | none=>none)
 | _,_=>none
theorem Hw {T:TypeId} {cs:List Value} {q:(t:Nat)×(UK t).ty} {w:World} {g:Nat}(h:UMk T cs=some q)(hb:Blk w g ⟨cs⟩ T):(UK q.1).pred (fun _=>g) q.2 (fun k=>k=g) w:=by
 unfold UMk at h
 split at h
 ·split at h
  ·rename_i l hl
   injection h with h
   subst h
   have:=mO hl
   subst this
   exact(⟨fun k=>Iff.rfl,_,hb.cast (by simp [bu])⟩:(∀k,k=g↔k=g)∧wz w g l)
  ·cases h
 ·split at h
  ·rename_i s hs
   injection h with h
   subst h
   obtain⟨rfl,h2⟩:=nQ hs
   exact(⟨fun k=>Iff.rfl,h2,_,hb⟩:(∀k,k=g↔k=g)∧FlP w g s)
  ·cases h
 ·cases h
def Un:Uni:=Uni.of UE UK (fun t=>match t with
 | 3=>some 0
 | 29=>some 1
 | 4=>some 3
 | 50=>some 4
 | 96=>some 4
 | 31=>some 5
 | _=>none) UMk Hw
theorem uO0 {a b:Mem}(h:a=b):Upd.ob (U:=Un) 0 a= .ob 0 b:=congrArg (Upd.ob (U:=Un) 0) h
theorem rO0 {r:Nat→Nat} {a b:Mem}(h:a=b):Res.ob (U:=Un) 0 r a= .ob 0 r b:=congrArg (Res.ob (U:=Un) 0 r) h
theorem uO1 {a b:Pd}(h:a=b):Upd.ob (U:=Un) 1 a= .ob 1 b:=congrArg (Upd.ob (U:=Un) 1) h
theorem rO1 {r:Nat→Nat} {a b:Pd}(h:a=b):Res.ob (U:=Un) 1 r a= .ob 1 r b:=congrArg (Res.ob (U:=Un) 1 r) h
end Go.Proofs.YtinhphjfnedhgaaGreatDoor
namespace Go.Proofs.YtinhphjfnedhgaaGreatDoor
open Go.Proofs.Tryz (prog)
open Go Go.RowKit V
open Go.IntKind (i64 u32 u64)
section
namespace V
section
variable {U:Uni}
theorem aT.more {rs:List (Res U)} {X:Nat→Nat→Prop} {w w':World} {Q:Ou U→Prop} {v:Value} {k:Option Kn} {Z:Nat→Prop} {r:Res U}(hs:Sat rs X w)(q:Pu w w')(hr:RS Z w' r)(hz:∀k,Z k→w.heap.size≤k)(hQ:Q ⟨v,k,[],[r],[]⟩)(hk:KnO (rs++ [r]) v k):aT rs [] X w Q (.returned v) w':=by
 refine⟨_,rs,fun i=>if i=rs.length then Z else X i,ft hk,hQ,rfl,⟨⟨fun i r' Jv=>?_,fun i j hi hj Kh k KT Kf=>?_⟩,q.mono fun k hk=>hk.elim,fun i hi _=>if_neg (by omega),fun i hi=>(by cases hi),fun i h1 h2 k hk=>?_,.inr hk,fun _ k hk=>by cases hk⟩⟩
 ·by_cases hi:i<rs.length
  ·rw [bf,if_pos hi]at Jv
   simp only [if_neg (show ¬i=rs.length by omega)]
   exact(hs.res i r' Jv).ch q fun _ _ h=>h
  ·have h1:=aU Jv
   simp at h1
   obtain rfl:i=rs.length:=by omega
   rw [bf,if_neg (by omega),Nat.sub_self]at Jv
   obtain rfl:r=r':=by simpa [nth]using Jv
   simpa using hr
 ·simp at hi hj
  by_cases h1:i=rs.length
  ·have h2:¬j=rs.length:=by omega
   simp only [h1,if_true,if_neg h2]at KT Kf
   have:=hs.lt (i:=j) (by omega) k Kf
   have:=hz k KT
   omega
  ·simp only [if_neg h1]at KT
   by_cases h2:j=rs.length
   ·simp only [h2,if_true]at Kf
    have:=hs.lt (i:=i) (by omega) k KT
    have:=hz k Kf
    omega
   ·simp only [if_neg h2]at Kf
    exact hs.dis i j (by omega) (by omega) Kh k KT Kf
 ·simp at h2
  obtain rfl:i=rs.length:=by omega
  simp only [if_true]at hk
  exact hz k hk
theorem G2 {t:Nat} {T:TypeId} {A:Option Addr} {n c:Nat} {l:List (U.el t)} {Z:Nat→Prop} {w:World}(h:Own w Z T A n c l):RS (U:=U) (fun k=>Z k∧k<w.heap.size) w (.lst t true T A c l):=by
 have hl:=h.len
 subst hl
 exact⟨h.within,fun k hk=>hk.2⟩
end
end V
section
variable {r rm:Nat→Nat} {E:Pd} {m:Mem} {X:Nat→Nat→Prop} {w w':World}
theorem lx(hs:Sat (U:=Un) [.ob 0 rm m] X w):∃L:dR,rm 0=L.g∧bY w L m∧∀k,L.X k↔X 0 k:=by
 obtain⟨L,h1,h2,h3⟩:=(hs.res 0 _ rfl:cw 0 rm m (X 0) w)
 exact⟨L,h1,h3,h2⟩
theorem vl(hs:Sat (U:=Un) [.ob 1 r E,.ob 0 rm m] X w)(hl:av (U:=Un) [.ob 1 r E,.ob 0 rm m] fr0 [(.l 0 1,.p (.obj 1 0 0))])(hn:E.n=m.S):
 ∃(a:Nat)(L:dR),rm 0=L.g∧r 1=L.g∧DBP w ⟨r 0,a,L⟩ (E.on m)∧(∀k,(k=r 0∨k=a)↔X 0 k)∧(∀k,L.X k↔X 1 k):=by
 obtain⟨a,h1,h2⟩:=(hs.res 0 _ rfl:cw 1 r E (X 0) w)
 obtain⟨L,h3,h4,h5⟩:=(hs.res 1 _ rfl:cw 0 rm m (X 1) w)
 obtain⟨t',r',s',Pp,hk⟩:=hl _ _ (List.mem_singleton.2 rfl)
 simp only [nth,Option.some.injEq,Res.ob.injEq]at Pp
 obtain⟨rfl,rfl,_⟩:=Pp
 have hk:some (Value.pointer (some ⟨rm 0,0,none⟩))=some (Value.pointer (some ⟨r 1,0,none⟩)):=hk
 simp only [Option.some.injEq,Value.pointer.injEq,Addr.mk.injEq]at hk
 have hg:r 1=L.g:=by rw [← h3];exact hk.1.symm
 rw [hg]at h2
 have hx:∀k,(k=r 0∨k=a)→¬L.X k:=fun k hk hL=>hs.dis 0 1 (by simp) (by simp) (by omega) k ((h1 k).1 hk) ((h4 k).1 hL)
 exact⟨a,L,h3,hg,h2.db h5 hn ⟨hx _ (.inl rfl),hx _ (.inr rfl)⟩,h1,h4⟩
theorem zN {a:Nat} {L:dR} {D:DB} {Q:Ou Un→Prop} {v:Value} {k:Option Kn}(hs:Sat (U:=Un) [.ob 1 r E,.ob 0 rm m] X w)(LX:∀k,(k=r 0∨k=a)↔X 0 k)(Mi:∀k,L.X k↔X 1 k)(hg:rm 0=L.g)(hr:r 1=L.g)(h:DBP w' ⟨r 0,a,L⟩ D)(q:Ch (fg.X ⟨r 0,a,L⟩) w w')
 (hQ:Q ⟨v,k,[.ob 1 D.pd,.ob 0 D.mem],[],[]⟩)(hk:KnO (U:=Un) [.ob 1 r D.pd,.ob 0 rm D.mem] v k):aT (U:=Un) [.ob 1 r E,.ob 0 rm m] [0,1] X w Q (.returned v) w':=by
 refine⟨_,[.ob 1 r D.pd,.ob 0 rm D.mem],X,ft hk,hQ,by simp [bF,cZ,nth,cy],⟨⟨fun i r' Jv=>?_,hs.dis⟩,q.mono fun k hk=>?_,fun i hi hm=>rfl,fun i hi k hk=>.inl hk,fun i h1 h2=>by simp at h1 h2;omega,.inr (by simpa using hk),fun _ k hk=>by cases hk⟩⟩
 ·match i with
  | 0=>
   simp only [List.append_nil,nth,Option.some.injEq]at Jv
   subst Jv
   exact(⟨a,LX,by rw [hr];exact h.pd⟩:cw 1 r D.pd (X 0) w')
  | 1=>
   simp only [List.append_nil,nth,Option.some.injEq]at Jv
   subst Jv
   exact(⟨L,hg,Mi,h.mem⟩:cw 0 rm D.mem (X 1) w')
  | i+2=>simp [nth]at Jv
 ·rcases hk with hk | hk | hk
  ·exact⟨0,by simp,(LX k).1 (.inl hk)⟩
  ·exact⟨0,by simp,(LX k).1 (.inr hk)⟩
  ·exact⟨1,by simp,(Mi k).1 hk⟩
end
end
end Go.Proofs.YtinhphjfnedhgaaGreatDoor
namespace Go.Proofs.YtinhphjfnedhgaaGreatDoor
open Go.Proofs.Tryz (prog)
open Go Go.RowKit V
open Go.IntKind (i64 u32 u64)
section
set_option maxRecDepth 100000
end
section
set_option maxRecDepth 100000
def qG(ma:Bool)(mb:Int)(mc:Bool)(md:Bool)(R:aD)(w:World):Prop:=
 ∀(gv:Nat)(wv:World),gv=w.heap.size→wv=w.alloc (.cells #[(.bool ma),(.int .i64 mb),(.bool mc),(.bool md)] 128)→
 ∃J:Bool→World→Prop,(
  ∃x9:Int,wv.cell? (((Addr.mk gv 0 none).add 0).add 1)=some (.int .i64 x9)∧
  split (decide ((x9:Int)<0)) (
   J true wv) (
   ∃Li:Int,wv.cell? (((Addr.mk gv 0 none).add 0).add 1)=some (.int .i64 Li)∧
   J (decide ((Li:Int)>63)) wv))∧∀(Ka:Nat→Value)(J6:Bool),∀Jb,J J6 Jb→
 split J6 (
  R (.tuple #[(.int .u32 0),(.int .i64 4)]) Jb) (
  ∃J1:Bool→World→Prop,(
   ∃NO:Bool,Jb.cell? ((Addr.mk gv 0 none).add 3)=some (.bool NO)∧
   split NO (
    ∃Kw:Bool,Jb.cell? (((Addr.mk gv 0 none).add 0).add 0)=some (.bool Kw)∧
    J1 (!Kw) Jb) (
    J1 false Jb))∧∀(J8:Nat→Value)(MP:Bool),∀Jc,J1 MP Jc→
  split MP (
   R (.tuple #[(.int .u32 0),(.int .i64 1)]) Jc) (
   ∃MO:Int,Jc.cell? (((Addr.mk gv 0 none).add 0).add 1)=some (.int .i64 MO)∧
   ∀Ji:Int,Ji=(u32.wrap (BitVec.ofInt u32.bits (u32.wrap ((u32.wrap MO:Int)*2 ^ 8)) ||| BitVec.ofInt u32.bits 1).toNat)→
   ∃x33:Bool,Jc.cell? (((Addr.mk gv 0 none).add 0).add 0)=some (.bool x33)∧
   ∃Ta:Bool,Jc.cell? ((Addr.mk gv 0 none).add 2)=some (.bool Ta)∧
   ∃PH:Bool,Jc.cell? ((Addr.mk gv 0 none).add 3)=some (.bool PH)∧
   ∀(Ju:Nat)(Jq:World),Ju=Jc.heap.size→Jq=Jc.alloc (.cells #[(.bool x33),(.int .u32 2),(.bool Ta),(.int .u32 4),(.bool PH),(.int .u32 8)] 255)→
   ∃I:Nat→Int→Int→World→Prop,(∃m,I m Ji 0 Jq)∧∀(m:Nat)(J9:Nat→Value)(JP:Int)(Lx:Int),∀J0,I m JP Lx J0→
   split (decide ((Lx:Int)<((3:Nat):Int))) (
    (0≤(Lx:Int)∧(Lx:Int)<((3:Nat):Int))∧
    ∃SE:Bool,∃SD:Int,(J0.cell? (((Addr.mk Ju 0 none).add (Int.toNat Lx*2)).add 0)=some (.bool SE)∧J0.cell? (((Addr.mk Ju 0 none).add (Int.toNat Lx*2)).add 1)=some (.int .u32 SD))∧
    ∀(NX:Nat)(JU:World),NX=J0.heap.size→JU=J0.alloc (.cells (#[(.bool false),(.int .u32 0)]) 255)→
    aG JU (Addr.mk NX 0 none) [(.bool SE),(.int .u32 SD)] fun JN=>
    ∃SC:Bool,JN.cell? ((Addr.mk NX 0 none).add 0)=some (.bool SC)∧
    split SC (
     ∃PG:Int,JN.cell? ((Addr.mk NX 0 none).add 1)=some (.int .u32 PG)∧
     ∀K7:Int,K7=(u32.wrap (BitVec.ofInt u32.bits JP ||| BitVec.ofInt u32.bits PG).toNat)→
     ∃m1,m1<m∧I m1 K7 (i64.wrap (Lx+1)) JN) (
     ∃m1,m1<m∧I m1 JP (i64.wrap (Lx+1)) JN)) (
    R (.tuple #[(.int .u32 JP),(.int .i64 0)]) J0)))
def yV:Ann:=(.node none .leaf (.node none (.node none (.node (some ⟨[(16,.one (.bool))],[7,8,9,10,11,12,13,14,15,16]⟩) .leaf .leaf) .leaf) (.node none (.node none (.node (some ⟨[(24,.one (.bool))],[17,18,19,20,21,22,23,24]⟩) .leaf .leaf) .leaf) (.node none .leaf (.node none (.node none .leaf (.node none (.node (some ⟨[(4,.one (.int .u32)),(43,.one (.int .i64))],[4,6,43,44,45,46,47,48,49,50,51,52,53]⟩) .leaf .leaf) .leaf)) .leaf)))))
theorem WSecond_eq(ma:Bool)(mb:Int)(mc:Bool)(md:Bool)(R:aD)(w:World):qG ma mb mc md R w=vcF prog aP [4] Tryz.f133 yV [(.agg #[(.bool ma),(.int .i64 mb),(.bool mc),(.bool md)])] R none w:=by kernel_rfl
theorem rA(ma:Bool)(mb:Int)(mc:Bool)(md:Bool) {R:aD} {w:World}(h:qG ma mb mc md R w):Calls prog 133 #[(.agg #[(.bool ma),(.int .i64 mb),(.bool mc),(.bool md)])] w fun e w'=>∃v,e= .returned v∧R v w':=
 aj Tryz.func133 aw aa ((WSecond_eq ma mb mc md R w).mp h)
end
section
set_option maxRecDepth 100000
def gF(x:Int)(k:Int)(R:aD)(w:World):Prop:=
 ∀s:Int,s=(u64.wrap (BitVec.ofInt u64.bits (u64.wrap k) &&& BitVec.ofInt u64.bits 31).toNat)→
 jx s fun JO=>
 jx (u64.wrap (32 - s)) fun Ua=>
 R (.int .u32 (u32.wrap (BitVec.ofInt u32.bits (u32.wrap ((x:Int)*2 ^ (min JO u32.bits))) ||| BitVec.ofInt u32.bits ((x:Int).fdiv (2 ^ (min Ua u32.bits)))).toNat)) w
def lq:Ann:= .leaf
theorem BitsRotateLeft32_eq(x:Int)(k:Int)(R:aD)(w:World):gF x k R w=vcF prog aP [5] Tryz.f200 lq [(.int .u32 x),(.int .i64 k)] R none w:=by kernel_rfl
theorem jX(x:Int)(k:Int) {R:aD} {w:World}(h:gF x k R w):Calls prog 200 #[(.int .u32 x),(.int .i64 k)] w fun e w'=>∃v,e= .returned v∧R v w':=
 aj Tryz.func200 aw aa ((BitsRotateLeft32_eq x k R w).mp h)
def sL(wv:Int)(n:Int)(R:aD)(w:World):Prop:=
 Calls prog 200 #[(.int .u32 wv),(.int .i64 (i64.wrap (0 - n)))] w fun e Jb=>
 ∃x8:Int,e= .returned (.int .u32 x8)∧
 R (.int .u32 x8) Jb
def Bx:Ann:= .leaf
theorem SRight_eq(wv:Int)(n:Int)(R:aD)(w:World):sL wv n R w=vcF prog aP [] Tryz.f193 Bx [(.int .u32 wv),(.int .i64 n)] R none w:=by kernel_rfl
theorem uc(wv:Int)(n:Int) {R:aD} {w:World}(h:sL wv n R w):Calls prog 193 #[(.int .u32 wv),(.int .i64 n)] w fun e w'=>∃v,e= .returned v∧R v w':=
 aj Tryz.func193 aw aa ((SRight_eq wv n R w).mp h)
def mY(blocka:Int)(blockb:Int)(blockc:Int)(blockd:Int)(blocke:Int)(blockf:Int)(blockg:Int)(blockh:Int)(blocki:Int)(blockj:Int)(blockk:Int)(blockl:Int)(blockm:Int)(blockn:Int)(blocko:Int)(blockp:Int)(R:aD)(w:World):Prop:=
 ∀(gv:Nat)(wv:World),gv=w.heap.size→wv=w.alloc (.cells #[(.int .u32 blocka),(.int .u32 blockb),(.int .u32 blockc),(.int .u32 blockd),(.int .u32 blocke),(.int .u32 blockf),(.int .u32 blockg),(.int .u32 blockh),(.int .u32 blocki),(.int .u32 blockj),(.int .u32 blockk),(.int .u32 blockl),(.int .u32 blockm),(.int .u32 blockn),(.int .u32 blocko),(.int .u32 blockp)] 262)→
 ∀(Jj:Nat)(Jb:World),Jj=wv.heap.size→Jb=wv.alloc (.cells (Array.replicate 64 (.int .u32 0)) 287)→
 ∀(Kz:Nat)(Jc:World),Kz=Jb.heap.size→Jc=Jb.alloc (.cells (Array.replicate 64 (.int .u32 0)) 287)→
 ∃b:Nat→Nat→Prop,
 ∀Qr:Option Addr,Qr=(some (if 64=0 then Addr.mk Kz 0 none else(Addr.mk Kz 0 none).add (0*1)))→∀O4:Nat,O4=64 - 0→∀Qq:Nat,Qq=64 - 0→
 ∀PE:Option Addr,PE=(some (if 16=0 then Addr.mk gv 0 none else(Addr.mk gv 0 none).add (0*1)))→∀PC:Nat,PC=16 - 0→∀PD:Nat,PD=16 - 0→
 ∃x9:Int,∃Ji,(Builtin.copy_ #[62,62] 3 #[(.slice Qr O4 Qq),(.slice PE PC PD)]:Sem Value).run prog Jc.drew= .ok (.int .i64 x9) Ji∧
 ∃b1:Nat→Nat→Prop,(∀i k,b i k→b1 i k)∧
 ∀t:Int,t=16→
 ∃I:Nat→Int→World→Prop,(∃m,I m t Ji)∧∀(m:Nat)(Nj:Nat→Value)(t1:Int),∀Jq,I m t1 Jq→
 split (decide ((t1:Int)<64)) (
  (0≤(i64.wrap (t1 - 15):Int)∧(i64.wrap (t1 - 15):Int)<((64:Nat):Int))∧
  ∃Ld:Int,Jq.drew.cell? ((Addr.mk Kz 0 none).add (Int.toNat (i64.wrap (t1 - 15))*1))=some (.int .u32 Ld)∧
  (0≤(i64.wrap (t1 - 2):Int)∧(i64.wrap (t1 - 2):Int)<((64:Nat):Int))∧
  ∃KL:Int,Jq.drew.cell? ((Addr.mk Kz 0 none).add (Int.toNat (i64.wrap (t1 - 2))*1))=some (.int .u32 KL)∧
  ∃b2:Nat→Nat→Prop,
  (0≤(i64.wrap (t1 - 16):Int)∧(i64.wrap (t1 - 16):Int)<((64:Nat):Int))∧
  b2 4 (((Addr.mk Kz 0 none).add (Int.toNat (i64.wrap (t1 - 16))*1)).block)∧
  ∃Ms:Int,Jq.drew.drew.cell? ((Addr.mk Kz 0 none).add (Int.toNat (i64.wrap (t1 - 16))*1))=some (.int .u32 Ms)∧
  (0≤(i64.wrap (t1 - 7):Int)∧(i64.wrap (t1 - 7):Int)<((64:Nat):Int))∧
  b2 17 (((Addr.mk Kz 0 none).add (Int.toNat (i64.wrap (t1 - 7))*1)).block)∧
  ∃PH:Int,Jq.drew.drew.cell? ((Addr.mk Kz 0 none).add (Int.toNat (i64.wrap (t1 - 7))*1))=some (.int .u32 PH)∧
  Calls prog 193 #[(.int .u32 Ld),(.int .i64 7)] Jq.drew.drew fun e JP=>
  ∃Mr:Int,e= .returned (.int .u32 Mr)∧
  Kept (bM b2 [0,1,2,3,4,7,10,11,14,15,16,17,19,21,24,25]) Jq.drew.drew JP∧∃b3:Nat→Nat→Prop,(∀i k,b2 i k→b3 i k)∧
  Calls prog 193 #[(.int .u32 Ld),(.int .i64 18)] JP fun e J0=>
  ∃KN:Int,e= .returned (.int .u32 KN)∧
  Kept (bM b3 [0,1,2,3,4,10,11,14,15,16,17,19,21,24,25]) JP J0∧∃b4:Nat→Nat→Prop,(∀i k,b3 i k→b4 i k)∧
  Calls prog 193 #[(.int .u32 KL),(.int .i64 17)] J0 fun e JU=>
  ∃Nk:Int,e= .returned (.int .u32 Nk)∧
  Kept (bM b4 [0,1,2,3,4,9,10,11,12,13,14,15,16,17,18,21,24,25]) J0 JU∧∃b5:Nat→Nat→Prop,(∀i k,b4 i k→b5 i k)∧
  Calls prog 193 #[(.int .u32 KL),(.int .i64 19)] JU fun e JN=>
  ∃Vo:Int,e= .returned (.int .u32 Vo)∧
  Kept (bM b5 [0,1,2,3,4,5,9,10,11,12,13,14,15,16,17,18,24,25]) JU JN∧∃b6:Nat→Nat→Prop,(∀i k,b5 i k→b6 i k)∧
  (0≤(t1:Int)∧(t1:Int)<((64:Nat):Int))∧
  aG JN ((Addr.mk Kz 0 none).add (Int.toNat t1*1)) [(.int .u32 (u32.wrap ((u32.wrap ((u32.wrap (Ms+(u32.wrap (BitVec.ofInt u32.bits (u32.wrap (BitVec.ofInt u32.bits Mr ^^^ BitVec.ofInt u32.bits KN).toNat) ^^^ BitVec.ofInt u32.bits ((Ld:Int).fdiv (2 ^ 3))).toNat)))+PH))+(u32.wrap (BitVec.ofInt u32.bits (u32.wrap (BitVec.ofInt u32.bits Nk ^^^ BitVec.ofInt u32.bits Vo).toNat) ^^^ BitVec.ofInt u32.bits ((KL:Int).fdiv (2 ^ 10))).toNat))))] fun K7=>
  ∃b7:Nat→Nat→Prop,(∀i k,b6 i k→b7 i k)∧
  ∀t2:Int,t2=(i64.wrap (t1+1))→
  ∃m1,m1<m∧I m1 t2 K7) (
  ∃PG:Array Value,(PG.size=64∧∀i u,PG[i]? =some u→Jq.cell? ((Addr.mk Kz 0 none).add i)=some u)∧
  PG.size=64∧(∀v∈PG.toList,one? v True)∧
  aG Jq (Addr.mk Jj 0 none) PG.toList fun JP=>
  ∃r0:Array Value,(r0.size=64∧∀i u,r0[i]? =some u→JP.cell? ((Addr.mk Jj 0 none).add i)=some u)∧
  R (.agg r0) JP)
def ua:Ann:=(.node none .leaf (.node none .leaf (.node none .leaf (.node none (.node none .leaf (.node none (.node (some ⟨[(4,.one (.int .i64))],[4,5,6,10,11,12,13,14,15,16,17,18,19,20,21,22,23,24,25,26,27,28,29,30,31,32,33,34,35,36,37,38,39,40,41,42,43,44,45,46,47,48,49,50]⟩) .leaf .leaf) .leaf)) .leaf))))
theorem SSchedule_eq(blocka:Int)(blockb:Int)(blockc:Int)(blockd:Int)(blocke:Int)(blockf:Int)(blockg:Int)(blockh:Int)(blocki:Int)(blockj:Int)(blockk:Int)(blockl:Int)(blockm:Int)(blockn:Int)(blocko:Int)(blockp:Int)(R:aD)(w:World):mY blocka blockb blockc blockd blocke blockf blockg blockh blocki blockj blockk blockl blockm blockn blocko blockp R w=vcF prog aP [4] Tryz.f192 ua [(.agg #[(.int .u32 blocka),(.int .u32 blockb),(.int .u32 blockc),(.int .u32 blockd),(.int .u32 blocke),(.int .u32 blockf),(.int .u32 blockg),(.int .u32 blockh),(.int .u32 blocki),(.int .u32 blockj),(.int .u32 blockk),(.int .u32 blockl),(.int .u32 blockm),(.int .u32 blockn),(.int .u32 blocko),(.int .u32 blockp)])] R none w:=by kernel_rfl
theorem oJ(blocka:Int)(blockb:Int)(blockc:Int)(blockd:Int)(blocke:Int)(blockf:Int)(blockg:Int)(blockh:Int)(blocki:Int)(blockj:Int)(blockk:Int)(blockl:Int)(blockm:Int)(blockn:Int)(blocko:Int)(blockp:Int) {R:aD} {w:World}(h:mY blocka blockb blockc blockd blocke blockf blockg blockh blocki blockj blockk blockl blockm blockn blocko blockp R w):Calls prog 192 #[(.agg #[(.int .u32 blocka),(.int .u32 blockb),(.int .u32 blockc),(.int .u32 blockd),(.int .u32 blocke),(.int .u32 blockf),(.int .u32 blockg),(.int .u32 blockh),(.int .u32 blocki),(.int .u32 blockj),(.int .u32 blockk),(.int .u32 blockl),(.int .u32 blockm),(.int .u32 blockn),(.int .u32 blocko),(.int .u32 blockp)])] w fun e w'=>∃v,e= .returned v∧R v w':=
 aj Tryz.func192 aw aa ((SSchedule_eq blocka blockb blockc blockd blocke blockf blockg blockh blocki blockj blockk blockl blockm blockn blocko blockp R w).mp h)
def sN(statea:Int)(stateb:Int)(statec:Int)(stated:Int)(statee:Int)(statef:Int)(stateg:Int)(stateh:Int)(blocka:Int)(blockb:Int)(blockc:Int)(blockd:Int)(blocke:Int)(blockf:Int)(blockg:Int)(blockh:Int)(blocki:Int)(blockj:Int)(blockk:Int)(blockl:Int)(blockm:Int)(blockn:Int)(blocko:Int)(blockp:Int)(R:aD)(w:World):Prop:=
 ∀(gv:Nat)(wv:World),gv=w.heap.size→wv=w.alloc (.cells #[(.int .u32 statea),(.int .u32 stateb),(.int .u32 statec),(.int .u32 stated),(.int .u32 statee),(.int .u32 statef),(.int .u32 stateg),(.int .u32 stateh)] 66)→
 ∀(Jj:Nat)(Jb:World),Jj=wv.heap.size→Jb=wv.alloc (.cells #[(.int .u32 blocka),(.int .u32 blockb),(.int .u32 blockc),(.int .u32 blockd),(.int .u32 blocke),(.int .u32 blockf),(.int .u32 blockg),(.int .u32 blockh),(.int .u32 blocki),(.int .u32 blockj),(.int .u32 blockk),(.int .u32 blockl),(.int .u32 blockm),(.int .u32 blockn),(.int .u32 blocko),(.int .u32 blockp)] 262)→
 ∀(Kz:Nat)(Jc:World),Kz=Jb.heap.size→Jc=Jb.alloc (.cells (#[(.int .u32 0),(.int .u32 0),(.int .u32 0),(.int .u32 0),(.int .u32 0),(.int .u32 0),(.int .u32 0),(.int .u32 0)]) 66)→
 ∃KO:Int,∃KU:Int,∃Om:Int,∃Ol:Int,∃Oj:Int,∃TZ:Int,∃TY:Int,∃TX:Int,(Jc.cell? ((Addr.mk gv 0 none).add 0)=some (.int .u32 KO)∧Jc.cell? ((Addr.mk gv 0 none).add 1)=some (.int .u32 KU)∧Jc.cell? ((Addr.mk gv 0 none).add 2)=some (.int .u32 Om)∧Jc.cell? ((Addr.mk gv 0 none).add 3)=some (.int .u32 Ol)∧Jc.cell? ((Addr.mk gv 0 none).add 4)=some (.int .u32 Oj)∧Jc.cell? ((Addr.mk gv 0 none).add 5)=some (.int .u32 TZ)∧Jc.cell? ((Addr.mk gv 0 none).add 6)=some (.int .u32 TY)∧Jc.cell? ((Addr.mk gv 0 none).add 7)=some (.int .u32 TX))∧
 ∀(Ju:Nat)(Ji:World),Ju=Jc.heap.size→Ji=Jc.alloc (.cells (#[(.int .u32 0),(.int .u32 0),(.int .u32 0),(.int .u32 0),(.int .u32 0),(.int .u32 0),(.int .u32 0),(.int .u32 0)]) 66)→
 aG Ji (Addr.mk Ju 0 none) [(.int .u32 KO),(.int .u32 KU),(.int .u32 Om),(.int .u32 Ol),(.int .u32 Oj),(.int .u32 TZ),(.int .u32 TY),(.int .u32 TX)] fun Jq=>
 ∃Mw:Int,∃Ma:Int,∃Oi:Int,∃Oh:Int,∃Og:Int,∃TU:Int,∃TT:Int,∃TS:Int,∃TR:Int,∃TQ:Int,∃TP:Int,∃TO:Int,∃TN:Int,∃TM:Int,∃TL:Int,∃TK:Int,(Jq.cell? ((Addr.mk Jj 0 none).add 0)=some (.int .u32 Mw)∧Jq.cell? ((Addr.mk Jj 0 none).add 1)=some (.int .u32 Ma)∧Jq.cell? ((Addr.mk Jj 0 none).add 2)=some (.int .u32 Oi)∧Jq.cell? ((Addr.mk Jj 0 none).add 3)=some (.int .u32 Oh)∧Jq.cell? ((Addr.mk Jj 0 none).add 4)=some (.int .u32 Og)∧Jq.cell? ((Addr.mk Jj 0 none).add 5)=some (.int .u32 TU)∧Jq.cell? ((Addr.mk Jj 0 none).add 6)=some (.int .u32 TT)∧Jq.cell? ((Addr.mk Jj 0 none).add 7)=some (.int .u32 TS)∧Jq.cell? ((Addr.mk Jj 0 none).add 8)=some (.int .u32 TR)∧Jq.cell? ((Addr.mk Jj 0 none).add 9)=some (.int .u32 TQ)∧Jq.cell? ((Addr.mk Jj 0 none).add 10)=some (.int .u32 TP)∧Jq.cell? ((Addr.mk Jj 0 none).add 11)=some (.int .u32 TO)∧Jq.cell? ((Addr.mk Jj 0 none).add 12)=some (.int .u32 TN)∧Jq.cell? ((Addr.mk Jj 0 none).add 13)=some (.int .u32 TM)∧Jq.cell? ((Addr.mk Jj 0 none).add 14)=some (.int .u32 TL)∧Jq.cell? ((Addr.mk Jj 0 none).add 15)=some (.int .u32 TK))∧
 Calls prog 192 #[(.agg #[(.int .u32 Mw),(.int .u32 Ma),(.int .u32 Oi),(.int .u32 Oh),(.int .u32 Og),(.int .u32 TU),(.int .u32 TT),(.int .u32 TS),(.int .u32 TR),(.int .u32 TQ),(.int .u32 TP),(.int .u32 TO),(.int .u32 TN),(.int .u32 TM),(.int .u32 TL),(.int .u32 TK)])] Jq fun e JP=>
 ∃Mv:Array Value,e= .returned (.agg Mv)∧
 ∃I:Nat→Int→World→Prop,(∃m,I m 0 JP)∧∀(m:Nat)(J9:Nat→Value)(J6:Int),∀J0,I m J6 J0→
 split (decide ((J6:Int)<64)) (
  (0≤(J6:Int)∧(J6:Int)<((64:Nat):Int))∧
  ∃Kl:Int,Mv[Int.toNat J6*1]? =some (.int .u32 Kl)∧
  (0≤(0:Int)∧(0:Int)<((8:Nat):Int))∧
  ∃KL:Int,J0.drew.cell? ((Addr.mk Ju 0 none).add (Int.toNat 0*1))=some (.int .u32 KL)∧
  (0≤(4:Int)∧(4:Int)<((8:Nat):Int))∧
  ∃Mu:Int,J0.drew.cell? ((Addr.mk Ju 0 none).add (Int.toNat 4*1))=some (.int .u32 Mu)∧
  ∃b:Nat→Nat→Prop,
  (0≤(7:Int)∧(7:Int)<((8:Nat):Int))∧
  b 1 (((Addr.mk Ju 0 none).add (Int.toNat 7*1)).block)∧
  ∃LY:Int,J0.drew.drew.cell? ((Addr.mk Ju 0 none).add (Int.toNat 7*1))=some (.int .u32 LY)∧
  (0≤(5:Int)∧(5:Int)<((8:Nat):Int))∧
  b 13 (((Addr.mk Ju 0 none).add (Int.toNat 5*1)).block)∧
  ∃S9:Int,J0.drew.drew.cell? ((Addr.mk Ju 0 none).add (Int.toNat 5*1))=some (.int .u32 S9)∧
  (0≤(6:Int)∧(6:Int)<((8:Nat):Int))∧
  b 18 (((Addr.mk Ju 0 none).add (Int.toNat 6*1)).block)∧
  ∃Nk:Int,J0.drew.drew.cell? ((Addr.mk Ju 0 none).add (Int.toNat 6*1))=some (.int .u32 Nk)∧
  (0≤(J6:Int)∧(J6:Int)<((64:Nat):Int))∧
  b 24 (((Addr.mk 0 0 none).add (Int.toNat J6*1)).block)∧
  ∃SC:Int,J0.drew.drew.cell? ((Addr.mk 0 0 none).add (Int.toNat J6*1))=some (.int .u32 SC)∧
  Calls prog 193 #[(.int .u32 Mu),(.int .i64 6)] J0.drew.drew fun e JU=>
  ∃MO:Int,e= .returned (.int .u32 MO)∧
  Kept (bM b [0,1,4,7,11,12,13,14,15,16,17,18,19,20,22,23,24,26]) J0.drew.drew JU∧∃b1:Nat→Nat→Prop,(∀i k,b i k→b1 i k)∧
  Calls prog 193 #[(.int .u32 Mu),(.int .i64 11)] JU fun e JN=>
  ∃L6:Int,e= .returned (.int .u32 L6)∧
  Kept (bM b1 [0,1,7,11,12,13,14,15,16,17,18,19,20,22,23,24,26]) JU JN∧∃b2:Nat→Nat→Prop,(∀i k,b1 i k→b2 i k)∧
  Calls prog 193 #[(.int .u32 Mu),(.int .i64 25)] JN fun e K7=>
  ∃x32:Int,e= .returned (.int .u32 x32)∧
  Kept (bM b2 [0,1,6,11,12,13,14,15,16,17,18,19,20,22,23,24,26]) JN K7∧∃b3:Nat→Nat→Prop,(∀i k,b2 i k→b3 i k)∧
  ∀t1:Int,t1=(u32.wrap ((u32.wrap ((u32.wrap ((u32.wrap (LY+(u32.wrap (BitVec.ofInt u32.bits (u32.wrap (BitVec.ofInt u32.bits MO ^^^ BitVec.ofInt u32.bits L6).toNat) ^^^ BitVec.ofInt u32.bits x32).toNat)))+(u32.wrap (BitVec.ofInt u32.bits (u32.wrap (BitVec.ofInt u32.bits Mu &&& BitVec.ofInt u32.bits S9).toNat) ^^^ BitVec.ofInt u32.bits (u32.wrap (BitVec.ofInt u32.bits (u32.wrap (BitVec.ofInt u32.bits (if u32.signed then -1 else u32.max) ^^^ BitVec.ofInt u32.bits Mu).toNat) &&& BitVec.ofInt u32.bits Nk).toNat)).toNat)))+SC))+Kl))→
  ∃b4:Nat→Nat→Prop,
  (0≤(1:Int)∧(1:Int)<((8:Nat):Int))∧
  b4 10 (((Addr.mk Ju 0 none).add (Int.toNat 1*1)).block)∧
  ∃x62:Int,K7.drew.cell? ((Addr.mk Ju 0 none).add (Int.toNat 1*1))=some (.int .u32 x62)∧
  (0≤(2:Int)∧(2:Int)<((8:Nat):Int))∧
  b4 14 (((Addr.mk Ju 0 none).add (Int.toNat 2*1)).block)∧
  ∃x66:Int,K7.drew.cell? ((Addr.mk Ju 0 none).add (Int.toNat 2*1))=some (.int .u32 x66)∧
  (0≤(1:Int)∧(1:Int)<((8:Nat):Int))∧
  b4 18 (((Addr.mk Ju 0 none).add (Int.toNat 1*1)).block)∧
  ∃x70:Int,K7.drew.cell? ((Addr.mk Ju 0 none).add (Int.toNat 1*1))=some (.int .u32 x70)∧
  (0≤(2:Int)∧(2:Int)<((8:Nat):Int))∧
  b4 20 (((Addr.mk Ju 0 none).add (Int.toNat 2*1)).block)∧
  ∃x72:Int,K7.drew.cell? ((Addr.mk Ju 0 none).add (Int.toNat 2*1))=some (.int .u32 x72)∧
  Calls prog 193 #[(.int .u32 KL),(.int .i64 2)] K7.drew fun e MY=>
  ∃x53:Int,e= .returned (.int .u32 x53)∧
  Kept (bM b4 [2,5,8,9,10,11,12,13,14,15,16,17,18,19,20,21,22]) K7.drew MY∧∃b5:Nat→Nat→Prop,(∀i k,b4 i k→b5 i k)∧
  Calls prog 193 #[(.int .u32 KL),(.int .i64 13)] MY fun e Pj=>
  ∃R1:Int,e= .returned (.int .u32 R1)∧
  Kept (bM b5 [5,8,9,10,11,12,13,14,15,16,17,18,19,20,21,22]) MY Pj∧∃b6:Nat→Nat→Prop,(∀i k,b5 i k→b6 i k)∧
  Calls prog 193 #[(.int .u32 KL),(.int .i64 22)] Pj fun e LU=>
  ∃x58:Int,e= .returned (.int .u32 x58)∧
  Kept (bM b6 [4,8,9,10,11,12,13,14,15,16,17,18,19,20,21,22]) Pj LU∧∃b7:Nat→Nat→Prop,(∀i k,b6 i k→b7 i k)∧
  ∀t2:Int,t2=(u32.wrap ((u32.wrap (BitVec.ofInt u32.bits (u32.wrap (BitVec.ofInt u32.bits x53 ^^^ BitVec.ofInt u32.bits R1).toNat) ^^^ BitVec.ofInt u32.bits x58).toNat)+(u32.wrap (BitVec.ofInt u32.bits (u32.wrap (BitVec.ofInt u32.bits (u32.wrap (BitVec.ofInt u32.bits KL &&& BitVec.ofInt u32.bits x62).toNat) ^^^ BitVec.ofInt u32.bits (u32.wrap (BitVec.ofInt u32.bits KL &&& BitVec.ofInt u32.bits x66).toNat)).toNat) ^^^ BitVec.ofInt u32.bits (u32.wrap (BitVec.ofInt u32.bits x70 &&& BitVec.ofInt u32.bits x72).toNat)).toNat)))→
  (0≤(0:Int)∧(0:Int)<((8:Nat):Int))∧
  ∃x80:Int,LU.cell? ((Addr.mk Ju 0 none).add (Int.toNat 0*1))=some (.int .u32 x80)∧
  (0≤(1:Int)∧(1:Int)<((8:Nat):Int))∧
  ∃RM:Int,LU.cell? ((Addr.mk Ju 0 none).add (Int.toNat 1*1))=some (.int .u32 RM)∧
  (0≤(2:Int)∧(2:Int)<((8:Nat):Int))∧
  ∃x84:Int,LU.cell? ((Addr.mk Ju 0 none).add (Int.toNat 2*1))=some (.int .u32 x84)∧
  (0≤(3:Int)∧(3:Int)<((8:Nat):Int))∧
  ∃x86:Int,LU.cell? ((Addr.mk Ju 0 none).add (Int.toNat 3*1))=some (.int .u32 x86)∧
  (0≤(4:Int)∧(4:Int)<((8:Nat):Int))∧
  ∃x90:Int,LU.cell? ((Addr.mk Ju 0 none).add (Int.toNat 4*1))=some (.int .u32 x90)∧
  (0≤(5:Int)∧(5:Int)<((8:Nat):Int))∧
  ∃x92:Int,LU.cell? ((Addr.mk Ju 0 none).add (Int.toNat 5*1))=some (.int .u32 x92)∧
  (0≤(6:Int)∧(6:Int)<((8:Nat):Int))∧
  ∃x94:Int,LU.cell? ((Addr.mk Ju 0 none).add (Int.toNat 6*1))=some (.int .u32 x94)∧
  aG LU (Addr.mk Ju 0 none) [(.int .u32 (u32.wrap (t1+t2))),(.int .u32 x80),(.int .u32 RM),(.int .u32 x84),(.int .u32 (u32.wrap (x86+t1))),(.int .u32 x90),(.int .u32 x92),(.int .u32 x94)] fun T9=>
  ∃m1,m1<m∧I m1 (i64.wrap (J6+1)) T9) (
  ∃I1:Nat→Int→World→Prop,(∃m2,I1 m2 0 J0)∧∀(m2:Nat)(Xj:Nat→Value)(Lm:Int),∀JU,I1 m2 Lm JU→
  split (decide ((Lm:Int)<8)) (
   ∃b:Nat→Nat→Prop,
   (0≤(Lm:Int)∧(Lm:Int)<((8:Nat):Int))∧
   b 2 (((Addr.mk Ju 0 none).add (Int.toNat Lm*1)).block)∧
   ∃T8:Int,JU.drew.cell? ((Addr.mk Ju 0 none).add (Int.toNat Lm*1))=some (.int .u32 T8)∧
   (0≤(Lm:Int)∧(Lm:Int)<((8:Nat):Int))∧
   b 5 (((Addr.mk gv 0 none).add (Int.toNat Lm*1)).block)∧
   ∃T7:Int,JU.drew.cell? ((Addr.mk gv 0 none).add (Int.toNat Lm*1))=some (.int .u32 T7)∧
   (0≤(Lm:Int)∧(Lm:Int)<((8:Nat):Int))∧
   aG JU.drew ((Addr.mk Ju 0 none).add (Int.toNat Lm*1)) [(.int .u32 (u32.wrap (T8+T7)))] fun JN=>
   ∃b1:Nat→Nat→Prop,(∀i k,b i k→b1 i k)∧
   ∃m3,m3<m2∧I1 m3 (i64.wrap (Lm+1)) JN) (
   ∃PT:Int,∃PS:Int,∃PQ:Int,∃PO:Int,∃PN:Int,∃PM:Int,∃PL:Int,∃PJ:Int,(JU.cell? ((Addr.mk Ju 0 none).add 0)=some (.int .u32 PT)∧JU.cell? ((Addr.mk Ju 0 none).add 1)=some (.int .u32 PS)∧JU.cell? ((Addr.mk Ju 0 none).add 2)=some (.int .u32 PQ)∧JU.cell? ((Addr.mk Ju 0 none).add 3)=some (.int .u32 PO)∧JU.cell? ((Addr.mk Ju 0 none).add 4)=some (.int .u32 PN)∧JU.cell? ((Addr.mk Ju 0 none).add 5)=some (.int .u32 PM)∧JU.cell? ((Addr.mk Ju 0 none).add 6)=some (.int .u32 PL)∧JU.cell? ((Addr.mk Ju 0 none).add 7)=some (.int .u32 PJ))∧
   aG JU (Addr.mk Kz 0 none) [(.int .u32 PT),(.int .u32 PS),(.int .u32 PQ),(.int .u32 PO),(.int .u32 PN),(.int .u32 PM),(.int .u32 PL),(.int .u32 PJ)] fun JN=>
   ∃MA:Int,∃Mz:Int,∃No:Int,∃Nn:Int,∃Nm:Int,∃Ue:Int,∃Ud:Int,∃Uc:Int,(JN.cell? ((Addr.mk Kz 0 none).add 0)=some (.int .u32 MA)∧JN.cell? ((Addr.mk Kz 0 none).add 1)=some (.int .u32 Mz)∧JN.cell? ((Addr.mk Kz 0 none).add 2)=some (.int .u32 No)∧JN.cell? ((Addr.mk Kz 0 none).add 3)=some (.int .u32 Nn)∧JN.cell? ((Addr.mk Kz 0 none).add 4)=some (.int .u32 Nm)∧JN.cell? ((Addr.mk Kz 0 none).add 5)=some (.int .u32 Ue)∧JN.cell? ((Addr.mk Kz 0 none).add 6)=some (.int .u32 Ud)∧JN.cell? ((Addr.mk Kz 0 none).add 7)=some (.int .u32 Uc))∧
   R (.agg #[(.int .u32 MA),(.int .u32 Mz),(.int .u32 No),(.int .u32 Nn),(.int .u32 Nm),(.int .u32 Ue),(.int .u32 Ud),(.int .u32 Uc)]) JN))
def Bz:Ann:=(.node none .leaf (.node none .leaf (.node none (.node none .leaf (.node none (.node (some ⟨[(16,.one (.int .i64))],[6,7,8,9,10,11,16,17,18,19,20,21,22,23,24,25,26,27,28,29,30,31,32,33,34,35,36,37,38,39,40,41,42,43,44,45,46,47,48,49,50,51,52,53,54,55,56,57,58,59,60,61,62,63,64,65,66,67,68,69,70,71,72,73,74,75,76,77,78,79,80,81,82,83,84,85,86,87,88,89,90,91,92,93,94,95,96]⟩) .leaf .leaf) .leaf)) (.node none (.node none .leaf (.node none (.node (some ⟨[(97,.one (.int .i64))],[12,97,98,99,100,101,102,103,104,105,106,107,108]⟩) .leaf .leaf) .leaf)) .leaf))))
theorem SBlock_eq(statea:Int)(stateb:Int)(statec:Int)(stated:Int)(statee:Int)(statef:Int)(stateg:Int)(stateh:Int)(blocka:Int)(blockb:Int)(blockc:Int)(blockd:Int)(blocke:Int)(blockf:Int)(blockg:Int)(blockh:Int)(blocki:Int)(blockj:Int)(blockk:Int)(blockl:Int)(blockm:Int)(blockn:Int)(blocko:Int)(blockp:Int)(R:aD)(w:World):sN statea stateb statec stated statee statef stateg stateh blocka blockb blockc blockd blocke blockf blockg blockh blocki blockj blockk blockl blockm blockn blocko blockp R w=vcF prog aP [10,11] Tryz.f175 Bz [(.agg #[(.int .u32 statea),(.int .u32 stateb),(.int .u32 statec),(.int .u32 stated),(.int .u32 statee),(.int .u32 statef),(.int .u32 stateg),(.int .u32 stateh)]),(.agg #[(.int .u32 blocka),(.int .u32 blockb),(.int .u32 blockc),(.int .u32 blockd),(.int .u32 blocke),(.int .u32 blockf),(.int .u32 blockg),(.int .u32 blockh),(.int .u32 blocki),(.int .u32 blockj),(.int .u32 blockk),(.int .u32 blockl),(.int .u32 blockm),(.int .u32 blockn),(.int .u32 blocko),(.int .u32 blockp)])] R none w:=by kernel_rfl
theorem uf(statea:Int)(stateb:Int)(statec:Int)(stated:Int)(statee:Int)(statef:Int)(stateg:Int)(stateh:Int)(blocka:Int)(blockb:Int)(blockc:Int)(blockd:Int)(blocke:Int)(blockf:Int)(blockg:Int)(blockh:Int)(blocki:Int)(blockj:Int)(blockk:Int)(blockl:Int)(blockm:Int)(blockn:Int)(blocko:Int)(blockp:Int) {R:aD} {w:World}(h:sN statea stateb statec stated statee statef stateg stateh blocka blockb blockc blockd blocke blockf blockg blockh blocki blockj blockk blockl blockm blockn blocko blockp R w):Calls prog 175 #[(.agg #[(.int .u32 statea),(.int .u32 stateb),(.int .u32 statec),(.int .u32 stated),(.int .u32 statee),(.int .u32 statef),(.int .u32 stateg),(.int .u32 stateh)]),(.agg #[(.int .u32 blocka),(.int .u32 blockb),(.int .u32 blockc),(.int .u32 blockd),(.int .u32 blocke),(.int .u32 blockf),(.int .u32 blockg),(.int .u32 blockh),(.int .u32 blocki),(.int .u32 blockj),(.int .u32 blockk),(.int .u32 blockl),(.int .u32 blockm),(.int .u32 blockn),(.int .u32 blocko),(.int .u32 blockp)])] w fun e w'=>∃v,e= .returned v∧R v w':=
 aj Tryz.func175 aw aa ((SBlock_eq statea stateb statec stated statee statef stateg stateh blocka blockb blockc blockd blocke blockf blockg blockh blocki blockj blockk blockl blockm blockn blocko blockp R w).mp h)
def sM(R:aD)(w:World):Prop:=
 ∀(gv:Nat)(wv:World),gv=w.heap.size→wv=w.alloc (.cells (#[(.int .u32 0),(.int .u32 0),(.int .u32 0),(.int .u32 0),(.int .u32 0),(.int .u32 0),(.int .u32 0),(.int .u32 0)]) 66)→
 aG wv (Addr.mk gv 0 none) [(.int .u32 1779033703),(.int .u32 3144134277),(.int .u32 1013904242),(.int .u32 2773480762),(.int .u32 1359893119),(.int .u32 2600822924),(.int .u32 528734635),(.int .u32 1541459225)] fun Jb=>
 ∃MA:Int,∃Mz:Int,∃No:Int,∃Nn:Int,∃Nm:Int,∃Ue:Int,∃Ud:Int,∃Uc:Int,(Jb.cell? ((Addr.mk gv 0 none).add 0)=some (.int .u32 MA)∧Jb.cell? ((Addr.mk gv 0 none).add 1)=some (.int .u32 Mz)∧Jb.cell? ((Addr.mk gv 0 none).add 2)=some (.int .u32 No)∧Jb.cell? ((Addr.mk gv 0 none).add 3)=some (.int .u32 Nn)∧Jb.cell? ((Addr.mk gv 0 none).add 4)=some (.int .u32 Nm)∧Jb.cell? ((Addr.mk gv 0 none).add 5)=some (.int .u32 Ue)∧Jb.cell? ((Addr.mk gv 0 none).add 6)=some (.int .u32 Ud)∧Jb.cell? ((Addr.mk gv 0 none).add 7)=some (.int .u32 Uc))∧
 R (.agg #[(.int .u32 MA),(.int .u32 Mz),(.int .u32 No),(.int .u32 Nn),(.int .u32 Nm),(.int .u32 Ue),(.int .u32 Ud),(.int .u32 Uc)]) Jb
def By:Ann:= .leaf
theorem SFirst_eq(R:aD)(w:World):sM R w=vcF prog aP [] Tryz.f137 By [] R none w:=by kernel_rfl
theorem ud {R:aD} {w:World}(h:sM R w):Calls prog 137 #[] w fun e w'=>∃v,e= .returned v∧R v w':=
 aj Tryz.func137 aw aa ((SFirst_eq R w).mp h)
end
section
set_option maxRecDepth 100000
def Aj(R:aD)(w:World):Prop:=
 Calls prog 137 #[] w fun e wv=>
 ∃x1a:Int,∃x1b:Int,∃x1c:Int,∃x1d:Int,∃x1e:Int,∃x1f:Int,∃x1g:Int,∃x1h:Int,e= .returned (.agg #[(.int .u32 x1a),(.int .u32 x1b),(.int .u32 x1c),(.int .u32 x1d),(.int .u32 x1e),(.int .u32 x1f),(.int .u32 x1g),(.int .u32 x1h)])∧
 ∀(gv:Nat)(Jb:World),gv=wv.heap.size→Jb=wv.alloc (.cells #[(.int .u32 x1a),(.int .u32 x1b),(.int .u32 x1c),(.int .u32 x1d),(.int .u32 x1e),(.int .u32 x1f),(.int .u32 x1g),(.int .u32 x1h),(.int .i64 0),(.slice none 0 0)] 228)→
 R (.pointer (some (Addr.mk gv 0 none))) Jb
def FT:Ann:= .leaf
theorem SNew_eq(R:aD)(w:World):Aj R w=vcF prog aP [] Tryz.f125 FT [] R none w:=by kernel_rfl
theorem yW {R:aD} {w:World}(h:Aj R w):Calls prog 125 #[] w fun e w'=>∃v,e= .returned v∧R v w':=
 aj Tryz.func125 aw aa ((SNew_eq R w).mp h)
def Ak(d:Option Addr)(wordsA:Option Addr)(wordsN:Nat)(wordsC:Nat)(R:aD)(w:World):Prop:=
 ar d fun p8=>
 ∃Kb:Int,w.cell? (p8.add 8)=some (.int .i64 Kb)∧
 split (decide ((((wordsN:Nat):Int):Int)>(i64.wrap (36028797018963968 - Kb)))) (
  R (.tuple #[]) w) (
  ar d fun OX=>
  ∃J6:Int,w.cell? (OX.add 8)=some (.int .i64 J6)∧
  ar d fun Rp=>
  aG w (Rp.add 8) [(.int .i64 (i64.wrap (J6+((wordsN:Nat):Int))))] fun wv=>
  ∃b:Nat→Nat→Prop,
  ar d fun Ro=>
  b 3 ((Ro.add 9).block)∧
  ∃Qz:Option Addr,∃V1:Nat,∃Tq:Nat,wv.drew.cell? (Ro.add 9)=some (.slice Qz V1 Tq)∧
  ar d fun p27=>
  b 7 ((p27.add 9).block)∧
  ∃V0:Option Addr,∃O8:Nat,∃VZ:Nat,wv.drew.cell? (p27.add 9)=some (.slice V0 O8 VZ)∧
  ar d fun Vq=>
  b 12 ((Vq.add 9).block)∧
  ∃VQ:Option Addr,∃Nz:Nat,∃VP:Nat,wv.drew.cell? (Vq.add 9)=some (.slice VQ Nz VP)∧
  (0≤(((Nz:Nat):Int):Int)∧(((Nz:Nat):Int):Int)≤((Tq:Nat):Int))∧
  (0≤(((O8:Nat):Int):Int)∧(((O8:Nat):Int):Int)≤((Int.toNat ((Nz:Nat):Int):Nat):Int))∧
  ∀Qy:Option Addr,Qy=(if(Int.toNat ((Nz:Nat):Int))=0 then Qz else(Qz:Option Addr).map (·.add (0*1)))→∀Qw:Nat,Qw=(Int.toNat ((O8:Nat):Int)) - 0→∀Qx:Nat,Qx=(Int.toNat ((Nz:Nat):Int)) - 0→
  ∃S6:Option Addr,∃S4:Nat,∃S5:Nat,∃Jb,(Builtin.append_ #[62,62] 62 #[(.slice Qy Qw Qx),(.slice wordsA wordsN wordsC)]:Sem Value).run prog wv.drew= .ok (.slice S6 S4 S5) Jb∧
  Kept (bM b [0,1,4,5,6,9,10,11]) wv.drew Jb∧∃b1:Nat→Nat→Prop,(∀i k,b i k→b1 i k)∧
  ∃I:Nat→Option Addr→Nat→Nat→World→Prop,(∃m,I m S6 S4 S5 Jb)∧∀(m:Nat)(L5:Nat→Value)(leftA:Option Addr)(leftN:Nat)(leftC:Nat),∀Jc,I m leftA leftN leftC Jc→
  split (decide ((((leftN:Nat):Int):Int)≥16)) (
   ∃b2:Nat→Nat→Prop,
   ar d fun Pk=>
   b2 4 ((Pk.add 0).block)∧
   ∃SB:Int,∃SA:Int,∃Sz:Int,∃Sy:Int,∃Sx:Int,∃Sw:Int,∃Su:Int,∃Ss:Int,(Jc.drew.cell? ((Pk.add 0).add 0)=some (.int .u32 SB)∧Jc.drew.cell? ((Pk.add 0).add 1)=some (.int .u32 SA)∧Jc.drew.cell? ((Pk.add 0).add 2)=some (.int .u32 Sz)∧Jc.drew.cell? ((Pk.add 0).add 3)=some (.int .u32 Sy)∧Jc.drew.cell? ((Pk.add 0).add 4)=some (.int .u32 Sx)∧Jc.drew.cell? ((Pk.add 0).add 5)=some (.int .u32 Sw)∧Jc.drew.cell? ((Pk.add 0).add 6)=some (.int .u32 Su)∧Jc.drew.cell? ((Pk.add 0).add 7)=some (.int .u32 Ss))∧
   16≤leftN∧
   ar leftA fun MB=>
   b2 7 (MB.block)∧
   ∃Sr:Int,∃Sq:Int,∃Sp:Int,∃So:Int,∃Sn:Int,∃Sl:Int,∃Sk:Int,∃Sj:Int,∃Si:Int,∃Sg:Int,∃Sf:Int,∃Se:Int,∃Sd:Int,∃Sc:Int,∃Sb:Int,∃Sa:Int,(Jc.drew.cell? (MB.add 0)=some (.int .u32 Sr)∧Jc.drew.cell? (MB.add 1)=some (.int .u32 Sq)∧Jc.drew.cell? (MB.add 2)=some (.int .u32 Sp)∧Jc.drew.cell? (MB.add 3)=some (.int .u32 So)∧Jc.drew.cell? (MB.add 4)=some (.int .u32 Sn)∧Jc.drew.cell? (MB.add 5)=some (.int .u32 Sl)∧Jc.drew.cell? (MB.add 6)=some (.int .u32 Sk)∧Jc.drew.cell? (MB.add 7)=some (.int .u32 Sj)∧Jc.drew.cell? (MB.add 8)=some (.int .u32 Si)∧Jc.drew.cell? (MB.add 9)=some (.int .u32 Sg)∧Jc.drew.cell? (MB.add 10)=some (.int .u32 Sf)∧Jc.drew.cell? (MB.add 11)=some (.int .u32 Se)∧Jc.drew.cell? (MB.add 12)=some (.int .u32 Sd)∧Jc.drew.cell? (MB.add 13)=some (.int .u32 Sc)∧Jc.drew.cell? (MB.add 14)=some (.int .u32 Sb)∧Jc.drew.cell? (MB.add 15)=some (.int .u32 Sa))∧
   Calls prog 175 #[(.agg #[(.int .u32 SB),(.int .u32 SA),(.int .u32 Sz),(.int .u32 Sy),(.int .u32 Sx),(.int .u32 Sw),(.int .u32 Su),(.int .u32 Ss)]),(.agg #[(.int .u32 Sr),(.int .u32 Sq),(.int .u32 Sp),(.int .u32 So),(.int .u32 Sn),(.int .u32 Sl),(.int .u32 Sk),(.int .u32 Sj),(.int .u32 Si),(.int .u32 Sg),(.int .u32 Sf),(.int .u32 Se),(.int .u32 Sd),(.int .u32 Sc),(.int .u32 Sb),(.int .u32 Sa)])] Jc.drew fun e Ji=>
   ∃R9:Int,∃R8:Int,∃R7:Int,∃R6:Int,∃R5:Int,∃R4:Int,∃R3:Int,∃R2:Int,e= .returned (.agg #[(.int .u32 R9),(.int .u32 R8),(.int .u32 R7),(.int .u32 R6),(.int .u32 R5),(.int .u32 R4),(.int .u32 R3),(.int .u32 R2)])∧
   Kept (bM b2 [0,1]) Jc.drew Ji∧∃b3:Nat→Nat→Prop,(∀i k,b2 i k→b3 i k)∧
   ar d fun p53=>
   aG Ji (p53.add 0) [(.int .u32 R9),(.int .u32 R8),(.int .u32 R7),(.int .u32 R6),(.int .u32 R5),(.int .u32 R4),(.int .u32 R3),(.int .u32 R2)] fun Jq=>
   ∃b4:Nat→Nat→Prop,(∀i k,b3 i k→b4 i k)∧
   (0≤(16:Int)∧(16:Int)≤((leftN:Nat):Int))∧
   ∀Ny:Option Addr,Ny=(if leftC=(Int.toNat 16)then leftA else(leftA:Option Addr).map (·.add ((Int.toNat 16)*1)))→∀Nw:Nat,Nw=leftN - (Int.toNat 16)→∀Nx:Nat,Nx=leftC - (Int.toNat 16)→
   ∃m1,m1<m∧I m1 Ny Nw Nx Jq) (
   ∃N2:Option Addr,∃N1:Nat,∃O7:Nat,∃Ji,(Builtin.append_ #[62,62] 62 #[(.slice none 0 0),(.slice leftA leftN leftC)]:Sem Value).run prog Jc= .ok (.slice N2 N1 O7) Ji∧
   ar d fun p58=>
   aG Ji (p58.add 9) [(.slice N2 N1 O7)] fun Jq=>
   R (.tuple #[]) Jq))
def FU:Ann:=(.node none .leaf (.node none .leaf (.node none .leaf (.node none (.node none (.node (some ⟨[(4,.one (.slice))],[4,39,40,41,42,43,44,45,46,47,48,49,50,51,52,53,54]⟩) .leaf .leaf) .leaf) .leaf))))
theorem SAdd_eq(d:Option Addr)(wordsA:Option Addr)(wordsN:Nat)(wordsC:Nat)(R:aD)(w:World):Ak d wordsA wordsN wordsC R w=vcF prog aP [4] Tryz.f135 FU [(.pointer d),(.slice wordsA wordsN wordsC)] R none w:=by kernel_rfl
theorem yY(d:Option Addr)(wordsA:Option Addr)(wordsN:Nat)(wordsC:Nat) {R:aD} {w:World}(h:Ak d wordsA wordsN wordsC R w):Calls prog 135 #[(.pointer d),(.slice wordsA wordsN wordsC)] w fun e w'=>∃v,e= .returned v∧R v w':=
 aj Tryz.func135 aw aa ((SAdd_eq d wordsA wordsN wordsC R w).mp h)
def wo(d:Option Addr)(R:aD)(w:World):Prop:=
 ∀(gv:Nat)(wv:World),gv=w.heap.size→wv=w.alloc (.cells (Array.replicate 26 (.int .u32 0)) 69)→
 ∀(Jj:Nat)(Jb:World),Jj=wv.heap.size→Jb=wv.alloc (.cells (Array.replicate 26 (.int .u32 0)) 69)→
 ∃b:Nat→Nat→Prop,
 (0≤(8:Int)∧(8:Int)≤((26:Nat):Int))∧
 ∀x4A:Option Addr,x4A=(some (if 26=0 then Addr.mk Jj 0 none else(Addr.mk Jj 0 none).add (0*1)))→∀x4N:Nat,x4N=(Int.toNat 8) - 0→∀x4C:Nat,x4C=26 - 0→
 ar d fun p6=>
 ∀PE:Option Addr,PE=(some (if 8=0 then p6.add 0 else(p6.add 0).add (0*1)))→∀PC:Nat,PC=8 - 0→∀PD:Nat,PD=8 - 0→
 ∃x9:Int,∃Jc,(Builtin.copy_ #[62,62] 3 #[(.slice x4A x4N x4C),(.slice PE PC PD)]:Sem Value).run prog Jb.drew= .ok (.int .i64 x9) Jc∧
 Kept (bM b [1]) Jb.drew Jc∧∃b1:Nat→Nat→Prop,(∀i k,b i k→b1 i k)∧
 ∃b2:Nat→Nat→Prop,
 ar d fun p11=>
 b2 3 ((p11.add 8).block)∧
 ∃KJ:Int,Jc.drew.cell? (p11.add 8)=some (.int .i64 KJ)∧
 ar d fun PW=>
 b2 10 ((PW.add 8).block)∧
 ∃KE:Int,Jc.drew.cell? (PW.add 8)=some (.int .i64 KE)∧
 (0≤(8:Int)∧(8:Int)<((26:Nat):Int))∧
 aG Jc.drew ((Addr.mk Jj 0 none).add (Int.toNat 8*1)) [(.int .u32 (u32.wrap ((u64.wrap KJ:Int).fdiv (2 ^ 32))))] fun Ji=>
 Kept (bM b2 [7,11]) Jc.drew Ji∧∃b3:Nat→Nat→Prop,(∀i k,b2 i k→b3 i k)∧
 (0≤(9:Int)∧(9:Int)<((26:Nat):Int))∧
 aG Ji ((Addr.mk Jj 0 none).add (Int.toNat 9*1)) [(.int .u32 (u32.wrap KE))] fun Jq=>
 ∃b4:Nat→Nat→Prop,(∀i k,b3 i k→b4 i k)∧
 ∃b5:Nat→Nat→Prop,
 (0≤(10:Int)∧(10:Int)≤((26:Nat):Int))∧
 ∀LH:Option Addr,LH=(some (if 26=(Int.toNat 10)then Addr.mk Jj 0 none else(Addr.mk Jj 0 none).add ((Int.toNat 10)*1)))→∀LF:Nat,LF=26 - (Int.toNat 10)→∀LG:Nat,LG=26 - (Int.toNat 10)→
 ar d fun M3=>
 b5 4 ((M3.add 9).block)∧
 ∃LD:Option Addr,∃LB:Nat,∃LC:Nat,Jq.drew.cell? (M3.add 9)=some (.slice LD LB LC)∧
 ∃L6:Int,∃JP,(Builtin.copy_ #[62,62] 3 #[(.slice LH LF LG),(.slice LD LB LC)]:Sem Value).run prog Jq.drew= .ok (.int .i64 L6) JP∧
 Kept (bM b5 [1]) Jq.drew JP∧∃b6:Nat→Nat→Prop,(∀i k,b5 i k→b6 i k)∧
 ∃KN:Array Value,(KN.size=26∧∀i u,KN[i]? =some u→JP.cell? ((Addr.mk Jj 0 none).add i)=some u)∧
 KN.size=26∧(∀v∈KN.toList,one? v True)∧
 aG JP (Addr.mk gv 0 none) KN.toList fun J0=>
 ∃r0:Array Value,(r0.size=26∧∀i u,r0[i]? =some u→J0.cell? ((Addr.mk gv 0 none).add i)=some u)∧
 R (.agg r0) J0
def Ec:Ann:= .leaf
theorem SSave_eq(d:Option Addr)(R:aD)(w:World):wo d R w=vcF prog aP [] Tryz.f126 Ec [(.pointer d)] R none w:=by kernel_rfl
theorem wq(d:Option Addr) {R:aD} {w:World}(h:wo d R w):Calls prog 126 #[(.pointer d)] w fun e w'=>∃v,e= .returned v∧R v w':=
 aj Tryz.func126 aw aa ((SSave_eq d R w).mp h)
def wu(wordsA:Option Addr)(wordsN:Nat)(wordsC:Nat)(R:aD)(w:World):Prop:=
 split ((((wordsN:Nat):Int):Int) !=26) (
  R (.tuple #[(.pointer none),(.int .i64 20)]) w) (
  (0≤(8:Int)∧(8:Int)<((wordsN:Nat):Int))∧
  ar wordsA fun Ug=>
  ∃Li:Int,w.drew.cell? (Ug.add (Int.toNat 8*1))=some (.int .u32 Li)∧
  (0≤(9:Int)∧(9:Int)<((wordsN:Nat):Int))∧
  ar wordsA fun PW=>
  ∃Kl:Int,w.drew.cell? (PW.add (Int.toNat 9*1))=some (.int .u32 Kl)∧
  ∀n:Int,n=(u64.wrap (BitVec.ofInt u64.bits (u64.wrap ((u64.wrap Li:Int)*2 ^ 32)) ||| BitVec.ofInt u64.bits (u64.wrap Kl)).toNat)→
  (0≤(8:Int)∧(8:Int)≤((wordsC:Nat):Int))∧
  (0≤(8:Int)∧(8:Int)≤((Int.toNat 8:Nat):Int))∧
  ∀L8:Option Addr,L8=(if(Int.toNat 8)=0 then wordsA else(wordsA:Option Addr).map (·.add (0*1)))→∀L7:Nat,L7=(Int.toNat 8) - 0→∀Mt:Nat,Mt=(Int.toNat 8) - 0→
  8≤L7∧
  ar L8 fun OV=>
  ∃N4:Int,∃Pc:Int,∃Pb:Int,∃Pa:Int,∃O9:Int,∃Tp:Int,∃To:Int,∃Tn:Int,(w.drew.cell? (OV.add 0)=some (.int .u32 N4)∧w.drew.cell? (OV.add 1)=some (.int .u32 Pc)∧w.drew.cell? (OV.add 2)=some (.int .u32 Pb)∧w.drew.cell? (OV.add 3)=some (.int .u32 Pa)∧w.drew.cell? (OV.add 4)=some (.int .u32 O9)∧w.drew.cell? (OV.add 5)=some (.int .u32 Tp)∧w.drew.cell? (OV.add 6)=some (.int .u32 To)∧w.drew.cell? (OV.add 7)=some (.int .u32 Tn))∧
  ∀(gv:Nat)(wv:World),gv=w.drew.heap.size→wv=w.drew.alloc (.cells #[(.int .u32 N4),(.int .u32 Pc),(.int .u32 Pb),(.int .u32 Pa),(.int .u32 O9),(.int .u32 Tp),(.int .u32 To),(.int .u32 Tn),(.int .i64 (i64.wrap n)),(.slice none 0 0)] 228)→
  ∃J:Bool→World→Prop,(
   ∃b:Nat→Nat→Prop,
   split (decide ((n:Int)>36028797018963968)) (
    J true wv.drew) (
    split (decide ((n:Int)<16)) (
     b 9 (((Addr.mk gv 0 none).add 0).block)∧
     ∃S3:Int,∃S2:Int,∃S0:Int,∃SZ:Int,∃SY:Int,∃SX:Int,∃SW:Int,∃SV:Int,(wv.drew.cell? (((Addr.mk gv 0 none).add 0).add 0)=some (.int .u32 S3)∧wv.drew.cell? (((Addr.mk gv 0 none).add 0).add 1)=some (.int .u32 S2)∧wv.drew.cell? (((Addr.mk gv 0 none).add 0).add 2)=some (.int .u32 S0)∧wv.drew.cell? (((Addr.mk gv 0 none).add 0).add 3)=some (.int .u32 SZ)∧wv.drew.cell? (((Addr.mk gv 0 none).add 0).add 4)=some (.int .u32 SY)∧wv.drew.cell? (((Addr.mk gv 0 none).add 0).add 5)=some (.int .u32 SX)∧wv.drew.cell? (((Addr.mk gv 0 none).add 0).add 6)=some (.int .u32 SW)∧wv.drew.cell? (((Addr.mk gv 0 none).add 0).add 7)=some (.int .u32 SV))∧
     Calls prog 137 #[] wv.drew fun e Jb=>
     ∃SS:Int,∃SR:Int,∃SQ:Int,∃SP:Int,∃SO:Int,∃SM:Int,∃SL:Int,∃SK:Int,e= .returned (.agg #[(.int .u32 SS),(.int .u32 SR),(.int .u32 SQ),(.int .u32 SP),(.int .u32 SO),(.int .u32 SM),(.int .u32 SL),(.int .u32 SK)])∧
     Kept (bM b [0,6,7,8,9]) wv.drew Jb∧∃b1:Nat→Nat→Prop,(∀i k,b i k→b1 i k)∧
     J (!(cf #[(.int .u32 S3),(.int .u32 S2),(.int .u32 S0),(.int .u32 SZ),(.int .u32 SY),(.int .u32 SX),(.int .u32 SW),(.int .u32 SV)] #[(.int .u32 SS),(.int .u32 SR),(.int .u32 SQ),(.int .u32 SP),(.int .u32 SO),(.int .u32 SM),(.int .u32 SL),(.int .u32 SK)])) Jb) (
     J false wv.drew)))∧∀(Ka:Nat→Value)(Lx:Bool),∀Jb,J Lx Jb→
  split Lx (
   R (.tuple #[(.pointer none),(.int .i64 20)]) Jb) (
   ∀waits:Int,waits=(i64.wrap ((n:Int).tmod 16))→
   (0≤(i64.wrap (10+waits):Int)∧(i64.wrap (10+waits):Int)≤((wordsN:Nat):Int))∧
   ∀Nv:Option Addr,Nv=(if wordsC=(Int.toNat (i64.wrap (10+waits)))then wordsA else(wordsA:Option Addr).map (·.add ((Int.toNat (i64.wrap (10+waits)))*1)))→∀LA:Nat,LA=wordsN - (Int.toNat (i64.wrap (10+waits)))→∀N3:Nat,N3=wordsC - (Int.toNat (i64.wrap (10+waits)))→
   ∃I:Nat→Int→World→Prop,(∃m,I m 0 Jb)∧∀(m:Nat)(J8:Nat→Value)(LQ:Int),∀Jc,I m LQ Jc→
   split (decide ((LQ:Int)<((LA:Nat):Int))) (
    (0≤(LQ:Int)∧(LQ:Int)<((LA:Nat):Int))∧
    ar Nv fun p54=>
    ∃R1:Int,Jc.cell? (p54.add (Int.toNat LQ*1))=some (.int .u32 R1)∧
    split ((R1:Int) !=0) (
     R (.tuple #[(.pointer none),(.int .i64 20)]) Jc) (
     ∃m1,m1<m∧I m1 (i64.wrap (LQ+1)) Jc)) (
    (0≤(i64.wrap (10+waits):Int)∧(i64.wrap (10+waits):Int)≤((wordsC:Nat):Int))∧
    (0≤(i64.wrap (10+waits):Int)∧(i64.wrap (10+waits):Int)≤((Int.toNat (i64.wrap (10+waits)):Nat):Int))∧
    (0≤(10:Int)∧(10:Int)≤((Int.toNat (i64.wrap (10+waits)):Nat):Int))∧
    ∀O6:Option Addr,O6=(if(Int.toNat (i64.wrap (10+waits)))=(Int.toNat 10)then wordsA else(wordsA:Option Addr).map (·.add ((Int.toNat 10)*1)))→∀Mm:Nat,Mm=(Int.toNat (i64.wrap (10+waits))) - (Int.toNat 10)→∀O5:Nat,O5=(Int.toNat (i64.wrap (10+waits))) - (Int.toNat 10)→
    ∃RU:Option Addr,∃RR:Nat,∃RT:Nat,∃Ji,(Builtin.append_ #[62,62] 62 #[(.slice none 0 0),(.slice O6 Mm O5)]:Sem Value).run prog Jc= .ok (.slice RU RR RT) Ji∧
    aG Ji ((Addr.mk gv 0 none).add 9) [(.slice RU RR RT)] fun Jq=>
    R (.tuple #[(.pointer (some (Addr.mk gv 0 none))),(.int .i64 0)]) Jq)))
def Ed:Ann:=(.node none .leaf (.node none .leaf (.node none .leaf (.node none .leaf (.node none (.node none (.node (some ⟨[(43,.one (.bool))],[30,31,32,33,34,35,36,37,38,39,40,41,42,43]⟩) .leaf .leaf) .leaf) (.node none .leaf (.node none (.node none .leaf (.node none (.node (some ⟨[(52,.one (.int .i64))],[2,3,8,52,53,54,55,56,57,58]⟩) .leaf .leaf) .leaf)) .leaf)))))))
theorem SLoad_eq(wordsA:Option Addr)(wordsN:Nat)(wordsC:Nat)(R:aD)(w:World):wu wordsA wordsN wordsC R w=vcF prog aP [4,6] Tryz.f70 Ed [(.slice wordsA wordsN wordsC)] R none w:=by kernel_rfl
theorem wx(wordsA:Option Addr)(wordsN:Nat)(wordsC:Nat) {R:aD} {w:World}(h:wu wordsA wordsN wordsC R w):Calls prog 70 #[(.slice wordsA wordsN wordsC)] w fun e w'=>∃v,e= .returned v∧R v w':=
 aj Tryz.func70 aw aa ((SLoad_eq wordsA wordsN wordsC R w).mp h)
end
section
set_option maxRecDepth 100000
def Ar(m:Option Addr)(R:aD)(w:World):Prop:=
 split m.isNone (
  R (.pointer none) w) (
  Calls prog 54 #[(.pointer m)] w fun e wv=>
  ∃x7:Int,e= .returned (.int .i64 x7)∧
  ∃I:Nat→Int→World→Prop,(∃m1,I m1 0 wv)∧∀(m1:Nat)(L5:Nat→Value)(x8:Int),∀Jb,I m1 x8 Jb→
  split (decide ((x8:Int)<x7)) (
   Calls prog 78 #[(.int .i64 x8)] Jb fun e Jc=>
   ∃KO:Bool,∃KU:Int,e= .returned (.agg #[(.bool KO),(.int .i64 KU)])∧
   Calls prog 77 #[(.pointer m),(.agg #[(.bool KO),(.int .i64 KU)])] Jc fun e Ji=>
   ∃Li:Int,e= .returned (.int .i64 Li)∧
   ∃m2,m2<m1∧I m2 (i64.wrap (x8+1)) Ji) (
   Calls prog 54 #[(.pointer m)] Jb fun e Jc=>
   ∃NO:Int,e= .returned (.int .i64 NO)∧
   ∃Oa:Option Addr,∃N8:Nat,∃N9:Nat,∃Ji,(Instr.makeSlice 62 (.int .i64 (i64.wrap (2*NO))) (.int .i64 (i64.wrap (2*NO))):Sem Value).run prog Jc= .ok (.slice Oa N8 N9) Ji∧
   ∀(Jj:Nat)(Jq:World),Jj=Ji.heap.size→Jq=Ji.alloc (.cells #[(.pointer m),(.int .i64 0),(.slice Oa N8 N9)] 110)→
   R (.pointer (some (Addr.mk Jj 0 none))) Jq))
def Gi:Ann:=(.node none .leaf (.node none .leaf (.node none (.node none .leaf (.node none (.node (some ⟨[(8,.one (.int .i64))],[3,8,9,10,11,12,13,14,15]⟩) .leaf .leaf) .leaf)) .leaf)))
theorem DNew_eq(m:Option Addr)(R:aD)(w:World):Ar m R w=vcF prog aP [] Tryz.f29 Gi [(.pointer m)] R none w:=by kernel_rfl
theorem zl(m:Option Addr) {R:aD} {w:World}(h:Ar m R w):Calls prog 29 #[(.pointer m)] w fun e w'=>∃v,e= .returned v∧R v w':=
 aj Tryz.func29 aw aa ((DNew_eq m R w).mp h)
def sV(d:Option Addr)(R:aD)(w:World):Prop:=
 ar d fun p5=>
 ∃Qr:Option Addr,∃O4:Nat,∃Qq:Nat,w.cell? (p5.add 2)=some (.slice Qr O4 Qq)∧
 ∃Ox:Option Addr,∃Ow:Nat,∃Ph:Nat,∃wv,(Instr.makeSlice 62 (.int .i64 (i64.wrap (1+((O4:Nat):Int)))) (.int .i64 (i64.wrap (1+((O4:Nat):Int)))):Sem Value).run prog w= .ok (.slice Ox Ow Ph) wv∧
 ar d fun Ug=>
 ∃Mv:Int,wv.cell? (Ug.add 1)=some (.int .i64 Mv)∧
 (0≤(0:Int)∧(0:Int)<((Ow:Nat):Int))∧
 ar Ox fun p17=>
 aG wv (p17.add (Int.toNat 0*1)) [(.int .u32 (u32.wrap Mv))] fun Jb=>
 ∃b:Nat→Nat→Prop,
 (0≤(1:Int)∧(1:Int)≤((Ow:Nat):Int))∧
 ∀Od:Option Addr,Od=(if Ph=(Int.toNat 1)then Ox else(Ox:Option Addr).map (·.add ((Int.toNat 1)*1)))→∀Ob:Nat,Ob=Ow - (Int.toNat 1)→∀Oc:Nat,Oc=Ph - (Int.toNat 1)→
 ar d fun OA=>
 b 5 ((OA.add 2).block)∧
 ∃L8:Option Addr,∃L7:Nat,∃Mt:Nat,Jb.drew.cell? (OA.add 2)=some (.slice L8 L7 Mt)∧
 ∃MP:Int,∃Jc,(Builtin.copy_ #[62,62] 3 #[(.slice Od Ob Oc),(.slice L8 L7 Mt)]:Sem Value).run prog Jb.drew= .ok (.int .i64 MP) Jc∧
 Kept (bM b [2]) Jb.drew Jc∧∃b1:Nat→Nat→Prop,(∀i k,b i k→b1 i k)∧
 R (.slice Ox Ow Ph) Jc
def B3:Ann:= .leaf
theorem DWords_eq(d:Option Addr)(R:aD)(w:World):sV d R w=vcF prog aP [] Tryz.f52 B3 [(.pointer d)] R none w:=by kernel_rfl
theorem uG(d:Option Addr) {R:aD} {w:World}(h:sV d R w):Calls prog 52 #[(.pointer d)] w fun e w'=>∃v,e= .returned v∧R v w':=
 aj Tryz.func52 aw aa ((DWords_eq d R w).mp h)
end
section
set_option maxRecDepth 100000
def xK(m:Option Addr)(wordsA:Option Addr)(wordsN:Nat)(wordsC:Nat)(R:aD)(w:World):Prop:=
 ∃J:Bool→World→Prop,(
  split m.isNone (
   J true w) (
   Calls prog 54 #[(.pointer m)] w fun e wv=>
   ∃J6:Int,e= .returned (.int .i64 J6)∧
   split ((((wordsN:Nat):Int):Int) !=(i64.wrap (1+(i64.wrap (2*J6))))) (
    J true wv) (
    (0≤(0:Int)∧(0:Int)<((wordsN:Nat):Int))∧
    ar wordsA fun Ro=>
    ∃MP:Int,wv.cell? (Ro.add (Int.toNat 0*1))=some (.int .u32 MP)∧
    J (decide ((MP:Int)>64)) wv)))∧∀(L5:Nat→Value)(Ms:Bool),∀wv,J Ms wv→
 split Ms (
  R (.tuple #[(.pointer none),(.int .i64 110)]) wv) (
  ∃b:Nat→Nat→Prop,
  (0≤(0:Int)∧(0:Int)<((wordsN:Nat):Int))∧
  ar wordsA fun OU=>
  b 3 ((OU.add (Int.toNat 0*1)).block)∧
  ∃KN:Int,wv.drew.cell? (OU.add (Int.toNat 0*1))=some (.int .u32 KN)∧
  ∃Tk:Option Addr,∃Ti:Nat,∃Tj:Nat,∃Jb,(Instr.makeSlice 62 (.int .i64 (i64.wrap (((wordsN:Nat):Int) - 1))) (.int .i64 (i64.wrap (((wordsN:Nat):Int) - 1))):Sem Value).run prog wv.drew= .ok (.slice Tk Ti Tj) Jb∧
  Kept (bM b [0,1,2,3,4]) wv.drew Jb∧∃b1:Nat→Nat→Prop,(∀i k,b i k→b1 i k)∧
  ∀(Jj:Nat)(Jc:World),Jj=Jb.heap.size→Jc=Jb.alloc (.cells #[(.pointer m),(.int .i64 (i64.wrap KN)),(.slice Tk Ti Tj)] 110)→
  Kept (bM b1 [1,2,5,6]) Jb Jc∧∃b2:Nat→Nat→Prop,(∀i k,b1 i k→b2 i k)∧
  ∃b3:Nat→Nat→Prop,
  b3 3 (((Addr.mk Jj 0 none).add 2).block)∧
  ∃SJ:Option Addr,∃SH:Nat,∃SI:Nat,Jc.drew.cell? ((Addr.mk Jj 0 none).add 2)=some (.slice SJ SH SI)∧
  (0≤(1:Int)∧(1:Int)≤((wordsN:Nat):Int))∧
  ∀Ny:Option Addr,Ny=(if wordsC=(Int.toNat 1)then wordsA else(wordsA:Option Addr).map (·.add ((Int.toNat 1)*1)))→∀Nw:Nat,Nw=wordsN - (Int.toNat 1)→∀Nx:Nat,Nx=wordsC - (Int.toNat 1)→
  ∃Vo:Int,∃Ji,(Builtin.copy_ #[62,62] 3 #[(.slice SJ SH SI),(.slice Ny Nw Nx)]:Sem Value).run prog Jc.drew= .ok (.int .i64 Vo) Ji∧
  Kept (bM b3 [0]) Jc.drew Ji∧∃b4:Nat→Nat→Prop,(∀i k,b3 i k→b4 i k)∧
  Calls prog 120 #[(.pointer (some (Addr.mk Jj 0 none)))] Ji fun e Jq=>
  ∃SF:Int,e= .returned (.int .i64 SF)∧
  ∃I:Nat→Int→World→Prop,(∃m1,I m1 0 Jq)∧∀(m1:Nat)(J8:Nat→Value)(MX:Int),∀JP,I m1 MX JP→
  split (decide ((MX:Int)<SF)) (
   ∃Qu:Option Addr,∃Qs:Nat,∃Qt:Nat,JP.cell? ((Addr.mk Jj 0 none).add 2)=some (.slice Qu Qs Qt)∧
   (0≤(i64.wrap (2*MX):Int)∧(i64.wrap (2*MX):Int)≤((Qs:Nat):Int))∧
   ∀N2:Option Addr,N2=(if Qt=(Int.toNat (i64.wrap (2*MX)))then Qu else(Qu:Option Addr).map (·.add ((Int.toNat (i64.wrap (2*MX)))*1)))→∀N1:Nat,N1=Qs - (Int.toNat (i64.wrap (2*MX)))→∀O7:Nat,O7=Qt - (Int.toNat (i64.wrap (2*MX)))→
   2≤N1∧
   ar N2 fun p59=>
   ∃RZ:Int,∃RY:Int,(JP.cell? (p59.add 0)=some (.int .u32 RZ)∧JP.cell? (p59.add 1)=some (.int .u32 RY))∧
   Calls prog 121 #[(.agg #[(.int .u32 RZ),(.int .u32 RY)])] JP fun e J0=>
   ∃x60aa:Int,∃x60ab:Int,∃x60ac:Int,∃x60ad:Int,∃x60ae:Bool,∃RX:Int,e= .returned (.tuple #[(.agg #[(.int .i64 x60aa),(.int .i64 x60ab),(.int .i64 x60ac),(.int .i64 x60ad),(.bool x60ae)]),(.int .i64 RX)])∧
   ∀(Ju:Nat)(JU:World),Ju=J0.heap.size→JU=J0.alloc (.cells (#[(.int .i64 0),(.int .i64 0),(.int .i64 0),(.int .i64 0),(.bool false)]) 50)→
   aG JU (Addr.mk Ju 0 none) [(.int .i64 x60aa),(.int .i64 x60ab),(.int .i64 x60ac),(.int .i64 x60ad),(.bool x60ae)] fun JN=>
   ∃J1:Bool→World→Prop,(
    split ((RX:Int) !=0) (
     J1 true JN) (
     ∃x68:Int,JN.cell? ((Addr.mk Ju 0 none).add 1)=some (.int .i64 x68)∧
     Calls prog 57 #[(.pointer (some (Addr.mk Jj 0 none))),(.int .i64 x68)] JN fun e K7=>
     ∃RQ:Bool,e= .returned (.bool RQ)∧
     J1 (!RQ) K7))∧∀(J9:Nat→Value)(Nu:Bool),∀K7,J1 Nu K7→
   split Nu (
    R (.tuple #[(.pointer none),(.int .i64 110)]) K7) (
    ∃m2,m2<m1∧I m2 (i64.wrap (MX+1)) K7)) (
   R (.tuple #[(.pointer (some (Addr.mk Jj 0 none))),(.int .i64 0)]) JP))
def EJ:Ann:=(.node none .leaf (.node none (.node none (.node (some ⟨[(26,.one (.bool))],[10,11,12,13,14,15,16,17,18,19,20,21,22,23,24,25,26]⟩) .leaf .leaf) .leaf) (.node none .leaf (.node none .leaf (.node none (.node none .leaf (.node none (.node (some ⟨[(47,.one (.int .i64))],[4,5,7,8,9,47,48,49,50,51,52,53,54,55,56,57,58,59,60,61,62,63,64,65,66,67,68,69,70,71,72]⟩) (.node none .leaf (.node none .leaf (.node none (.node none (.node none .leaf (.node none .leaf (.node none (.node (some ⟨[(71,.one (.bool))],[63,64,65,66,67,68,69,70,71]⟩) .leaf .leaf) .leaf))) .leaf) .leaf))) .leaf) .leaf)) .leaf)))))
theorem DLoad_eq(m:Option Addr)(wordsA:Option Addr)(wordsN:Nat)(wordsC:Nat)(R:aD)(w:World):xK m wordsA wordsN wordsC R w=vcF prog aP [] Tryz.f50 EJ [(.pointer m),(.slice wordsA wordsN wordsC)] R none w:=by kernel_rfl
theorem xL(m:Option Addr)(wordsA:Option Addr)(wordsN:Nat)(wordsC:Nat) {R:aD} {w:World}(h:xK m wordsA wordsN wordsC R w):Calls prog 50 #[(.pointer m),(.slice wordsA wordsN wordsC)] w fun e w'=>∃v,e= .returned v∧R v w':=
 aj Tryz.func50 aw aa ((DLoad_eq m wordsA wordsN wordsC R w).mp h)
def sZ(d:Option Addr)(R:aD)(w:World):Prop:=
 ∃b:Nat→Nat→Prop,
 ar d fun p5=>
 b 3 ((p5.add 0).block)∧
 ∃x7:Option Addr,w.drew.cell? (p5.add 0)=some (.pointer x7)∧
 ar d fun Uh=>
 b 8 ((Uh.add 1).block)∧
 ∃K6:Int,w.drew.cell? (Uh.add 1)=some (.int .i64 K6)∧
 ar d fun OX=>
 b 12 ((OX.add 2).block)∧
 ∃Of:Option Addr,∃L9:Nat,∃Oe:Nat,w.drew.cell? (OX.add 2)=some (.slice Of L9 Oe)∧
 (Calls prog 51 #[(.pointer x7)] w.drew fun e wv=>
  ∃x8:Option Addr,e= .returned (.pointer x8)∧
  Kept (bM b [0,5,6,7,8,9,10,11,12,13]) w.drew wv∧∃b1:Nat→Nat→Prop,(∀i k,b i k→b1 i k)∧
  ∃Lp:Option Addr,∃Ln:Nat,∃Lo:Nat,∃Jb,(Instr.makeSlice 62 (.int .i64 ((L9:Nat):Int)) (.int .i64 ((L9:Nat):Int)):Sem Value).run prog wv= .ok (.slice Lp Ln Lo) Jb∧
  Kept (bM b1 [0,1,2,3,4,5,6,7,8,9,10]) wv Jb∧∃b2:Nat→Nat→Prop,(∀i k,b1 i k→b2 i k)∧
  ∀(gv:Nat)(Jc:World),gv=Jb.heap.size→Jc=Jb.alloc (.cells #[(.pointer x8),(.int .i64 K6),(.slice Lp Ln Lo)] 110)→
  Kept (bM b2 [0,1,2,5,6,9,10,11,12]) Jb Jc∧∃b3:Nat→Nat→Prop,(∀i k,b2 i k→b3 i k)∧
  ∃b4:Nat→Nat→Prop,
  b4 3 (((Addr.mk gv 0 none).add 2).block)∧
  ∃LH:Option Addr,∃LF:Nat,∃LG:Nat,Jc.drew.cell? ((Addr.mk gv 0 none).add 2)=some (.slice LH LF LG)∧
  ar d fun M3=>
  b4 7 ((M3.add 2).block)∧
  ∃LD:Option Addr,∃LB:Nat,∃LC:Nat,Jc.drew.cell? (M3.add 2)=some (.slice LD LB LC)∧
  ∃L6:Int,∃Ji,(Builtin.copy_ #[62,62] 3 #[(.slice LH LF LG),(.slice LD LB LC)]:Sem Value).run prog Jc.drew= .ok (.int .i64 L6) Ji∧
  Kept (bM b4 [0,4]) Jc.drew Ji∧∃b5:Nat→Nat→Prop,(∀i k,b4 i k→b5 i k)∧
  R (.pointer (some (Addr.mk gv 0 none))) Ji)∧
 (∃Lp:Option Addr,∃Ln:Nat,∃Lo:Nat,∃wv,(Instr.makeSlice 62 (.int .i64 ((L9:Nat):Int)) (.int .i64 ((L9:Nat):Int)):Sem Value).run prog w.drew= .ok (.slice Lp Ln Lo) wv∧
  Kept (bM b [0,1,2,3,5,6,7,8,9,10]) w.drew wv∧∃b1:Nat→Nat→Prop,(∀i k,b i k→b1 i k)∧
  Calls prog 51 #[(.pointer x7)] wv fun e Jb=>
  ∃x8:Option Addr,e= .returned (.pointer x8)∧
  Kept (bM b1 [0,5,6,7,8,9,10,11,12,13,14]) wv Jb∧∃b2:Nat→Nat→Prop,(∀i k,b1 i k→b2 i k)∧
  ∀(gv:Nat)(Jc:World),gv=Jb.heap.size→Jc=Jb.alloc (.cells #[(.pointer x8),(.int .i64 K6),(.slice Lp Ln Lo)] 110)→
  Kept (bM b2 [0,1,2,5,6,9,10,11,12]) Jb Jc∧∃b3:Nat→Nat→Prop,(∀i k,b2 i k→b3 i k)∧
  ∃b4:Nat→Nat→Prop,
  b4 3 (((Addr.mk gv 0 none).add 2).block)∧
  ∃LH:Option Addr,∃LF:Nat,∃LG:Nat,Jc.drew.cell? ((Addr.mk gv 0 none).add 2)=some (.slice LH LF LG)∧
  ar d fun M3=>
  b4 7 ((M3.add 2).block)∧
  ∃LD:Option Addr,∃LB:Nat,∃LC:Nat,Jc.drew.cell? (M3.add 2)=some (.slice LD LB LC)∧
  ∃L6:Int,∃Ji,(Builtin.copy_ #[62,62] 3 #[(.slice LH LF LG),(.slice LD LB LC)]:Sem Value).run prog Jc.drew= .ok (.int .i64 L6) Ji∧
  Kept (bM b4 [0,4]) Jc.drew Ji∧∃b5:Nat→Nat→Prop,(∀i k,b4 i k→b5 i k)∧
  R (.pointer (some (Addr.mk gv 0 none))) Ji)
def B7:Ann:= .leaf
theorem DClone_eq(d:Option Addr)(R:aD)(w:World):sZ d R w=vcF prog aP [] Tryz.f17 B7 [(.pointer d)] R none w:=by kernel_rfl
theorem uL(d:Option Addr) {R:aD} {w:World}(h:sZ d R w):Calls prog 17 #[(.pointer d)] w fun e w'=>∃v,e= .returned v∧R v w':=
 aj Tryz.func17 aw aa ((DClone_eq d R w).mp h)
end
end Go.Proofs.YtinhphjfnedhgaaGreatDoor
namespace Go.Proofs.YtinhphjfnedhgaaGreatDoor
open Go.Proofs.Tryz (prog)
open Go Go.RowKit V
open Go.IntKind (i64 u32 u64)
namespace Mem
def dD(m:Mem):Nat→Mem
 | 0=>m
 | k+1=>(dD m k).zero true k
theorem GF(m:Mem)(s:Bool)(p:Int):(m.zero s p).S=m.S:=by unfold zero;split<;>rfl
theorem GG(m:Mem)(s:Bool)(p:Int):(m.zero s p).I=m.I:=by unfold zero;split<;>rfl
@[simp] theorem l5(m:Mem):∀k,(m.dD k).S=m.S
 | 0=>rfl
 | k+1=>by rw [dD,GF,l5 m k]
@[simp] theorem EU(m:Mem):∀k,(m.dD k).I=m.I
 | 0=>rfl
 | k+1=>by rw [dD,GG,EU m k]
theorem xU(m:Mem) {p:Int}(h:0≤p∧p<9000000000000000000):m.dD (i64.wrap (p+1)).toNat=(m.dD p.toNat).zero true p:=by
 rw [ax (by omega),show(p+1).toNat=p.toNat+1 by omega,dD,show((p.toNat:Nat):Int)=p by omega]
end Mem
def DB.new(m:Mem):DB:=⟨m.dD m.S,0,fun _=>.free⟩
theorem DB.Gr(m:Mem):(DB.new m).S=m.S:=m.l5 _
theorem DB.km(m:Mem)(h:1≤m.S):(DB.new m).Ok:=⟨fun p hp=>⟨Ent.tK,by show(0:Int)<((DB.new m).S:Nat);rw [DB.Gr];omega⟩,by show(0:Int)≤0∧(0:Int)≤64;omega⟩
def DB.ws(D:DB):List Int:=(List.range D.S).flatMap fun p=>[(D.ent p).w0,(D.ent p).w1]
theorem mf {α:Type}(f g:Nat→α):∀n,((List.range n).flatMap fun p=>[f p,g p]).length=2*n
 | 0=>rfl
 | n+1=>by rw [List.range_succ,List.flatMap_append,List.length_append,mf f g n];simp;omega
theorem kV {α:Type}(f g:Nat→α):∀n i,i<2*n→((List.range n).flatMap fun p=>[f p,g p])[i]? =some (if i % 2=0 then f (i / 2)else g (i / 2))
 | 0,i,h=>by omega
 | n+1,i,h=>by
  rw [List.range_succ,List.flatMap_append]
  by_cases hi:i<2*n
  ·rw [List.getElem?_append_left (by rw [mf];exact hi),kV f g n i hi]
  ·rw [List.getElem?_append_right (by rw [mf];omega),mf]
   by_cases h2:i=2*n
   ·subst h2
    have e1:2*n % 2=0:=by omega
    have e2:2*n / 2=n:=by omega
    simp [e1,e2]
   ·have:i=2*n+1:=by omega
    subst this
    have e1:(2*n+1) % 2=1:=by omega
    have e2:(2*n+1) / 2=n:=by omega
    simp [e1,e2]
theorem DB.gn(D:DB):D.ws.length=2*D.S:=mf _ _ _
theorem DB.words_eq(D:DB):D.words=D.aE::D.ws:=rfl
theorem DBP.ints {w:World} {L:fg} {D:DB}(h:DBP w L D):cP w (fun k=>k=L.a) .u32 (some (Addr.mk L.a 0 none)) D.n2 D.n2 D.ws:=by
 obtain⟨T,cs,hb,hs,hc⟩:=h.ws
 refine cP.blk (Z:=fun k=>k=L.a) (m:=0) hb rfl (Nat.le_refl _) (D.gn) fun j x hj=>?_
 have MD:j<2*D.S:=by rw [← D.gn];exact(List.getElem?_eq_some_iff.1 hj).1
 have h2:=kV (fun p=>(D.ent p).w0) (fun p=>(D.ent p).w1) D.S j MD
 have h3:D.ws[j]? =_:=h2
 rw [hj]at h3
 injection h3 with h3
 have hp:=hc (j / 2) (by omega)
 rw [Nat.zero_add,h3]
 split
 ·have:=hp.1
  rwa [show 2*(j / 2)=j by omega]at this
 ·have:=hp.2
  rwa [show 2*(j / 2)+1=j by omega]at this
theorem DB.lay {D:DB} {n:Nat}(hn:n=1+2*D.S):iu ((List.replicate n 0).set 0 D.aE) 1 (D.ws.take (min (2*D.S) (n - 1)))=D.words:=by
 subst hn
 rw [List.take_of_length_le (by rw [D.gn];omega),show 1+2*D.S=(2*D.S)+1 by omega,List.replicate_succ,List.set_cons_zero]
 have:=pL [D.aE] D.ws [] (List.replicate (2*D.S) 0) (by rw [D.gn];simp)
 simpa [D.words_eq]using this
theorem DB.cC(D:DB):D.words.length=1+2*D.S:=by rw [D.words_eq,List.length_cons,D.gn];omega
def DB.G1(D:DB)(s:Int)(n:Nat):List I64:=((List.range n).filter (D.dy s)).map fun(p:Nat)=>I64.mk (p:Int)
def DB.wd(l:List U32)(i:Nat):Int:=(l.getD i ⟨0⟩).v
def DB.load(m:Mem)(l:List U32):DB:=⟨m,DB.wd l 0,fun p=>Ent.dec (DB.wd l (1+2*p)) (DB.wd l (2+2*p))⟩
def DB.j3(m:Mem)(l:List U32)(p:Nat):Bool:=Ent.eI (DB.wd l (1+2*p)) (DB.wd l (2+2*p))==0 && decide ((Ent.dec (DB.wd l (1+2*p)) (DB.wd l (2+2*p))).owner<m.S)
def DB.ao(m:Mem)(l:List U32):Int:=
 if l.length≠1+2*m.S then 110 else if DB.wd l 0>64 then 110 else if(List.range m.S).all (DB.j3 m l)then 0 else 110
theorem DB.Fm {m:Mem} {l:List U32}(hw:∀x∈l,0≤x.v∧x.v<4294967296)(h:DB.ao m l=0):(DB.load m l).Ok:=by
 unfold DB.ao at h
 split at h
 ·omega
 rename_i h1
 split at h
 ·omega
 rename_i h2
 split at h
 ·rename_i h3
  refine⟨fun p hp=>?_,?_⟩
  ·have hq:=List.all_eq_true.1 h3 p (List.mem_range.2 hp)
   simp only [DB.j3,Bool.and_eq_true,beq_iff_eq,decide_eq_true_eq]at hq
   exact⟨(Ent.gz hq.1).1,hq.2⟩
  ·have h0:0<l.length:=by omega
   have:=hw _ (List.getElem_mem h0)
   have e:DB.wd l 0=l[0].v:=by unfold DB.wd;rw [List.getD_eq_getElem?_getD,List.getElem?_eq_getElem h0];rfl
   show 0≤DB.wd l 0∧DB.wd l 0≤64
   rw [e]at h2 ⊢
   omega
 ·omega
theorem zK {n:Nat} {v:Value} {i:Nat}(h:i<n):(Array.replicate n v)[i]? =some v:=by simp [h]
section
set_option maxRecDepth 10000
set_option maxHeartbeats 1000000
theorem mq:S1 prog 62 29 (.int .u32 0) 4:=S1.of (by kernel_rfl) (by kernel_rfl) rfl
theorem zG:SN prog 62 29 (.int .u32 0) 1 4:=mq.sn
theorem nW {w:World}(x:Int)(k:Int)(hk: -31≤k∧k≤ -1):
 Calls prog 200 #[(.int .u32 x),(.int .i64 k)] w fun e w'=>∃v,e= .returned v∧v= .int .u32 (mu x (-k))∧Pu w w':=by
 refine jX _ _ ?_
 have hs:=HR hk
 have hp:=Ch.refl (fun _=>False) w
 rintro _ rfl
 refine pI (by(rw [hs];omega)) (pI (by(rw [IntKind.wrap_u64];omega)) ?_)
 exact⟨congrArg (Value.int .u32) (by rw [hs];exact rot_eq hk),hp⟩
theorem iM {w:World}(wv:Int)(n:Int)(hn:1≤n∧n≤31):
 Calls prog 193 #[(.int .u32 wv),(.int .i64 n)] w fun e w'=>∃v,e= .returned v∧v= .int .u32 (mu wv n)∧Pu w w':=by
 refine uc _ _ ?_
 have e0:i64.wrap (0 - n)= -n:=by rw [ax (by omega)];omega
 have hp:=Ch.refl (fun _=>False) w
 refine Calls.mono (nW _ _ (by rw [e0];omega)) ?_
 rintro e Jb ⟨_,rfl,rfl,Jf⟩
 refine⟨_,rfl,?_⟩
 have hp:=Ch.pu hp Jf
 exact⟨congrArg (Value.int .u32) (by rw [e0,Int.neg_neg]),hp⟩
theorem AK {w:World}(blocka:Int)(blockb:Int)(blockc:Int)(blockd:Int)(blocke:Int)(blockf:Int)(blockg:Int)(blockh:Int)(blocki:Int)(blockj:Int)(blockk:Int)(blockl:Int)(blockm:Int)(blockn:Int)(blocko:Int)(blockp:Int):
 Calls prog 192 #[(.agg #[(.int .u32 blocka),(.int .u32 blockb),(.int .u32 blockc),(.int .u32 blockd),(.int .u32 blocke),(.int .u32 blockf),(.int .u32 blockg),(.int .u32 blockh),(.int .u32 blocki),(.int .u32 blockj),(.int .u32 blockk),(.int .u32 blockl),(.int .u32 blockm),(.int .u32 blockn),(.int .u32 blocko),(.int .u32 blockp)])] w fun e w'=>∃v,e= .returned v∧v= .agg (bu (ah [blocka,blockb,blockc,blockd,blocke,blockf,blockg,blockh,blocki,blockj,blockk,blockl,blockm,blockn,blocko,blockp] 48))∧Pu w w':=by
 refine oJ _ _ _ _ _ _ _ _ _ _ _ _ _ _ _ _ ?_
 obtain⟨bb,Lw⟩:∃bb,bb= [blocka,blockb,blockc,blockd,blocke,blockf,blockg,blockh,blocki,blockj,blockk,blockl,blockm,blockn,blocko,blockp]:=⟨_,rfl⟩
 have hB:bb.length=16:=by rw [Lw];rfl
 have hp:=Ch.refl (fun _=>False) w
 refine mkd fun gv wv Jh=>?_
 have I7:=Jh.blk
 have hp:=Ch.made hp Jh
 refine mkd fun Jj Jb Jz=>?_
 have KB:=Jz.lo hp
 have Ku:=Jz.ne I7
 have Ja:Blk Jb Jj (bu (List.replicate 64 0)) _:=Jz.blk.cast (fi _ _)
 have hp:=Ch.made hp Jz
 have I7:=Made.old Jz I7
 refine mkd fun Kz Jc Kc=>?_
 have Mc:=Kc.lo hp
 have Lf:=Kc.ne I7
 have ne_gv1_gv2:=Kc.ne Ja
 have Jd:Blk Jc Kz (bu (List.replicate 64 0)) _:=Kc.blk.cast (fi _ _)
 refine⟨bXU [] [] Jc.drew (fun _=>False),?_⟩
 rintro _ rfl _ rfl _ rfl
 rintro _ rfl _ rfl _ rfl
 have Jd:=Blk.drew Jd
 have I7:=Blk.drew (Made.old Kc I7)
 have I7:Blk Jc.drew gv (bu [blocka,blockb,blockc,blockd,blocke,blockf,blockg,blockh,blocki,blockj,blockk,blockl,blockm,blockn,blocko,blockp]) _:=I7.cast (by rfl)
 refine mP mq Jd (o:=0) rfl (by(simp;done)) (cP.IP (Z:=fun _=>True) I7 trivial rfl (by(simp;done)) (by(simp;done)) (by(simp;done))) (by(simp;done)) fun Ji Jn=>?_
 have Jd:=Jn.blk
 refine bXU.grow Jn.ch ?_
 rintro _ rfl
 have hp:=Ch.call (Ch.drew (Ch.made hp Kc)) Jn.ch (by exact fun k e=>.inr (e▸Mc))
 have I7:=Ch.blk Jn.ch I7 (Lf)
 have Ja:=Ch.blk Jn.ch (Blk.drew (Made.old Kc Ja)) (ne_gv1_gv2)
 refine⟨fun mz t1 W=>mz=(64 - t1).toNat∧(16≤t1∧t1≤64)∧Ch (fun _=>False) w W∧Blk W gv (bu ([blocka,blockb,blockc,blockd,blocke,blockf,blockg,blockh,blocki,blockj,blockk,blockl,blockm,blockn,blocko,blockp])) 262∧Blk W Jj (bu (List.replicate 64 0)) 287∧Blk W Kz (bu (ah bb (t1.toNat - 16))) 287,⟨_,rfl,(by omega),hp,I7,Ja,Jd.cast (congrArg bu (by subst Lw;rfl))⟩,?_⟩
 rintro _ _ t1 Jq ⟨rfl,h0,hp,I7,Ja,Jd⟩
 refine aq (fun c1=>?_) (fun c1=>?_)
 ·refine⟨by(simp only [IntKind.wrap_i64];omega),?_⟩
  have Jd:=Blk.drew Jd
  refine⟨_,Jd.pU (i:=(i64.wrap (t1 - 15))) (by(rw [cJ hB];simp only [IntKind.wrap_i64];omega)),⟨by(simp only [IntKind.wrap_i64];omega),⟨_,Jd.pU (i:=(i64.wrap (t1 - 2))) (by(rw [cJ hB];simp only [IntKind.wrap_i64];omega)),?_⟩⟩⟩
  refine⟨bXU [4,17] [] Jq.drew.drew (fun _=>False),?_⟩
  have Jd:=Blk.drew Jd
  refine⟨by(simp only [IntKind.wrap_i64];omega),⟨.inr ⟨by decide,bX.ld Jd (fun h=>h) _⟩,_,Jd.pU (i:=(i64.wrap (t1 - 16))) (by(rw [cJ hB];simp only [IntKind.wrap_i64];omega)),⟨by(simp only [IntKind.wrap_i64];omega),⟨.inr ⟨by decide,bX.ld Jd (fun h=>h) _⟩,_,Jd.pU (i:=(i64.wrap (t1 - 7))) (by(rw [cJ hB];simp only [IntKind.wrap_i64];omega)),?_⟩⟩⟩⟩
  refine Calls.mono (iM _ _ (by omega)) ?_
  rintro e JP ⟨_,rfl,rfl,JL⟩
  refine⟨_,rfl,?_⟩
  refine bXU.fC JL (by decide) ?_
  refine Calls.mono (iM _ _ (by omega)) ?_
  rintro e J0 ⟨_,rfl,rfl,JK⟩
  refine⟨_,rfl,?_⟩
  refine bXU.fC JK (by decide) ?_
  refine Calls.mono (iM _ _ (by omega)) ?_
  rintro e JU ⟨_,rfl,rfl,JH⟩
  refine⟨_,rfl,?_⟩
  refine bXU.fC JH (by decide) ?_
  refine Calls.mono (iM _ _ (by omega)) ?_
  rintro e JN ⟨_,rfl,rfl,JG⟩
  refine⟨_,rfl,?_⟩
  refine bXU.fC JG (by decide) ?_
  have Jd:=Pu.blk JG (Pu.blk JH (Pu.blk JK (Pu.blk JL Jd)))
  refine⟨by omega,ya Jd (by(rw [cJ hB];omega)) fun K7 My=>?_⟩
  have Jd:=My.blk
  refine bXU.grow My.ch ?_
  rintro _ rfl
  have hp:=Ch.call (Ch.pu (Ch.pu (Ch.pu (Ch.pu (Ch.drew (Ch.drew hp)) JL) JK) JH) JG) My.ch (by exact fun k e=>.inr (e▸Mc))
  have I7:=Ch.blk My.ch (Pu.blk JG (Pu.blk JH (Pu.blk JK (Pu.blk JL (Blk.drew (Blk.drew I7)))))) (Lf)
  have Ja:=Ch.blk My.ch (Pu.blk JG (Pu.blk JH (Pu.blk JK (Pu.blk JL (Blk.drew (Blk.drew Ja)))))) (ne_gv1_gv2)
  exact⟨_,by rw [IntKind.wrap_i64];omega,rfl,by rw [IntKind.wrap_i64];omega,hp,I7,Ja,Jd.cast (congrArg bu (by exact u6 (by omega)))⟩
 ·refine⟨bu (ah bb (t1.toNat - 16)),Jd.tl (by(simp [cJ hB];done)),⟨by rw [eB];(simp [cJ hB];done),mr,nC Ja (by(simp [cJ hB];done)) fun JP KP=>?_⟩⟩
  have Ja:=KP.blk
  refine⟨bu (ah bb (t1.toNat - 16)),Ja.tl (by(simp [cJ hB];done)),?_⟩
  have hp:=Ch.call hp KP.ch (by exact fun k e=>.inr (e▸KB))
  exact⟨congrArg (fun l=>Value.agg (bu l)) (by have:t1=64:=(by omega);subst this;rw [← Lw];rfl),hp⟩
theorem GR {K:List Int} {w:World}(hk:ln w 0 K)(statea:Int)(stateb:Int)(statec:Int)(stated:Int)(statee:Int)(statef:Int)(stateg:Int)(stateh:Int)(blocka:Int)(blockb:Int)(blockc:Int)(blockd:Int)(blocke:Int)(blockf:Int)(blockg:Int)(blockh:Int)(blocki:Int)(blockj:Int)(blockk:Int)(blockl:Int)(blockm:Int)(blockn:Int)(blocko:Int)(blockp:Int):
 Calls prog 175 #[(.agg #[(.int .u32 statea),(.int .u32 stateb),(.int .u32 statec),(.int .u32 stated),(.int .u32 statee),(.int .u32 statef),(.int .u32 stateg),(.int .u32 stateh)]),(.agg #[(.int .u32 blocka),(.int .u32 blockb),(.int .u32 blockc),(.int .u32 blockd),(.int .u32 blocke),(.int .u32 blockf),(.int .u32 blockg),(.int .u32 blockh),(.int .u32 blocki),(.int .u32 blockj),(.int .u32 blockk),(.int .u32 blockl),(.int .u32 blockm),(.int .u32 blockn),(.int .u32 blocko),(.int .u32 blockp)])] w fun e w'=>∃v,e= .returned v∧v= .agg #[(.int .u32 ((ji K (S8.mk statea stateb statec stated statee statef stateg stateh) [blocka,blockb,blockc,blockd,blocke,blockf,blockg,blockh,blocki,blockj,blockk,blockl,blockm,blockn,blocko,blockp]).a)),(.int .u32 ((ji K (S8.mk statea stateb statec stated statee statef stateg stateh) [blocka,blockb,blockc,blockd,blocke,blockf,blockg,blockh,blocki,blockj,blockk,blockl,blockm,blockn,blocko,blockp]).b)),(.int .u32 ((ji K (S8.mk statea stateb statec stated statee statef stateg stateh) [blocka,blockb,blockc,blockd,blocke,blockf,blockg,blockh,blocki,blockj,blockk,blockl,blockm,blockn,blocko,blockp]).c)),(.int .u32 ((ji K (S8.mk statea stateb statec stated statee statef stateg stateh) [blocka,blockb,blockc,blockd,blocke,blockf,blockg,blockh,blocki,blockj,blockk,blockl,blockm,blockn,blocko,blockp]).d)),(.int .u32 ((ji K (S8.mk statea stateb statec stated statee statef stateg stateh) [blocka,blockb,blockc,blockd,blocke,blockf,blockg,blockh,blocki,blockj,blockk,blockl,blockm,blockn,blocko,blockp]).e)),(.int .u32 ((ji K (S8.mk statea stateb statec stated statee statef stateg stateh) [blocka,blockb,blockc,blockd,blocke,blockf,blockg,blockh,blocki,blockj,blockk,blockl,blockm,blockn,blocko,blockp]).f)),(.int .u32 ((ji K (S8.mk statea stateb statec stated statee statef stateg stateh) [blocka,blockb,blockc,blockd,blocke,blockf,blockg,blockh,blocki,blockj,blockk,blockl,blockm,blockn,blocko,blockp]).g)),(.int .u32 ((ji K (S8.mk statea stateb statec stated statee statef stateg stateh) [blocka,blockb,blockc,blockd,blocke,blockf,blockg,blockh,blocki,blockj,blockk,blockl,blockm,blockn,blocko,blockp]).h))]∧Pu w w':=by
 refine uf _ _ _ _ _ _ _ _ _ _ _ _ _ _ _ _ _ _ _ _ _ _ _ _ ?_
 obtain⟨bb,Lw⟩:∃bb,bb= [blocka,blockb,blockc,blockd,blocke,blockf,blockg,blockh,blocki,blockj,blockk,blockl,blockm,blockn,blocko,blockp]:=⟨_,rfl⟩
 have hB:bb.length=16:=by rw [Lw];rfl
 obtain⟨ss,Ly⟩:∃ss,ss=(S8.mk statea stateb statec stated statee statef stateg stateh):=⟨_,rfl⟩
 have hp:=Ch.refl (fun _=>False) w
 have KQ:=hk.lt
 refine mkd fun gv wv Jh=>?_
 have I7:=Jh.blk
 refine mkd fun Jj Jb Jz=>?_
 have Ja:=Jz.blk
 have hp:=Ch.made (Ch.made hp Jh) Jz
 have I7:=Made.old Jz I7
 refine mkd fun Kz Jc Kc=>?_
 have Mc:=Kc.lo hp
 have Lf:=Kc.ne I7
 have ne_gv1_gv2:=Kc.ne Ja
 have Jd:=Kc.blk
 have I7:=Made.old Kc I7
 refine⟨_,_,_,_,_,_,_,_,⟨I7.at rfl,I7.at rfl,I7.at rfl,I7.at rfl,I7.at rfl,I7.at rfl,I7.at rfl,I7.at rfl⟩,?_⟩
 have hp:=Ch.made hp Kc
 have Ja:=Made.old Kc Ja
 refine mkd fun Ju Ji Km=>?_
 have JA:=Km.lo hp
 have JE:=Km.ne I7
 have ne_gv1_gv3:=Km.ne Ja
 have ne_gv2_gv3:=Km.ne Jd
 have I8:=Km.blk
 refine fE I8 rfl fun Jq Js=>?_
 have I8:=Js.blk
 have Ja:=Ch.blk Js.ch (Made.old Km Ja) (ne_gv1_gv3)
 refine⟨_,_,_,_,_,_,_,_,_,_,_,_,_,_,_,_,⟨Ja.at rfl,Ja.at rfl,Ja.at rfl,Ja.at rfl,Ja.at rfl,Ja.at rfl,Ja.at rfl,Ja.at rfl,Ja.at rfl,Ja.at rfl,Ja.at rfl,Ja.at rfl,Ja.at rfl,Ja.at rfl,Ja.at rfl,Ja.at rfl⟩,?_⟩
 refine Calls.mono (AK _ _ _ _ _ _ _ _ _ _ _ _ _ _ _ _) ?_
 rintro e JP ⟨_,rfl,rfl,JL⟩
 refine⟨_,rfl,?_⟩
 have hp:=Ch.pu (Ch.call (Ch.made hp Km) Js.ch (by exact fun k e=>.inr (e▸JA))) JL
 have hk:=(((((hk.pu Jh.pu).pu Jz.pu).pu Kc.pu).pu Km.pu).ch Js.ch (fun k hx e=>(fun hx=>absurd (KQ _ hx) (Nat.not_lt.2 JA)) (e▸hx))).pu JL
 have I7:=Pu.blk JL (Ch.blk Js.ch (Made.old Km I7) (JE))
 have Ja:=Pu.blk JL Ja
 have Jd:=Pu.blk JL (Ch.blk Js.ch (Made.old Km Jd) (ne_gv2_gv3))
 have I8:=Pu.blk JL I8
 refine⟨fun mz J6 W=>mz=(64 - J6).toNat∧(0≤J6∧J6≤64)∧Ch (fun _=>False) w W∧ln W 0 K∧Blk W gv #[(.int .u32 statea),(.int .u32 stateb),(.int .u32 statec),(.int .u32 stated),(.int .u32 statee),(.int .u32 statef),(.int .u32 stateg),(.int .u32 stateh)] 66∧Blk W Jj #[(.int .u32 blocka),(.int .u32 blockb),(.int .u32 blockc),(.int .u32 blockd),(.int .u32 blocke),(.int .u32 blockf),(.int .u32 blockg),(.int .u32 blockh),(.int .u32 blocki),(.int .u32 blockj),(.int .u32 blockk),(.int .u32 blockl),(.int .u32 blockm),(.int .u32 blockn),(.int .u32 blocko),(.int .u32 blockp)] 262∧Blk W Kz #[(.int .u32 0),(.int .u32 0),(.int .u32 0),(.int .u32 0),(.int .u32 0),(.int .u32 0),(.int .u32 0),(.int .u32 0)] 66∧Blk W Ju #[(.int .u32 ((aI K (ah bb 48) ss J6.toNat).a)),(.int .u32 ((aI K (ah bb 48) ss J6.toNat).b)),(.int .u32 ((aI K (ah bb 48) ss J6.toNat).c)),(.int .u32 ((aI K (ah bb 48) ss J6.toNat).d)),(.int .u32 ((aI K (ah bb 48) ss J6.toNat).e)),(.int .u32 ((aI K (ah bb 48) ss J6.toNat).f)),(.int .u32 ((aI K (ah bb 48) ss J6.toNat).g)),(.int .u32 ((aI K (ah bb 48) ss J6.toNat).h))] 66,⟨_,rfl,(by omega),hp,hk,I7,Ja,Jd,I8.cast (FK (congrArg (Value.int .u32) (by subst Ly;rfl)) (congrArg (Value.int .u32) (by subst Ly;rfl)) (congrArg (Value.int .u32) (by subst Ly;rfl)) (congrArg (Value.int .u32) (by subst Ly;rfl)) (congrArg (Value.int .u32) (by subst Ly;rfl)) (congrArg (Value.int .u32) (by subst Ly;rfl)) (congrArg (Value.int .u32) (by subst Ly;rfl)) (congrArg (Value.int .u32) (by subst Ly;rfl)))⟩,?_⟩
 rintro _ _ J6 J0 ⟨rfl,h0,hp,hk,I7,Ja,Jd,I8⟩
 refine aq (fun c1=>?_) (fun c1=>?_)
 ·refine⟨by omega,⟨_,u7 (l:=(ah [blocka,blockb,blockc,blockd,blocke,blockf,blockg,blockh,blocki,blockj,blockk,blockl,blockm,blockn,blocko,blockp] 48)) (i:=J6) (by(rw [cJ rfl];omega)),⟨by decide,?_⟩⟩⟩
  have I8:=Blk.drew I8
  refine⟨_,I8.at rfl,⟨by decide,⟨_,I8.at rfl,?_⟩⟩⟩
  refine⟨bXU [1,13,18,24] [] J0.drew.drew (fun _=>False),?_⟩
  have I8:=Blk.drew I8
  have hk:=(hk.pu (Pu.aW _)).pu (Pu.aW _)
  obtain⟨_,drow_hk⟩:=hk.blk
  refine⟨by decide,⟨.inr ⟨by decide,bX.ld I8 (fun h=>h) _⟩,_,I8.at rfl,⟨by decide,⟨.inr ⟨by decide,bX.ld I8 (fun h=>h) _⟩,_,I8.at rfl,⟨by decide,⟨.inr ⟨by decide,bX.ld I8 (fun h=>h) _⟩,_,I8.at rfl,⟨by omega,⟨.inr ⟨by decide,bX.ld drow_hk (fun h=>h) _⟩,_,drow_hk.pU (i:=J6) (by(have h9:=hk.len;omega)),?_⟩⟩⟩⟩⟩⟩⟩⟩
  refine Calls.mono (iM _ _ (by omega)) ?_
  rintro e JU ⟨_,rfl,rfl,JH⟩
  refine⟨_,rfl,?_⟩
  refine bXU.fC JH (by decide) ?_
  refine Calls.mono (iM _ _ (by omega)) ?_
  rintro e JN ⟨_,rfl,rfl,JG⟩
  refine⟨_,rfl,?_⟩
  refine bXU.fC JG (by decide) ?_
  refine Calls.mono (iM _ _ (by omega)) ?_
  rintro e K7 ⟨_,rfl,rfl,Kt⟩
  refine⟨_,rfl,?_⟩
  refine bXU.fC Kt (by decide) ?_
  rintro _ rfl
  refine⟨bXU [10,14,18,20] [] K7.drew (fun _=>False),?_⟩
  have I8:=Blk.drew (Pu.blk Kt (Pu.blk JG (Pu.blk JH I8)))
  refine⟨by decide,⟨.inr ⟨by decide,bX.ld I8 (fun h=>h) _⟩,_,I8.at rfl,⟨by decide,⟨.inr ⟨by decide,bX.ld I8 (fun h=>h) _⟩,_,I8.at rfl,⟨by decide,⟨.inr ⟨by decide,bX.ld I8 (fun h=>h) _⟩,_,I8.at rfl,⟨by decide,⟨.inr ⟨by decide,bX.ld I8 (fun h=>h) _⟩,_,I8.at rfl,?_⟩⟩⟩⟩⟩⟩⟩⟩
  refine Calls.mono (iM _ _ (by omega)) ?_
  rintro e MY ⟨_,rfl,rfl,K0⟩
  refine⟨_,rfl,?_⟩
  refine bXU.fC K0 (by decide) ?_
  refine Calls.mono (iM _ _ (by omega)) ?_
  rintro e Pj ⟨_,rfl,rfl,KZ⟩
  refine⟨_,rfl,?_⟩
  refine bXU.fC KZ (by decide) ?_
  refine Calls.mono (iM _ _ (by omega)) ?_
  rintro e LU ⟨_,rfl,rfl,KY⟩
  refine⟨_,rfl,?_⟩
  refine bXU.fC KY (by decide) ?_
  rintro _ rfl
  have I8:=Pu.blk KY (Pu.blk KZ (Pu.blk K0 I8))
  refine⟨by decide,⟨_,I8.at rfl,⟨by decide,⟨_,I8.at rfl,⟨by decide,⟨_,I8.at rfl,⟨by decide,⟨_,I8.at rfl,⟨by decide,⟨_,I8.at rfl,⟨by decide,⟨_,I8.at rfl,⟨by decide,⟨_,I8.at rfl,fE I8 rfl fun T9 Le=>?_⟩⟩⟩⟩⟩⟩⟩⟩⟩⟩⟩⟩⟩⟩
  have I8:=Le.blk
  have hp:=Ch.call (Ch.pu (Ch.pu (Ch.pu (Ch.drew (Ch.pu (Ch.pu (Ch.pu (Ch.drew (Ch.drew hp)) JH) JG) Kt)) K0) KZ) KY) Le.ch (by exact fun k e=>.inr (e▸JA))
  have hk:=(((((((hk.pu JH).pu JG).pu Kt).pu (Pu.aW _)).pu K0).pu KZ).pu KY).ch Le.ch (fun k hx e=>(fun hx=>absurd (KQ _ hx) (Nat.not_lt.2 JA)) (e▸hx))
  have I7:=Ch.blk Le.ch (Pu.blk KY (Pu.blk KZ (Pu.blk K0 (Blk.drew (Pu.blk Kt (Pu.blk JG (Pu.blk JH (Blk.drew (Blk.drew I7))))))))) (JE)
  have Ja:=Ch.blk Le.ch (Pu.blk KY (Pu.blk KZ (Pu.blk K0 (Blk.drew (Pu.blk Kt (Pu.blk JG (Pu.blk JH (Blk.drew (Blk.drew Ja))))))))) (ne_gv1_gv3)
  have Jd:=Ch.blk Le.ch (Pu.blk KY (Pu.blk KZ (Pu.blk K0 (Blk.drew (Pu.blk Kt (Pu.blk JG (Pu.blk JH (Blk.drew (Blk.drew Jd))))))))) (ne_gv2_gv3)
  exact⟨_,by rw [IntKind.wrap_i64];omega,rfl,by rw [IntKind.wrap_i64];omega,hp,hk,I7,Ja,Jd,I8.cast (FK (congrArg (Value.int .u32) (by rw [eT (by omega),Lw];rfl)) (congrArg (Value.int .u32) (by rw [eT (by omega),Lw];rfl)) (congrArg (Value.int .u32) (by rw [eT (by omega),Lw];rfl)) (congrArg (Value.int .u32) (by rw [eT (by omega),Lw];rfl)) (congrArg (Value.int .u32) (by rw [eT (by omega),Lw];rfl)) (congrArg (Value.int .u32) (by rw [eT (by omega),Lw];rfl)) (congrArg (Value.int .u32) (by rw [eT (by omega),Lw];rfl)) (congrArg (Value.int .u32) (by rw [eT (by omega),Lw];rfl)))⟩
 ·have Xc:J6.toNat=64:=by omega
  rw [Xc]at I8
  refine⟨fun mz Lm W=>Ch (fun _=>False) w W∧ln W 0 K∧(∃T,Blk W gv #[(.int .u32 statea),(.int .u32 stateb),(.int .u32 statec),(.int .u32 stated),(.int .u32 statee),(.int .u32 statef),(.int .u32 stateg),(.int .u32 stateh)] T)∧(∃T,Blk W Jj #[(.int .u32 blocka),(.int .u32 blockb),(.int .u32 blockc),(.int .u32 blockd),(.int .u32 blocke),(.int .u32 blockf),(.int .u32 blockg),(.int .u32 blockh),(.int .u32 blocki),(.int .u32 blockj),(.int .u32 blockk),(.int .u32 blockl),(.int .u32 blockm),(.int .u32 blockn),(.int .u32 blocko),(.int .u32 blockp)] T)∧(∃T,Blk W Kz #[(.int .u32 0),(.int .u32 0),(.int .u32 0),(.int .u32 0),(.int .u32 0),(.int .u32 0),(.int .u32 0),(.int .u32 0)] T)∧((mz=8∧Lm=0∧(∃T,Blk W Ju #[(.int .u32 ((aI K (ah bb 48) ss 64).a)),(.int .u32 ((aI K (ah bb 48) ss 64).b)),(.int .u32 ((aI K (ah bb 48) ss 64).c)),(.int .u32 ((aI K (ah bb 48) ss 64).d)),(.int .u32 ((aI K (ah bb 48) ss 64).e)),(.int .u32 ((aI K (ah bb 48) ss 64).f)),(.int .u32 ((aI K (ah bb 48) ss 64).g)),(.int .u32 ((aI K (ah bb 48) ss 64).h))] T))∨(mz=7∧Lm=1∧(∃T,Blk W Ju #[(.int .u32 (bm (aI K (ah bb 48) ss 64).a statea)),(.int .u32 ((aI K (ah bb 48) ss 64).b)),(.int .u32 ((aI K (ah bb 48) ss 64).c)),(.int .u32 ((aI K (ah bb 48) ss 64).d)),(.int .u32 ((aI K (ah bb 48) ss 64).e)),(.int .u32 ((aI K (ah bb 48) ss 64).f)),(.int .u32 ((aI K (ah bb 48) ss 64).g)),(.int .u32 ((aI K (ah bb 48) ss 64).h))] T))∨(mz=6∧Lm=2∧(∃T,Blk W Ju #[(.int .u32 (bm (aI K (ah bb 48) ss 64).a statea)),(.int .u32 (bm (aI K (ah bb 48) ss 64).b stateb)),(.int .u32 ((aI K (ah bb 48) ss 64).c)),(.int .u32 ((aI K (ah bb 48) ss 64).d)),(.int .u32 ((aI K (ah bb 48) ss 64).e)),(.int .u32 ((aI K (ah bb 48) ss 64).f)),(.int .u32 ((aI K (ah bb 48) ss 64).g)),(.int .u32 ((aI K (ah bb 48) ss 64).h))] T))∨(mz=5∧Lm=3∧(∃T,Blk W Ju #[(.int .u32 (bm (aI K (ah bb 48) ss 64).a statea)),(.int .u32 (bm (aI K (ah bb 48) ss 64).b stateb)),(.int .u32 (bm (aI K (ah bb 48) ss 64).c statec)),(.int .u32 ((aI K (ah bb 48) ss 64).d)),(.int .u32 ((aI K (ah bb 48) ss 64).e)),(.int .u32 ((aI K (ah bb 48) ss 64).f)),(.int .u32 ((aI K (ah bb 48) ss 64).g)),(.int .u32 ((aI K (ah bb 48) ss 64).h))] T))∨(mz=4∧Lm=4∧(∃T,Blk W Ju #[(.int .u32 (bm (aI K (ah bb 48) ss 64).a statea)),(.int .u32 (bm (aI K (ah bb 48) ss 64).b stateb)),(.int .u32 (bm (aI K (ah bb 48) ss 64).c statec)),(.int .u32 (bm (aI K (ah bb 48) ss 64).d stated)),(.int .u32 ((aI K (ah bb 48) ss 64).e)),(.int .u32 ((aI K (ah bb 48) ss 64).f)),(.int .u32 ((aI K (ah bb 48) ss 64).g)),(.int .u32 ((aI K (ah bb 48) ss 64).h))] T))∨(mz=3∧Lm=5∧(∃T,Blk W Ju #[(.int .u32 (bm (aI K (ah bb 48) ss 64).a statea)),(.int .u32 (bm (aI K (ah bb 48) ss 64).b stateb)),(.int .u32 (bm (aI K (ah bb 48) ss 64).c statec)),(.int .u32 (bm (aI K (ah bb 48) ss 64).d stated)),(.int .u32 (bm (aI K (ah bb 48) ss 64).e statee)),(.int .u32 ((aI K (ah bb 48) ss 64).f)),(.int .u32 ((aI K (ah bb 48) ss 64).g)),(.int .u32 ((aI K (ah bb 48) ss 64).h))] T))∨(mz=2∧Lm=6∧(∃T,Blk W Ju #[(.int .u32 (bm (aI K (ah bb 48) ss 64).a statea)),(.int .u32 (bm (aI K (ah bb 48) ss 64).b stateb)),(.int .u32 (bm (aI K (ah bb 48) ss 64).c statec)),(.int .u32 (bm (aI K (ah bb 48) ss 64).d stated)),(.int .u32 (bm (aI K (ah bb 48) ss 64).e statee)),(.int .u32 (bm (aI K (ah bb 48) ss 64).f statef)),(.int .u32 ((aI K (ah bb 48) ss 64).g)),(.int .u32 ((aI K (ah bb 48) ss 64).h))] T))∨(mz=1∧Lm=7∧(∃T,Blk W Ju #[(.int .u32 (bm (aI K (ah bb 48) ss 64).a statea)),(.int .u32 (bm (aI K (ah bb 48) ss 64).b stateb)),(.int .u32 (bm (aI K (ah bb 48) ss 64).c statec)),(.int .u32 (bm (aI K (ah bb 48) ss 64).d stated)),(.int .u32 (bm (aI K (ah bb 48) ss 64).e statee)),(.int .u32 (bm (aI K (ah bb 48) ss 64).f statef)),(.int .u32 (bm (aI K (ah bb 48) ss 64).g stateg)),(.int .u32 ((aI K (ah bb 48) ss 64).h))] T))∨(mz=0∧Lm=8∧(∃T,Blk W Ju #[(.int .u32 (bm (aI K (ah bb 48) ss 64).a statea)),(.int .u32 (bm (aI K (ah bb 48) ss 64).b stateb)),(.int .u32 (bm (aI K (ah bb 48) ss 64).c statec)),(.int .u32 (bm (aI K (ah bb 48) ss 64).d stated)),(.int .u32 (bm (aI K (ah bb 48) ss 64).e statee)),(.int .u32 (bm (aI K (ah bb 48) ss 64).f statef)),(.int .u32 (bm (aI K (ah bb 48) ss 64).g stateg)),(.int .u32 (bm (aI K (ah bb 48) ss 64).h stateh))] T))),⟨_,hp,hk,⟨_,I7⟩,⟨_,Ja⟩,⟨_,Jd⟩,.inl ⟨rfl,rfl,⟨_,I8⟩⟩⟩,?_⟩
  rintro _ _ Lm JU ⟨hp,hk,⟨_,I7⟩,⟨_,Ja⟩,⟨_,Jd⟩,hU⟩
  rcases hU with⟨rfl,rfl,⟨_,I8⟩⟩ | ⟨rfl,rfl,⟨_,I8⟩⟩ | ⟨rfl,rfl,⟨_,I8⟩⟩ | ⟨rfl,rfl,⟨_,I8⟩⟩ | ⟨rfl,rfl,⟨_,I8⟩⟩ | ⟨rfl,rfl,⟨_,I8⟩⟩ | ⟨rfl,rfl,⟨_,I8⟩⟩ | ⟨rfl,rfl,⟨_,I8⟩⟩ | ⟨rfl,rfl,⟨_,I8⟩⟩
  ·refine dL ?_
   refine⟨bXU [] [2,5] JU.drew (fun _=>False),?_⟩
   have I8:=Blk.drew I8
   have I7:=Blk.drew I7
   refine⟨by decide,⟨.inl (by decide),_,I8.at rfl,⟨by decide,⟨.inl (by decide),_,I7.at rfl,⟨by decide,bI I8 (by simp) fun JN I9=>?_⟩⟩⟩⟩⟩
   have I8:Blk JN Ju #[_,(.int .u32 ((aI K (ah bb 48) ss 64).b)),(.int .u32 ((aI K (ah bb 48) ss 64).c)),(.int .u32 ((aI K (ah bb 48) ss 64).d)),(.int .u32 ((aI K (ah bb 48) ss 64).e)),(.int .u32 ((aI K (ah bb 48) ss 64).f)),(.int .u32 ((aI K (ah bb 48) ss 64).g)),(.int .u32 ((aI K (ah bb 48) ss 64).h))] _:=I9.blk
   refine bXU.grow I9.ch ?_
   have hp:=Ch.call (Ch.drew hp) I9.ch (by exact fun k e=>.inr (e▸JA))
   have hk:=(hk.pu (Pu.aW _)).ch I9.ch (fun k hx e=>(fun hx=>absurd (KQ _ hx) (Nat.not_lt.2 JA)) (e▸hx))
   have I7:=Ch.blk I9.ch I7 (JE)
   have Ja:=Ch.blk I9.ch (Blk.drew Ja) (ne_gv1_gv3)
   have Jd:=Ch.blk I9.ch (Blk.drew Jd) (ne_gv2_gv3)
   exact⟨7,by decide,hp,hk,⟨_,I7⟩,⟨_,Ja⟩,⟨_,Jd⟩,.inr (.inl ⟨rfl,rfl,⟨_,I8⟩⟩)⟩
  ·refine dL ?_
   refine⟨bXU [] [2,5] JU.drew (fun _=>False),?_⟩
   have I8:=Blk.drew I8
   have I7:=Blk.drew I7
   refine⟨by decide,⟨.inl (by decide),_,I8.at rfl,⟨by decide,⟨.inl (by decide),_,I7.at rfl,⟨by decide,bI I8 (by simp) fun JN I9=>?_⟩⟩⟩⟩⟩
   have I8:Blk JN Ju #[(.int .u32 (bm (aI K (ah bb 48) ss 64).a statea)),_,(.int .u32 ((aI K (ah bb 48) ss 64).c)),(.int .u32 ((aI K (ah bb 48) ss 64).d)),(.int .u32 ((aI K (ah bb 48) ss 64).e)),(.int .u32 ((aI K (ah bb 48) ss 64).f)),(.int .u32 ((aI K (ah bb 48) ss 64).g)),(.int .u32 ((aI K (ah bb 48) ss 64).h))] _:=I9.blk
   refine bXU.grow I9.ch ?_
   have hp:=Ch.call (Ch.drew hp) I9.ch (by exact fun k e=>.inr (e▸JA))
   have hk:=(hk.pu (Pu.aW _)).ch I9.ch (fun k hx e=>(fun hx=>absurd (KQ _ hx) (Nat.not_lt.2 JA)) (e▸hx))
   have I7:=Ch.blk I9.ch I7 (JE)
   have Ja:=Ch.blk I9.ch (Blk.drew Ja) (ne_gv1_gv3)
   have Jd:=Ch.blk I9.ch (Blk.drew Jd) (ne_gv2_gv3)
   exact⟨6,by decide,hp,hk,⟨_,I7⟩,⟨_,Ja⟩,⟨_,Jd⟩,.inr (.inr (.inl ⟨rfl,rfl,⟨_,I8⟩⟩))⟩
  ·refine dL ?_
   refine⟨bXU [] [2,5] JU.drew (fun _=>False),?_⟩
   have I8:=Blk.drew I8
   have I7:=Blk.drew I7
   refine⟨by decide,⟨.inl (by decide),_,I8.at rfl,⟨by decide,⟨.inl (by decide),_,I7.at rfl,⟨by decide,bI I8 (by simp) fun JN I9=>?_⟩⟩⟩⟩⟩
   have I8:Blk JN Ju #[(.int .u32 (bm (aI K (ah bb 48) ss 64).a statea)),(.int .u32 (bm (aI K (ah bb 48) ss 64).b stateb)),_,(.int .u32 ((aI K (ah bb 48) ss 64).d)),(.int .u32 ((aI K (ah bb 48) ss 64).e)),(.int .u32 ((aI K (ah bb 48) ss 64).f)),(.int .u32 ((aI K (ah bb 48) ss 64).g)),(.int .u32 ((aI K (ah bb 48) ss 64).h))] _:=I9.blk
   refine bXU.grow I9.ch ?_
   have hp:=Ch.call (Ch.drew hp) I9.ch (by exact fun k e=>.inr (e▸JA))
   have hk:=(hk.pu (Pu.aW _)).ch I9.ch (fun k hx e=>(fun hx=>absurd (KQ _ hx) (Nat.not_lt.2 JA)) (e▸hx))
   have I7:=Ch.blk I9.ch I7 (JE)
   have Ja:=Ch.blk I9.ch (Blk.drew Ja) (ne_gv1_gv3)
   have Jd:=Ch.blk I9.ch (Blk.drew Jd) (ne_gv2_gv3)
   exact⟨5,by decide,hp,hk,⟨_,I7⟩,⟨_,Ja⟩,⟨_,Jd⟩,.inr (.inr (.inr (.inl ⟨rfl,rfl,⟨_,I8⟩⟩)))⟩
  ·refine dL ?_
   refine⟨bXU [] [2,5] JU.drew (fun _=>False),?_⟩
   have I8:=Blk.drew I8
   have I7:=Blk.drew I7
   refine⟨by decide,⟨.inl (by decide),_,I8.at rfl,⟨by decide,⟨.inl (by decide),_,I7.at rfl,⟨by decide,bI I8 (by simp) fun JN I9=>?_⟩⟩⟩⟩⟩
   have I8:Blk JN Ju #[(.int .u32 (bm (aI K (ah bb 48) ss 64).a statea)),(.int .u32 (bm (aI K (ah bb 48) ss 64).b stateb)),(.int .u32 (bm (aI K (ah bb 48) ss 64).c statec)),_,(.int .u32 ((aI K (ah bb 48) ss 64).e)),(.int .u32 ((aI K (ah bb 48) ss 64).f)),(.int .u32 ((aI K (ah bb 48) ss 64).g)),(.int .u32 ((aI K (ah bb 48) ss 64).h))] _:=I9.blk
   refine bXU.grow I9.ch ?_
   have hp:=Ch.call (Ch.drew hp) I9.ch (by exact fun k e=>.inr (e▸JA))
   have hk:=(hk.pu (Pu.aW _)).ch I9.ch (fun k hx e=>(fun hx=>absurd (KQ _ hx) (Nat.not_lt.2 JA)) (e▸hx))
   have I7:=Ch.blk I9.ch I7 (JE)
   have Ja:=Ch.blk I9.ch (Blk.drew Ja) (ne_gv1_gv3)
   have Jd:=Ch.blk I9.ch (Blk.drew Jd) (ne_gv2_gv3)
   exact⟨4,by decide,hp,hk,⟨_,I7⟩,⟨_,Ja⟩,⟨_,Jd⟩,.inr (.inr (.inr (.inr (.inl ⟨rfl,rfl,⟨_,I8⟩⟩))))⟩
  ·refine dL ?_
   refine⟨bXU [] [2,5] JU.drew (fun _=>False),?_⟩
   have I8:=Blk.drew I8
   have I7:=Blk.drew I7
   refine⟨by decide,⟨.inl (by decide),_,I8.at rfl,⟨by decide,⟨.inl (by decide),_,I7.at rfl,⟨by decide,bI I8 (by simp) fun JN I9=>?_⟩⟩⟩⟩⟩
   have I8:Blk JN Ju #[(.int .u32 (bm (aI K (ah bb 48) ss 64).a statea)),(.int .u32 (bm (aI K (ah bb 48) ss 64).b stateb)),(.int .u32 (bm (aI K (ah bb 48) ss 64).c statec)),(.int .u32 (bm (aI K (ah bb 48) ss 64).d stated)),_,(.int .u32 ((aI K (ah bb 48) ss 64).f)),(.int .u32 ((aI K (ah bb 48) ss 64).g)),(.int .u32 ((aI K (ah bb 48) ss 64).h))] _:=I9.blk
   refine bXU.grow I9.ch ?_
   have hp:=Ch.call (Ch.drew hp) I9.ch (by exact fun k e=>.inr (e▸JA))
   have hk:=(hk.pu (Pu.aW _)).ch I9.ch (fun k hx e=>(fun hx=>absurd (KQ _ hx) (Nat.not_lt.2 JA)) (e▸hx))
   have I7:=Ch.blk I9.ch I7 (JE)
   have Ja:=Ch.blk I9.ch (Blk.drew Ja) (ne_gv1_gv3)
   have Jd:=Ch.blk I9.ch (Blk.drew Jd) (ne_gv2_gv3)
   exact⟨3,by decide,hp,hk,⟨_,I7⟩,⟨_,Ja⟩,⟨_,Jd⟩,.inr (.inr (.inr (.inr (.inr (.inl ⟨rfl,rfl,⟨_,I8⟩⟩)))))⟩
  ·refine dL ?_
   refine⟨bXU [] [2,5] JU.drew (fun _=>False),?_⟩
   have I8:=Blk.drew I8
   have I7:=Blk.drew I7
   refine⟨by decide,⟨.inl (by decide),_,I8.at rfl,⟨by decide,⟨.inl (by decide),_,I7.at rfl,⟨by decide,bI I8 (by simp) fun JN I9=>?_⟩⟩⟩⟩⟩
   have I8:Blk JN Ju #[(.int .u32 (bm (aI K (ah bb 48) ss 64).a statea)),(.int .u32 (bm (aI K (ah bb 48) ss 64).b stateb)),(.int .u32 (bm (aI K (ah bb 48) ss 64).c statec)),(.int .u32 (bm (aI K (ah bb 48) ss 64).d stated)),(.int .u32 (bm (aI K (ah bb 48) ss 64).e statee)),_,(.int .u32 ((aI K (ah bb 48) ss 64).g)),(.int .u32 ((aI K (ah bb 48) ss 64).h))] _:=I9.blk
   refine bXU.grow I9.ch ?_
   have hp:=Ch.call (Ch.drew hp) I9.ch (by exact fun k e=>.inr (e▸JA))
   have hk:=(hk.pu (Pu.aW _)).ch I9.ch (fun k hx e=>(fun hx=>absurd (KQ _ hx) (Nat.not_lt.2 JA)) (e▸hx))
   have I7:=Ch.blk I9.ch I7 (JE)
   have Ja:=Ch.blk I9.ch (Blk.drew Ja) (ne_gv1_gv3)
   have Jd:=Ch.blk I9.ch (Blk.drew Jd) (ne_gv2_gv3)
   exact⟨2,by decide,hp,hk,⟨_,I7⟩,⟨_,Ja⟩,⟨_,Jd⟩,.inr (.inr (.inr (.inr (.inr (.inr (.inl ⟨rfl,rfl,⟨_,I8⟩⟩))))))⟩
  ·refine dL ?_
   refine⟨bXU [] [2,5] JU.drew (fun _=>False),?_⟩
   have I8:=Blk.drew I8
   have I7:=Blk.drew I7
   refine⟨by decide,⟨.inl (by decide),_,I8.at rfl,⟨by decide,⟨.inl (by decide),_,I7.at rfl,⟨by decide,bI I8 (by simp) fun JN I9=>?_⟩⟩⟩⟩⟩
   have I8:Blk JN Ju #[(.int .u32 (bm (aI K (ah bb 48) ss 64).a statea)),(.int .u32 (bm (aI K (ah bb 48) ss 64).b stateb)),(.int .u32 (bm (aI K (ah bb 48) ss 64).c statec)),(.int .u32 (bm (aI K (ah bb 48) ss 64).d stated)),(.int .u32 (bm (aI K (ah bb 48) ss 64).e statee)),(.int .u32 (bm (aI K (ah bb 48) ss 64).f statef)),_,(.int .u32 ((aI K (ah bb 48) ss 64).h))] _:=I9.blk
   refine bXU.grow I9.ch ?_
   have hp:=Ch.call (Ch.drew hp) I9.ch (by exact fun k e=>.inr (e▸JA))
   have hk:=(hk.pu (Pu.aW _)).ch I9.ch (fun k hx e=>(fun hx=>absurd (KQ _ hx) (Nat.not_lt.2 JA)) (e▸hx))
   have I7:=Ch.blk I9.ch I7 (JE)
   have Ja:=Ch.blk I9.ch (Blk.drew Ja) (ne_gv1_gv3)
   have Jd:=Ch.blk I9.ch (Blk.drew Jd) (ne_gv2_gv3)
   exact⟨1,by decide,hp,hk,⟨_,I7⟩,⟨_,Ja⟩,⟨_,Jd⟩,.inr (.inr (.inr (.inr (.inr (.inr (.inr (.inl ⟨rfl,rfl,⟨_,I8⟩⟩)))))))⟩
  ·refine dL ?_
   refine⟨bXU [] [2,5] JU.drew (fun _=>False),?_⟩
   have I8:=Blk.drew I8
   have I7:=Blk.drew I7
   refine⟨by decide,⟨.inl (by decide),_,I8.at rfl,⟨by decide,⟨.inl (by decide),_,I7.at rfl,⟨by decide,bI I8 (by simp) fun JN I9=>?_⟩⟩⟩⟩⟩
   have I8:Blk JN Ju #[(.int .u32 (bm (aI K (ah bb 48) ss 64).a statea)),(.int .u32 (bm (aI K (ah bb 48) ss 64).b stateb)),(.int .u32 (bm (aI K (ah bb 48) ss 64).c statec)),(.int .u32 (bm (aI K (ah bb 48) ss 64).d stated)),(.int .u32 (bm (aI K (ah bb 48) ss 64).e statee)),(.int .u32 (bm (aI K (ah bb 48) ss 64).f statef)),(.int .u32 (bm (aI K (ah bb 48) ss 64).g stateg)),_] _:=I9.blk
   refine bXU.grow I9.ch ?_
   have hp:=Ch.call (Ch.drew hp) I9.ch (by exact fun k e=>.inr (e▸JA))
   have hk:=(hk.pu (Pu.aW _)).ch I9.ch (fun k hx e=>(fun hx=>absurd (KQ _ hx) (Nat.not_lt.2 JA)) (e▸hx))
   have I7:=Ch.blk I9.ch I7 (JE)
   have Ja:=Ch.blk I9.ch (Blk.drew Ja) (ne_gv1_gv3)
   have Jd:=Ch.blk I9.ch (Blk.drew Jd) (ne_gv2_gv3)
   exact⟨0,by decide,hp,hk,⟨_,I7⟩,⟨_,Ja⟩,⟨_,Jd⟩,.inr (.inr (.inr (.inr (.inr (.inr (.inr (.inr (⟨rfl,rfl,⟨_,I8⟩⟩))))))))⟩
  ·refine kY ⟨_,_,_,_,_,_,_,_,⟨I8.at rfl,I8.at rfl,I8.at rfl,I8.at rfl,I8.at rfl,I8.at rfl,I8.at rfl,I8.at rfl⟩,fE Jd rfl fun JN I9=>?_⟩
   have Jd:=I9.blk
   refine⟨_,_,_,_,_,_,_,_,⟨Jd.at rfl,Jd.at rfl,Jd.at rfl,Jd.at rfl,Jd.at rfl,Jd.at rfl,Jd.at rfl,Jd.at rfl⟩,?_⟩
   have hp:=Ch.call hp I9.ch (by exact fun k e=>.inr (e▸Mc))
   exact⟨congrArg Value.agg (FK (congrArg (Value.int .u32) (by rw [← Lw,← Ly];subst Ly;rfl)) (congrArg (Value.int .u32) (by rw [← Lw,← Ly];subst Ly;rfl)) (congrArg (Value.int .u32) (by rw [← Lw,← Ly];subst Ly;rfl)) (congrArg (Value.int .u32) (by rw [← Lw,← Ly];subst Ly;rfl)) (congrArg (Value.int .u32) (by rw [← Lw,← Ly];subst Ly;rfl)) (congrArg (Value.int .u32) (by rw [← Lw,← Ly];subst Ly;rfl)) (congrArg (Value.int .u32) (by rw [← Lw,← Ly];subst Ly;rfl)) (congrArg (Value.int .u32) (by rw [← Lw,← Ly];subst Ly;rfl))),hp⟩
theorem CE {w:World}:
 Calls prog 137 #[] w fun e w'=>∃v,e= .returned v∧v= .agg #[(.int .u32 S8.first.a),(.int .u32 S8.first.b),(.int .u32 S8.first.c),(.int .u32 S8.first.d),(.int .u32 S8.first.e),(.int .u32 S8.first.f),(.int .u32 S8.first.g),(.int .u32 S8.first.h)]∧Pu w w':=by
 refine ud ?_
 have hp:=Ch.refl (fun _=>False) w
 refine mkd fun gv wv Jh=>?_
 have Jm:=Jh.lo hp
 have I7:=Jh.blk
 refine fE I7 rfl fun Jb KV=>?_
 have I7:=KV.blk
 refine⟨_,_,_,_,_,_,_,_,⟨I7.at rfl,I7.at rfl,I7.at rfl,I7.at rfl,I7.at rfl,I7.at rfl,I7.at rfl,I7.at rfl⟩,?_⟩
 have hp:=Ch.call (Ch.made hp Jh) KV.ch (by exact fun k e=>.inr (e▸Jm))
 exact⟨congrArg Value.agg (FK (congrArg (Value.int .u32) (by rfl)) (congrArg (Value.int .u32) (by rfl)) (congrArg (Value.int .u32) (by rfl)) (congrArg (Value.int .u32) (by rfl)) (congrArg (Value.int .u32) (by rfl)) (congrArg (Value.int .u32) (by rfl)) (congrArg (Value.int .u32) (by rfl)) (congrArg (Value.int .u32) (by rfl))),hp⟩
end
namespace Ent
theorem or0 {e:Ent}(h:e.ok=true):u32.wrap (BitVec.ofInt u32.bits (u32.wrap (BitVec.ofInt u32.bits (u32.wrap ((u32.wrap e.typ:Int)*2 ^ 0)) ||| BitVec.ofInt u32.bits (u32.wrap ((u32.wrap e.state:Int)*2 ^ 4))).toNat) ||| BitVec.ofInt u32.bits (u32.wrap ((u32.wrap e.owner:Int)*2 ^ 16))).toNat=e.typ+16*e.state+65536*e.owner:=by
 have h1:=fl h
 have h2:=kj h
 rw [dh (x:=e.typ) (by omega),dh (x:=e.state) (by omega),dh (x:=e.owner) (by omega),dh (x:=e.typ*2 ^ 0) (by omega),dh (x:=e.state*2 ^ 4) (by omega),dh (x:=e.owner*2 ^ 16) (by omega),nJ (x:=e.typ*2 ^ 0) (by omega) (by omega),mD,
  show e.state*2 ^ 4=2 ^ 4*e.state by omega,fQ 4 (by omega) (by omega) (by omega),nJ (by omega) (by omega),mD,show e.owner*2 ^ 16=2 ^ 16*e.owner by omega,fQ 16 (by omega) (by omega) (by omega)]
 omega
theorem or1 {x:Int}(h:∃a b:Int,x=a+512*b∧0≤a∧a<256∧0≤b∧b<8388608):u32.wrap (BitVec.ofInt u32.bits x ||| BitVec.ofInt u32.bits 256).toNat=x+256:=by
 obtain⟨a,b,rfl,h1,h2,h3,h4⟩:=h
 have e1:nor (2 ^ 8*1) a=2 ^ 8*1+a:=fQ 8 (by omega) h1 h2
 have e2:nor (2 ^ 9*b) a=2 ^ 9*b+a:=fQ 9 h3 h1 (by omega)
 have e3:nor (2 ^ 9*b) (256+a)=2 ^ 9*b+(256+a):=fQ 9 h3 (by omega) (by omega)
 rw [nJ (by omega) (by omega)]
 have assoc:∀x y z:Int,nor (nor x y) z=nor x (nor y z):=by
  intro x y z;unfold nor;simp [Nat.or_assoc]
 rw [show a+512*b=2 ^ 9*b+a by omega,← e2,assoc,mD a 256,show nor 256 a=256+a by simpa using e1,e3,e2]
 omega
theorem mask(k:Nat) {x:Int}(m:Int)(hm:m=2 ^ k - 1)(hk:k≤31)(hx:0≤x∧x<4294967296):i64.wrap (u32.wrap (BitVec.ofInt u32.bits x &&& BitVec.ofInt u32.bits m).toNat)=x % 2 ^ k:=by
 have h2:(2:Int) ^ k≤2 ^ 31:=by exact_mod_cast Nat.pow_le_pow_right (n:=2) (by omega) hk
 have h3:(0:Int)<2 ^ k:=Int.pow_pos (by omega)
 have h4:=Int.emod_nonneg x (Int.ne_of_gt h3)
 have h5:=Int.emod_lt_of_pos x h3
 subst hm
 rw [o6 hx (by omega),nM k hx.1,ax (by omega)]
theorem H2(k:Nat) {x:Int}(m:Int)(hm:m=2 ^ k - 1)(hk:k≤31)(hx:0≤x∧x<4294967296):u32.wrap (BitVec.ofInt u32.bits x &&& BitVec.ofInt u32.bits m).toNat=x % 2 ^ k:=by
 have h2:(2:Int) ^ k≤2 ^ 31:=by exact_mod_cast Nat.pow_le_pow_right (n:=2) (by omega) hk
 have h3:(0:Int)<2 ^ k:=Int.pow_pos (by omega)
 subst hm
 rw [o6 hx (by omega),nM k hx.1]
theorem kZ {x:Int}(n:Nat)(hx:0≤x∧x<4294967296):0≤x.fdiv (2 ^ n)∧x.fdiv (2 ^ n)<4294967296:=by
 rw [ly]
 have h3:(0:Int)<2 ^ n:=Int.pow_pos (by omega)
 refine⟨Int.ediv_nonneg hx.1 (by omega),?_⟩
 have:=Int.ediv_le_self (2 ^ n) hx.1
 omega
theorem parts_eq {a b:Int}(ha:0≤a∧a<4294967296)(hb:0≤b∧b<4294967296):
 i64.wrap (u32.wrap (BitVec.ofInt u32.bits ((a:Int).fdiv (2 ^ 0)) &&& BitVec.ofInt u32.bits 7).toNat)=(parts a b).typ∧
 i64.wrap (u32.wrap (BitVec.ofInt u32.bits ((a:Int).fdiv (2 ^ 16)) &&& BitVec.ofInt u32.bits 63).toNat)=(parts a b).owner∧
 i64.wrap (u32.wrap (BitVec.ofInt u32.bits b &&& BitVec.ofInt u32.bits 63).toNat)=(parts a b).refs∧
 i64.wrap (u32.wrap (BitVec.ofInt u32.bits ((a:Int).fdiv (2 ^ 4)) &&& BitVec.ofInt u32.bits 3).toNat)=(parts a b).state∧
 ((u32.wrap (BitVec.ofInt u32.bits ((a:Int).fdiv (2 ^ 8)) &&& BitVec.ofInt u32.bits 1).toNat:Int)==1)=(parts a b).bS:=by
 refine⟨?_,?_,?_,?_,?_⟩
 ·rw [mask 3 7 (by decide) (by decide) (kZ 0 ha),ly];simp [parts]
 ·rw [mask 6 63 (by decide) (by decide) (kZ 16 ha),ly];simp [parts]
 ·rw [mask 6 63 (by decide) (by decide) hb];simp [parts]
 ·rw [mask 2 3 (by decide) (by decide) (kZ 4 ha),ly];simp [parts]
 ·rw [H2 1 1 (by decide) (by decide) (kZ 8 ha),ly];simp only [parts];rw [Bool.eq_iff_iff];simp
theorem eqW(a b c d:Int):cf #[.int .u32 a,.int .u32 b] #[.int .u32 c,.int .u32 d]=(decide (a=c) && decide (b=d)):=by
 simp [cf,eqL,lr];rfl
end Ent
end Go.Proofs.YtinhphjfnedhgaaGreatDoor
namespace Go.Proofs.YtinhphjfnedhgaaGreatDoor
open Go.Proofs.Tryz (prog)
open Go Go.RowKit V
open Go.IntKind (i64 u32 u64)
section
set_option maxRecDepth 100000
set_option maxHeartbeats 1000000
attribute [local irreducible] Vc2 VcD
theorem Ent.eqC(a b c d a' b' c' d':Int)(e e':Bool):cf #[.int .i64 a,.int .i64 b,.int .i64 c,.int .i64 d,.bool e] #[.int .i64 a',.int .i64 b',.int .i64 c',.int .i64 d',.bool e']=decide (a=a'∧b=b'∧c=c'∧d=d'∧e=e'):=by
 simp [cf,eqL,lr];rw [Bool.eq_iff_iff];simp
theorem Ent.Dr {e:Ent}:(if e.ok then(0:Int)else 110)=0↔e.ok=true:=by cases e.ok<;>simp
def ni:Ctr Un:=⟨[.one (.int .i64)],[],[],[],fun n K=>K ⟨(.bool (decide (0≤n∧n≤63))),none,[],[],[]⟩⟩
def Gf(n:Int)(Q:Ou Un→Prop):Prop:=
 ∃J:Bool→Prop,(
  split (decide (n≥0)) (
   J (decide (n≤63))) (
   J false))∧∀(L5:Nat→Value)(x2:Bool),J x2→
 Q ⟨(.bool x2),none,[],[],[]⟩
theorem Gg:Vc2 Un prog (bc []) [] Tryz.f199 (.r' (.two (.node [] (some ⟨[(2,(.one .bool))],[],upN 2 7,[]⟩) [] [] .leaf .leaf) .leaf)) [] ni=(∀n,∀Q,(ni.body n Q)→Gf n Q):=by kernel_rfl
theorem Ge:LV Un prog 199 ni:=verify Tryz.func199 aa (tb:= []) trivial (by kernel_rfl) (Gg.mpr fun n Q h=>gA ((decide ((n:Int)≥0)) && (decide ((n:Int)≤63))) (ae (fun c1=>(by show _=_;rw [Bool.eq_iff_iff];simp_all<;>omega)) fun c1=>(by show _=_;rw [Bool.eq_iff_iff];simp_all<;>omega))<| mG h (by rw [Bool.eq_iff_iff];simp))
def kO:Ctr Un:=⟨[.agg [.int .i64,.int .i64,.int .i64,.int .i64,.bool]],[],[],[],fun ea eb ec ed ee K=>K ⟨(.int .i64 (if(Ent.mk ea eb ec ed ee).ok then 0 else 110)),none,[],[],[]⟩⟩
def EE(ea:Int)(eb:Int)(ec:Int)(ed:Int)(ee:Bool)(Q:Ou Un→Prop):Prop:=
 ∀(gv:Nat),
 ∀(Jj:Nat),
 ∃J:Bool→Prop,(
  split (decide (ea≥0)) (
   ∀ok:Bool,ok=(decide ((ea:Int)<7))→
   J ok) (
   ∀ok:Bool,ok=false→
   J ok))∧∀(J8:Nat→Value)(ok:Bool),J ok→
 ∃J1:Bool→Int→Int→Int→Int→Bool→Prop,(
  split (ea !=0) (
   ∃J2:Bool→Prop,(
    split ok (
     ∀Jk:Bool,Jk=(decide (0≤eb∧eb≤63))→
     J2 Jk) (
     ∀Jk:Bool,Jk=false→
     J2 Jk))∧∀(Nj:Nat→Value)(Jk:Bool),J2 Jk→
   J1 Jk ea eb 0 0 false) (
   J1 ok ea 0 0 0 false))∧∀(Nj:Nat→Value)(Jk:Bool) OT OS PB PA (Pz:Bool),J1 Jk OT OS PB PA Pz→
 ∀KN:Bool,KN=((ea:Int)==1)→
 split KN (
  ∃J2:Bool→Prop,(
   split Jk (
    split (decide (0≤ec∧ec≤63)) (
     split (decide (ed>0)) (
      ∀J4:Bool,J4=(decide ((ed:Int)<4))→
      J2 J4) (
      ∀J4:Bool,J4=false→
      J2 J4)) (
     ∀J4:Bool,J4=false→
     J2 J4)) (
    ∀J4:Bool,J4=false→
    J2 J4))∧∀(J9:Nat→Value)(J4:Bool),J2 J4→
  ∃J3:Bool→Prop,(
   split (!J4) (
    J3 true) (
    J3 (!(cf #[(.int .i64 ea),(.int .i64 eb),(.int .i64 ec),(.int .i64 ed),(.bool ee)] #[(.int .i64 OT),(.int .i64 OS),(.int .i64 ec),(.int .i64 ed),(.bool Pz)]))))∧∀(Xj:Nat→Value)(PF:Bool),J3 PF→
  split PF (
   Q ⟨(.int .i64 110),none,[],[],[]⟩) (
   Q ⟨(.int .i64 0),none,[],[],[]⟩)) (
  ∀Mq:Bool,Mq=((ea:Int)==2)→
  split Mq (
   ∃J2:Bool→Prop,(
    split (!Jk) (
     J2 true) (
     J2 (!(cf #[(.int .i64 ea),(.int .i64 eb),(.int .i64 ec),(.int .i64 ed),(.bool ee)] #[(.int .i64 OT),(.int .i64 OS),(.int .i64 PB),(.int .i64 PA),(.bool ee)]))))∧∀(J9:Nat→Value)(PF:Bool),J2 PF→
   split PF (
    Q ⟨(.int .i64 110),none,[],[],[]⟩) (
    Q ⟨(.int .i64 0),none,[],[],[]⟩)) (
   ∃J2:Bool→Prop,(
    split (!Jk) (
     J2 true) (
     J2 (!(cf #[(.int .i64 ea),(.int .i64 eb),(.int .i64 ec),(.int .i64 ed),(.bool ee)] #[(.int .i64 OT),(.int .i64 OS),(.int .i64 PB),(.int .i64 PA),(.bool Pz)]))))∧∀(J9:Nat→Value)(PF:Bool),J2 PF→
   split PF (
    Q ⟨(.int .i64 110),none,[],[],[]⟩) (
    Q ⟨(.int .i64 0),none,[],[],[]⟩)))
theorem EF:Vc2 Un prog (bc [(199,ni)]) [4,30,54] Tryz.f189 (.r' (.r' (.two (.node [] (some ⟨[(4,(.one .bool))],[],[4]++upN 8 8,[]⟩) [] [] .leaf .leaf) (.two (.r' (.node [] (some ⟨[(4,(.one .bool))],[],[4]++upN 19 9,[(1,(.blk [(.v (.int .i64)),(.v (.int .i64)),(.v (.int .i64)),(.v (.int .i64)),(.v .bool)]))]⟩) [] [] (.r' (.node [] (some ⟨[(4,(.one .bool))],[],[4]++upN 22 6,[]⟩) [] [] .leaf .leaf)) .leaf)) (.two (.r' (.two (.r' (.two (.two (.node [] none [] [(1,[0]),(3,[0])] .leaf .leaf) (.node [] (some ⟨[(4,(.one .bool))],[],[4]++upN 38 16,[]⟩) [] [] .leaf .leaf)) .leaf)) .leaf)) (.two (.two (.node [] (some ⟨[(65,(.one .bool))],[],upN 59 7,[]⟩) [] [] .leaf .leaf) .leaf) .leaf)))))) [] kO=(∀ea eb ec ed ee,∀Q,(kO.body ea eb ec ed ee Q)→EE ea eb ec ed ee Q):=by kernel_rfl
section
attribute [local grind=] Ent.ok Ent.eqC
theorem ED:LV Un prog 189 kO:=verify Tryz.func189 aa (tb:= [(199,ni)]) ⟨Ge,trivial⟩ (by kernel_rfl) (EF.mpr fun ea eb ec ed ee Q h gv Jj=>gA ((decide ((ea:Int)≥0)) && (decide ((ea:Int)<7))) (ae (fun c1=>allEq<| (by grind)) fun c1=>allEq<| (by grind))<| ⟨fun Jk OT OS PB PA Pz=>(Jk=(decide (0≤ea∧ea<7) && (ea==0 || decide (0≤eb∧eb≤63))))∧(OT=ea∧OS=(if ea=0 then 0 else eb)∧PB=0∧PA=0∧Pz=false),aK (fun c2=>gA (((decide ((ea:Int)≥0)) && (decide ((ea:Int)<7))) && (decide (0≤eb∧eb≤63))) (ae (fun c3=>allEq<| (by grind)) fun c3=>allEq<| (by grind))<| ⟨(by grind),(by grind)⟩) fun c2=>⟨(by grind),(by grind)⟩,fun _ Jk OT OS PB PA Pz ⟨g1,g2⟩=>allEq<| aB (fun c4=>gA (Jk && ((decide (0≤ec∧ec≤63)) && ((decide ((ed:Int)>0)) && (decide ((ed:Int)<4))))) (ae (fun c5=>ae (fun c6=>ae (fun c7=>allEq<| (by grind)) fun c7=>allEq<| (by grind)) fun c6=>allEq<| (by grind)) fun c5=>allEq<| (by grind))<| gA ((!(Jk && ((decide (0≤ec∧ec≤63)) && ((decide ((ed:Int)>0)) && (decide ((ed:Int)<4)))))) || (!(cf #[(.int .i64 ea),(.int .i64 eb),(.int .i64 ec),(.int .i64 ed),(.bool ee)] #[(.int .i64 OT),(.int .i64 OS),(.int .i64 ec),(.int .i64 ed),(.bool Pz)]))) (ae (fun c8=>(by grind)) fun c8=>(by grind))<| cH (fun c9=>qi h (by grind)) fun c9=>qi h (by grind)) fun c4=>allEq<| aB (fun MW=>gA ((!Jk) || (!(cf #[(.int .i64 ea),(.int .i64 eb),(.int .i64 ec),(.int .i64 ed),(.bool ee)] #[(.int .i64 OT),(.int .i64 OS),(.int .i64 PB),(.int .i64 PA),(.bool ee)]))) (ae (fun Ni=>(by grind)) fun Ni=>(by grind))<| cH (fun OR=>qi h (by grind)) fun OR=>qi h (by grind)) fun MW=>gA ((!Jk) || (!(cf #[(.int .i64 ea),(.int .i64 eb),(.int .i64 ec),(.int .i64 ed),(.bool ee)] #[(.int .i64 OT),(.int .i64 OS),(.int .i64 PB),(.int .i64 PA),(.bool Pz)]))) (ae (fun Nt=>(by grind)) fun Nt=>(by grind))<| cH (fun Rl=>qi h (by grind)) fun Rl=>qi h (by grind)⟩)
end
section
attribute [local grind=] Ent.ok
end
def jr:Ctr Un:=⟨[.agg [.int .i64,.int .i64,.int .i64,.int .i64,.bool]],[],[],[],fun ea eb ec ed ee K=>∀(x:Int)(y:Int)(z:Int),((x=(if(Ent.mk ea eb ec ed ee).ok then(Ent.mk ea eb ec ed ee).w0 else 0)∧y=(if(Ent.mk ea eb ec ed ee).ok then(Ent.mk ea eb ec ed ee).w1 else 0)∧z=(if(Ent.mk ea eb ec ed ee).ok then 0 else 110)))→K ⟨(.tuple #[(.agg #[(.int .u32 x),(.int .u32 y)]),(.int .i64 z)]),(some (.t [none,none])),[],[],[]⟩⟩
def BW(ea:Int)(eb:Int)(ec:Int)(ed:Int)(ee:Bool)(Q:Ou Un→Prop):Prop:=
 ∀(gv:Nat),
 ∀(Jj:Nat),
 split (((if(Ent.mk ea eb ec ed ee).ok then 0 else 110):Int) !=0) (
  Q ⟨(.tuple #[(.agg #[(.int .u32 0),(.int .u32 0)]),(.int .i64 110)]),(some (.t [none,none])),[],[],[]⟩) (
  ∀wv:Int,wv=(u32.wrap (BitVec.ofInt u32.bits (u32.wrap (BitVec.ofInt u32.bits (u32.wrap ((u32.wrap ea:Int)*2 ^ 0)) ||| BitVec.ofInt u32.bits (u32.wrap ((u32.wrap ed:Int)*2 ^ 4))).toNat) ||| BitVec.ofInt u32.bits (u32.wrap ((u32.wrap eb:Int)*2 ^ 16))).toNat)→
  split ee (
   ∀Jb:Int,Jb=(u32.wrap (BitVec.ofInt u32.bits wv ||| BitVec.ofInt u32.bits 256).toNat)→
   Q ⟨(.tuple #[(.agg #[(.int .u32 Jb),(.int .u32 (u32.wrap ec))]),(.int .i64 0)]),(some (.t [none,none])),[],[],[]⟩) (
   Q ⟨(.tuple #[(.agg #[(.int .u32 wv),(.int .u32 (u32.wrap ec))]),(.int .i64 0)]),(some (.t [none,none])),[],[],[]⟩))
theorem BX:Vc2 Un prog (bc [(189,kO)]) [4] Tryz.f170 .leaf [] jr=(∀ea eb ec ed ee,∀Q,(jr.body ea eb ec ed ee Q)→BW ea eb ec ed ee Q):=by kernel_rfl
theorem sU:LV Un prog 170 jr:=verify Tryz.func170 aa (tb:= [(189,kO)]) ⟨ED,trivial⟩ (by kernel_rfl) (BX.mpr fun ea eb ec ed ee Q h gv Jj=>aK (fun c1=>(h 0 0 110 (by grind))) fun c1=>allEq<| ae (fun c2=>allEq<| au (h (u32.wrap (BitVec.ofInt u32.bits (u32.wrap (BitVec.ofInt u32.bits (u32.wrap (BitVec.ofInt u32.bits (u32.wrap ((u32.wrap ea:Int)*2 ^ 0)) ||| BitVec.ofInt u32.bits (u32.wrap ((u32.wrap ed:Int)*2 ^ 4))).toNat) ||| BitVec.ofInt u32.bits (u32.wrap ((u32.wrap eb:Int)*2 ^ 16))).toNat) ||| BitVec.ofInt u32.bits 256).toNat) (u32.wrap ec) 0 (by have hk:=Ent.Dr.1 c1;have h1:=Ent.fl hk;have h2:=Ent.kj hk;simp only at h1 h2;rw [if_pos hk,if_pos hk,if_pos hk];refine⟨?_,dh (x:=ec) (by omega),rfl⟩;have h3:=Ent.or0 hk;simp only at h3;rw [h3,Ent.or1 ⟨ea+16*ed,128*eb,by omega⟩];simp [Ent.w0,c2])) (congrArg (fun l=>Value.tuple (List.toArray l)) (ab (congrArg (fun l=>Value.agg (List.toArray l)) (ab rfl (ab (bQ (by rfl)) rfl))) (ab rfl rfl))) rfl rfl) fun c2=>au (h (u32.wrap (BitVec.ofInt u32.bits (u32.wrap (BitVec.ofInt u32.bits (u32.wrap ((u32.wrap ea:Int)*2 ^ 0)) ||| BitVec.ofInt u32.bits (u32.wrap ((u32.wrap ed:Int)*2 ^ 4))).toNat) ||| BitVec.ofInt u32.bits (u32.wrap ((u32.wrap eb:Int)*2 ^ 16))).toNat) (u32.wrap ec) 0 (by have hk:=Ent.Dr.1 c1;have h1:=Ent.fl hk;have h2:=Ent.kj hk;simp only at h1 h2;rw [if_pos hk,if_pos hk,if_pos hk];refine⟨?_,dh (x:=ec) (by omega),rfl⟩;have h3:=Ent.or0 hk;simp only at h3;rw [h3];simp [Ent.w0,c2])) (congrArg (fun l=>Value.tuple (List.toArray l)) (ab (congrArg (fun l=>Value.agg (List.toArray l)) (ab rfl (ab (bQ (by rfl)) rfl))) (ab rfl rfl))) rfl rfl)
theorem Ent.FB {a b x y z:Int}(h:x=(if(parts a b).ok then(parts a b).w0 else 0)∧y=(if(parts a b).ok then(parts a b).w1 else 0)∧z=(if(parts a b).ok then 0 else 110))(c:(z !=0)=true∨(!(cf #[.int .u32 x,.int .u32 y] #[.int .u32 a,.int .u32 b]))=true):dec a b=free∧eI a b=110:=by
 obtain⟨rfl,rfl,rfl⟩:=h
 rw [eqW]at c
 cases hk:(parts a b).ok<;>simp [hk]at c
 ·simp [dec,eI,hk]
 ·have h2:¬((parts a b).w0=a∧(parts a b).w1=b):=by rcases c with c | c<;>simp [c]
  simp [dec,eI,hk,h2]
theorem Ent.DF {a b x y z:Int}(h:x=(if(parts a b).ok then(parts a b).w0 else 0)∧y=(if(parts a b).ok then(parts a b).w1 else 0)∧z=(if(parts a b).ok then 0 else 110))(c:(z !=0)=false∧(!(cf #[.int .u32 x,.int .u32 y] #[.int .u32 a,.int .u32 b]))=false):dec a b=parts a b∧eI a b=0:=by
 obtain⟨rfl,rfl,rfl⟩:=h
 rw [eqW]at c
 cases hk:(parts a b).ok<;>simp [hk]at c
 simp [dec,eI,hk,c]
def nZ:Ctr Un:=⟨[.agg [.int .u32,.int .u32]],[],[],[],fun wa wb K=>(0≤(wa:Int)∧(wa:Int)<4294967296)∧(0≤(wb:Int)∧(wb:Int)<4294967296)∧K ⟨(.tuple #[(.agg #[(.int .i64 ((Ent.dec wa wb).typ)),(.int .i64 ((Ent.dec wa wb).owner)),(.int .i64 ((Ent.dec wa wb).refs)),(.int .i64 ((Ent.dec wa wb).state)),(.bool ((Ent.dec wa wb).bS))]),(.int .i64 (Ent.eI wa wb))]),(some (.t [none,none])),[],[],[]⟩⟩
def BZ(wa:Int)(wb:Int)(Q:Ou Un→Prop):Prop:=
 ∀(gv:Nat),
 ∀(Jj:Nat),
 (0≤(0:Int)∧(0:Int)<(2:Int))∧
 ∀Lj:Int,Lj=(i64.wrap (u32.wrap (BitVec.ofInt u32.bits ((wa:Int).fdiv (2 ^ 0)) &&& BitVec.ofInt u32.bits 7).toNat))→
 (0≤(0:Int)∧(0:Int)<(2:Int))∧
 ∀J6:Int,J6=(i64.wrap (u32.wrap (BitVec.ofInt u32.bits ((wa:Int).fdiv (2 ^ 4)) &&& BitVec.ofInt u32.bits 3).toNat))→
 (0≤(0:Int)∧(0:Int)<(2:Int))∧
 ∀KL:Bool,KL=((u32.wrap (BitVec.ofInt u32.bits ((wa:Int).fdiv (2 ^ 8)) &&& BitVec.ofInt u32.bits 1).toNat:Int)==1)→
 (0≤(0:Int)∧(0:Int)<(2:Int))∧
 ∀Ms:Int,Ms=(i64.wrap (u32.wrap (BitVec.ofInt u32.bits ((wa:Int).fdiv (2 ^ 16)) &&& BitVec.ofInt u32.bits 63).toNat))→
 (0≤(1:Int)∧(1:Int)<(2:Int))∧
 ∀KN:Int,KN=(i64.wrap (u32.wrap (BitVec.ofInt u32.bits wb &&& BitVec.ofInt u32.bits 63).toNat))→
 ∀(Kz:Nat),
 ∀(x:Int)(y:Int)(z:Int),
 ((x=(if(Ent.mk Lj Ms KN J6 KL).ok then(Ent.mk Lj Ms KN J6 KL).w0 else 0)∧y=(if(Ent.mk Lj Ms KN J6 KL).ok then(Ent.mk Lj Ms KN J6 KL).w1 else 0)∧z=(if(Ent.mk Lj Ms KN J6 KL).ok then 0 else 110)))→
 ∀(Ju:Nat),
 ∃J:Bool→Prop,(
  split (z !=0) (
   J true) (
   J (!(cf #[(.int .u32 x),(.int .u32 y)] #[(.int .u32 wa),(.int .u32 wb)]))))∧∀(J9:Nat→Value)(Lx:Bool),J Lx→
 split Lx (
  Q ⟨(.tuple #[(.agg #[(.int .i64 0),(.int .i64 0),(.int .i64 0),(.int .i64 0),(.bool false)]),(.int .i64 110)]),(some (.t [none,none])),[],[],[]⟩) (
  Q ⟨(.tuple #[(.agg #[(.int .i64 Lj),(.int .i64 Ms),(.int .i64 KN),(.int .i64 J6),(.bool KL)]),(.int .i64 0)]),(some (.t [none,none])),[],[],[]⟩)
theorem B0:Vc2 Un prog (bc [(170,jr)]) [11,16,21,26,30] Tryz.f121 (.r' (.r' (.two (.r' (.two (.node [] (some ⟨[(43,(.one .bool))],[],upN 37 7,[]⟩) [] [] .leaf .leaf) .leaf)) .leaf))) [] nZ=(∀wa wb,∀Q,(nZ.body wa wb Q)→BZ wa wb Q):=by kernel_rfl
theorem BY:LV Un prog 121 nZ:=verify Tryz.func121 aa (tb:= [(170,jr)]) ⟨sU,trivial⟩ (by kernel_rfl) (B0.mpr fun wa wb Q h=>by
 obtain⟨e1,e2,e3,e4,e5⟩:=Ent.parts_eq h.1 h.2.1
 obtain⟨Jl,Jp,h⟩:=h
 exact fun gv Jj=>af (by omega) fun s1 Lj Qh=>af ‹_› fun s2 J6 Qg=>af ‹_› fun s3 KL Qf=>af ‹_› fun s4 Ms Qe=>af (by omega) fun s5 KN Qd Kz x y z f6=>(by rw [e1]at Qh;rw [e2]at Qe;rw [e3]at Qd;rw [e4]at Qg;rw [e5]at Qf;subst Qh Qe Qd Qg Qf;exact fun Ju=>gA (((z:Int) !=0) || (!(cf #[(.int .u32 x),(.int .u32 y)] #[(.int .u32 wa),(.int .u32 wb)]))) (ae (fun c1=>(by grind)) fun c1=>(by grind))<| cH (fun c2=>(by have hd:=Ent.FB (a:=wa) (b:=wb) f6 c2;exact au h (by rw [hd.1,hd.2]<;>rfl) rfl rfl)) fun c2=>(by have hd:=Ent.DF (a:=wa) (b:=wb) f6 c2;exact au h (by rw [hd.1,hd.2]<;>rfl) rfl rfl)))
theorem puC {P:Program} {f:Nat} {args:Array Value} {w:World} {v:Value} {k:Option Kn}(h:∀X:Nat→Nat→Prop,Sat (U:=Un) [] X w→av (U:=Un) [] fr0 []→Calls P f args w (aT (U:=Un) [] [] X w (fun o=>o=⟨v,k,[],[],[]⟩)))(hk:iH k v= .returned v:=by rfl):Calls P f args w fun e w'=>∃u,e= .returned u∧u=v∧Pu w w':=by
 refine(h (fun _ _=>False) ⟨fun i r h=>by simp [nth]at h,fun _ _ _ _ _ _ h=>h.elim⟩ (fun _ _ h=>by cases h)).mono ?_
 rintro e w' ⟨out,rs',X',rfl,rfl,_,hp⟩
 exact⟨_,hk,rfl,hp.ch.mono fun k ⟨j,hj,_⟩=>by cases hj⟩
theorem Fx {w:World}(ea eb ec ed:Int)(ee:Bool):
 Calls prog 170 #[(.agg #[(.int .i64 ea),(.int .i64 eb),(.int .i64 ec),(.int .i64 ed),(.bool ee)])] w fun e w'=>∃v,e= .returned v∧v= .tuple #[(.agg #[(.int .u32 (if(Ent.mk ea eb ec ed ee).ok then(Ent.mk ea eb ec ed ee).w0 else 0)),(.int .u32 (if(Ent.mk ea eb ec ed ee).ok then(Ent.mk ea eb ec ed ee).w1 else 0))]),(.int .i64 (if(Ent.mk ea eb ec ed ee).ok then 0 else 110))]∧Pu w w':=
 puC fun X=>sU ea eb ec ed ee (fun o=>o=_) (fun x y z h=>by obtain⟨rfl,rfl,rfl⟩:=h;rfl) X w
theorem z7 {w:World}(wa wb:Int)(ha:0≤wa∧wa<4294967296)(hb:0≤wb∧wb<4294967296):
 Calls prog 121 #[(.agg #[(.int .u32 wa),(.int .u32 wb)])] w fun e w'=>∃v,e= .returned v∧v=(.tuple #[(.agg #[(.int .i64 ((Ent.dec wa wb).typ)),(.int .i64 ((Ent.dec wa wb).owner)),(.int .i64 ((Ent.dec wa wb).refs)),(.int .i64 ((Ent.dec wa wb).state)),(.bool ((Ent.dec wa wb).bS))]),(.int .i64 (Ent.eI wa wb))])∧Pu w w':=
 puC fun X=>BY wa wb (fun o=>o=_) ⟨ha,hb,rfl⟩ X w
end
end Go.Proofs.YtinhphjfnedhgaaGreatDoor
namespace Go.Proofs.YtinhphjfnedhgaaGreatDoor
open Go.Proofs.Tryz (prog)
open Go Go.RowKit V
open Go.IntKind (i64 u32 u64)
section
set_option maxRecDepth 10000
set_option maxHeartbeats 1000000
theorem Hk {w:World}(t:Int):
 Calls prog 128 #[(.int .i64 t)] w fun e w'=>∃v,e= .returned v∧v= .bool (DB.turns t)∧Pu w w':=by
 refine uH _ ?_
 have hp:=Ch.refl (fun _=>False) w
 refine⟨fun x w'=>x=(((t:Int)==4) || (((t:Int)==5) || ((t:Int)==6)))∧Pu w w',?_,?_⟩
 ·refine ae (fun c1=>?_) (fun c1=>?_)
  ·exact⟨by simp only [c1,Bool.true_and,Bool.and_true,Bool.false_and,Bool.and_false,Bool.true_or,Bool.or_true,Bool.false_or,Bool.or_false,Bool.not_true,Bool.not_false,if_true,if_false,Bool.false_eq_true],Ch.refl _ _⟩
  ·refine ae (fun c2=>?_) (fun c2=>?_)
   ·exact⟨by simp only [c1,c2,Bool.true_and,Bool.and_true,Bool.false_and,Bool.and_false,Bool.true_or,Bool.or_true,Bool.false_or,Bool.or_false,Bool.not_true,Bool.not_false,if_true,if_false,Bool.false_eq_true],Ch.refl _ _⟩
   ·exact⟨by simp only [c1,c2,Bool.true_and,Bool.and_true,Bool.false_and,Bool.and_false,Bool.true_or,Bool.or_true,Bool.false_or,Bool.or_false,Bool.not_true,Bool.not_false,if_true,if_false,Bool.false_eq_true],Ch.refl _ _⟩
 rintro _ _ wv ⟨rfl,Jo⟩
 have hp:=Ch.pu hp Jo
 exact⟨congrArg Value.bool (by simp [DB.turns,Bool.or_assoc]),hp⟩
theorem lg {w:World}(ak:Int):
 Calls prog 78 #[(.int .i64 ak)] w fun e w'=>∃v,e= .returned v∧v= .agg #[(.bool true),(.int .i64 ak)]∧Pu w w':=by
 refine rK _ ?_
 have hp:=Ch.refl (fun _=>False) w
 refine mkd fun gv wv Jh=>?_
 have Jm:=Jh.lo hp
 have I7:=Jh.blk
 refine cv I7 (by simp) fun Jb KV=>?_
 have I7:Blk Jb gv #[(.bool true),(.int .i64 ak)] _:=KV.blk
 refine⟨_,_,⟨I7.at rfl,I7.at rfl⟩,?_⟩
 have hp:=Ch.call (Ch.made hp Jh) KV.ch (by exact fun k e=>.inr (e▸Jm))
 exact⟨rfl,hp⟩
theorem DG {L:fg} {D:DB} {w:World}(h:DBP w L D):
 Calls prog 120 #[(.pointer (some (Addr.mk L.g 0 none)))] w fun e w'=>∃v,e= .returned v∧v= .int .i64 (D.S:Int)∧w'=w:=by
 refine nr (some (Addr.mk L.g 0 none)) ?_
 obtain⟨_,dhd_h⟩:=h.hd
 refine ai _ rfl ⟨_,_,_,dhd_h.at rfl,?_⟩
 exact⟨congrArg (Value.int .i64) (by have:=h.S64;rw [ax (by rw [Int.tdiv_eq_ediv_of_nonneg (by omega)];unfold DB.S DB.n2 at *;omega)];rw [Int.tdiv_eq_ediv_of_nonneg (by omega)];unfold DB.S DB.n2;omega),rfl⟩
theorem yF {L:fg} {D:DB} {w:World}(h:DBP w L D)(ak:Int):
 Calls prog 57 #[(.pointer (some (Addr.mk L.g 0 none))),(.int .i64 ak)] w fun e w'=>∃v,e= .returned v∧v= .bool (D.has ak)∧Pu w w':=by
 refine ri (some (Addr.mk L.g 0 none)) _ ?_
 have hp:=Ch.refl (fun _=>False) w
 have Kd:=h.lt
 refine⟨fun x w'=>x=((decide ((ak:Int)≥0)) && (decide ((ak:Int)<(D.S:Int))))∧Pu w w',?_,?_⟩
 ·refine ae (fun c1=>?_) (fun c1=>?_)
  ·refine Calls.mono (DG h) ?_
   rintro e w9 ⟨_,rfl,rfl,e9⟩
   obtain rfl:=e9.symm
   refine⟨_,rfl,?_⟩
   exact⟨by simp only [c1,Bool.true_and,Bool.and_true,Bool.false_and,Bool.and_false,Bool.true_or,Bool.or_true,Bool.false_or,Bool.or_false,Bool.not_true,Bool.not_false,if_true,if_false,Bool.false_eq_true],Ch.refl _ _⟩
  ·exact⟨by simp only [c1,Bool.true_and,Bool.and_true,Bool.false_and,Bool.and_false,Bool.true_or,Bool.or_true,Bool.false_or,Bool.or_false,Bool.not_true,Bool.not_false,if_true,if_false,Bool.false_eq_true],Ch.refl _ _⟩
 rintro _ _ wv ⟨rfl,Jo⟩
 have hp:=Ch.pu hp Jo
 exact⟨congrArg Value.bool (by rw [Bool.eq_iff_iff];simp [DB.has]),hp⟩
theorem dAt {L:fg} {D:DB} {w:World}(h:DBP w L D)(ak:Int)(hp:D.has ak=true):
 Calls prog 58 #[.pointer (some (Addr.mk L.g 0 none)),.int .i64 ak] w fun e w'=>∃v,e= .returned v∧v= .agg #[.int .i64 (D.at_ ak).typ,.int .i64 (D.at_ ak).owner,.int .i64 (D.at_ ak).refs,.int .i64 (D.at_ ak).state,.bool (D.at_ ak).bS]∧Pu w w':=by
 refine B9 _ _ ?_
 refine mkd fun gv wv m=>?_
 have h1:=h.pu m.pu
 obtain⟨T,hd⟩:=h1.hd
 obtain⟨T2,cs,hr,JR,hw⟩:=h1.ws
 have hn:=DB.dA hp
 have ho:=DB.ay hp
 have Xb:=h.S64
 have e0:i64.wrap (2*ak)=2*ak:=ax (by omega)
 have e1:(2*ak).toNat=2*ak.toNat:=by omega
 have e2:D.n2=2*D.S:=rfl
 refine ai _ rfl ⟨_,_,_,hd.at rfl,by rw [e0,e2];omega,?_⟩
 rintro _ rfl _ rfl _ rfl
 rw [e0,e1,e2]
 refine⟨by omega,ai (Addr.mk L.a (2*ak.toNat) none) (by rw [if_neg (by omega)];simp [Addr.add];omega) ?_⟩
 refine⟨_,_,⟨by rw [bG];exact hr.cell (hw _ hn).1,by rw [bG];exact hr.cell (hw _ hn).2⟩,?_⟩
 have Kg:=(h.ok.ent _ hn).1
 refine Calls.mono (z7 _ _ (Ent.uT Kg) (Ent.uS Kg)) ?_
 rw [(Ent.tP Kg).1,(Ent.tP Kg).2]
 rintro e w1 ⟨_,rfl,rfl,q1⟩
 refine⟨_,_,_,_,_,_,rfl,?_⟩
 refine mkd fun g1 w2 m1=>?_
 have b1:=m1.blk
 have b0:=m1.old (q1.blk m.blk)
 have ne:=m1.ne (q1.blk m.blk)
 refine cv b1 (by simp) fun w3 s3=>?_
 have Vl:Blk w3 g1 #[.int .i64 (D.at_ ak).typ,.int .i64 (D.at_ ak).owner,.int .i64 (D.at_ ak).refs,.int .i64 (D.at_ ak).state,.bool (D.at_ ak).bS] _:=s3.blk
 refine⟨_,_,_,_,_,⟨Vl.at rfl,Vl.at rfl,Vl.at rfl,Vl.at rfl,Vl.at rfl⟩,?_⟩
 refine cv (s3.old b0 ne) (by simp) fun w4 s4=>?_
 have Vm:Blk w4 gv #[.int .i64 (D.at_ ak).typ,.int .i64 (D.at_ ak).owner,.int .i64 (D.at_ ak).refs,.int .i64 (D.at_ ak).state,.bool (D.at_ ak).bS] _:=s4.blk
 refine⟨_,_,_,_,_,⟨Vm.at rfl,Vm.at rfl,Vm.at rfl,Vm.at rfl,Vm.at rfl⟩,?_⟩
 have Jl:Pu w wv:=m.pu
 have JD:Pu w w2:=(Jl.trans q1).made m1
 exact⟨rfl,(JD.stored s3 (.inr (m1.lo (Jl.trans q1)))).stored s4 (.inr (m.lo (Ch.refl (fun _=>False) w)))⟩
theorem Bg {L:fg} {D:DB} {w:World}(h:DBP w L D)(ak:Int)(ea eb ec ed:Int)(ee:Bool)(hp:D.has ak=true)(he:(Ent.mk ea eb ec ed ee).ok=true)(Lt:eb<(D.S:Int)):
 Calls prog 115 #[.pointer (some (Addr.mk L.g 0 none)),.int .i64 ak,.agg #[.int .i64 ea,.int .i64 eb,.int .i64 ec,.int .i64 ed,.bool ee]] w fun e w'=>∃v,e= .returned v∧v= .tuple #[]∧DBP w' L (D.set ak ⟨ea,eb,ec,ed,ee⟩)∧Ch L.X w w':=by
 refine zj _ _ _ _ _ _ _ ?_
 refine mkd fun gv wv m=>?_
 have b:=m.blk
 refine⟨_,_,_,_,_,⟨b.at rfl,b.at rfl,b.at rfl,b.at rfl,b.at rfl⟩,?_⟩
 refine Calls.mono (Fx _ _ _ _ _) ?_
 rw [if_pos he,if_pos he,if_pos he]
 rintro e w1 ⟨_,rfl,rfl,q1⟩
 refine⟨_,_,_,rfl,?_⟩
 refine mkd fun g1 w2 m1=>?_
 have p2:Pu w w2:=((show Pu w wv from m.pu).trans q1).made m1
 refine cv m1.blk (by simp) fun w3 s3=>?_
 have b1:Blk w3 g1 #[.int .u32 (Ent.mk ea eb ec ed ee).w0,.int .u32 (Ent.mk ea eb ec ed ee).w1] _:=s3.blk
 have p3:Pu w w3:=p2.stored s3 (.inr (m1.lo ((show Pu w wv from m.pu).trans q1)))
 have h3:=(h.pu p3).pu (Pu.aW w3)
 have b1:=b1.drew
 obtain⟨T,hd⟩:=h3.hd
 obtain⟨T2,cs,hr,JR,hw⟩:=h3.ws
 have hn:=DB.dA hp
 have ho:=DB.ay hp
 have Xb:=h.S64
 have e0:i64.wrap (2*ak)=2*ak:=ax (by omega)
 have e1:(2*ak).toNat=2*ak.toNat:=by omega
 have e2:D.n2=2*D.S:=rfl
 have hga:g1≠L.a:=fun e=>by have h5:=(h.lt L.a (.inr (.inl rfl)));have h6:=m1.lo ((show Pu w wv from m.pu).trans q1);omega
 refine⟨fun _ k=>k=L.g,ai _ rfl ⟨block_add _ _,_,_,_,hd.at rfl,by rw [e0,e2];omega,?_⟩⟩
 rintro _ rfl _ rfl _ rfl _ rfl _ rfl _ rfl
 rw [e0,e1,e2,if_neg (by omega),if_neg (by omega)]
 have hl:cP w3.drew (fun k=>k=g1) .u32 (some ((Addr.mk g1 0 none).add (0*1))) (2 - 0) (2 - 0) [(Ent.mk ea eb ec ed ee).w0,(Ent.mk ea eb ec ed ee).w1]:=
  cP.blk (m:=0) (Z:=fun k=>k=g1) b1 rfl (Nat.le_refl _) rfl (fun j x hx=>by
   match j with
   | 0=>simp at hx;subst hx;rfl
   | 1=>simp at hx;subst hx;rfl
   | j+2=>simp at hx)
 have hA:(Option.map (fun x:Addr=>x.add (2*ak.toNat *1)) (some (Addr.mk L.a 0 none)))=some (Addr.mk L.a (2*ak.toNat) none):=by simp [Addr.add];omega
 rw [hA]
 obtain⟨x,w4,KK,Wj⟩:=oZ (P:=prog) (dT:=62) (sT:=62) (ty:=3) (o:=2*ak.toNat) (dn:=2*D.S - 2*ak.toNat) (dc:=2*D.S - 2*ak.toNat) pO hr hl (by rw [JR,e2];omega) (K:=fun w4=>bz w3.drew L.a (setAt cs (2*ak.toNat) [.int .u32 (Ent.mk ea eb ec ed ee).w0,.int .u32 (Ent.mk ea eb ec ed ee).w1]) T2 w4)
  (fun w4 hs=>by rw [show min (2 - 0) (2*D.S - 2*ak.toNat)=2 by omega]at hs;exact hs)
 refine⟨x,w4,KK,Wj.kept.mono (fun k hk=>by have hk:k=L.g:=(by simpa [bM]using hk);rw [hk];exact fun e=>h.dis.1 e.symm),fun _ k=>k=L.g,fun _ k hk=>hk,rfl,h3.GQ hp he Lt hr Wj,?_⟩
 exact(((p3.mono (by simp):Ch L.X w w3)).drew).stored Wj (.inl (.inr (.inl rfl)))
theorem Hl {L:fg} {D:DB} {w:World}(h:DBP w L D)(ak:Int):
 Calls prog 18 #[(.pointer (some (Addr.mk L.g 0 none))),(.int .i64 ak)] w fun e w'=>∃v,e= .returned v∧v= .tuple #[(.agg #[(.int .i64 ((D.entry ak).typ)),(.int .i64 ((D.entry ak).owner)),(.int .i64 ((D.entry ak).refs)),(.int .i64 ((D.entry ak).state)),(.bool ((D.entry ak).bS))]),(.int .i64 (D.aS ak))]∧Pu w w':=by
 refine uK (some (Addr.mk L.g 0 none)) _ ?_
 have hp:=Ch.refl (fun _=>False) w
 have Kd:=h.lt
 refine mkd fun gv wv Jh=>?_
 have Jm:=Jh.lo hp
 have I7:=Jh.blk
 have h:=h.pu Jh.pu
 refine Calls.mono (yF h _) ?_
 rintro e Jb ⟨_,rfl,rfl,Jf⟩
 refine⟨_,rfl,?_⟩
 refine cQ (fun c1=>?_) (fun c1=>?_)
 ·have I7:=Pu.blk Jf I7
  refine cv I7 (by simp) fun Jc J7=>?_
  have I7:Blk Jc gv #[(.int .i64 0),(.int .i64 0),(.int .i64 0),(.int .i64 0),(.bool false)] _:=J7.blk
  refine⟨_,_,_,_,_,⟨I7.at rfl,I7.at rfl,I7.at rfl,I7.at rfl,I7.at rfl⟩,?_⟩
  have hp:=Ch.call (Ch.pu (Ch.made hp Jh) Jf) J7.ch (by exact fun k e=>.inr (e▸Jm))
  exact⟨by(simp [DB.entry,DB.aS,c1];done),hp⟩
 ·have h:=h.pu Jf
  refine Calls.mono (dAt h _ ‹_›) ?_
  rintro e Jc ⟨_,rfl,rfl,JI⟩
  have I7:=Pu.blk JI (Pu.blk Jf I7)
  refine⟨_,_,_,_,_,rfl,cv I7 (by simp) fun Ji Jn=>?_⟩
  have I7:Blk Ji gv #[(.int .i64 ((D.at_ ak).typ)),(.int .i64 ((D.at_ ak).owner)),(.int .i64 ((D.at_ ak).refs)),(.int .i64 ((D.at_ ak).state)),(.bool ((D.at_ ak).bS))] _:=Jn.blk
  refine⟨_,_,_,_,_,⟨I7.at rfl,I7.at rfl,I7.at rfl,I7.at rfl,I7.at rfl⟩,?_⟩
  have hp:=Ch.call (Ch.pu (Ch.pu (Ch.made hp Jh) Jf) JI) Jn.ch (by exact fun k e=>.inr (e▸Jm))
  exact⟨by(simp [DB.entry,DB.aS,c1];done),hp⟩
theorem vR {L:fg} {D:DB} {w:World}(h:DBP w L D)(ak:Int):
 Calls prog 116 #[(.pointer (some (Addr.mk L.g 0 none))),(.int .i64 ak)] w fun e w'=>∃v,e= .returned v∧v= .bool (D.cD ak)∧Pu w w':=by
 refine rh (some (Addr.mk L.g 0 none)) _ ?_
 have hp:=Ch.refl (fun _=>False) w
 have Kd:=h.lt
 refine⟨fun x w'=>x=((D.has ak) && ((((D.at_ ak).typ):Int)==1))∧Pu w w',?_,?_⟩
 ·refine Calls.mono (yF h _) ?_
  rintro e wv ⟨_,rfl,rfl,Jo⟩
  refine⟨_,rfl,?_⟩
  refine ae (fun c1=>?_) (fun c1=>?_)
  ·have h:=h.pu Jo
   refine Calls.mono (dAt h _ ‹_›) ?_
   rintro e Jb ⟨_,rfl,rfl,Jf⟩
   refine⟨_,_,_,_,_,rfl,?_⟩
   exact⟨by simp only [c1,Bool.true_and,Bool.and_true,Bool.false_and,Bool.and_false,Bool.true_or,Bool.or_true,Bool.false_or,Bool.or_false,Bool.not_true,Bool.not_false,if_true,if_false,Bool.false_eq_true],(Ch.pu Jo Jf)⟩
  ·exact⟨by simp only [c1,Bool.true_and,Bool.and_true,Bool.false_and,Bool.and_false,Bool.true_or,Bool.or_true,Bool.false_or,Bool.or_false,Bool.not_true,Bool.not_false,if_true,if_false,Bool.false_eq_true],Jo⟩
 rintro _ _ wv ⟨rfl,Jo⟩
 have hp:=Ch.pu hp Jo
 exact⟨congrArg Value.bool (by(simp [DB.cD];done)),hp⟩
theorem Gz {L:fg} {D:DB} {w:World}(h:DBP w L D)(space:Int)(more:Int)(hp:D.has space=true)(he:({D.at_ space with refs:=(D.at_ space).refs+more}:Ent).ok=true):
 Calls prog 117 #[(.pointer (some (Addr.mk L.g 0 none))),(.int .i64 space),(.int .i64 more)] w fun e w'=>∃v,e= .returned v∧v= .tuple #[]∧DBP w' L (D.more space more)∧Ch L.X w w':=by
 refine xI (some (Addr.mk L.g 0 none)) _ _ ?_
 have hi:i64.wrap ((D.at_ space).refs+more)=(D.at_ space).refs+more:=ax (by have:=Ent.fl he;simp only at this;omega)
 have ho:=(h.ok.ent _ (DB.dA hp)).2
 have hp:=Ch.refl L.X w
 have Kd:=h.lt
 refine Calls.mono (dAt h _ ‹_›) ?_
 rintro e wv ⟨_,rfl,rfl,Jo⟩
 refine⟨_,_,_,_,_,rfl,?_⟩
 have hp:=Ch.pu hp Jo
 refine mkd fun gv Jb Jh=>?_
 have Jm:=Jh.lo hp
 have I7:=Jh.blk
 refine cv I7 (by simp) fun Jc J7=>?_
 have I7:Blk Jc gv #[(.int .i64 ((D.at_ space).typ)),(.int .i64 ((D.at_ space).owner)),(.int .i64 ((D.at_ space).refs)),(.int .i64 ((D.at_ space).state)),(.bool ((D.at_ space).bS))] _:=J7.blk
 refine⟨_,I7.at rfl,bI I7 (by simp) fun Ji Jn=>?_⟩
 have I7:Blk Ji gv #[(.int .i64 ((D.at_ space).typ)),(.int .i64 ((D.at_ space).owner)),_,(.int .i64 ((D.at_ space).state)),(.bool ((D.at_ space).bS))] _:=Jn.blk
 refine⟨_,_,_,_,_,⟨I7.at rfl,I7.at rfl,I7.at rfl,I7.at rfl,I7.at rfl⟩,?_⟩
 have h:=(((h.pu Jo).pu Jh.pu).ch J7.ch (fun k hx e=>(fun hx=>absurd (Kd _ hx) (Nat.not_lt.2 Jm)) (e▸hx))).ch Jn.ch (fun k hx e=>(fun hx=>absurd (Kd _ hx) (Nat.not_lt.2 Jm)) (e▸hx))
 refine Calls.mono (Bg h _ _ _ _ _ _ ‹_› (by rw [hi];exact he) (by exact ho)) ?_
 rintro e Jq ⟨_,rfl,rfl,h,JQ⟩
 refine⟨rfl,?_⟩
 have hp:=Ch.call (Ch.call (Ch.call (Ch.made hp Jh) J7.ch (by exact fun k e=>.inr (e▸Jm))) Jn.ch (by exact fun k e=>.inr (e▸Jm))) JQ (by exact fun k hk=>.inl hk)
 exact⟨rfl,by rw [show D.more space more=D.set space ⟨((D.at_ space).typ),((D.at_ space).owner),(i64.wrap (((D.at_ space).refs)+more)),((D.at_ space).state),((D.at_ space).bS)⟩from by rw [hi];rfl];exact h,hp⟩
theorem Im {L:fg} {D:DB} {w:World}(h:DBP w L D)(ak:Int)(t:Int)(space:Int):
 Calls prog 64 #[(.pointer (some (Addr.mk L.g 0 none))),(.int .i64 ak),(.int .i64 t),(.int .i64 space)] w fun e w'=>∃v,e= .returned v∧v= .int .i64 (D.aZ ak t space)∧DBP w' L (D.take ak t space)∧Ch L.X w w':=by
 refine xF (some (Addr.mk L.g 0 none)) _ _ _ ?_
 have h_0:=h
 have hp:=Ch.refl L.X w
 have Kd:=h.lt
 refine Calls.mono (yF h _) ?_
 rintro e wv ⟨_,rfl,rfl,Jo⟩
 refine⟨_,rfl,?_⟩
 rintro _ rfl
 refine cQ (fun c1=>?_) (fun c1=>?_)
 ·have h:=h.pu Jo
  have hp:=Ch.pu hp Jo
  exact⟨congrArg (Value.int .i64) (by(simp [DB.take,DB.bT,DB.aZ,c1];done)),by rw [show D.take ak t space=D from by(simp [DB.take,DB.bT,DB.aZ,c1];done)];exact h,hp⟩
 ·refine⟨fun x w'=>x=(((t:Int) !=2) && (!(DB.turns t)))∧Pu wv w',?_,?_⟩
  ·refine ae (fun c2=>?_) (fun c2=>?_)
   ·refine Calls.mono (Hk _) ?_
    rintro e Jb ⟨_,rfl,rfl,Jf⟩
    refine⟨_,rfl,?_⟩
    rintro _ rfl
    exact⟨by simp only [c2,Bool.true_and,Bool.and_true,Bool.false_and,Bool.and_false,Bool.true_or,Bool.or_true,Bool.false_or,Bool.or_false,Bool.not_true,Bool.not_false,if_true,if_false,Bool.false_eq_true],Jf⟩
   ·rintro _ rfl
    exact⟨by simp only [c2,Bool.true_and,Bool.and_true,Bool.false_and,Bool.and_false,Bool.true_or,Bool.or_true,Bool.false_or,Bool.or_false,Bool.not_true,Bool.not_false,if_true,if_false,Bool.false_eq_true],Ch.refl _ _⟩
  rintro _ _ Jb ⟨rfl,Jf⟩
  refine eA (fun c3=>?_) (fun c3=>?_)
  ·have h:=(h.pu Jo).pu Jf
   have hp:=Ch.pu (Ch.pu hp Jo) Jf
   exact⟨congrArg (Value.int .i64) (by(simp [DB.take,DB.bT,DB.aZ,c1,c3];done)),by rw [show D.take ak t space=D from by(simp [DB.take,DB.bT,DB.aZ,c1,c3];done)];exact h,hp⟩
  ·refine⟨fun x w'=>x=((!(D.cD space)) || (decide ((((D.at_ space).refs):Int)≥63)))∧Pu Jb w',?_,?_⟩
   ·have h:=(h.pu Jo).pu Jf
    refine Calls.mono (vR h _) ?_
    rintro e Jc ⟨_,rfl,rfl,JI⟩
    refine⟨_,rfl,?_⟩
    refine ae (fun c4=>?_) (fun c4=>?_)
    ·rintro _ rfl
     exact⟨by simp only [c4,Bool.true_and,Bool.and_true,Bool.false_and,Bool.and_false,Bool.true_or,Bool.or_true,Bool.false_or,Bool.or_false,Bool.not_true,Bool.not_false,if_true,if_false,Bool.false_eq_true],JI⟩
    ·have h:=h.pu JI
     refine Calls.mono (dAt h _ (by grind [DB.take,DB.bT,DB.aZ,DB.cD])) ?_
     rintro e Ji ⟨_,rfl,rfl,JC⟩
     refine⟨_,_,_,_,_,rfl,?_⟩
     rintro _ rfl
     exact⟨by simp only [c4,Bool.true_and,Bool.and_true,Bool.false_and,Bool.and_false,Bool.true_or,Bool.or_true,Bool.false_or,Bool.or_false,Bool.not_true,Bool.not_false,if_true,if_false,Bool.false_eq_true],(Ch.pu JI JC)⟩
   rintro _ _ Jc ⟨rfl,JI⟩
   refine cH (fun c5=>?_) (fun c5=>?_)
   ·have h:=((h.pu Jo).pu Jf).pu JI
    have hp:=Ch.pu (Ch.pu (Ch.pu hp Jo) Jf) JI
    exact⟨congrArg (Value.int .i64) (by grind [DB.take,DB.bT,DB.aZ]),by rw [show D.take ak t space=D from by grind [DB.take,DB.bT,DB.aZ]];exact h,hp⟩
   ·have h:=((h.pu Jo).pu Jf).pu JI
    refine Calls.mono (dAt h _ ‹_›) ?_
    rintro e Ji ⟨_,rfl,rfl,JC⟩
    refine⟨_,_,_,_,_,rfl,?_⟩
    rintro _ rfl
    refine aK (fun c6=>?_) (fun c6=>?_)
    ·have h:=h.pu JC
     have hp:=Ch.pu (Ch.pu (Ch.pu (Ch.pu hp Jo) Jf) JI) JC
     exact⟨congrArg (Value.int .i64) (by grind [DB.take,DB.bT,DB.aZ]),by rw [show D.take ak t space=D from by grind [DB.take,DB.bT,DB.aZ]];exact h,hp⟩
    ·have h:=h.pu JC
     refine Calls.mono (Bg h _ _ _ _ _ _ ‹_› (by obtain⟨KH,NS⟩:=DB.eX (d:=D) (p:=space) (by grind);have:=DB.ay KH;have:=h.S64;exact DB.C3 (by grind) (by omega)) (by obtain⟨KH,NS⟩:=DB.eX (d:=D) (p:=space) (by grind);exact(DB.ay KH).2)) ?_
     rintro e Jq ⟨_,rfl,rfl,h,JQ⟩
     refine⟨rfl,?_⟩
     refine Calls.mono (Gz h _ _ (by obtain⟨KH,NS⟩:=DB.eX (d:=D) (p:=space) (by grind);exact KH) (by obtain⟨KH,NS⟩:=DB.eX (d:=D) (p:=space) (by grind);rw [DB.Iz (d:=D) c1 KH (by omega)];have h3:=(h_0.ok.at_ KH).1;have h4:=Ent.fl h3;exact DB.tx h3 NS (by grind))) ?_
     rintro e JP ⟨_,rfl,rfl,h,JL⟩
     refine⟨rfl,?_⟩
     have hp:=Ch.call (Ch.call (Ch.pu (Ch.pu (Ch.pu (Ch.pu hp Jo) Jf) JI) JC) JQ (by exact fun k hk=>.inl hk)) JL (by exact fun k hk=>.inl hk)
     exact⟨congrArg (Value.int .i64) (by grind [DB.take,DB.bT,DB.aZ]),by rw [show D.take ak t space=(D.set ak ⟨t,space,0,0,false⟩).more space 1 from by grind [DB.take,DB.bT,DB.aZ]];exact h,hp⟩
theorem Bf {L:fg} {D:DB} {w:World}(h:DBP w L D)(space:Int)(s:Int):
 Calls prog 43 #[(.pointer (some (Addr.mk L.g 0 none))),(.int .i64 space),(.int .i64 s)] w fun e w'=>∃v,e= .returned v∧v= .int .i64 (D.aV space s)∧DBP w' L (D.setState space s)∧Ch L.X w w':=by
 refine oL (some (Addr.mk L.g 0 none)) _ _ ?_
 have hp:=Ch.refl L.X w
 have Kd:=h.lt
 refine Calls.mono (yF h _) ?_
 rintro e wv ⟨_,rfl,rfl,Jo⟩
 refine⟨_,rfl,?_⟩
 refine cQ (fun c1=>?_) (fun c1=>?_)
 ·have h:=h.pu Jo
  have hp:=Ch.pu hp Jo
  exact⟨congrArg (Value.int .i64) (by(simp [DB.setState,DB.aV,c1];done)),by rw [show D.setState space s=D from by(simp [DB.setState,DB.aV,c1];done)];exact h,hp⟩
 ·have h:=h.pu Jo
  refine Calls.mono (dAt h _ ‹_›) ?_
  rintro e Jb ⟨_,rfl,rfl,Jf⟩
  refine⟨_,_,_,_,_,rfl,?_⟩
  have hp:=Ch.pu (Ch.pu hp Jo) Jf
  refine mkd fun gv Jc Jh=>?_
  have Jm:=Jh.lo hp
  have I7:=Jh.blk
  refine cv I7 (by simp) fun Ji Jn=>?_
  have I7:Blk Ji gv #[(.int .i64 ((D.at_ space).typ)),(.int .i64 ((D.at_ space).owner)),(.int .i64 ((D.at_ space).refs)),(.int .i64 ((D.at_ space).state)),(.bool ((D.at_ space).bS))] _:=Jn.blk
  refine⟨_,I7.at rfl,?_⟩
  rintro _ rfl
  refine aK (fun c2=>?_) (fun c2=>?_)
  ·have h:=((h.pu Jf).pu Jh.pu).ch Jn.ch (fun k hx e=>(fun hx=>absurd (Kd _ hx) (Nat.not_lt.2 Jm)) (e▸hx))
   have hp:=Ch.call (Ch.made hp Jh) Jn.ch (by exact fun k e=>.inr (e▸Jm))
   exact⟨congrArg (Value.int .i64) (by(simp [DB.setState,DB.aV,c1,c2];done)),by rw [show D.setState space s=D from by(simp [DB.setState,DB.aV,c1,c2];done)];exact h,hp⟩
  ·refine⟨fun x w'=>x=(((s:Int) !=3) && (((((D.at_ space).state):Int) !=1) || ((s:Int) !=2)))∧Pu Ji w',?_,?_⟩
   ·refine ae (fun c3=>?_) (fun c3=>?_)
    ·refine⟨_,I7.at rfl,?_⟩
     refine ae (fun c4=>?_) (fun c4=>?_)
     ·rintro _ rfl
      exact⟨by simp only [c3,c4,Bool.true_and,Bool.and_true,Bool.false_and,Bool.and_false,Bool.true_or,Bool.or_true,Bool.false_or,Bool.or_false,Bool.not_true,Bool.not_false,if_true,if_false,Bool.false_eq_true],Ch.refl _ _⟩
     ·rintro _ rfl
      exact⟨by simp only [c3,c4,Bool.true_and,Bool.and_true,Bool.false_and,Bool.and_false,Bool.true_or,Bool.or_true,Bool.false_or,Bool.or_false,Bool.not_true,Bool.not_false,if_true,if_false,Bool.false_eq_true],Ch.refl _ _⟩
    ·rintro _ rfl
     exact⟨by simp only [c3,Bool.true_and,Bool.and_true,Bool.false_and,Bool.and_false,Bool.true_or,Bool.or_true,Bool.false_or,Bool.or_false,Bool.not_true,Bool.not_false,if_true,if_false,Bool.false_eq_true],Ch.refl _ _⟩
   rintro _ _ Jq ⟨rfl,JQ⟩
   refine eA (fun c5=>?_) (fun c5=>?_)
   ·have h:=(((h.pu Jf).pu Jh.pu).ch Jn.ch (fun k hx e=>(fun hx=>absurd (Kd _ hx) (Nat.not_lt.2 Jm)) (e▸hx))).pu JQ
    have hp:=Ch.pu (Ch.call (Ch.made hp Jh) Jn.ch (by exact fun k e=>.inr (e▸Jm))) JQ
    exact⟨congrArg (Value.int .i64) (by(simp [DB.setState,DB.aV,c1,c2,c5];done)),by rw [show D.setState space s=D from by(simp [DB.setState,DB.aV,c1,c2,c5];done)];exact h,hp⟩
   ·have I7:=Pu.blk JQ I7
    refine bI I7 (by simp) fun JP KP=>?_
    have I7:Blk JP gv #[(.int .i64 ((D.at_ space).typ)),(.int .i64 ((D.at_ space).owner)),(.int .i64 ((D.at_ space).refs)),(.int .i64 s),(.bool ((D.at_ space).bS))] _:=KP.blk
    refine⟨_,_,_,_,_,⟨I7.at rfl,I7.at rfl,I7.at rfl,I7.at rfl,I7.at rfl⟩,?_⟩
    have h:=((((h.pu Jf).pu Jh.pu).ch Jn.ch (fun k hx e=>(fun hx=>absurd (Kd _ hx) (Nat.not_lt.2 Jm)) (e▸hx))).pu JQ).ch KP.ch (fun k hx e=>(fun hx=>absurd (Kd _ hx) (Nat.not_lt.2 Jm)) (e▸hx))
    refine Calls.mono (Bg h _ _ _ _ _ _ ‹_› (by exact DB.Gq (h.ok.at_ c1).1 (by grind) (by grind)) (by exact(h.ok.at_ c1).2.1)) ?_
    rintro e J0 ⟨_,rfl,rfl,h,JK⟩
    refine⟨rfl,?_⟩
    have hp:=Ch.call (Ch.call (Ch.pu (Ch.call (Ch.made hp Jh) Jn.ch (by exact fun k e=>.inr (e▸Jm))) JQ) KP.ch (by exact fun k e=>.inr (e▸Jm))) JK (by exact fun k hk=>.inl hk)
    exact⟨congrArg (Value.int .i64) (by grind [DB.setState,DB.aV]),by rw [show D.setState space s=D.set space ⟨((D.at_ space).typ),((D.at_ space).owner),((D.at_ space).refs),s,((D.at_ space).bS)⟩from by grind [DB.setState,DB.aV]];exact h,hp⟩
theorem Ir {L:fg} {D:DB} {w:World}(h:DBP w L D)(ak:Int):
 Calls prog 45 #[(.pointer (some (Addr.mk L.g 0 none))),(.int .i64 ak)] w fun e w'=>∃v,e= .returned v∧v= .int .i64 (D.cO ak)∧DBP w' L (D.eC ak)∧Ch L.X w w':=by
 refine xP (some (Addr.mk L.g 0 none)) _ ?_
 have h_0:=h
 have hp:=Ch.refl L.X w
 have Kd:=h.lt
 refine Calls.mono (yF h _) ?_
 rintro e wv ⟨_,rfl,rfl,Jo⟩
 refine⟨_,rfl,?_⟩
 refine cQ (fun c1=>?_) (fun c1=>?_)
 ·have h:=h.pu Jo
  have hp:=Ch.pu hp Jo
  exact⟨congrArg (Value.int .i64) (by(simp [DB.eC,DB.bZ,DB.cO,DB.aQ,DB.cn,Mem.dx,DB.fp,DB.dN,DB.mem_set,DB.more,c1];done)),by rw [show D.eC ak=D from by(simp [DB.eC,DB.bZ,DB.cO,DB.aQ,DB.cn,Mem.dx,DB.fp,DB.dN,DB.mem_set,DB.more,c1];done)];exact h,hp⟩
 ·have h:=h.pu Jo
  refine Calls.mono (dAt h _ ‹_›) ?_
  rintro e Jb ⟨_,rfl,rfl,Jf⟩
  refine⟨_,_,_,_,_,rfl,?_⟩
  have hp:=Ch.pu (Ch.pu hp Jo) Jf
  refine mkd fun gv Jc Jh=>?_
  have Jm:=Jh.lo hp
  have I7:=Jh.blk
  refine cv I7 (by simp) fun Ji Jn=>?_
  have I7:Blk Ji gv #[(.int .i64 ((D.at_ ak).typ)),(.int .i64 ((D.at_ ak).owner)),(.int .i64 ((D.at_ ak).refs)),(.int .i64 ((D.at_ ak).state)),(.bool ((D.at_ ak).bS))] _:=Jn.blk
  refine⟨_,I7.at rfl,?_⟩
  rintro _ rfl
  refine aB (fun c2=>?_) (fun c2=>?_)
  ·have h:=((h.pu Jf).pu Jh.pu).ch Jn.ch (fun k hx e=>(fun hx=>absurd (Kd _ hx) (Nat.not_lt.2 Jm)) (e▸hx))
   have hp:=Ch.call (Ch.made hp Jh) Jn.ch (by exact fun k e=>.inr (e▸Jm))
   exact⟨congrArg (Value.int .i64) (by(simp [DB.eC,DB.bZ,DB.cO,DB.aQ,DB.cn,Mem.dx,DB.fp,DB.dN,DB.mem_set,DB.more,c1,c2];done)),by rw [show D.eC ak=D from by(simp [DB.eC,DB.bZ,DB.cO,DB.aQ,DB.cn,Mem.dx,DB.fp,DB.dN,DB.mem_set,DB.more,c1,c2];done)];exact h,hp⟩
  ·refine⟨fun x w'=>x=(((((D.at_ ak).typ):Int)==1) && (decide ((((D.at_ ak).refs):Int)>0)))∧Pu Ji w',?_,?_⟩
   ·refine⟨_,I7.at rfl,?_⟩
    refine ae (fun c3=>?_) (fun c3=>?_)
    ·refine⟨_,I7.at rfl,?_⟩
     rintro _ rfl
     exact⟨by simp only [c3,Bool.true_and,Bool.and_true,Bool.false_and,Bool.and_false,Bool.true_or,Bool.or_true,Bool.false_or,Bool.or_false,Bool.not_true,Bool.not_false,if_true,if_false,Bool.false_eq_true],Ch.refl _ _⟩
    ·rintro _ rfl
     exact⟨by simp only [c3,Bool.true_and,Bool.and_true,Bool.false_and,Bool.and_false,Bool.true_or,Bool.or_true,Bool.false_or,Bool.or_false,Bool.not_true,Bool.not_false,if_true,if_false,Bool.false_eq_true],Ch.refl _ _⟩
   rintro _ _ Jq ⟨rfl,JQ⟩
   refine eA (fun c4=>?_) (fun c4=>?_)
   ·have h:=(((h.pu Jf).pu Jh.pu).ch Jn.ch (fun k hx e=>(fun hx=>absurd (Kd _ hx) (Nat.not_lt.2 Jm)) (e▸hx))).pu JQ
    have hp:=Ch.pu (Ch.call (Ch.made hp Jh) Jn.ch (by exact fun k e=>.inr (e▸Jm))) JQ
    exact⟨congrArg (Value.int .i64) (by(simp [DB.eC,DB.bZ,DB.cO,DB.aQ,DB.cn,Mem.dx,DB.fp,DB.dN,DB.mem_set,DB.more,c1,c2,c4];done)),by rw [show D.eC ak=D from by(simp [DB.eC,DB.bZ,DB.cO,DB.aQ,DB.cn,Mem.dx,DB.fp,DB.dN,DB.mem_set,DB.more,c1,c2,c4];done)];exact h,hp⟩
   ·have h:=(((h.pu Jf).pu Jh.pu).ch Jn.ch (fun k hx e=>(fun hx=>absurd (Kd _ hx) (Nat.not_lt.2 Jm)) (e▸hx))).pu JQ
    refine Calls.mono (Bg h _ _ _ _ _ _ ‹_› (by exact Ent.tK) (by have:=DB.ay c1;omega)) ?_
    rintro e JP ⟨_,rfl,rfl,h,JL⟩
    refine⟨rfl,?_⟩
    refine⟨fun x w'=>x=(((((D.at_ ak).typ):Int) !=1) && (((D.set ak ⟨0,0,0,0,false⟩).cD ((D.at_ ak).owner)) && (decide (((((D.set ak ⟨0,0,0,0,false⟩).at_ ((D.at_ ak).owner)).refs):Int)>0))))∧Pu JP w',?_,?_⟩
    ·have I7:=Ch.blk JL (Pu.blk JQ I7) (fun hx=>absurd (Kd _ hx) (Nat.not_lt.2 Jm))
     refine⟨_,I7.at rfl,?_⟩
     refine ae (fun c5=>?_) (fun c5=>?_)
     ·refine⟨_,I7.at rfl,?_⟩
      refine Calls.mono (vR h _) ?_
      rintro e J0 ⟨_,rfl,rfl,JK⟩
      refine⟨_,rfl,?_⟩
      refine ae (fun c6=>?_) (fun c6=>?_)
      ·have I7:=Pu.blk JK I7
       refine⟨_,I7.at rfl,?_⟩
       have h:=h.pu JK
       refine Calls.mono (dAt h _ (by grind [DB.eC,DB.bZ,DB.cO,DB.aQ,DB.cn,Mem.dx,DB.fp,DB.dN,DB.mem_set,DB.more,DB.cD])) ?_
       rintro e JU ⟨_,rfl,rfl,JH⟩
       refine⟨_,_,_,_,_,rfl,?_⟩
       exact⟨by simp only [c5,c6,Bool.true_and,Bool.and_true,Bool.false_and,Bool.and_false,Bool.true_or,Bool.or_true,Bool.false_or,Bool.or_false,Bool.not_true,Bool.not_false,if_true,if_false,Bool.false_eq_true],(Ch.pu JK JH)⟩
      ·exact⟨by simp only [c5,c6,Bool.true_and,Bool.and_true,Bool.false_and,Bool.and_false,Bool.true_or,Bool.or_true,Bool.false_or,Bool.or_false,Bool.not_true,Bool.not_false,if_true,if_false,Bool.false_eq_true],JK⟩
     ·exact⟨by simp only [c5,Bool.true_and,Bool.and_true,Bool.false_and,Bool.and_false,Bool.true_or,Bool.or_true,Bool.false_or,Bool.or_false,Bool.not_true,Bool.not_false,if_true,if_false,Bool.false_eq_true],Ch.refl _ _⟩
    rintro _ _ J0 ⟨rfl,JK⟩
    refine eA (fun c7=>?_) (fun c7=>?_)
    ·have I7:=Pu.blk JK (Ch.blk JL (Pu.blk JQ I7) (fun hx=>absurd (Kd _ hx) (Nat.not_lt.2 Jm)))
     refine⟨_,I7.at rfl,?_⟩
     have h:=h.pu JK
     refine Calls.mono (Gz h _ _ (by exact(DB.eX (d:=D.set ak ⟨0,0,0,0,false⟩) (by grind)).1) (by have h2:=DB.eX (d:=D.set ak ⟨0,0,0,0,false⟩) (p:=(D.at_ ak).owner) (by grind);have h3:=Ent.fl (h.ok.at_ h2.1).1;exact DB.tx (h.ok.at_ h2.1).1 h2.2 (by grind))) ?_
     rintro e JU ⟨_,rfl,rfl,h,JH⟩
     refine⟨rfl,?_⟩
     refine⟨bXU [3] [] JU.drew L.M.X,?_⟩
     have h:=h.pu (Pu.aW _)
     obtain⟨_,dhd_h⟩:=h.hd
     refine ai _ rfl ⟨.inr ⟨by decide,bX.ld dhd_h (h.dis.2.1) _⟩,_,dhd_h.at rfl,?_⟩
     refine Calls.mono (lg _) ?_
     rintro e JN ⟨_,rfl,rfl,JG⟩
     refine⟨_,_,rfl,?_⟩
     refine bXU.fC JG (by decide) ?_
     have h:=h.pu JG
     refine Calls.mono (DD h _ _) ?_
     rintro e K7 ⟨_,rfl,rfl,h,Kt⟩
     refine⟨_,rfl,?_⟩
     refine bXU.more Kt (by intro k hk;exact .inl hk) (by decide) ?_
     have hp:=Ch.call (Ch.pu (Ch.drew (Ch.call (Ch.pu (Ch.call (Ch.pu (Ch.call (Ch.made hp Jh) Jn.ch (by exact fun k e=>.inr (e▸Jm))) JQ) JL (by exact fun k hk=>.inl hk)) JK) JH (by exact fun k hk=>.inl hk))) JG) (Kt.mono L.inM) (by exact fun k hk=>.inl hk)
     exact⟨congrArg (Value.int .i64) (by grind [DB.eC,DB.bZ,DB.cO,DB.aQ,DB.cn,Mem.dx,DB.fp,DB.dN,DB.mem_set,DB.more]),by rw [show D.eC ak=(((D.set ak ⟨0,0,0,0,false⟩).more ((D.at_ ak).owner) (-1)).aL (((D.set ak ⟨0,0,0,0,false⟩).more ((D.at_ ak).owner) (-1)).mem.zero true ak))from by grind [DB.eC,DB.bZ,DB.cO,DB.aQ,DB.cn,Mem.dx,DB.fp,DB.dN,DB.mem_set,DB.more]];exact h,hp⟩
    ·refine⟨bXU [3] [] J0.drew L.M.X,?_⟩
     have h:=(h.pu JK).pu (Pu.aW _)
     obtain⟨_,dhd_h⟩:=h.hd
     refine ai _ rfl ⟨.inr ⟨by decide,bX.ld dhd_h (h.dis.2.1) _⟩,_,dhd_h.at rfl,?_⟩
     refine Calls.mono (lg _) ?_
     rintro e JU ⟨_,rfl,rfl,JH⟩
     refine⟨_,_,rfl,?_⟩
     refine bXU.fC JH (by decide) ?_
     have h:=h.pu JH
     refine Calls.mono (DD h _ _) ?_
     rintro e JN ⟨_,rfl,rfl,h,JG⟩
     refine⟨_,rfl,?_⟩
     refine bXU.more JG (by intro k hk;exact .inl hk) (by decide) ?_
     have hp:=Ch.call (Ch.pu (Ch.drew (Ch.pu (Ch.call (Ch.pu (Ch.call (Ch.made hp Jh) Jn.ch (by exact fun k e=>.inr (e▸Jm))) JQ) JL (by exact fun k hk=>.inl hk)) JK)) JH) (JG.mono L.inM) (by exact fun k hk=>.inl hk)
     exact⟨congrArg (Value.int .i64) (by grind [DB.eC,DB.bZ,DB.cO,DB.aQ,DB.cn,Mem.dx,DB.fp,DB.dN,DB.mem_set,DB.more]),by rw [show D.eC ak=((D.set ak ⟨0,0,0,0,false⟩).aL ((D.set ak ⟨0,0,0,0,false⟩).mem.zero true ak))from by grind [DB.eC,DB.bZ,DB.cO,DB.aQ,DB.cn,Mem.dx,DB.fp,DB.dN,DB.mem_set,DB.more]];exact h,hp⟩
theorem yE {L:fg} {D:DB} {w:World}(h:DBP w L D)(space:Int)(first:Int):
 Calls prog 60 #[(.pointer (some (Addr.mk L.g 0 none))),(.int .i64 space),(.int .i64 first)] w fun e w'=>∃v,e= .returned v∧v= .int .i64 (D.aO space first)∧DBP w' L (D.aM space first)∧Ch L.X w w':=by
 refine n5 (some (Addr.mk L.g 0 none)) _ _ ?_
 have Xb:=h.S64
 have hbo:=h.ok.aE
 have hp:=Ch.refl L.X w
 have Kd:=h.lt
 refine⟨fun x w'=>x=((!(D.has space)) || (!(D.has first)))∧Pu w w',?_,?_⟩
 ·refine Calls.mono (yF h _) ?_
  rintro e wv ⟨_,rfl,rfl,Jo⟩
  refine⟨_,rfl,?_⟩
  refine ae (fun c1=>?_) (fun c1=>?_)
  ·rintro _ rfl
   exact⟨by simp only [c1,Bool.true_and,Bool.and_true,Bool.false_and,Bool.and_false,Bool.true_or,Bool.or_true,Bool.false_or,Bool.or_false,Bool.not_true,Bool.not_false,if_true,if_false,Bool.false_eq_true],Jo⟩
  ·have h:=h.pu Jo
   refine Calls.mono (yF h _) ?_
   rintro e Jb ⟨_,rfl,rfl,Jf⟩
   refine⟨_,rfl,?_⟩
   rintro _ rfl
   exact⟨by simp only [c1,Bool.true_and,Bool.and_true,Bool.false_and,Bool.and_false,Bool.true_or,Bool.or_true,Bool.false_or,Bool.or_false,Bool.not_true,Bool.not_false,if_true,if_false,Bool.false_eq_true],(Ch.pu Jo Jf)⟩
 rintro _ _ wv ⟨rfl,Jo⟩
 refine cH (fun c2=>?_) (fun c2=>?_)
 ·have h:=h.pu Jo
  have hp:=Ch.pu hp Jo
  exact⟨congrArg (Value.int .i64) (by grind [DB.aM,DB.bn,DB.aO]),by rw [show D.aM space first=D from by grind [DB.aM,DB.bn,DB.aO]];exact h,hp⟩
 ·rintro _ rfl
  refine aB (fun c3=>?_) (fun c3=>?_)
  ·have h:=h.pu Jo
   have hp:=Ch.pu hp Jo
   exact⟨congrArg (Value.int .i64) (by(simp [DB.aM,DB.bn,DB.aO,c2,c3];done)),by rw [show D.aM space first=D from by(simp [DB.aM,DB.bn,DB.aO,c2,c3];done)];exact h,hp⟩
  ·refine⟨fun x w'=>x=(((((D.at_ space).typ):Int) !=0) || ((((D.at_ first).typ):Int) !=0))∧Pu wv w',?_,?_⟩
   ·have h:=h.pu Jo
    refine Calls.mono (dAt h _ (by grind [DB.aM,DB.bn,DB.aO])) ?_
    rintro e Jb ⟨_,rfl,rfl,Jf⟩
    refine⟨_,_,_,_,_,rfl,?_⟩
    refine ae (fun c4=>?_) (fun c4=>?_)
    ·rintro _ rfl
     exact⟨by simp only [c4,Bool.true_and,Bool.and_true,Bool.false_and,Bool.and_false,Bool.true_or,Bool.or_true,Bool.false_or,Bool.or_false,Bool.not_true,Bool.not_false,if_true,if_false,Bool.false_eq_true],Jf⟩
    ·have h:=h.pu Jf
     refine Calls.mono (dAt h _ (by grind [DB.aM,DB.bn,DB.aO])) ?_
     rintro e Jc ⟨_,rfl,rfl,JI⟩
     refine⟨_,_,_,_,_,rfl,?_⟩
     rintro _ rfl
     exact⟨by simp only [c4,Bool.true_and,Bool.and_true,Bool.false_and,Bool.and_false,Bool.true_or,Bool.or_true,Bool.false_or,Bool.or_false,Bool.not_true,Bool.not_false,if_true,if_false,Bool.false_eq_true],(Ch.pu Jf JI)⟩
   rintro _ _ Jb ⟨rfl,Jf⟩
   refine cH (fun c5=>?_) (fun c5=>?_)
   ·have h:=(h.pu Jo).pu Jf
    have hp:=Ch.pu (Ch.pu hp Jo) Jf
    exact⟨congrArg (Value.int .i64) (by grind [DB.aM,DB.bn,DB.aO]),by rw [show D.aM space first=D from by grind [DB.aM,DB.bn,DB.aO]];exact h,hp⟩
   ·have h:=(h.pu Jo).pu Jf
    obtain⟨_,dhd_h⟩:=h.hd
    refine ai _ rfl ⟨_,dhd_h.at rfl,?_⟩
    rintro _ rfl
    refine aq (fun c6=>?_) (fun c6=>?_)
    ·have hp:=Ch.pu (Ch.pu hp Jo) Jf
     exact⟨congrArg (Value.int .i64) (by(simp [DB.aM,DB.bn,DB.aO,c2,c3,c5,c6];done)),by rw [show D.aM space first=D from by(simp [DB.aM,DB.bn,DB.aO,c2,c3,c5,c6];done)];exact h,hp⟩
    ·refine Calls.mono (Bg h _ _ _ _ _ _ (by(show D.has space=true;grind)) (by have h1:D.has space=true:=(by grind);have:=DB.ay h1;simp only [Ent.ok,decide_eq_true_eq];simp;omega) (by exact(DB.ay (d:=D) (p:=space) (by grind)).2)) ?_
     rintro e Jc ⟨_,rfl,rfl,h,JI⟩
     refine⟨rfl,?_⟩
     refine Calls.mono (Bg h _ _ _ _ _ _ (by(show D.has first=true;grind)) (by have h1:D.has space=true:=(by grind);have:=DB.ay h1;simp only [Ent.ok,decide_eq_true_eq];simp;omega) (by exact(DB.ay (d:=D) (p:=space) (by grind)).2)) ?_
     rintro e Ji ⟨_,rfl,rfl,h,JC⟩
     refine⟨rfl,?_⟩
     refine⟨bXU [3] [] Ji.drew L.M.X,?_⟩
     have h:=h.pu (Pu.aW _)
     obtain⟨_,dhd_h⟩:=h.hd
     refine ai _ rfl ⟨.inr ⟨by decide,bX.ld dhd_h (h.dis.2.1) _⟩,_,dhd_h.at rfl,?_⟩
     refine Calls.mono (lg _) ?_
     rintro e Jq ⟨_,rfl,rfl,JQ⟩
     refine⟨_,_,rfl,?_⟩
     refine bXU.fC JQ (by decide) ?_
     have h:=h.pu JQ
     refine Calls.mono (tM h _ _ _ _ (by exact nA _)) ?_
     rintro e JP ⟨_,rfl,rfl,h,JL⟩
     refine⟨_,rfl,?_⟩
     refine bXU.more JL (by intro k hk;exact .inl hk) (by decide) ?_
     refine⟨bXU [3,9] [] JP.drew L.M.X,?_⟩
     have h:=h.pu (Pu.aW _)
     obtain⟨_,dhd_h⟩:=h.hd
     refine ai _ rfl ⟨.inr ⟨by decide,bX.ld dhd_h (h.dis.2.1) _⟩,_,dhd_h.at rfl,ai _ rfl ⟨.inr ⟨by decide,bX.ld dhd_h (h.dis.2.1) _⟩,_,dhd_h.at rfl,?_⟩⟩
     refine Calls.mono (lg _) ?_
     rintro e J0 ⟨_,rfl,rfl,JK⟩
     refine⟨_,_,rfl,?_⟩
     refine bXU.fC JK (by decide) ?_
     have h:=h.pu JK
     refine Calls.mono (tM h _ _ _ _ (by exact nA _)) ?_
     rintro e JU ⟨_,rfl,rfl,h,JH⟩
     refine⟨_,rfl,?_⟩
     refine bXU.more JH (by intro k hk;exact .inl hk) (by decide) ?_
     refine⟨bXU [3] [] JU.drew L.M.X,?_⟩
     have h:=h.pu (Pu.aW _)
     obtain⟨_,dhd_h⟩:=h.hd
     refine ai _ rfl ⟨.inr ⟨by decide,bX.ld dhd_h (h.dis.2.1) _⟩,_,dhd_h.at rfl,?_⟩
     refine Calls.mono (lg _) ?_
     rintro e JN ⟨_,rfl,rfl,JG⟩
     refine⟨_,_,rfl,?_⟩
     refine bXU.fC JG (by decide) ?_
     have h:=h.pu JG
     refine Calls.mono (tM h _ _ _ _ (by omega)) ?_
     rintro e K7 ⟨_,rfl,rfl,h,Kt⟩
     refine⟨_,rfl,?_⟩
     refine bXU.more Kt (by intro k hk;exact .inl hk) (by decide) ?_
     obtain⟨_,dhd_h⟩:=h.hd
     refine ai _ rfl ⟨_,dhd_h.at rfl,ai _ rfl (bI dhd_h (by simp) fun MY Oy=>?_)⟩
     have h:=h.AI Oy (by show 0≤i64.wrap (D.aE+1)∧i64.wrap (D.aE+1)≤64;rw [ax (by omega)];omega)
     have hp:=Ch.call (Ch.call (Ch.pu (Ch.drew (Ch.call (Ch.pu (Ch.drew (Ch.call (Ch.pu (Ch.drew (Ch.call (Ch.call (Ch.pu (Ch.pu hp Jo) Jf) JI (by exact fun k hk=>.inl hk)) JC (by exact fun k hk=>.inl hk))) JQ) (JL.mono L.inM) (by exact fun k hk=>.inl hk))) JK) (JH.mono L.inM) (by exact fun k hk=>.inl hk))) JG) (Kt.mono L.inM) (by exact fun k hk=>.inl hk)) Oy.ch (by exact fun k e=>.inl (by subst e;exact .inl rfl))
     exact⟨congrArg (Value.int .i64) (by(simp [DB.aM,DB.bn,DB.aO,c2,c3,c5,c6];done)),by rw [show D.aM space first=(((((D.set space ⟨1,space,1,1,false⟩).set first ⟨3,space,0,0,false⟩).aL (((D.set space ⟨1,space,1,1,false⟩).set first ⟨3,space,0,0,false⟩).mem.write true space 0 (u32.wrap first))).aL ((((D.set space ⟨1,space,1,1,false⟩).set first ⟨3,space,0,0,false⟩).aL (((D.set space ⟨1,space,1,1,false⟩).set first ⟨3,space,0,0,false⟩).mem.write true space 0 (u32.wrap first))).mem.write true space 1 (u32.wrap ((((D.set space ⟨1,space,1,1,false⟩).set first ⟨3,space,0,0,false⟩).aL (((D.set space ⟨1,space,1,1,false⟩).set first ⟨3,space,0,0,false⟩).mem.write true space 0 (u32.wrap first))).aE)))).aL (((((D.set space ⟨1,space,1,1,false⟩).set first ⟨3,space,0,0,false⟩).aL (((D.set space ⟨1,space,1,1,false⟩).set first ⟨3,space,0,0,false⟩).mem.write true space 0 (u32.wrap first))).aL ((((D.set space ⟨1,space,1,1,false⟩).set first ⟨3,space,0,0,false⟩).aL (((D.set space ⟨1,space,1,1,false⟩).set first ⟨3,space,0,0,false⟩).mem.write true space 0 (u32.wrap first))).mem.write true space 1 (u32.wrap ((((D.set space ⟨1,space,1,1,false⟩).set first ⟨3,space,0,0,false⟩).aL (((D.set space ⟨1,space,1,1,false⟩).set first ⟨3,space,0,0,false⟩).mem.write true space 0 (u32.wrap first))).aE)))).mem.write true space 2 0)).fU (i64.wrap (((((((D.set space ⟨1,space,1,1,false⟩).set first ⟨3,space,0,0,false⟩).aL (((D.set space ⟨1,space,1,1,false⟩).set first ⟨3,space,0,0,false⟩).mem.write true space 0 (u32.wrap first))).aL ((((D.set space ⟨1,space,1,1,false⟩).set first ⟨3,space,0,0,false⟩).aL (((D.set space ⟨1,space,1,1,false⟩).set first ⟨3,space,0,0,false⟩).mem.write true space 0 (u32.wrap first))).mem.write true space 1 (u32.wrap ((((D.set space ⟨1,space,1,1,false⟩).set first ⟨3,space,0,0,false⟩).aL (((D.set space ⟨1,space,1,1,false⟩).set first ⟨3,space,0,0,false⟩).mem.write true space 0 (u32.wrap first))).aE)))).aL (((((D.set space ⟨1,space,1,1,false⟩).set first ⟨3,space,0,0,false⟩).aL (((D.set space ⟨1,space,1,1,false⟩).set first ⟨3,space,0,0,false⟩).mem.write true space 0 (u32.wrap first))).aL ((((D.set space ⟨1,space,1,1,false⟩).set first ⟨3,space,0,0,false⟩).aL (((D.set space ⟨1,space,1,1,false⟩).set first ⟨3,space,0,0,false⟩).mem.write true space 0 (u32.wrap first))).mem.write true space 1 (u32.wrap ((((D.set space ⟨1,space,1,1,false⟩).set first ⟨3,space,0,0,false⟩).aL (((D.set space ⟨1,space,1,1,false⟩).set first ⟨3,space,0,0,false⟩).mem.write true space 0 (u32.wrap first))).aE)))).mem.write true space 2 0)).aE)+1))from by have h5:D.has first=true:=(by grind);have h6:=DB.ay h5;have e1:u32.wrap first=first:=dh (by omega);have e2:u32.wrap D.aE=D.aE:=dh (by omega);have e3:i64.wrap (D.aE+1)=D.aE+1:=ax (by omega);show D.aM space first=(((((D.set space ⟨1,space,1,1,false⟩).set first ⟨3,space,0,0,false⟩)).aL (((D.mem.write true space 0 (u32.wrap first)).write true space 1 (u32.wrap D.aE)).write true space 2 0)).fU (i64.wrap (D.aE+1)));rw [e1,e2,e3];unfold DB.aM;rw [if_pos (by grind [DB.aO])];rfl];exact h,hp⟩
end
section
set_option maxRecDepth 10000
set_option maxHeartbeats 1000000
end
section
set_option maxRecDepth 10000
set_option maxHeartbeats 1000000
theorem I3 {L:dR} {m:Mem} {w:World}(h:bY w L m)(hS:1≤m.S):
 Calls prog 29 #[(.pointer (some (Addr.mk L.g 0 none)))] w fun e w'=>∃v,e= .returned v∧∃g:Nat,∃a:Nat,v= .pointer (some (Addr.mk g 0 none))∧bY w' L (m.dD m.S)∧DBP w' ⟨g,a,L⟩ (DB.new m)∧(w.heap.size≤g∧w.heap.size≤a)∧Ch L.X w w':=by
 refine zl (some (Addr.mk L.g 0 none)) ?_
 have hm:=h.dz
 have hp:=Ch.refl L.X w
 have Kd:=h.lt
 refine kY ?_
 refine Calls.mono (tC h) ?_
 rintro e w9 ⟨_,rfl,rfl,e9⟩
 obtain rfl:=e9.symm
 refine⟨_,rfl,?_⟩
 refine⟨fun mz x8 W=>mz=(m.S - x8).toNat∧(0≤x8∧x8≤m.S)∧Ch L.X w W∧bY W L (m.dD x8.toNat),⟨_,rfl,(by omega),hp,by exact h⟩,?_⟩
 rintro _ _ x8 Jb ⟨rfl,h0,hp,h⟩
 refine aq (fun c1=>?_) (fun c1=>?_)
 ·refine Calls.mono (lg _) ?_
  rintro e Jc ⟨_,rfl,rfl,JI⟩
  refine⟨_,_,rfl,?_⟩
  have h:=h.pu JI
  refine Calls.mono (Gt h _ _) ?_
  rintro e Ji ⟨_,rfl,rfl,h,JC⟩
  refine⟨_,rfl,?_⟩
  have hp:=Ch.call (Ch.pu hp JI) JC (by exact fun k hk=>.inl hk)
  exact⟨_,by rw [IntKind.wrap_i64];omega,rfl,by rw [IntKind.wrap_i64];omega,hp,by rw [Mem.xU _ (by omega)];exact h⟩
 ·have NQ:=h.lt
  have Pm:=hp
  have hx:x8.toNat=m.S:=by omega
  have MU:=h.dz.1
  have Rw:Int.toNat (i64.wrap (2*(((m.dD x8.toNat).S:Nat):Int)))=2*m.S:=by rw [Mem.l5,ax (by omega)];omega
  refine Calls.mono (tC h) ?_
  rintro e w9 ⟨_,rfl,rfl,e9⟩
  obtain rfl:=e9.symm
  refine⟨_,rfl,?_⟩
  refine De mq ((⟨0⟩:U32)) (by rfl) (n:=(i64.wrap (2*((m.dD x8.toNat).S)))) (by rw [ax (by omega)];omega) (by rw [ax (by omega)];omega) (by rw [ax (by omega)];omega) fun Qj Ji K9 KG=>?_
  have lo_g_wv3:=K9.lo hp
  refine mkd fun Jj Jq Jz=>?_
  have Ja:=Jz.blk
  have h:=(h.pu K9.pu).pu Jz.pu
  have hp:=Ch.made (Ch.made hp K9) Jz
  exact⟨Jj,Qj,rfl,by rw [show(m.dD m.S)=(m.dD x8.toNat)from by rw [hx]];exact h,⟨⟨_,Blk.cast Ja (by rw [Rw];show _=_;simp only [DB.n2,DB.new,Mem.l5])⟩,⟨_,_,Made.old Jz K9.blk,by rw [Array.size_replicate,Rw];show _=2*(m.dD m.S).S;rw [Mem.l5],fun p hp=>by have UD:p<m.S:=(by rwa [DB.Gr]at hp);exact⟨zK (by rw [Rw];omega),zK (by rw [Rw];omega)⟩⟩,by show bY _ _ (m.dD m.S);rw [← hx];exact h,DB.km m hS,by have:=Jz.num;have:=K9.lt;simp only [];omega,fun hh=>absurd (show Jj<Jb.heap.size from NQ _ hh) (by have:=Jz.num;have:=K9.kept.size;omega),fun hh=>absurd (show Qj<Jb.heap.size from NQ _ hh) (by have:=K9.num;omega)⟩,by have h1:=Jz.num;have h2:=K9.num;have h3:=K9.kept.size;have h4:=Pm.size;omega,hp⟩
theorem Hj {L:fg} {D:DB} {w:World}(h:DBP w L D):
 Calls prog 52 #[(.pointer (some (Addr.mk L.g 0 none)))] w fun e w'=>∃v,e= .returned v∧∃g:Nat,∃n:Nat,v= .slice (some (Addr.mk g 0 none)) n n∧Own w' (fun k=>k=g) 29 (some (Addr.mk g 0 none)) n n (D.words.map U32.mk)∧w.heap.size≤g∧Pu w w':=by
 refine uG (some (Addr.mk L.g 0 none)) ?_
 have Xb:=h.S64
 have hb:=h.ok.aE
 have Pp:Int.toNat (i64.wrap (1+((D.n2:Nat):Int)))=1+2*D.S:=by have:D.n2=2*D.S:=rfl;rw [ax (by omega)];omega
 have hp:=Ch.refl (fun _=>False) w
 have Kd:=h.lt
 obtain⟨_,dhd_h⟩:=h.hd
 refine ai _ rfl ⟨_,_,_,dhd_h.at rfl,?_⟩
 refine iG mq (n:=(i64.wrap (1+((D.n2:Nat):Int)))) (by have:D.n2=2*D.S:=rfl;rw [ax (by omega)];omega) (by have:D.n2=2*D.S:=rfl;rw [ax (by omega)];omega) (by have:D.n2=2*D.S:=rfl;rw [ax (by omega)];omega) fun Vi wv LK=>?_
 have lo_g_wv:=LK.lo hp
 have K5:Blk wv Vi (bu (List.replicate (Int.toNat (i64.wrap (1+((D.n2:Nat):Int)))) 0)) 29:=LK.blk.cast (fi _ _)
 have dhd_h:=Made.old LK dhd_h
 refine ai _ rfl ⟨_,dhd_h.at rfl,⟨by omega,ai _ rfl (lJ (i:=0) K5 (by simp only [List.length_replicate,Pp];omega) fun Jb KV=>?_)⟩⟩
 have K5:=KV.blk
 refine⟨bXU [] [5] Jb.drew (fun _=>False),?_⟩
 refine⟨by omega,?_⟩
 rintro _ rfl _ rfl _ rfl
 have dhd_h:=Blk.drew (Ch.blk KV.ch dhd_h (fun e=>absurd (Kd _ (by exact .inl rfl)) (Nat.not_lt.2 (by rw [e];exact lo_g_wv))))
 refine ai _ rfl ⟨.inl (by decide),_,_,_,dhd_h.at rfl,?_⟩
 have K5:=Blk.drew K5
 have h:=((h.pu LK.pu).ch KV.ch (fun k hx e=>(fun hx=>absurd (Kd _ hx) (Nat.not_lt.2 lo_g_wv)) (e▸hx))).pu (Pu.aW _)
 refine mP mq K5 (o:=1) DH (by(simp;omega)) (h).ints (by(have:D.n2=2*D.S:=rfl;simp only [List.length_set,List.length_replicate];omega)) fun Jc J7=>?_
 have K5:=J7.blk
 refine bXU.qc J7.ch (by decide) ?_
 have hp:=Ch.call (Ch.drew (Ch.call (Ch.made hp LK) KV.ch (by exact fun k e=>.inr (e▸lo_g_wv)))) J7.ch (by exact fun k e=>.inr (e▸lo_g_wv))
 exact⟨Vi,_,by rfl,by have hw:=DB.lay (D:=D) Pp;have hbu:u32.wrap D.aE=D.aE:=dh (by omega);have h9:=K5;rw [hbu]at h9;have e:(min D.n2 (Int.toNat (i64.wrap (1+((D.n2:Nat):Int))) - Int.toNat 1))=min (2*D.S) (Int.toNat (i64.wrap (1+((D.n2:Nat):Int))) - 1):=rfl;rw [e,hw]at h9;exact Own.ofRow h9 (by rw [D.cC,Pp]) (by omega),lo_g_wv,hp⟩
end
section
set_option maxRecDepth 10000
set_option maxHeartbeats 1000000
theorem Ab {g n c:Nat} {mp A:Option Addr} {b:Int} {T:TypeId} {w:World}(hb:Blk w g #[.pointer mp,.int .i64 b,.slice A (2*n) c] T)(hn:n≤64):
 Calls prog 120 #[(.pointer (some (Addr.mk g 0 none)))] w fun e w'=>∃v,e= .returned v∧v= .int .i64 (n:Int)∧w'=w:=by
 refine nr (some (Addr.mk g 0 none)) ?_
 refine ai _ rfl ⟨_,_,_,hb.at rfl,?_⟩
 exact⟨congrArg (Value.int .i64) (by rw [ax (by rw [Int.tdiv_eq_ediv_of_nonneg (by omega)];omega)];rw [Int.tdiv_eq_ediv_of_nonneg (by omega)];omega),rfl⟩
theorem Iq {g n c:Nat} {mp A:Option Addr} {b:Int} {T:TypeId} {w:World}(hb:Blk w g #[.pointer mp,.int .i64 b,.slice A (2*n) c] T)(hn:n≤64)(ak:Int):
 Calls prog 57 #[(.pointer (some (Addr.mk g 0 none))),(.int .i64 ak)] w fun e w'=>∃v,e= .returned v∧v= .bool (decide (0≤ak∧ak<(n:Int)))∧Pu w w':=by
 refine ri (some (Addr.mk g 0 none)) _ ?_
 refine⟨fun x w'=>x=((decide ((ak:Int)≥0)) && (decide ((ak:Int)<(n:Int))))∧Pu w w',?_,?_⟩
 ·refine ae (fun c1=>?_) (fun c1=>?_)
  ·refine Calls.mono (Ab hb hn) ?_
   rintro e w9 ⟨_,rfl,rfl,e9⟩
   obtain rfl:=e9.symm
   exact⟨_,rfl,by simp only [c1,Bool.true_and],Ch.refl _ _⟩
  ·exact⟨by simp only [c1,Bool.false_and],Ch.refl _ _⟩
 rintro _ _ wv ⟨rfl,Jo⟩
 exact⟨congrArg Value.bool (by rw [Bool.eq_iff_iff];simp),Jo⟩
theorem DB.vw {m:Mem} {l:List U32}(h:¬l.length=1+2*m.S):DB.ao m l=110:=by unfold DB.ao;rw [if_pos h]
theorem DB.A5 {m:Mem} {l:List U32}(h:l.length=1+2*m.S)(hb:DB.wd l 0>64):DB.ao m l=110:=by unfold DB.ao;rw [if_neg (by simpa using h),if_pos hb]
theorem DB.se {m:Mem} {l:List U32}(h:l.length=1+2*m.S)(hb:¬DB.wd l 0>64):DB.ao m l=if(List.range m.S).all (DB.j3 m l)then 0 else 110:=by unfold DB.ao;rw [if_neg (by simpa using h),if_neg hb]
theorem DB.eW {m:Mem} {l:List U32}(h:l.length=1+2*m.S)(hb:¬DB.wd l 0>64) {p:Nat}(hp:p<m.S)(he:DB.j3 m l p=false):DB.ao m l=110:=by
 rw [se h hb,if_neg]
 intro hh
 have:=List.all_eq_true.1 hh p (List.mem_range.2 hp)
 rw [he]at this;cases this
theorem DB.om {m:Mem} {l:List U32}(h:l.length=1+2*m.S)(hb:¬DB.wd l 0>64)(hp:∀p,p<m.S→DB.j3 m l p=true):DB.ao m l=0:=by
 rw [se h hb,if_pos (List.all_eq_true.2 fun p h=>hp p (List.mem_range.1 h))]
theorem DB.oM {l:List U32} {i:Nat}:((l.drop 1).map U32.v).getD i 0=DB.wd l (1+i):=by
 unfold DB.wd
 rw [List.getD_eq_getElem?_getD,List.getD_eq_getElem?_getD,List.getElem?_map,List.getElem?_drop]
 cases l[1+i]? <;>rfl
theorem DB.xX {l:List U32}(hw:∀x∈l,0≤x.v∧x.v<4294967296)(i:Nat):0≤DB.wd l i∧DB.wd l i<4294967296:=by
 unfold DB.wd
 rw [List.getD_eq_getElem?_getD]
 by_cases hi:i<l.length
 ·rw [List.getElem?_eq_getElem hi];exact hw _ (List.getElem_mem hi)
 ·rw [List.getElem?_eq_none (by omega)];show(0:Int)≤0∧(0:Int)<_;omega
theorem Ip {L:dR} {m:Mem} {Z:Nat→Prop} {wordsA:Option Addr} {wordsN wordsC:Nat} {l:List U32} {w:World}(h:bY w L m)(hz:Rd w Z wordsA wordsN wordsC l)(hw:∀x∈l,0≤x.v∧x.v<4294967296):
 Calls prog 50 #[(.pointer (some (Addr.mk L.g 0 none))),(.slice wordsA wordsN wordsC)] w fun e w'=>∃v,e= .returned v∧∃p:Option Addr,v= .tuple #[.pointer p,.int .i64 (DB.ao m l)]∧
  (DB.ao m l=0→∃g a,p=some (Addr.mk g 0 none)∧DBP w' ⟨g,a,L⟩ (DB.load m l)∧w.heap.size≤g∧w.heap.size≤a)∧(DB.ao m l≠0→p=none)∧Pu w w':=by
 have hm:=h.dz
 have hl:=hz.len
 have Q1:=hz.cap
 have JM:=hz.lt
 have Vj:i64.wrap (1+i64.wrap (2*(m.S:Int)))=1+2*(m.S:Int):=by rw [ax (x:=2*(m.S:Int)) (by omega),ax (by omega)]
 refine xL (some (Addr.mk L.g 0 none)) wordsA wordsN wordsC ?_
 refine⟨fun b w'=>b=(decide (¬l.length=1+2*m.S) || decide (DB.wd l 0>64))∧Pu w w',?_,?_⟩
 ·refine kY ?_
  refine Calls.mono (tC h) ?_
  rintro e w1 ⟨_,rfl,rfl,rfl⟩
  refine⟨_,rfl,?_⟩
  refine aK (fun c1=>?_) (fun c1=>?_)
  ·rw [Vj]at c1
   exact⟨by rw [show decide (¬l.length=1+2*m.S)=true by simp;omega];rfl,Ch.refl _ _⟩
  ·rw [Vj]at c1
   refine⟨by omega,?_⟩
   obtain⟨p,hA,hZ,hc⟩:=hz.u32 (by omega)
   refine ai p hA ⟨_,hc 0 (by omega),?_,Ch.refl _ _⟩
   rw [show decide (¬l.length=1+2*m.S)=false by simp;omega,Bool.false_or];rfl
 rintro _ _ wv ⟨rfl,q⟩
 refine cH (fun c1=>?_) (fun c1=>?_)
 ·have he:DB.ao m l=110:=by
   simp only [decide_eq_true_eq]at c1
   by_cases hn:l.length=1+2*m.S
   ·rcases c1 with c1 | c1
    ·exact absurd hn c1
    ·exact DB.A5 hn c1
   ·exact DB.vw hn
  exact⟨none,by rw [he],by rw [he];intro hh;omega,fun _=>rfl,q⟩
 simp only [decide_eq_false_iff_not,Classical.not_not]at c1
 obtain⟨hlen,hb⟩:=c1
 have Pm:=(hz.pu q).pu (Pu.aW _)
 obtain⟨p,hA,hZ,hc⟩:=Pm.u32 (by omega)
 refine⟨bXU [3] [] wv.drew (fun _=>False),by omega,ai p hA ⟨.inr ⟨by decide,bX.lt (Pm.lt _ hZ) (fun h=>h)⟩,_,hc 0 (by omega),?_⟩⟩
 have en:i64.wrap (((wordsN:Nat):Int) - 1)=2*(m.S:Int):=by rw [ax (by omega)];omega
 rw [en]
 refine iG mq (n:=2*(m.S:Int)) (by omega) (by omega) (by omega) fun ga Jb ma=>?_
 refine bXU.fC ma.pu (by decide) ?_
 refine mkd fun gv Jc mv=>?_
 refine bXU.fC mv.pu (by decide) ?_
 have q0:Pu w wv.drew:=q.drew
 have loa:=ma.lo q0
 have q1:Pu w Jb:=q0.made ma
 have lov:=mv.lo q1
 have q2:Pu w Jc:=q1.made mv
 have ba:Blk Jc.drew ga (bu (List.replicate (2*(m.S:Int)).toNat 0)) _:=(mv.old (ma.blk.cast (fi _ _))).drew
 have bv:=mv.blk.drew
 have Ky:=mv.ne ma.blk
 have Rr:=((Pm.pu ma.pu).pu mv.pu).pu (Pu.aW _)
 refine⟨bXU [] [3] Jc.drew (fun _=>False),.inl (by decide),_,_,_,bv.at rfl,by omega,?_⟩
 rintro xA e1 xN e2 xC e3
 have r:=Rd.from_ (lo:=Int.toNat 1) Rr e1 e2 e3 (by omega) (by omega)
 refine nS mq ba rfl r.ints (by simp;omega) fun Ji s3=>?_
 refine bXU.qc s3.ch (by decide) ?_
 have Ki:iu (List.replicate (2*(m.S:Int)).toNat 0) 0 (((l.drop (Int.toNat 1)).map U32.v).take (min xN (2*(m.S:Int)).toNat))=(l.drop 1).map U32.v:=by
  rw [List.take_of_length_le (by rw [e2];simp;omega)]
  exact mn _ _ (by simp;omega)
 have ba:=s3.blk
 rw [Ki]at ba
 have bv:=s3.old bv (fun e=>Ky e.symm)
 have q3:Pu w Ji:=(q2.drew).stored s3 (.inr loa)
 have e2S:(2*(m.S:Int)).toNat=2*m.S:=by omega
 rw [e2S]at bv
 refine Calls.mono (Ab bv hm.1) ?_
 rintro e w4 ⟨_,rfl,rfl,rfl⟩
 refine⟨_,rfl,?_⟩
 refine⟨fun mz x W=>mz=((m.S:Int) - x).toNat∧(0≤x∧x≤(m.S:Int))∧Pu w W∧Blk W gv #[.pointer (some (Addr.mk L.g 0 none)),.int .i64 (i64.wrap (DB.wd l 0)),.slice (some (Addr.mk ga 0 none)) (2*m.S) (2*m.S)] 110∧Blk W ga (bu ((l.drop 1).map U32.v)) 29∧∀q,q<x.toNat→DB.j3 m l q=true,
  ⟨_,rfl,⟨by omega,by omega⟩,q3,bv,ba,fun q hq=>by omega⟩,?_⟩
 rintro _ _ x w5 ⟨rfl,hx,q5,bv,ba,Pt⟩
 have NH:((l.drop 1).map U32.v).length=2*m.S:=by simp;omega
 refine aq (fun c2=>?_) (fun c2=>?_)
 ·have ex:i64.wrap (2*x)=2*x:=ax (by omega)
  have ext:(2*x).toNat=2*x.toNat:=by omega
  refine⟨_,_,_,bv.at rfl,by rw [ex];omega,?_⟩
  rintro _ rfl _ rfl _ rfl
  rw [ex,ext]
  refine⟨by omega,ai (Addr.mk ga (2*x.toNat) none) (by rw [if_neg (by omega)];simp [Addr.add];omega) ?_⟩
  refine⟨_,_,⟨by rw [bG];exact ba.cell (dV (by rw [NH];omega)),by rw [bG];exact ba.cell (dV (by rw [NH];omega))⟩,?_⟩
  have ea:((l.drop 1).map U32.v).getD (2*x.toNat+0) 0=DB.wd l (1+2*x.toNat):=DB.oM
  have eb:((l.drop 1).map U32.v).getD (2*x.toNat+1) 0=DB.wd l (2+2*x.toNat):=by rw [DB.oM];congr 1;omega
  rw [ea,eb]
  refine Calls.mono (z7 _ _ (DB.xX hw _) (DB.xX hw _)) ?_
  rintro e w6 ⟨_,rfl,rfl,q6⟩
  refine⟨_,_,_,_,_,_,rfl,?_⟩
  refine mkd fun ge w7 me=>?_
  have be:=me.blk
  refine cv be (by simp) fun w8 s8=>?_
  have be:Blk w8 ge #[.int .i64 (Ent.dec (DB.wd l (1+2*x.toNat)) (DB.wd l (2+2*x.toNat))).typ,.int .i64 (Ent.dec (DB.wd l (1+2*x.toNat)) (DB.wd l (2+2*x.toNat))).owner,.int .i64 (Ent.dec (DB.wd l (1+2*x.toNat)) (DB.wd l (2+2*x.toNat))).refs,.int .i64 (Ent.dec (DB.wd l (1+2*x.toNat)) (DB.wd l (2+2*x.toNat))).state,.bool (Ent.dec (DB.wd l (1+2*x.toNat)) (DB.wd l (2+2*x.toNat))).bS] _:=s8.blk
  have q7:Pu w w7:=(q5.pu q6).made me
  have q8:Pu w w8:=q7.stored s8 (.inr (me.lo (q5.pu q6)))
  have nv:=me.ne (q6.blk bv)
  have na:=me.ne (q6.blk ba)
  have bv:=s8.old (me.old (q6.blk bv)) nv
  have ba:=s8.old (me.old (q6.blk ba)) na
  have how:0≤(Ent.dec (DB.wd l (1+2*x.toNat)) (DB.wd l (2+2*x.toNat))).owner∨Ent.eI (DB.wd l (1+2*x.toNat)) (DB.wd l (2+2*x.toNat))≠0:=by
   by_cases hd:Ent.eI (DB.wd l (1+2*x.toNat)) (DB.wd l (2+2*x.toNat))=0
   ·exact .inl (Ent.fl (Ent.gz hd).1).2.2.1
   ·exact .inr hd
  refine⟨fun b W=>b= !(DB.j3 m l x.toNat)∧Pu w W∧Blk W gv #[.pointer (some (Addr.mk L.g 0 none)),.int .i64 (i64.wrap (DB.wd l 0)),.slice (some (Addr.mk ga 0 none)) (2*m.S) (2*m.S)] 110∧Blk W ga (bu ((l.drop 1).map U32.v)) 29,?_,?_⟩
  ·refine aK (fun c3=>?_) (fun c3=>?_)
   ·exact⟨by unfold DB.j3;simp [c3],q8,bv,ba⟩
   ·refine⟨_,be.at rfl,?_⟩
    refine Calls.mono (Iq bv hm.1 _) ?_
    rintro e w9 ⟨_,rfl,rfl,q9⟩
    refine⟨_,rfl,?_,q8.pu q9,q9.blk bv,q9.blk ba⟩
    unfold DB.j3
    have Lv:Ent.eI (DB.wd l (1+2*x.toNat)) (DB.wd l (2+2*x.toNat))=0:=by simpa using c3
    have h0:=how.resolve_right (fun h=>h Lv)
    rw [Lv]
    simp [h0]
  rintro _ _ w9 ⟨rfl,q9,bv,ba⟩
  refine cQ (fun c4=>?_) (fun c4=>?_)
  ·have he:=DB.eW hlen hb (p:=x.toNat) (by omega) c4
   exact⟨none,by rw [he],by rw [he];intro hh;omega,fun _=>rfl,q9⟩
  ·have e9:i64.wrap (x+1)=x+1:=ax (by omega)
   refine⟨_,?_,rfl,?_,q9,bv,ba,fun q hq=>?_⟩
   ·rw [e9];omega
   ·rw [e9];omega
   ·rw [e9]at hq
    by_cases hqx:q=x.toNat
    ·subst hqx;exact c4
    ·exact Pt q (by omega)
 ·have JW:∀p,p<m.S→DB.j3 m l p=true:=fun p hp=>Pt p (by omega)
  have he:=DB.om hlen hb JW
  refine⟨some (Addr.mk gv 0 none),by rw [he],fun _=>⟨gv,ga,rfl,?_,lov,loa⟩,fun hh=>absurd he hh,q5⟩
  have QR:∀k,L.X k→k<w.heap.size:=h.lt
  refine⟨⟨110,?_⟩,⟨_,_,ba,by rw [eB,NH];rfl,fun p hp=>?_⟩,h.pu q5,DB.Fm hw he,fun e=>Ky e,fun hx=>absurd (QR _ hx) (Nat.not_lt.2 lov),fun hx=>absurd (QR _ hx) (Nat.not_lt.2 loa)⟩
  ·have hw0:=DB.xX hw 0
   rw [ax (by omega)]at bv
   exact bv
  ·have hp:p<m.S:=hp
   have ho:=JW p hp
   unfold DB.j3 at ho
   simp only [Bool.and_eq_true,beq_iff_eq]at ho
   have hd:=Ent.gz ho.1
   refine⟨?_,?_⟩
   ·rw [dV (by rw [NH];omega),DB.oM]
    show _=some (Value.int .u32 (Ent.dec _ _).w0)
    rw [hd.2.1]
   ·rw [dV (by rw [NH];omega),DB.oM]
    show _=some (Value.int .u32 (Ent.dec _ _).w1)
    rw [hd.2.2]
    congr 3;omega
end
section
namespace V
section
variable {U:Uni}
theorem aT.sb {rs:List (Res U)} {X:Nat→Nat→Prop} {w w':World} {Q:Ou U→Prop} {v:Value} {k:Option Kn} {Z:Nat→Prop} {r:Res U} {kc:List (Key×Kn)}(hs:Sat rs X w)(q:Pu w w')(hr:RS Z w' r)(hz:∀k,Z k→w.heap.size≤k)(hQ:Q ⟨v,k,[],[r],kc⟩)(hk:KnO (rs++ [r]) v k)
 (QU:∀key k,(key,k)∈kc→fw (rs++ [r]) fr0 key k):aT rs [] X w Q (.returned v) w':=by
 obtain⟨out,rs',X',h1,rfl,h3,h4⟩:=aT.more (Q:=fun o=>o=⟨v,k,[],[r],[]⟩) hs q hr hz rfl hk
 have h3:rs=rs':=by simpa [bF]using h3
 subst h3
 exact⟨⟨v,k,[],[r],kc⟩,rs,X',ft hk,hQ,rfl,⟨h4.sat,h4.ch,h4.same,h4.grow,h4.new,h4.kr,fun key k hm _=>QU key k hm⟩⟩
theorem aT.C1 {t:Nat} {rm:Nat→Nat} {m m':U.ty t} {X:Nat→Nat→Prop} {w w':World} {Q:Ou U→Prop} {v:Value} {k:Option Kn} {Z0 Z1:Nat→Prop} {r:Res U} {kc:List (Key×Kn)}(q:Ch (X 0) w w')(hp:U.pred t rm m' Z0 w')(Wc:∀k,Z0 k→X 0 k∨w.heap.size≤k)(hr:RS Z1 w' r)(Pm:∀k,Z1 k→w.heap.size≤k)(hd:∀k,Z0 k→¬Z1 k)
 (hQ:Q ⟨v,k,[.ob t m'],[r],kc⟩)(hk:KnO [.ob t rm m',r] v k)(QU:∀key k,(key,k)∈kc→fw [.ob t rm m',r] fr0 key k):aT [.ob t rm m] [0] X w Q (.returned v) w':=by
 refine⟨_,[.ob t rm m'],fun i=>if i=0 then Z0 else if i=1 then Z1 else X i,ft hk,hQ,by simp [bF,cZ,nth,cy],⟨⟨fun i r' Jv=>?_,fun i j hi hj Kh k KT Kf=>?_⟩,q.mono fun k hk=>⟨0,by simp,hk⟩,fun i hi hm=>?_,fun i hi k hk=>?_,fun i h1 h2 k hk=>?_,.inr hk,fun key k hm _=>QU key k hm⟩⟩
 ·match i with
  | 0=>simp only [List.cons_append,List.nil_append,nth,Option.some.injEq]at Jv;subst Jv;exact hp
  | 1=>simp only [List.cons_append,List.nil_append,nth,Option.some.injEq]at Jv;subst Jv;exact hr
  | i+2=>simp [nth]at Jv
 ·simp at hi hj
  match i,j,hi,hj,Kh with
  | 0,1,_,_,_=>exact hd k KT Kf
  | 1,0,_,_,_=>exact hd k Kf KT
  | 0,0,_,_,h=>exact h rfl
  | 1,1,_,_,h=>exact h rfl
 ·simp at hi hm;omega
 ·simp at hi;subst hi;exact Wc k hk
 ·simp at h1 h2
  obtain rfl:i=1:=by omega
  exact Pm k hk
theorem KnO.pair {rs:List (Res U)} {a b:Value} {p:PK}(h:den U rs p=some a):KnO rs (.tuple #[a,b]) (some (.t [some p,none])):=
 ⟨_,rfl,fun j k hj=>by
  match j,hj with
  | 0,hj=>simp only [nth,Option.some.injEq]at hj;subst hj;exact⟨a,rfl,h⟩
  | 1,hj=>simp [nth]at hj
  | j+2,hj=>simp [nth]at hj⟩
theorem qk {rs:List (Res U)} {fr:Fr} {key:Key} {k:Kn}(h:fw rs fr key k):∀key' k',(key',k')∈ [(key,k)]→fw rs fr key' k':=fun key' k' hm=>by
 simp only [List.mem_singleton,Prod.mk.injEq]at hm
 obtain⟨rfl,rfl⟩:=hm
 exact h
theorem aT.Hc {a a':Res U} {rest:List (Res U)} {u:Upd U} {X:Nat→Nat→Prop} {w w':World} {Q:Ou U→Prop} {v:Value} {k:Option Kn} {Z:Nat→Prop}(hs:Sat (a::rest) X w)(q:Ch (X 0) w w')(hu:cZ a u=some a')(hp:RS Z w' a')(hz:∀k,Z k→X 0 k∨w.heap.size≤k)(hQ:Q ⟨v,k,[u],[],[]⟩)(hk:KnO (a'::rest) v k):aT (a::rest) [0] X w Q (.returned v) w':=by
 refine⟨_,a'::rest,fun i=>if i=0 then Z else X i,ft hk,hQ,by simp [bF,hu,nth,cy],⟨⟨fun i r hr=>?_,fun i j hi hj Kh k KT Kf=>?_⟩,q.mono fun k hk=>⟨0,by simp,hk⟩,fun i hi hm=>?_,fun i hi k hk=>?_,fun i h1 h2=>by simp at h1 h2;omega,.inr (by simpa using hk),fun _ k hk=>by cases hk⟩⟩
 ·rw [List.append_nil]at hr
  match i with
  | 0=>simp only [nth,Option.some.injEq]at hr;subst hr;exact hp
  | i+1=>exact(hs.res (i+1) r hr).ch q fun k hk h0=>hs.dis 0 (i+1) (by simp) (aU hr) (by omega) k h0 hk
 ·simp at hi hj
  have key:∀j,j<rest.length+1→j≠0→Z k→X j k→False:=fun j hj h0 hZ hX=>by
   rcases hz k hZ with h | h
   ·exact hs.dis 0 j (by simp) (by simpa using hj) (by omega) k h hX
   ·have:=hs.lt (i:=j) (by simpa using hj) k hX;omega
  by_cases h1:i=0
  ·have h2:¬j=0:=by omega
   simp only [h1,if_true,if_neg h2]at KT Kf
   exact key j hj h2 KT Kf
  ·simp only [if_neg h1]at KT
   by_cases h2:j=0
   ·simp only [h2,if_true]at Kf
    exact key i hi h1 Kf KT
   ·simp only [if_neg h2]at Kf
    exact hs.dis i j (by simpa using hi) (by simpa using hj) Kh k KT Kf
 ·simp at hm;simp only [if_neg hm]
 ·simp at hi;subst hi;exact hz k hk
theorem aT.first {t:Nat} {r:Nat→Nat} {s s':U.ty t} {rest:List (Res U)} {X:Nat→Nat→Prop} {w w':World} {Q:Ou U→Prop} {v:Value} {k:Option Kn} {Z:Nat→Prop}(hs:Sat (.ob t r s::rest) X w)(q:Ch (X 0) w w')(hp:U.pred t r s' Z w')(hz:∀k,Z k→X 0 k∨w.heap.size≤k)(hQ:Q ⟨v,k,[.ob t s'],[],[]⟩)(hk:KnO (.ob t r s'::rest) v k):aT (.ob t r s::rest) [0] X w Q (.returned v) w':=
 aT.Hc (a':= .ob t r s') hs q (by simp [cZ]) hp hz hQ hk
end
end V
theorem Dg.j7 {d:Dg}(h:d.Ok):d.save.length=26:=by
 have h1:=h.len
 have h2:=h.n
 unfold Dg.save
 simp
 omega
theorem CH {l:List Int}(h:l.length=26):Value.agg (bu l)= .agg #[.int .u32 (l.getD 0 0),.int .u32 (l.getD 1 0),.int .u32 (l.getD 2 0),.int .u32 (l.getD 3 0),.int .u32 (l.getD 4 0),.int .u32 (l.getD 5 0),.int .u32 (l.getD 6 0),.int .u32 (l.getD 7 0),.int .u32 (l.getD 8 0),.int .u32 (l.getD 9 0),.int .u32 (l.getD 10 0),.int .u32 (l.getD 11 0),.int .u32 (l.getD 12 0),.int .u32 (l.getD 13 0),.int .u32 (l.getD 14 0),.int .u32 (l.getD 15 0),.int .u32 (l.getD 16 0),.int .u32 (l.getD 17 0),.int .u32 (l.getD 18 0),.int .u32 (l.getD 19 0),.int .u32 (l.getD 20 0),.int .u32 (l.getD 21 0),.int .u32 (l.getD 22 0),.int .u32 (l.getD 23 0),.int .u32 (l.getD 24 0),.int .u32 (l.getD 25 0)]:=by
 rcases l with _ | ⟨a0,_ | ⟨a1,_ | ⟨a2,_ | ⟨a3,_ | ⟨a4,_ | ⟨a5,_ | ⟨a6,_ | ⟨a7,_ | ⟨a8,_ | ⟨a9,_ | ⟨b0,_ | ⟨b1,_ | ⟨b2,_ | ⟨b3,_ | ⟨b4,_ | ⟨b5,_ | ⟨b6,_ | ⟨b7,_ | ⟨b8,_ | ⟨b9,_ | ⟨c0,_ | ⟨c1,_ | ⟨c2,_ | ⟨c3,_ | ⟨c4,_ | ⟨c5,_ | ⟨c6,r⟩⟩⟩⟩⟩⟩⟩⟩⟩⟩⟩⟩⟩⟩⟩⟩⟩⟩⟩⟩⟩⟩⟩⟩⟩⟩⟩
 all_goals first | rfl | (simp at h;done)
end
end Go.Proofs.YtinhphjfnedhgaaGreatDoor
