/- Chapter 17, BuildValid: behind every call of every script the state is valid. -/
import Derived.Test.YtinhphjfnedhgaaGreatDoorK2
import Derived.KernelRfl
set_option linter.unusedVariables false
set_option linter.unusedSimpArgs false
namespace Go.Proofs.YtinhphjfnedhgaaGreatDoor.V
open Go Go.RowKit
open Go.IntKind (i64 u32 u64)
section
section
variable {U:Uni} {P:Program} {tbl:Tb U} {may:List Nat} {k0:Nat}
variable {w0:World} {X0 X:Nat→Nat→Prop} {w:World} {fr:Fr} {st:St U} {n:Nat} {N:List Nat} {ops:Array Oper}
def MSw(P:Program):L0:=fun B o ρ w F=>∃v,F v∧∀w',Kept (held B w) w w'→(execOp ρ o).run P w'= .ok (.value v) w'
theorem vj {F G:Nat→Prop}:∀ {l:List Nat},BV F l→(∀i,F i→G i)→BV G l
 | [],_,_=>trivial
 | [_],h,hg=>hg _ h
 | _::j::r,h,hg=>⟨hg _ h.1,vj (l:=j::r) h.2 hg⟩
theorem zm {b:Nat→Nat→Prop}:∀ {l:List Nat} {k:Nat},cg b l k→∃i,i∈l∧b i k
 | [i],k,h=>⟨i,by simp,h⟩
 | i::j::r,k,h=>by
  rcases h with h | h
  ·exact⟨i,by simp,h⟩
  ·obtain⟨i',h1,h2⟩:=zm (l:=j::r) h
   exact⟨i',List.mem_cons_of_mem _ h1,h2⟩
theorem F8 {α:Type}(M L:List α):jK ((M++L).length - L.length) (M++L)=M:=by
 rw [fv,List.length_append,Nat.add_sub_cancel,List.take_left]
theorem LD {rs:List (Res U)} {p:PK} {v:Value}(h:den U rs p=some v):p.id<rs.length:=by
 unfold den at h
 cases hn:nth rs p.id with
 | none=>rw [hn]at h;cases p<;>simp [cA]at h
 | some r=>exact aX hn
theorem BOk.step {V:List Nat} {rd:List (Nat×List Nat)} {b:Nat→Nat→Prop}(hb:BOk V rd b st.rs X w) {st':St U} {X':Nat→Nat→Prop} {w':World} {M:List Nat}(hs:eB w0 k0 X0 may fr st X w st' X' w' M):
 BOk V rd (fun i k=>b i k∨∃id,id∈qt i rd∧id<st'.rs.length∧X' id k) st'.rs X' w':=by
 refine⟨fun i id k h1 h2 h3=>.inr ⟨id,h1,h2,h3⟩,fun i k h=>.inl (hb.all i k h),fun i k hi hk=>?_⟩
 rcases hk with hk | ⟨id,h1,h2,h3⟩
 ·obtain⟨h4,h5⟩:=hb.only i k hi hk
  refine⟨Nat.lt_of_lt_of_le h4 hs.ch.size,fun j hj hx=>?_⟩
  by_cases T6:j<st.rs.length
  ·by_cases hm:j∈M
   ·rcases hs.grow j hm k hx with h6 | h6
    ·exact h5 j T6 h6
    ·omega
   ·rw [(hs.same j T6 hm).2]at hx
    exact h5 j T6 hx
  ·have:=hs.new j (Nat.le_of_not_lt T6) hj k hx
   omega
 ·refine⟨hs.inv.sat.lt h2 k h3,fun j hj hx=>?_⟩
  by_cases OL:id=j
  ·rw [← OL];exact h1
  ·exact absurd hx (hs.inv.sat.dis id j h2 hj OL k h3)
theorem BR {V:List Nat} {rd:List (Nat×List Nat)} {M beh:List Nat}(h:BS V rd M beh=true):∀i,i∈beh→i ∉ V∧∀j,j∈M→j ∉ qt i rd:=by
 intro i hi
 have:=cD.1 h i hi
 simp only [Bool.and_eq_true,Bool.not_eq_true']at this
 refine⟨fun hv=>?_,fun j hj hr=>?_⟩
 ·rw [fk.2 hv]at this;cases this.1
 ·have h2:=cD.1 this.2 j hj
  rw [fk.2 hr]at h2;cases h2
theorem BOk.kept {V:List Nat} {rd:List (Nat×List Nat)} {b:Nat→Nat→Prop}(hb:BOk V rd b st.rs X w) {st':St U} {X':Nat→Nat→Prop} {w':World} {M:List Nat}(hs:eB w0 k0 X0 may fr st X w st' X' w' M) {beh:List Nat}(h:BS V rd M beh=true):Kept (cg b beh) w w':=by
 refine hs.ch.kept.mono fun k hk=>?_
 obtain⟨i,hi,hbi⟩:=zm hk
 obtain⟨h1,h2⟩:=BR h i hi
 obtain⟨h3,h4⟩:=hb.only i k h1 hbi
 exact⟨h3,fun⟨j,hj,hx⟩=>h2 j hj (h4 j (hs.mlt j hj) hx)⟩
theorem Ja {o:Oper} {kn:List (Key×Kn)} {x:Nat}(h:rdX o kn X x):∃t a p,o.op= .load t a∧kf kn a=some (.p p)∧X p.id x:=by
 unfold rdX at h
 cases Zs:o.op<;>simp only [Zs]at h
 rename_i t a
 cases hk:V.kf kn a with
 | none=>simp only [hk]at h
 | some k=>cases k<;>simp only [hk]at h;exact⟨t,a,_,rfl,hk,h⟩
theorem F7 {all:Bool} {V:List Nat} {rd:List (Nat×List Nat)} {K:Fr→St U→Prop}(OZ:∀f c,tbl.c f=some c→LV U P f c∧bT P f=true):
 ∀(fuel:Nat)(listed:Array Bool)(fr:Fr)(st0 st:St U)(Xs X:Nat→Nat→Prop)(w:World)(ds:List Deferred)(b:Nat→Nat→Prop),(all=false→BOk V rd b st.rs X w)→(all=true→∀i k,b i k)→Steps w0 k0 X0 may st0 Xs st X w→ax st.rs fr st.kn→fr.ds=ds→
  tZ U P tbl may k0 n N ops all V rd K fuel listed fr st→
  qP P (fun o ρ w K=>opW P false none o ρ w K) (MSw P) n N ops (Aft w0 k0 X0 may st0 Xs ds K) fuel (some b) listed fr w:=by
 intro fuel
 induction fuel with
 | zero=>
  intro listed fr st0 st Xs X w ds b hb Ow hS hk hd h
  simp only [tZ]at h
  simp only [qP]
  split at h
  ·rename_i Q3
   try simp only [Q3]
   exact⟨st,X,hS,hk,hd,h⟩
  ·exact h.elim
 | succ fuel ih=>
  intro listed fr st0 st Xs X w ds b hb Ow hS hk hd h
  simp only [tZ]at h
  simp only [qP]
  split at h
  ·rename_i Q3
   try simp only [Q3]
   exact⟨st,X,hS,hk,hd,h⟩
  ·rename_i i0 r0 Q3
   try simp only [Q3]
   split at h
   ·rename_i i ZM
    try simp only [ZM]
    split at h
    ·rename_i o ho
     try simp only [ho]
     refine lM h (fun fr' hl PS hq=>?_) (fun fr' hl PS h=>?_)
     ·have Q5:=hk.same hl
      clear h
      have h:=hq
      clear hq
      cases Oa:GX o with
      | true=>simp only [Oa]at h
      | false=>
      cases Sy:Lh all V rd i o st.kn with
      | false=>simp only [Oa,Sy]at h
      | true=>
       simp only [Oa,Sy]at h
       obtain⟨v,k,h1,h2,h3⟩:=uR hS.inv.sat Q5 h
       refine⟨v,?_,fun w' hw=>h3 w' (hw.mono fun x hx=>?_)⟩
       ·refine iB (jQ h1 Q5 h2) fun OQ hp=>?_
        obtain⟨O7,e1,e2,h4,h5,h6⟩:=hp
        exact ih _ OQ st0 O7 Xs X w ds b (by rw [e1];exact hb) Ow (hS.kn e1 e2) (by rw [e1];exact h4) (by rw [h5,PS,hd]) h6
       ·show b i x
        obtain⟨t,a,p,Zs,hp,hx⟩:=Ja hx
        unfold Lh at Sy
        simp only [Zs,hp]at Sy
        by_cases ha:all=true
        ·exact Ow ha i x
        have hb:=hb (by simpa using ha)
        split at Sy
        ·rename_i hv
         rcases Bool.or_eq_true_iff.1 hv with hv | hv
         ·exact absurd hv ha
         ·exact hb.all i x (fk.1 hv)
        ·have hpk:=Q5.kf a
         rw [hp]at hpk
         exact hb.has i p.id x (fk.1 Sy) (LD (show den U st.rs p=some _ from hpk)) hx
     ·refine iB (jQ h (hk.same hl) trivial) fun OQ hp=>?_
      obtain⟨O7,e1,e2,h4,h5,h6⟩:=hp
      exact ih _ OQ st0 O7 Xs X w ds b (by rw [e1];exact hb) Ow (hS.kn e1 e2) (by rw [e1];exact h4) (by rw [h5,PS,hd]) h6
    ·exact h.elim
   ·split at h
    ·exact h.elim
    ·rename_i UJ _
     try simp only [UJ]
     refine vj h fun i h=>?_
     split at h
     ·rename_i o ho
      try simp only [ho]
      refine lM h (fun fr' hl PS h=>?_) (fun fr' hl PS h=>?_)
      ·have Q5:=hk.same hl
       refine sA (GA (C5 OZ hS.inv Q5 h) fun ch w' ⟨_,_,_,_,_,h,_⟩=>h.elim) fun v w' hp=>?_
       obtain⟨k,st',X',M,h1,h2,h3⟩:=hp
       have h1:=C0 h1
       split at h1
       ·rename_i hap
        rw [h3.md,F8]at hap
        refine iB (jQ h1 h3.kn h2) fun OQ hp=>?_
        obtain⟨O7,e1,e2,h4,h5,h6⟩:=hp
        have hb:=hb rfl
        have Qz:=hb.step h3
        have UI:=ih (listed.setIfInBounds i true) OQ st0 O7 Xs X' w' ds _ (fun _=>by rw [e1];exact Qz) (fun ha=>by cases ha) ((hS.trans h3.steps).kn e1 e2) (by rw [e1];exact h4) (by rw [h5,PS,hd]) h6
        unfold Da
        simp only
        split
        ·exact⟨_,fun i k hik=>.inl hik,UI⟩
        ·exact⟨hb.kept h3 hap,_,fun i k hik=>.inl hik,UI⟩
       ·exact h1.elim
      ·refine iB (jQ h (hk.same hl) trivial) fun OQ hp=>?_
       obtain⟨O7,e1,e2,h4,h5,h6⟩:=hp
       exact ih _ OQ st0 O7 Xs X w ds b (by rw [e1];exact hb) Ow (hS.kn e1 e2) (by rw [e1];exact h4) (by rw [h5,PS,hd]) h6
     ·exact h.elim
variable (U P tbl may k0 w0 X0 n)in
def tE(c:Code)(V:QF2 U→Fr→St U→Prop):Prop:=
 ∀(Q:QF2 U)(fr:Fr)(st:St U)(X:Nat→Nat→Prop)(a:Act)(w:World),Rep n fr a→Inv w0 k0 X0 may st.rs X w→ax st.rs fr st.kn→V Q fr st→
  c.wpIn (WF none) 0 P (m7 n (writes c) a fun x fr' w'=>Aft w0 k0 X0 may st X fr.ds (fun fr' st'=>Q x fr' st') fr' w') a w
theorem Real.two {ws:List Nat} {a0:Act} {Q:QF} {e:Exit} {a':Act} {w':World}(h:Real n ws a0 none Q e a' w'):m7 n ws a0 Q e a' w':=by
 cases e<;>first | exact h | exact h.1.elim
theorem m7.mono {ws ws':List Nat} {a0:Act} {Q Q':QF} {e:Exit} {a':Act} {w':World}(h:m7 n ws a0 Q e a' w')(hw:∀i,i∈ws→i∈ws')(hQ:∀x fr w,Q x fr w→Q' x fr w):m7 n ws' a0 Q' e a' w':=by
 cases e<;>first | exact h | (obtain⟨fr,h1,h2,h3⟩:=h;exact⟨fr,h1,hQ _ _ _ h2,h3.mono hw⟩)
theorem Aft.mono {ds:List Deferred} {K K':Fr→St U→Prop} {fr':Fr} {w':World}(h:Aft w0 k0 X0 may st X ds K fr' w')(hK:∀fr st,K fr st→K' fr st):Aft w0 k0 X0 may st X ds K' fr' w':=by
 obtain⟨st',X',h1,h2,h3,h4⟩:=h
 exact⟨st',X',h1,h2,h3,hK _ _ h4⟩
theorem Aft.pre {RH:St U} {X1:Nat→Nat→Prop} {w1:World} {ds:List Deferred} {K:Fr→St U→Prop} {fr':Fr} {w':World}(hs:Steps w0 k0 X0 may st X RH X1 w1)(h:Aft w0 k0 X0 may RH X1 ds K fr' w'):Aft w0 k0 X0 may st X ds K fr' w':=by
 obtain⟨st',X',h1,h2,h3,h4⟩:=h
 exact⟨st',X',hs.trans h1,h2,h3,h4⟩
theorem ub {id:Nat} {Q:QF2 U} {a:Act}(OZ:∀f c,tbl.c f=some c→LV U P f c∧bT P f=true)(hr:Rep n fr a)(hI:Inv w0 k0 X0 may st.rs X w)(hk:ax st.rs fr st.kn)(h:DO U P tbl may k0 n N ops (Q .normal) (fun ch=>Q (.panic ch)) ops.toList fr st):
 (Code.region id ops false).wpIn (WF none) 0 P (m7 n (writes (.region id ops false)) a fun x fr' w'=>Aft w0 k0 X0 may st X fr.ds (fun fr' st'=>Q x fr' st') fr' w') a w:=by
 have hv:=rS (n:=n) (N:=N) (ops:=ops) OZ ops.toList fr st st X X w fr.ds (Steps.refl hI) hk rfl h
 exact wpIn_mono (wpIn_region_list (nd (ws:=writes (.region id ops false)) (a0:=a) ops.toList (fun o ho d hd=>List.mem_filterMap.2 ⟨o,ho,hd⟩) fr a w hr (Agr.refl _ _) hv)) fun e a' w' he=>by
  cases e<;>first | exact he | (obtain⟨_,_,h,_⟩:=he;exact h.elim)
theorem vR {id:Nat} {Q:QF2 U} {a:Act} {V:List Nat} {rd:List (Nat×List Nat)}(OZ:∀f c,tbl.c f=some c→LV U P f c∧bT P f=true)(hm:P.follows .mixedOrders=true)(hs:Region.noSelect ops=true)(Qc:eI ops.toList=true)(hr:Rep n fr a)(hI:Inv w0 k0 X0 may st.rs X w)(hk:ax st.rs fr st.kn) {all:Bool}
 (h:tZ U P tbl may k0 n N ops all V rd (Q .normal) ops.size (Array.replicate ops.size false) fr st):
 (Code.region id ops true).wpIn (WF none) 0 P (m7 n (writes (.region id ops true)) a fun x fr' w'=>Aft w0 k0 X0 may st X fr.ds (fun fr' st'=>Q x fr' st') fr' w') a w:=by
 have hI':=Inv.drew hI
 have hS:Steps w0 k0 X0 may st X st X w.drew:=Steps.refl hI'
 have hv:=F7 (n:=n) (N:=N) (ops:=ops) OZ ops.size (Array.replicate ops.size false) fr st st X X w.drew fr.ds (fun i k=>i∈V∨all=true∨∃id,id∈qt i rd∧id<st.rs.length∧X id k) (fun ha=>⟨fun i id k h1 h2 h3=>.inr (.inr ⟨id,h1,h2,h3⟩),fun i k h=>.inl h,fun i k hi hk=>by
  rcases hk with hk | hk | ⟨id,h1,h2,h3⟩
  ·exact absurd hk hi
  ·rw [ha]at hk;cases hk
  ·refine⟨hI'.sat.lt h2 k h3,fun j hj hx=>?_⟩
   by_cases OL:id=j
   ·rw [← OL];exact h1
   ·exact absurd hx (hI'.sat.dis id j h2 hj OL k h3)⟩) (fun ha i k=>.inr (.inl ha)) hS hk rfl h
 exact wpIn_mono (jI hm og (fun o ho=>iQ Qc o (Array.mem_toList_iff.2 ho)) (rT (ws:=writes (.region id ops true)) (a0:=a) (Qp:=none) (M:=fun o ρ w K=>opW P false none o ρ w K) (MS:=MSw P) (fun _ _ _ _ h=>h) (fun _ _ _ _ _ h=>h) hs (fun i o ho d hd=>sF ho hd) ops.size _ (fun _ _ _=>True) _ fr a w.drew (hH.none _ _) (m8.none _ _) hr (Agr.refl _ _) hv)) fun e a' w' he=>Real.two (lz he)
end
end
section
section
variable {U:Uni} {P:Program} {tbl:Tb U} {may:List Nat} {k0:Nat}
variable {w0:World} {X0 X:Nat→Nat→Prop} {w:World} {fr:Fr} {st:St U} {n:Nat} {N:List Nat} {ops:Array Oper}
theorem xL {T:Type}:∀ {l:List (Nat×Sh2)} {J:SlT l T} {fr:Fr} {F:T→Prop},K6 l J fr F→∃J' vs,F J'∧(∀G:T→List (Nat×Value)→Prop,alS l J G→G J' vs)∧∀s v,(s,v)∈vs→lk fr.g s fr.e=v
 | [],J,fr,F,h=>⟨J,[],h,fun G hG=>hG,fun s v hv=>by cases hv⟩
 | (s,sh)::r,J,fr,F,h=>by
  obtain⟨J1,h1,g1⟩:=vf h
  obtain⟨J2,vs,h2,g2,e2⟩:=xL h1
  refine⟨J2,(s,lk fr.g s fr.e)::vs,h2,fun G hG=>g2 (fun J'' vs=>G J'' ((s,lk fr.g s fr.e)::vs)) (g1 (fun J' v=>alS r J' fun J'' vs=>G J'' ((s,v)::vs)) hG),fun s' v hv=>?_⟩
  rcases List.mem_cons.1 hv with e | hv
  ·injection e with e1 e2;rw [e1,e2]
  ·exact e2 s' v hv
def dL(kn:List (Key×Kn))(id:Nat):Nat→List AV→List Value→Prop
 | _,[],[]=>True
 | i,.v x::r,v::vs=>x=v∧dL kn id (i+1) r vs
 | i,.k p::r,_::vs=>dm (.c id i) kn=some (.p p)∧dL kn id (i+1) r vs
 | _,_,_=>False
theorem rY {T:Type} {id:Nat} {kn:List (Key×Kn)}:∀ {l:List CS} {J:CST l T} {i:Nat} {vs:List Value} {F:T→Prop},A7 id kn l J i vs F→∃J' az,F J'∧(∀G:T→List AV→Prop,HD l J G→G J' az)∧dL kn id i az vs∧∀n,jr n l=true→∀p,AV.k p∈az→p.id<n
 | [],J,i,[],F,h=>⟨J,[],h,fun G hG=>hG,trivial,fun _ _ p hp=>by cases hp⟩
 | [],_,_,_::_,_,h=>h.elim
 | .v _::_,_,_,[],_,h=>h.elim
 | .k _::_,_,_,[],_,h=>h.elim
 | .v s::r,J,i,v::vs,F,h=>by
  obtain⟨J1,h1,g1⟩:=oN h
  obtain⟨J2,az,h2,g2,d2,b2⟩:=rY h1
  refine⟨J2,.v v::az,h2,fun G hG=>g2 (fun J'' vs=>G J'' (.v v::vs)) (g1 (fun J' v=>HD r J' fun J'' l=>G J'' (.v v::l)) hG),⟨rfl,d2⟩,fun n hn p hp=>?_⟩
  rcases List.mem_cons.1 hp with e | hp
  ·cases e
  ·exact b2 n hn p hp
 | .k p::r,J,i,v::vs,F,h=>by
  simp only [A7]at h
  split at h
  ·rename_i q hq
   split at h
   ·rename_i he
    obtain⟨J2,az,h2,g2,d2,b2⟩:=rY h
    refine⟨J2,.k p::az,h2,fun G hG=>g2 (fun J'' vs=>G J'' (.k p::vs)) hG,⟨by rw [hq,(Kn.nw he).1],d2⟩,fun n hn p' hp=>?_⟩
    simp only [jr]at hn
    split at hn
    ·rename_i Od
     rcases List.mem_cons.1 hp with e | hp
     ·injection e with e;subst e;simpa [Nat.blt_eq]using Od
     ·exact b2 n hn p' hp
    ·cases hn
   ·exact h.elim
  ·exact h.elim
def UpD(rs:List (Res U))(kn:List (Key×Kn))(id:Nat):UP U→Prop
 | .ob t s=>∃r,nth rs id=some (.ob t r s)
 | .blk az=>∃g cs T,nth rs id=some (.blk g cs T)∧dL kn id 0 az cs
 | .lst t A c l=>∃own T,nth rs id=some (.lst t own T A c l)
theorem nS {T:Type} {rs:List (Res U)} {kn:List (Key×Kn)}:∀ {l:List (Nat×RSh)} {J:zO U l T} {F:T→Prop},qQ rs kn l J F→∃J' us,F J'∧(∀G:T→List (Nat×UP U)→Prop,EE l J G→G J' us)∧us.map (·.1)=l.map (·.1)∧(∀id u,(id,u)∈us→UpD rs kn id u)∧
 ∀n,eF n l=true→∀id u,(id,u)∈us→id<n∧∀az,u= .blk az→∀p,AV.k p∈az→p.id<n
 | [],J,F,h=>⟨J,[],h,fun G hG=>hG,rfl,fun id u hu=>(by cases hu),fun _ _ id u hu=>by cases hu⟩
 | (id,.ob t)::r,J,F,h=>by
  simp only [qQ]at h
  split at h
  ·rename_i t' r' s hn
   split at h
   ·rename_i ht
    subst ht
    obtain⟨J2,us,h2,g2,m2,d2,b2⟩:=nS h
    refine⟨J2,(id,.ob t' s)::us,h2,fun G hG=>g2 (fun J'' vs=>G J'' ((id,.ob t' s)::vs)) (hG s),by simp [m2],fun i u hu=>?_,fun n hb i u hu=>?_⟩
    ·rcases List.mem_cons.1 hu with e | hu
     ·injection e with e1 e2;subst e1;subst e2;exact⟨r',hn⟩
     ·exact d2 i u hu
    ·simp only [eF]at hb
     split at hb
     ·rename_i Od
      rcases List.mem_cons.1 hu with e | hu
      ·injection e with e1 e2;subst e1;subst e2;exact⟨by simpa [Nat.blt_eq]using Od,fun az e=>by cases e⟩
      ·exact b2 n hb i u hu
     ·cases hb
   ·exact h.elim
  ·exact h.elim
 | (id,.blk l)::r,J,F,h=>by
  simp only [qQ]at h
  split at h
  ·rename_i g cs T' hn
   obtain⟨J1,az,h1,g1,d1,b1⟩:=rY h
   obtain⟨J2,us,h2,g2,m2,d2,b2⟩:=nS h1
   refine⟨J2,(id,.blk az)::us,h2,fun G hG=>g2 (fun J'' vs=>G J'' ((id,.blk az)::vs)) (g1 (fun J' cs=>EE r J' fun J'' us=>G J'' ((id,.blk cs)::us)) hG),by simp [m2],fun i u hu=>?_,fun n hb i u hu=>?_⟩
   ·rcases List.mem_cons.1 hu with e | hu
    ·injection e with e1 e2;subst e1;subst e2;exact⟨g,cs,T',hn,d1⟩
    ·exact d2 i u hu
   ·simp only [eF]at hb
    split at hb
    ·rename_i Od
     simp only [Bool.and_eq_true]at Od
     rcases List.mem_cons.1 hu with e | hu
     ·injection e with e1 e2;subst e1;subst e2
      exact⟨by simpa [Nat.blt_eq]using Od.1,fun as' e p hp=>by injection e with e;subst e;exact b1 n Od.2 p hp⟩
     ·exact b2 n hb i u hu
    ·cases hb
  ·exact h.elim
 | (id,.lst t)::r,J,F,h=>by
  simp only [qQ]at h
  split at h
  ·rename_i t' own T' A c l hn
   split at h
   ·rename_i ht
    subst ht
    obtain⟨J2,us,h2,g2,m2,d2,b2⟩:=nS h
    refine⟨J2,(id,.lst t' A c l)::us,h2,fun G hG=>g2 (fun J'' vs=>G J'' ((id,.lst t' A c l)::vs)) (hG A c l),by simp [m2],fun i u hu=>?_,fun n hb i u hu=>?_⟩
    ·rcases List.mem_cons.1 hu with e | hu
     ·injection e with e1 e2;subst e1;subst e2;exact⟨own,T',hn⟩
     ·exact d2 i u hu
    ·simp only [eF]at hb
     split at hb
     ·rename_i Od
      rcases List.mem_cons.1 hu with e | hu
      ·injection e with e1 e2;subst e1;subst e2;exact⟨by simpa [Nat.blt_eq]using Od,fun az e=>by cases e⟩
      ·exact b2 n hb i u hu
     ·cases hb
   ·exact h.elim
  ·exact h.elim
theorem wk {f:Nat→Res U→Option (Res U)}:∀ {i:Nat} {l l':List (Res U)},lay f i l=some l'→l'.length=l.length∧∀j r,nth l j=some r→∃r',f (i+j) r=some r'∧nth l' j=some r'
 | i,[],l',h=>by
  simp only [lay,Option.some.injEq]at h
  subst h
  exact⟨rfl,fun j r hr=>by simp [nth]at hr⟩
 | i,r::l,l',h=>by
  simp only [lay]at h
  split at h
  ·rename_i r' l2 h1 h2
   injection h with h
   subst h
   obtain⟨e1,e2⟩:=wk h2
   refine⟨by simp [e1],fun j x hx=>?_⟩
   cases j with
   | zero=>simp [nth]at hx;subst hx;exact⟨r',h1,rfl⟩
   | succ j=>
    obtain⟨y,h3,h4⟩:=e2 j x hx
    exact⟨y,by rw [show i+(j+1)=i+1+j by omega];exact h3,h4⟩
  ·cases h
theorem jJ {i:Nat} {u:UP U}:∀ {us:List (Nat×UP U)},kX i us=some u→(i,u)∈us
 | [],h=>by cases h
 | (j,x)::r,h=>by
  unfold kX at h
  split at h
  ·rename_i he
   injection h with h
   rw [← h,Nat.eq_of_beq_eq_true he]
   exact List.mem_cons_self ..
  ·exact List.mem_cons_of_mem _ (jJ h)
theorem rZ {i:Nat}:∀ {us:List (Nat×UP U)},kX i us=none→i ∉ us.map (·.1)
 | [],_=>by simp
 | (j,x)::r,h=>by
  unfold kX at h
  split at h
  ·cases h
  ·rename_i he
   rw [List.map_cons,List.mem_cons,not_or]
   exact⟨by rintro rfl;simp at he,rZ h⟩
theorem pU {kn:List (Key×Kn)} {s:Nat} {k:Kn}:∀ {l:List (Nat×Kn)},Dd kn l=true→(s,k)∈l→∃p,k= .p p∧dm (.s s) kn=some (.p p)
 | [],_,h=>by cases h
 | (a,q)::r,h,hm=>by
  simp only [Dd]at h
  split at h
  ·rename_i x hx
   split at h
   ·rename_i he
    rcases List.mem_cons.1 hm with e | hm
    ·injection e with e1 e2
     subst e1;subst e2
     obtain⟨e3,p,e4⟩:=Kn.nw he
     exact⟨p,by rw [← e3,e4],by rw [hx,e4]⟩
    ·exact pU h hm
   ·cases h
  ·cases h
theorem kD {m:Nat} {s:Nat} {p:PK}:∀ {l:List (Nat×Kn)},ov m l=true→(s,Kn.p p)∈l→p.id<m
 | [],_,h=>by cases h
 | (a,.p q)::r,h,hm=>by
  simp only [ov]at h
  split at h
  ·rename_i Od
   rcases List.mem_cons.1 hm with e | hm
   ·injection e with e1 e2;injection e2 with e2;subst e2;simpa [Nat.blt_eq]using Od
   ·exact kD h hm
  ·cases h
 | (a,.t _)::r,h,_=>by cases h
 | (a,.ag _)::r,h,_=>by cases h
 | (a,.f _ _)::r,h,_=>by cases h
theorem r6 {key:Key} {k:Kn}:∀ {l:List (Nat×Kn)},(key,k)∈Bh l→∃s,key= .s s∧(s,k)∈l
 | [],h=>by cases h
 | (s,q)::r,h=>by
  rcases List.mem_cons.1 h with e | h
  ·injection e with e1 e2;subst e1;subst e2;exact⟨s,rfl,List.mem_cons_self ..⟩
  ·obtain⟨s',h1,h2⟩:=r6 (l:=r) h;exact⟨s',h1,List.mem_cons_of_mem _ h2⟩
theorem gn {rs:List (Res U)} {s:Nat} {v:Value}:∀ {l:List (Nat×Kn)},(s,v)∈lK rs l→∃p,(s,Kn.p p)∈l∧v=(den U rs p).getD undef
 | [],h=>by cases h
 | (a,.p q)::r,h=>by
  rcases List.mem_cons.1 h with e | h
  ·injection e with e1 e2;subst e1;subst e2;exact⟨q,List.mem_cons_self ..,rfl⟩
  ·obtain⟨p,h1,h2⟩:=gn (l:=r) h;exact⟨p,List.mem_cons_of_mem _ h1,h2⟩
 | (a,.t _)::r,h=>by obtain⟨p,h1,h2⟩:=gn (l:=r) h;exact⟨p,List.mem_cons_of_mem _ h1,h2⟩
 | (a,.ag _)::r,h=>by obtain⟨p,h1,h2⟩:=gn (l:=r) h;exact⟨p,List.mem_cons_of_mem _ h1,h2⟩
 | (a,.f _ _)::r,h=>by obtain⟨p,h1,h2⟩:=gn (l:=r) h;exact⟨p,List.mem_cons_of_mem _ h1,h2⟩
 | (a,.pan)::r,h=>by obtain⟨p,h1,h2⟩:=gn (l:=r) h;exact⟨p,List.mem_cons_of_mem _ h1,h2⟩
theorem dL.K5 {kn:List (Key×Kn)} {id:Nat} {V:PK→Value}:∀ {i:Nat} {az:List AV} {vs:List Value},dL kn id i az vs→(∀j p v,nth az j=some (.k p)→nth vs j=some v→V p=v)→aG (fun a=>match a with | .v x=>x | .k p=>V p) az=vs
 | _,[],[],_,_=>rfl
 | _,[],_::_,h,_=>by simp [dL]at h
 | _,_::_,[],h,_=>by rename_i a l;cases a<;>simp [dL]at h
 | i,.v x::r,v::vs,h,hv=>by
  simp only [dL]at h
  simp only [aG,h.1]
  rw [dL.K5 h.2 fun j p v h1 h2=>hv (j+1) p v h1 h2]
 | i,.k p::r,v::vs,h,hv=>by
  simp only [dL]at h
  simp only [aG]
  rw [hv 0 p v rfl rfl,dL.K5 h.2 fun j p v h1 h2=>hv (j+1) p v h1 h2]
theorem dL.kn {kn:List (Key×Kn)} {id:Nat}:∀ {i j:Nat} {az:List AV} {vs:List Value} {p:PK},dL kn id i az vs→nth az j=some (.k p)→dm (.c id (i+j)) kn=some (.p p)
 | _,_,[],_,_,_,h=>by simp [nth]at h
 | i,0,.v _::_,_::_,_,_,h=>by simp [nth]at h
 | i,0,.k p::r,v::vs,p',hd,h=>by
  simp only [dL]at hd
  simp only [nth,Option.some.injEq,AV.k.injEq]at h
  subst h
  exact hd.1
 | i,j+1,.v _::r,_::vs,p,hd,h=>by
  simp only [dL]at hd
  have:=dL.kn hd.2 (show nth r j=some (.k p)from h)
  rwa [show i+1+j=i+(j+1)by omega]at this
 | i,j+1,.k _::r,_::vs,p,hd,h=>by
  simp only [dL]at hd
  have:=dL.kn hd.2 (show nth r j=some (.k p)from h)
  rwa [show i+1+j=i+(j+1)by omega]at this
 | _,_,.v _::_,[],_,hd,_=>by simp [dL]at hd
 | _,_,.k _::_,[],_,hd,_=>by simp [dL]at hd
theorem nB {id:Nat} {key:Key} {k:Kn}:∀ {i:Nat} {l:List CS},(key,k)∈wI id i l→∃j p,key= .c id (i+j)∧k= .p p∧nth l j=some (.k p)
 | _,[],h=>by cases h
 | i,.v _::r,h=>by
  obtain⟨j,p,h1,h2,h3⟩:=nB (l:=r) h
  exact⟨j+1,p,by rw [h1];congr 1;omega,h2,h3⟩
 | i,.k q::r,h=>by
  rcases List.mem_cons.1 h with e | h
  ·injection e with e1 e2;exact⟨0,q,e1,e2,rfl⟩
  ·obtain⟨j,p,h1,h2,h3⟩:=nB (l:=r) h
   exact⟨j+1,p,by rw [h1];congr 1;omega,h2,h3⟩
theorem mB {key:Key} {k:Kn}:∀ {l:List (Nat×RSh)},(key,k)∈CO l→∃id cs j p,(id,RSh.blk cs)∈l∧key= .c id j∧k= .p p∧nth cs j=some (.k p)
 | [],h=>by cases h
 | (id,.blk cs)::r,h=>by
  rcases List.mem_append.1 h with h | h
  ·obtain⟨j,p,h1,h2,h3⟩:=nB h
   exact⟨id,cs,j,p,List.mem_cons_self ..,by simpa using h1,h2,h3⟩
  ·obtain⟨a,b,c,d,h1,h2⟩:=mB (l:=r) h;exact⟨a,b,c,d,List.mem_cons_of_mem _ h1,h2⟩
 | (id,.ob _)::r,h=>by obtain⟨a,b,c,d,h1,h2⟩:=mB (l:=r) h;exact⟨a,b,c,d,List.mem_cons_of_mem _ h1,h2⟩
 | (id,.lst _)::r,h=>by obtain⟨a,b,c,d,h1,h2⟩:=mB (l:=r) h;exact⟨a,b,c,d,List.mem_cons_of_mem _ h1,h2⟩
theorem vH {T:Type} {id:Nat} {kn:List (Key×Kn)}:∀ {l:List CS} {J:CST l T} {i:Nat} {vs:List Value} {F:T→Prop},A7 id kn l J i vs F→(∃J',F J')∧∀j p,nth l j=some (.k p)→dm (.c id (i+j)) kn=some (.p p)
 | [],J,i,[],F,h=>⟨⟨J,h⟩,fun j p hp=>by simp [nth]at hp⟩
 | [],_,_,_::_,_,h=>h.elim
 | .v _::_,_,_,[],_,h=>h.elim
 | .k _::_,_,_,[],_,h=>h.elim
 | .v s::r,J,i,v::vs,F,h=>by
  obtain⟨J1,h1,_⟩:=oN h
  obtain⟨h2,h3⟩:=vH h1
  refine⟨h2,fun j p hp=>?_⟩
  cases j with
  | zero=>simp [nth]at hp
  | succ j=>have:=h3 j p hp;rwa [show i+1+j=i+(j+1)by omega]at this
 | .k q::r,J,i,v::vs,F,h=>by
  simp only [A7]at h
  split at h
  ·rename_i x hx
   split at h
   ·rename_i he
    obtain⟨h2,h3⟩:=vH h
    refine⟨h2,fun j p hp=>?_⟩
    cases j with
    | zero=>simp only [nth,Option.some.injEq,CS.k.injEq]at hp;subst hp;rw [Nat.add_zero,hx,(Kn.nw he).1]
    | succ j=>have:=h3 j p hp;rwa [show i+1+j=i+(j+1)by omega]at this
   ·exact h.elim
  ·exact h.elim
theorem rj {T:Type} {rs:List (Res U)} {kn:List (Key×Kn)}:∀ {l:List (Nat×RSh)} {J:zO U l T} {F:T→Prop},qQ rs kn l J F→∀id cs,(id,RSh.blk cs)∈l→∀j p,nth cs j=some (.k p)→dm (.c id j) kn=some (.p p)
 | [],_,_,_,_,_,h=>by cases h
 | (id,.ob t)::r,J,F,h,i,cs,hm=>by
  simp only [qQ]at h
  split at h
  ·split at h
   ·exact rj h i cs ((List.mem_cons.1 hm).resolve_left fun e=>by cases e)
   ·exact h.elim
  ·exact h.elim
 | (id,.lst t)::r,J,F,h,i,cs,hm=>by
  simp only [qQ]at h
  split at h
  ·split at h
   ·exact rj h i cs ((List.mem_cons.1 hm).resolve_left fun e=>by cases e)
   ·exact h.elim
  ·exact h.elim
 | (id,.blk l)::r,J,F,h,i,cs,hm=>by
  simp only [qQ]at h
  split at h
  ·obtain⟨⟨J',h1⟩,h2⟩:=vH h
   intro j p hp
   rcases List.mem_cons.1 hm with e | hm
   ·injection e with e1 e2
    injection e2 with e2
    subst e1;subst e2
    have:=h2 j p hp
    rwa [Nat.zero_add]at this
   ·exact rj h1 i cs hm j p hp
  ·exact h.elim
theorem dK.JK {x:Res U} {g:Nat} {cs:List Value} {T:TypeId}(h:dK x (.blk g cs T)):∃VY,x= .blk g VY T∧VY.length=cs.length:=by
 cases h
 rename_i c hc
 exact⟨c,rfl,hc⟩
theorem yV {ct:AU} {J:JT2 U ct} {stb st':St U} {fr fr':Fr} {a a':Act} {w':World} {X X':Nat→Nat→Prop} {ws:List Nat}(hr:Rep n fr a)(NV:Rep n fr' a')(Ot:Agr ws a a')(Pv:tc ct.wr2 ws=true)
 (hkb:ax stb.rs fr stb.kn)(Q5:ax st'.rs fr' st'.kn)(hI:Inv w0 k0 X0 may st'.rs X' w')(hlen:stb.rs.length≤st'.rs.length)(hmd:∀i,i<stb.rs.length→i ∉ st'.md→i ∉ aG (·.1) ct.rsh→nth st'.rs i=nth stb.rs i∧X' i=X i)(O9:∀i a,nth stb.rs i=some a→∃b,nth st'.rs i=some b∧dK a b)(hk0:k0≤stb.rs.length)
 (hu:px ct stb.rs.length J fr' st') {F:List (Nat×Value)→St U→Prop}(Ow:BW ct J stb fr.e F):
 ∃e O7,F e O7∧Rep n ⟨e,fun i=>a'.tmps.getD i undef,fr.ds⟩ a'∧Inv w0 k0 X0 may O7.rs X' w'∧ax O7.rs ⟨e,fun i=>a'.tmps.getD i undef,fr.ds⟩ O7.kn∧O7.md= []∧O7.rs.length=stb.rs.length∧(∀i,i<stb.rs.length→i ∉ aG (·.1) ct.rsh→nth O7.rs i=nth stb.rs i∧X' i=X i)∧∀i a,nth stb.rs i=some a→∃b,nth O7.rs i=some b∧dK a b:=by
 unfold px at hu
 split at hu
 case h_2=>exact hu.elim
 rename_i Pf
 simp only [Bool.and_eq_true]at Pf
 obtain⟨ZD,Zy,Zl,ZE⟩:=Pf
 obtain⟨J1,vs,h1,g1,e1⟩:=xL hu
 have VA:=rj h1
 obtain⟨p,us,hp,g2,m2,d2,b2⟩:=nS h1
 have Ow:=g2 _ (g1 _ Ow) hp
 split at Ow
 case h_2=>exact Ow.elim
 rename_i Ss Px
 split at Ow
 case h_2=>exact Ow.elim
 rename_i Oo QZ
 obtain⟨l1,f1⟩:=wk Px
 obtain⟨l2,f2⟩:=wk QZ
 have ZK:aG (·.1) ct.rsh=us.map (·.1):=by rw [gM,m2]
 have r1:∀i x,nth stb.rs i=some x→∃y z,nth Ss i=some y∧nth st'.rs i=some z∧((∀az,kX i us≠some (.blk az))→y=z)∧((∃az,kX i us=some (.blk az))→y=x):=by
  intro i x hx
  obtain⟨y,hy,hy1⟩:=f1 i x hx
  rw [Nat.zero_add]at hy
  obtain⟨z,hz,Uv⟩:=O9 i x hx
  refine⟨y,z,hy1,hz,?_,?_⟩
  ·intro hnb
   unfold Lq at hy
   cases hg:kX i us with
   | none=>
    rw [hg]at hy
    simp only [Option.some.injEq]at hy
    subst hy
    have Vt:=rZ hg
    have:i ∉ st'.md:=fun hm=>by
     have:=cD.1 Zy i hm
     rw [ZK]at this
     rcases Bool.or_eq_true_iff.1 this with h | h
     ·have:=Nat.le_of_ble_eq_true h;have:=aX hx;omega
     ·exact Vt (fk.1 h)
    have h2:=(hmd i (aX hx) this (by rw [ZK];exact Vt)).1
    rw [hz,hx]at h2
    injection h2 with h2
    exact h2.symm
   | some u=>
    rw [hg]at hy
    have hd:=d2 i u (jJ hg)
    cases u with
    | ob t s=>
     obtain⟨r,hr⟩:=hd
     rw [hz]at hr
     injection hr with hr
     subst hr
     have h2:dI x (.ob t s)=some y:=hy
     cases Uv
     simp only [dI,dif_pos]at h2
     injection h2 with h2
     exact h2.symm
    | blk az=>exact absurd hg (hnb az)
    | lst t A c l=>
     obtain⟨own,T,hr⟩:=hd
     rw [hz]at hr
     injection hr with hr
     subst hr
     have h2:dI x (.lst t A c l)=some y:=hy
     cases Uv
     simp only [dI,dif_pos]at h2
     injection h2 with h2
     exact h2.symm
  ·rintro⟨az,hg⟩
   unfold Lq at hy
   rw [hg]at hy
   simp only [Option.some.injEq]at hy
   exact hy.symm
 have O5:∀q:PK,q.id<stb.rs.length→den U Ss q=den U st'.rs q:=by
  intro q hq
  obtain⟨x,hx⟩:=cr hq
  obtain⟨y,z,hy,hz,ha,hb⟩:=r1 _ x hx
  unfold den
  rw [hy,hz]
  cases hg:kX q.id us with
  | none=>rw [ha (fun az e=>by rw [hg]at e;cases e)]
  | some u=>
   cases u with
   | ob t s=>rw [ha (fun az e=>by rw [hg]at e;cases e)]
   | lst t A c l=>rw [ha (fun az e=>by rw [hg]at e;cases e)]
   | blk az=>
    have hyx:=hb ⟨az,hg⟩
    subst hyx
    obtain⟨z',Sj,Uv⟩:=O9 _ _ hx
    rw [hz]at Sj
    injection Sj with Sj
    subst Sj
    obtain⟨g,cs,T,hc,_⟩:=d2 _ _ (jJ hg)
    rw [hz]at hc
    injection hc with hc
    subst hc
    cases Uv
    cases q<;>rfl
 have r2:∀i,i<stb.rs.length→nth Oo i=nth st'.rs i:=by
  intro i hi
  obtain⟨x,hx⟩:=cr hi
  obtain⟨y,z,hy,hz,ha,hb⟩:=r1 i x hx
  obtain⟨v,hv,TX⟩:=f2 i y hy
  rw [Nat.zero_add]at hv
  rw [TX,hz]
  unfold MA at hv
  cases hg:kX i us with
  | none=>
   rw [hg]at hv
   simp only [Option.some.injEq]at hv
   rw [← hv,ha (fun az e=>by rw [hg]at e;cases e)]
  | some u=>
   rw [hg]at hv
   cases u with
   | ob t s=>simp only [Option.some.injEq]at hv;rw [← hv,ha (fun az e=>by rw [hg]at e;cases e)]
   | lst t A c l=>simp only [Option.some.injEq]at hv;rw [← hv,ha (fun az e=>by rw [hg]at e;cases e)]
   | blk az=>
    have hyx:=hb ⟨az,hg⟩
    subst hyx
    obtain⟨z',Sj,Uv⟩:=O9 _ _ hx
    rw [hz]at Sj
    injection Sj with Sj
    subst Sj
    obtain⟨g,cs,T,hc,hcd⟩:=d2 _ _ (jJ hg)
    rw [hz]at hc
    injection hc with hc
    subst hc
    have VJ:=(b2 _ Zl _ _ (jJ hg)).2 az rfl
    have VF:aG (j6 Ss) az=cs:=by
     have:=hcd.K5 (V:=fun p=>(den U Ss p).getD undef) (fun j p v hj hv=>by
      have hk:=hcd.kn hj
      obtain⟨g',cs',T',u,q1,q2,q3⟩:=Q5.get hk
      rw [hz]at q1
      injection q1 with q1
      injection q1 with _ q1 _
      subst q1
      rw [Nat.zero_add]at q2
      rw [hv]at q2
      injection q2 with q2
      subst q2
      have q3:den U st'.rs p=some v:=q3
      rw [O5 p (VJ p (ik hj)),q3]
      rfl)
     have e:(fun a=>match a with | .v x=>x | .k p=>(den U Ss p).getD undef)=j6 Ss:=by funext a;cases a<;>rfl
     rw [e]at this
     exact this
    have hv:dI y (.blk (aG (j6 Ss) az))=some v:=hv
    rw [VF]at hv
    obtain⟨VY,rfl,hle⟩:=Uv.JK
    simp only [dI,hle,Nat.beq_refl]at hv
    exact hv.symm
 have Zz:Oo.length=stb.rs.length:=by rw [l2,l1]
 have Tj:∀q:PK,q.id<stb.rs.length→den U Oo q=den U st'.rs q:=fun q hq=>by unfold den;rw [r2 _ hq]
 obtain⟨Rq,PS⟩:=pY Pv
 have Q0:∀s v,(s,v)∈vs++lK Oo ct.kns→lk fr'.g s fr'.e=v:=by
  intro s v hm
  rcases List.mem_append.1 hm with hm | hm
  ·exact e1 s v hm
  ·obtain⟨q,hq,rfl⟩:=gn hm
   obtain⟨q',O0,hg⟩:=pU ZD hq
   injection O0 with O0
   subst O0
   have:den U st'.rs q=some (lk fr'.g s fr'.e):=Q5.get hg
   rw [Tj q (kD ZE hq),this]
   rfl
 have P5:Rep n ⟨vs++lK Oo ct.kns++forget ct.wr2 fr.e,fun i=>a'.tmps.getD i undef,fr.ds⟩ a':=vP hr NV (Ot.mono Rq) PS Q0
 have Vx:∀i,lk (fun i=>a'.tmps.getD i undef) i (vs++lK Oo ct.kns++forget ct.wr2 fr.e)=lk fr'.g i fr'.e:=fun i=>by rw [← NV.get];exact(P5.get i).symm
 have Pz:∀i,i<stb.rs.length→i ∉ aG (·.1) ct.rsh→nth Oo i=nth stb.rs i∧X' i=X i:=by
  intro i hi Vt
  rw [r2 i hi]
  refine hmd i hi (fun hm=>?_) Vt
  have:=cD.1 Zy i hm
  rcases Bool.or_eq_true_iff.1 this with h | h
  ·have:=Nat.le_of_ble_eq_true h;omega
  ·exact Vt (fk.1 h)
 have Td:∀i a,nth stb.rs i=some a→∃b,nth Oo i=some b∧dK a b:=by
  intro i x hx
  obtain⟨z,hz,Uv⟩:=O9 i x hx
  exact⟨z,by rw [r2 i (aX hx)];exact hz,Uv⟩
 have hIt:Inv w0 k0 X0 may Oo X' w':=hI.KJ (by omega) (fun i hi=>r2 i (by omega)) (by omega)
 have Ow:=jX (fun r hr=>by
  obtain⟨i,hi⟩:=sg hr
  exact⟨_,_,hIt.sat.res i r hi⟩) Ow
 refine⟨_,_,Ow,P5,hIt,?_,rfl,Zz,Pz,Td⟩
 refine ax.app ?_ (ax.app ?_ ?_)
 ·intro key k hm
  obtain⟨s,rfl,hs⟩:=r6 hm
  obtain⟨q,rfl,hg⟩:=pU ZD hs
  show den U Oo q=some (lk _ s _)
  rw [Vx,Tj q (kD ZE hs)]
  exact Q5.get hg
 ·intro key k hm
  obtain⟨id,cs,j,q,h3,rfl,rfl,h5⟩:=mB hm
  have hg:=VA id cs h3 j q h5
  obtain⟨g,cs',T,v,q1,q2,q3⟩:=Q5.get hg
  have Tk:id<stb.rs.length∧q.id<stb.rs.length:=by
   have key:∀(l:List (Nat×RSh)),eF stb.rs.length l=true→(id,RSh.blk cs)∈l→id<stb.rs.length∧jr stb.rs.length cs=true:=by
    intro l
    induction l with
    | nil=>intro _ h;cases h
    | cons x r ih=>
     intro hb hm
     obtain⟨i,x⟩:=x
     cases x with
     | ob t=>
      simp only [eF]at hb
      split at hb
      ·exact ih hb ((List.mem_cons.1 hm).resolve_left fun e=>by cases e)
      ·cases hb
     | lst t=>
      simp only [eF]at hb
      split at hb
      ·exact ih hb ((List.mem_cons.1 hm).resolve_left fun e=>by cases e)
      ·cases hb
     | blk l=>
      simp only [eF]at hb
      split at hb
      ·rename_i Od
       simp only [Bool.and_eq_true]at Od
       rcases List.mem_cons.1 hm with e | hm
       ·injection e with e1 e2;injection e2 with e2;subst e1;subst e2
        exact⟨by simpa [Nat.blt_eq]using Od.1,Od.2⟩
       ·exact ih hb hm
      ·cases hb
   obtain⟨h6,h7⟩:=key ct.rsh Zl h3
   refine⟨h6,?_⟩
   have key2:∀(l:List CS)(j:Nat),jr stb.rs.length l=true→nth l j=some (.k q)→q.id<stb.rs.length:=by
    intro l
    induction l with
    | nil=>intro j _ h;simp [nth]at h
    | cons x r ih=>
     intro j hb hj
     cases x with
     | v s=>
      cases j with
      | zero=>simp [nth]at hj
      | succ j=>exact ih j hb hj
     | k p'=>
      simp only [jr]at hb
      split at hb
      ·rename_i Od
       cases j with
       | zero=>simp only [nth,Option.some.injEq,CS.k.injEq]at hj;subst hj;simpa [Nat.blt_eq]using Od
       | succ j=>exact ih j hb hj
      ·cases hb
   exact key2 cs j h7 h5
  exact⟨g,cs',T,v,by rw [r2 id Tk.1];exact q1,q2,by show den U Oo q=_;rw [Tj q Tk.2];exact q3⟩
 ·have UA:=ax.fM (M:=aG (·.1) ct.rsh) hkb (rs':=Oo) (fun i hi hm=>(Pz i hi hm).1) (fun i _ x hx=>Td i x hx)
  intro key k hm
  obtain⟨UC,QH⟩:=dF hm
  have h0:=UA key k UC
  cases key with
  | s i=>
   have Vt:i ∉ ct.wr2:=by
    intro hh
    have QH:(!lJ i ct.wr2)=true:=QH
    rw [fk.2 hh]at QH
    cases QH
   show ja Oo (lk _ i _) k
   have:lk (fun i=>a'.tmps.getD i undef) i (vs++lK Oo ct.kns++forget ct.wr2 fr.e)=lk fr.g i fr.e:=by
    rw [Vx,← NV.get,← hr.get]
    exact Ot.tmps i fun hi=>Vt (Rq i hi)
   rw [this]
   exact h0
  | c id off=>exact h0
  | l id path=>exact h0
end
end
section
section
variable {U:Uni} {P:Program} {tbl:Tb U} {may:List Nat} {k0:Nat}
variable {w0:World} {X0 X:Nat→Nat→Prop} {w:World} {fr:Fr} {st:St U} {n:Nat} {N:List Nat} {ops:Array Oper}
theorem Steps.back {RH:St U} {X':Nat→Nat→Prop} {w':World}(h:Steps w0 k0 X0 may {st with md:= []} X RH X' w'):Steps w0 k0 X0 may st X (kC U RH st.md) X' w':=by
 obtain⟨a,b,⟨L,h1,h2,h3⟩,d⟩:=h
 refine⟨a,b,⟨L,?_,h2,h3⟩,d⟩
 show RH.md++st.md=L++st.md
 rw [h1];simp
theorem kJ:∀ {l:List (Key×Nat×TypeId)} {st st':St U} {X:Nat→Nat→Prop},lU fr l st=some st'→Inv w0 k0 X0 may st.rs X w→ax st.rs fr st.kn→∃X',Steps w0 k0 X0 may st X st' X' w∧ax st'.rs fr st'.kn
 | [],st,st',X,h,hI,hk=>by
  simp only [lU,Option.some.injEq]at h
  subst h
  exact⟨X,Steps.refl hI,hk⟩
 | (key,tt,T)::r,st,st',X,h,hI,hk=>by
  simp only [lU]at h
  split at h
  ·rename_i hv
   have P6:RS (fun _=>False) w (.lst tt true T none 0 []:Res U):=⟨Own.nil,fun k hk=>hk.elim⟩
   have QI:nth (st.rs++ [Res.lst tt true T none 0 []]) st.rs.length=some (.lst tt true T none 0 []):=yw
   have hI2:=hI.more (Ch.refl _ _) P6 (fun k hk=>hk.elim)
   have OC:=rq hk (Res.lst tt true T none 0 [])
   have hd:den U (st.rs++ [Res.lst tt true T none 0 []]) (.sl st.rs.length 0)=some (.slice none 0 0):=by
    simp only [den,PK.id,QI,cA,jT,List.length_nil]
   have hk3:ax (st.rs++ [Res.lst tt true T none 0 []]) fr ((key,.p (.sl st.rs.length 0))::fe (fun a _=>!(a.eq key)) st.kn):=by
    intro key' k hm
    rcases List.mem_cons.1 hm with e | hm
    ·injection e with e1 e2
     subst e1;subst e2
     cases key' with
     | s i=>
      simp only [CJ,Option.some.injEq]at hv
      show den U _ _=some (lk fr.g i fr.e)
      rw [hv];exact hd
     | c id off=>
      simp only [CJ]at hv
      split at hv
      ·rename_i g cs T' hn
       exact⟨g,cs,T',_,by rw [bo,if_pos (aX hn)];exact hn,hv,hd⟩
      ·cases hv
     | l id path=>simp only [CJ,reduceCtorEq]at hv
    ·exact OC _ _ (dF hm).1
   obtain⟨X',h1,h2⟩:=kJ h hI2 hk3
   have hs0:Steps w0 k0 X0 may st X ⟨st.rs++ [Res.lst tt true T none 0 []],(key,.p (.sl st.rs.length 0))::fe (fun a _=>!(a.eq key)) st.kn,st.md⟩ (vI X st.rs.length fun _=>False) w:=⟨hI2,by simp,⟨[],rfl,fun i hi=>(by cases hi),fun i hi _=>⟨by show nth (st.rs++_) i=_;rw [bo,if_pos hi],nT _ _ (by omega)⟩⟩,fun i a ha=>⟨a,by show nth (st.rs++_) i=_;rw [bo,if_pos (aX ha)];exact ha,dK.refl a⟩⟩
   exact⟨X',hs0.trans h1,h2⟩
  ·cases h
theorem K2 {c:Code} {Q:QF2 U} {a:Act} {st':St U} {X':Nat→Nat→Prop} {ws:List Nat}(hS:Steps w0 k0 X0 may st X st' X' w)(h:c.wpIn (WF none) 0 P (m7 n ws a fun x OQ w2=>Aft w0 k0 X0 may st' X' fr.ds (fun fr' st'=>Q x fr' st') OQ w2) a w):
 c.wpIn (WF none) 0 P (m7 n ws a fun x OQ w2=>Aft w0 k0 X0 may st X fr.ds (fun fr' st'=>Q x fr' st') OQ w2) a w:=by
 refine wpIn_mono h fun x a' w' he=>?_
 cases x
 case outgrown=>exact he
 all_goals
  obtain⟨fr',NV,hq,Ot⟩:=he
  exact⟨fr',NV,hq.pre hS,Ot⟩
theorem EF {c:Code} {an:An} {V:QF2 U→Fr→St U→Prop}(h:tE U P may k0 w0 X0 n c V):tE U P may k0 w0 X0 n c fun Q fr st=>rQ U an Q fr st fun Q st=>V Q fr st:=by
 intro Q fr st X a w hr hI hk hv
 simp only [rQ]at hv
 split at hv
 ·rename_i st' PF
  obtain⟨X',h1,h2⟩:=kJ PF hI hk
  refine wpIn_mono (h Q fr st' X' a w hr h1.inv h2 hv) fun x a' w' he=>?_
  cases x
  case outgrown=>exact he
  all_goals
   obtain⟨fr',NV,hq,Ot⟩:=he
   exact⟨fr',NV,hq.pre h1,Ot⟩
 ·exact hv.elim
theorem gu {c:Code} {an:An} {V:QF2 U→Fr→St U→Prop}(h:tE U P may k0 w0 X0 n c V):tE U P may k0 w0 X0 n c fun Q fr st=>iG U may k0 c an Q fr st fun Q st=>V Q fr st:=by
 refine EF (V:=fun Q fr st=>rO U may k0 c an Q fr st fun Q st=>V Q fr st) ?_
 intro Q fr st X a w hr hI hk hv
 simp only [rO]at hv
 split at hv
 ·exact h Q fr st X a w hr hI hk hv
 ·rename_i ct hct
  split at hv
  ·rename_i Pv
   simp only [Bool.and_eq_true]at Pv
   obtain⟨Pv,OM⟩:=Pv
   obtain⟨J,h1,h2⟩:=hv
   have UI:=h _ fr {st with md:= []} X a w hr hI hk h1
   refine wpIn_mono UI fun x a' w' he=>?_
   have other:∀fr',(Aft w0 k0 X0 may {st with md:= []} X fr.ds (fun fr' st'=>Q x fr' (kC U st' st.md)) fr' w')→Aft w0 k0 X0 may st X fr.ds (fun fr' st'=>Q x fr' st') fr' w':=by
    rintro fr' ⟨st',X',g1,g2,g3,g4⟩
    exact⟨kC U st' st.md,X',g1.back,g2,g3,g4⟩
   cases x
   case normal=>
    obtain⟨fr',NV,⟨st',X',g1,g2,g3,g4⟩,Ot⟩:=he
    obtain⟨L,hL,cL,hl⟩:=g1.md
    have hL:st'.md=L:=by rw [hL];simp
    obtain⟨e,O7,f1,f2,f3,f4,f5,f6,f7,f8⟩:=yV (stb:=st) (X:=X) hr NV Ot Pv hk g2 g1.inv g1.len (fun i hi hm _=>hl i hi (by rw [← hL];exact hm)) g1.root hI.len g4 (h2 _)
    refine⟨_,f2,⟨kC U O7 (aG (·.1) ct.rsh++st.md),X',⟨f3,by show st.rs.length≤O7.rs.length;omega,⟨aG (·.1) ct.rsh,?_,fun i hi=>gO (cD.1 OM i hi),f7⟩,f8⟩,f4,rfl,f1⟩,Ot⟩
    show O7.md++(aG (·.1) ct.rsh++st.md)=_
    rw [f5];rfl
   case outgrown=>exact he
   all_goals
    obtain⟨fr',NV,hq,Ot⟩:=he
    exact⟨fr',NV,other fr' hq,Ot⟩
  ·exact hv.elim
theorem dD(OZ:∀f c,tbl.c f=some c→LV U P f c∧bT P f=true)(hm:P.follows .mixedOrders=true):∀(c:Code)(an:An),tE U P may k0 w0 X0 n c (fun Q fr st=>kj U P tbl may k0 n N c an Q fr st)
 | .skip,an=>fun Q fr st X a w hr hI hk hv=>wpIn_skip ⟨fr,hr,⟨st,X,Steps.refl hI,hk,rfl,hv⟩,Agr.refl _ _⟩
 | .region id ops false,an=>gu (c:= .region id ops false) (V:=fun Q fr st=>DO U P tbl may k0 n N ops (Q .normal) (fun ch=>Q (.panic ch)) ops.toList fr st) fun Q fr st X a w hr hI hk hv=>ub OZ hr hI hk hv
 | .region id ops true,an=>gu (c:= .region id ops true) (V:=fun Q fr st=>match Region.noSelect ops,eI ops.toList with
  | true,true=>tZ U P tbl may k0 n N ops (lT P ops.toList) an.V an.rd (Q .normal) ops.size (Array.replicate ops.size false) fr st
  | _,_=>False) fun Q fr st X a w hr hI hk hv=>by
  dsimp only at hv
  split at hv
  ·rename_i hs Qc
   exact vR OZ hm hs Qc hr hI hk hv
  ·exact hv.elim
 | .seq x y,an=>gu (c:= .seq x y) (V:=fun Q fr st=>kj U P tbl may k0 n N x an.l (fun e fr' st'=>match e with | .normal=>kj U P tbl may k0 n N y an.r Q fr' st' | e=>Q e fr' st') fr st) fun Q fr st X a w hr hI hk hv=>by
  refine wpIn_seq (wpIn_mono (dD OZ hm x an.l _ fr st X a w hr hI hk hv) fun e a' w' he=>?_)
  cases e
  case normal=>
   obtain⟨fr',NV,⟨st',X',g1,g2,g3,g4⟩,Ot⟩:=he
   refine wpIn_mono (dD OZ hm y an.r Q fr' st' X' a' w' NV g1.inv g2 g4) fun e a2 w2 he=>?_
   cases e<;>first
    | exact he.elim
    | (obtain⟨OQ,h1,h2,h3⟩:=he
       exact⟨OQ,h1,g3▸h2.pre g1,(Ot.mono fun i hi=>List.mem_append_left _ hi).trans (h3.mono fun i hi=>List.mem_append_right _ hi)⟩)
  all_goals first
   | exact he.elim
   | (obtain⟨OQ,h1,h2,h3⟩:=he
      exact⟨OQ,h1,h2,h3.mono fun i hi=>List.mem_append_left _ hi⟩)
 | .cond c x y,an=>gu (c:= .cond c x y) (V:=fun Q fr st=>match ev fr c with
  | .bool b=>split b (kj U P tbl may k0 n N x an.l Q fr st) (kj U P tbl may k0 n N y an.r Q fr st)
  | _=>False) fun Q fr st X a w hr hI hk hv=>by
  dsimp only at hv
  split at hv
  ·rename_i b hb
   rw [← hr.eval]at hb
   rcases fA hv with⟨rfl,TX⟩ | ⟨rfl,TX⟩
   ·exact wpIn_cond_true hb (wpIn_mono (dD OZ hm x an.l Q fr st X a w hr hI hk TX) fun e a' w' he=>he.mono (fun i hi=>List.mem_append_left _ hi) (fun _ _ _ h=>h))
   ·exact wpIn_cond_false hb (wpIn_mono (dD OZ hm y an.r Q fr st X a w hr hI hk TX) fun e a' w' he=>he.mono (fun i hi=>List.mem_append_right _ hi) (fun _ _ _ h=>h))
  ·exact hv.elim
 | .block id c,an=>gu (c:= .block id c) (V:=fun Q fr st=>kj U P tbl may k0 n N c an.l (fun e fr' st'=>match e with
  | .exit id'=>(match Nat.beq id' id with | true=>Q .normal fr' st' | false=>Q (.exit id') fr' st')
  | e=>Q e fr' st') fr st) fun Q fr st X a w hr hI hk hv=>by
  refine wpIn_block (wpIn_mono (dD OZ hm c an.l _ fr st X a w hr hI hk hv) fun e a' w' he=>?_)
  cases e
  case exit id'=>
   obtain⟨fr',NV,hq,Ot⟩:=he
   simp only [Exit.inBlock]
   split
   ·rename_i hi
    subst hi
    exact⟨fr',NV,hq.mono fun fr st QW=>(by dsimp only at QW;rw [Nat.beq_refl]at QW;exact QW),Ot⟩
   ·rename_i hi
    refine⟨fr',NV,hq.mono fun fr st QW=>?_,Ot⟩
    dsimp only at QW
    split at QW
    ·rename_i hb;exact absurd (Nat.eq_of_beq_eq_true hb) hi
    ·exact QW
  all_goals exact he
 | .loop c,an=>fun Q fr st00 X00 a w hr abU abr hv=>by
  simp only [kj,rQ]at hv
  split at hv
  case h_2=>exact hv.elim
  rename_i st Zh
  obtain⟨X,ZX,hk⟩:=kJ Zh abU abr
  have hI:=ZX.inv
  refine K2 ZX ?_
  split at hv
  ·exact hv.elim
  ·rename_i ct hct
   split at hv
   ·rename_i Pv
    simp only [Bool.and_eq_true]at Pv
    obtain⟨Pv,OM⟩:=Pv
    obtain⟨I,⟨m0,h0⟩,Qo⟩:=hv
    refine nP (fun m a' w'=>∃fr' st' X',Rep n fr' a'∧(Inv w0 k0 X0 may st'.rs X' w'∧st.rs.length≤st'.rs.length∧(∀i,i<st.rs.length→i ∉ st'.md→i ∉ aG (·.1) ct.rsh→nth st'.rs i=nth st.rs i∧X' i=X i)∧∀i a,nth st.rs i=some a→∃b,nth st'.rs i=some b∧dK a b)∧ax st'.rs fr' st'.kn∧px ct st.rs.length (I m) fr' st'∧Agr (writes c) a a') m0 ⟨fr,{st with md:= []},X,hr,⟨hI,Nat.le_refl _,fun _ _ _ _=>⟨rfl,rfl⟩,fun i a ha=>⟨a,ha,dK.refl a⟩⟩,hk,h0,Agr.refl _ _⟩ ?_
    rintro m a1 w1 ⟨Tq,RH,X1,Rn,⟨Pn,Sx,Zj,hs4⟩,Pb,hu,Ot⟩
    obtain⟨e,O7,f1,f2,f3,f4,f5,f6,f7,f8⟩:=yV (stb:=st) (X:=X) hr Rn Ot Pv hk Pb Pn Sx Zj hs4 hI.len hu (Qo m _)
    refine wpIn_mono (dD OZ hm c an.l _ _ O7 X1 a1 w1 f2 f3 f4 f1) fun x a' w' he=>?_
    have join:∀ {RY:St U} {X3:Nat→Nat→Prop},Steps w0 k0 X0 may O7 X1 RY X3 w'→∃L3,RY.md=L3∧(∀i,i∈L3→i∈may∨k0≤i)∧∀i,i<st.rs.length→i ∉ L3→i ∉ aG (·.1) ct.rsh→nth RY.rs i=nth st.rs i∧X3 i=X i:=by
     intro RY X3 Zj
     obtain⟨L3,ZY,cL3,Ti⟩:=Zj.md
     refine⟨L3,by rw [ZY,f5];simp,cL3,fun i hi hn R5=>?_⟩
     obtain⟨e1,e2⟩:=Ti i (by omega) hn
     obtain⟨e3,e4⟩:=f7 i hi R5
     exact⟨e1.trans e3,e2.trans e4⟩
    have rootj:∀ {RY:St U} {X3:Nat→Nat→Prop},Steps w0 k0 X0 may O7 X1 RY X3 w'→∀i a,nth st.rs i=some a→∃b,nth RY.rs i=some b∧dK a b:=by
     intro RY X3 Zj i x hx
     obtain⟨b,hb,hr⟩:=f8 i x hx
     obtain⟨c',VH,NV⟩:=Zj.root i b hb
     exact⟨c',VH,hr.trans NV⟩
    have out:∀ {K:Fr→St U→Prop} {fr':Fr},Aft w0 k0 X0 may O7 X1 fr.ds (fun fr' st'=>K fr' (kC U st' (aG (·.1) ct.rsh++st.md))) fr' w'→Aft w0 k0 X0 may st X fr.ds K fr' w':=by
     rintro K fr' ⟨RY,X3,g1,g2,g3,g4⟩
     obtain⟨L3,ZY,cL3,Ti⟩:=join g1
     refine⟨kC U RY (aG (·.1) ct.rsh++st.md),X3,⟨g1.inv,?_,⟨L3++aG (·.1) ct.rsh,?_,fun i hi=>(List.mem_append.1 hi).elim (cL3 i) (fun hi=>gO (cD.1 OM i hi)),fun i hi hn=>?_⟩,fun i x hx=>rootj g1 i x hx⟩,g2,g3,g4⟩
     ·show st.rs.length≤RY.rs.length
      have:=g1.len;omega
     ·show RY.md++(_++_)=_
      rw [ZY,List.append_assoc]
     ·rw [List.mem_append,not_or]at hn
      exact Ti i hi hn.1 hn.2
    cases x
    case normal=>
     obtain⟨fr',NV,⟨RY,X3,g1,g2,g3,m',Od,hu'⟩,RO⟩:=he
     obtain⟨L3,ZY,_,Ti⟩:=join g1
     exact⟨m',Od,fr',RY,X3,NV,⟨g1.inv,by have:=g1.len;omega,fun i hi hn R5=>Ti i hi (by rw [← ZY];exact hn) R5,rootj g1⟩,g2,hu',Ot.trans RO⟩
    case outgrown=>exact he
    all_goals
     obtain⟨fr',NV,hq,RO⟩:=he
     exact⟨fr',NV,out hq,Ot.trans RO⟩
   ·exact hv.elim
 | .exit id,an=>fun Q fr st X a w hr hI hk hv=>wpIn_exit ⟨fr,hr,⟨st,X,Steps.refl hI,hk,rfl,hv⟩,Agr.refl _ _⟩
 | .ret,an=>fun Q fr st X a w hr hI hk hv=>wpIn_ret ⟨fr,hr,⟨st,X,Steps.refl hI,hk,rfl,hv⟩,Agr.refl _ _⟩
 | .scope c,an=>by
  refine gu (c:= .scope c) (V:=fun Q fr st=>kj U P tbl may k0 n N c an.l (fun e fr' st'=>match e with
   | .goto _=>False
   | e=>Q e fr' st') fr st) fun Q fr st X a w hr hI hk hv=>?_
  refine(wpIn_wide (n:=0)).2 (wp_scope_straight ((wpIn_wide (n:=0)).1 (wpIn_mono (dD OZ hm c an.l _ fr st X a w hr hI hk hv) fun e a' w' he=>?_)))
  cases e
  case goto l=>obtain⟨_,_,⟨_,_,_,_,_,h⟩,_⟩:=he;exact h.elim
  all_goals exact he
 | .label _,an=>fun Q fr st X a w hr hI hk hv=>wpIn_label ⟨fr,hr,⟨st,X,Steps.refl hI,hk,rfl,hv⟩,Agr.refl _ _⟩
 | .rangeFunc _ _ _ _,an=>fun Q fr st X a w hr hI hk hv=>hv.elim
 | .goto _,an=>fun Q fr st X a w hr hI hk hv=>hv.elim
 | .refuse _,an=>fun Q fr st X a w hr hI hk hv=>hv.elim
end
end
end Go.Proofs.YtinhphjfnedhgaaGreatDoor.V
namespace Go.Proofs.YtinhphjfnedhgaaGreatDoor.V
open Go Go.RowKit
open Go.IntKind (i64 u32 u64)
open Enc (enc)
section
section
variable {U:Uni} {P:Program} {tbl:Tb U} {may:List Nat} {k0:Nat}
variable {w0:World} {X0 X:Nat→Nat→Prop} {w:World} {fr:Fr} {st:St U} {n:Nat} {N:List Nat}
theorem Eh {t:TypeId} {k:Option Kn} {x:Value} {K:Value→Option Kn→Prop}(h:uU U P t k st K)(hx:KnO st.rs x k):∃q,x= .pointer (some q):=by
 unfold uU at h
 split at h
 ·rename_i id off
  split at h
  ·rename_i g cs T hn
   have hd:den U st.rs (.loc id off)=some x:=hx
   simp only [den,PK.id,hn,cA,Option.some.injEq]at hd
   exact⟨_,hd.symm⟩
  ·exact h.elim
 ·rename_i id path off
  split at h
  ·rename_i tt r s hn
   have hd:den U st.rs (.obj id path off)=some x:=hx
   simp only [den,PK.id,hn,cA,Option.some.injEq]at hd
   exact⟨_,hd.symm⟩
  ·exact h.elim
 ·rename_i id li i off
  split at h
  ·rename_i r hn
   split at h
   ·rename_i L hL
    have hd:den U st.rs (.el id li i off)=some x:=hx
    simp only [den,PK.id,hn,cA,hL]at hd
    split at hd
    ·injection hd with hd;exact⟨_,hd.symm⟩
    ·cases hd
   ·exact h.elim
  ·exact h.elim
 ·exact h.elim
theorem kx {tmps:Array Value}(ht:∀i,tmps.getD i undef=lk fr.g i fr.e)(hS:Sat st.rs X w)(hk:ax st.rs fr st.kn):∀(rs:List ResultVar) {F:List Value→List (Option Kn)→Prop},ly U P fr st rs F→
 ∃vs ks,F vs ks∧vs.length=ks.length∧(∀j v k,nth vs j=some v→nth ks j=some k→KnO st.rs v k)∧(rs.mapM (lr tmps)).run P w= .ok vs w
 | [],F,h=>⟨[],[],h,rfl,fun j v k hv=>by simp [nth]at hv,rfl⟩
 | .tmp t::r,F,h=>by
  obtain⟨vs,ks,hF,hl,PH,hr⟩:=kx ht hS hk r h
  refine⟨_,_,hF,by simp [hl],fun j v k hv Ox=>?_,?_⟩
  ·cases j with
   | zero=>
    simp only [nth,Option.some.injEq]at hv Ox
    subst hv;subst Ox
    cases hg:dm (.s t) st.kn with
    | none=>exact trivial
    | some q=>exact hk.get hg
   | succ j=>exact PH j v k hv Ox
  ·have h1:(lr tmps (.tmp t)).run P w= .ok (lk fr.g t fr.e) w:=by rw [← ht];rfl
   rw [List.mapM_cons,Sem.run_bind,h1]
   show(Sem.run P (do let bs ← r.mapM (lr tmps);pure (lk fr.g t fr.e::bs)) w)=_
   rw [Sem.run_bind,hr]
   rfl
 | .cell a t::r,F,h=>by
  simp only [ly]at h
  have hx:KnO st.rs (lk fr.g a fr.e) (dm (.s a) st.kn):=by
   cases hg:dm (.s a) st.kn with
   | none=>exact trivial
   | some q=>exact hk.get hg
  obtain⟨q,hq⟩:=Eh h hx
  obtain⟨v,kv,hF,Q0,Pa⟩:=uT hS hk hx h
  obtain⟨vs,ks,hF,hl,PH,hr⟩:=kx ht hS hk r hF
  refine⟨_,_,hF,by simp [hl],fun j u k hv Ox=>?_,?_⟩
  ·cases j with
   | zero=>
    simp only [nth,Option.some.injEq]at hv Ox
    subst hv;subst Ox
    exact Q0
   | succ j=>exact PH j u k hv Ox
  ·have h2:=Pa w (Kept.refl _ _)
   rw [hq]at h2
   have h1:(lr tmps (.cell a t)).run P w= .ok v w:=by
    show(do loadVar t (← asAddr (tmps.getD a undef)):Sem Value).run P w=_
    rw [ht,hq]
    exact h2
   rw [List.mapM_cons,Sem.run_bind,h1]
   show(Sem.run P (do let bs ← r.mapM (lr tmps);pure (v::bs)) w)=_
   rw [Sem.run_bind,hr]
   rfl
theorem xY {fn:Func} {tmps:Array Value} {vs:List Value}(hr:(fn.results.toList.mapM (lr tmps)).run P w= .ok vs w):(results fn tmps).run P w= .ok (match vs with | [v]=>v | vs=>.tuple ⟨vs⟩) w:=by
 have hm:(fn.results.mapM (lr tmps)).run P w= .ok ⟨vs⟩ w:=by
  rw [Array.mapM_eq_mapM_toList]
  simp [hr]
 have Te:results fn tmps=(do let vs ← fn.results.mapM (lr tmps);pure (if h:vs.size=1 then vs[0]else .tuple vs)):=by
  unfold results lr
  congr 1
 rw [Te,Sem.run_bind,hm]
 cases vs with
 | nil=>rfl
 | cons v r=>
  cases r with
  | nil=>rfl
  | cons u r=>rfl
theorem wM {a b:Res U}(h:dK a b):dI a (uD U b)=some b:=by
 cases h
 ·rename_i h
  simp only [dI,uD,h,Nat.beq_refl]
 ·simp [dI,uD]
 ·simp [dI,uD]
theorem mX {G:List (Res U)}:∀ {ms:List Nat} {us:List (Res U)} {L:List (Res U)},iS (nth G) ms=some us→(∀i,i∈ms→∀b,nth G i=some b→∃a,nth L i=some a∧dK a b)→∃L',bJ L ms (aG (uD U) us)=some L'∧L'.length=L.length∧(∀i,i∈ms→nth L' i=nth G i)∧∀i,i ∉ ms→nth L' i=nth L i
 | [],us,L,hM,h=>by
  simp only [iS,Option.some.injEq]at hM
  subst hM
  exact⟨L,rfl,rfl,fun i hi=>(by cases hi),fun _ _=>rfl⟩
 | m::ms,us,L,hM,h=>by
  simp only [iS]at hM
  split at hM
  ·rename_i b bs hb VI
   injection hM with hM
   subst hM
   obtain⟨a,ha,hr⟩:=h m (List.mem_cons_self ..) b hb
   have hml:=aX ha
   have e:∀j,nth (cK L m b) j=if j=m then some b else nth L j:=fun j=>by
    rw [bA]
    by_cases hj:j=m
    ·rw [if_pos ⟨hj,hml⟩,if_pos hj]
    ·rw [if_neg (fun hh=>hj hh.1),if_neg hj]
   obtain⟨L',h1,h2,h3,h4⟩:=mX (L:=cK L m b) VI fun i hi x hx=>by
    rw [e]
    by_cases hj:i=m
    ·subst hj
     rw [hb]at hx
     injection hx with hx
     subst hx
     exact⟨b,by rw [if_pos rfl],dK.refl b⟩
    ·rw [if_neg hj];exact h i (List.mem_cons_of_mem _ hi) x hx
   refine⟨L',?_,by rw [h2];simp,fun i hi=>?_,fun i hi=>?_⟩
   ·simp only [aG,bJ,ha,wM hr]
    exact h1
   ·by_cases hm:i∈ms
    ·exact h3 i hm
    ·have:i=m:=(List.mem_cons.1 hi).resolve_right hm
     subst this
     rw [h4 i hm,e,if_pos rfl,hb]
   ·rw [List.mem_cons,not_or]at hi
    rw [h4 i hi.2,e,if_neg hi.1]
  ·cases hM
theorem uM {i:Nat}:∀ {l:List Nat} {p q:Nat},posOf i l p=some q→p≤q∧nth l (q - p)=some i
 | [],_,_,h=>by cases h
 | j::r,p,q,h=>by
  simp only [posOf]at h
  split at h
  ·rename_i he
   injection h with h
   subst h
   exact⟨Nat.le_refl _,by rw [Nat.sub_self,Nat.eq_of_beq_eq_true he];rfl⟩
  ·obtain⟨h1,h2⟩:=uM h
   refine⟨by omega,?_⟩
   rw [show q - p=(q - (p+1))+1 by omega]
   exact h2
theorem yo {α β:Type} {f:α→Option β} {l:List α} {r:List β}(h:iS f l=some r) {i:Nat} {a:α}(ha:nth l i=some a):f a=nth r i:=by
 obtain⟨b,h1,h2⟩:=(sH h).2 i a ha
 rw [h1,h2]
theorem GN {α β:Type} {f:α→Option β} {l:List α} {r:List β}(h:iS f l=some r):r.length=l.length:=(sH h).1
theorem pV {rs:List (Res U)} {key:Key} {k:Kn}:∀ {l:List (Key×Kn)},qA rs l=true→(key,k)∈l→(∃p v,k= .p p∧den U rs p=some v)∨∃l,k= .ag l∧∀j p,nth l j=some (some p)→∃v,den U rs p=some v
 | [],_,h=>by cases h
 | (a,.p p)::r,h,hm=>by
  simp only [qA]at h
  split at h
  ·rename_i v hv
   rcases List.mem_cons.1 hm with e | hm
   ·injection e with e1 e2;subst e2;exact .inl ⟨p,v,rfl,hv⟩
   ·exact pV h hm
  ·cases h
 | (a,.t _)::r,h,_=>by cases h
 | (a,.ag l)::r,h,hm=>by
  simp only [qA]at h
  split at h
  ·rename_i hl
   rcases List.mem_cons.1 hm with e | hm
   ·injection e with e1 e2;subst e2
    refine .inr ⟨l,rfl,fun j p hj=>?_⟩
    have:=cD.1 hl _ (ik hj)
    simp only [Eo]at this
    split at this
    ·rename_i v hv;exact⟨v,hv⟩
    ·cases this
   ·exact pV h hm
  ·cases h
 | (a,.f _ _)::r,h,_=>by cases h
theorem oo {key:Key} {k:Kn}:∀ {l:List (Option Kn)} {i:Nat},(key,k)∈uc i l→∃j,key= .s (i+j)∧nth l j=some (some k)
 | [],_,h=>by cases h
 | none::r,i,h=>by
  obtain⟨j,h1,h2⟩:=oo (l:=r) h
  exact⟨j+1,by rw [h1];congr 1;omega,h2⟩
 | some q::r,i,h=>by
  rcases List.mem_cons.1 h with e | h
  ·injection e with e1 e2;subst e2;exact⟨0,e1,rfl⟩
  ·obtain⟨j,h1,h2⟩:=oo (l:=r) h
   exact⟨j+1,by rw [h1];congr 1;omega,h2⟩
theorem tl {id:Nat} {key:Key} {k:Kn}:∀ {l:List AV} {i:Nat},(key,k)∈JM id i l→∃j p,key= .c id (i+j)∧k= .p p∧nth l j=some (.k p)
 | [],_,h=>by cases h
 | .v _::r,i,h=>by
  obtain⟨j,p,h1,h2,h3⟩:=tl (l:=r) h
  exact⟨j+1,p,by rw [h1];congr 1;omega,h2,h3⟩
 | .k q::r,i,h=>by
  rcases List.mem_cons.1 h with e | h
  ·injection e with e1 e2;exact⟨0,q,e1,e2,rfl⟩
  ·obtain⟨j,p,h1,h2,h3⟩:=tl (l:=r) h
   exact⟨j+1,p,by rw [h1];congr 1;omega,h2,h3⟩
theorem lB {key:Key} {k:Kn}:∀ {l:List (PR U)} {i:Nat},(key,k)∈Bm i l→∃j g az T o p,nth l j=some (.blk g az T)∧key= .c (i+j) o∧k= .p p∧nth az o=some (.k p)
 | [],_,h=>by cases h
 | .blk g az T::r,i,h=>by
  rcases List.mem_append.1 h with h | h
  ·obtain⟨o,p,h1,h2,h3⟩:=tl h
   exact⟨0,g,az,T,o,p,rfl,by rw [h1];simp,h2,h3⟩
  ·obtain⟨j,a,b,c,o,p,h1,h2,h3⟩:=lB (l:=r) h
   exact⟨j+1,a,b,c,o,p,h1,by rw [h2];congr 1;omega,h3⟩
 | .ob .. ::r,i,h=>by
  obtain⟨j,a,b,c,o,p,h1,h2,h3⟩:=lB (l:=r) h
  exact⟨j+1,a,b,c,o,p,h1,by rw [h2];congr 1;omega,h3⟩
 | .lst .. ::r,i,h=>by
  obtain⟨j,a,b,c,o,p,h1,h2,h3⟩:=lB (l:=r) h
  exact⟨j+1,a,b,c,o,p,h1,by rw [h2];congr 1;omega,h3⟩
theorem zp {T:Type} {c:CP} {J:c.T T} {F G:T→AV→Prop}(h:alC c J F)(hg:∀a b,F a b→G a b):alC c J G:=by
 cases c<;>simp only [alC]at h ⊢ <;>first | exact fun x=>hg _ _ (h x) | exact fun x y z=>hg _ _ (h x y z) | exact hg _ _ h
theorem qg {T:Type}:∀ {l:List CP} {J:Cu l T} {F G:T→List AV→Prop},BX l J F→(∀a b,F a b→G a b)→BX l J G
 | [],_,_,_,h,hg=>hg _ _ h
 | c::l,J,F,G,h,hg=>zp (c:=c) h fun _ _ h=>qg h fun _ _ h=>hg _ _ h
theorem HE {T:Type} {a:AP} {J:a.T U T} {F G:T→AA→Prop}(h:alA a J F)(hg:∀a b,F a b→G a b):alA a J G:=by
 cases a with
 | one c=>exact zp (c:=c) h fun _ _ h=>hg _ _ h
 | agg l=>exact qg (l:=l) h fun _ _ h=>hg _ _ h
 | enc tt=>exact fun x=>hg _ _ (h x)
theorem vm {T:Type}:∀ {l:List AP} {J:CE U l T} {F G:T→List AA→Prop},wP l J F→(∀a b,F a b→G a b)→wP l J G
 | [],_,_,_,h,hg=>hg _ _ h
 | c::l,J,F,G,h,hg=>HE (a:=c) h fun _ _ h=>vm h fun _ _ h=>hg _ _ h
theorem HC {T:Type} {p:RP} {J:p.T U T} {F G:T→PR U→Prop}(h:alR p J F)(hg:∀a b,F a b→G a b):alR p J G:=by
 cases p with
 | ob t=>exact fun r s=>hg _ _ (h r s)
 | blk l T=>exact fun g=>qg (h g) fun _ _ h=>hg _ _ h
 | lst t own T=>exact fun A c l=>hg _ _ (h A c l)
theorem vl {T:Type}:∀ {l:List RP} {J:E5 U l T} {F G:T→List (PR U)→Prop},wO l J F→(∀a b,b.length=l.length→F a b→G a b)→wO l J G
 | [],_,_,_,h,hg=>hg _ _ rfl h
 | c::l,J,F,G,h,hg=>HC (p:=c) h fun _ _ h=>vl h fun _ _ hl h=>hg _ _ (by simp [hl]) h
theorem yH {bq rets:List Nat} {Q:Ou U→Prop} {v:Value} {k:Option Kn} {PN:List (Res U)} {X':Nat→Nat→Prop} {w':World}(h:Lz U k0 bq rets Q v k st)(hk0:PN.length=k0)(hs:Steps w k0 X bq ⟨PN,[],[]⟩ X st X' w')(hk:ax st.rs fr st.kn)(hv:k=some .pan∨KnO st.rs v k)(OO:∀i,i∈bq→i<k0):
 ∃out rs' X'',iU k v=iU out.kr out.res∧Q out∧bJ PN bq out.upd=some rs'∧Aj PN bq X w out w' rs' X'':=by
 unfold Lz at h
 split at h
 case h_2=>exact h.elim
 rename_i us ns hus hns Pf
 simp only [Bool.and_eq_true]at Pf
 obtain⟨So,Qc⟩:=Pf
 have So:∀i,i∈rets→k0≤i:=fun i hi=>Nat.le_of_ble_eq_true (cD.1 So i hi)
 have Qc:=nk Qc
 obtain⟨L,hL,cL,hl⟩:=hs.md
 have Pz:∀i,i<k0→i ∉ bq→nth st.rs i=nth PN i∧X' i=X i:=by
  intro i hi hm
  refine hl i (by simp only [];omega) fun QH=>?_
  rcases cL i QH with h | h
  ·exact hm h
  ·omega
 obtain⟨rs',Oq,ZA,Rq,abe⟩:=mX (L:=PN) hus fun i hi b hb=>by
  obtain⟨a,ha⟩:=cr (l:=PN) (i:=i) (by rw [hk0];exact OO i hi)
  obtain⟨b',Qz,hr⟩:=hs.root i a ha
  rw [hb]at Qz
  injection Qz with Qz
  subst Qz
  exact⟨a,ha,hr⟩
 have Tc:∀i,i<k0→nth rs' i=nth st.rs i:=by
  intro i hi
  by_cases hm:i∈bq
  ·exact Rq i hm
  ·rw [abe i hm,(Pz i hi hm).1]
 have Vs:ns.length=rets.length:=GN hns
 have RB:rs'.length=k0:=by rw [ZA,hk0]
 have Vr:∀i j,nj k0 rets i=some j→nth (rs'++ns) j=nth st.rs i:=by
  intro i j OH
  unfold nj at OH
  split at OH
  ·rename_i hb
   have hb:i<k0:=by simpa [Nat.blt_eq]using hb
   injection OH with OH
   subst OH
   rw [bo,if_pos (by omega),Tc i hb]
  ·simp only [Option.map_eq_some_iff]at OH
   obtain⟨p,hp,rfl⟩:=OH
   obtain⟨_,Oh⟩:=uM hp
   rw [Nat.sub_zero]at Oh
   rw [bo,if_neg (by omega),show k0+p - rs'.length=p by omega,← yo hns Oh]
 have O5:∀ {p q:PK} {u:Value},p.ren (nj k0 rets)=some q→den U st.rs p=some u→den U (rs'++ns) q=some u:=by
  intro p q u hp hd
  have h1:=Vr _ _ (PK.vQ hp)
  unfold den at hd ⊢
  rw [h1,← hd]
  cases p<;>simp only [PK.ren,Option.map_eq_some_iff]at hp<;>obtain⟨i,hi,rfl⟩:=hp<;>simp only [PK.id]<;>cases nth st.rs _<;>first | rfl | (rename_i r;cases r<;>rfl)
 have Vz:∀ {v:Value} {k k':Kn},k.ren (nj k0 rets)=some k'→ja st.rs v k→ja (rs'++ns) v k':=by
  intro v k k' hk hv
  cases k with
  | pan=>exact hv.elim
  | p p=>
   simp only [Kn.ren,Option.map_eq_some_iff]at hk
   obtain⟨q,hq,rfl⟩:=hk
   exact O5 hq hv
  | t l=>
   simp only [Kn.ren,Option.some.injEq]at hk
   subst hk
   obtain⟨vs,e,hh⟩:=hv
   refine⟨vs,e,fun j q hj=>?_⟩
   obtain⟨p,hp,hq⟩:=dZ hj
   obtain⟨u,hu,hd⟩:=hh j p hp
   exact⟨u,hu,O5 hq hd⟩
  | ag l=>
   simp only [Kn.ren,Option.some.injEq]at hk
   subst hk
   obtain⟨vs,e,hh⟩:=hv
   refine⟨vs,e,fun j q hj=>?_⟩
   obtain⟨p,hp,hq⟩:=dZ hj
   obtain⟨u,hu,hd⟩:=hh j p hp
   exact⟨u,hu,O5 hq hd⟩
  | f a b=>
   simp only [Kn.ren,Option.some.injEq]at hk
   subst hk
   obtain⟨fn,fs,cs,e,hl,h1,h2⟩:=hv
   refine⟨fn,fs,cs,e,by simpa using hl,fun j q hj=>?_,fun j q hj=>?_⟩
   ·obtain⟨p,hp,hq⟩:=dZ hj
    obtain⟨u,hu,hd⟩:=h1 j p hp
    exact⟨u,hu,O5 hq hd⟩
   ·obtain⟨p,hp,hq⟩:=dZ hj
    obtain⟨u,hu,hd⟩:=h2 j p hp
    exact⟨u,hu,O5 hq hd⟩
 let X'':Nat→Nat→Prop:=fun i=>if i<k0 then X' i else match nth rets (i - k0)with
  | some r=>X' r
  | none=>fun _=>False
 have hX:∀i,i<k0→X'' i=X' i:=fun i hi=>if_pos hi
 have hXr:∀i r,¬i<k0→nth rets (i - k0)=some r→X'' i=X' r:=fun i r hi hr=>by
  show(if i<k0 then _ else _)=_
  rw [if_neg hi,hr]
 have R6:∀i,i<(rs'++ns).length→∃r,X'' i=X' r∧nth (rs'++ns) i=nth st.rs r∧r<st.rs.length∧((i<k0∧r=i)∨(¬i<k0∧k0≤r∧nth rets (i - k0)=some r)):=by
  intro i hi
  by_cases h1:i<k0
  ·refine⟨i,hX i h1,by rw [bo,if_pos (by omega),Tc i h1],?_,.inl ⟨h1,rfl⟩⟩
   have:=hs.len
   simp only at this
   omega
  ·simp at hi
   obtain⟨r,hr⟩:=cr (l:=rets) (i:=i - k0) (by omega)
   have hn:=yo hns hr
   obtain⟨y,hy⟩:=cr (l:=ns) (i:=i - k0) (by omega)
   rw [hy]at hn
   exact⟨r,hXr i r h1 hr,by rw [bo,if_neg (by omega),show i - rs'.length=i - k0 by omega,hy,hn],aX hn,.inr ⟨h1,So r (ik hr),hr⟩⟩
 refine⟨_,rs',X'',(uZ ..).symm,h,Oq,⟨⟨fun i r hr=>?_,fun i j hi hj OH k TB=>?_⟩,hs.inv.ch,fun i hi hm=>?_,fun i hm k TB=>?_,fun i h1 h2 k TB=>?_,?_,fun key q hq hns=>?_⟩⟩
 ·obtain⟨m,e1,e2,_⟩:=R6 i (aX hr)
  rw [e1]
  exact hs.inv.sat.res m r (by rw [← e2];exact hr)
 ·obtain⟨a,a1,a2,a3,a4⟩:=R6 i hi
  obtain⟨b,b1,b2,b3,b4⟩:=R6 j hj
  rw [a1]at TB
  rw [b1]
  refine hs.inv.sat.dis a b a3 b3 (fun Wi=>?_) k TB
  subst Wi
  rcases a4 with⟨a5,a6⟩ | ⟨a5,a6,a7⟩<;>rcases b4 with⟨b5,b6⟩ | ⟨b5,b6,b7⟩
  ·exact OH (a6.symm.trans b6)
  ·omega
  ·omega
  ·have inj:∀(l:List Nat)(x y r:Nat),l.Nodup→nth l x=some r→nth l y=some r→x=y:=by
    intro l
    induction l with
    | nil=>intro x y r _ h;simp [nth]at h
    | cons z l ih=>
     intro x y r hn h1 h2
     rw [List.nodup_cons]at hn
     cases x with
     | zero=>
      simp only [nth,Option.some.injEq]at h1
      subst h1
      cases y with
      | zero=>rfl
      | succ y=>exact absurd (ik (l:=l) h2) hn.1
     | succ x=>
      cases y with
      | zero=>
       simp only [nth,Option.some.injEq]at h2
       subst h2
       exact absurd (ik (l:=l) h1) hn.1
      | succ y=>rw [ih x y r hn.2 h1 h2]
   have:=inj rets _ _ _ Qc a7 b7
   omega
 ·rw [hX i (by omega)]
  exact(Pz i (by omega) hm).2
 ·rw [hX i (OO i hm)]at TB
  exact hs.inv.old i (OO i hm) k TB
 ·obtain⟨m,e1,e2,e3,e4⟩:=R6 i (by simp only [List.length_append];simp only at h2;omega)
  rw [e1]at TB
  rcases e4 with⟨e5,e6⟩ | ⟨e5,e6,_⟩
  ·omega
  ·exact hs.inv.new m e6 e3 k TB
 ·rcases hv with rfl | hv
  ·exact .inl rfl
  right
  cases k with
  | none=>exact trivial
  | some k=>
   show KnO _ v (k.ren _)
   cases hkr:k.ren (nj k0 rets)with
   | none=>exact trivial
   | some k'=>exact Vz hkr hv
 ·obtain⟨i0,i',o',k1,⟨rfl,e2⟩ | ⟨rfl,e2⟩,e3,e4⟩:=jW hq
  ·obtain⟨UC,_⟩:=dF e2
   obtain⟨g,cs,T,u,q1,q2,q3⟩:=hk _ _ UC
   exact⟨g,cs,T,u,by show nth (rs'++ns) _=_;rw [Vr _ _ e3];exact q1,q2,Vz e4 q3⟩
  ·obtain⟨UC,_⟩:=dF e2
   obtain⟨t,r,s,q1,q2⟩:=hk _ _ UC
   exact⟨t,r,s,by show nth (rs'++ns) _=_;rw [Vr _ _ e3];exact q1,Vz e4 q2⟩
theorem rA {fn:Func} {rets:List Nat} {Q:Ou U→Prop} {PN:List (Res U)} {bq:List Nat} {kn0:List (Key×Kn)} {a':Act} {w':World} {st':St U} {X':Nat→Nat→Prop}(RB:PN.length=k0)(OO:∀i,i∈bq→i<k0)(hr:Rep n fr a')(hs:Steps w k0 X bq ⟨PN,kn0,[]⟩ X st' X' w')(hk:ax st'.rs fr st'.kn)
 (Te:vO U P k0 bq rets Q fn fr st'):∃v,(results fn a'.tmps).run P w'= .ok v w'∧aU PN bq X w Q (.returned v) w':=by
 obtain⟨vs,ks,hF,hlen,Q0,Pa⟩:=kx hr.get hs.inv.sat hk _ Te
 refine⟨_,xY Pa,?_⟩
 have Zk:Steps w k0 X bq ⟨PN,[],[]⟩ X st' X' w':=⟨hs.inv,hs.len,hs.md,hs.root⟩
 have go:∀ {v k},G5 U k0 bq rets Q v k st'→KnO st'.rs v k→∃out rs' X',Ending.returned v=iU out.kr out.res∧Q out∧bJ PN bq out.upd=some rs'∧Aj PN bq X w out w' rs' X':=by
  intro v k RM Wb
  obtain⟨out,rs',X'',h1,h2,h3,h4⟩:=yH RM RB Zk hk (.inr Wb) OO
  exact⟨out,rs',X'',by rw [← h1];cases k with | none=>rfl | some k=>cases k<;>first | rfl | exact Wb.elim,h2,h3,h4⟩
 have tup:∀ {vs:List Value} {ks:List (Option Kn)},vs.length=ks.length→(∀j v k,nth vs j=some v→nth ks j=some k→KnO st'.rs v k)→KnO st'.rs (.tuple ⟨vs⟩) (some (.t (aG jh ks))):=by
  intro vs ks hlen Q0
  refine⟨⟨vs⟩,rfl,fun j p hj=>?_⟩
  rw [bk]at hj
  cases hn:nth ks j with
  | none=>rw [hn]at hj;cases hj
  | some k=>
   rw [hn]at hj
   injection hj with hj
   obtain⟨v,hv⟩:=cr (l:=vs) (i:=j) (by rw [hlen];exact aX hn)
   refine⟨v,by rw [aI]at hv;simpa using hv,?_⟩
   have:=Q0 j v k hv hn
   unfold jh at hj
   split at hj
   ·injection hj with hj;subst hj;exact this
   ·cases hj
 cases vs with
 | nil=>
  cases ks with
  | nil=>exact go hF (tup rfl Q0)
  | cons _ _=>simp at hlen
 | cons v r=>
  cases ks with
  | nil=>simp at hlen
  | cons k s=>
   cases r with
   | nil=>
    cases s with
    | nil=>exact go hF (Q0 0 v k rfl rfl)
    | cons _ _=>simp at hlen
   | cons u r=>
    cases s with
    | nil=>simp at hlen
    | cons _ _=>exact go hF (tup hlen Q0)
theorem CI {f:Nat} {fn:Func} {c:Ctr U} {V:Code→(Ou U→Prop)→Fr→St U→Prop} {W:List Value→List (Option Kn)→List (Res U)→List (Key×Kn)→(Ou U→Prop)→Prop}(hf:P.funcs[f]? =some fn)
 (hV:∀(code:Code)(Q:Ou U→Prop)(PN:List (Res U))(X:Nat→Nat→Prop)(w:World)(kn:List (Key×Kn))(fr:Fr)(a:Act),PN.length=c.res.length→Inv w c.res.length X c.bq PN X w→Rep fn.ntmps fr a→ax PN fr kn→fr.ds= []→V code Q fr ⟨PN,kn,[]⟩→code.wpIn (WF none) 0 P (bodyPostM (WF none) 0 P fn (aU PN c.bq X w Q)) a w)
 (hW:∀args ks rs kc Q,W args ks rs kc Q→∃code,fn.body=some code∧Nat.ble args.length fn.ntmps=true∧qA rs (uc 0 ks++kc)=true∧V code Q ⟨num 0 args,fun _=>undef,[]⟩ ⟨rs,uc 0 ks++kc,[]⟩)
 (h:wP c.args c.body fun B az=>wO c.res B fun B ps=>∀Q:Ou U→Prop,B Q→wx (eo ps) (W (aG (tx (aG PR.jN ps)) az) (aG EH az) (eo ps) (Bm 0 ps++wg 0 ps) Q)):LV U P f c:=by
 refine vm h fun B az h=>vl h fun B ps hl h=>?_
 intro Q hQ X w hsat hlkp
 have h:=jX (fun r hr=>by
  obtain⟨j,hj,he⟩:=List.mem_iff_getElem.1 hr
  exact⟨_,_,hsat.res j r (by rw [aI,List.getElem?_eq_getElem hj,he])⟩) (h Q hQ)
 obtain⟨code,hb,hnt,hkd,h⟩:=hW _ _ _ _ _ h
 have RD:(aG (tx (aG PR.jN ps)) az).length≤fn.ntmps:=Nat.le_of_ble_eq_true hnt
 have RB:(eo ps).length=c.res.length:=by simp [hl]
 have hI:Inv w c.res.length X c.bq (eo ps) X w:=⟨hsat,Ch.refl _ _,fun i _ k hk=>.inl hk,fun i h1 h2=>by omega,by omega⟩
 generalize Qv:aG (tx (aG PR.jN ps)) az=args at h RD ⊢
 have PH:ax (eo ps) ⟨num 0 args,fun _=>undef,[]⟩ (uc 0 (aG EH az)++(Bm 0 ps++wg 0 ps)):=by
  intro key k Oa
  rcases pV hkd Oa with⟨p,v,rfl,hd⟩ | ⟨l,rfl,hd⟩
  rotate_left
  ·rcases List.mem_append.1 Oa with Oa | Oa
   ·obtain⟨j,rfl,hj⟩:=oo Oa
    rw [Nat.zero_add]
    rw [bk]at hj
    cases ha:nth az j with
    | none=>rw [ha]at hj;cases hj
    | some a=>
     rw [ha]at hj
     injection hj with hj
     obtain⟨as',rfl,rfl⟩:∃as',a= .agg as'∧l=aG avK as':=by
      unfold EH at hj
      split at hj
      ·cases hj
      ·cases hj
      ·split at hj
       ·injection hj with hj;injection hj with hj;exact⟨_,rfl,hj.symm⟩
       ·cases hj
     have hv:nth args j=some (.agg ⟨aG (j6 (aG PR.jN ps)) as'⟩):=by rw [← Qv,bk,ha];rfl
     have Od:=aX hv
     refine⟨⟨aG (j6 (aG PR.jN ps)) as'⟩,?_,fun j' k hk=>?_⟩
     ·show lk _ j (num 0 args)=_
      rw [sI,dif_pos ⟨Nat.zero_le _,by simpa using Od⟩]
      rw [aI,List.getElem?_eq_getElem Od]at hv
      simpa using hv
     ·obtain⟨u,hu⟩:=hd j' k hk
      refine⟨u,?_,hu⟩
      rw [bk]at hk
      cases hn:nth as' j' with
      | none=>rw [hn]at hk;cases hk
      | some b=>
       rw [hn]at hk
       injection hk with hk
       cases b with
       | v x=>cases hk
       | k p=>
        injection hk with hk
        subst hk
        have h9:nth (aG (j6 (aG PR.jN ps)) as') j'=some u:=by
         rw [bk,hn]
         show some ((den U (aG PR.jN ps) p).getD undef)=_
         rw [← rC,hu];rfl
        rw [aI]at h9
        simpa using h9
   ·rcases List.mem_append.1 Oa with Oa | Oa
    ·obtain⟨_,_,_,_,_,_,_,_,h3,_⟩:=lB Oa
     cases h3
    ·have h9:=jV Oa
     obtain⟨_,_,_,_,_,_,_,_,_,_,h3,h4⟩:=h9
     cases h4
  rcases List.mem_append.1 Oa with Oa | Oa
  ·obtain⟨j,rfl,hj⟩:=oo Oa
   rw [Nat.zero_add]
   rw [bk]at hj
   cases ha:nth az j with
   | none=>rw [ha]at hj;cases hj
   | some a=>
    rw [ha]at hj
    injection hj with hj
    have ZT:a= .one (.k p):=by
     unfold EH at hj
     split at hj
     ·injection hj with hj;injection hj with hj;rw [hj]
     ·cases hj
     ·split at hj<;>cases hj
    subst ZT
    show den U (eo ps) p=some (lk _ j (num 0 args))
    have hv:nth args j=some v:=by
     rw [← Qv,bk,ha]
     show some ((den U (aG PR.jN ps) p).getD undef)=_
     rw [← rC,hd];rfl
    have Od:=aX hv
    rw [sI,dif_pos ⟨Nat.zero_le _,by simpa using Od⟩,hd]
    rw [aI,List.getElem?_eq_getElem Od]at hv
    rw [← hv]
    simp
  rcases List.mem_append.1 Oa with Oa | Oa
  rotate_left
  ·have h0:=hlkp _ _ Oa
   obtain⟨_,_,_,_,_,_,_,_,_,_,rfl,_⟩:=jV Oa
   exact h0
  ·obtain⟨j,g,as',T,o,q,h1,h2,h3,h4⟩:=lB Oa
   injection h3 with h3
   subst h3
   rw [h2,Nat.zero_add]
   refine⟨g,aG (j6 (aG PR.jN ps)) as',T,v,?_,?_,hd⟩
   ·rw [jZ,h1];rfl
   ·rw [bk,h4]
    show some ((den U (aG PR.jN ps) p).getD undef)=_
    rw [← rC,hd];rfl
 refine(callsIn_wide (n:=0)).1 (callsIn_of_wp_marks (F:=WF none) hf hb trivial ?_)
 have P5:Rep fn.ntmps ⟨num 0 args,fun _=>undef,[]⟩ {tmps:=(⟨args⟩:Array Value)++Array.replicate (fn.ntmps - (⟨args⟩:Array Value).size) undef,defers:= []}:=by
  refine⟨by simp;omega,fun i=>?_,rfl⟩
  rw [sI]
  simp only [Nat.zero_le,Nat.sub_zero,true_and,Array.getD_eq_getD_getElem?]
  by_cases hi:i<args.length
  ·rw [dif_pos hi,Array.getElem?_append_left (by simpa using hi)]
   simp [hi]
  ·rw [dif_neg hi,Array.getElem?_append_right (by simpa using hi)]
   rw [Array.getElem?_replicate]
   split<;>rfl
 exact hV code Q (eo ps) X w _ _ _ RB hI P5 PH rfl h
theorem IZ {f:Nat} {fn:Func} {an:An} {rets:List Nat} {c:Ctr U}(hf:P.funcs[f]? =some fn)(hm:P.follows .mixedOrders=true)(OZ:∀f c,tbl.c f=some c→LV U P f c∧bT P f=true)(OO:iu (fun i=>Nat.blt i c.res.length) c.bq=true)(h:Vc2 U P tbl N fn an rets c):LV U P f c:=by
 have Qr:∀i,i∈c.bq→i<c.res.length:=fun i hi=>by simpa [Nat.blt_eq]using cD.1 OO i hi
 refine CI (V:=fun code Q fr st=>kj U P tbl c.bq c.res.length fn.ntmps N code an (fun e fr st=>match fr.ds,e with
  | [],.normal=>vO U P c.res.length c.bq rets Q fn fr st
  | [],.ret=>vO U P c.res.length c.bq rets Q fn fr st
  | [],.panic [⟨v,false,false⟩]=>G5 U c.res.length c.bq rets Q v (some .pan) st
  | _,_=>False) fr st) hf ?_ (fun args ks rs kc Q h=>?_) h
 ·intro code Q PN X w kn fr a RB hI P5 PH PS h
  refine wpIn_mono (dD OZ hm code an _ _ _ X _ w P5 hI PH h) fun e a' w' he=>?_
  cases e
  case normal=>
   obtain⟨fr',hr,⟨st',X',g1,g2,g3,g4⟩,_⟩:=he
   have g3:fr'.ds= []:=g3.trans PS
   rw [g3]at g4
   show LeavesInM (WF none) 0 P fn a'.tmps _ a'.defers .returning w'
   rw [hr.defers,g3]
   exact rA RB Qr hr g1 g2 g4
  case ret=>
   obtain⟨fr',hr,⟨st',X',g1,g2,g3,g4⟩,_⟩:=he
   have g3:fr'.ds= []:=g3.trans PS
   rw [g3]at g4
   show LeavesInM (WF none) 0 P fn a'.tmps _ a'.defers .returning w'
   rw [hr.defers,g3]
   exact rA RB Qr hr g1 g2 g4
  case panic ch=>
   obtain⟨fr',hr,⟨st',X',g1,g2,g3,g4⟩,_⟩:=he
   have g3:fr'.ds= []:=g3.trans PS
   rw [g3]at g4
   rcases ch with _ | ⟨⟨v,_ | _,_ | _⟩,_ | ⟨c2,r⟩⟩<;>first | exact g4.elim | skip
   obtain⟨out,rs',X'',h1,h2,h3,h4⟩:=yH g4 RB ⟨g1.inv,g1.len,g1.md,g1.root⟩ g2 (.inl rfl) Qr
   show LeavesInM (WF none) 0 P fn a'.tmps _ a'.defers (.panicking [⟨v,false,false⟩]) w'
   rw [hr.defers,g3]
   exact⟨out,rs',X'',h1,h2,h3,h4⟩
  case outgrown=>exact he.elim
  all_goals
   obtain⟨fr',hr,⟨st',X',g1,g2,g3,g4⟩,_⟩:=he
   have g3:fr'.ds= []:=g3.trans PS
   rw [g3]at g4
   exact g4.elim
 ·unfold Me at h
  split at h
  case h_2=>exact h.elim
  rename_i code hb Pf
  simp only [Bool.and_eq_true]at Pf
  exact⟨code,hb,Pf.1,Pf.2,h⟩
def Bb {U:Uni}:List (Nat×Ctr U)→Nat→Option (Ctr U)
 | [],_=>none
 | (g,c)::r,f=>match Nat.beq g f with
  | true=>some c
  | false=>Bb r f
abbrev aQ {U:Uni}(l:List (Nat×Ctr U)):Tb U:=⟨Bb l,.bool,[]⟩
def vJ(U:Uni)(P:Program):List (Nat×Ctr U)→Prop
 | []=>True
 | (f,c)::r=>LV U P f c∧vJ U P r
theorem pA {c:Ctr U} {f:Nat}:∀ {tb:List (Nat×Ctr U)},Bb tb f=some c→vJ U P tb→iu (fun p=>bT P p.1) tb=true→LV U P f c∧bT P f=true
 | [],h,_,_=>by cases h
 | (g,d)::r,h,ha,hb=>by
  unfold Bb at h
  have hc:=cD.1 hb
  split at h
  ·rename_i he
   injection h with h
   rw [← h,← Nat.eq_of_beq_eq_true he]
   exact⟨ha.1,hc _ (List.mem_cons_self ..)⟩
  ·exact pA h ha.2 (cD.2 fun x hx=>hc x (List.mem_cons_of_mem _ hx))
theorem verify {f:Nat} {fn:Func} {an:An} {rets:List Nat} {c:Ctr U} {tb:List (Nat×Ctr U)} {sh:Sh} {al:List (Nat×List PK×List PK)}(hf:P.funcs[f]? =some fn)(hm:P.follows .mixedOrders=true)(ht:vJ U P tb)(hb:(iu (fun p=>bT P p.1) tb && iu (fun i=>Nat.blt i c.res.length) c.bq)=true)(h:Vc2 U P ⟨Bb tb,sh,al⟩ N fn an rets c):LV U P f c:=by
 rw [Bool.and_eq_true]at hb
 exact IZ hf hm (fun f c ZL=>pA ZL ht hb.1) hb.2 h
theorem aU.pu {rs:List (Res U)} {X:Nat→Nat→Prop} {w w':World} {Q:Ou U→Prop} {v:Value} {k:Option Kn}(hs:Sat rs X w)(q:Pu w w')(hQ:Q ⟨v,k,[],[],[]⟩)(hk:KnO rs v k):aU rs [] X w Q (.returned v) w':=by
 have Zk:Sat (rs++ []) X w':=by
  rw [List.append_nil]
  exact⟨fun i r hr=>(hs.res i r hr).ch q (fun _ _ h=>h),hs.dis⟩
 refine⟨_,rs,X,fU hk,hQ,rfl,⟨Zk,q.mono fun k hk=>hk.elim,fun _ _ _=>rfl,fun i hi=>(by cases hi),fun i h1 h2=>by simp at h2;omega,.inr (by simpa using hk),fun _ k hk=>by cases hk⟩⟩
theorem aU.one {t:Nat} {r:Nat→Nat} {s s':U.ty t} {X:Nat→Nat→Prop} {w w':World} {Q:Ou U→Prop} {v:Value} {k:Option Kn} {Z:Nat→Prop}(q:Ch (X 0) w w')(hp:U.pred t r s' Z w')(hz:∀k,Z k→X 0 k∨w.heap.size≤k)(hQ:Q ⟨v,k,[.ob t s'],[],[]⟩)(hk:KnO [.ob t r s'] v k):aU [.ob t r s] [0] X w Q (.returned v) w':=by
 have Oq:bJ [Res.ob t r s] [0] [.ob t s']=some [.ob t r s']:=by simp [bJ,dI,nth,cK]
 refine⟨_,_,fun i=>if i=0 then Z else X i,fU hk,hQ,Oq,⟨⟨fun i r' hr=>?_,fun i j hi hj OH=>?_⟩,q.mono fun k hk=>⟨0,by simp,hk⟩,fun i hi hm=>?_,fun i hi k hk=>?_,fun i h1 h2=>by simp at h1 h2;omega,.inr hk,fun _ k hk=>by cases hk⟩⟩
 ·cases i with
  | zero=>simp only [List.append_nil,nth,Option.some.injEq]at hr;subst hr;exact hp
  | succ i=>simp [nth]at hr
 ·simp at hi hj;omega
 ·simp at hi hm;omega
 ·simp at hi;subst hi;exact hz k hk
theorem aU.new {t:Nat} {r:Nat→Nat} {s':U.ty t} {X:Nat→Nat→Prop} {w w':World} {Q:Ou U→Prop} {v:Value} {k:Option Kn} {Z:Nat→Prop}(q:Pu w w')(hp:U.pred t r s' Z w')(hz:∀k,Z k→w.heap.size≤k)(hQ:Q ⟨v,k,[],[.ob t r s'],[]⟩)(hk:KnO [.ob t r s'] v k):aU [] [] X w Q (.returned v) w':=by
 refine⟨_,[],fun i=>if i=0 then Z else X i,fU hk,hQ,rfl,⟨⟨fun i r' hr=>?_,fun i j hi hj OH=>?_⟩,q.mono fun k hk=>hk.elim,fun i hi hm=>?_,fun i hi=>(by cases hi),fun i h1 h2 k hk=>?_,.inr hk,fun _ k hk=>by cases hk⟩⟩
 ·cases i with
  | zero=>simp only [List.nil_append,nth,Option.some.injEq]at hr;subst hr;exact hp
  | succ i=>simp [nth]at hr
 ·simp at hi hj;omega
 ·simp at hi
 ·simp at h2;subst h2;exact hz k hk
theorem bP {b:Bool} {x y:Prop}(h:split b x y)(hb:b=true):x:=(fA h).elim (·.2) fun h=>by rw [hb]at h;cases h.1
theorem bQ {b:Bool} {x y:Prop}(h:split b x y)(hb:b=false):y:=(fA h).elim (fun h=>by rw [hb]at h;cases h.1) (·.2)
theorem af {a b:Prop}(h:a)(k:a→b):a∧b:=⟨h,k h⟩
theorem KnO.tup {U:Uni} {rs:List (Res U)} {vs:Array Value}:∀(l:List (Option PK)),(∀o∈l,o=none)→KnO rs (.tuple vs) (some (.t l)):=fun l h=>⟨vs,rfl,fun j k hj=>by have:=h _ (ik hj);cases this⟩
theorem allEq {α:Sort _} {a:α} {F:α→Prop}(h:F a):∀x,x=a→F x:=fun _ e=>e▸h
theorem ae {α:Type} {a b:α} {l m:List α}(h:a=b)(k:l=m):a::l=b::m:=by rw [h,k]
theorem cY {α:Type} {F:(α→Prop)→Prop} {G:α→Prop}(e:α)(h1:F (fun x=>x=e))(h2:G e):∃J:α→Prop,F J∧∀(_:Nat→Value)(x:α),J x→G x:=⟨_,h1,fun _ _ h=>h▸h2⟩
theorem qU {α:Type} {F:(α→Prop)→Prop} {G:α→Prop}(h:F G):∃J:α→Prop,F J∧∀(_:Nat→Value)(x:α),J x→G x:=⟨_,h,fun _ _ h=>h⟩
theorem dup2 {α β:Type} {F:(α→β→Prop)→Prop} {G:α→β→Prop}(h:F G):∃J:α→β→Prop,F J∧∀(_:Nat→Value)(x:α)(y:β),J x y→G x y:=⟨_,h,fun _ _ _ h=>h⟩
theorem cl {U:Uni} {Q:Ou U→Prop} {a b:Bool} {k:Option Kn} {u:List (Upd U)} {n:List (Res U)} {kc:List (Key×Kn)}(h:Q ⟨.bool a,k,u,n,kc⟩)(h1:a=b):Q ⟨.bool b,k,u,n,kc⟩:=h1▸h
theorem ib {U:Uni} {Q:Ou U→Prop} {i:IntKind} {a b:Int} {k:Option Kn} {u:List (Upd U)} {n:List (Res U)} {kc:List (Key×Kn)}(h:Q ⟨.int i a,k,u,n,kc⟩)(h1:a=b):Q ⟨.int i b,k,u,n,kc⟩:=h1▸h
theorem au {U:Uni} {Q:Ou U→Prop} {a b:Value} {k:Option Kn} {u u':List (Upd U)} {n n':List (Res U)} {kc:List (Key×Kn)}(h:Q ⟨a,k,u,n,kc⟩)(h1:a=b)(h2:u=u')(h3:n=n'):Q ⟨b,k,u',n',kc⟩:=by rw [← h1,← h2,← h3];exact h
end
theorem cf {a b:Int}(h:a=b):Value.int .i64 a=Value.int .i64 b:=congrArg _ h
theorem cu {a b:Int}(h:a=b):Value.int .u32 a=Value.int .u32 b:=congrArg _ h
theorem eQb {a b:Bool}(h:a=b):Value.bool a=Value.bool b:=congrArg _ h
end
end Go.Proofs.YtinhphjfnedhgaaGreatDoor.V
namespace Go.Proofs.YtinhphjfnedhgaaGreatDoor
open Go.Proofs.Tryz (prog)
open Go Go.RowKit V
open Go.IntKind (i64 u32 u64)
open Enc (enc)
structure LOp where
 k:Int
 a:Int
 b:Int
 c:Int
 d:Int
instance:Enc LOp:=⟨fun x=>[.int .i64 x.k,.int .u32 x.a,.int .u32 x.b,.int .u32 x.c,.int .u32 x.d],5,fun _=>rfl,by simp [Value.oneCell'],by omega⟩
structure W26 where
 l:List U32
def W26.c(x:W26):List Value:=aG (fun j=>.int .u32 (x.l.getD j (U32.mk 0)).v) (upN 0 26)
def W26.n(x:W26):List U32:=aG (fun j=>U32.mk (x.l.getD j (U32.mk 0)).v) (upN 0 26)
instance:Enc W26:=⟨W26.c,26,fun _=>rfl,fun x u h=>by
 obtain⟨a,rfl⟩:=sG h
 rfl,by omega⟩
def UEl:Nat→Type
 | 0=>I64
 | 1=>U32
 | 2=>U8
 | 3=>Bl
 | 4=>Ent
 | 5=>LOp
 | 6=>Fl
 | 8=>W26
 | _=>I64
@[reducible] def UEn:(t:Nat)→Enc (UEl t)
 | 0=>inferInstanceAs (Enc I64)
 | 1=>inferInstanceAs (Enc U32)
 | 2=>inferInstanceAs (Enc U8)
 | 3=>inferInstanceAs (Enc Bl)
 | 4=>inferInstanceAs (Enc Ent)
 | 5=>inferInstanceAs (Enc LOp)
 | 6=>inferInstanceAs (Enc Fl)
 | 7=>inferInstanceAs (Enc I64)
 | 8=>inferInstanceAs (Enc W26)
 | _+9=>inferInstanceAs (Enc I64)
def UDf:(t:Nat)→UEl t
 | 0=>I64.mk 0
 | 1=>U32.mk 0
 | 2=>U8.mk 0
 | 3=>Bl.mk false
 | 4=>Ent.free
 | 5=>⟨0,0,0,0,0⟩
 | 6=>Fl.zero
 | 7=>I64.mk 0
 | 8=>⟨[]⟩
 | _+9=>I64.mk 0
def HZ:(t:Nat)→List Value→Option (UEl t)
 | 0,[.int .i64 x]=>some (I64.mk x)
 | 1,[.int .u32 x]=>some (U32.mk x)
 | 2,[.int .u8 x]=>some (U8.mk x)
 | 3,[.bool x]=>some (Bl.mk x)
 | 4,[.int .i64 a,.int .i64 b,.int .i64 c,.int .i64 d,.bool e]=>some (Ent.mk a b c d e)
 | 5,[.int .i64 a,.int .u32 b,.int .u32 c,.int .u32 d,.int .u32 e]=>some (LOp.mk a b c d e)
 | _,_=>none
theorem gS {t:Nat} {cs:List Value} {x:UEl t}(h:HZ t cs=some x):(UEn t).enc x=cs:=by
 unfold HZ at h
 split at h<;>first | (injection h with h;subst h;rfl) | cases h
def LF(cs:List Value):Option W26:=match yS cs with
 | some l=>(match Nat.beq l.length 26 with
  | true=>some ⟨l⟩
  | false=>none)
 | none=>none
theorem JH {cs:List Value} {x:W26}(h:LF cs=some x):x.c=cs:=by
 unfold LF at h
 split at h
 ·rename_i l hl
  split at h
  ·rename_i hn
   injection h with h
   subst h
   have hn:=Nat.eq_of_beq_eq_true hn
   rw [oE hl]
   apply List.ext_getElem?
   intro j
   show(aG _ _)[j]? =_
   rw [← aI,bk,List.getElem?_map,List.getElem?_map]
   cases hj:nth (upN 0 26) j with
   | none=>rw [List.getElem?_eq_none];rfl;(by_cases h9:j<26;(have h8:=cr (l:=upN 0 26) (i:=j) (by rw [gA];exact h9);rw [hj]at h8;obtain⟨_,h8⟩:=h8;cases h8);omega)
   | some i=>
    have h1:=jl hj
    have h2:=aX hj
    rw [gA]at h2
    have h3:i=j:=by omega
    subst h3
    show some (Value.int .u32 (l.getD i (U32.mk 0)).v)=_
    rw [List.getD_eq_getElem?_getD,List.getElem?_eq_getElem (by omega)];rfl
  ·cases h
 ·cases h
def M7:(t:Nat)→List Value→Option (UEl t)
 | 6,cs=>yU cs
 | 8,cs=>LF cs
 | t,cs=>HZ t cs
theorem Ka:∀ {t:Nat} {cs:List Value} {x:UEl t},M7 t cs=some x→(UEn t).enc x=cs
 | 6,_,_,h=>(pX h).1.symm
 | 0,_,_,h=>gS (t:=0) h
 | 1,_,_,h=>gS (t:=1) h
 | 2,_,_,h=>gS (t:=2) h
 | 3,_,_,h=>gS (t:=3) h
 | 4,_,_,h=>gS (t:=4) h
 | 5,_,_,h=>gS (t:=5) h
 | 7,_,_,h=>gS (t:=7) h
 | 8,_,_,h=>JH h
 | t+9,_,_,h=>gS (t:=t+9) h
def UE:Els:=⟨UEl,UEn,UDf,M7,Ka⟩
def Nr:Kind UE where
 ty:=Mem
 pred:=fun r s X w=>∃L:eQ,r 0=L.g∧(∀k,L.X k↔X k)∧cv w L s
 ch:=fun⟨L,h1,h2,h3⟩ q hb=>⟨L,h1,h2,h3.ch q fun k hk=>hb k ((h2 k).1 hk)⟩
 lt:=fun⟨_,_,h2,h3⟩ k hk=>h3.lt k ((h2 k).2 hk)
 iv:=true
 inv:=Mem.Wf
 g5:=fun⟨_,_,_,h⟩=>⟨h.u32,h.dV⟩
def kPd:Kind UE where
 ty:=Pd
 pred:=fun r s X w=>∃a,(∀k,(k=r 0∨k=a)↔X k)∧PdP w (r 0) a (r 1) s
 ch:=fun⟨a,h1,h2⟩ q hb=>⟨a,h1,h2.ch q (hb _ ((h1 _).1 (.inl rfl))) (hb _ ((h1 _).1 (.inr rfl)))⟩
 lt:=fun⟨a,h1,h2⟩ k hk=>by rcases(h1 k).2 hk with rfl | rfl;exact h2.lt.1;exact h2.lt.2
 iv:=true
 inv:=Pd.Ok
 g5:=fun⟨_,_,h⟩=>h.ok
 fo:=fun _ s path off=>match path,off with
  | 0,0=>some (.o 1 0)
  | 0,1=>some (.v (.int .i64 s.av))
  | _,_=>none
 sU:=by
  rintro r s X w path off f v ⟨a,hX,hD⟩ hf hv
  have h:=Mq hD
  split at hf
  ·injection hf with hf;subst hf;simp only [fvV]at hv
   exact⟨(hX _).1 (.inl rfl),by rw [← hv];exact h.1⟩
  ·injection hf with hf;subst hf;simp only [fvV]at hv
   exact⟨(hX _).1 (.inl rfl),by rw [← hv];exact h.2⟩
  ·cases hf
 fs:=fun _ s path off v=>match path,off,v with
  | 0,1,.int .i64 x=>some (0≤x∧x≤64,s.gH x)
  | _,_,_=>none
 sQ:=by
  rintro r s s' X w path off v c ⟨a,hX,hD⟩ hf hc K hK
  split at hf
  ·simp only [Option.some.injEq,Prod.mk.injEq]at hf
   obtain⟨rfl,rfl⟩:=hf
   exact hD.DY hc fun w' h' q=>hK w' ⟨a,hX,h'⟩ (q.mono fun k hk=>(hX k).1 (.inl hk))
  ·cases hf
def MC:Kind UE where
 ty:=Mem
 pred:=fun r s X w=>∃L:kN,(∀k,L.X k↔X k)∧gh w (r 0) L s
 ch:=fun⟨L,h2,h3⟩ q hb=>⟨L,h2,h3.ch q fun k hk=>hb k ((h2 k).1 hk)⟩
 lt:=fun⟨_,h2,h3⟩ k hk=>h3.lt k ((h2 k).2 hk)
 iv:=true
 inv:=Mem.Wf
 g5:=fun⟨_,_,h⟩=>⟨h.u32,h.dV⟩
def Nq:Kind UE where
 ty:=Pd
 pred:=fun r s X w=>(∀k,(k=r 0∨k=r 2)↔X k)∧oW w (r 0) (r 1) (r 2) (r 3) s
 ch:=fun⟨h1,h2⟩ q hb=>⟨h1,h2.ch q (hb _ ((h1 _).1 (.inl rfl))) (hb _ ((h1 _).1 (.inr rfl)))⟩
 lt:=fun⟨h1,h2⟩ k hk=>by rcases(h1 k).2 hk with rfl | rfl;exact h2.lt.1;exact h2.lt.2
 li:=fun r s i=>match i with
  | 0=>some ⟨4,some ⟨r 2,0,none⟩,r 3,s.aJ⟩
  | _=>none
 qy:=by
  rintro r s X w i L h hl
  split at hl
  ·injection hl with hl;subst hl;exact Le h.1 h.2
  ·cases hl
 st:=fun _ s j i tt=>match j,tt with
  | 0,4=>fun x=>some ((Ent.ok x=true∧Ent.owner x<((s.n:Nat):Int)),s.set i x)
  | _,_=>fun _=>none
 r5:=by
  rintro r s s' X w j i L x y off vs c h hl hx ho hy hs hc K hK
  split at hl
  ·injection hl with hl
   subst hl
   simp only [Option.some.injEq,Prod.mk.injEq]at hs
   obtain⟨rfl,rfl⟩:=hs
   exact h.2.Lb hx ho hy hc fun w' h' q=>hK w' ⟨h.1,h'⟩ (q.mono fun k hk=>(h.1 k).1 (.inr hk))
  ·cases hl
 iv:=true
 inv:=Pd.Ok
 g5:=fun⟨_,h⟩=>h.ok
 fo:=fun _ s path off=>match path,off with
  | 0,0=>some (.o 1 0)
  | 0,1=>some (.l 0)
  | 0,2=>some (.v (.int .i64 s.av))
  | _,_=>none
 sU:=by
  rintro r s X w path off f v ⟨hX,hD⟩ hf hv
  have h:=Lf hD
  split at hf
  ·injection hf with hf;subst hf;simp only [fvV]at hv
   exact⟨(hX _).1 (.inl rfl),by rw [← hv];exact h.1⟩
  ·injection hf with hf;subst hf;simp only [fvV]at hv
   exact⟨(hX _).1 (.inl rfl),by rw [← hv];exact h.2.1⟩
  ·injection hf with hf;subst hf;simp only [fvV]at hv
   exact⟨(hX _).1 (.inl rfl),by rw [← hv];exact h.2.2⟩
  ·cases hf
 fs:=fun _ s path off v=>match path,off,v with
  | 0,2,.int .i64 x=>some (0≤x∧x≤64,s.gH x)
  | _,_,_=>none
 sQ:=by
  rintro r s s' X w path off v c ⟨hX,hD⟩ hf hc K hK
  split at hf
  ·simp only [Option.some.injEq,Prod.mk.injEq]at hf
   obtain⟨rfl,rfl⟩:=hf
   exact hD.DY hc fun w' h' q=>hK w' ⟨hX,h'⟩ (q.mono fun k hk=>(hX k).1 (.inl hk))
  ·cases hf
def Ns:Kind UE where
 ty:=Dg
 pred:=fun r s X w=>∃L:DgL,(∀k,L.X (r 0) k↔X k)∧pj w (r 0) L s
 ch:=fun⟨L,h2,h3⟩ q hb=>⟨L,h2,h3.ch q fun k hk=>hb k ((h2 k).1 hk)⟩
 lt:=fun⟨_,h2,h3⟩ k hk=>h3.lt k ((h2 k).2 hk)
def MB(b:Nat):Kind UE where
 ty:=List Int
 pred:=fun _ s X w=>(∀k,k=b↔X k)∧mR w b s
 ch:=fun⟨h2,h3⟩ q hb=>⟨h2,h3.ch q fun k hk=>hb k ((h2 k).1 hk)⟩
 lt:=fun⟨h2,h3⟩ k hk=>h3.lt k ((h2 k).2 hk)
def kU:Kind UE where
 ty:=List U32
 pred:=fun r s X w=>(∀k,k=r 0↔X k)∧zN w (r 0) s
 ch:=fun⟨h2,T,h3⟩ q hb=>⟨h2,T,q.blk h3 (hb _ ((h2 _).1 rfl))⟩
 lt:=fun⟨h2,T,h3⟩ k hk=>by rw [(h2 k).2 hk];exact h3.lt
 li:=fun r s i=>match i with
  | 0=>some ⟨1,some ⟨r 0,0,none⟩,s.length,s⟩
  | _=>none
 qy:=by
  rintro r s X w i L h hl
  split at hl
  ·injection hl with hl;subst hl;exact CQ h.1 h.2
  ·cases hl
 st:=fun _ s j i tt=>match j,tt with
  | 0,1=>fun x=>some (True,s.set i x)
  | _,_=>fun _=>none
 r5:=by
  rintro r s s' X w j i L x y off vs c h hl hx ho hy hs hc K hK
  split at hl
  ·injection hl with hl
   subst hl
   simp only [Option.some.injEq,Prod.mk.injEq]at hs
   obtain⟨rfl,rfl⟩:=hs
   exact I7 h.1 h.2 hx ho hy hK
  ·cases hl
 ix:=fun path off=>match path,off with
  | 0,0=>some 0
  | _,_=>none
 sO:=by
  rintro r s path off i L h hl
  split at h
  ·injection h with h;subst h
   injection hl with hl;subst hl;rfl
  ·cases h
 wl:=fun _ s path off n=>match path,off with
  | 0,0=>some (s.length=n,aG (fun j=>.int .u32 (s.getD j (U32.mk 0)).v) (upN 0 n))
  | _,_=>none
 uA:=by
  rintro r s X w path off n c cs h hw hc
  split at hw
  ·simp only [Option.some.injEq,Prod.mk.injEq]at hw
   obtain⟨rfl,rfl⟩:=hw
   exact I6 h.1 h.2 hc
  ·cases hw
 ws:=fun _ s path off vs=>match path,off with
  | 0,0=>(match yS vs with
   | some l=>some (s.length=l.length,l)
   | none=>none)
  | _,_=>none
 rJ:=by
  rintro r s s' X w path off vs c h hs hc K hK
  split at hs
  ·split at hs
   ·rename_i l hl
    simp only [Option.some.injEq,Prod.mk.injEq]at hs
    obtain⟨rfl,rfl⟩:=hs
    exact I5 h.1 h.2 hl hc hK
   ·cases hs
  ·cases hs
def kFl:Kind UE where
 ty:=Fl
 pred:=fun r s X w=>(∀k,k=r 0↔X k)∧FlP w (r 0) s
 ch:=fun⟨h2,h3,T,h4⟩ q hb=>⟨h2,h3,T,q.blk h4 (hb _ ((h2 _).1 rfl))⟩
 lt:=fun⟨h2,_,T,h3⟩ k hk=>by rw [(h2 k).2 hk];exact h3.lt
 li:=fun r s i=>match i with
  | 0=>some ⟨1,some ⟨r 0,0,none⟩,s.rs.length,s.rs⟩
  | _=>none
 qy:=by
  rintro r s X w i L h hl
  split at hl
  ·injection hl with hl;subst hl;exact h.2.li h.1
  ·cases hl
 fs:=fun _ s path off v=>match path,off,v with
  | 0,15,.int .u32 x=>some (True,{s with pc:=x})
  | 0,16,.bool x=>some (True,{s with z:=x})
  | 0,17,.bool x=>some (True,{s with n:=x})
  | 0,18,.bool x=>some (True,{s with l:=x})
  | _,_,_=>none
 sQ:=by
  rintro r s s' X w path off v c h hf hc K hK
  split at hf
  all_goals first
   | cases hf;done
   | (simp only [Option.some.injEq,Prod.mk.injEq]at hf
      obtain⟨rfl,rfl⟩:=hf
      exact FlP.st h.2 (by omega) (by exact h.2.len) (by rfl) fun w' h' q=>hK w' ⟨h.1,h'⟩ (q.mono fun k hk=>(h.1 k).1 hk))
 st:=fun _ s j i tt=>match j,tt with
  | 0,1=>fun x=>some (True,s.Bj i x)
  | _,_=>fun _=>none
 r5:=by
  rintro r s s' X w j i L x y off vs c h hl hx ho hy hs hc K hK
  split at hl
  ·injection hl with hl
   subst hl
   simp only [Option.some.injEq,Prod.mk.injEq]at hs
   obtain⟨rfl,rfl⟩:=hs
   exact h.2.stR h.1 hx ho hy hK
  ·cases hl
 iv:=true
 inv:=Fl.Ok
 g5:=fun h=>h.2.len
 fo:=fun _ s path off=>match path,off with
  | 0,15=>some (.v (.int .u32 s.pc))
  | 0,16=>some (.v (.bool s.z))
  | 0,17=>some (.v (.bool s.n))
  | 0,18=>some (.v (.bool s.l))
  | _,_=>none
 sU:=by
  rintro r s X w path off f v ⟨hX,hl,T,hb⟩ hf hv
  split at hf
  all_goals first
   | cases hf;done
   | (injection hf with hf
      subst hf
      simp only [fvV,Option.some.injEq]at hv
      exact⟨(hX _).1 rfl,by rw [← hv];exact hb.cell rfl⟩)
 ix:=fun path off=>match path,off with
  | 0,0=>some 0
  | _,_=>none
 sO:=by
  rintro r s path off i L h hl
  split at h
  ·injection h with h;subst h
   injection hl with hl;subst hl;rfl
  ·cases h
 wl:=fun _ s path off n=>match path,off,n with
  | 0,0,19=>some (True,s.cells)
  | _,_,_=>none
 uA:=by
  rintro r s X w path off n c cs ⟨hX,hl,T,hb⟩ hw hc
  split at hw
  ·simp only [Option.some.injEq,Prod.mk.injEq]at hw
   obtain⟨rfl,rfl⟩:=hw
   exact⟨(hX _).1 rfl,fun j u hj=>by rw [Nat.zero_add];exact hb.cell (by simpa using hj)⟩
  ·cases hw
 ws:=fun _ _ path off vs=>match path,off with
  | 0,0=>(match yU vs with
   | some l=>some (True,l)
   | none=>none)
  | _,_=>none
 rJ:=by
  rintro r s s' X w path off vs c h hs hc K hK
  split at hs
  ·split at hs
   ·rename_i l hl
    simp only [Option.some.injEq,Prod.mk.injEq]at hs
    obtain⟨rfl,rfl⟩:=hs
    obtain⟨e,h2⟩:=pX hl
    subst e
    exact h.2.all h2 fun w' h' q=>hK w' ⟨h.1,h'⟩ (q.mono fun k hk=>(h.1 k).1 hk)
   ·cases hs
  ·cases hs
structure Wt where
 A:Option Addr
 c:Nat
 l:List U32
def kWt:Kind UE where
 ty:=Wt
 pred:=fun _ s X w=>Rd w X s.A s.l.length s.c s.l
 ch:=fun h q hb=>h.ch q hb
 lt:=fun h=>h.lt
 li:=fun _ s i=>match i with
  | 0=>some ⟨1,s.A,s.c,s.l⟩
  | _=>none
 qy:=by
  rintro r s X w i L h hl
  split at hl
  ·injection hl with hl;subst hl;exact h
  ·cases hl
structure Sv where
 D:DB
 pD:Nat
 pM:Nat
structure Sv.Ok(s:Sv):Prop where
 wf:s.D.mem.Wf
 pd:s.D.pd.Ok
def kSv:Kind UE where
 ty:=Sv
 pred:=fun _ s X w=>∃(a:Nat)(L:eQ),L.g=s.pM∧DBP w ⟨s.pD,a,L⟩ s.D∧∀k,fh.X ⟨s.pD,a,L⟩ k↔X k
 ch:=fun⟨a,L,h1,h2,h3⟩ q hb=>⟨a,L,h1,h2.ch q fun k hk=>hb k ((h3 k).1 hk),h3⟩
 lt:=fun⟨_,_,_,h2,h3⟩ k hk=>h2.lt k ((h3 k).2 hk)
 iv:=true
 inv:=Sv.Ok
 g5:=fun⟨_,_,_,h,_⟩=>⟨⟨h.mem.u32,h.mem.dV⟩,h.pd.ok⟩
def UK:Nat→Kind UE
 | 0=>Nr
 | 1=>kPd
 | 2=>MC
 | 3=>Nq
 | 4=>Ns
 | 5=>MB 0
 | 6=>MB 1
 | 7=>kU
 | 8=>kWt
 | 9=>kSv
 | 10=>kFl
 | _=>Kind.none UE
abbrev cT(t:Nat)(r:Nat→Nat)(s:(UK t).ty)(X:Nat→Prop)(w:World):Prop:=(UK t).pred r s X w
theorem LW {t:Nat} {r:Nat→Nat} {s:(UK t).ty} {X:Nat→Prop} {w:World}(h:cT t r s X w):(UK t).inv s:=(UK t).g5 h
def UMk:TypeId→List Value→Option ((t:Nat)×(UK t).ty)
 | 69,cs=>(match yS cs with
  | some l=>some ⟨7,l⟩
  | none=>none)
 | 276,cs=>(match yU cs with
  | some s=>some ⟨10,s⟩
  | none=>none)
 | _,_=>none
theorem LU {T:TypeId} {cs:List Value} {q:(t:Nat)×(UK t).ty} {w:World} {g:Nat}(h:UMk T cs=some q)(hb:Blk w g ⟨cs⟩ T):(UK q.1).pred (fun _=>g) q.2 (fun k=>k=g) w:=by
 unfold UMk at h
 split at h
 ·split at h
  ·rename_i l hl
   injection h with h
   subst h
   have:=oE hl
   subst this
   exact(⟨fun k=>Iff.rfl,_,hb.cast (by simp [bI])⟩:(∀k,k=g↔k=g)∧zN w g l)
  ·cases h
 ·split at h
  ·rename_i s hs
   injection h with h
   subst h
   obtain⟨rfl,h2⟩:=pX hs
   exact(⟨fun k=>Iff.rfl,h2,_,hb⟩:(∀k,k=g↔k=g)∧FlP w g s)
  ·cases h
 ·cases h
def Un:Uni:=Uni.of UE UK (fun t=>match t with
 | 3=>some 0
 | 29=>some 1
 | 4=>some 3
 | 50=>some 4
 | 96=>some 4
 | 31=>some 5
 | _=>none) UMk LU
theorem uO0 {a b:Mem}(h:a=b):Upd.ob (U:=Un) 0 a= .ob 0 b:=congrArg (Upd.ob (U:=Un) 0) h
theorem rO0 {r:Nat→Nat} {a b:Mem}(h:a=b):Res.ob (U:=Un) 0 r a= .ob 0 r b:=congrArg (Res.ob (U:=Un) 0 r) h
theorem uO1 {a b:Pd}(h:a=b):Upd.ob (U:=Un) 1 a= .ob 1 b:=congrArg (Upd.ob (U:=Un) 1) h
theorem rO1 {r:Nat→Nat} {a b:Pd}(h:a=b):Res.ob (U:=Un) 1 r a= .ob 1 r b:=congrArg (Res.ob (U:=Un) 1 r) h
end Go.Proofs.YtinhphjfnedhgaaGreatDoor
namespace Go.Proofs.YtinhphjfnedhgaaGreatDoor
open Go.Proofs.Tryz (prog)
open Go Go.RowKit V
open Go.IntKind (i64 u32 u64)
section
namespace V
section
variable {U:Uni}
theorem aU.more {rs:List (Res U)} {X:Nat→Nat→Prop} {w w':World} {Q:Ou U→Prop} {v:Value} {k:Option Kn} {Z:Nat→Prop} {r:Res U}(hs:Sat rs X w)(q:Pu w w')(hr:RS Z w' r)(hz:∀k,Z k→w.heap.size≤k)(hQ:Q ⟨v,k,[],[r],[]⟩)(hk:KnO (rs++ [r]) v k):aU rs [] X w Q (.returned v) w':=by
 refine⟨_,rs,fun i=>if i=rs.length then Z else X i,fU hk,hQ,rfl,⟨⟨fun i r' NV=>?_,fun i j hi hj OH k Pb OC=>?_⟩,q.mono fun k hk=>hk.elim,fun i hi _=>if_neg (by omega),fun i hi=>(by cases hi),fun i h1 h2 k hk=>?_,.inr hk,fun _ k hk=>by cases hk⟩⟩
 ·by_cases hi:i<rs.length
  ·rw [bo,if_pos hi]at NV
   simp only [if_neg (show ¬i=rs.length by omega)]
   exact(hs.res i r' NV).ch q fun _ _ h=>h
  ·have h1:=aX NV
   simp at h1
   obtain rfl:i=rs.length:=by omega
   rw [bo,if_neg (by omega),Nat.sub_self]at NV
   obtain rfl:r=r':=by simpa [nth]using NV
   simpa using hr
 ·simp at hi hj
  by_cases h1:i=rs.length
  ·have h2:¬j=rs.length:=by omega
   simp only [h1,if_true,if_neg h2]at Pb OC
   have:=hs.lt (i:=j) (by omega) k OC
   have:=hz k Pb
   omega
  ·simp only [if_neg h1]at Pb
   by_cases h2:j=rs.length
   ·simp only [h2,if_true]at OC
    have:=hs.lt (i:=i) (by omega) k Pb
    have:=hz k OC
    omega
   ·simp only [if_neg h2]at OC
    exact hs.dis i j (by omega) (by omega) OH k Pb OC
 ·simp at h2
  obtain rfl:i=rs.length:=by omega
  simp only [if_true]at hk
  exact hz k hk
theorem Gv {t:Nat} {T:TypeId} {A:Option Addr} {n c:Nat} {l:List (U.el t)} {Z:Nat→Prop} {w:World}(h:Own w Z T A n c l):RS (U:=U) (fun k=>Z k∧k<w.heap.size) w (.lst t true T A c l):=by
 have hl:=h.len
 subst hl
 exact⟨h.within,fun k hk=>hk.2⟩
end
end V
section
variable {r rm:Nat→Nat} {E:Pd} {m:Mem} {X:Nat→Nat→Prop} {w w':World}
theorem lI(hs:Sat (U:=Un) [.ob 0 rm m] X w):∃L:eQ,rm 0=L.g∧cv w L m∧∀k,L.X k↔X 0 k:=by
 obtain⟨L,h1,h2,h3⟩:=(hs.res 0 _ rfl:cT 0 rm m (X 0) w)
 exact⟨L,h1,h3,h2⟩
theorem vV(hs:Sat (U:=Un) [.ob 1 r E,.ob 0 rm m] X w)(hl:ax (U:=Un) [.ob 1 r E,.ob 0 rm m] fr0 [(.l 0 1,.p (.obj 1 0 0))])(hn:E.n=m.S):
 ∃(a:Nat)(L:eQ),rm 0=L.g∧r 1=L.g∧DBP w ⟨r 0,a,L⟩ (E.on m)∧(∀k,(k=r 0∨k=a)↔X 0 k)∧(∀k,L.X k↔X 1 k):=by
 obtain⟨a,h1,h2⟩:=(hs.res 0 _ rfl:cT 1 r E (X 0) w)
 obtain⟨L,h3,h4,h5⟩:=(hs.res 1 _ rfl:cT 0 rm m (X 1) w)
 obtain⟨t',r',s',T4,hk⟩:=hl _ _ (List.mem_singleton.2 rfl)
 simp only [nth,Option.some.injEq,Res.ob.injEq]at T4
 obtain⟨rfl,rfl,_⟩:=T4
 have hk:some (Value.pointer (some ⟨rm 0,0,none⟩))=some (Value.pointer (some ⟨r 1,0,none⟩)):=hk
 simp only [Option.some.injEq,Value.pointer.injEq,Addr.mk.injEq]at hk
 have hg:r 1=L.g:=by rw [← h3];exact hk.1.symm
 rw [hg]at h2
 have hx:∀k,(k=r 0∨k=a)→¬L.X k:=fun k hk hL=>hs.dis 0 1 (by simp) (by simp) (by omega) k ((h1 k).1 hk) ((h4 k).1 hL)
 exact⟨a,L,h3,hg,h2.db h5 hn ⟨hx _ (.inl rfl),hx _ (.inr rfl)⟩,h1,h4⟩
theorem CZ {a:Nat} {L:eQ} {D:DB} {Q:Ou Un→Prop} {v:Value} {k:Option Kn}(hs:Sat (U:=Un) [.ob 1 r E,.ob 0 rm m] X w)(QB:∀k,(k=r 0∨k=a)↔X 0 k)(QK:∀k,L.X k↔X 1 k)(hg:rm 0=L.g)(hr:r 1=L.g)(h:DBP w' ⟨r 0,a,L⟩ D)(q:Ch (fh.X ⟨r 0,a,L⟩) w w')
 (hQ:Q ⟨v,k,[.ob 1 D.pd,.ob 0 D.mem],[],[]⟩)(hk:KnO (U:=Un) [.ob 1 r D.pd,.ob 0 rm D.mem] v k):aU (U:=Un) [.ob 1 r E,.ob 0 rm m] [0,1] X w Q (.returned v) w':=by
 refine⟨_,[.ob 1 r D.pd,.ob 0 rm D.mem],X,fU hk,hQ,by simp [bJ,dI,nth,cK],⟨⟨fun i r' NV=>?_,hs.dis⟩,q.mono fun k hk=>?_,fun i hi hm=>rfl,fun i hi k hk=>.inl hk,fun i h1 h2=>by simp at h1 h2;omega,.inr (by simpa using hk),fun _ k hk=>by cases hk⟩⟩
 ·match i with
  | 0=>
   simp only [List.append_nil,nth,Option.some.injEq]at NV
   subst NV
   exact(⟨a,QB,by rw [hr];exact h.pd⟩:cT 1 r D.pd (X 0) w')
  | 1=>
   simp only [List.append_nil,nth,Option.some.injEq]at NV
   subst NV
   exact(⟨L,hg,QK,h.mem⟩:cT 0 rm D.mem (X 1) w')
  | i+2=>simp [nth]at NV
 ·rcases hk with hk | hk | hk
  ·exact⟨0,by simp,(QB k).1 (.inl hk)⟩
  ·exact⟨0,by simp,(QB k).1 (.inr hk)⟩
  ·exact⟨1,by simp,(QK k).1 hk⟩
end
end
end Go.Proofs.YtinhphjfnedhgaaGreatDoor
namespace Go.Proofs.YtinhphjfnedhgaaGreatDoor
open Go.Proofs.Tryz (prog)
open Go Go.RowKit V
open Go.IntKind (i64 u32 u64)
section
set_option maxRecDepth 100000
end
section
set_option maxRecDepth 100000
def tz(ma:Bool)(mb:Int)(mc:Bool)(md:Bool)(R:aB)(w:World):Prop:=
 ∀(gv:Nat)(wv:World),gv=w.heap.size→wv=w.alloc (.cells #[(.bool ma),(.int .i64 mb),(.bool mc),(.bool md)] 128)→
 ∃J:Bool→World→Prop,(
  ∃x9:Int,wv.cell? (((Addr.mk gv 0 none).add 0).add 1)=some (.int .i64 x9)∧
  split (decide ((x9:Int)<0)) (
   J true wv) (
   ∃OS:Int,wv.cell? (((Addr.mk gv 0 none).add 0).add 1)=some (.int .i64 OS)∧
   J (decide ((OS:Int)>63)) wv))∧∀(NU:Nat→Value)(Oy:Bool),∀ND,J Oy ND→
 split Oy (
  R (.tuple #[(.int .u32 0),(.int .i64 4)]) ND) (
  ∃J1:Bool→World→Prop,(
   ∃Q2:Bool,ND.cell? ((Addr.mk gv 0 none).add 3)=some (.bool Q2)∧
   split Q2 (
    ∃N9:Bool,ND.cell? (((Addr.mk gv 0 none).add 0).add 0)=some (.bool N9)∧
    J1 (!N9) ND) (
    J1 false ND))∧∀(OJ:Nat→Value)(RA:Bool),∀NF,J1 RA NF→
  split RA (
   R (.tuple #[(.int .u32 0),(.int .i64 1)]) NF) (
   ∃RX:Int,NF.cell? (((Addr.mk gv 0 none).add 0).add 1)=some (.int .i64 RX)∧
   ∀NI:Int,NI=(u32.wrap (BitVec.ofInt u32.bits (u32.wrap ((u32.wrap RX:Int)*2 ^ 8)) ||| BitVec.ofInt u32.bits 1).toNat)→
   ∃x33:Bool,NF.cell? (((Addr.mk gv 0 none).add 0).add 0)=some (.bool x33)∧
   ∃Pr:Bool,NF.cell? ((Addr.mk gv 0 none).add 2)=some (.bool Pr)∧
   ∃OF:Bool,NF.cell? ((Addr.mk gv 0 none).add 3)=some (.bool OF)∧
   ∀(NW:Nat)(NM:World),NW=NF.heap.size→NM=NF.alloc (.cells #[(.bool x33),(.int .u32 2),(.bool Pr),(.int .u32 4),(.bool OF),(.int .u32 8)] 255)→
   ∃I:Nat→Int→Int→World→Prop,(∃m,I m NI 0 NM)∧∀(m:Nat)(QD:Nat→Value)(NZ:Int)(PM:Int),∀Ol,I m NZ PM Ol→
   split (decide ((PM:Int)<((3:Nat):Int))) (
    (0≤(PM:Int)∧(PM:Int)<((3:Nat):Int))∧
    ∃Xi:Bool,∃Xh:Int,(Ol.cell? (((Addr.mk NW 0 none).add (Int.toNat PM*2)).add 0)=some (.bool Xi)∧Ol.cell? (((Addr.mk NW 0 none).add (Int.toNat PM*2)).add 1)=some (.int .u32 Xh))∧
    ∀(TE:Nat)(N8:World),TE=Ol.heap.size→N8=Ol.alloc (.cells (#[(.bool false),(.int .u32 0)]) 255)→
    aF N8 (Addr.mk TE 0 none) [(.bool Xi),(.int .u32 Xh)] fun N5=>
    ∃Xg:Bool,N5.cell? ((Addr.mk TE 0 none).add 0)=some (.bool Xg)∧
    split Xg (
     ∃Uj:Int,N5.cell? ((Addr.mk TE 0 none).add 1)=some (.int .u32 Uj)∧
     ∀Ph:Int,Ph=(u32.wrap (BitVec.ofInt u32.bits NZ ||| BitVec.ofInt u32.bits Uj).toNat)→
     ∃m1,m1<m∧I m1 Ph (i64.wrap (PM+1)) N5) (
     ∃m1,m1<m∧I m1 NZ (i64.wrap (PM+1)) N5)) (
    R (.tuple #[(.int .u32 NZ),(.int .i64 0)]) Ol)))
def B0:Ann:=(.node none .leaf (.node none (.node none (.node (some ⟨[(16,.one (.bool))],[7,8,9,10,11,12,13,14,15,16]⟩) .leaf .leaf) .leaf) (.node none (.node none (.node (some ⟨[(24,.one (.bool))],[17,18,19,20,21,22,23,24]⟩) .leaf .leaf) .leaf) (.node none .leaf (.node none (.node none .leaf (.node none (.node (some ⟨[(4,.one (.int .u32)),(43,.one (.int .i64))],[4,6,43,44,45,46,47,48,49,50,51,52,53]⟩) .leaf .leaf) .leaf)) .leaf)))))
theorem WSecond_eq(ma:Bool)(mb:Int)(mc:Bool)(md:Bool)(R:aB)(w:World):tz ma mb mc md R w=vcF prog aM [4] Tryz.f133 B0 [(.agg #[(.bool ma),(.int .i64 mb),(.bool mc),(.bool md)])] R none w:=by kernel_rfl
theorem uf(ma:Bool)(mb:Int)(mc:Bool)(md:Bool) {R:aB} {w:World}(h:tz ma mb mc md R w):Calls prog 133 #[(.agg #[(.bool ma),(.int .i64 mb),(.bool mc),(.bool md)])] w fun e w'=>∃v,e= .returned v∧R v w':=
 ak Tryz.func133 aw aa ((WSecond_eq ma mb mc md R w).mp h)
end
section
set_option maxRecDepth 100000
def ij(x:Int)(k:Int)(R:aB)(w:World):Prop:=
 ∀s:Int,s=(u64.wrap (BitVec.ofInt u64.bits (u64.wrap k) &&& BitVec.ofInt u64.bits 31).toNat)→
 kt s fun On=>
 kt (u64.wrap (32 - s)) fun Tu=>
 R (.int .u32 (u32.wrap (BitVec.ofInt u32.bits (u32.wrap ((x:Int)*2 ^ (min On u32.bits))) ||| BitVec.ofInt u32.bits ((x:Int).fdiv (2 ^ (min Tu u32.bits)))).toNat)) w
def mS:Ann:= .leaf
theorem BitsRotateLeft32_eq(x:Int)(k:Int)(R:aB)(w:World):ij x k R w=vcF prog aM [5] Tryz.f200 mS [(.int .u32 x),(.int .i64 k)] R none w:=by kernel_rfl
theorem kW(x:Int)(k:Int) {R:aB} {w:World}(h:ij x k R w):Calls prog 200 #[(.int .u32 x),(.int .i64 k)] w fun e w'=>∃v,e= .returned v∧R v w':=
 ak Tryz.func200 aw aa ((BitsRotateLeft32_eq x k R w).mp h)
def vp(wv:Int)(n:Int)(R:aB)(w:World):Prop:=
 Calls prog 200 #[(.int .u32 wv),(.int .i64 (i64.wrap (0 - n)))] w fun e ND=>
 ∃x8:Int,e= .returned (.int .u32 x8)∧
 R (.int .u32 x8) ND
def EY:Ann:= .leaf
theorem SRight_eq(wv:Int)(n:Int)(R:aB)(w:World):vp wv n R w=vcF prog aM [] Tryz.f193 EY [(.int .u32 wv),(.int .i64 n)] R none w:=by kernel_rfl
theorem wS(wv:Int)(n:Int) {R:aB} {w:World}(h:vp wv n R w):Calls prog 193 #[(.int .u32 wv),(.int .i64 n)] w fun e w'=>∃v,e= .returned v∧R v w':=
 ak Tryz.func193 aw aa ((SRight_eq wv n R w).mp h)
def oV(blocka:Int)(blockb:Int)(blockc:Int)(blockd:Int)(blocke:Int)(blockf:Int)(blockg:Int)(blockh:Int)(blocki:Int)(blockj:Int)(blockk:Int)(blockl:Int)(blockm:Int)(blockn:Int)(blocko:Int)(blockp:Int)(R:aB)(w:World):Prop:=
 ∀(gv:Nat)(wv:World),gv=w.heap.size→wv=w.alloc (.cells #[(.int .u32 blocka),(.int .u32 blockb),(.int .u32 blockc),(.int .u32 blockd),(.int .u32 blocke),(.int .u32 blockf),(.int .u32 blockg),(.int .u32 blockh),(.int .u32 blocki),(.int .u32 blockj),(.int .u32 blockk),(.int .u32 blockl),(.int .u32 blockm),(.int .u32 blockn),(.int .u32 blocko),(.int .u32 blockp)] 262)→
 ∀(NJ:Nat)(ND:World),NJ=wv.heap.size→ND=wv.alloc (.cells (Array.replicate 64 (.int .u32 0)) 287)→
 ∀(OB:Nat)(NF:World),OB=ND.heap.size→NF=ND.alloc (.cells (Array.replicate 64 (.int .u32 0)) 287)→
 ∃b:Nat→Nat→Prop,
 ∀U1:Option Addr,U1=(some (if 64=0 then Addr.mk OB 0 none else(Addr.mk OB 0 none).add (0*1)))→∀TF:Nat,TF=64 - 0→∀U0:Nat,U0=64 - 0→
 ∀Wr:Option Addr,Wr=(some (if 16=0 then Addr.mk gv 0 none else(Addr.mk gv 0 none).add (0*1)))→∀Wp:Nat,Wp=16 - 0→∀Wq:Nat,Wq=16 - 0→
 ∃x9:Int,∃NI,(Builtin.copy_ #[62,62] 3 #[(.slice U1 TF U0),(.slice Wr Wp Wq)]:Sem Value).run prog NF.drew= .ok (.int .i64 x9) NI∧
 ∃b1:Nat→Nat→Prop,(∀i k,b i k→b1 i k)∧
 ∀t:Int,t=16→
 ∃I:Nat→Int→World→Prop,(∃m,I m t NI)∧∀(m:Nat)(Ry:Nat→Value)(t1:Int),∀NM,I m t1 NM→
 split (decide ((t1:Int)<64)) (
  (0≤(i64.wrap (t1 - 15):Int)∧(i64.wrap (t1 - 15):Int)<((64:Nat):Int))∧
  ∃OY:Int,NM.drew.cell? ((Addr.mk OB 0 none).add (Int.toNat (i64.wrap (t1 - 15))*1))=some (.int .u32 OY)∧
  (0≤(i64.wrap (t1 - 2):Int)∧(i64.wrap (t1 - 2):Int)<((64:Nat):Int))∧
  ∃Pt:Int,NM.drew.cell? ((Addr.mk OB 0 none).add (Int.toNat (i64.wrap (t1 - 2))*1))=some (.int .u32 Pt)∧
  ∃b2:Nat→Nat→Prop,
  (0≤(i64.wrap (t1 - 16):Int)∧(i64.wrap (t1 - 16):Int)<((64:Nat):Int))∧
  b2 4 (((Addr.mk OB 0 none).add (Int.toNat (i64.wrap (t1 - 16))*1)).block)∧
  ∃PX:Int,NM.drew.drew.cell? ((Addr.mk OB 0 none).add (Int.toNat (i64.wrap (t1 - 16))*1))=some (.int .u32 PX)∧
  (0≤(i64.wrap (t1 - 7):Int)∧(i64.wrap (t1 - 7):Int)<((64:Nat):Int))∧
  b2 17 (((Addr.mk OB 0 none).add (Int.toNat (i64.wrap (t1 - 7))*1)).block)∧
  ∃OF:Int,NM.drew.drew.cell? ((Addr.mk OB 0 none).add (Int.toNat (i64.wrap (t1 - 7))*1))=some (.int .u32 OF)∧
  Calls prog 193 #[(.int .u32 OY),(.int .i64 7)] NM.drew.drew fun e NZ=>
  ∃QE:Int,e= .returned (.int .u32 QE)∧
  Kept (cg b2 [0,1,2,3,4,7,10,11,14,15,16,17,19,21,24,25]) NM.drew.drew NZ∧∃b3:Nat→Nat→Prop,(∀i k,b2 i k→b3 i k)∧
  Calls prog 193 #[(.int .u32 OY),(.int .i64 18)] NZ fun e Ol=>
  ∃Om:Int,e= .returned (.int .u32 Om)∧
  Kept (cg b3 [0,1,2,3,4,10,11,14,15,16,17,19,21,24,25]) NZ Ol∧∃b4:Nat→Nat→Prop,(∀i k,b3 i k→b4 i k)∧
  Calls prog 193 #[(.int .u32 Pt),(.int .i64 17)] Ol fun e N8=>
  ∃Q9:Int,e= .returned (.int .u32 Q9)∧
  Kept (cg b4 [0,1,2,3,4,9,10,11,12,13,14,15,16,17,18,21,24,25]) Ol N8∧∃b5:Nat→Nat→Prop,(∀i k,b4 i k→b5 i k)∧
  Calls prog 193 #[(.int .u32 Pt),(.int .i64 19)] N8 fun e N5=>
  ∃x44:Int,e= .returned (.int .u32 x44)∧
  Kept (cg b5 [0,1,2,3,4,5,9,10,11,12,13,14,15,16,17,18,24,25]) N8 N5∧∃b6:Nat→Nat→Prop,(∀i k,b5 i k→b6 i k)∧
  (0≤(t1:Int)∧(t1:Int)<((64:Nat):Int))∧
  aF N5 ((Addr.mk OB 0 none).add (Int.toNat t1*1)) [(.int .u32 (u32.wrap ((u32.wrap ((u32.wrap (PX+(u32.wrap (BitVec.ofInt u32.bits (u32.wrap (BitVec.ofInt u32.bits QE ^^^ BitVec.ofInt u32.bits Om).toNat) ^^^ BitVec.ofInt u32.bits ((OY:Int).fdiv (2 ^ 3))).toNat)))+OF))+(u32.wrap (BitVec.ofInt u32.bits (u32.wrap (BitVec.ofInt u32.bits Q9 ^^^ BitVec.ofInt u32.bits x44).toNat) ^^^ BitVec.ofInt u32.bits ((Pt:Int).fdiv (2 ^ 10))).toNat))))] fun Ph=>
  ∃b7:Nat→Nat→Prop,(∀i k,b6 i k→b7 i k)∧
  ∀t2:Int,t2=(i64.wrap (t1+1))→
  ∃m1,m1<m∧I m1 t2 Ph) (
  ∃Uj:Array Value,(Uj.size=64∧∀i u,Uj[i]? =some u→NM.cell? ((Addr.mk OB 0 none).add i)=some u)∧
  Uj.size=64∧(∀v∈Uj.toList,one? v True)∧
  aF NM (Addr.mk NJ 0 none) Uj.toList fun NZ=>
  ∃r0:Array Value,(r0.size=64∧∀i u,r0[i]? =some u→NZ.cell? ((Addr.mk NJ 0 none).add i)=some u)∧
  R (.agg r0) NZ)
def wQ:Ann:=(.node none .leaf (.node none .leaf (.node none .leaf (.node none (.node none .leaf (.node none (.node (some ⟨[(4,.one (.int .i64))],[4,5,6,10,11,12,13,14,15,16,17,18,19,20,21,22,23,24,25,26,27,28,29,30,31,32,33,34,35,36,37,38,39,40,41,42,43,44,45,46,47,48,49,50]⟩) .leaf .leaf) .leaf)) .leaf))))
theorem SSchedule_eq(blocka:Int)(blockb:Int)(blockc:Int)(blockd:Int)(blocke:Int)(blockf:Int)(blockg:Int)(blockh:Int)(blocki:Int)(blockj:Int)(blockk:Int)(blockl:Int)(blockm:Int)(blockn:Int)(blocko:Int)(blockp:Int)(R:aB)(w:World):oV blocka blockb blockc blockd blocke blockf blockg blockh blocki blockj blockk blockl blockm blockn blocko blockp R w=vcF prog aM [4] Tryz.f192 wQ [(.agg #[(.int .u32 blocka),(.int .u32 blockb),(.int .u32 blockc),(.int .u32 blockd),(.int .u32 blocke),(.int .u32 blockf),(.int .u32 blockg),(.int .u32 blockh),(.int .u32 blocki),(.int .u32 blockj),(.int .u32 blockk),(.int .u32 blockl),(.int .u32 blockm),(.int .u32 blockn),(.int .u32 blocko),(.int .u32 blockp)])] R none w:=by kernel_rfl
theorem qV(blocka:Int)(blockb:Int)(blockc:Int)(blockd:Int)(blocke:Int)(blockf:Int)(blockg:Int)(blockh:Int)(blocki:Int)(blockj:Int)(blockk:Int)(blockl:Int)(blockm:Int)(blockn:Int)(blocko:Int)(blockp:Int) {R:aB} {w:World}(h:oV blocka blockb blockc blockd blocke blockf blockg blockh blocki blockj blockk blockl blockm blockn blocko blockp R w):Calls prog 192 #[(.agg #[(.int .u32 blocka),(.int .u32 blockb),(.int .u32 blockc),(.int .u32 blockd),(.int .u32 blocke),(.int .u32 blockf),(.int .u32 blockg),(.int .u32 blockh),(.int .u32 blocki),(.int .u32 blockj),(.int .u32 blockk),(.int .u32 blockl),(.int .u32 blockm),(.int .u32 blockn),(.int .u32 blocko),(.int .u32 blockp)])] w fun e w'=>∃v,e= .returned v∧R v w':=
 ak Tryz.func192 aw aa ((SSchedule_eq blocka blockb blockc blockd blocke blockf blockg blockh blocki blockj blockk blockl blockm blockn blocko blockp R w).mp h)
def vr(statea:Int)(stateb:Int)(statec:Int)(stated:Int)(statee:Int)(statef:Int)(stateg:Int)(stateh:Int)(blocka:Int)(blockb:Int)(blockc:Int)(blockd:Int)(blocke:Int)(blockf:Int)(blockg:Int)(blockh:Int)(blocki:Int)(blockj:Int)(blockk:Int)(blockl:Int)(blockm:Int)(blockn:Int)(blocko:Int)(blockp:Int)(R:aB)(w:World):Prop:=
 ∀(gv:Nat)(wv:World),gv=w.heap.size→wv=w.alloc (.cells #[(.int .u32 statea),(.int .u32 stateb),(.int .u32 statec),(.int .u32 stated),(.int .u32 statee),(.int .u32 statef),(.int .u32 stateg),(.int .u32 stateh)] 66)→
 ∀(NJ:Nat)(ND:World),NJ=wv.heap.size→ND=wv.alloc (.cells #[(.int .u32 blocka),(.int .u32 blockb),(.int .u32 blockc),(.int .u32 blockd),(.int .u32 blocke),(.int .u32 blockf),(.int .u32 blockg),(.int .u32 blockh),(.int .u32 blocki),(.int .u32 blockj),(.int .u32 blockk),(.int .u32 blockl),(.int .u32 blockm),(.int .u32 blockn),(.int .u32 blocko),(.int .u32 blockp)] 262)→
 ∀(OB:Nat)(NF:World),OB=ND.heap.size→NF=ND.alloc (.cells (#[(.int .u32 0),(.int .u32 0),(.int .u32 0),(.int .u32 0),(.int .u32 0),(.int .u32 0),(.int .u32 0),(.int .u32 0)]) 66)→
 ∃OU:Int,∃O2:Int,∃Rg:Int,∃Rf:Int,∃Re:Int,∃YP:Int,∃YO:Int,∃YN:Int,(NF.cell? ((Addr.mk gv 0 none).add 0)=some (.int .u32 OU)∧NF.cell? ((Addr.mk gv 0 none).add 1)=some (.int .u32 O2)∧NF.cell? ((Addr.mk gv 0 none).add 2)=some (.int .u32 Rg)∧NF.cell? ((Addr.mk gv 0 none).add 3)=some (.int .u32 Rf)∧NF.cell? ((Addr.mk gv 0 none).add 4)=some (.int .u32 Re)∧NF.cell? ((Addr.mk gv 0 none).add 5)=some (.int .u32 YP)∧NF.cell? ((Addr.mk gv 0 none).add 6)=some (.int .u32 YO)∧NF.cell? ((Addr.mk gv 0 none).add 7)=some (.int .u32 YN))∧
 ∀(NW:Nat)(NI:World),NW=NF.heap.size→NI=NF.alloc (.cells (#[(.int .u32 0),(.int .u32 0),(.int .u32 0),(.int .u32 0),(.int .u32 0),(.int .u32 0),(.int .u32 0),(.int .u32 0)]) 66)→
 aF NI (Addr.mk NW 0 none) [(.int .u32 OU),(.int .u32 O2),(.int .u32 Rg),(.int .u32 Rf),(.int .u32 Re),(.int .u32 YP),(.int .u32 YO),(.int .u32 YN)] fun NM=>
 ∃Rc:Int,∃QS:Int,∃SY:Int,∃SX:Int,∃SW:Int,∃YK:Int,∃YJ:Int,∃YI:Int,∃YH:Int,∃YG:Int,∃YF:Int,∃YE:Int,∃YD:Int,∃YC:Int,∃YB:Int,∃YA:Int,(NM.cell? ((Addr.mk NJ 0 none).add 0)=some (.int .u32 Rc)∧NM.cell? ((Addr.mk NJ 0 none).add 1)=some (.int .u32 QS)∧NM.cell? ((Addr.mk NJ 0 none).add 2)=some (.int .u32 SY)∧NM.cell? ((Addr.mk NJ 0 none).add 3)=some (.int .u32 SX)∧NM.cell? ((Addr.mk NJ 0 none).add 4)=some (.int .u32 SW)∧NM.cell? ((Addr.mk NJ 0 none).add 5)=some (.int .u32 YK)∧NM.cell? ((Addr.mk NJ 0 none).add 6)=some (.int .u32 YJ)∧NM.cell? ((Addr.mk NJ 0 none).add 7)=some (.int .u32 YI)∧NM.cell? ((Addr.mk NJ 0 none).add 8)=some (.int .u32 YH)∧NM.cell? ((Addr.mk NJ 0 none).add 9)=some (.int .u32 YG)∧NM.cell? ((Addr.mk NJ 0 none).add 10)=some (.int .u32 YF)∧NM.cell? ((Addr.mk NJ 0 none).add 11)=some (.int .u32 YE)∧NM.cell? ((Addr.mk NJ 0 none).add 12)=some (.int .u32 YD)∧NM.cell? ((Addr.mk NJ 0 none).add 13)=some (.int .u32 YC)∧NM.cell? ((Addr.mk NJ 0 none).add 14)=some (.int .u32 YB)∧NM.cell? ((Addr.mk NJ 0 none).add 15)=some (.int .u32 YA))∧
 Calls prog 192 #[(.agg #[(.int .u32 Rc),(.int .u32 QS),(.int .u32 SY),(.int .u32 SX),(.int .u32 SW),(.int .u32 YK),(.int .u32 YJ),(.int .u32 YI),(.int .u32 YH),(.int .u32 YG),(.int .u32 YF),(.int .u32 YE),(.int .u32 YD),(.int .u32 YC),(.int .u32 YB),(.int .u32 YA)])] NM fun e NZ=>
 ∃Oi:Array Value,e= .returned (.agg Oi)∧
 ∃I:Nat→Int→World→Prop,(∃m,I m 0 NZ)∧∀(m:Nat)(QD:Nat→Value)(Oy:Int),∀Ol,I m Oy Ol→
 split (decide ((Oy:Int)<64)) (
  (0≤(Oy:Int)∧(Oy:Int)<((64:Nat):Int))∧
  ∃N6:Int,Oi[Int.toNat Oy*1]? =some (.int .u32 N6)∧
  (0≤(0:Int)∧(0:Int)<((8:Nat):Int))∧
  ∃Pt:Int,Ol.drew.cell? ((Addr.mk NW 0 none).add (Int.toNat 0*1))=some (.int .u32 Pt)∧
  (0≤(4:Int)∧(4:Int)<((8:Nat):Int))∧
  ∃PA:Int,Ol.drew.cell? ((Addr.mk NW 0 none).add (Int.toNat 4*1))=some (.int .u32 PA)∧
  ∃b:Nat→Nat→Prop,
  (0≤(7:Int)∧(7:Int)<((8:Nat):Int))∧
  b 1 (((Addr.mk NW 0 none).add (Int.toNat 7*1)).block)∧
  ∃Ra:Int,Ol.drew.drew.cell? ((Addr.mk NW 0 none).add (Int.toNat 7*1))=some (.int .u32 Ra)∧
  (0≤(5:Int)∧(5:Int)<((8:Nat):Int))∧
  b 13 (((Addr.mk NW 0 none).add (Int.toNat 5*1)).block)∧
  ∃XM:Int,Ol.drew.drew.cell? ((Addr.mk NW 0 none).add (Int.toNat 5*1))=some (.int .u32 XM)∧
  (0≤(6:Int)∧(6:Int)<((8:Nat):Int))∧
  b 18 (((Addr.mk NW 0 none).add (Int.toNat 6*1)).block)∧
  ∃Q9:Int,Ol.drew.drew.cell? ((Addr.mk NW 0 none).add (Int.toNat 6*1))=some (.int .u32 Q9)∧
  (0≤(Oy:Int)∧(Oy:Int)<((64:Nat):Int))∧
  b 24 (((Addr.mk 0 0 none).add (Int.toNat Oy*1)).block)∧
  ∃Xg:Int,Ol.drew.drew.cell? ((Addr.mk 0 0 none).add (Int.toNat Oy*1))=some (.int .u32 Xg)∧
  Calls prog 193 #[(.int .u32 PA),(.int .i64 6)] Ol.drew.drew fun e N8=>
  ∃RX:Int,e= .returned (.int .u32 RX)∧
  Kept (cg b [0,1,4,7,11,12,13,14,15,16,17,18,19,20,22,23,24,26]) Ol.drew.drew N8∧∃b1:Nat→Nat→Prop,(∀i k,b i k→b1 i k)∧
  Calls prog 193 #[(.int .u32 PA),(.int .i64 11)] N8 fun e N5=>
  ∃P4:Int,e= .returned (.int .u32 P4)∧
  Kept (cg b1 [0,1,7,11,12,13,14,15,16,17,18,19,20,22,23,24,26]) N8 N5∧∃b2:Nat→Nat→Prop,(∀i k,b1 i k→b2 i k)∧
  Calls prog 193 #[(.int .u32 PA),(.int .i64 25)] N5 fun e Ph=>
  ∃Ps:Int,e= .returned (.int .u32 Ps)∧
  Kept (cg b2 [0,1,6,11,12,13,14,15,16,17,18,19,20,22,23,24,26]) N5 Ph∧∃b3:Nat→Nat→Prop,(∀i k,b2 i k→b3 i k)∧
  ∀t1:Int,t1=(u32.wrap ((u32.wrap ((u32.wrap ((u32.wrap (Ra+(u32.wrap (BitVec.ofInt u32.bits (u32.wrap (BitVec.ofInt u32.bits RX ^^^ BitVec.ofInt u32.bits P4).toNat) ^^^ BitVec.ofInt u32.bits Ps).toNat)))+(u32.wrap (BitVec.ofInt u32.bits (u32.wrap (BitVec.ofInt u32.bits PA &&& BitVec.ofInt u32.bits XM).toNat) ^^^ BitVec.ofInt u32.bits (u32.wrap (BitVec.ofInt u32.bits (u32.wrap (BitVec.ofInt u32.bits (if u32.signed then -1 else u32.max) ^^^ BitVec.ofInt u32.bits PA).toNat) &&& BitVec.ofInt u32.bits Q9).toNat)).toNat)))+Xg))+N6))→
  ∃b4:Nat→Nat→Prop,
  (0≤(1:Int)∧(1:Int)<((8:Nat):Int))∧
  b4 10 (((Addr.mk NW 0 none).add (Int.toNat 1*1)).block)∧
  ∃x62:Int,Ph.drew.cell? ((Addr.mk NW 0 none).add (Int.toNat 1*1))=some (.int .u32 x62)∧
  (0≤(2:Int)∧(2:Int)<((8:Nat):Int))∧
  b4 14 (((Addr.mk NW 0 none).add (Int.toNat 2*1)).block)∧
  ∃x66:Int,Ph.drew.cell? ((Addr.mk NW 0 none).add (Int.toNat 2*1))=some (.int .u32 x66)∧
  (0≤(1:Int)∧(1:Int)<((8:Nat):Int))∧
  b4 18 (((Addr.mk NW 0 none).add (Int.toNat 1*1)).block)∧
  ∃x70:Int,Ph.drew.cell? ((Addr.mk NW 0 none).add (Int.toNat 1*1))=some (.int .u32 x70)∧
  (0≤(2:Int)∧(2:Int)<((8:Nat):Int))∧
  b4 20 (((Addr.mk NW 0 none).add (Int.toNat 2*1)).block)∧
  ∃x72:Int,Ph.drew.cell? ((Addr.mk NW 0 none).add (Int.toNat 2*1))=some (.int .u32 x72)∧
  Calls prog 193 #[(.int .u32 Pt),(.int .i64 2)] Ph.drew fun e Ql=>
  ∃x53:Int,e= .returned (.int .u32 x53)∧
  Kept (cg b4 [2,5,8,9,10,11,12,13,14,15,16,17,18,19,20,21,22]) Ph.drew Ql∧∃b5:Nat→Nat→Prop,(∀i k,b4 i k→b5 i k)∧
  Calls prog 193 #[(.int .u32 Pt),(.int .i64 13)] Ql fun e QU=>
  ∃Ui:Int,e= .returned (.int .u32 Ui)∧
  Kept (cg b5 [5,8,9,10,11,12,13,14,15,16,17,18,19,20,21,22]) Ql QU∧∃b6:Nat→Nat→Prop,(∀i k,b5 i k→b6 i k)∧
  Calls prog 193 #[(.int .u32 Pt),(.int .i64 22)] QU fun e QC=>
  ∃x58:Int,e= .returned (.int .u32 x58)∧
  Kept (cg b6 [4,8,9,10,11,12,13,14,15,16,17,18,19,20,21,22]) QU QC∧∃b7:Nat→Nat→Prop,(∀i k,b6 i k→b7 i k)∧
  ∀t2:Int,t2=(u32.wrap ((u32.wrap (BitVec.ofInt u32.bits (u32.wrap (BitVec.ofInt u32.bits x53 ^^^ BitVec.ofInt u32.bits Ui).toNat) ^^^ BitVec.ofInt u32.bits x58).toNat)+(u32.wrap (BitVec.ofInt u32.bits (u32.wrap (BitVec.ofInt u32.bits (u32.wrap (BitVec.ofInt u32.bits Pt &&& BitVec.ofInt u32.bits x62).toNat) ^^^ BitVec.ofInt u32.bits (u32.wrap (BitVec.ofInt u32.bits Pt &&& BitVec.ofInt u32.bits x66).toNat)).toNat) ^^^ BitVec.ofInt u32.bits (u32.wrap (BitVec.ofInt u32.bits x70 &&& BitVec.ofInt u32.bits x72).toNat)).toNat)))→
  (0≤(0:Int)∧(0:Int)<((8:Nat):Int))∧
  ∃x80:Int,QC.cell? ((Addr.mk NW 0 none).add (Int.toNat 0*1))=some (.int .u32 x80)∧
  (0≤(1:Int)∧(1:Int)<((8:Nat):Int))∧
  ∃Ws:Int,QC.cell? ((Addr.mk NW 0 none).add (Int.toNat 1*1))=some (.int .u32 Ws)∧
  (0≤(2:Int)∧(2:Int)<((8:Nat):Int))∧
  ∃x84:Int,QC.cell? ((Addr.mk NW 0 none).add (Int.toNat 2*1))=some (.int .u32 x84)∧
  (0≤(3:Int)∧(3:Int)<((8:Nat):Int))∧
  ∃x86:Int,QC.cell? ((Addr.mk NW 0 none).add (Int.toNat 3*1))=some (.int .u32 x86)∧
  (0≤(4:Int)∧(4:Int)<((8:Nat):Int))∧
  ∃x90:Int,QC.cell? ((Addr.mk NW 0 none).add (Int.toNat 4*1))=some (.int .u32 x90)∧
  (0≤(5:Int)∧(5:Int)<((8:Nat):Int))∧
  ∃x92:Int,QC.cell? ((Addr.mk NW 0 none).add (Int.toNat 5*1))=some (.int .u32 x92)∧
  (0≤(6:Int)∧(6:Int)<((8:Nat):Int))∧
  ∃x94:Int,QC.cell? ((Addr.mk NW 0 none).add (Int.toNat 6*1))=some (.int .u32 x94)∧
  aF QC (Addr.mk NW 0 none) [(.int .u32 (u32.wrap (t1+t2))),(.int .u32 x80),(.int .u32 Ws),(.int .u32 x84),(.int .u32 (u32.wrap (x86+t1))),(.int .u32 x90),(.int .u32 x92),(.int .u32 x94)] fun YY=>
  ∃m1,m1<m∧I m1 (i64.wrap (Oy+1)) YY) (
  ∃I1:Nat→Int→World→Prop,(∃m2,I1 m2 0 Ol)∧∀(m2:Nat)(ab3:Nat→Value)(P3:Int),∀N8,I1 m2 P3 N8→
  split (decide ((P3:Int)<8)) (
   ∃b:Nat→Nat→Prop,
   (0≤(P3:Int)∧(P3:Int)<((8:Nat):Int))∧
   b 2 (((Addr.mk NW 0 none).add (Int.toNat P3*1)).block)∧
   ∃YX:Int,N8.drew.cell? ((Addr.mk NW 0 none).add (Int.toNat P3*1))=some (.int .u32 YX)∧
   (0≤(P3:Int)∧(P3:Int)<((8:Nat):Int))∧
   b 5 (((Addr.mk gv 0 none).add (Int.toNat P3*1)).block)∧
   ∃YW:Int,N8.drew.cell? ((Addr.mk gv 0 none).add (Int.toNat P3*1))=some (.int .u32 YW)∧
   (0≤(P3:Int)∧(P3:Int)<((8:Nat):Int))∧
   aF N8.drew ((Addr.mk NW 0 none).add (Int.toNat P3*1)) [(.int .u32 (u32.wrap (YX+YW)))] fun N5=>
   ∃b1:Nat→Nat→Prop,(∀i k,b i k→b1 i k)∧
   ∃m3,m3<m2∧I1 m3 (i64.wrap (P3+1)) N5) (
   ∃Us:Int,∃Ur:Int,∃Uq:Int,∃Up:Int,∃Uo:Int,∃Um:Int,∃Ul:Int,∃Uk:Int,(N8.cell? ((Addr.mk NW 0 none).add 0)=some (.int .u32 Us)∧N8.cell? ((Addr.mk NW 0 none).add 1)=some (.int .u32 Ur)∧N8.cell? ((Addr.mk NW 0 none).add 2)=some (.int .u32 Uq)∧N8.cell? ((Addr.mk NW 0 none).add 3)=some (.int .u32 Up)∧N8.cell? ((Addr.mk NW 0 none).add 4)=some (.int .u32 Uo)∧N8.cell? ((Addr.mk NW 0 none).add 5)=some (.int .u32 Um)∧N8.cell? ((Addr.mk NW 0 none).add 6)=some (.int .u32 Ul)∧N8.cell? ((Addr.mk NW 0 none).add 7)=some (.int .u32 Uk))∧
   aF N8 (Addr.mk OB 0 none) [(.int .u32 Us),(.int .u32 Ur),(.int .u32 Uq),(.int .u32 Up),(.int .u32 Uo),(.int .u32 Um),(.int .u32 Ul),(.int .u32 Uk)] fun N5=>
   ∃Rk:Int,∃Rj:Int,∃R1:Int,∃R0:Int,∃RZ:Int,∃Y3:Int,∃Y1:Int,∃Y0:Int,(N5.cell? ((Addr.mk OB 0 none).add 0)=some (.int .u32 Rk)∧N5.cell? ((Addr.mk OB 0 none).add 1)=some (.int .u32 Rj)∧N5.cell? ((Addr.mk OB 0 none).add 2)=some (.int .u32 R1)∧N5.cell? ((Addr.mk OB 0 none).add 3)=some (.int .u32 R0)∧N5.cell? ((Addr.mk OB 0 none).add 4)=some (.int .u32 RZ)∧N5.cell? ((Addr.mk OB 0 none).add 5)=some (.int .u32 Y3)∧N5.cell? ((Addr.mk OB 0 none).add 6)=some (.int .u32 Y1)∧N5.cell? ((Addr.mk OB 0 none).add 7)=some (.int .u32 Y0))∧
   R (.agg #[(.int .u32 Rk),(.int .u32 Rj),(.int .u32 R1),(.int .u32 R0),(.int .u32 RZ),(.int .u32 Y3),(.int .u32 Y1),(.int .u32 Y0)]) N5))
def E0:Ann:=(.node none .leaf (.node none .leaf (.node none (.node none .leaf (.node none (.node (some ⟨[(16,.one (.int .i64))],[6,7,8,9,10,11,16,17,18,19,20,21,22,23,24,25,26,27,28,29,30,31,32,33,34,35,36,37,38,39,40,41,42,43,44,45,46,47,48,49,50,51,52,53,54,55,56,57,58,59,60,61,62,63,64,65,66,67,68,69,70,71,72,73,74,75,76,77,78,79,80,81,82,83,84,85,86,87,88,89,90,91,92,93,94,95,96]⟩) .leaf .leaf) .leaf)) (.node none (.node none .leaf (.node none (.node (some ⟨[(97,.one (.int .i64))],[12,97,98,99,100,101,102,103,104,105,106,107,108]⟩) .leaf .leaf) .leaf)) .leaf))))
theorem SBlock_eq(statea:Int)(stateb:Int)(statec:Int)(stated:Int)(statee:Int)(statef:Int)(stateg:Int)(stateh:Int)(blocka:Int)(blockb:Int)(blockc:Int)(blockd:Int)(blocke:Int)(blockf:Int)(blockg:Int)(blockh:Int)(blocki:Int)(blockj:Int)(blockk:Int)(blockl:Int)(blockm:Int)(blockn:Int)(blocko:Int)(blockp:Int)(R:aB)(w:World):vr statea stateb statec stated statee statef stateg stateh blocka blockb blockc blockd blocke blockf blockg blockh blocki blockj blockk blockl blockm blockn blocko blockp R w=vcF prog aM [10,11] Tryz.f175 E0 [(.agg #[(.int .u32 statea),(.int .u32 stateb),(.int .u32 statec),(.int .u32 stated),(.int .u32 statee),(.int .u32 statef),(.int .u32 stateg),(.int .u32 stateh)]),(.agg #[(.int .u32 blocka),(.int .u32 blockb),(.int .u32 blockc),(.int .u32 blockd),(.int .u32 blocke),(.int .u32 blockf),(.int .u32 blockg),(.int .u32 blockh),(.int .u32 blocki),(.int .u32 blockj),(.int .u32 blockk),(.int .u32 blockl),(.int .u32 blockm),(.int .u32 blockn),(.int .u32 blocko),(.int .u32 blockp)])] R none w:=by kernel_rfl
theorem wV(statea:Int)(stateb:Int)(statec:Int)(stated:Int)(statee:Int)(statef:Int)(stateg:Int)(stateh:Int)(blocka:Int)(blockb:Int)(blockc:Int)(blockd:Int)(blocke:Int)(blockf:Int)(blockg:Int)(blockh:Int)(blocki:Int)(blockj:Int)(blockk:Int)(blockl:Int)(blockm:Int)(blockn:Int)(blocko:Int)(blockp:Int) {R:aB} {w:World}(h:vr statea stateb statec stated statee statef stateg stateh blocka blockb blockc blockd blocke blockf blockg blockh blocki blockj blockk blockl blockm blockn blocko blockp R w):Calls prog 175 #[(.agg #[(.int .u32 statea),(.int .u32 stateb),(.int .u32 statec),(.int .u32 stated),(.int .u32 statee),(.int .u32 statef),(.int .u32 stateg),(.int .u32 stateh)]),(.agg #[(.int .u32 blocka),(.int .u32 blockb),(.int .u32 blockc),(.int .u32 blockd),(.int .u32 blocke),(.int .u32 blockf),(.int .u32 blockg),(.int .u32 blockh),(.int .u32 blocki),(.int .u32 blockj),(.int .u32 blockk),(.int .u32 blockl),(.int .u32 blockm),(.int .u32 blockn),(.int .u32 blocko),(.int .u32 blockp)])] w fun e w'=>∃v,e= .returned v∧R v w':=
 ak Tryz.func175 aw aa ((SBlock_eq statea stateb statec stated statee statef stateg stateh blocka blockb blockc blockd blocke blockf blockg blockh blocki blockj blockk blockl blockm blockn blocko blockp R w).mp h)
def vq(R:aB)(w:World):Prop:=
 ∀(gv:Nat)(wv:World),gv=w.heap.size→wv=w.alloc (.cells (#[(.int .u32 0),(.int .u32 0),(.int .u32 0),(.int .u32 0),(.int .u32 0),(.int .u32 0),(.int .u32 0),(.int .u32 0)]) 66)→
 aF wv (Addr.mk gv 0 none) [(.int .u32 1779033703),(.int .u32 3144134277),(.int .u32 1013904242),(.int .u32 2773480762),(.int .u32 1359893119),(.int .u32 2600822924),(.int .u32 528734635),(.int .u32 1541459225)] fun ND=>
 ∃Rk:Int,∃Rj:Int,∃R1:Int,∃R0:Int,∃RZ:Int,∃Y3:Int,∃Y1:Int,∃Y0:Int,(ND.cell? ((Addr.mk gv 0 none).add 0)=some (.int .u32 Rk)∧ND.cell? ((Addr.mk gv 0 none).add 1)=some (.int .u32 Rj)∧ND.cell? ((Addr.mk gv 0 none).add 2)=some (.int .u32 R1)∧ND.cell? ((Addr.mk gv 0 none).add 3)=some (.int .u32 R0)∧ND.cell? ((Addr.mk gv 0 none).add 4)=some (.int .u32 RZ)∧ND.cell? ((Addr.mk gv 0 none).add 5)=some (.int .u32 Y3)∧ND.cell? ((Addr.mk gv 0 none).add 6)=some (.int .u32 Y1)∧ND.cell? ((Addr.mk gv 0 none).add 7)=some (.int .u32 Y0))∧
 R (.agg #[(.int .u32 Rk),(.int .u32 Rj),(.int .u32 R1),(.int .u32 R0),(.int .u32 RZ),(.int .u32 Y3),(.int .u32 Y1),(.int .u32 Y0)]) ND
def EZ:Ann:= .leaf
theorem SFirst_eq(R:aB)(w:World):vq R w=vcF prog aM [] Tryz.f137 EZ [] R none w:=by kernel_rfl
theorem wU {R:aB} {w:World}(h:vq R w):Calls prog 137 #[] w fun e w'=>∃v,e= .returned v∧R v w':=
 ak Tryz.func137 aw aa ((SFirst_eq R w).mp h)
end
section
set_option maxRecDepth 100000
def DA(R:aB)(w:World):Prop:=
 Calls prog 137 #[] w fun e wv=>
 ∃x1a:Int,∃x1b:Int,∃x1c:Int,∃x1d:Int,∃x1e:Int,∃x1f:Int,∃x1g:Int,∃x1h:Int,e= .returned (.agg #[(.int .u32 x1a),(.int .u32 x1b),(.int .u32 x1c),(.int .u32 x1d),(.int .u32 x1e),(.int .u32 x1f),(.int .u32 x1g),(.int .u32 x1h)])∧
 ∀(gv:Nat)(ND:World),gv=wv.heap.size→ND=wv.alloc (.cells #[(.int .u32 x1a),(.int .u32 x1b),(.int .u32 x1c),(.int .u32 x1d),(.int .u32 x1e),(.int .u32 x1f),(.int .u32 x1g),(.int .u32 x1h),(.int .i64 0),(.slice none 0 0)] 228)→
 R (.pointer (some (Addr.mk gv 0 none))) ND
def Kb:Ann:= .leaf
theorem SNew_eq(R:aB)(w:World):DA R w=vcF prog aM [] Tryz.f125 Kb [] R none w:=by kernel_rfl
theorem B4 {R:aB} {w:World}(h:DA R w):Calls prog 125 #[] w fun e w'=>∃v,e= .returned v∧R v w':=
 ak Tryz.func125 aw aa ((SNew_eq R w).mp h)
def DC(d:Option Addr)(wordsA:Option Addr)(wordsN:Nat)(wordsC:Nat)(R:aB)(w:World):Prop:=
 aA d fun p8=>
 ∃NT:Int,w.cell? (p8.add 8)=some (.int .i64 NT)∧
 split (decide ((((wordsN:Nat):Int):Int)>(i64.wrap (36028797018963968 - NT)))) (
  R (.tuple #[]) w) (
  aA d fun Tx=>
  ∃Oy:Int,w.cell? (Tx.add 8)=some (.int .i64 Oy)∧
  aA d fun p20=>
  aF w (p20.add 8) [(.int .i64 (i64.wrap (Oy+((wordsN:Nat):Int))))] fun wv=>
  ∃b:Nat→Nat→Prop,
  aA d fun V1=>
  b 3 ((V1.add 9).block)∧
  ∃Va:Option Addr,∃aaQ:Nat,∃Yb:Nat,wv.drew.cell? (V1.add 9)=some (.slice Va aaQ Yb)∧
  aA d fun p27=>
  b 7 ((p27.add 9).block)∧
  ∃aaP:Option Addr,∃TL:Nat,∃aaO:Nat,wv.drew.cell? (p27.add 9)=some (.slice aaP TL aaO)∧
  aA d fun p32=>
  b 12 ((p32.add 9).block)∧
  ∃TK:Option Addr,∃QL:Nat,∃TJ:Nat,wv.drew.cell? (p32.add 9)=some (.slice TK QL TJ)∧
  (0≤(((QL:Nat):Int):Int)∧(((QL:Nat):Int):Int)≤((Yb:Nat):Int))∧
  (0≤(((TL:Nat):Int):Int)∧(((TL:Nat):Int):Int)≤((Int.toNat ((QL:Nat):Int):Nat):Int))∧
  ∀U9:Option Addr,U9=(if(Int.toNat ((QL:Nat):Int))=0 then Va else(Va:Option Addr).map (·.add (0*1)))→∀U6:Nat,U6=(Int.toNat ((TL:Nat):Int)) - 0→∀U7:Nat,U7=(Int.toNat ((QL:Nat):Int)) - 0→
  ∃XJ:Option Addr,∃XG:Nat,∃XH:Nat,∃ND,(Builtin.append_ #[62,62] 62 #[(.slice U9 U6 U7),(.slice wordsA wordsN wordsC)]:Sem Value).run prog wv.drew= .ok (.slice XJ XG XH) ND∧
  Kept (cg b [0,1,4,5,6,9,10,11]) wv.drew ND∧∃b1:Nat→Nat→Prop,(∀i k,b i k→b1 i k)∧
  ∃I:Nat→Option Addr→Nat→Nat→World→Prop,(∃m,I m XJ XG XH ND)∧∀(m:Nat)(Pw:Nat→Value)(leftA:Option Addr)(leftN:Nat)(leftC:Nat),∀NF,I m leftA leftN leftC NF→
  split (decide ((((leftN:Nat):Int):Int)≥16)) (
   ∃b2:Nat→Nat→Prop,
   aA d fun TU=>
   b2 4 ((TU.add 0).block)∧
   ∃Xf:Int,∃Xe:Int,∃Xd:Int,∃Xc:Int,∃Xb:Int,∃Xa:Int,∃W9:Int,∃W8:Int,(NF.drew.cell? ((TU.add 0).add 0)=some (.int .u32 Xf)∧NF.drew.cell? ((TU.add 0).add 1)=some (.int .u32 Xe)∧NF.drew.cell? ((TU.add 0).add 2)=some (.int .u32 Xd)∧NF.drew.cell? ((TU.add 0).add 3)=some (.int .u32 Xc)∧NF.drew.cell? ((TU.add 0).add 4)=some (.int .u32 Xb)∧NF.drew.cell? ((TU.add 0).add 5)=some (.int .u32 Xa)∧NF.drew.cell? ((TU.add 0).add 6)=some (.int .u32 W9)∧NF.drew.cell? ((TU.add 0).add 7)=some (.int .u32 W8))∧
   16≤leftN∧
   aA leftA fun Rl=>
   b2 7 (Rl.block)∧
   ∃W7:Int,∃W6:Int,∃W5:Int,∃W4:Int,∃W3:Int,∃W2:Int,∃WZ:Int,∃WY:Int,∃WX:Int,∃WW:Int,∃WV:Int,∃WU:Int,∃WT:Int,∃WS:Int,∃WR:Int,∃WQ:Int,(NF.drew.cell? (Rl.add 0)=some (.int .u32 W7)∧NF.drew.cell? (Rl.add 1)=some (.int .u32 W6)∧NF.drew.cell? (Rl.add 2)=some (.int .u32 W5)∧NF.drew.cell? (Rl.add 3)=some (.int .u32 W4)∧NF.drew.cell? (Rl.add 4)=some (.int .u32 W3)∧NF.drew.cell? (Rl.add 5)=some (.int .u32 W2)∧NF.drew.cell? (Rl.add 6)=some (.int .u32 WZ)∧NF.drew.cell? (Rl.add 7)=some (.int .u32 WY)∧NF.drew.cell? (Rl.add 8)=some (.int .u32 WX)∧NF.drew.cell? (Rl.add 9)=some (.int .u32 WW)∧NF.drew.cell? (Rl.add 10)=some (.int .u32 WV)∧NF.drew.cell? (Rl.add 11)=some (.int .u32 WU)∧NF.drew.cell? (Rl.add 12)=some (.int .u32 WT)∧NF.drew.cell? (Rl.add 13)=some (.int .u32 WS)∧NF.drew.cell? (Rl.add 14)=some (.int .u32 WR)∧NF.drew.cell? (Rl.add 15)=some (.int .u32 WQ))∧
   Calls prog 175 #[(.agg #[(.int .u32 Xf),(.int .u32 Xe),(.int .u32 Xd),(.int .u32 Xc),(.int .u32 Xb),(.int .u32 Xa),(.int .u32 W9),(.int .u32 W8)]),(.agg #[(.int .u32 W7),(.int .u32 W6),(.int .u32 W5),(.int .u32 W4),(.int .u32 W3),(.int .u32 W2),(.int .u32 WZ),(.int .u32 WY),(.int .u32 WX),(.int .u32 WW),(.int .u32 WV),(.int .u32 WU),(.int .u32 WT),(.int .u32 WS),(.int .u32 WR),(.int .u32 WQ)])] NF.drew fun e NI=>
   ∃WO:Int,∃WN:Int,∃WM:Int,∃WL:Int,∃WK:Int,∃WJ:Int,∃WI:Int,∃WH:Int,e= .returned (.agg #[(.int .u32 WO),(.int .u32 WN),(.int .u32 WM),(.int .u32 WL),(.int .u32 WK),(.int .u32 WJ),(.int .u32 WI),(.int .u32 WH)])∧
   Kept (cg b2 [0,1]) NF.drew NI∧∃b3:Nat→Nat→Prop,(∀i k,b2 i k→b3 i k)∧
   aA d fun p53=>
   aF NI (p53.add 0) [(.int .u32 WO),(.int .u32 WN),(.int .u32 WM),(.int .u32 WL),(.int .u32 WK),(.int .u32 WJ),(.int .u32 WI),(.int .u32 WH)] fun NM=>
   ∃b4:Nat→Nat→Prop,(∀i k,b3 i k→b4 i k)∧
   (0≤(16:Int)∧(16:Int)≤((leftN:Nat):Int))∧
   ∀Sc:Option Addr,Sc=(if leftC=(Int.toNat 16)then leftA else(leftA:Option Addr).map (·.add ((Int.toNat 16)*1)))→∀Sa:Nat,Sa=leftN - (Int.toNat 16)→∀Sb:Nat,Sb=leftC - (Int.toNat 16)→
   ∃m1,m1<m∧I m1 Sc Sa Sb NM) (
   ∃SG:Option Addr,∃SF:Nat,∃TI:Nat,∃NI,(Builtin.append_ #[62,62] 62 #[(.slice none 0 0),(.slice leftA leftN leftC)]:Sem Value).run prog NF= .ok (.slice SG SF TI) NI∧
   aA d fun p58=>
   aF NI (p58.add 9) [(.slice SG SF TI)] fun NM=>
   R (.tuple #[]) NM))
def Kd:Ann:=(.node none .leaf (.node none .leaf (.node none .leaf (.node none (.node none (.node (some ⟨[(4,.one (.slice))],[4,39,40,41,42,43,44,45,46,47,48,49,50,51,52,53,54]⟩) .leaf .leaf) .leaf) .leaf))))
theorem SAdd_eq(d:Option Addr)(wordsA:Option Addr)(wordsN:Nat)(wordsC:Nat)(R:aB)(w:World):DC d wordsA wordsN wordsC R w=vcF prog aM [4] Tryz.f135 Kd [(.pointer d),(.slice wordsA wordsN wordsC)] R none w:=by kernel_rfl
theorem B6(d:Option Addr)(wordsA:Option Addr)(wordsN:Nat)(wordsC:Nat) {R:aB} {w:World}(h:DC d wordsA wordsN wordsC R w):Calls prog 135 #[(.pointer d),(.slice wordsA wordsN wordsC)] w fun e w'=>∃v,e= .returned v∧R v w':=
 ak Tryz.func135 aw aa ((SAdd_eq d wordsA wordsN wordsC R w).mp h)
def zI(d:Option Addr)(R:aB)(w:World):Prop:=
 ∀(gv:Nat)(wv:World),gv=w.heap.size→wv=w.alloc (.cells (Array.replicate 26 (.int .u32 0)) 69)→
 ∀(NJ:Nat)(ND:World),NJ=wv.heap.size→ND=wv.alloc (.cells (Array.replicate 26 (.int .u32 0)) 69)→
 ∃b:Nat→Nat→Prop,
 (0≤(8:Int)∧(8:Int)≤((26:Nat):Int))∧
 ∀x4A:Option Addr,x4A=(some (if 26=0 then Addr.mk NJ 0 none else(Addr.mk NJ 0 none).add (0*1)))→∀x4N:Nat,x4N=(Int.toNat 8) - 0→∀x4C:Nat,x4C=26 - 0→
 aA d fun p6=>
 ∀Wr:Option Addr,Wr=(some (if 8=0 then p6.add 0 else(p6.add 0).add (0*1)))→∀Wp:Nat,Wp=8 - 0→∀Wq:Nat,Wq=8 - 0→
 ∃x9:Int,∃NF,(Builtin.copy_ #[62,62] 3 #[(.slice x4A x4N x4C),(.slice Wr Wp Wq)]:Sem Value).run prog ND.drew= .ok (.int .i64 x9) NF∧
 Kept (cg b [1]) ND.drew NF∧∃b1:Nat→Nat→Prop,(∀i k,b i k→b1 i k)∧
 ∃b2:Nat→Nat→Prop,
 aA d fun p11=>
 b2 3 ((p11.add 8).block)∧
 ∃PT:Int,NF.drew.cell? (p11.add 8)=some (.int .i64 PT)∧
 aA d fun V2=>
 b2 10 ((V2.add 8).block)∧
 ∃OT:Int,NF.drew.cell? (V2.add 8)=some (.int .i64 OT)∧
 (0≤(8:Int)∧(8:Int)<((26:Nat):Int))∧
 aF NF.drew ((Addr.mk NJ 0 none).add (Int.toNat 8*1)) [(.int .u32 (u32.wrap ((u64.wrap PT:Int).fdiv (2 ^ 32))))] fun NI=>
 Kept (cg b2 [7,11]) NF.drew NI∧∃b3:Nat→Nat→Prop,(∀i k,b2 i k→b3 i k)∧
 (0≤(9:Int)∧(9:Int)<((26:Nat):Int))∧
 aF NI ((Addr.mk NJ 0 none).add (Int.toNat 9*1)) [(.int .u32 (u32.wrap OT))] fun NM=>
 ∃b4:Nat→Nat→Prop,(∀i k,b3 i k→b4 i k)∧
 ∃b5:Nat→Nat→Prop,
 (0≤(10:Int)∧(10:Int)≤((26:Nat):Int))∧
 ∀Qj:Option Addr,Qj=(some (if 26=(Int.toNat 10)then Addr.mk NJ 0 none else(Addr.mk NJ 0 none).add ((Int.toNat 10)*1)))→∀Qh:Nat,Qh=26 - (Int.toNat 10)→∀Qi:Nat,Qi=26 - (Int.toNat 10)→
 aA d fun Si=>
 b5 4 ((Si.add 9).block)∧
 ∃Qg:Option Addr,∃Qe:Nat,∃Qf:Nat,NM.drew.cell? (Si.add 9)=some (.slice Qg Qe Qf)∧
 ∃P4:Int,∃NZ,(Builtin.copy_ #[62,62] 3 #[(.slice Qj Qh Qi),(.slice Qg Qe Qf)]:Sem Value).run prog NM.drew= .ok (.int .i64 P4) NZ∧
 Kept (cg b5 [1]) NM.drew NZ∧∃b6:Nat→Nat→Prop,(∀i k,b5 i k→b6 i k)∧
 ∃Om:Array Value,(Om.size=26∧∀i u,Om[i]? =some u→NZ.cell? ((Addr.mk NJ 0 none).add i)=some u)∧
 Om.size=26∧(∀v∈Om.toList,one? v True)∧
 aF NZ (Addr.mk gv 0 none) Om.toList fun Ol=>
 ∃r0:Array Value,(r0.size=26∧∀i u,r0[i]? =some u→Ol.cell? ((Addr.mk gv 0 none).add i)=some u)∧
 R (.agg r0) Ol
def H4:Ann:= .leaf
theorem SSave_eq(d:Option Addr)(R:aB)(w:World):zI d R w=vcF prog aM [] Tryz.f126 H4 [(.pointer d)] R none w:=by kernel_rfl
theorem zJ(d:Option Addr) {R:aB} {w:World}(h:zI d R w):Calls prog 126 #[(.pointer d)] w fun e w'=>∃v,e= .returned v∧R v w':=
 ak Tryz.func126 aw aa ((SSave_eq d R w).mp h)
def zK(wordsA:Option Addr)(wordsN:Nat)(wordsC:Nat)(R:aB)(w:World):Prop:=
 split ((((wordsN:Nat):Int):Int) !=26) (
  R (.tuple #[(.pointer none),(.int .i64 20)]) w) (
  (0≤(8:Int)∧(8:Int)<((wordsN:Nat):Int))∧
  aA wordsA fun Y6=>
  ∃OS:Int,w.drew.cell? (Y6.add (Int.toNat 8*1))=some (.int .u32 OS)∧
  (0≤(9:Int)∧(9:Int)<((wordsN:Nat):Int))∧
  aA wordsA fun V2=>
  ∃N6:Int,w.drew.cell? (V2.add (Int.toNat 9*1))=some (.int .u32 N6)∧
  ∀n:Int,n=(u64.wrap (BitVec.ofInt u64.bits (u64.wrap ((u64.wrap OS:Int)*2 ^ 32)) ||| BitVec.ofInt u64.bits (u64.wrap N6)).toNat)→
  (0≤(8:Int)∧(8:Int)≤((wordsC:Nat):Int))∧
  (0≤(8:Int)∧(8:Int)≤((Int.toNat 8:Nat):Int))∧
  ∀QN:Option Addr,QN=(if(Int.toNat 8)=0 then wordsA else(wordsA:Option Addr).map (·.add (0*1)))→∀QM:Nat,QM=(Int.toNat 8) - 0→∀Rb:Nat,Rb=(Int.toNat 8) - 0→
  8≤QM∧
  aA QN fun Tw=>
  ∃SK:Int,∃TP:Int,∃TO:Int,∃TN:Int,∃TM:Int,∃Ya:Int,∃X9:Int,∃X8:Int,(w.drew.cell? (Tw.add 0)=some (.int .u32 SK)∧w.drew.cell? (Tw.add 1)=some (.int .u32 TP)∧w.drew.cell? (Tw.add 2)=some (.int .u32 TO)∧w.drew.cell? (Tw.add 3)=some (.int .u32 TN)∧w.drew.cell? (Tw.add 4)=some (.int .u32 TM)∧w.drew.cell? (Tw.add 5)=some (.int .u32 Ya)∧w.drew.cell? (Tw.add 6)=some (.int .u32 X9)∧w.drew.cell? (Tw.add 7)=some (.int .u32 X8))∧
  ∀(gv:Nat)(wv:World),gv=w.drew.heap.size→wv=w.drew.alloc (.cells #[(.int .u32 SK),(.int .u32 TP),(.int .u32 TO),(.int .u32 TN),(.int .u32 TM),(.int .u32 Ya),(.int .u32 X9),(.int .u32 X8),(.int .i64 (i64.wrap n)),(.slice none 0 0)] 228)→
  ∃J:Bool→World→Prop,(
   ∃b:Nat→Nat→Prop,
   split (decide ((n:Int)>36028797018963968)) (
    J true wv.drew) (
    split (decide ((n:Int)<16)) (
     b 9 (((Addr.mk gv 0 none).add 0).block)∧
     ∃XF:Int,∃XE:Int,∃XD:Int,∃XC:Int,∃XB:Int,∃XA:Int,∃Xz:Int,∃Xy:Int,(wv.drew.cell? (((Addr.mk gv 0 none).add 0).add 0)=some (.int .u32 XF)∧wv.drew.cell? (((Addr.mk gv 0 none).add 0).add 1)=some (.int .u32 XE)∧wv.drew.cell? (((Addr.mk gv 0 none).add 0).add 2)=some (.int .u32 XD)∧wv.drew.cell? (((Addr.mk gv 0 none).add 0).add 3)=some (.int .u32 XC)∧wv.drew.cell? (((Addr.mk gv 0 none).add 0).add 4)=some (.int .u32 XB)∧wv.drew.cell? (((Addr.mk gv 0 none).add 0).add 5)=some (.int .u32 XA)∧wv.drew.cell? (((Addr.mk gv 0 none).add 0).add 6)=some (.int .u32 Xz)∧wv.drew.cell? (((Addr.mk gv 0 none).add 0).add 7)=some (.int .u32 Xy))∧
     Calls prog 137 #[] wv.drew fun e ND=>
     ∃Xx:Int,∃Xw:Int,∃Xv:Int,∃Xu:Int,∃Xt:Int,∃Xr:Int,∃Xq:Int,∃Xp:Int,e= .returned (.agg #[(.int .u32 Xx),(.int .u32 Xw),(.int .u32 Xv),(.int .u32 Xu),(.int .u32 Xt),(.int .u32 Xr),(.int .u32 Xq),(.int .u32 Xp)])∧
     Kept (cg b [0,6,7,8,9]) wv.drew ND∧∃b1:Nat→Nat→Prop,(∀i k,b i k→b1 i k)∧
     J (!(bN #[(.int .u32 XF),(.int .u32 XE),(.int .u32 XD),(.int .u32 XC),(.int .u32 XB),(.int .u32 XA),(.int .u32 Xz),(.int .u32 Xy)] #[(.int .u32 Xx),(.int .u32 Xw),(.int .u32 Xv),(.int .u32 Xu),(.int .u32 Xt),(.int .u32 Xr),(.int .u32 Xq),(.int .u32 Xp)])) ND) (
     J false wv.drew)))∧∀(NU:Nat→Value)(PM:Bool),∀ND,J PM ND→
  split PM (
   R (.tuple #[(.pointer none),(.int .i64 20)]) ND) (
   ∀waits:Int,waits=(i64.wrap ((n:Int).tmod 16))→
   (0≤(i64.wrap (10+waits):Int)∧(i64.wrap (10+waits):Int)≤((wordsN:Nat):Int))∧
   ∀R8:Option Addr,R8=(if wordsC=(Int.toNat (i64.wrap (10+waits)))then wordsA else(wordsA:Option Addr).map (·.add ((Int.toNat (i64.wrap (10+waits)))*1)))→∀Qd:Nat,Qd=wordsN - (Int.toNat (i64.wrap (10+waits)))→∀SI:Nat,SI=wordsC - (Int.toNat (i64.wrap (10+waits)))→
   ∃I:Nat→Int→World→Prop,(∃m,I m 0 ND)∧∀(m:Nat)(OJ:Nat→Value)(Qy:Int),∀NF,I m Qy NF→
   split (decide ((Qy:Int)<((Qd:Nat):Int))) (
    (0≤(Qy:Int)∧(Qy:Int)<((Qd:Nat):Int))∧
    aA R8 fun p54=>
    ∃Ui:Int,NF.cell? (p54.add (Int.toNat Qy*1))=some (.int .u32 Ui)∧
    split ((Ui:Int) !=0) (
     R (.tuple #[(.pointer none),(.int .i64 20)]) NF) (
     ∃m1,m1<m∧I m1 (i64.wrap (Qy+1)) NF)) (
    (0≤(i64.wrap (10+waits):Int)∧(i64.wrap (10+waits):Int)≤((wordsC:Nat):Int))∧
    (0≤(i64.wrap (10+waits):Int)∧(i64.wrap (10+waits):Int)≤((Int.toNat (i64.wrap (10+waits)):Nat):Int))∧
    (0≤(10:Int)∧(10:Int)≤((Int.toNat (i64.wrap (10+waits)):Nat):Int))∧
    ∀TH:Option Addr,TH=(if(Int.toNat (i64.wrap (10+waits)))=(Int.toNat 10)then wordsA else(wordsA:Option Addr).map (·.add ((Int.toNat 10)*1)))→∀Q6:Nat,Q6=(Int.toNat (i64.wrap (10+waits))) - (Int.toNat 10)→∀TG:Nat,TG=(Int.toNat (i64.wrap (10+waits))) - (Int.toNat 10)→
    ∃Wz:Option Addr,∃Wx:Nat,∃Wy:Nat,∃NI,(Builtin.append_ #[62,62] 62 #[(.slice none 0 0),(.slice TH Q6 TG)]:Sem Value).run prog NF= .ok (.slice Wz Wx Wy) NI∧
    aF NI ((Addr.mk gv 0 none).add 9) [(.slice Wz Wx Wy)] fun NM=>
    R (.tuple #[(.pointer (some (Addr.mk gv 0 none))),(.int .i64 0)]) NM)))
def H5:Ann:=(.node none .leaf (.node none .leaf (.node none .leaf (.node none .leaf (.node none (.node none (.node (some ⟨[(43,.one (.bool))],[30,31,32,33,34,35,36,37,38,39,40,41,42,43]⟩) .leaf .leaf) .leaf) (.node none .leaf (.node none (.node none .leaf (.node none (.node (some ⟨[(52,.one (.int .i64))],[2,3,8,52,53,54,55,56,57,58]⟩) .leaf .leaf) .leaf)) .leaf)))))))
theorem SLoad_eq(wordsA:Option Addr)(wordsN:Nat)(wordsC:Nat)(R:aB)(w:World):zK wordsA wordsN wordsC R w=vcF prog aM [4,6] Tryz.f70 H5 [(.slice wordsA wordsN wordsC)] R none w:=by kernel_rfl
theorem zL(wordsA:Option Addr)(wordsN:Nat)(wordsC:Nat) {R:aB} {w:World}(h:zK wordsA wordsN wordsC R w):Calls prog 70 #[(.slice wordsA wordsN wordsC)] w fun e w'=>∃v,e= .returned v∧R v w':=
 ak Tryz.func70 aw aa ((SLoad_eq wordsA wordsN wordsC R w).mp h)
end
section
set_option maxRecDepth 100000
def DJ(m:Option Addr)(R:aB)(w:World):Prop:=
 split m.isNone (
  R (.pointer none) w) (
  Calls prog 54 #[(.pointer m)] w fun e wv=>
  ∃x7:Int,e= .returned (.int .i64 x7)∧
  ∃I:Nat→Int→World→Prop,(∃m1,I m1 0 wv)∧∀(m1:Nat)(Pw:Nat→Value)(x8:Int),∀ND,I m1 x8 ND→
  split (decide ((x8:Int)<x7)) (
   Calls prog 78 #[(.int .i64 x8)] ND fun e NF=>
   ∃OU:Bool,∃O2:Int,e= .returned (.agg #[(.bool OU),(.int .i64 O2)])∧
   Calls prog 77 #[(.pointer m),(.agg #[(.bool OU),(.int .i64 O2)])] NF fun e NI=>
   ∃OS:Int,e= .returned (.int .i64 OS)∧
   ∃m2,m2<m1∧I m2 (i64.wrap (x8+1)) NI) (
   Calls prog 54 #[(.pointer m)] ND fun e NF=>
   ∃Q2:Int,e= .returned (.int .i64 Q2)∧
   ∃SO:Option Addr,∃SL:Nat,∃SM:Nat,∃NI,(Instr.makeSlice 62 (.int .i64 (i64.wrap (2*Q2))) (.int .i64 (i64.wrap (2*Q2))):Sem Value).run prog NF= .ok (.slice SO SL SM) NI∧
   ∀(NJ:Nat)(NM:World),NJ=NI.heap.size→NM=NI.alloc (.cells #[(.pointer m),(.int .i64 0),(.slice SO SL SM)] 110)→
   R (.pointer (some (Addr.mk NJ 0 none))) NM))
def KE:Ann:=(.node none .leaf (.node none .leaf (.node none (.node none .leaf (.node none (.node (some ⟨[(8,.one (.int .i64))],[3,8,9,10,11,12,13,14,15]⟩) .leaf .leaf) .leaf)) .leaf)))
theorem DNew_eq(m:Option Addr)(R:aB)(w:World):DJ m R w=vcF prog aM [] Tryz.f29 KE [(.pointer m)] R none w:=by kernel_rfl
theorem Cq(m:Option Addr) {R:aB} {w:World}(h:DJ m R w):Calls prog 29 #[(.pointer m)] w fun e w'=>∃v,e= .returned v∧R v w':=
 ak Tryz.func29 aw aa ((DNew_eq m R w).mp h)
def vx(d:Option Addr)(R:aB)(w:World):Prop:=
 aA d fun p5=>
 ∃U1:Option Addr,∃TF:Nat,∃U0:Nat,w.cell? (p5.add 2)=some (.slice U1 TF U0)∧
 ∃S2:Option Addr,∃S0:Nat,∃TS:Nat,∃wv,(Instr.makeSlice 62 (.int .i64 (i64.wrap (1+((TF:Nat):Int)))) (.int .i64 (i64.wrap (1+((TF:Nat):Int)))):Sem Value).run prog w= .ok (.slice S2 S0 TS) wv∧
 aA d fun Y6=>
 ∃Oi:Int,wv.cell? (Y6.add 1)=some (.int .i64 Oi)∧
 (0≤(0:Int)∧(0:Int)<((S0:Nat):Int))∧
 aA S2 fun p17=>
 aF wv (p17.add (Int.toNat 0*1)) [(.int .u32 (u32.wrap Oi))] fun ND=>
 ∃b:Nat→Nat→Prop,
 (0≤(1:Int)∧(1:Int)≤((S0:Nat):Int))∧
 ∀SR:Option Addr,SR=(if TS=(Int.toNat 1)then S2 else(S2:Option Addr).map (·.add ((Int.toNat 1)*1)))→∀SP:Nat,SP=S0 - (Int.toNat 1)→∀SQ:Nat,SQ=TS - (Int.toNat 1)→
 aA d fun S6=>
 b 5 ((S6.add 2).block)∧
 ∃QN:Option Addr,∃QM:Nat,∃Rb:Nat,ND.drew.cell? (S6.add 2)=some (.slice QN QM Rb)∧
 ∃RA:Int,∃NF,(Builtin.copy_ #[62,62] 3 #[(.slice SR SP SQ),(.slice QN QM Rb)]:Sem Value).run prog ND.drew= .ok (.int .i64 RA) NF∧
 Kept (cg b [2]) ND.drew NF∧∃b1:Nat→Nat→Prop,(∀i k,b i k→b1 i k)∧
 R (.slice S2 S0 TS) NF
def FE:Ann:= .leaf
theorem DWords_eq(d:Option Addr)(R:aB)(w:World):vx d R w=vcF prog aM [] Tryz.f52 FE [(.pointer d)] R none w:=by kernel_rfl
theorem xo(d:Option Addr) {R:aB} {w:World}(h:vx d R w):Calls prog 52 #[(.pointer d)] w fun e w'=>∃v,e= .returned v∧R v w':=
 ak Tryz.func52 aw aa ((DWords_eq d R w).mp h)
end
section
set_option maxRecDepth 100000
def AN(m:Option Addr)(wordsA:Option Addr)(wordsN:Nat)(wordsC:Nat)(R:aB)(w:World):Prop:=
 ∃J:Bool→World→Prop,(
  split m.isNone (
   J true w) (
   Calls prog 54 #[(.pointer m)] w fun e wv=>
   ∃Oy:Int,e= .returned (.int .i64 Oy)∧
   split ((((wordsN:Nat):Int):Int) !=(i64.wrap (1+(i64.wrap (2*Oy))))) (
    J true wv) (
    (0≤(0:Int)∧(0:Int)<((wordsN:Nat):Int))∧
    aA wordsA fun V1=>
    ∃RA:Int,wv.cell? (V1.add (Int.toNat 0*1))=some (.int .u32 RA)∧
    J (decide ((RA:Int)>64)) wv)))∧∀(Pw:Nat→Value)(PX:Bool),∀wv,J PX wv→
 split PX (
  R (.tuple #[(.pointer none),(.int .i64 110)]) wv) (
  ∃b:Nat→Nat→Prop,
  (0≤(0:Int)∧(0:Int)<((wordsN:Nat):Int))∧
  aA wordsA fun Tv=>
  b 3 ((Tv.add (Int.toNat 0*1)).block)∧
  ∃Om:Int,wv.drew.cell? (Tv.add (Int.toNat 0*1))=some (.int .u32 Om)∧
  ∃XU:Option Addr,∃XS:Nat,∃XT:Nat,∃ND,(Instr.makeSlice 62 (.int .i64 (i64.wrap (((wordsN:Nat):Int) - 1))) (.int .i64 (i64.wrap (((wordsN:Nat):Int) - 1))):Sem Value).run prog wv.drew= .ok (.slice XU XS XT) ND∧
  Kept (cg b [0,1,2,3,4]) wv.drew ND∧∃b1:Nat→Nat→Prop,(∀i k,b i k→b1 i k)∧
  ∀(NJ:Nat)(NF:World),NJ=ND.heap.size→NF=ND.alloc (.cells #[(.pointer m),(.int .i64 (i64.wrap Om)),(.slice XU XS XT)] 110)→
  Kept (cg b1 [1,2,5,6]) ND NF∧∃b2:Nat→Nat→Prop,(∀i k,b1 i k→b2 i k)∧
  ∃b3:Nat→Nat→Prop,
  b3 3 (((Addr.mk NJ 0 none).add 2).block)∧
  ∃Xo:Option Addr,∃Xm:Nat,∃Xn:Nat,NF.drew.cell? ((Addr.mk NJ 0 none).add 2)=some (.slice Xo Xm Xn)∧
  (0≤(1:Int)∧(1:Int)≤((wordsN:Nat):Int))∧
  ∀Sc:Option Addr,Sc=(if wordsC=(Int.toNat 1)then wordsA else(wordsA:Option Addr).map (·.add ((Int.toNat 1)*1)))→∀Sa:Nat,Sa=wordsN - (Int.toNat 1)→∀Sb:Nat,Sb=wordsC - (Int.toNat 1)→
  ∃x44:Int,∃NI,(Builtin.copy_ #[62,62] 3 #[(.slice Xo Xm Xn),(.slice Sc Sa Sb)]:Sem Value).run prog NF.drew= .ok (.int .i64 x44) NI∧
  Kept (cg b3 [0]) NF.drew NI∧∃b4:Nat→Nat→Prop,(∀i k,b3 i k→b4 i k)∧
  Calls prog 120 #[(.pointer (some (Addr.mk NJ 0 none)))] NI fun e NM=>
  ∃Xj:Int,e= .returned (.int .i64 Xj)∧
  ∃I:Nat→Int→World→Prop,(∃m1,I m1 0 NM)∧∀(m1:Nat)(OJ:Nat→Value)(RF:Int),∀NZ,I m1 RF NZ→
  split (decide ((RF:Int)<Xj)) (
   ∃U5:Option Addr,∃U3:Nat,∃U4:Nat,NZ.cell? ((Addr.mk NJ 0 none).add 2)=some (.slice U5 U3 U4)∧
   (0≤(i64.wrap (2*RF):Int)∧(i64.wrap (2*RF):Int)≤((U3:Nat):Int))∧
   ∀SG:Option Addr,SG=(if U4=(Int.toNat (i64.wrap (2*RF)))then U5 else(U5:Option Addr).map (·.add ((Int.toNat (i64.wrap (2*RF)))*1)))→∀SF:Nat,SF=U3 - (Int.toNat (i64.wrap (2*RF)))→∀TI:Nat,TI=U4 - (Int.toNat (i64.wrap (2*RF)))→
   2≤SF∧
   aA SG fun p59=>
   ∃WE:Int,∃WD:Int,(NZ.cell? (p59.add 0)=some (.int .u32 WE)∧NZ.cell? (p59.add 1)=some (.int .u32 WD))∧
   Calls prog 121 #[(.agg #[(.int .u32 WE),(.int .u32 WD)])] NZ fun e Ol=>
   ∃x60aa:Int,∃x60ab:Int,∃x60ac:Int,∃x60ad:Int,∃x60ae:Bool,∃WC:Int,e= .returned (.tuple #[(.agg #[(.int .i64 x60aa),(.int .i64 x60ab),(.int .i64 x60ac),(.int .i64 x60ad),(.bool x60ae)]),(.int .i64 WC)])∧
   ∀(NW:Nat)(N8:World),NW=Ol.heap.size→N8=Ol.alloc (.cells (#[(.int .i64 0),(.int .i64 0),(.int .i64 0),(.int .i64 0),(.bool false)]) 50)→
   aF N8 (Addr.mk NW 0 none) [(.int .i64 x60aa),(.int .i64 x60ab),(.int .i64 x60ac),(.int .i64 x60ad),(.bool x60ae)] fun N5=>
   ∃J1:Bool→World→Prop,(
    split ((WC:Int) !=0) (
     J1 true N5) (
     ∃x68:Int,N5.cell? ((Addr.mk NW 0 none).add 1)=some (.int .i64 x68)∧
     Calls prog 57 #[(.pointer (some (Addr.mk NJ 0 none))),(.int .i64 x68)] N5 fun e Ph=>
     ∃Ww:Bool,e= .returned (.bool Ww)∧
     J1 (!Ww) Ph))∧∀(QD:Nat→Value)(U2:Bool),∀Ph,J1 U2 Ph→
   split U2 (
    R (.tuple #[(.pointer none),(.int .i64 110)]) Ph) (
    ∃m2,m2<m1∧I m2 (i64.wrap (RF+1)) Ph)) (
   R (.tuple #[(.pointer (some (Addr.mk NJ 0 none))),(.int .i64 0)]) NZ))
def IJ:Ann:=(.node none .leaf (.node none (.node none (.node (some ⟨[(26,.one (.bool))],[10,11,12,13,14,15,16,17,18,19,20,21,22,23,24,25,26]⟩) .leaf .leaf) .leaf) (.node none .leaf (.node none .leaf (.node none (.node none .leaf (.node none (.node (some ⟨[(47,.one (.int .i64))],[4,5,7,8,9,47,48,49,50,51,52,53,54,55,56,57,58,59,60,61,62,63,64,65,66,67,68,69,70,71,72]⟩) (.node none .leaf (.node none .leaf (.node none (.node none (.node none .leaf (.node none .leaf (.node none (.node (some ⟨[(71,.one (.bool))],[63,64,65,66,67,68,69,70,71]⟩) .leaf .leaf) .leaf))) .leaf) .leaf))) .leaf) .leaf)) .leaf)))))
theorem DLoad_eq(m:Option Addr)(wordsA:Option Addr)(wordsN:Nat)(wordsC:Nat)(R:aB)(w:World):AN m wordsA wordsN wordsC R w=vcF prog aM [] Tryz.f50 IJ [(.pointer m),(.slice wordsA wordsN wordsC)] R none w:=by kernel_rfl
theorem AO(m:Option Addr)(wordsA:Option Addr)(wordsN:Nat)(wordsC:Nat) {R:aB} {w:World}(h:AN m wordsA wordsN wordsC R w):Calls prog 50 #[(.pointer m),(.slice wordsA wordsN wordsC)] w fun e w'=>∃v,e= .returned v∧R v w':=
 ak Tryz.func50 aw aa ((DLoad_eq m wordsA wordsN wordsC R w).mp h)
def vC(d:Option Addr)(R:aB)(w:World):Prop:=
 ∃b:Nat→Nat→Prop,
 aA d fun p5=>
 b 3 ((p5.add 0).block)∧
 ∃x7:Option Addr,w.drew.cell? (p5.add 0)=some (.pointer x7)∧
 aA d fun p10=>
 b 8 ((p10.add 1).block)∧
 ∃Oz:Int,w.drew.cell? (p10.add 1)=some (.int .i64 Oz)∧
 aA d fun Tx=>
 b 12 ((Tx.add 2).block)∧
 ∃SU:Option Addr,∃QR:Nat,∃SS:Nat,w.drew.cell? (Tx.add 2)=some (.slice SU QR SS)∧
 (Calls prog 51 #[(.pointer x7)] w.drew fun e wv=>
  ∃x8:Option Addr,e= .returned (.pointer x8)∧
  Kept (cg b [0,5,6,7,8,9,10,11,12,13]) w.drew wv∧∃b1:Nat→Nat→Prop,(∀i k,b i k→b1 i k)∧
  ∃QQ:Option Addr,∃QO:Nat,∃QP:Nat,∃ND,(Instr.makeSlice 62 (.int .i64 ((QR:Nat):Int)) (.int .i64 ((QR:Nat):Int)):Sem Value).run prog wv= .ok (.slice QQ QO QP) ND∧
  Kept (cg b1 [0,1,2,3,4,5,6,7,8,9,10]) wv ND∧∃b2:Nat→Nat→Prop,(∀i k,b1 i k→b2 i k)∧
  ∀(gv:Nat)(NF:World),gv=ND.heap.size→NF=ND.alloc (.cells #[(.pointer x8),(.int .i64 Oz),(.slice QQ QO QP)] 110)→
  Kept (cg b2 [0,1,2,5,6,9,10,11,12]) ND NF∧∃b3:Nat→Nat→Prop,(∀i k,b2 i k→b3 i k)∧
  ∃b4:Nat→Nat→Prop,
  b4 3 (((Addr.mk gv 0 none).add 2).block)∧
  ∃Qj:Option Addr,∃Qh:Nat,∃Qi:Nat,NF.drew.cell? ((Addr.mk gv 0 none).add 2)=some (.slice Qj Qh Qi)∧
  aA d fun Si=>
  b4 7 ((Si.add 2).block)∧
  ∃Qg:Option Addr,∃Qe:Nat,∃Qf:Nat,NF.drew.cell? (Si.add 2)=some (.slice Qg Qe Qf)∧
  ∃P4:Int,∃NI,(Builtin.copy_ #[62,62] 3 #[(.slice Qj Qh Qi),(.slice Qg Qe Qf)]:Sem Value).run prog NF.drew= .ok (.int .i64 P4) NI∧
  Kept (cg b4 [0,4]) NF.drew NI∧∃b5:Nat→Nat→Prop,(∀i k,b4 i k→b5 i k)∧
  R (.pointer (some (Addr.mk gv 0 none))) NI)∧
 (∃QQ:Option Addr,∃QO:Nat,∃QP:Nat,∃wv,(Instr.makeSlice 62 (.int .i64 ((QR:Nat):Int)) (.int .i64 ((QR:Nat):Int)):Sem Value).run prog w.drew= .ok (.slice QQ QO QP) wv∧
  Kept (cg b [0,1,2,3,5,6,7,8,9,10]) w.drew wv∧∃b1:Nat→Nat→Prop,(∀i k,b i k→b1 i k)∧
  Calls prog 51 #[(.pointer x7)] wv fun e ND=>
  ∃x8:Option Addr,e= .returned (.pointer x8)∧
  Kept (cg b1 [0,5,6,7,8,9,10,11,12,13,14]) wv ND∧∃b2:Nat→Nat→Prop,(∀i k,b1 i k→b2 i k)∧
  ∀(gv:Nat)(NF:World),gv=ND.heap.size→NF=ND.alloc (.cells #[(.pointer x8),(.int .i64 Oz),(.slice QQ QO QP)] 110)→
  Kept (cg b2 [0,1,2,5,6,9,10,11,12]) ND NF∧∃b3:Nat→Nat→Prop,(∀i k,b2 i k→b3 i k)∧
  ∃b4:Nat→Nat→Prop,
  b4 3 (((Addr.mk gv 0 none).add 2).block)∧
  ∃Qj:Option Addr,∃Qh:Nat,∃Qi:Nat,NF.drew.cell? ((Addr.mk gv 0 none).add 2)=some (.slice Qj Qh Qi)∧
  aA d fun Si=>
  b4 7 ((Si.add 2).block)∧
  ∃Qg:Option Addr,∃Qe:Nat,∃Qf:Nat,NF.drew.cell? (Si.add 2)=some (.slice Qg Qe Qf)∧
  ∃P4:Int,∃NI,(Builtin.copy_ #[62,62] 3 #[(.slice Qj Qh Qi),(.slice Qg Qe Qf)]:Sem Value).run prog NF.drew= .ok (.int .i64 P4) NI∧
  Kept (cg b4 [0,4]) NF.drew NI∧∃b5:Nat→Nat→Prop,(∀i k,b4 i k→b5 i k)∧
  R (.pointer (some (Addr.mk gv 0 none))) NI)
def FJ:Ann:= .leaf
theorem DClone_eq(d:Option Addr)(R:aB)(w:World):vC d R w=vcF prog aM [] Tryz.f17 FJ [(.pointer d)] R none w:=by kernel_rfl
theorem xx(d:Option Addr) {R:aB} {w:World}(h:vC d R w):Calls prog 17 #[(.pointer d)] w fun e w'=>∃v,e= .returned v∧R v w':=
 ak Tryz.func17 aw aa ((DClone_eq d R w).mp h)
end
end Go.Proofs.YtinhphjfnedhgaaGreatDoor
namespace Go.Proofs.YtinhphjfnedhgaaGreatDoor
open Go.Proofs.Tryz (prog)
open Go Go.RowKit V
open Go.IntKind (i64 u32 u64)
namespace Mem
def dw(m:Mem):Nat→Mem
 | 0=>m
 | k+1=>(dw m k).zero true k
theorem KZ(m:Mem)(s:Bool)(p:Int):(m.zero s p).S=m.S:=by unfold zero;split<;>rfl
theorem K0(m:Mem)(s:Bool)(p:Int):(m.zero s p).I=m.I:=by unfold zero;split<;>rfl
@[simp] theorem mu(m:Mem):∀k,(m.dw k).S=m.S
 | 0=>rfl
 | k+1=>by rw [dw,KZ,mu m k]
@[simp] theorem IV(m:Mem):∀k,(m.dw k).I=m.I
 | 0=>rfl
 | k+1=>by rw [dw,K0,IV m k]
theorem AZ(m:Mem) {p:Int}(h:0≤p∧p<9000000000000000000):m.dw (i64.wrap (p+1)).toNat=(m.dw p.toNat).zero true p:=by
 rw [aq (by omega),show(p+1).toNat=p.toNat+1 by omega,dw,show((p.toNat:Nat):Int)=p by omega]
end Mem
def DB.new(m:Mem):DB:=⟨m.dw m.S,0,fun _=>.free⟩
theorem DB.KO(m:Mem):(DB.new m).S=m.S:=m.mu _
theorem DB.nm(m:Mem)(h:1≤m.S):(DB.new m).Ok:=⟨fun p hp=>⟨Ent.wA,by show(0:Int)<((DB.new m).S:Nat);rw [DB.KO];omega⟩,by show(0:Int)≤0∧(0:Int)≤64;omega⟩
def DB.ws(D:DB):List Int:=(List.range D.S).flatMap fun p=>[(D.ent p).w0,(D.ent p).w1]
theorem nU {α:Type}(f g:Nat→α):∀n,((List.range n).flatMap fun p=>[f p,g p]).length=2*n
 | 0=>rfl
 | n+1=>by rw [List.range_succ,List.flatMap_append,List.length_append,nU f g n];simp;omega
theorem mw {α:Type}(f g:Nat→α):∀n i,i<2*n→((List.range n).flatMap fun p=>[f p,g p])[i]? =some (if i % 2=0 then f (i / 2)else g (i / 2))
 | 0,i,h=>by omega
 | n+1,i,h=>by
  rw [List.range_succ,List.flatMap_append]
  by_cases hi:i<2*n
  ·rw [List.getElem?_append_left (by rw [nU];exact hi),mw f g n i hi]
  ·rw [List.getElem?_append_right (by rw [nU];omega),nU]
   by_cases h2:i=2*n
   ·subst h2
    have e1:2*n % 2=0:=by omega
    have e2:2*n / 2=n:=by omega
    simp [e1,e2]
   ·have:i=2*n+1:=by omega
    subst this
    have e1:(2*n+1) % 2=1:=by omega
    have e2:(2*n+1) / 2=n:=by omega
    simp [e1,e2]
theorem DB.jB(D:DB):D.ws.length=2*D.S:=nU _ _ _
theorem DB.words_eq(D:DB):D.words=D.av::D.ws:=rfl
theorem DBP.ints {w:World} {L:fh} {D:DB}(h:DBP w L D):dy w (fun k=>k=L.a) .u32 (some (Addr.mk L.a 0 none)) D.n2 D.n2 D.ws:=by
 obtain⟨T,cs,hb,hs,hc⟩:=h.ws
 refine dy.blk (Z:=fun k=>k=L.a) (m:=0) hb rfl (Nat.le_refl _) (D.jB) fun j x hj=>?_
 have Ro:j<2*D.S:=by rw [← D.jB];exact(List.getElem?_eq_some_iff.1 hj).1
 have h2:=mw (fun p=>(D.ent p).w0) (fun p=>(D.ent p).w1) D.S j Ro
 have h3:D.ws[j]? =_:=h2
 rw [hj]at h3
 injection h3 with h3
 have hp:=hc (j / 2) (by omega)
 rw [Nat.zero_add,h3]
 split
 ·have:=hp.1
  rwa [show 2*(j / 2)=j by omega]at this
 ·have:=hp.2
  rwa [show 2*(j / 2)+1=j by omega]at this
theorem DB.lay {D:DB} {n:Nat}(hn:n=1+2*D.S):jg ((List.replicate n 0).set 0 D.av) 1 (D.ws.take (min (2*D.S) (n - 1)))=D.words:=by
 subst hn
 rw [List.take_of_length_le (by rw [D.jB];omega),show 1+2*D.S=(2*D.S)+1 by omega,List.replicate_succ,List.set_cons_zero]
 have:=sf [D.av] D.ws [] (List.replicate (2*D.S) 0) (by rw [D.jB];simp)
 simpa [D.words_eq]using this
theorem DB.eT(D:DB):D.words.length=1+2*D.S:=by rw [D.words_eq,List.length_cons,D.jB];omega
def DB.eZ(D:DB)(s:Int)(n:Nat):List I64:=((List.range n).filter (D.aP s)).map fun(p:Nat)=>I64.mk (p:Int)
theorem DB.ym(D:DB)(s:Int) {p:Int}(h:0≤p∧p<64):D.eZ s (i64.wrap (p+1)).toNat=if D.aP s p.toNat then D.eZ s p.toNat++ [I64.mk p]else D.eZ s p.toNat:=by
 unfold DB.eZ
 rw [aq (by omega),show(p+1).toNat=p.toNat+1 by omega,List.range_succ,List.filter_append,List.map_append]
 cases hq:D.aP s p.toNat
 ·simp [List.filter,hq]
 ·simp [List.filter,hq,show((p.toNat:Nat):Int)=p by omega]
theorem DB.Bq(D:DB)(s:Int)(n:Nat):(D.eZ s n).length≤n:=by
 unfold DB.eZ
 rw [List.length_map]
 exact Nat.le_trans (List.length_filter_le _ _) (by simp)
def DB.wd(l:List U32)(i:Nat):Int:=(l.getD i ⟨0⟩).v
def DB.load(m:Mem)(l:List U32):DB:=⟨m,DB.wd l 0,fun p=>Ent.dec (DB.wd l (1+2*p)) (DB.wd l (2+2*p))⟩
def DB.lh(m:Mem)(l:List U32)(p:Nat):Bool:=Ent.fg (DB.wd l (1+2*p)) (DB.wd l (2+2*p))==0 && decide ((Ent.dec (DB.wd l (1+2*p)) (DB.wd l (2+2*p))).owner<m.S)
def DB.ay(m:Mem)(l:List U32):Int:=
 if l.length≠1+2*m.S then 110 else if DB.wd l 0>64 then 110 else if(List.range m.S).all (DB.lh m l)then 0 else 110
theorem DB.Jq {m:Mem} {l:List U32}(hw:∀x∈l,0≤x.v∧x.v<4294967296)(h:DB.ay m l=0):(DB.load m l).Ok:=by
 unfold DB.ay at h
 split at h
 ·omega
 rename_i h1
 split at h
 ·omega
 rename_i h2
 split at h
 ·rename_i h3
  refine⟨fun p hp=>?_,?_⟩
  ·have hq:=List.all_eq_true.1 h3 p (List.mem_range.2 hp)
   simp only [DB.lh,Bool.and_eq_true,beq_iff_eq,decide_eq_true_eq]at hq
   exact⟨(Ent.g8 hq.1).1,hq.2⟩
  ·have h0:0<l.length:=by omega
   have:=hw _ (List.getElem_mem h0)
   have e:DB.wd l 0=l[0].v:=by unfold DB.wd;rw [List.getD_eq_getElem?_getD,List.getElem?_eq_getElem h0];rfl
   show 0≤DB.wd l 0∧DB.wd l 0≤64
   rw [e]at h2 ⊢
   omega
 ·omega
theorem CR {n:Nat} {v:Value} {i:Nat}(h:i<n):(Array.replicate n v)[i]? =some v:=by simp [h]
section
set_option maxRecDepth 10000
set_option maxHeartbeats 1000000
theorem oa:S1 prog 62 29 (.int .u32 0) 4:=S1.of (by kernel_rfl) (by kernel_rfl) rfl
theorem CN:SN prog 62 29 (.int .u32 0) 1 4:=oa.sn
theorem qe {w:World}(x:Int)(k:Int)(hk: -31≤k∧k≤ -1):
 Calls prog 200 #[(.int .u32 x),(.int .i64 k)] w fun e w'=>∃v,e= .returned v∧v= .int .u32 (od x (-k))∧Pu w w':=by
 refine kW _ _ ?_
 have hs:=Mj hk
 have hp:=Ch.refl (fun _=>False) w
 rintro _ rfl
 refine sb (by(rw [hs];omega)) (sb (by(rw [IntKind.wrap_u64];omega)) ?_)
 exact⟨congrArg (Value.int .u32) (by rw [hs];exact rot_eq hk),hp⟩
theorem jC {w:World}(wv:Int)(n:Int)(hn:1≤n∧n≤31):
 Calls prog 193 #[(.int .u32 wv),(.int .i64 n)] w fun e w'=>∃v,e= .returned v∧v= .int .u32 (od wv n)∧Pu w w':=by
 refine wS _ _ ?_
 have e0:i64.wrap (0 - n)= -n:=by rw [aq (by omega)];omega
 have hp:=Ch.refl (fun _=>False) w
 refine Calls.mono (qe _ _ (by rw [e0];omega)) ?_
 rintro e ND ⟨_,rfl,rfl,NH⟩
 refine⟨_,rfl,?_⟩
 have hp:=Ch.pu hp NH
 exact⟨congrArg (Value.int .u32) (by rw [e0,Int.neg_neg]),hp⟩
theorem D0 {w:World}(blocka:Int)(blockb:Int)(blockc:Int)(blockd:Int)(blocke:Int)(blockf:Int)(blockg:Int)(blockh:Int)(blocki:Int)(blockj:Int)(blockk:Int)(blockl:Int)(blockm:Int)(blockn:Int)(blocko:Int)(blockp:Int):
 Calls prog 192 #[(.agg #[(.int .u32 blocka),(.int .u32 blockb),(.int .u32 blockc),(.int .u32 blockd),(.int .u32 blocke),(.int .u32 blockf),(.int .u32 blockg),(.int .u32 blockh),(.int .u32 blocki),(.int .u32 blockj),(.int .u32 blockk),(.int .u32 blockl),(.int .u32 blockm),(.int .u32 blockn),(.int .u32 blocko),(.int .u32 blockp)])] w fun e w'=>∃v,e= .returned v∧v= .agg (bI (ah [blocka,blockb,blockc,blockd,blocke,blockf,blockg,blockh,blocki,blockj,blockk,blockl,blockm,blockn,blocko,blockp] 48))∧Pu w w':=by
 refine qV _ _ _ _ _ _ _ _ _ _ _ _ _ _ _ _ ?_
 obtain⟨bb,P8⟩:∃bb,bb= [blocka,blockb,blockc,blockd,blocke,blockf,blockg,blockh,blocki,blockj,blockk,blockl,blockm,blockn,blocko,blockp]:=⟨_,rfl⟩
 have hB:bb.length=16:=by rw [P8];rfl
 have hp:=Ch.refl (fun _=>False) w
 refine mkd fun gv wv NK=>?_
 have Nz:=NK.blk
 have hp:=Ch.made hp NK
 refine mkd fun NJ ND NX=>?_
 have O4:=NX.lo hp
 have OW:=NX.ne Nz
 have NC:Blk ND NJ (bI (List.replicate 64 0)) _:=NX.blk.cast (fL _ _)
 have hp:=Ch.made hp NX
 have Nz:=Made.old NX Nz
 refine mkd fun OB NF OD=>?_
 have QV:=OD.lo hp
 have PV:=OD.ne Nz
 have ne_gv1_gv2:=OD.ne NC
 have NG:Blk NF OB (bI (List.replicate 64 0)) _:=OD.blk.cast (fL _ _)
 refine⟨bXU [] [] NF.drew (fun _=>False),?_⟩
 rintro _ rfl _ rfl _ rfl
 rintro _ rfl _ rfl _ rfl
 have NG:=Blk.drew NG
 have Nz:=Blk.drew (Made.old OD Nz)
 have Nz:Blk NF.drew gv (bI [blocka,blockb,blockc,blockd,blocke,blockf,blockg,blockh,blocki,blockj,blockk,blockl,blockm,blockn,blocko,blockp]) _:=Nz.cast (by rfl)
 refine oF oa NG (o:=0) rfl (by(simp;done)) (dy.Nj (Z:=fun _=>True) Nz trivial rfl (by(simp;done)) (by(simp;done)) (by(simp;done))) (by(simp;done)) fun NI NO=>?_
 have NG:=NO.blk
 refine bXU.grow NO.ch ?_
 rintro _ rfl
 have hp:=Ch.call (Ch.drew (Ch.made hp OD)) NO.ch (by exact fun k e=>.inr (e▸QV))
 have Nz:=Ch.blk NO.ch Nz (PV)
 have NC:=Ch.blk NO.ch (Blk.drew (Made.old OD NC)) (ne_gv1_gv2)
 refine⟨fun mz t1 W=>mz=(64 - t1).toNat∧(16≤t1∧t1≤64)∧Ch (fun _=>False) w W∧Blk W gv (bI ([blocka,blockb,blockc,blockd,blocke,blockf,blockg,blockh,blocki,blockj,blockk,blockl,blockm,blockn,blocko,blockp])) 262∧Blk W NJ (bI (List.replicate 64 0)) 287∧Blk W OB (bI (ah bb (t1.toNat - 16))) 287,⟨_,rfl,(by omega),hp,Nz,NC,NG.cast (congrArg bI (by subst P8;rfl))⟩,?_⟩
 rintro _ _ t1 NM ⟨rfl,h0,hp,Nz,NC,NG⟩
 refine ar (fun c1=>?_) (fun c1=>?_)
 ·refine⟨by(simp only [IntKind.wrap_i64];omega),?_⟩
  have NG:=Blk.drew NG
  refine⟨_,NG.su (i:=(i64.wrap (t1 - 15))) (by(rw [di hB];simp only [IntKind.wrap_i64];omega)),⟨by(simp only [IntKind.wrap_i64];omega),⟨_,NG.su (i:=(i64.wrap (t1 - 2))) (by(rw [di hB];simp only [IntKind.wrap_i64];omega)),?_⟩⟩⟩
  refine⟨bXU [4,17] [] NM.drew.drew (fun _=>False),?_⟩
  have NG:=Blk.drew NG
  refine⟨by(simp only [IntKind.wrap_i64];omega),⟨.inr ⟨by decide,bX.ld NG (fun h=>h) _⟩,_,NG.su (i:=(i64.wrap (t1 - 16))) (by(rw [di hB];simp only [IntKind.wrap_i64];omega)),⟨by(simp only [IntKind.wrap_i64];omega),⟨.inr ⟨by decide,bX.ld NG (fun h=>h) _⟩,_,NG.su (i:=(i64.wrap (t1 - 7))) (by(rw [di hB];simp only [IntKind.wrap_i64];omega)),?_⟩⟩⟩⟩
  refine Calls.mono (jC _ _ (by omega)) ?_
  rintro e NZ ⟨_,rfl,rfl,Oc⟩
  refine⟨_,rfl,?_⟩
  refine bXU.gg Oc (by decide) ?_
  refine Calls.mono (jC _ _ (by omega)) ?_
  rintro e Ol ⟨_,rfl,rfl,Ob⟩
  refine⟨_,rfl,?_⟩
  refine bXU.gg Ob (by decide) ?_
  refine Calls.mono (jC _ _ (by omega)) ?_
  rintro e N8 ⟨_,rfl,rfl,N4⟩
  refine⟨_,rfl,?_⟩
  refine bXU.gg N4 (by decide) ?_
  refine Calls.mono (jC _ _ (by omega)) ?_
  rintro e N5 ⟨_,rfl,rfl,N3⟩
  refine⟨_,rfl,?_⟩
  refine bXU.gg N3 (by decide) ?_
  have NG:=Pu.blk N3 (Pu.blk N4 (Pu.blk Ob (Pu.blk Oc NG)))
  refine⟨by omega,Bd NG (by(rw [di hB];omega)) fun Ph Ri=>?_⟩
  have NG:=Ri.blk
  refine bXU.grow Ri.ch ?_
  rintro _ rfl
  have hp:=Ch.call (Ch.pu (Ch.pu (Ch.pu (Ch.pu (Ch.drew (Ch.drew hp)) Oc) Ob) N4) N3) Ri.ch (by exact fun k e=>.inr (e▸QV))
  have Nz:=Ch.blk Ri.ch (Pu.blk N3 (Pu.blk N4 (Pu.blk Ob (Pu.blk Oc (Blk.drew (Blk.drew Nz)))))) (PV)
  have NC:=Ch.blk Ri.ch (Pu.blk N3 (Pu.blk N4 (Pu.blk Ob (Pu.blk Oc (Blk.drew (Blk.drew NC)))))) (ne_gv1_gv2)
  exact⟨_,by rw [IntKind.wrap_i64];omega,rfl,by rw [IntKind.wrap_i64];omega,hp,Nz,NC,NG.cast (congrArg bI (by exact xV (by omega)))⟩
 ·refine⟨bI (ah bb (t1.toNat - 16)),NG.vN (by(simp [di hB];done)),⟨by rw [eV];(simp [di hB];done),oc,pC NC (by(simp [di hB];done)) fun NZ Pj=>?_⟩⟩
  have NC:=Pj.blk
  refine⟨bI (ah bb (t1.toNat - 16)),NC.vN (by(simp [di hB];done)),?_⟩
  have hp:=Ch.call hp Pj.ch (by exact fun k e=>.inr (e▸O4))
  exact⟨congrArg (fun l=>Value.agg (bI l)) (by have:t1=64:=(by omega);subst this;rw [← P8];rfl),hp⟩
theorem Lc {K:List Int} {w:World}(hk:mR w 0 K)(statea:Int)(stateb:Int)(statec:Int)(stated:Int)(statee:Int)(statef:Int)(stateg:Int)(stateh:Int)(blocka:Int)(blockb:Int)(blockc:Int)(blockd:Int)(blocke:Int)(blockf:Int)(blockg:Int)(blockh:Int)(blocki:Int)(blockj:Int)(blockk:Int)(blockl:Int)(blockm:Int)(blockn:Int)(blocko:Int)(blockp:Int):
 Calls prog 175 #[(.agg #[(.int .u32 statea),(.int .u32 stateb),(.int .u32 statec),(.int .u32 stated),(.int .u32 statee),(.int .u32 statef),(.int .u32 stateg),(.int .u32 stateh)]),(.agg #[(.int .u32 blocka),(.int .u32 blockb),(.int .u32 blockc),(.int .u32 blockd),(.int .u32 blocke),(.int .u32 blockf),(.int .u32 blockg),(.int .u32 blockh),(.int .u32 blocki),(.int .u32 blockj),(.int .u32 blockk),(.int .u32 blockl),(.int .u32 blockm),(.int .u32 blockn),(.int .u32 blocko),(.int .u32 blockp)])] w fun e w'=>∃v,e= .returned v∧v= .agg #[(.int .u32 ((j5 K (S8.mk statea stateb statec stated statee statef stateg stateh) [blocka,blockb,blockc,blockd,blocke,blockf,blockg,blockh,blocki,blockj,blockk,blockl,blockm,blockn,blocko,blockp]).a)),(.int .u32 ((j5 K (S8.mk statea stateb statec stated statee statef stateg stateh) [blocka,blockb,blockc,blockd,blocke,blockf,blockg,blockh,blocki,blockj,blockk,blockl,blockm,blockn,blocko,blockp]).b)),(.int .u32 ((j5 K (S8.mk statea stateb statec stated statee statef stateg stateh) [blocka,blockb,blockc,blockd,blocke,blockf,blockg,blockh,blocki,blockj,blockk,blockl,blockm,blockn,blocko,blockp]).c)),(.int .u32 ((j5 K (S8.mk statea stateb statec stated statee statef stateg stateh) [blocka,blockb,blockc,blockd,blocke,blockf,blockg,blockh,blocki,blockj,blockk,blockl,blockm,blockn,blocko,blockp]).d)),(.int .u32 ((j5 K (S8.mk statea stateb statec stated statee statef stateg stateh) [blocka,blockb,blockc,blockd,blocke,blockf,blockg,blockh,blocki,blockj,blockk,blockl,blockm,blockn,blocko,blockp]).e)),(.int .u32 ((j5 K (S8.mk statea stateb statec stated statee statef stateg stateh) [blocka,blockb,blockc,blockd,blocke,blockf,blockg,blockh,blocki,blockj,blockk,blockl,blockm,blockn,blocko,blockp]).f)),(.int .u32 ((j5 K (S8.mk statea stateb statec stated statee statef stateg stateh) [blocka,blockb,blockc,blockd,blocke,blockf,blockg,blockh,blocki,blockj,blockk,blockl,blockm,blockn,blocko,blockp]).g)),(.int .u32 ((j5 K (S8.mk statea stateb statec stated statee statef stateg stateh) [blocka,blockb,blockc,blockd,blocke,blockf,blockg,blockh,blocki,blockj,blockk,blockl,blockm,blockn,blocko,blockp]).h))]∧Pu w w':=by
 refine wV _ _ _ _ _ _ _ _ _ _ _ _ _ _ _ _ _ _ _ _ _ _ _ _ ?_
 obtain⟨bb,P8⟩:∃bb,bb= [blocka,blockb,blockc,blockd,blocke,blockf,blockg,blockh,blocki,blockj,blockk,blockl,blockm,blockn,blocko,blockp]:=⟨_,rfl⟩
 have hB:bb.length=16:=by rw [P8];rfl
 obtain⟨ss,Qb⟩:∃ss,ss=(S8.mk statea stateb statec stated statee statef stateg stateh):=⟨_,rfl⟩
 have hp:=Ch.refl (fun _=>False) w
 have Pk:=hk.lt
 refine mkd fun gv wv NK=>?_
 have Nz:=NK.blk
 refine mkd fun NJ ND NX=>?_
 have NC:=NX.blk
 have hp:=Ch.made (Ch.made hp NK) NX
 have Nz:=Made.old NX Nz
 refine mkd fun OB NF OD=>?_
 have QV:=OD.lo hp
 have PV:=OD.ne Nz
 have ne_gv1_gv2:=OD.ne NC
 have NG:=OD.blk
 have Nz:=Made.old OD Nz
 refine⟨_,_,_,_,_,_,_,_,⟨Nz.at rfl,Nz.at rfl,Nz.at rfl,Nz.at rfl,Nz.at rfl,Nz.at rfl,Nz.at rfl,Nz.at rfl⟩,?_⟩
 have hp:=Ch.made hp OD
 have NC:=Made.old OD NC
 refine mkd fun NW NI ON=>?_
 have NY:=ON.lo hp
 have N2:=ON.ne Nz
 have ne_gv1_gv3:=ON.ne NC
 have ne_gv2_gv3:=ON.ne NG
 have NA:=ON.blk
 refine gj NA rfl fun NM NR=>?_
 have NA:=NR.blk
 have NC:=Ch.blk NR.ch (Made.old ON NC) (ne_gv1_gv3)
 refine⟨_,_,_,_,_,_,_,_,_,_,_,_,_,_,_,_,⟨NC.at rfl,NC.at rfl,NC.at rfl,NC.at rfl,NC.at rfl,NC.at rfl,NC.at rfl,NC.at rfl,NC.at rfl,NC.at rfl,NC.at rfl,NC.at rfl,NC.at rfl,NC.at rfl,NC.at rfl,NC.at rfl⟩,?_⟩
 refine Calls.mono (D0 _ _ _ _ _ _ _ _ _ _ _ _ _ _ _ _) ?_
 rintro e NZ ⟨_,rfl,rfl,Oc⟩
 refine⟨_,rfl,?_⟩
 have hp:=Ch.pu (Ch.call (Ch.made hp ON) NR.ch (by exact fun k e=>.inr (e▸NY))) Oc
 have hk:=(((((hk.pu NK.pu).pu NX.pu).pu OD.pu).pu ON.pu).ch NR.ch (fun k hx e=>(fun hx=>absurd (Pk _ hx) (Nat.not_lt.2 NY)) (e▸hx))).pu Oc
 have Nz:=Pu.blk Oc (Ch.blk NR.ch (Made.old ON Nz) (N2))
 have NC:=Pu.blk Oc NC
 have NG:=Pu.blk Oc (Ch.blk NR.ch (Made.old ON NG) (ne_gv2_gv3))
 have NA:=Pu.blk Oc NA
 refine⟨fun mz Oy W=>mz=(64 - Oy).toNat∧(0≤Oy∧Oy≤64)∧Ch (fun _=>False) w W∧mR W 0 K∧Blk W gv #[(.int .u32 statea),(.int .u32 stateb),(.int .u32 statec),(.int .u32 stated),(.int .u32 statee),(.int .u32 statef),(.int .u32 stateg),(.int .u32 stateh)] 66∧Blk W NJ #[(.int .u32 blocka),(.int .u32 blockb),(.int .u32 blockc),(.int .u32 blockd),(.int .u32 blocke),(.int .u32 blockf),(.int .u32 blockg),(.int .u32 blockh),(.int .u32 blocki),(.int .u32 blockj),(.int .u32 blockk),(.int .u32 blockl),(.int .u32 blockm),(.int .u32 blockn),(.int .u32 blocko),(.int .u32 blockp)] 262∧Blk W OB #[(.int .u32 0),(.int .u32 0),(.int .u32 0),(.int .u32 0),(.int .u32 0),(.int .u32 0),(.int .u32 0),(.int .u32 0)] 66∧Blk W NW #[(.int .u32 ((aK K (ah bb 48) ss Oy.toNat).a)),(.int .u32 ((aK K (ah bb 48) ss Oy.toNat).b)),(.int .u32 ((aK K (ah bb 48) ss Oy.toNat).c)),(.int .u32 ((aK K (ah bb 48) ss Oy.toNat).d)),(.int .u32 ((aK K (ah bb 48) ss Oy.toNat).e)),(.int .u32 ((aK K (ah bb 48) ss Oy.toNat).f)),(.int .u32 ((aK K (ah bb 48) ss Oy.toNat).g)),(.int .u32 ((aK K (ah bb 48) ss Oy.toNat).h))] 66,⟨_,rfl,(by omega),hp,hk,Nz,NC,NG,NA.cast (JN (congrArg (Value.int .u32) (by subst Qb;rfl)) (congrArg (Value.int .u32) (by subst Qb;rfl)) (congrArg (Value.int .u32) (by subst Qb;rfl)) (congrArg (Value.int .u32) (by subst Qb;rfl)) (congrArg (Value.int .u32) (by subst Qb;rfl)) (congrArg (Value.int .u32) (by subst Qb;rfl)) (congrArg (Value.int .u32) (by subst Qb;rfl)) (congrArg (Value.int .u32) (by subst Qb;rfl)))⟩,?_⟩
 rintro _ _ Oy Ol ⟨rfl,h0,hp,hk,Nz,NC,NG,NA⟩
 refine ar (fun c1=>?_) (fun c1=>?_)
 ·refine⟨by omega,⟨_,xX (l:=(ah [blocka,blockb,blockc,blockd,blocke,blockf,blockg,blockh,blocki,blockj,blockk,blockl,blockm,blockn,blocko,blockp] 48)) (i:=Oy) (by(rw [di rfl];omega)),⟨by decide,?_⟩⟩⟩
  have NA:=Blk.drew NA
  refine⟨_,NA.at rfl,⟨by decide,⟨_,NA.at rfl,?_⟩⟩⟩
  refine⟨bXU [1,13,18,24] [] Ol.drew.drew (fun _=>False),?_⟩
  have NA:=Blk.drew NA
  have hk:=(hk.pu (Pu.bj _)).pu (Pu.bj _)
  obtain⟨_,drow_hk⟩:=hk.blk
  refine⟨by decide,⟨.inr ⟨by decide,bX.ld NA (fun h=>h) _⟩,_,NA.at rfl,⟨by decide,⟨.inr ⟨by decide,bX.ld NA (fun h=>h) _⟩,_,NA.at rfl,⟨by decide,⟨.inr ⟨by decide,bX.ld NA (fun h=>h) _⟩,_,NA.at rfl,⟨by omega,⟨.inr ⟨by decide,bX.ld drow_hk (fun h=>h) _⟩,_,drow_hk.su (i:=Oy) (by(have h9:=hk.len;omega)),?_⟩⟩⟩⟩⟩⟩⟩⟩
  refine Calls.mono (jC _ _ (by omega)) ?_
  rintro e N8 ⟨_,rfl,rfl,N4⟩
  refine⟨_,rfl,?_⟩
  refine bXU.gg N4 (by decide) ?_
  refine Calls.mono (jC _ _ (by omega)) ?_
  rintro e N5 ⟨_,rfl,rfl,N3⟩
  refine⟨_,rfl,?_⟩
  refine bXU.gg N3 (by decide) ?_
  refine Calls.mono (jC _ _ (by omega)) ?_
  rintro e Ph ⟨_,rfl,rfl,OV⟩
  refine⟨_,rfl,?_⟩
  refine bXU.gg OV (by decide) ?_
  rintro _ rfl
  refine⟨bXU [10,14,18,20] [] Ph.drew (fun _=>False),?_⟩
  have NA:=Blk.drew (Pu.blk OV (Pu.blk N3 (Pu.blk N4 NA)))
  refine⟨by decide,⟨.inr ⟨by decide,bX.ld NA (fun h=>h) _⟩,_,NA.at rfl,⟨by decide,⟨.inr ⟨by decide,bX.ld NA (fun h=>h) _⟩,_,NA.at rfl,⟨by decide,⟨.inr ⟨by decide,bX.ld NA (fun h=>h) _⟩,_,NA.at rfl,⟨by decide,⟨.inr ⟨by decide,bX.ld NA (fun h=>h) _⟩,_,NA.at rfl,?_⟩⟩⟩⟩⟩⟩⟩⟩
  refine Calls.mono (jC _ _ (by omega)) ?_
  rintro e Ql ⟨_,rfl,rfl,PE⟩
  refine⟨_,rfl,?_⟩
  refine bXU.gg PE (by decide) ?_
  refine Calls.mono (jC _ _ (by omega)) ?_
  rintro e QU ⟨_,rfl,rfl,PD⟩
  refine⟨_,rfl,?_⟩
  refine bXU.gg PD (by decide) ?_
  refine Calls.mono (jC _ _ (by omega)) ?_
  rintro e QC ⟨_,rfl,rfl,PC⟩
  refine⟨_,rfl,?_⟩
  refine bXU.gg PC (by decide) ?_
  rintro _ rfl
  have NA:=Pu.blk PC (Pu.blk PD (Pu.blk PE NA))
  refine⟨by decide,⟨_,NA.at rfl,⟨by decide,⟨_,NA.at rfl,⟨by decide,⟨_,NA.at rfl,⟨by decide,⟨_,NA.at rfl,⟨by decide,⟨_,NA.at rfl,⟨by decide,⟨_,NA.at rfl,⟨by decide,⟨_,NA.at rfl,gj NA rfl fun YY PU=>?_⟩⟩⟩⟩⟩⟩⟩⟩⟩⟩⟩⟩⟩⟩
  have NA:=PU.blk
  have hp:=Ch.call (Ch.pu (Ch.pu (Ch.pu (Ch.drew (Ch.pu (Ch.pu (Ch.pu (Ch.drew (Ch.drew hp)) N4) N3) OV)) PE) PD) PC) PU.ch (by exact fun k e=>.inr (e▸NY))
  have hk:=(((((((hk.pu N4).pu N3).pu OV).pu (Pu.bj _)).pu PE).pu PD).pu PC).ch PU.ch (fun k hx e=>(fun hx=>absurd (Pk _ hx) (Nat.not_lt.2 NY)) (e▸hx))
  have Nz:=Ch.blk PU.ch (Pu.blk PC (Pu.blk PD (Pu.blk PE (Blk.drew (Pu.blk OV (Pu.blk N3 (Pu.blk N4 (Blk.drew (Blk.drew Nz))))))))) (N2)
  have NC:=Ch.blk PU.ch (Pu.blk PC (Pu.blk PD (Pu.blk PE (Blk.drew (Pu.blk OV (Pu.blk N3 (Pu.blk N4 (Blk.drew (Blk.drew NC))))))))) (ne_gv1_gv3)
  have NG:=Ch.blk PU.ch (Pu.blk PC (Pu.blk PD (Pu.blk PE (Blk.drew (Pu.blk OV (Pu.blk N3 (Pu.blk N4 (Blk.drew (Blk.drew NG))))))))) (ne_gv2_gv3)
  exact⟨_,by rw [IntKind.wrap_i64];omega,rfl,by rw [IntKind.wrap_i64];omega,hp,hk,Nz,NC,NG,NA.cast (JN (congrArg (Value.int .u32) (by rw [fC (by omega),P8];rfl)) (congrArg (Value.int .u32) (by rw [fC (by omega),P8];rfl)) (congrArg (Value.int .u32) (by rw [fC (by omega),P8];rfl)) (congrArg (Value.int .u32) (by rw [fC (by omega),P8];rfl)) (congrArg (Value.int .u32) (by rw [fC (by omega),P8];rfl)) (congrArg (Value.int .u32) (by rw [fC (by omega),P8];rfl)) (congrArg (Value.int .u32) (by rw [fC (by omega),P8];rfl)) (congrArg (Value.int .u32) (by rw [fC (by omega),P8];rfl)))⟩
 ·have e64:Oy.toNat=64:=by omega
  rw [e64]at NA
  refine⟨fun mz P3 W=>Ch (fun _=>False) w W∧mR W 0 K∧(∃T,Blk W gv #[(.int .u32 statea),(.int .u32 stateb),(.int .u32 statec),(.int .u32 stated),(.int .u32 statee),(.int .u32 statef),(.int .u32 stateg),(.int .u32 stateh)] T)∧(∃T,Blk W NJ #[(.int .u32 blocka),(.int .u32 blockb),(.int .u32 blockc),(.int .u32 blockd),(.int .u32 blocke),(.int .u32 blockf),(.int .u32 blockg),(.int .u32 blockh),(.int .u32 blocki),(.int .u32 blockj),(.int .u32 blockk),(.int .u32 blockl),(.int .u32 blockm),(.int .u32 blockn),(.int .u32 blocko),(.int .u32 blockp)] T)∧(∃T,Blk W OB #[(.int .u32 0),(.int .u32 0),(.int .u32 0),(.int .u32 0),(.int .u32 0),(.int .u32 0),(.int .u32 0),(.int .u32 0)] T)∧((mz=8∧P3=0∧(∃T,Blk W NW #[(.int .u32 ((aK K (ah bb 48) ss 64).a)),(.int .u32 ((aK K (ah bb 48) ss 64).b)),(.int .u32 ((aK K (ah bb 48) ss 64).c)),(.int .u32 ((aK K (ah bb 48) ss 64).d)),(.int .u32 ((aK K (ah bb 48) ss 64).e)),(.int .u32 ((aK K (ah bb 48) ss 64).f)),(.int .u32 ((aK K (ah bb 48) ss 64).g)),(.int .u32 ((aK K (ah bb 48) ss 64).h))] T))∨(mz=7∧P3=1∧(∃T,Blk W NW #[(.int .u32 (br (aK K (ah bb 48) ss 64).a statea)),(.int .u32 ((aK K (ah bb 48) ss 64).b)),(.int .u32 ((aK K (ah bb 48) ss 64).c)),(.int .u32 ((aK K (ah bb 48) ss 64).d)),(.int .u32 ((aK K (ah bb 48) ss 64).e)),(.int .u32 ((aK K (ah bb 48) ss 64).f)),(.int .u32 ((aK K (ah bb 48) ss 64).g)),(.int .u32 ((aK K (ah bb 48) ss 64).h))] T))∨(mz=6∧P3=2∧(∃T,Blk W NW #[(.int .u32 (br (aK K (ah bb 48) ss 64).a statea)),(.int .u32 (br (aK K (ah bb 48) ss 64).b stateb)),(.int .u32 ((aK K (ah bb 48) ss 64).c)),(.int .u32 ((aK K (ah bb 48) ss 64).d)),(.int .u32 ((aK K (ah bb 48) ss 64).e)),(.int .u32 ((aK K (ah bb 48) ss 64).f)),(.int .u32 ((aK K (ah bb 48) ss 64).g)),(.int .u32 ((aK K (ah bb 48) ss 64).h))] T))∨(mz=5∧P3=3∧(∃T,Blk W NW #[(.int .u32 (br (aK K (ah bb 48) ss 64).a statea)),(.int .u32 (br (aK K (ah bb 48) ss 64).b stateb)),(.int .u32 (br (aK K (ah bb 48) ss 64).c statec)),(.int .u32 ((aK K (ah bb 48) ss 64).d)),(.int .u32 ((aK K (ah bb 48) ss 64).e)),(.int .u32 ((aK K (ah bb 48) ss 64).f)),(.int .u32 ((aK K (ah bb 48) ss 64).g)),(.int .u32 ((aK K (ah bb 48) ss 64).h))] T))∨(mz=4∧P3=4∧(∃T,Blk W NW #[(.int .u32 (br (aK K (ah bb 48) ss 64).a statea)),(.int .u32 (br (aK K (ah bb 48) ss 64).b stateb)),(.int .u32 (br (aK K (ah bb 48) ss 64).c statec)),(.int .u32 (br (aK K (ah bb 48) ss 64).d stated)),(.int .u32 ((aK K (ah bb 48) ss 64).e)),(.int .u32 ((aK K (ah bb 48) ss 64).f)),(.int .u32 ((aK K (ah bb 48) ss 64).g)),(.int .u32 ((aK K (ah bb 48) ss 64).h))] T))∨(mz=3∧P3=5∧(∃T,Blk W NW #[(.int .u32 (br (aK K (ah bb 48) ss 64).a statea)),(.int .u32 (br (aK K (ah bb 48) ss 64).b stateb)),(.int .u32 (br (aK K (ah bb 48) ss 64).c statec)),(.int .u32 (br (aK K (ah bb 48) ss 64).d stated)),(.int .u32 (br (aK K (ah bb 48) ss 64).e statee)),(.int .u32 ((aK K (ah bb 48) ss 64).f)),(.int .u32 ((aK K (ah bb 48) ss 64).g)),(.int .u32 ((aK K (ah bb 48) ss 64).h))] T))∨(mz=2∧P3=6∧(∃T,Blk W NW #[(.int .u32 (br (aK K (ah bb 48) ss 64).a statea)),(.int .u32 (br (aK K (ah bb 48) ss 64).b stateb)),(.int .u32 (br (aK K (ah bb 48) ss 64).c statec)),(.int .u32 (br (aK K (ah bb 48) ss 64).d stated)),(.int .u32 (br (aK K (ah bb 48) ss 64).e statee)),(.int .u32 (br (aK K (ah bb 48) ss 64).f statef)),(.int .u32 ((aK K (ah bb 48) ss 64).g)),(.int .u32 ((aK K (ah bb 48) ss 64).h))] T))∨(mz=1∧P3=7∧(∃T,Blk W NW #[(.int .u32 (br (aK K (ah bb 48) ss 64).a statea)),(.int .u32 (br (aK K (ah bb 48) ss 64).b stateb)),(.int .u32 (br (aK K (ah bb 48) ss 64).c statec)),(.int .u32 (br (aK K (ah bb 48) ss 64).d stated)),(.int .u32 (br (aK K (ah bb 48) ss 64).e statee)),(.int .u32 (br (aK K (ah bb 48) ss 64).f statef)),(.int .u32 (br (aK K (ah bb 48) ss 64).g stateg)),(.int .u32 ((aK K (ah bb 48) ss 64).h))] T))∨(mz=0∧P3=8∧(∃T,Blk W NW #[(.int .u32 (br (aK K (ah bb 48) ss 64).a statea)),(.int .u32 (br (aK K (ah bb 48) ss 64).b stateb)),(.int .u32 (br (aK K (ah bb 48) ss 64).c statec)),(.int .u32 (br (aK K (ah bb 48) ss 64).d stated)),(.int .u32 (br (aK K (ah bb 48) ss 64).e statee)),(.int .u32 (br (aK K (ah bb 48) ss 64).f statef)),(.int .u32 (br (aK K (ah bb 48) ss 64).g stateg)),(.int .u32 (br (aK K (ah bb 48) ss 64).h stateh))] T))),⟨_,hp,hk,⟨_,Nz⟩,⟨_,NC⟩,⟨_,NG⟩,.inl ⟨rfl,rfl,⟨_,NA⟩⟩⟩,?_⟩
  rintro _ _ P3 N8 ⟨hp,hk,⟨_,Nz⟩,⟨_,NC⟩,⟨_,NG⟩,hU⟩
  rcases hU with⟨rfl,rfl,⟨_,NA⟩⟩ | ⟨rfl,rfl,⟨_,NA⟩⟩ | ⟨rfl,rfl,⟨_,NA⟩⟩ | ⟨rfl,rfl,⟨_,NA⟩⟩ | ⟨rfl,rfl,⟨_,NA⟩⟩ | ⟨rfl,rfl,⟨_,NA⟩⟩ | ⟨rfl,rfl,⟨_,NA⟩⟩ | ⟨rfl,rfl,⟨_,NA⟩⟩ | ⟨rfl,rfl,⟨_,NA⟩⟩
  ·refine dN ?_
   refine⟨bXU [] [2,5] N8.drew (fun _=>False),?_⟩
   have NA:=Blk.drew NA
   have Nz:=Blk.drew Nz
   refine⟨by decide,⟨.inl (by decide),_,NA.at rfl,⟨by decide,⟨.inl (by decide),_,Nz.at rfl,⟨by decide,bO NA (by simp) fun N5 NB=>?_⟩⟩⟩⟩⟩
   have NA:Blk N5 NW #[_,(.int .u32 ((aK K (ah bb 48) ss 64).b)),(.int .u32 ((aK K (ah bb 48) ss 64).c)),(.int .u32 ((aK K (ah bb 48) ss 64).d)),(.int .u32 ((aK K (ah bb 48) ss 64).e)),(.int .u32 ((aK K (ah bb 48) ss 64).f)),(.int .u32 ((aK K (ah bb 48) ss 64).g)),(.int .u32 ((aK K (ah bb 48) ss 64).h))] _:=NB.blk
   refine bXU.grow NB.ch ?_
   have hp:=Ch.call (Ch.drew hp) NB.ch (by exact fun k e=>.inr (e▸NY))
   have hk:=(hk.pu (Pu.bj _)).ch NB.ch (fun k hx e=>(fun hx=>absurd (Pk _ hx) (Nat.not_lt.2 NY)) (e▸hx))
   have Nz:=Ch.blk NB.ch Nz (N2)
   have NC:=Ch.blk NB.ch (Blk.drew NC) (ne_gv1_gv3)
   have NG:=Ch.blk NB.ch (Blk.drew NG) (ne_gv2_gv3)
   exact⟨7,by decide,hp,hk,⟨_,Nz⟩,⟨_,NC⟩,⟨_,NG⟩,.inr (.inl ⟨rfl,rfl,⟨_,NA⟩⟩)⟩
  ·refine dN ?_
   refine⟨bXU [] [2,5] N8.drew (fun _=>False),?_⟩
   have NA:=Blk.drew NA
   have Nz:=Blk.drew Nz
   refine⟨by decide,⟨.inl (by decide),_,NA.at rfl,⟨by decide,⟨.inl (by decide),_,Nz.at rfl,⟨by decide,bO NA (by simp) fun N5 NB=>?_⟩⟩⟩⟩⟩
   have NA:Blk N5 NW #[(.int .u32 (br (aK K (ah bb 48) ss 64).a statea)),_,(.int .u32 ((aK K (ah bb 48) ss 64).c)),(.int .u32 ((aK K (ah bb 48) ss 64).d)),(.int .u32 ((aK K (ah bb 48) ss 64).e)),(.int .u32 ((aK K (ah bb 48) ss 64).f)),(.int .u32 ((aK K (ah bb 48) ss 64).g)),(.int .u32 ((aK K (ah bb 48) ss 64).h))] _:=NB.blk
   refine bXU.grow NB.ch ?_
   have hp:=Ch.call (Ch.drew hp) NB.ch (by exact fun k e=>.inr (e▸NY))
   have hk:=(hk.pu (Pu.bj _)).ch NB.ch (fun k hx e=>(fun hx=>absurd (Pk _ hx) (Nat.not_lt.2 NY)) (e▸hx))
   have Nz:=Ch.blk NB.ch Nz (N2)
   have NC:=Ch.blk NB.ch (Blk.drew NC) (ne_gv1_gv3)
   have NG:=Ch.blk NB.ch (Blk.drew NG) (ne_gv2_gv3)
   exact⟨6,by decide,hp,hk,⟨_,Nz⟩,⟨_,NC⟩,⟨_,NG⟩,.inr (.inr (.inl ⟨rfl,rfl,⟨_,NA⟩⟩))⟩
  ·refine dN ?_
   refine⟨bXU [] [2,5] N8.drew (fun _=>False),?_⟩
   have NA:=Blk.drew NA
   have Nz:=Blk.drew Nz
   refine⟨by decide,⟨.inl (by decide),_,NA.at rfl,⟨by decide,⟨.inl (by decide),_,Nz.at rfl,⟨by decide,bO NA (by simp) fun N5 NB=>?_⟩⟩⟩⟩⟩
   have NA:Blk N5 NW #[(.int .u32 (br (aK K (ah bb 48) ss 64).a statea)),(.int .u32 (br (aK K (ah bb 48) ss 64).b stateb)),_,(.int .u32 ((aK K (ah bb 48) ss 64).d)),(.int .u32 ((aK K (ah bb 48) ss 64).e)),(.int .u32 ((aK K (ah bb 48) ss 64).f)),(.int .u32 ((aK K (ah bb 48) ss 64).g)),(.int .u32 ((aK K (ah bb 48) ss 64).h))] _:=NB.blk
   refine bXU.grow NB.ch ?_
   have hp:=Ch.call (Ch.drew hp) NB.ch (by exact fun k e=>.inr (e▸NY))
   have hk:=(hk.pu (Pu.bj _)).ch NB.ch (fun k hx e=>(fun hx=>absurd (Pk _ hx) (Nat.not_lt.2 NY)) (e▸hx))
   have Nz:=Ch.blk NB.ch Nz (N2)
   have NC:=Ch.blk NB.ch (Blk.drew NC) (ne_gv1_gv3)
   have NG:=Ch.blk NB.ch (Blk.drew NG) (ne_gv2_gv3)
   exact⟨5,by decide,hp,hk,⟨_,Nz⟩,⟨_,NC⟩,⟨_,NG⟩,.inr (.inr (.inr (.inl ⟨rfl,rfl,⟨_,NA⟩⟩)))⟩
  ·refine dN ?_
   refine⟨bXU [] [2,5] N8.drew (fun _=>False),?_⟩
   have NA:=Blk.drew NA
   have Nz:=Blk.drew Nz
   refine⟨by decide,⟨.inl (by decide),_,NA.at rfl,⟨by decide,⟨.inl (by decide),_,Nz.at rfl,⟨by decide,bO NA (by simp) fun N5 NB=>?_⟩⟩⟩⟩⟩
   have NA:Blk N5 NW #[(.int .u32 (br (aK K (ah bb 48) ss 64).a statea)),(.int .u32 (br (aK K (ah bb 48) ss 64).b stateb)),(.int .u32 (br (aK K (ah bb 48) ss 64).c statec)),_,(.int .u32 ((aK K (ah bb 48) ss 64).e)),(.int .u32 ((aK K (ah bb 48) ss 64).f)),(.int .u32 ((aK K (ah bb 48) ss 64).g)),(.int .u32 ((aK K (ah bb 48) ss 64).h))] _:=NB.blk
   refine bXU.grow NB.ch ?_
   have hp:=Ch.call (Ch.drew hp) NB.ch (by exact fun k e=>.inr (e▸NY))
   have hk:=(hk.pu (Pu.bj _)).ch NB.ch (fun k hx e=>(fun hx=>absurd (Pk _ hx) (Nat.not_lt.2 NY)) (e▸hx))
   have Nz:=Ch.blk NB.ch Nz (N2)
   have NC:=Ch.blk NB.ch (Blk.drew NC) (ne_gv1_gv3)
   have NG:=Ch.blk NB.ch (Blk.drew NG) (ne_gv2_gv3)
   exact⟨4,by decide,hp,hk,⟨_,Nz⟩,⟨_,NC⟩,⟨_,NG⟩,.inr (.inr (.inr (.inr (.inl ⟨rfl,rfl,⟨_,NA⟩⟩))))⟩
  ·refine dN ?_
   refine⟨bXU [] [2,5] N8.drew (fun _=>False),?_⟩
   have NA:=Blk.drew NA
   have Nz:=Blk.drew Nz
   refine⟨by decide,⟨.inl (by decide),_,NA.at rfl,⟨by decide,⟨.inl (by decide),_,Nz.at rfl,⟨by decide,bO NA (by simp) fun N5 NB=>?_⟩⟩⟩⟩⟩
   have NA:Blk N5 NW #[(.int .u32 (br (aK K (ah bb 48) ss 64).a statea)),(.int .u32 (br (aK K (ah bb 48) ss 64).b stateb)),(.int .u32 (br (aK K (ah bb 48) ss 64).c statec)),(.int .u32 (br (aK K (ah bb 48) ss 64).d stated)),_,(.int .u32 ((aK K (ah bb 48) ss 64).f)),(.int .u32 ((aK K (ah bb 48) ss 64).g)),(.int .u32 ((aK K (ah bb 48) ss 64).h))] _:=NB.blk
   refine bXU.grow NB.ch ?_
   have hp:=Ch.call (Ch.drew hp) NB.ch (by exact fun k e=>.inr (e▸NY))
   have hk:=(hk.pu (Pu.bj _)).ch NB.ch (fun k hx e=>(fun hx=>absurd (Pk _ hx) (Nat.not_lt.2 NY)) (e▸hx))
   have Nz:=Ch.blk NB.ch Nz (N2)
   have NC:=Ch.blk NB.ch (Blk.drew NC) (ne_gv1_gv3)
   have NG:=Ch.blk NB.ch (Blk.drew NG) (ne_gv2_gv3)
   exact⟨3,by decide,hp,hk,⟨_,Nz⟩,⟨_,NC⟩,⟨_,NG⟩,.inr (.inr (.inr (.inr (.inr (.inl ⟨rfl,rfl,⟨_,NA⟩⟩)))))⟩
  ·refine dN ?_
   refine⟨bXU [] [2,5] N8.drew (fun _=>False),?_⟩
   have NA:=Blk.drew NA
   have Nz:=Blk.drew Nz
   refine⟨by decide,⟨.inl (by decide),_,NA.at rfl,⟨by decide,⟨.inl (by decide),_,Nz.at rfl,⟨by decide,bO NA (by simp) fun N5 NB=>?_⟩⟩⟩⟩⟩
   have NA:Blk N5 NW #[(.int .u32 (br (aK K (ah bb 48) ss 64).a statea)),(.int .u32 (br (aK K (ah bb 48) ss 64).b stateb)),(.int .u32 (br (aK K (ah bb 48) ss 64).c statec)),(.int .u32 (br (aK K (ah bb 48) ss 64).d stated)),(.int .u32 (br (aK K (ah bb 48) ss 64).e statee)),_,(.int .u32 ((aK K (ah bb 48) ss 64).g)),(.int .u32 ((aK K (ah bb 48) ss 64).h))] _:=NB.blk
   refine bXU.grow NB.ch ?_
   have hp:=Ch.call (Ch.drew hp) NB.ch (by exact fun k e=>.inr (e▸NY))
   have hk:=(hk.pu (Pu.bj _)).ch NB.ch (fun k hx e=>(fun hx=>absurd (Pk _ hx) (Nat.not_lt.2 NY)) (e▸hx))
   have Nz:=Ch.blk NB.ch Nz (N2)
   have NC:=Ch.blk NB.ch (Blk.drew NC) (ne_gv1_gv3)
   have NG:=Ch.blk NB.ch (Blk.drew NG) (ne_gv2_gv3)
   exact⟨2,by decide,hp,hk,⟨_,Nz⟩,⟨_,NC⟩,⟨_,NG⟩,.inr (.inr (.inr (.inr (.inr (.inr (.inl ⟨rfl,rfl,⟨_,NA⟩⟩))))))⟩
  ·refine dN ?_
   refine⟨bXU [] [2,5] N8.drew (fun _=>False),?_⟩
   have NA:=Blk.drew NA
   have Nz:=Blk.drew Nz
   refine⟨by decide,⟨.inl (by decide),_,NA.at rfl,⟨by decide,⟨.inl (by decide),_,Nz.at rfl,⟨by decide,bO NA (by simp) fun N5 NB=>?_⟩⟩⟩⟩⟩
   have NA:Blk N5 NW #[(.int .u32 (br (aK K (ah bb 48) ss 64).a statea)),(.int .u32 (br (aK K (ah bb 48) ss 64).b stateb)),(.int .u32 (br (aK K (ah bb 48) ss 64).c statec)),(.int .u32 (br (aK K (ah bb 48) ss 64).d stated)),(.int .u32 (br (aK K (ah bb 48) ss 64).e statee)),(.int .u32 (br (aK K (ah bb 48) ss 64).f statef)),_,(.int .u32 ((aK K (ah bb 48) ss 64).h))] _:=NB.blk
   refine bXU.grow NB.ch ?_
   have hp:=Ch.call (Ch.drew hp) NB.ch (by exact fun k e=>.inr (e▸NY))
   have hk:=(hk.pu (Pu.bj _)).ch NB.ch (fun k hx e=>(fun hx=>absurd (Pk _ hx) (Nat.not_lt.2 NY)) (e▸hx))
   have Nz:=Ch.blk NB.ch Nz (N2)
   have NC:=Ch.blk NB.ch (Blk.drew NC) (ne_gv1_gv3)
   have NG:=Ch.blk NB.ch (Blk.drew NG) (ne_gv2_gv3)
   exact⟨1,by decide,hp,hk,⟨_,Nz⟩,⟨_,NC⟩,⟨_,NG⟩,.inr (.inr (.inr (.inr (.inr (.inr (.inr (.inl ⟨rfl,rfl,⟨_,NA⟩⟩)))))))⟩
  ·refine dN ?_
   refine⟨bXU [] [2,5] N8.drew (fun _=>False),?_⟩
   have NA:=Blk.drew NA
   have Nz:=Blk.drew Nz
   refine⟨by decide,⟨.inl (by decide),_,NA.at rfl,⟨by decide,⟨.inl (by decide),_,Nz.at rfl,⟨by decide,bO NA (by simp) fun N5 NB=>?_⟩⟩⟩⟩⟩
   have NA:Blk N5 NW #[(.int .u32 (br (aK K (ah bb 48) ss 64).a statea)),(.int .u32 (br (aK K (ah bb 48) ss 64).b stateb)),(.int .u32 (br (aK K (ah bb 48) ss 64).c statec)),(.int .u32 (br (aK K (ah bb 48) ss 64).d stated)),(.int .u32 (br (aK K (ah bb 48) ss 64).e statee)),(.int .u32 (br (aK K (ah bb 48) ss 64).f statef)),(.int .u32 (br (aK K (ah bb 48) ss 64).g stateg)),_] _:=NB.blk
   refine bXU.grow NB.ch ?_
   have hp:=Ch.call (Ch.drew hp) NB.ch (by exact fun k e=>.inr (e▸NY))
   have hk:=(hk.pu (Pu.bj _)).ch NB.ch (fun k hx e=>(fun hx=>absurd (Pk _ hx) (Nat.not_lt.2 NY)) (e▸hx))
   have Nz:=Ch.blk NB.ch Nz (N2)
   have NC:=Ch.blk NB.ch (Blk.drew NC) (ne_gv1_gv3)
   have NG:=Ch.blk NB.ch (Blk.drew NG) (ne_gv2_gv3)
   exact⟨0,by decide,hp,hk,⟨_,Nz⟩,⟨_,NC⟩,⟨_,NG⟩,.inr (.inr (.inr (.inr (.inr (.inr (.inr (.inr (⟨rfl,rfl,⟨_,NA⟩⟩))))))))⟩
  ·refine jm ⟨_,_,_,_,_,_,_,_,⟨NA.at rfl,NA.at rfl,NA.at rfl,NA.at rfl,NA.at rfl,NA.at rfl,NA.at rfl,NA.at rfl⟩,gj NG rfl fun N5 NB=>?_⟩
   have NG:=NB.blk
   refine⟨_,_,_,_,_,_,_,_,⟨NG.at rfl,NG.at rfl,NG.at rfl,NG.at rfl,NG.at rfl,NG.at rfl,NG.at rfl,NG.at rfl⟩,?_⟩
   have hp:=Ch.call hp NB.ch (by exact fun k e=>.inr (e▸QV))
   exact⟨congrArg Value.agg (JN (congrArg (Value.int .u32) (by rw [← P8,← Qb];subst Qb;rfl)) (congrArg (Value.int .u32) (by rw [← P8,← Qb];subst Qb;rfl)) (congrArg (Value.int .u32) (by rw [← P8,← Qb];subst Qb;rfl)) (congrArg (Value.int .u32) (by rw [← P8,← Qb];subst Qb;rfl)) (congrArg (Value.int .u32) (by rw [← P8,← Qb];subst Qb;rfl)) (congrArg (Value.int .u32) (by rw [← P8,← Qb];subst Qb;rfl)) (congrArg (Value.int .u32) (by rw [← P8,← Qb];subst Qb;rfl)) (congrArg (Value.int .u32) (by rw [← P8,← Qb];subst Qb;rfl))),hp⟩
theorem Gi {w:World}:
 Calls prog 137 #[] w fun e w'=>∃v,e= .returned v∧v= .agg #[(.int .u32 S8.first.a),(.int .u32 S8.first.b),(.int .u32 S8.first.c),(.int .u32 S8.first.d),(.int .u32 S8.first.e),(.int .u32 S8.first.f),(.int .u32 S8.first.g),(.int .u32 S8.first.h)]∧Pu w w':=by
 refine wU ?_
 have hp:=Ch.refl (fun _=>False) w
 refine mkd fun gv wv NK=>?_
 have NN:=NK.lo hp
 have Nz:=NK.blk
 refine gj Nz rfl fun ND Py=>?_
 have Nz:=Py.blk
 refine⟨_,_,_,_,_,_,_,_,⟨Nz.at rfl,Nz.at rfl,Nz.at rfl,Nz.at rfl,Nz.at rfl,Nz.at rfl,Nz.at rfl,Nz.at rfl⟩,?_⟩
 have hp:=Ch.call (Ch.made hp NK) Py.ch (by exact fun k e=>.inr (e▸NN))
 exact⟨congrArg Value.agg (JN (congrArg (Value.int .u32) (by rfl)) (congrArg (Value.int .u32) (by rfl)) (congrArg (Value.int .u32) (by rfl)) (congrArg (Value.int .u32) (by rfl)) (congrArg (Value.int .u32) (by rfl)) (congrArg (Value.int .u32) (by rfl)) (congrArg (Value.int .u32) (by rfl)) (congrArg (Value.int .u32) (by rfl))),hp⟩
end
namespace Ent
theorem or0 {e:Ent}(h:e.ok=true):u32.wrap (BitVec.ofInt u32.bits (u32.wrap (BitVec.ofInt u32.bits (u32.wrap ((u32.wrap e.typ:Int)*2 ^ 0)) ||| BitVec.ofInt u32.bits (u32.wrap ((u32.wrap e.state:Int)*2 ^ 4))).toNat) ||| BitVec.ofInt u32.bits (u32.wrap ((u32.wrap e.owner:Int)*2 ^ 16))).toNat=e.typ+16*e.state+65536*e.owner:=by
 have h1:=fP h
 have h2:=lG h
 rw [dE (x:=e.typ) (by omega),dE (x:=e.state) (by omega),dE (x:=e.owner) (by omega),dE (x:=e.typ*2 ^ 0) (by omega),dE (x:=e.state*2 ^ 4) (by omega),dE (x:=e.owner*2 ^ 16) (by omega),pL (x:=e.typ*2 ^ 0) (by omega) (by omega),oq,
  show e.state*2 ^ 4=2 ^ 4*e.state by omega,gD 4 (by omega) (by omega) (by omega),pL (by omega) (by omega),oq,show e.owner*2 ^ 16=2 ^ 16*e.owner by omega,gD 16 (by omega) (by omega) (by omega)]
 omega
theorem or1 {x:Int}(h:∃a b:Int,x=a+512*b∧0≤a∧a<256∧0≤b∧b<8388608):u32.wrap (BitVec.ofInt u32.bits x ||| BitVec.ofInt u32.bits 256).toNat=x+256:=by
 obtain⟨a,b,rfl,h1,h2,h3,h4⟩:=h
 have e1:nor (2 ^ 8*1) a=2 ^ 8*1+a:=gD 8 (by omega) h1 h2
 have e2:nor (2 ^ 9*b) a=2 ^ 9*b+a:=gD 9 h3 h1 (by omega)
 have e3:nor (2 ^ 9*b) (256+a)=2 ^ 9*b+(256+a):=gD 9 h3 (by omega) (by omega)
 rw [pL (by omega) (by omega)]
 have assoc:∀x y z:Int,nor (nor x y) z=nor x (nor y z):=by
  intro x y z;unfold nor;simp [Nat.or_assoc]
 rw [show a+512*b=2 ^ 9*b+a by omega,← e2,assoc,oq a 256,show nor 256 a=256+a by simpa using e1,e3,e2]
 omega
theorem mask(k:Nat) {x:Int}(m:Int)(hm:m=2 ^ k - 1)(hk:k≤31)(hx:0≤x∧x<4294967296):i64.wrap (u32.wrap (BitVec.ofInt u32.bits x &&& BitVec.ofInt u32.bits m).toNat)=x % 2 ^ k:=by
 have h2:(2:Int) ^ k≤2 ^ 31:=by exact_mod_cast Nat.pow_le_pow_right (n:=2) (by omega) hk
 have h3:(0:Int)<2 ^ k:=Int.pow_pos (by omega)
 have h4:=Int.emod_nonneg x (Int.ne_of_gt h3)
 have h5:=Int.emod_lt_of_pos x h3
 subst hm
 rw [rF hx (by omega),pR k hx.1,aq (by omega)]
theorem Mv(k:Nat) {x:Int}(m:Int)(hm:m=2 ^ k - 1)(hk:k≤31)(hx:0≤x∧x<4294967296):u32.wrap (BitVec.ofInt u32.bits x &&& BitVec.ofInt u32.bits m).toNat=x % 2 ^ k:=by
 have h2:(2:Int) ^ k≤2 ^ 31:=by exact_mod_cast Nat.pow_le_pow_right (n:=2) (by omega) hk
 have h3:(0:Int)<2 ^ k:=Int.pow_pos (by omega)
 subst hm
 rw [rF hx (by omega),pR k hx.1]
theorem mA {x:Int}(n:Nat)(hx:0≤x∧x<4294967296):0≤x.fdiv (2 ^ n)∧x.fdiv (2 ^ n)<4294967296:=by
 rw [lP]
 have h3:(0:Int)<2 ^ n:=Int.pow_pos (by omega)
 refine⟨Int.ediv_nonneg hx.1 (by omega),?_⟩
 have:=Int.ediv_le_self (2 ^ n) hx.1
 omega
theorem parts_eq {a b:Int}(ha:0≤a∧a<4294967296)(hb:0≤b∧b<4294967296):
 i64.wrap (u32.wrap (BitVec.ofInt u32.bits ((a:Int).fdiv (2 ^ 0)) &&& BitVec.ofInt u32.bits 7).toNat)=(parts a b).typ∧
 i64.wrap (u32.wrap (BitVec.ofInt u32.bits ((a:Int).fdiv (2 ^ 16)) &&& BitVec.ofInt u32.bits 63).toNat)=(parts a b).owner∧
 i64.wrap (u32.wrap (BitVec.ofInt u32.bits b &&& BitVec.ofInt u32.bits 63).toNat)=(parts a b).refs∧
 i64.wrap (u32.wrap (BitVec.ofInt u32.bits ((a:Int).fdiv (2 ^ 4)) &&& BitVec.ofInt u32.bits 3).toNat)=(parts a b).state∧
 ((u32.wrap (BitVec.ofInt u32.bits ((a:Int).fdiv (2 ^ 8)) &&& BitVec.ofInt u32.bits 1).toNat:Int)==1)=(parts a b).bm:=by
 refine⟨?_,?_,?_,?_,?_⟩
 ·rw [mask 3 7 (by decide) (by decide) (mA 0 ha),lP];simp [parts]
 ·rw [mask 6 63 (by decide) (by decide) (mA 16 ha),lP];simp [parts]
 ·rw [mask 6 63 (by decide) (by decide) hb];simp [parts]
 ·rw [mask 2 3 (by decide) (by decide) (mA 4 ha),lP];simp [parts]
 ·rw [Mv 1 1 (by decide) (by decide) (mA 8 ha),lP];simp only [parts];rw [Bool.eq_iff_iff];simp
theorem eqW(a b c d:Int):bN #[.int .u32 a,.int .u32 b] #[.int .u32 c,.int .u32 d]=(decide (a=c) && decide (b=d)):=by
 simp [bN,eqL,mT];rfl
end Ent
end Go.Proofs.YtinhphjfnedhgaaGreatDoor
namespace Go.Proofs.YtinhphjfnedhgaaGreatDoor
open Go.Proofs.Tryz (prog)
open Go Go.RowKit V
open Go.IntKind (i64 u32 u64)
section
set_option maxRecDepth 100000
set_option maxHeartbeats 1000000
attribute [local irreducible] Vc2 VcD
theorem Ent.eqC(a b c d a' b' c' d':Int)(e e':Bool):bN #[.int .i64 a,.int .i64 b,.int .i64 c,.int .i64 d,.bool e] #[.int .i64 a',.int .i64 b',.int .i64 c',.int .i64 d',.bool e']=decide (a=a'∧b=b'∧c=c'∧d=d'∧e=e'):=by
 simp [bN,eqL,mT];rw [Bool.eq_iff_iff];simp
theorem Ent.GZ {e:Ent}:(if e.ok then(0:Int)else 110)=0↔e.ok=true:=by cases e.ok<;>simp
def ph:Ctr Un:=⟨[.one (.int .i64)],[],[],[],fun n K=>K ⟨(.bool (decide (0≤n∧n≤63))),none,[],[],[]⟩⟩
def KB(n:Int)(Q:Ou Un→Prop):Prop:=
 ∃J:Bool→Prop,(
  split (decide (n≥0)) (
   J (decide (n≤63))) (
   J false))∧∀(Pw:Nat→Value)(x2:Bool),J x2→
 Q ⟨(.bool x2),none,[],[],[]⟩
theorem KC:Vc2 Un prog (aQ []) [] Tryz.f199 (.r' (.two (.node [] (some ⟨[(2,(.one .bool))],[],upN 2 7,[]⟩) [] [] .leaf .leaf) .leaf)) [] ph=(∀n,∀Q,(ph.body n Q)→KB n Q):=by kernel_rfl
theorem KA:LV Un prog 199 ph:=verify Tryz.func199 aa (tb:= []) trivial (by kernel_rfl) (KC.mpr fun n Q h=>cY ((decide ((n:Int)≥0)) && (decide ((n:Int)≤63))) (ab (fun c1=>(by show _=_;rw [Bool.eq_iff_iff];simp_all<;>omega)) fun c1=>(by show _=_;rw [Bool.eq_iff_iff];simp_all<;>omega))<| cl h (by rw [Bool.eq_iff_iff];simp))
def mn:Ctr Un:=⟨[.agg [.int .i64,.int .i64,.int .i64,.int .i64,.bool]],[],[],[],fun ea eb ec ed ee K=>K ⟨(.int .i64 (if(Ent.mk ea eb ec ed ee).ok then 0 else 110)),none,[],[],[]⟩⟩
def IC(ea:Int)(eb:Int)(ec:Int)(ed:Int)(ee:Bool)(Q:Ou Un→Prop):Prop:=
 ∀(gv:Nat),
 ∀(NJ:Nat),
 ∃J:Bool→Prop,(
  split (decide (ea≥0)) (
   ∀ok:Bool,ok=(decide ((ea:Int)<7))→
   J ok) (
   ∀ok:Bool,ok=false→
   J ok))∧∀(OJ:Nat→Value)(ok:Bool),J ok→
 ∃J1:Bool→Int→Int→Int→Int→Bool→Prop,(
  split (ea !=0) (
   ∃J2:Bool→Prop,(
    split ok (
     ∀QG:Bool,QG=(decide (0≤eb∧eb≤63))→
     J2 QG) (
     ∀QG:Bool,QG=false→
     J2 QG))∧∀(Ry:Nat→Value)(QG:Bool),J2 QG→
   J1 QG ea eb 0 0 false) (
   J1 ok ea 0 0 0 false))∧∀(Ry:Nat→Value)(QG:Bool) Tt Ts Ug Uf (Ue:Bool),J1 QG Tt Ts Ug Uf Ue→
 ∀Om:Bool,Om=((ea:Int)==1)→
 split Om (
  ∃J2:Bool→Prop,(
   split QG (
    split (decide (0≤ec∧ec≤63)) (
     split (decide (ed>0)) (
      ∀R2:Bool,R2=(decide ((ed:Int)<4))→
      J2 R2) (
      ∀R2:Bool,R2=false→
      J2 R2)) (
     ∀R2:Bool,R2=false→
     J2 R2)) (
    ∀R2:Bool,R2=false→
    J2 R2))∧∀(QD:Nat→Value)(R2:Bool),J2 R2→
  ∃J3:Bool→Prop,(
   split (!R2) (
    J3 true) (
    J3 (!(bN #[(.int .i64 ea),(.int .i64 eb),(.int .i64 ec),(.int .i64 ed),(.bool ee)] #[(.int .i64 Tt),(.int .i64 Ts),(.int .i64 ec),(.int .i64 ed),(.bool Ue)]))))∧∀(ab3:Nat→Value)(Uh:Bool),J3 Uh→
  split Uh (
   Q ⟨(.int .i64 110),none,[],[],[]⟩) (
   Q ⟨(.int .i64 0),none,[],[],[]⟩)) (
  ∀SH:Bool,SH=((ea:Int)==2)→
  split SH (
   ∃J2:Bool→Prop,(
    split (!QG) (
     J2 true) (
     J2 (!(bN #[(.int .i64 ea),(.int .i64 eb),(.int .i64 ec),(.int .i64 ed),(.bool ee)] #[(.int .i64 Tt),(.int .i64 Ts),(.int .i64 Ug),(.int .i64 Uf),(.bool ee)]))))∧∀(QD:Nat→Value)(Uh:Bool),J2 Uh→
   split Uh (
    Q ⟨(.int .i64 110),none,[],[],[]⟩) (
    Q ⟨(.int .i64 0),none,[],[],[]⟩)) (
   ∃J2:Bool→Prop,(
    split (!QG) (
     J2 true) (
     J2 (!(bN #[(.int .i64 ea),(.int .i64 eb),(.int .i64 ec),(.int .i64 ed),(.bool ee)] #[(.int .i64 Tt),(.int .i64 Ts),(.int .i64 Ug),(.int .i64 Uf),(.bool Ue)]))))∧∀(QD:Nat→Value)(Uh:Bool),J2 Uh→
   split Uh (
    Q ⟨(.int .i64 110),none,[],[],[]⟩) (
    Q ⟨(.int .i64 0),none,[],[],[]⟩)))
theorem ID:Vc2 Un prog (aQ [(199,ph)]) [4,30,54] Tryz.f189 (.r' (.r' (.two (.node [] (some ⟨[(4,(.one .bool))],[],[4]++upN 8 8,[]⟩) [] [] .leaf .leaf) (.two (.r' (.node [] (some ⟨[(4,(.one .bool))],[],[4]++upN 19 9,[(1,(.blk [(.v (.int .i64)),(.v (.int .i64)),(.v (.int .i64)),(.v (.int .i64)),(.v .bool)]))]⟩) [] [] (.r' (.node [] (some ⟨[(4,(.one .bool))],[],[4]++upN 22 6,[]⟩) [] [] .leaf .leaf)) .leaf)) (.two (.r' (.two (.r' (.two (.two (.node [] none [] [(1,[0]),(3,[0])] .leaf .leaf) (.node [] (some ⟨[(4,(.one .bool))],[],[4]++upN 38 16,[]⟩) [] [] .leaf .leaf)) .leaf)) .leaf)) (.two (.two (.node [] (some ⟨[(65,(.one .bool))],[],upN 59 7,[]⟩) [] [] .leaf .leaf) .leaf) .leaf)))))) [] mn=(∀ea eb ec ed ee,∀Q,(mn.body ea eb ec ed ee Q)→IC ea eb ec ed ee Q):=by kernel_rfl
section
attribute [local grind=] Ent.ok Ent.eqC
theorem IB:LV Un prog 189 mn:=verify Tryz.func189 aa (tb:= [(199,ph)]) ⟨KA,trivial⟩ (by kernel_rfl) (ID.mpr fun ea eb ec ed ee Q h gv NJ=>cY ((decide ((ea:Int)≥0)) && (decide ((ea:Int)<7))) (ab (fun c1=>allEq<| (by grind)) fun c1=>allEq<| (by grind))<| ⟨fun QG Tt Ts Ug Uf Ue=>(QG=(decide (0≤ea∧ea<7) && (ea==0 || decide (0≤eb∧eb≤63))))∧(Tt=ea∧Ts=(if ea=0 then 0 else eb)∧Ug=0∧Uf=0∧Ue=false),aL (fun c2=>cY (((decide ((ea:Int)≥0)) && (decide ((ea:Int)<7))) && (decide (0≤eb∧eb≤63))) (ab (fun c3=>allEq<| (by grind)) fun c3=>allEq<| (by grind))<| ⟨(by grind),(by grind)⟩) fun c2=>⟨(by grind),(by grind)⟩,fun _ QG Tt Ts Ug Uf Ue ⟨g1,g2⟩=>allEq<| aC (fun c4=>cY (QG && ((decide (0≤ec∧ec≤63)) && ((decide ((ed:Int)>0)) && (decide ((ed:Int)<4))))) (ab (fun c5=>ab (fun c6=>ab (fun c7=>allEq<| (by grind)) fun c7=>allEq<| (by grind)) fun c6=>allEq<| (by grind)) fun c5=>allEq<| (by grind))<| cY ((!(QG && ((decide (0≤ec∧ec≤63)) && ((decide ((ed:Int)>0)) && (decide ((ed:Int)<4)))))) || (!(bN #[(.int .i64 ea),(.int .i64 eb),(.int .i64 ec),(.int .i64 ed),(.bool ee)] #[(.int .i64 Tt),(.int .i64 Ts),(.int .i64 ec),(.int .i64 ed),(.bool Ue)]))) (ab (fun c8=>(by grind)) fun c8=>(by grind))<| bF (fun c9=>ib h (by grind)) fun c9=>ib h (by grind)) fun c4=>allEq<| aC (fun Tr=>cY ((!QG) || (!(bN #[(.int .i64 ea),(.int .i64 eb),(.int .i64 ec),(.int .i64 ed),(.bool ee)] #[(.int .i64 Tt),(.int .i64 Ts),(.int .i64 Ug),(.int .i64 Uf),(.bool ee)]))) (ab (fun VZ=>(by grind)) fun VZ=>(by grind))<| bF (fun c12=>ib h (by grind)) fun c12=>ib h (by grind)) fun Tr=>cY ((!QG) || (!(bN #[(.int .i64 ea),(.int .i64 eb),(.int .i64 ec),(.int .i64 ed),(.bool ee)] #[(.int .i64 Tt),(.int .i64 Ts),(.int .i64 Ug),(.int .i64 Uf),(.bool Ue)]))) (ab (fun Wl=>(by grind)) fun Wl=>(by grind))<| bF (fun c14=>ib h (by grind)) fun c14=>ib h (by grind)⟩)
end
section
attribute [local grind=] Ent.ok
end
def ke:Ctr Un:=⟨[.agg [.int .i64,.int .i64,.int .i64,.int .i64,.bool]],[],[],[],fun ea eb ec ed ee K=>∀(x:Int)(y:Int)(z:Int),((x=(if(Ent.mk ea eb ec ed ee).ok then(Ent.mk ea eb ec ed ee).w0 else 0)∧y=(if(Ent.mk ea eb ec ed ee).ok then(Ent.mk ea eb ec ed ee).w1 else 0)∧z=(if(Ent.mk ea eb ec ed ee).ok then 0 else 110)))→K ⟨(.tuple #[(.agg #[(.int .u32 x),(.int .u32 y)]),(.int .i64 z)]),(some (.t [none,none])),[],[],[]⟩⟩
def Fz(ea:Int)(eb:Int)(ec:Int)(ed:Int)(ee:Bool)(Q:Ou Un→Prop):Prop:=
 ∀(gv:Nat),
 ∀(NJ:Nat),
 split (((if(Ent.mk ea eb ec ed ee).ok then 0 else 110):Int) !=0) (
  Q ⟨(.tuple #[(.agg #[(.int .u32 0),(.int .u32 0)]),(.int .i64 110)]),(some (.t [none,none])),[],[],[]⟩) (
  ∀wv:Int,wv=(u32.wrap (BitVec.ofInt u32.bits (u32.wrap (BitVec.ofInt u32.bits (u32.wrap ((u32.wrap ea:Int)*2 ^ 0)) ||| BitVec.ofInt u32.bits (u32.wrap ((u32.wrap ed:Int)*2 ^ 4))).toNat) ||| BitVec.ofInt u32.bits (u32.wrap ((u32.wrap eb:Int)*2 ^ 16))).toNat)→
  split ee (
   ∀ND:Int,ND=(u32.wrap (BitVec.ofInt u32.bits wv ||| BitVec.ofInt u32.bits 256).toNat)→
   Q ⟨(.tuple #[(.agg #[(.int .u32 ND),(.int .u32 (u32.wrap ec))]),(.int .i64 0)]),(some (.t [none,none])),[],[],[]⟩) (
   Q ⟨(.tuple #[(.agg #[(.int .u32 wv),(.int .u32 (u32.wrap ec))]),(.int .i64 0)]),(some (.t [none,none])),[],[],[]⟩))
theorem FA:Vc2 Un prog (aQ [(189,mn)]) [4] Tryz.f170 .leaf [] ke=(∀ea eb ec ed ee,∀Q,(ke.body ea eb ec ed ee Q)→Fz ea eb ec ed ee Q):=by kernel_rfl
theorem vw:LV Un prog 170 ke:=verify Tryz.func170 aa (tb:= [(189,mn)]) ⟨IB,trivial⟩ (by kernel_rfl) (FA.mpr fun ea eb ec ed ee Q h gv NJ=>aL (fun c1=>(h 0 0 110 (by grind))) fun c1=>allEq<| ab (fun c2=>allEq<| au (h (u32.wrap (BitVec.ofInt u32.bits (u32.wrap (BitVec.ofInt u32.bits (u32.wrap (BitVec.ofInt u32.bits (u32.wrap ((u32.wrap ea:Int)*2 ^ 0)) ||| BitVec.ofInt u32.bits (u32.wrap ((u32.wrap ed:Int)*2 ^ 4))).toNat) ||| BitVec.ofInt u32.bits (u32.wrap ((u32.wrap eb:Int)*2 ^ 16))).toNat) ||| BitVec.ofInt u32.bits 256).toNat) (u32.wrap ec) 0 (by have hk:=Ent.GZ.1 c1;have h1:=Ent.fP hk;have h2:=Ent.lG hk;simp only at h1 h2;rw [if_pos hk,if_pos hk,if_pos hk];refine⟨?_,dE (x:=ec) (by omega),rfl⟩;have h3:=Ent.or0 hk;simp only at h3;rw [h3,Ent.or1 ⟨ea+16*ed,128*eb,by omega⟩];simp [Ent.w0,c2])) (congrArg (fun l=>Value.tuple (List.toArray l)) (ae (congrArg (fun l=>Value.agg (List.toArray l)) (ae rfl (ae (cu (by rfl)) rfl))) (ae rfl rfl))) rfl rfl) fun c2=>au (h (u32.wrap (BitVec.ofInt u32.bits (u32.wrap (BitVec.ofInt u32.bits (u32.wrap ((u32.wrap ea:Int)*2 ^ 0)) ||| BitVec.ofInt u32.bits (u32.wrap ((u32.wrap ed:Int)*2 ^ 4))).toNat) ||| BitVec.ofInt u32.bits (u32.wrap ((u32.wrap eb:Int)*2 ^ 16))).toNat) (u32.wrap ec) 0 (by have hk:=Ent.GZ.1 c1;have h1:=Ent.fP hk;have h2:=Ent.lG hk;simp only at h1 h2;rw [if_pos hk,if_pos hk,if_pos hk];refine⟨?_,dE (x:=ec) (by omega),rfl⟩;have h3:=Ent.or0 hk;simp only at h3;rw [h3];simp [Ent.w0,c2])) (congrArg (fun l=>Value.tuple (List.toArray l)) (ae (congrArg (fun l=>Value.agg (List.toArray l)) (ae rfl (ae (cu (by rfl)) rfl))) (ae rfl rfl))) rfl rfl)
theorem Ent.JG {a b x y z:Int}(h:x=(if(parts a b).ok then(parts a b).w0 else 0)∧y=(if(parts a b).ok then(parts a b).w1 else 0)∧z=(if(parts a b).ok then 0 else 110))(c:(z !=0)=true∨(!(bN #[.int .u32 x,.int .u32 y] #[.int .u32 a,.int .u32 b]))=true):dec a b=free∧fg a b=110:=by
 obtain⟨rfl,rfl,rfl⟩:=h
 rw [eqW]at c
 cases hk:(parts a b).ok<;>simp [hk]at c
 ·simp [dec,fg,hk]
 ·have h2:¬((parts a b).w0=a∧(parts a b).w1=b):=by rcases c with c | c<;>simp [c]
  simp [dec,fg,hk,h2]
theorem Ent.Hd {a b x y z:Int}(h:x=(if(parts a b).ok then(parts a b).w0 else 0)∧y=(if(parts a b).ok then(parts a b).w1 else 0)∧z=(if(parts a b).ok then 0 else 110))(c:(z !=0)=false∧(!(bN #[.int .u32 x,.int .u32 y] #[.int .u32 a,.int .u32 b]))=false):dec a b=parts a b∧fg a b=0:=by
 obtain⟨rfl,rfl,rfl⟩:=h
 rw [eqW]at c
 cases hk:(parts a b).ok<;>simp [hk]at c
 simp [dec,fg,hk,c]
def qj:Ctr Un:=⟨[.agg [.int .u32,.int .u32]],[],[],[],fun wa wb K=>(0≤(wa:Int)∧(wa:Int)<4294967296)∧(0≤(wb:Int)∧(wb:Int)<4294967296)∧K ⟨(.tuple #[(.agg #[(.int .i64 ((Ent.dec wa wb).typ)),(.int .i64 ((Ent.dec wa wb).owner)),(.int .i64 ((Ent.dec wa wb).refs)),(.int .i64 ((Ent.dec wa wb).state)),(.bool ((Ent.dec wa wb).bm))]),(.int .i64 (Ent.fg wa wb))]),(some (.t [none,none])),[],[],[]⟩⟩
def FC(wa:Int)(wb:Int)(Q:Ou Un→Prop):Prop:=
 ∀(gv:Nat),
 ∀(NJ:Nat),
 (0≤(0:Int)∧(0:Int)<(2:Int))∧
 ∀Pg:Int,Pg=(i64.wrap (u32.wrap (BitVec.ofInt u32.bits ((wa:Int).fdiv (2 ^ 0)) &&& BitVec.ofInt u32.bits 7).toNat))→
 (0≤(0:Int)∧(0:Int)<(2:Int))∧
 ∀Oy:Int,Oy=(i64.wrap (u32.wrap (BitVec.ofInt u32.bits ((wa:Int).fdiv (2 ^ 4)) &&& BitVec.ofInt u32.bits 3).toNat))→
 (0≤(0:Int)∧(0:Int)<(2:Int))∧
 ∀Pt:Bool,Pt=((u32.wrap (BitVec.ofInt u32.bits ((wa:Int).fdiv (2 ^ 8)) &&& BitVec.ofInt u32.bits 1).toNat:Int)==1)→
 (0≤(0:Int)∧(0:Int)<(2:Int))∧
 ∀PX:Int,PX=(i64.wrap (u32.wrap (BitVec.ofInt u32.bits ((wa:Int).fdiv (2 ^ 16)) &&& BitVec.ofInt u32.bits 63).toNat))→
 (0≤(1:Int)∧(1:Int)<(2:Int))∧
 ∀Om:Int,Om=(i64.wrap (u32.wrap (BitVec.ofInt u32.bits wb &&& BitVec.ofInt u32.bits 63).toNat))→
 ∀(OB:Nat),
 ∀(x:Int)(y:Int)(z:Int),
 ((x=(if(Ent.mk Pg PX Om Oy Pt).ok then(Ent.mk Pg PX Om Oy Pt).w0 else 0)∧y=(if(Ent.mk Pg PX Om Oy Pt).ok then(Ent.mk Pg PX Om Oy Pt).w1 else 0)∧z=(if(Ent.mk Pg PX Om Oy Pt).ok then 0 else 110)))→
 ∀(NW:Nat),
 ∃J:Bool→Prop,(
  split (z !=0) (
   J true) (
   J (!(bN #[(.int .u32 x),(.int .u32 y)] #[(.int .u32 wa),(.int .u32 wb)]))))∧∀(QD:Nat→Value)(PM:Bool),J PM→
 split PM (
  Q ⟨(.tuple #[(.agg #[(.int .i64 0),(.int .i64 0),(.int .i64 0),(.int .i64 0),(.bool false)]),(.int .i64 110)]),(some (.t [none,none])),[],[],[]⟩) (
  Q ⟨(.tuple #[(.agg #[(.int .i64 Pg),(.int .i64 PX),(.int .i64 Om),(.int .i64 Oy),(.bool Pt)]),(.int .i64 0)]),(some (.t [none,none])),[],[],[]⟩)
theorem FD:Vc2 Un prog (aQ [(170,ke)]) [11,16,21,26,30] Tryz.f121 (.r' (.r' (.two (.r' (.two (.node [] (some ⟨[(43,(.one .bool))],[],upN 37 7,[]⟩) [] [] .leaf .leaf) .leaf)) .leaf))) [] qj=(∀wa wb,∀Q,(qj.body wa wb Q)→FC wa wb Q):=by kernel_rfl
theorem FB:LV Un prog 121 qj:=verify Tryz.func121 aa (tb:= [(170,ke)]) ⟨vw,trivial⟩ (by kernel_rfl) (FD.mpr fun wa wb Q h=>by
 obtain⟨e1,e2,e3,e4,e5⟩:=Ent.parts_eq h.1 h.2.1
 obtain⟨NL,NQ,h⟩:=h
 exact fun gv NJ=>af (by omega) fun s1 Pg P1=>af ‹_› fun s2 Oy UU=>af ‹_› fun s3 Pt US=>af ‹_› fun s4 PX UR=>af (by omega) fun s5 Om UQ OB x y z f6=>(by rw [e1]at P1;rw [e2]at UR;rw [e3]at UQ;rw [e4]at UU;rw [e5]at US;subst P1 UR UQ UU US;exact fun NW=>cY (((z:Int) !=0) || (!(bN #[(.int .u32 x),(.int .u32 y)] #[(.int .u32 wa),(.int .u32 wb)]))) (ab (fun c1=>(by grind)) fun c1=>(by grind))<| bF (fun c2=>(by have hd:=Ent.JG (a:=wa) (b:=wb) f6 c2;exact au h (by rw [hd.1,hd.2]<;>rfl) rfl rfl)) fun c2=>(by have hd:=Ent.Hd (a:=wa) (b:=wb) f6 c2;exact au h (by rw [hd.1,hd.2]<;>rfl) rfl rfl)))
theorem puC {P:Program} {f:Nat} {args:Array Value} {w:World} {v:Value} {k:Option Kn}(h:∀X:Nat→Nat→Prop,Sat (U:=Un) [] X w→ax (U:=Un) [] fr0 []→Calls P f args w (aU (U:=Un) [] [] X w (fun o=>o=⟨v,k,[],[],[]⟩)))(hk:iU k v= .returned v:=by rfl):Calls P f args w fun e w'=>∃u,e= .returned u∧u=v∧Pu w w':=by
 refine(h (fun _ _=>False) ⟨fun i r h=>by simp [nth]at h,fun _ _ _ _ _ _ h=>h.elim⟩ (fun _ _ h=>by cases h)).mono ?_
 rintro e w' ⟨out,rs',X',rfl,rfl,_,hp⟩
 exact⟨_,hk,rfl,hp.ch.mono fun k ⟨j,hj,_⟩=>by cases hj⟩
theorem JB {w:World}(ea eb ec ed:Int)(ee:Bool):
 Calls prog 170 #[(.agg #[(.int .i64 ea),(.int .i64 eb),(.int .i64 ec),(.int .i64 ed),(.bool ee)])] w fun e w'=>∃v,e= .returned v∧v= .tuple #[(.agg #[(.int .u32 (if(Ent.mk ea eb ec ed ee).ok then(Ent.mk ea eb ec ed ee).w0 else 0)),(.int .u32 (if(Ent.mk ea eb ec ed ee).ok then(Ent.mk ea eb ec ed ee).w1 else 0))]),(.int .i64 (if(Ent.mk ea eb ec ed ee).ok then 0 else 110))]∧Pu w w':=
 puC fun X=>vw ea eb ec ed ee (fun o=>o=_) (fun x y z h=>by obtain⟨rfl,rfl,rfl⟩:=h;rfl) X w
theorem Dk {w:World}(wa wb:Int)(ha:0≤wa∧wa<4294967296)(hb:0≤wb∧wb<4294967296):
 Calls prog 121 #[(.agg #[(.int .u32 wa),(.int .u32 wb)])] w fun e w'=>∃v,e= .returned v∧v=(.tuple #[(.agg #[(.int .i64 ((Ent.dec wa wb).typ)),(.int .i64 ((Ent.dec wa wb).owner)),(.int .i64 ((Ent.dec wa wb).refs)),(.int .i64 ((Ent.dec wa wb).state)),(.bool ((Ent.dec wa wb).bm))]),(.int .i64 (Ent.fg wa wb))])∧Pu w w':=
 puC fun X=>FB wa wb (fun o=>o=_) ⟨ha,hb,rfl⟩ X w
end
end Go.Proofs.YtinhphjfnedhgaaGreatDoor
namespace Go.Proofs.YtinhphjfnedhgaaGreatDoor
open Go.Proofs.Tryz (prog)
open Go Go.RowKit V
open Go.IntKind (i64 u32 u64)
section
set_option maxRecDepth 10000
set_option maxHeartbeats 1000000
theorem LH {w:World}(t:Int):
 Calls prog 128 #[(.int .i64 t)] w fun e w'=>∃v,e= .returned v∧v= .bool (DB.turns t)∧Pu w w':=by
 refine xp _ ?_
 have hp:=Ch.refl (fun _=>False) w
 refine⟨fun x w'=>x=(((t:Int)==4) || (((t:Int)==5) || ((t:Int)==6)))∧Pu w w',?_,?_⟩
 ·refine ab (fun c1=>?_) (fun c1=>?_)
  ·exact⟨by simp only [c1,Bool.true_and,Bool.and_true,Bool.false_and,Bool.and_false,Bool.true_or,Bool.or_true,Bool.false_or,Bool.or_false,Bool.not_true,Bool.not_false,if_true,if_false,Bool.false_eq_true],Ch.refl _ _⟩
  ·refine ab (fun c2=>?_) (fun c2=>?_)
   ·exact⟨by simp only [c1,c2,Bool.true_and,Bool.and_true,Bool.false_and,Bool.and_false,Bool.true_or,Bool.or_true,Bool.false_or,Bool.or_false,Bool.not_true,Bool.not_false,if_true,if_false,Bool.false_eq_true],Ch.refl _ _⟩
   ·exact⟨by simp only [c1,c2,Bool.true_and,Bool.and_true,Bool.false_and,Bool.and_false,Bool.true_or,Bool.or_true,Bool.false_or,Bool.or_false,Bool.not_true,Bool.not_false,if_true,if_false,Bool.false_eq_true],Ch.refl _ _⟩
 rintro _ _ wv ⟨rfl,NP⟩
 have hp:=Ch.pu hp NP
 exact⟨congrArg Value.bool (by simp [DB.turns,Bool.or_assoc]),hp⟩
theorem mJ {w:World}(aj:Int):
 Calls prog 78 #[(.int .i64 aj)] w fun e w'=>∃v,e= .returned v∧v= .agg #[(.bool true),(.int .i64 aj)]∧Pu w w':=by
 refine uq _ ?_
 have hp:=Ch.refl (fun _=>False) w
 refine mkd fun gv wv NK=>?_
 have NN:=NK.lo hp
 have Nz:=NK.blk
 refine cp Nz (by simp) fun ND Py=>?_
 have Nz:Blk ND gv #[(.bool true),(.int .i64 aj)] _:=Py.blk
 refine⟨_,_,⟨Nz.at rfl,Nz.at rfl⟩,?_⟩
 have hp:=Ch.call (Ch.made hp NK) Py.ch (by exact fun k e=>.inr (e▸NN))
 exact⟨rfl,hp⟩
theorem BK {L:fh} {D:DB} {w:World}(h:DBP w L D):
 Calls prog 120 #[(.pointer (some (Addr.mk L.g 0 none)))] w fun e w'=>∃v,e= .returned v∧v= .int .i64 (D.S:Int)∧w'=w:=by
 refine pr (some (Addr.mk L.g 0 none)) ?_
 obtain⟨_,dhd_h⟩:=h.hd
 refine ao _ rfl ⟨_,_,_,dhd_h.at rfl,?_⟩
 exact⟨congrArg (Value.int .i64) (by have:=h.S64;rw [aq (by rw [Int.tdiv_eq_ediv_of_nonneg (by omega)];unfold DB.S DB.n2 at *;omega)];rw [Int.tdiv_eq_ediv_of_nonneg (by omega)];unfold DB.S DB.n2;omega),rfl⟩
theorem BL {L:fh} {D:DB} {w:World}(h:DBP w L D)(aj:Int):
 Calls prog 57 #[(.pointer (some (Addr.mk L.g 0 none))),(.int .i64 aj)] w fun e w'=>∃v,e= .returned v∧v= .bool (D.has aj)∧Pu w w':=by
 refine tU (some (Addr.mk L.g 0 none)) _ ?_
 have hp:=Ch.refl (fun _=>False) w
 have OE:=h.lt
 refine⟨fun x w'=>x=((decide ((aj:Int)≥0)) && (decide ((aj:Int)<(D.S:Int))))∧Pu w w',?_,?_⟩
 ·refine ab (fun c1=>?_) (fun c1=>?_)
  ·refine Calls.mono (BK h) ?_
   rintro e w9 ⟨_,rfl,rfl,e9⟩
   obtain rfl:=e9.symm
   refine⟨_,rfl,?_⟩
   exact⟨by simp only [c1,Bool.true_and,Bool.and_true,Bool.false_and,Bool.and_false,Bool.true_or,Bool.or_true,Bool.false_or,Bool.or_false,Bool.not_true,Bool.not_false,if_true,if_false,Bool.false_eq_true],Ch.refl _ _⟩
  ·exact⟨by simp only [c1,Bool.true_and,Bool.and_true,Bool.false_and,Bool.and_false,Bool.true_or,Bool.or_true,Bool.false_or,Bool.or_false,Bool.not_true,Bool.not_false,if_true,if_false,Bool.false_eq_true],Ch.refl _ _⟩
 rintro _ _ wv ⟨rfl,NP⟩
 have hp:=Ch.pu hp NP
 exact⟨congrArg Value.bool (by rw [Bool.eq_iff_iff];simp [DB.has]),hp⟩
theorem dAt {L:fh} {D:DB} {w:World}(h:DBP w L D)(aj:Int)(hp:D.has aj=true):
 Calls prog 58 #[.pointer (some (Addr.mk L.g 0 none)),.int .i64 aj] w fun e w'=>∃v,e= .returned v∧v= .agg #[.int .i64 (D.at_ aj).typ,.int .i64 (D.at_ aj).owner,.int .i64 (D.at_ aj).refs,.int .i64 (D.at_ aj).state,.bool (D.at_ aj).bm]∧Pu w w':=by
 refine FN _ _ ?_
 refine mkd fun gv wv m=>?_
 have h1:=h.pu m.pu
 obtain⟨T,hd⟩:=h1.hd
 obtain⟨T2,cs,hr,Of,hw⟩:=h1.ws
 have hn:=DB.dO hp
 have ho:=DB.ai hp
 have Wj:=h.S64
 have e0:i64.wrap (2*aj)=2*aj:=aq (by omega)
 have e1:(2*aj).toNat=2*aj.toNat:=by omega
 have e2:D.n2=2*D.S:=rfl
 refine ao _ rfl ⟨_,_,_,hd.at rfl,by rw [e0,e2];omega,?_⟩
 rintro _ rfl _ rfl _ rfl
 rw [e0,e1,e2]
 refine⟨by omega,ao (Addr.mk L.a (2*aj.toNat) none) (by rw [if_neg (by omega)];simp [Addr.add];omega) ?_⟩
 refine⟨_,_,⟨by rw [bK];exact hr.cell (hw _ hn).1,by rw [bK];exact hr.cell (hw _ hn).2⟩,?_⟩
 have Pv:=(h.ok.ent _ hn).1
 refine Calls.mono (Dk _ _ (Ent.xI Pv) (Ent.xH Pv)) ?_
 rw [(Ent.wE Pv).1,(Ent.wE Pv).2]
 rintro e w1 ⟨_,rfl,rfl,q1⟩
 refine⟨_,_,_,_,_,_,rfl,?_⟩
 refine mkd fun g1 w2 m1=>?_
 have b1:=m1.blk
 have b0:=m1.old (q1.blk m.blk)
 have ne:=m1.ne (q1.blk m.blk)
 refine cp b1 (by simp) fun w3 s3=>?_
 have Z9:Blk w3 g1 #[.int .i64 (D.at_ aj).typ,.int .i64 (D.at_ aj).owner,.int .i64 (D.at_ aj).refs,.int .i64 (D.at_ aj).state,.bool (D.at_ aj).bm] _:=s3.blk
 refine⟨_,_,_,_,_,⟨Z9.at rfl,Z9.at rfl,Z9.at rfl,Z9.at rfl,Z9.at rfl⟩,?_⟩
 refine cp (s3.old b0 ne) (by simp) fun w4 s4=>?_
 have b0':Blk w4 gv #[.int .i64 (D.at_ aj).typ,.int .i64 (D.at_ aj).owner,.int .i64 (D.at_ aj).refs,.int .i64 (D.at_ aj).state,.bool (D.at_ aj).bm] _:=s4.blk
 refine⟨_,_,_,_,_,⟨b0'.at rfl,b0'.at rfl,b0'.at rfl,b0'.at rfl,b0'.at rfl⟩,?_⟩
 have NL:Pu w wv:=m.pu
 have Oh:Pu w w2:=(NL.trans q1).made m1
 exact⟨rfl,(Oh.stored s3 (.inr (m1.lo (NL.trans q1)))).stored s4 (.inr (m.lo (Ch.refl (fun _=>False) w)))⟩
theorem Es {L:fh} {D:DB} {w:World}(h:DBP w L D)(aj:Int)(ea eb ec ed:Int)(ee:Bool)(hp:D.has aj=true)(he:(Ent.mk ea eb ec ed ee).ok=true)(P6:eb<(D.S:Int)):
 Calls prog 115 #[.pointer (some (Addr.mk L.g 0 none)),.int .i64 aj,.agg #[.int .i64 ea,.int .i64 eb,.int .i64 ec,.int .i64 ed,.bool ee]] w fun e w'=>∃v,e= .returned v∧v= .tuple #[]∧DBP w' L (D.set aj ⟨ea,eb,ec,ed,ee⟩)∧Ch L.X w w':=by
 refine Co _ _ _ _ _ _ _ ?_
 refine mkd fun gv wv m=>?_
 have b:=m.blk
 refine⟨_,_,_,_,_,⟨b.at rfl,b.at rfl,b.at rfl,b.at rfl,b.at rfl⟩,?_⟩
 refine Calls.mono (JB _ _ _ _ _) ?_
 rw [if_pos he,if_pos he,if_pos he]
 rintro e w1 ⟨_,rfl,rfl,q1⟩
 refine⟨_,_,_,rfl,?_⟩
 refine mkd fun g1 w2 m1=>?_
 have p2:Pu w w2:=((show Pu w wv from m.pu).trans q1).made m1
 refine cp m1.blk (by simp) fun w3 s3=>?_
 have b1:Blk w3 g1 #[.int .u32 (Ent.mk ea eb ec ed ee).w0,.int .u32 (Ent.mk ea eb ec ed ee).w1] _:=s3.blk
 have p3:Pu w w3:=p2.stored s3 (.inr (m1.lo ((show Pu w wv from m.pu).trans q1)))
 have h3:=(h.pu p3).pu (Pu.bj w3)
 have b1:=b1.drew
 obtain⟨T,hd⟩:=h3.hd
 obtain⟨T2,cs,hr,Of,hw⟩:=h3.ws
 have hn:=DB.dO hp
 have ho:=DB.ai hp
 have Wj:=h.S64
 have e0:i64.wrap (2*aj)=2*aj:=aq (by omega)
 have e1:(2*aj).toNat=2*aj.toNat:=by omega
 have e2:D.n2=2*D.S:=rfl
 have hga:g1≠L.a:=fun e=>by have h5:=(h.lt L.a (.inr (.inl rfl)));have h6:=m1.lo ((show Pu w wv from m.pu).trans q1);omega
 refine⟨fun _ k=>k=L.g,ao _ rfl ⟨block_add _ _,_,_,_,hd.at rfl,by rw [e0,e2];omega,?_⟩⟩
 rintro _ rfl _ rfl _ rfl _ rfl _ rfl _ rfl
 rw [e0,e1,e2,if_neg (by omega),if_neg (by omega)]
 have hl:dy w3.drew (fun k=>k=g1) .u32 (some ((Addr.mk g1 0 none).add (0*1))) (2 - 0) (2 - 0) [(Ent.mk ea eb ec ed ee).w0,(Ent.mk ea eb ec ed ee).w1]:=
  dy.blk (m:=0) (Z:=fun k=>k=g1) b1 rfl (Nat.le_refl _) rfl (fun j x hx=>by
   match j with
   | 0=>simp at hx;subst hx;rfl
   | 1=>simp at hx;subst hx;rfl
   | j+2=>simp at hx)
 have hA:(Option.map (fun x:Addr=>x.add (2*aj.toNat *1)) (some (Addr.mk L.a 0 none)))=some (Addr.mk L.a (2*aj.toNat) none):=by simp [Addr.add];omega
 rw [hA]
 obtain⟨x,w4,Pa,hw4⟩:=rD (P:=prog) (dT:=62) (sT:=62) (ty:=3) (o:=2*aj.toNat) (dn:=2*D.S - 2*aj.toNat) (dc:=2*D.S - 2*aj.toNat) si hr hl (by rw [Of,e2];omega) (K:=fun w4=>bG w3.drew L.a (setAt cs (2*aj.toNat) [.int .u32 (Ent.mk ea eb ec ed ee).w0,.int .u32 (Ent.mk ea eb ec ed ee).w1]) T2 w4)
  (fun w4 hs=>by rw [show min (2 - 0) (2*D.S - 2*aj.toNat)=2 by omega]at hs;exact hs)
 refine⟨x,w4,Pa,hw4.kept.mono (fun k hk=>by have hk:k=L.g:=(by simpa [cg]using hk);rw [hk];exact fun e=>h.dis.1 e.symm),fun _ k=>k=L.g,fun _ k hk=>hk,rfl,h3.Lb hp he P6 hr hw4,?_⟩
 exact(((p3.mono (by simp):Ch L.X w w3)).drew).stored hw4 (.inl (.inr (.inl rfl)))
theorem LJ {L:fh} {D:DB} {w:World}(h:DBP w L D)(aj:Int):
 Calls prog 18 #[(.pointer (some (Addr.mk L.g 0 none))),(.int .i64 aj)] w fun e w'=>∃v,e= .returned v∧v= .tuple #[(.agg #[(.int .i64 ((D.entry aj).typ)),(.int .i64 ((D.entry aj).owner)),(.int .i64 ((D.entry aj).refs)),(.int .i64 ((D.entry aj).state)),(.bool ((D.entry aj).bm))]),(.int .i64 (D.bc aj))]∧Pu w w':=by
 refine xw (some (Addr.mk L.g 0 none)) _ ?_
 have hp:=Ch.refl (fun _=>False) w
 have OE:=h.lt
 refine mkd fun gv wv NK=>?_
 have NN:=NK.lo hp
 have Nz:=NK.blk
 have h:=h.pu NK.pu
 refine Calls.mono (BL h _) ?_
 rintro e ND ⟨_,rfl,rfl,NH⟩
 refine⟨_,rfl,?_⟩
 refine bL (fun c1=>?_) (fun c1=>?_)
 ·have Nz:=Pu.blk NH Nz
  refine cp Nz (by simp) fun NF OA=>?_
  have Nz:Blk NF gv #[(.int .i64 0),(.int .i64 0),(.int .i64 0),(.int .i64 0),(.bool false)] _:=OA.blk
  refine⟨_,_,_,_,_,⟨Nz.at rfl,Nz.at rfl,Nz.at rfl,Nz.at rfl,Nz.at rfl⟩,?_⟩
  have hp:=Ch.call (Ch.pu (Ch.made hp NK) NH) OA.ch (by exact fun k e=>.inr (e▸NN))
  exact⟨by(simp [DB.entry,DB.bc,c1];done),hp⟩
 ·have h:=h.pu NH
  refine Calls.mono (dAt h _ ‹_›) ?_
  rintro e NF ⟨_,rfl,rfl,N7⟩
  have Nz:=Pu.blk N7 (Pu.blk NH Nz)
  refine⟨_,_,_,_,_,rfl,cp Nz (by simp) fun NI NO=>?_⟩
  have Nz:Blk NI gv #[(.int .i64 ((D.at_ aj).typ)),(.int .i64 ((D.at_ aj).owner)),(.int .i64 ((D.at_ aj).refs)),(.int .i64 ((D.at_ aj).state)),(.bool ((D.at_ aj).bm))] _:=NO.blk
  refine⟨_,_,_,_,_,⟨Nz.at rfl,Nz.at rfl,Nz.at rfl,Nz.at rfl,Nz.at rfl⟩,?_⟩
  have hp:=Ch.call (Ch.pu (Ch.pu (Ch.made hp NK) NH) N7) NO.ch (by exact fun k e=>.inr (e▸NN))
  exact⟨by(simp [DB.entry,DB.bc,c1];done),hp⟩
theorem ta {L:fh} {D:DB} {w:World}(h:DBP w L D)(aj:Int):
 Calls prog 116 #[(.pointer (some (Addr.mk L.g 0 none))),(.int .i64 aj)] w fun e w'=>∃v,e= .returned v∧v= .bool (D.bR aj)∧Pu w w':=by
 refine tT (some (Addr.mk L.g 0 none)) _ ?_
 have hp:=Ch.refl (fun _=>False) w
 have OE:=h.lt
 refine⟨fun x w'=>x=((D.has aj) && ((((D.at_ aj).typ):Int)==1))∧Pu w w',?_,?_⟩
 ·refine Calls.mono (BL h _) ?_
  rintro e wv ⟨_,rfl,rfl,NP⟩
  refine⟨_,rfl,?_⟩
  refine ab (fun c1=>?_) (fun c1=>?_)
  ·have h:=h.pu NP
   refine Calls.mono (dAt h _ ‹_›) ?_
   rintro e ND ⟨_,rfl,rfl,NH⟩
   refine⟨_,_,_,_,_,rfl,?_⟩
   exact⟨by simp only [c1,Bool.true_and,Bool.and_true,Bool.false_and,Bool.and_false,Bool.true_or,Bool.or_true,Bool.false_or,Bool.or_false,Bool.not_true,Bool.not_false,if_true,if_false,Bool.false_eq_true],(Ch.pu NP NH)⟩
  ·exact⟨by simp only [c1,Bool.true_and,Bool.and_true,Bool.false_and,Bool.and_false,Bool.true_or,Bool.or_true,Bool.false_or,Bool.or_false,Bool.not_true,Bool.not_false,if_true,if_false,Bool.false_eq_true],NP⟩
 rintro _ _ wv ⟨rfl,NP⟩
 have hp:=Ch.pu hp NP
 exact⟨congrArg Value.bool (by(simp [DB.bR];done)),hp⟩
theorem KV {L:fh} {D:DB} {w:World}(h:DBP w L D)(space:Int)(more:Int)(hp:D.has space=true)(he:({D.at_ space with refs:=(D.at_ space).refs+more}:Ent).ok=true):
 Calls prog 117 #[(.pointer (some (Addr.mk L.g 0 none))),(.int .i64 space),(.int .i64 more)] w fun e w'=>∃v,e= .returned v∧v= .tuple #[]∧DBP w' L (D.more space more)∧Ch L.X w w':=by
 refine AM (some (Addr.mk L.g 0 none)) _ _ ?_
 have hi:i64.wrap ((D.at_ space).refs+more)=(D.at_ space).refs+more:=aq (by have:=Ent.fP he;simp only at this;omega)
 have ho:=(h.ok.ent _ (DB.dO hp)).2
 have hp:=Ch.refl L.X w
 have OE:=h.lt
 refine Calls.mono (dAt h _ ‹_›) ?_
 rintro e wv ⟨_,rfl,rfl,NP⟩
 refine⟨_,_,_,_,_,rfl,?_⟩
 have hp:=Ch.pu hp NP
 refine mkd fun gv ND NK=>?_
 have NN:=NK.lo hp
 have Nz:=NK.blk
 refine cp Nz (by simp) fun NF OA=>?_
 have Nz:Blk NF gv #[(.int .i64 ((D.at_ space).typ)),(.int .i64 ((D.at_ space).owner)),(.int .i64 ((D.at_ space).refs)),(.int .i64 ((D.at_ space).state)),(.bool ((D.at_ space).bm))] _:=OA.blk
 refine⟨_,Nz.at rfl,bO Nz (by simp) fun NI NO=>?_⟩
 have Nz:Blk NI gv #[(.int .i64 ((D.at_ space).typ)),(.int .i64 ((D.at_ space).owner)),_,(.int .i64 ((D.at_ space).state)),(.bool ((D.at_ space).bm))] _:=NO.blk
 refine⟨_,_,_,_,_,⟨Nz.at rfl,Nz.at rfl,Nz.at rfl,Nz.at rfl,Nz.at rfl⟩,?_⟩
 have h:=(((h.pu NP).pu NK.pu).ch OA.ch (fun k hx e=>(fun hx=>absurd (OE _ hx) (Nat.not_lt.2 NN)) (e▸hx))).ch NO.ch (fun k hx e=>(fun hx=>absurd (OE _ hx) (Nat.not_lt.2 NN)) (e▸hx))
 refine Calls.mono (Es h _ _ _ _ _ _ ‹_› (by rw [hi];exact he) (by exact ho)) ?_
 rintro e NM ⟨_,rfl,rfl,h,Og⟩
 refine⟨rfl,?_⟩
 have hp:=Ch.call (Ch.call (Ch.call (Ch.made hp NK) OA.ch (by exact fun k e=>.inr (e▸NN))) NO.ch (by exact fun k e=>.inr (e▸NN))) Og (by exact fun k hk=>.inl hk)
 exact⟨rfl,by rw [show D.more space more=D.set space ⟨((D.at_ space).typ),((D.at_ space).owner),(i64.wrap (((D.at_ space).refs)+more)),((D.at_ space).state),((D.at_ space).bm)⟩from by rw [hi];rfl];exact h,hp⟩
theorem MM {L:fh} {D:DB} {w:World}(h:DBP w L D)(aj:Int)(t:Int)(space:Int):
 Calls prog 64 #[(.pointer (some (Addr.mk L.g 0 none))),(.int .i64 aj),(.int .i64 t),(.int .i64 space)] w fun e w'=>∃v,e= .returned v∧v= .int .i64 (D.bM aj t space)∧DBP w' L (D.take aj t space)∧Ch L.X w w':=by
 refine AJ (some (Addr.mk L.g 0 none)) _ _ _ ?_
 have h_0:=h
 have hp:=Ch.refl L.X w
 have OE:=h.lt
 refine Calls.mono (BL h _) ?_
 rintro e wv ⟨_,rfl,rfl,NP⟩
 refine⟨_,rfl,?_⟩
 rintro _ rfl
 refine bL (fun c1=>?_) (fun c1=>?_)
 ·have h:=h.pu NP
  have hp:=Ch.pu hp NP
  exact⟨congrArg (Value.int .i64) (by(simp [DB.take,DB.bZ,DB.bM,c1];done)),by rw [show D.take aj t space=D from by(simp [DB.take,DB.bZ,DB.bM,c1];done)];exact h,hp⟩
 ·refine⟨fun x w'=>x=(((t:Int) !=2) && (!(DB.turns t)))∧Pu wv w',?_,?_⟩
  ·refine ab (fun c2=>?_) (fun c2=>?_)
   ·refine Calls.mono (LH _) ?_
    rintro e ND ⟨_,rfl,rfl,NH⟩
    refine⟨_,rfl,?_⟩
    rintro _ rfl
    exact⟨by simp only [c2,Bool.true_and,Bool.and_true,Bool.false_and,Bool.and_false,Bool.true_or,Bool.or_true,Bool.false_or,Bool.or_false,Bool.not_true,Bool.not_false,if_true,if_false,Bool.false_eq_true],NH⟩
   ·rintro _ rfl
    exact⟨by simp only [c2,Bool.true_and,Bool.and_true,Bool.false_and,Bool.and_false,Bool.true_or,Bool.or_true,Bool.false_or,Bool.or_false,Bool.not_true,Bool.not_false,if_true,if_false,Bool.false_eq_true],Ch.refl _ _⟩
  rintro _ _ ND ⟨rfl,NH⟩
  refine cR (fun c3=>?_) (fun c3=>?_)
  ·have h:=(h.pu NP).pu NH
   have hp:=Ch.pu (Ch.pu hp NP) NH
   exact⟨congrArg (Value.int .i64) (by(simp [DB.take,DB.bZ,DB.bM,c1,c3];done)),by rw [show D.take aj t space=D from by(simp [DB.take,DB.bZ,DB.bM,c1,c3];done)];exact h,hp⟩
  ·refine⟨fun x w'=>x=((!(D.bR space)) || (decide ((((D.at_ space).refs):Int)≥63)))∧Pu ND w',?_,?_⟩
   ·have h:=(h.pu NP).pu NH
    refine Calls.mono (ta h _) ?_
    rintro e NF ⟨_,rfl,rfl,N7⟩
    refine⟨_,rfl,?_⟩
    refine ab (fun c4=>?_) (fun c4=>?_)
    ·rintro _ rfl
     exact⟨by simp only [c4,Bool.true_and,Bool.and_true,Bool.false_and,Bool.and_false,Bool.true_or,Bool.or_true,Bool.false_or,Bool.or_false,Bool.not_true,Bool.not_false,if_true,if_false,Bool.false_eq_true],N7⟩
    ·have h:=h.pu N7
     refine Calls.mono (dAt h _ (by grind [DB.take,DB.bZ,DB.bM,DB.bR])) ?_
     rintro e NI ⟨_,rfl,rfl,N0⟩
     refine⟨_,_,_,_,_,rfl,?_⟩
     rintro _ rfl
     exact⟨by simp only [c4,Bool.true_and,Bool.and_true,Bool.false_and,Bool.and_false,Bool.true_or,Bool.or_true,Bool.false_or,Bool.or_false,Bool.not_true,Bool.not_false,if_true,if_false,Bool.false_eq_true],(Ch.pu N7 N0)⟩
   rintro _ _ NF ⟨rfl,N7⟩
   refine bF (fun c5=>?_) (fun c5=>?_)
   ·have h:=((h.pu NP).pu NH).pu N7
    have hp:=Ch.pu (Ch.pu (Ch.pu hp NP) NH) N7
    exact⟨congrArg (Value.int .i64) (by grind [DB.take,DB.bZ,DB.bM]),by rw [show D.take aj t space=D from by grind [DB.take,DB.bZ,DB.bM]];exact h,hp⟩
   ·have h:=((h.pu NP).pu NH).pu N7
    refine Calls.mono (dAt h _ ‹_›) ?_
    rintro e NI ⟨_,rfl,rfl,N0⟩
    refine⟨_,_,_,_,_,rfl,?_⟩
    rintro _ rfl
    refine aL (fun c6=>?_) (fun c6=>?_)
    ·have h:=h.pu N0
     have hp:=Ch.pu (Ch.pu (Ch.pu (Ch.pu hp NP) NH) N7) N0
     exact⟨congrArg (Value.int .i64) (by grind [DB.take,DB.bZ,DB.bM]),by rw [show D.take aj t space=D from by grind [DB.take,DB.bZ,DB.bM]];exact h,hp⟩
    ·have h:=h.pu N0
     refine Calls.mono (Es h _ _ _ _ _ _ ‹_› (by obtain⟨Pn,Sx⟩:=DB.fG (d:=D) (p:=space) (by grind);have:=DB.ai Pn;have:=h.S64;exact DB.GD (by grind) (by omega)) (by obtain⟨Pn,Sx⟩:=DB.fG (d:=D) (p:=space) (by grind);exact(DB.ai Pn).2)) ?_
     rintro e NM ⟨_,rfl,rfl,h,Og⟩
     refine⟨rfl,?_⟩
     refine Calls.mono (KV h _ _ (by obtain⟨Pn,Sx⟩:=DB.fG (d:=D) (p:=space) (by grind);exact Pn) (by obtain⟨Pn,Sx⟩:=DB.fG (d:=D) (p:=space) (by grind);rw [DB.MZ (d:=D) c1 Pn (by omega)];have h3:=(h_0.ok.at_ Pn).1;have h4:=Ent.fP h3;exact DB.vY h3 Sx (by grind))) ?_
     rintro e NZ ⟨_,rfl,rfl,h,Oc⟩
     refine⟨rfl,?_⟩
     have hp:=Ch.call (Ch.call (Ch.pu (Ch.pu (Ch.pu (Ch.pu hp NP) NH) N7) N0) Og (by exact fun k hk=>.inl hk)) Oc (by exact fun k hk=>.inl hk)
     exact⟨congrArg (Value.int .i64) (by grind [DB.take,DB.bZ,DB.bM]),by rw [show D.take aj t space=(D.set aj ⟨t,space,0,0,false⟩).more space 1 from by grind [DB.take,DB.bZ,DB.bM]];exact h,hp⟩
theorem Er {L:fh} {D:DB} {w:World}(h:DBP w L D)(space:Int)(s:Int):
 Calls prog 43 #[(.pointer (some (Addr.mk L.g 0 none))),(.int .i64 space),(.int .i64 s)] w fun e w'=>∃v,e= .returned v∧v= .int .i64 (D.aS space s)∧DBP w' L (D.setState space s)∧Ch L.X w w':=by
 refine rh (some (Addr.mk L.g 0 none)) _ _ ?_
 have hp:=Ch.refl L.X w
 have OE:=h.lt
 refine Calls.mono (BL h _) ?_
 rintro e wv ⟨_,rfl,rfl,NP⟩
 refine⟨_,rfl,?_⟩
 refine bL (fun c1=>?_) (fun c1=>?_)
 ·have h:=h.pu NP
  have hp:=Ch.pu hp NP
  exact⟨congrArg (Value.int .i64) (by(simp [DB.setState,DB.aS,c1];done)),by rw [show D.setState space s=D from by(simp [DB.setState,DB.aS,c1];done)];exact h,hp⟩
 ·have h:=h.pu NP
  refine Calls.mono (dAt h _ ‹_›) ?_
  rintro e ND ⟨_,rfl,rfl,NH⟩
  refine⟨_,_,_,_,_,rfl,?_⟩
  have hp:=Ch.pu (Ch.pu hp NP) NH
  refine mkd fun gv NF NK=>?_
  have NN:=NK.lo hp
  have Nz:=NK.blk
  refine cp Nz (by simp) fun NI NO=>?_
  have Nz:Blk NI gv #[(.int .i64 ((D.at_ space).typ)),(.int .i64 ((D.at_ space).owner)),(.int .i64 ((D.at_ space).refs)),(.int .i64 ((D.at_ space).state)),(.bool ((D.at_ space).bm))] _:=NO.blk
  refine⟨_,Nz.at rfl,?_⟩
  rintro _ rfl
  refine aL (fun c2=>?_) (fun c2=>?_)
  ·have h:=((h.pu NH).pu NK.pu).ch NO.ch (fun k hx e=>(fun hx=>absurd (OE _ hx) (Nat.not_lt.2 NN)) (e▸hx))
   have hp:=Ch.call (Ch.made hp NK) NO.ch (by exact fun k e=>.inr (e▸NN))
   exact⟨congrArg (Value.int .i64) (by(simp [DB.setState,DB.aS,c1,c2];done)),by rw [show D.setState space s=D from by(simp [DB.setState,DB.aS,c1,c2];done)];exact h,hp⟩
  ·refine⟨fun x w'=>x=(((s:Int) !=3) && (((((D.at_ space).state):Int) !=1) || ((s:Int) !=2)))∧Pu NI w',?_,?_⟩
   ·refine ab (fun c3=>?_) (fun c3=>?_)
    ·refine⟨_,Nz.at rfl,?_⟩
     refine ab (fun c4=>?_) (fun c4=>?_)
     ·rintro _ rfl
      exact⟨by simp only [c3,c4,Bool.true_and,Bool.and_true,Bool.false_and,Bool.and_false,Bool.true_or,Bool.or_true,Bool.false_or,Bool.or_false,Bool.not_true,Bool.not_false,if_true,if_false,Bool.false_eq_true],Ch.refl _ _⟩
     ·rintro _ rfl
      exact⟨by simp only [c3,c4,Bool.true_and,Bool.and_true,Bool.false_and,Bool.and_false,Bool.true_or,Bool.or_true,Bool.false_or,Bool.or_false,Bool.not_true,Bool.not_false,if_true,if_false,Bool.false_eq_true],Ch.refl _ _⟩
    ·rintro _ rfl
     exact⟨by simp only [c3,Bool.true_and,Bool.and_true,Bool.false_and,Bool.and_false,Bool.true_or,Bool.or_true,Bool.false_or,Bool.or_false,Bool.not_true,Bool.not_false,if_true,if_false,Bool.false_eq_true],Ch.refl _ _⟩
   rintro _ _ NM ⟨rfl,Og⟩
   refine cR (fun c5=>?_) (fun c5=>?_)
   ·have h:=(((h.pu NH).pu NK.pu).ch NO.ch (fun k hx e=>(fun hx=>absurd (OE _ hx) (Nat.not_lt.2 NN)) (e▸hx))).pu Og
    have hp:=Ch.pu (Ch.call (Ch.made hp NK) NO.ch (by exact fun k e=>.inr (e▸NN))) Og
    exact⟨congrArg (Value.int .i64) (by(simp [DB.setState,DB.aS,c1,c2,c5];done)),by rw [show D.setState space s=D from by(simp [DB.setState,DB.aS,c1,c2,c5];done)];exact h,hp⟩
   ·have Nz:=Pu.blk Og Nz
    refine bO Nz (by simp) fun NZ Pj=>?_
    have Nz:Blk NZ gv #[(.int .i64 ((D.at_ space).typ)),(.int .i64 ((D.at_ space).owner)),(.int .i64 ((D.at_ space).refs)),(.int .i64 s),(.bool ((D.at_ space).bm))] _:=Pj.blk
    refine⟨_,_,_,_,_,⟨Nz.at rfl,Nz.at rfl,Nz.at rfl,Nz.at rfl,Nz.at rfl⟩,?_⟩
    have h:=((((h.pu NH).pu NK.pu).ch NO.ch (fun k hx e=>(fun hx=>absurd (OE _ hx) (Nat.not_lt.2 NN)) (e▸hx))).pu Og).ch Pj.ch (fun k hx e=>(fun hx=>absurd (OE _ hx) (Nat.not_lt.2 NN)) (e▸hx))
    refine Calls.mono (Es h _ _ _ _ _ _ ‹_› (by exact DB.KN (h.ok.at_ c1).1 (by grind) (by grind)) (by exact(h.ok.at_ c1).2.1)) ?_
    rintro e Ol ⟨_,rfl,rfl,h,Ob⟩
    refine⟨rfl,?_⟩
    have hp:=Ch.call (Ch.call (Ch.pu (Ch.call (Ch.made hp NK) NO.ch (by exact fun k e=>.inr (e▸NN))) Og) Pj.ch (by exact fun k e=>.inr (e▸NN))) Ob (by exact fun k hk=>.inl hk)
    exact⟨congrArg (Value.int .i64) (by grind [DB.setState,DB.aS]),by rw [show D.setState space s=D.set space ⟨((D.at_ space).typ),((D.at_ space).owner),((D.at_ space).refs),s,((D.at_ space).bm)⟩from by grind [DB.setState,DB.aS]];exact h,hp⟩
theorem MQ {L:fh} {D:DB} {w:World}(h:DBP w L D)(aj:Int):
 Calls prog 45 #[(.pointer (some (Addr.mk L.g 0 none))),(.int .i64 aj)] w fun e w'=>∃v,e= .returned v∧v= .int .i64 (D.cZ aj)∧DBP w' L (D.dY aj)∧Ch L.X w w':=by
 refine AS (some (Addr.mk L.g 0 none)) _ ?_
 have h_0:=h
 have hp:=Ch.refl L.X w
 have OE:=h.lt
 refine Calls.mono (BL h _) ?_
 rintro e wv ⟨_,rfl,rfl,NP⟩
 refine⟨_,rfl,?_⟩
 refine bL (fun c1=>?_) (fun c1=>?_)
 ·have h:=h.pu NP
  have hp:=Ch.pu hp NP
  exact⟨congrArg (Value.int .i64) (by(simp [DB.dY,DB.aW,DB.cZ,DB.aD,DB.cB,Mem.ei,DB.fR,DB.dB,DB.mem_set,DB.more,c1];done)),by rw [show D.dY aj=D from by(simp [DB.dY,DB.aW,DB.cZ,DB.aD,DB.cB,Mem.ei,DB.fR,DB.dB,DB.mem_set,DB.more,c1];done)];exact h,hp⟩
 ·have h:=h.pu NP
  refine Calls.mono (dAt h _ ‹_›) ?_
  rintro e ND ⟨_,rfl,rfl,NH⟩
  refine⟨_,_,_,_,_,rfl,?_⟩
  have hp:=Ch.pu (Ch.pu hp NP) NH
  refine mkd fun gv NF NK=>?_
  have NN:=NK.lo hp
  have Nz:=NK.blk
  refine cp Nz (by simp) fun NI NO=>?_
  have Nz:Blk NI gv #[(.int .i64 ((D.at_ aj).typ)),(.int .i64 ((D.at_ aj).owner)),(.int .i64 ((D.at_ aj).refs)),(.int .i64 ((D.at_ aj).state)),(.bool ((D.at_ aj).bm))] _:=NO.blk
  refine⟨_,Nz.at rfl,?_⟩
  rintro _ rfl
  refine aC (fun c2=>?_) (fun c2=>?_)
  ·have h:=((h.pu NH).pu NK.pu).ch NO.ch (fun k hx e=>(fun hx=>absurd (OE _ hx) (Nat.not_lt.2 NN)) (e▸hx))
   have hp:=Ch.call (Ch.made hp NK) NO.ch (by exact fun k e=>.inr (e▸NN))
   exact⟨congrArg (Value.int .i64) (by(simp [DB.dY,DB.aW,DB.cZ,DB.aD,DB.cB,Mem.ei,DB.fR,DB.dB,DB.mem_set,DB.more,c1,c2];done)),by rw [show D.dY aj=D from by(simp [DB.dY,DB.aW,DB.cZ,DB.aD,DB.cB,Mem.ei,DB.fR,DB.dB,DB.mem_set,DB.more,c1,c2];done)];exact h,hp⟩
  ·refine⟨fun x w'=>x=(((((D.at_ aj).typ):Int)==1) && (decide ((((D.at_ aj).refs):Int)>0)))∧Pu NI w',?_,?_⟩
   ·refine⟨_,Nz.at rfl,?_⟩
    refine ab (fun c3=>?_) (fun c3=>?_)
    ·refine⟨_,Nz.at rfl,?_⟩
     rintro _ rfl
     exact⟨by simp only [c3,Bool.true_and,Bool.and_true,Bool.false_and,Bool.and_false,Bool.true_or,Bool.or_true,Bool.false_or,Bool.or_false,Bool.not_true,Bool.not_false,if_true,if_false,Bool.false_eq_true],Ch.refl _ _⟩
    ·rintro _ rfl
     exact⟨by simp only [c3,Bool.true_and,Bool.and_true,Bool.false_and,Bool.and_false,Bool.true_or,Bool.or_true,Bool.false_or,Bool.or_false,Bool.not_true,Bool.not_false,if_true,if_false,Bool.false_eq_true],Ch.refl _ _⟩
   rintro _ _ NM ⟨rfl,Og⟩
   refine cR (fun c4=>?_) (fun c4=>?_)
   ·have h:=(((h.pu NH).pu NK.pu).ch NO.ch (fun k hx e=>(fun hx=>absurd (OE _ hx) (Nat.not_lt.2 NN)) (e▸hx))).pu Og
    have hp:=Ch.pu (Ch.call (Ch.made hp NK) NO.ch (by exact fun k e=>.inr (e▸NN))) Og
    exact⟨congrArg (Value.int .i64) (by(simp [DB.dY,DB.aW,DB.cZ,DB.aD,DB.cB,Mem.ei,DB.fR,DB.dB,DB.mem_set,DB.more,c1,c2,c4];done)),by rw [show D.dY aj=D from by(simp [DB.dY,DB.aW,DB.cZ,DB.aD,DB.cB,Mem.ei,DB.fR,DB.dB,DB.mem_set,DB.more,c1,c2,c4];done)];exact h,hp⟩
   ·have h:=(((h.pu NH).pu NK.pu).ch NO.ch (fun k hx e=>(fun hx=>absurd (OE _ hx) (Nat.not_lt.2 NN)) (e▸hx))).pu Og
    refine Calls.mono (Es h _ _ _ _ _ _ ‹_› (by exact Ent.wA) (by have:=DB.ai c1;omega)) ?_
    rintro e NZ ⟨_,rfl,rfl,h,Oc⟩
    refine⟨rfl,?_⟩
    refine⟨fun x w'=>x=(((((D.at_ aj).typ):Int) !=1) && (((D.set aj ⟨0,0,0,0,false⟩).bR ((D.at_ aj).owner)) && (decide (((((D.set aj ⟨0,0,0,0,false⟩).at_ ((D.at_ aj).owner)).refs):Int)>0))))∧Pu NZ w',?_,?_⟩
    ·have Nz:=Ch.blk Oc (Pu.blk Og Nz) (fun hx=>absurd (OE _ hx) (Nat.not_lt.2 NN))
     refine⟨_,Nz.at rfl,?_⟩
     refine ab (fun c5=>?_) (fun c5=>?_)
     ·refine⟨_,Nz.at rfl,?_⟩
      refine Calls.mono (ta h _) ?_
      rintro e Ol ⟨_,rfl,rfl,Ob⟩
      refine⟨_,rfl,?_⟩
      refine ab (fun c6=>?_) (fun c6=>?_)
      ·have Nz:=Pu.blk Ob Nz
       refine⟨_,Nz.at rfl,?_⟩
       have h:=h.pu Ob
       refine Calls.mono (dAt h _ (by grind [DB.dY,DB.aW,DB.cZ,DB.aD,DB.cB,Mem.ei,DB.fR,DB.dB,DB.mem_set,DB.more,DB.bR])) ?_
       rintro e N8 ⟨_,rfl,rfl,N4⟩
       refine⟨_,_,_,_,_,rfl,?_⟩
       exact⟨by simp only [c5,c6,Bool.true_and,Bool.and_true,Bool.false_and,Bool.and_false,Bool.true_or,Bool.or_true,Bool.false_or,Bool.or_false,Bool.not_true,Bool.not_false,if_true,if_false,Bool.false_eq_true],(Ch.pu Ob N4)⟩
      ·exact⟨by simp only [c5,c6,Bool.true_and,Bool.and_true,Bool.false_and,Bool.and_false,Bool.true_or,Bool.or_true,Bool.false_or,Bool.or_false,Bool.not_true,Bool.not_false,if_true,if_false,Bool.false_eq_true],Ob⟩
     ·exact⟨by simp only [c5,Bool.true_and,Bool.and_true,Bool.false_and,Bool.and_false,Bool.true_or,Bool.or_true,Bool.false_or,Bool.or_false,Bool.not_true,Bool.not_false,if_true,if_false,Bool.false_eq_true],Ch.refl _ _⟩
    rintro _ _ Ol ⟨rfl,Ob⟩
    refine cR (fun c7=>?_) (fun c7=>?_)
    ·have Nz:=Pu.blk Ob (Ch.blk Oc (Pu.blk Og Nz) (fun hx=>absurd (OE _ hx) (Nat.not_lt.2 NN)))
     refine⟨_,Nz.at rfl,?_⟩
     have h:=h.pu Ob
     refine Calls.mono (KV h _ _ (by exact(DB.fG (d:=D.set aj ⟨0,0,0,0,false⟩) (by grind)).1) (by have h2:=DB.fG (d:=D.set aj ⟨0,0,0,0,false⟩) (p:=(D.at_ aj).owner) (by grind);have h3:=Ent.fP (h.ok.at_ h2.1).1;exact DB.vY (h.ok.at_ h2.1).1 h2.2 (by grind))) ?_
     rintro e N8 ⟨_,rfl,rfl,h,N4⟩
     refine⟨rfl,?_⟩
     refine⟨bXU [3] [] N8.drew L.M.X,?_⟩
     have h:=h.pu (Pu.bj _)
     obtain⟨_,dhd_h⟩:=h.hd
     refine ao _ rfl ⟨.inr ⟨by decide,bX.ld dhd_h (h.dis.2.1) _⟩,_,dhd_h.at rfl,?_⟩
     refine Calls.mono (mJ _) ?_
     rintro e N5 ⟨_,rfl,rfl,N3⟩
     refine⟨_,_,rfl,?_⟩
     refine bXU.gg N3 (by decide) ?_
     have h:=h.pu N3
     refine Calls.mono (Ha h _ _) ?_
     rintro e Ph ⟨_,rfl,rfl,h,OV⟩
     refine⟨_,rfl,?_⟩
     refine bXU.more OV (by intro k hk;exact .inl hk) (by decide) ?_
     have hp:=Ch.call (Ch.pu (Ch.drew (Ch.call (Ch.pu (Ch.call (Ch.pu (Ch.call (Ch.made hp NK) NO.ch (by exact fun k e=>.inr (e▸NN))) Og) Oc (by exact fun k hk=>.inl hk)) Ob) N4 (by exact fun k hk=>.inl hk))) N3) (OV.mono L.inM) (by exact fun k hk=>.inl hk)
     exact⟨congrArg (Value.int .i64) (by grind [DB.dY,DB.aW,DB.cZ,DB.aD,DB.cB,Mem.ei,DB.fR,DB.dB,DB.mem_set,DB.more]),by rw [show D.dY aj=(((D.set aj ⟨0,0,0,0,false⟩).more ((D.at_ aj).owner) (-1)).aE (((D.set aj ⟨0,0,0,0,false⟩).more ((D.at_ aj).owner) (-1)).mem.zero true aj))from by grind [DB.dY,DB.aW,DB.cZ,DB.aD,DB.cB,Mem.ei,DB.fR,DB.dB,DB.mem_set,DB.more]];exact h,hp⟩
    ·refine⟨bXU [3] [] Ol.drew L.M.X,?_⟩
     have h:=(h.pu Ob).pu (Pu.bj _)
     obtain⟨_,dhd_h⟩:=h.hd
     refine ao _ rfl ⟨.inr ⟨by decide,bX.ld dhd_h (h.dis.2.1) _⟩,_,dhd_h.at rfl,?_⟩
     refine Calls.mono (mJ _) ?_
     rintro e N8 ⟨_,rfl,rfl,N4⟩
     refine⟨_,_,rfl,?_⟩
     refine bXU.gg N4 (by decide) ?_
     have h:=h.pu N4
     refine Calls.mono (Ha h _ _) ?_
     rintro e N5 ⟨_,rfl,rfl,h,N3⟩
     refine⟨_,rfl,?_⟩
     refine bXU.more N3 (by intro k hk;exact .inl hk) (by decide) ?_
     have hp:=Ch.call (Ch.pu (Ch.drew (Ch.pu (Ch.call (Ch.pu (Ch.call (Ch.made hp NK) NO.ch (by exact fun k e=>.inr (e▸NN))) Og) Oc (by exact fun k hk=>.inl hk)) Ob)) N4) (N3.mono L.inM) (by exact fun k hk=>.inl hk)
     exact⟨congrArg (Value.int .i64) (by grind [DB.dY,DB.aW,DB.cZ,DB.aD,DB.cB,Mem.ei,DB.fR,DB.dB,DB.mem_set,DB.more]),by rw [show D.dY aj=((D.set aj ⟨0,0,0,0,false⟩).aE ((D.set aj ⟨0,0,0,0,false⟩).mem.zero true aj))from by grind [DB.dY,DB.aW,DB.cZ,DB.aD,DB.cB,Mem.ei,DB.fR,DB.dB,DB.mem_set,DB.more]];exact h,hp⟩
theorem BJ {L:fh} {D:DB} {w:World}(h:DBP w L D)(space:Int)(first:Int):
 Calls prog 60 #[(.pointer (some (Addr.mk L.g 0 none))),(.int .i64 space),(.int .i64 first)] w fun e w'=>∃v,e= .returned v∧v= .int .i64 (D.aR space first)∧DBP w' L (D.aN space first)∧Ch L.X w w':=by
 refine qk (some (Addr.mk L.g 0 none)) _ _ ?_
 have Wj:=h.S64
 have hbo:=h.ok.av
 have hp:=Ch.refl L.X w
 have OE:=h.lt
 refine⟨fun x w'=>x=((!(D.has space)) || (!(D.has first)))∧Pu w w',?_,?_⟩
 ·refine Calls.mono (BL h _) ?_
  rintro e wv ⟨_,rfl,rfl,NP⟩
  refine⟨_,rfl,?_⟩
  refine ab (fun c1=>?_) (fun c1=>?_)
  ·rintro _ rfl
   exact⟨by simp only [c1,Bool.true_and,Bool.and_true,Bool.false_and,Bool.and_false,Bool.true_or,Bool.or_true,Bool.false_or,Bool.or_false,Bool.not_true,Bool.not_false,if_true,if_false,Bool.false_eq_true],NP⟩
  ·have h:=h.pu NP
   refine Calls.mono (BL h _) ?_
   rintro e ND ⟨_,rfl,rfl,NH⟩
   refine⟨_,rfl,?_⟩
   rintro _ rfl
   exact⟨by simp only [c1,Bool.true_and,Bool.and_true,Bool.false_and,Bool.and_false,Bool.true_or,Bool.or_true,Bool.false_or,Bool.or_false,Bool.not_true,Bool.not_false,if_true,if_false,Bool.false_eq_true],(Ch.pu NP NH)⟩
 rintro _ _ wv ⟨rfl,NP⟩
 refine bF (fun c2=>?_) (fun c2=>?_)
 ·have h:=h.pu NP
  have hp:=Ch.pu hp NP
  exact⟨congrArg (Value.int .i64) (by grind [DB.aN,DB.aV,DB.aR]),by rw [show D.aN space first=D from by grind [DB.aN,DB.aV,DB.aR]];exact h,hp⟩
 ·rintro _ rfl
  refine aC (fun c3=>?_) (fun c3=>?_)
  ·have h:=h.pu NP
   have hp:=Ch.pu hp NP
   exact⟨congrArg (Value.int .i64) (by(simp [DB.aN,DB.aV,DB.aR,c2,c3];done)),by rw [show D.aN space first=D from by(simp [DB.aN,DB.aV,DB.aR,c2,c3];done)];exact h,hp⟩
  ·refine⟨fun x w'=>x=(((((D.at_ space).typ):Int) !=0) || ((((D.at_ first).typ):Int) !=0))∧Pu wv w',?_,?_⟩
   ·have h:=h.pu NP
    refine Calls.mono (dAt h _ (by grind [DB.aN,DB.aV,DB.aR])) ?_
    rintro e ND ⟨_,rfl,rfl,NH⟩
    refine⟨_,_,_,_,_,rfl,?_⟩
    refine ab (fun c4=>?_) (fun c4=>?_)
    ·rintro _ rfl
     exact⟨by simp only [c4,Bool.true_and,Bool.and_true,Bool.false_and,Bool.and_false,Bool.true_or,Bool.or_true,Bool.false_or,Bool.or_false,Bool.not_true,Bool.not_false,if_true,if_false,Bool.false_eq_true],NH⟩
    ·have h:=h.pu NH
     refine Calls.mono (dAt h _ (by grind [DB.aN,DB.aV,DB.aR])) ?_
     rintro e NF ⟨_,rfl,rfl,N7⟩
     refine⟨_,_,_,_,_,rfl,?_⟩
     rintro _ rfl
     exact⟨by simp only [c4,Bool.true_and,Bool.and_true,Bool.false_and,Bool.and_false,Bool.true_or,Bool.or_true,Bool.false_or,Bool.or_false,Bool.not_true,Bool.not_false,if_true,if_false,Bool.false_eq_true],(Ch.pu NH N7)⟩
   rintro _ _ ND ⟨rfl,NH⟩
   refine bF (fun c5=>?_) (fun c5=>?_)
   ·have h:=(h.pu NP).pu NH
    have hp:=Ch.pu (Ch.pu hp NP) NH
    exact⟨congrArg (Value.int .i64) (by grind [DB.aN,DB.aV,DB.aR]),by rw [show D.aN space first=D from by grind [DB.aN,DB.aV,DB.aR]];exact h,hp⟩
   ·have h:=(h.pu NP).pu NH
    obtain⟨_,dhd_h⟩:=h.hd
    refine ao _ rfl ⟨_,dhd_h.at rfl,?_⟩
    rintro _ rfl
    refine ar (fun c6=>?_) (fun c6=>?_)
    ·have hp:=Ch.pu (Ch.pu hp NP) NH
     exact⟨congrArg (Value.int .i64) (by(simp [DB.aN,DB.aV,DB.aR,c2,c3,c5,c6];done)),by rw [show D.aN space first=D from by(simp [DB.aN,DB.aV,DB.aR,c2,c3,c5,c6];done)];exact h,hp⟩
    ·refine Calls.mono (Es h _ _ _ _ _ _ (by(show D.has space=true;grind)) (by have h1:D.has space=true:=(by grind);have:=DB.ai h1;simp only [Ent.ok,decide_eq_true_eq];simp;omega) (by exact(DB.ai (d:=D) (p:=space) (by grind)).2)) ?_
     rintro e NF ⟨_,rfl,rfl,h,N7⟩
     refine⟨rfl,?_⟩
     refine Calls.mono (Es h _ _ _ _ _ _ (by(show D.has first=true;grind)) (by have h1:D.has space=true:=(by grind);have:=DB.ai h1;simp only [Ent.ok,decide_eq_true_eq];simp;omega) (by exact(DB.ai (d:=D) (p:=space) (by grind)).2)) ?_
     rintro e NI ⟨_,rfl,rfl,h,N0⟩
     refine⟨rfl,?_⟩
     refine⟨bXU [3] [] NI.drew L.M.X,?_⟩
     have h:=h.pu (Pu.bj _)
     obtain⟨_,dhd_h⟩:=h.hd
     refine ao _ rfl ⟨.inr ⟨by decide,bX.ld dhd_h (h.dis.2.1) _⟩,_,dhd_h.at rfl,?_⟩
     refine Calls.mono (mJ _) ?_
     rintro e NM ⟨_,rfl,rfl,Og⟩
     refine⟨_,_,rfl,?_⟩
     refine bXU.gg Og (by decide) ?_
     have h:=h.pu Og
     refine Calls.mono (wC h _ _ _ _ (by exact py _)) ?_
     rintro e NZ ⟨_,rfl,rfl,h,Oc⟩
     refine⟨_,rfl,?_⟩
     refine bXU.more Oc (by intro k hk;exact .inl hk) (by decide) ?_
     refine⟨bXU [3,9] [] NZ.drew L.M.X,?_⟩
     have h:=h.pu (Pu.bj _)
     obtain⟨_,dhd_h⟩:=h.hd
     refine ao _ rfl ⟨.inr ⟨by decide,bX.ld dhd_h (h.dis.2.1) _⟩,_,dhd_h.at rfl,ao _ rfl ⟨.inr ⟨by decide,bX.ld dhd_h (h.dis.2.1) _⟩,_,dhd_h.at rfl,?_⟩⟩
     refine Calls.mono (mJ _) ?_
     rintro e Ol ⟨_,rfl,rfl,Ob⟩
     refine⟨_,_,rfl,?_⟩
     refine bXU.gg Ob (by decide) ?_
     have h:=h.pu Ob
     refine Calls.mono (wC h _ _ _ _ (by exact py _)) ?_
     rintro e N8 ⟨_,rfl,rfl,h,N4⟩
     refine⟨_,rfl,?_⟩
     refine bXU.more N4 (by intro k hk;exact .inl hk) (by decide) ?_
     refine⟨bXU [3] [] N8.drew L.M.X,?_⟩
     have h:=h.pu (Pu.bj _)
     obtain⟨_,dhd_h⟩:=h.hd
     refine ao _ rfl ⟨.inr ⟨by decide,bX.ld dhd_h (h.dis.2.1) _⟩,_,dhd_h.at rfl,?_⟩
     refine Calls.mono (mJ _) ?_
     rintro e N5 ⟨_,rfl,rfl,N3⟩
     refine⟨_,_,rfl,?_⟩
     refine bXU.gg N3 (by decide) ?_
     have h:=h.pu N3
     refine Calls.mono (wC h _ _ _ _ (by omega)) ?_
     rintro e Ph ⟨_,rfl,rfl,h,OV⟩
     refine⟨_,rfl,?_⟩
     refine bXU.more OV (by intro k hk;exact .inl hk) (by decide) ?_
     obtain⟨_,dhd_h⟩:=h.hd
     refine ao _ rfl ⟨_,dhd_h.at rfl,ao _ rfl (bO dhd_h (by simp) fun Ql S3=>?_)⟩
     have h:=h.DY S3 (by show 0≤i64.wrap (D.av+1)∧i64.wrap (D.av+1)≤64;rw [aq (by omega)];omega)
     have hp:=Ch.call (Ch.call (Ch.pu (Ch.drew (Ch.call (Ch.pu (Ch.drew (Ch.call (Ch.pu (Ch.drew (Ch.call (Ch.call (Ch.pu (Ch.pu hp NP) NH) N7 (by exact fun k hk=>.inl hk)) N0 (by exact fun k hk=>.inl hk))) Og) (Oc.mono L.inM) (by exact fun k hk=>.inl hk))) Ob) (N4.mono L.inM) (by exact fun k hk=>.inl hk))) N3) (OV.mono L.inM) (by exact fun k hk=>.inl hk)) S3.ch (by exact fun k e=>.inl (by subst e;exact .inl rfl))
     exact⟨congrArg (Value.int .i64) (by(simp [DB.aN,DB.aV,DB.aR,c2,c3,c5,c6];done)),by rw [show D.aN space first=(((((D.set space ⟨1,space,1,1,false⟩).set first ⟨3,space,0,0,false⟩).aE (((D.set space ⟨1,space,1,1,false⟩).set first ⟨3,space,0,0,false⟩).mem.write true space 0 (u32.wrap first))).aE ((((D.set space ⟨1,space,1,1,false⟩).set first ⟨3,space,0,0,false⟩).aE (((D.set space ⟨1,space,1,1,false⟩).set first ⟨3,space,0,0,false⟩).mem.write true space 0 (u32.wrap first))).mem.write true space 1 (u32.wrap ((((D.set space ⟨1,space,1,1,false⟩).set first ⟨3,space,0,0,false⟩).aE (((D.set space ⟨1,space,1,1,false⟩).set first ⟨3,space,0,0,false⟩).mem.write true space 0 (u32.wrap first))).av)))).aE (((((D.set space ⟨1,space,1,1,false⟩).set first ⟨3,space,0,0,false⟩).aE (((D.set space ⟨1,space,1,1,false⟩).set first ⟨3,space,0,0,false⟩).mem.write true space 0 (u32.wrap first))).aE ((((D.set space ⟨1,space,1,1,false⟩).set first ⟨3,space,0,0,false⟩).aE (((D.set space ⟨1,space,1,1,false⟩).set first ⟨3,space,0,0,false⟩).mem.write true space 0 (u32.wrap first))).mem.write true space 1 (u32.wrap ((((D.set space ⟨1,space,1,1,false⟩).set first ⟨3,space,0,0,false⟩).aE (((D.set space ⟨1,space,1,1,false⟩).set first ⟨3,space,0,0,false⟩).mem.write true space 0 (u32.wrap first))).av)))).mem.write true space 2 0)).gH (i64.wrap (((((((D.set space ⟨1,space,1,1,false⟩).set first ⟨3,space,0,0,false⟩).aE (((D.set space ⟨1,space,1,1,false⟩).set first ⟨3,space,0,0,false⟩).mem.write true space 0 (u32.wrap first))).aE ((((D.set space ⟨1,space,1,1,false⟩).set first ⟨3,space,0,0,false⟩).aE (((D.set space ⟨1,space,1,1,false⟩).set first ⟨3,space,0,0,false⟩).mem.write true space 0 (u32.wrap first))).mem.write true space 1 (u32.wrap ((((D.set space ⟨1,space,1,1,false⟩).set first ⟨3,space,0,0,false⟩).aE (((D.set space ⟨1,space,1,1,false⟩).set first ⟨3,space,0,0,false⟩).mem.write true space 0 (u32.wrap first))).av)))).aE (((((D.set space ⟨1,space,1,1,false⟩).set first ⟨3,space,0,0,false⟩).aE (((D.set space ⟨1,space,1,1,false⟩).set first ⟨3,space,0,0,false⟩).mem.write true space 0 (u32.wrap first))).aE ((((D.set space ⟨1,space,1,1,false⟩).set first ⟨3,space,0,0,false⟩).aE (((D.set space ⟨1,space,1,1,false⟩).set first ⟨3,space,0,0,false⟩).mem.write true space 0 (u32.wrap first))).mem.write true space 1 (u32.wrap ((((D.set space ⟨1,space,1,1,false⟩).set first ⟨3,space,0,0,false⟩).aE (((D.set space ⟨1,space,1,1,false⟩).set first ⟨3,space,0,0,false⟩).mem.write true space 0 (u32.wrap first))).av)))).mem.write true space 2 0)).av)+1))from by have h5:D.has first=true:=(by grind);have h6:=DB.ai h5;have e1:u32.wrap first=first:=dE (by omega);have e2:u32.wrap D.av=D.av:=dE (by omega);have e3:i64.wrap (D.av+1)=D.av+1:=aq (by omega);show D.aN space first=(((((D.set space ⟨1,space,1,1,false⟩).set first ⟨3,space,0,0,false⟩)).aE (((D.mem.write true space 0 (u32.wrap first)).write true space 1 (u32.wrap D.av)).write true space 2 0)).gH (i64.wrap (D.av+1)));rw [e1,e2,e3];unfold DB.aN;rw [if_pos (by grind [DB.aR])];rfl];exact h,hp⟩
end
section
set_option maxRecDepth 10000
set_option maxHeartbeats 1000000
end
section
set_option maxRecDepth 10000
set_option maxHeartbeats 1000000
theorem Nw {L:eQ} {m:Mem} {w:World}(h:cv w L m)(hS:1≤m.S):
 Calls prog 29 #[(.pointer (some (Addr.mk L.g 0 none)))] w fun e w'=>∃v,e= .returned v∧∃g:Nat,∃a:Nat,v= .pointer (some (Addr.mk g 0 none))∧cv w' L (m.dw m.S)∧DBP w' ⟨g,a,L⟩ (DB.new m)∧(w.heap.size≤g∧w.heap.size≤a)∧Ch L.X w w':=by
 refine Cq (some (Addr.mk L.g 0 none)) ?_
 have hm:=h.dV
 have hp:=Ch.refl L.X w
 have OE:=h.lt
 refine jm ?_
 refine Calls.mono (v9 h) ?_
 rintro e w9 ⟨_,rfl,rfl,e9⟩
 obtain rfl:=e9.symm
 refine⟨_,rfl,?_⟩
 refine⟨fun mz x8 W=>mz=(m.S - x8).toNat∧(0≤x8∧x8≤m.S)∧Ch L.X w W∧cv W L (m.dw x8.toNat),⟨_,rfl,(by omega),hp,by exact h⟩,?_⟩
 rintro _ _ x8 ND ⟨rfl,h0,hp,h⟩
 refine ar (fun c1=>?_) (fun c1=>?_)
 ·refine Calls.mono (mJ _) ?_
  rintro e NF ⟨_,rfl,rfl,N7⟩
  refine⟨_,_,rfl,?_⟩
  have h:=h.pu N7
  refine Calls.mono (KQ h _ _) ?_
  rintro e NI ⟨_,rfl,rfl,h,N0⟩
  refine⟨_,rfl,?_⟩
  have hp:=Ch.call (Ch.pu hp N7) N0 (by exact fun k hk=>.inl hk)
  exact⟨_,by rw [IntKind.wrap_i64];omega,rfl,by rw [IntKind.wrap_i64];omega,hp,by rw [Mem.AZ _ (by omega)];exact h⟩
 ·have Sl:=h.lt
  have TW:=hp
  have hx:x8.toNat=m.S:=by omega
  have QH:=h.dV.1
  have V9:Int.toNat (i64.wrap (2*(((m.dw x8.toNat).S:Nat):Int)))=2*m.S:=by rw [Mem.mu,aq (by omega)];omega
  refine Calls.mono (v9 h) ?_
  rintro e w9 ⟨_,rfl,rfl,e9⟩
  obtain rfl:=e9.symm
  refine⟨_,rfl,?_⟩
  refine GP oa ((⟨0⟩:U32)) (by rfl) (n:=(i64.wrap (2*((m.dw x8.toNat).S)))) (by rw [aq (by omega)];omega) (by rw [aq (by omega)];omega) (by rw [aq (by omega)];omega) fun UY NI PO O8=>?_
  have lo_g_wv3:=PO.lo hp
  refine mkd fun NJ NM NX=>?_
  have NC:=NX.blk
  have h:=(h.pu PO.pu).pu NX.pu
  have hp:=Ch.made (Ch.made hp PO) NX
  exact⟨NJ,UY,rfl,by rw [show(m.dw m.S)=(m.dw x8.toNat)from by rw [hx]];exact h,⟨⟨_,Blk.cast NC (by rw [V9];show _=_;simp only [DB.n2,DB.new,Mem.mu])⟩,⟨_,_,Made.old NX PO.blk,by rw [Array.size_replicate,V9];show _=2*(m.dw m.S).S;rw [Mem.mu],fun p hp=>by have Qq:p<m.S:=(by rwa [DB.KO]at hp);exact⟨CR (by rw [V9];omega),CR (by rw [V9];omega)⟩⟩,by show cv _ _ (m.dw m.S);rw [← hx];exact h,DB.nm m hS,by have:=NX.num;have:=PO.lt;simp only [];omega,fun hh=>absurd (show NJ<ND.heap.size from Sl _ hh) (by have:=NX.num;have:=PO.kept.size;omega),fun hh=>absurd (show UY<ND.heap.size from Sl _ hh) (by have:=PO.num;omega)⟩,by have h1:=NX.num;have h2:=PO.num;have h3:=PO.kept.size;have h4:=TW.size;omega,hp⟩
theorem LG {L:fh} {D:DB} {w:World}(h:DBP w L D):
 Calls prog 52 #[(.pointer (some (Addr.mk L.g 0 none)))] w fun e w'=>∃v,e= .returned v∧∃g:Nat,∃n:Nat,v= .slice (some (Addr.mk g 0 none)) n n∧Own w' (fun k=>k=g) 29 (some (Addr.mk g 0 none)) n n (D.words.map U32.mk)∧w.heap.size≤g∧Pu w w':=by
 refine xo (some (Addr.mk L.g 0 none)) ?_
 have Wj:=h.S64
 have hb:=h.ok.av
 have T4:Int.toNat (i64.wrap (1+((D.n2:Nat):Int)))=1+2*D.S:=by have:D.n2=2*D.S:=rfl;rw [aq (by omega)];omega
 have hp:=Ch.refl (fun _=>False) w
 have OE:=h.lt
 obtain⟨_,dhd_h⟩:=h.hd
 refine ao _ rfl ⟨_,_,_,dhd_h.at rfl,?_⟩
 refine jq oa (n:=(i64.wrap (1+((D.n2:Nat):Int)))) (by have:D.n2=2*D.S:=rfl;rw [aq (by omega)];omega) (by have:D.n2=2*D.S:=rfl;rw [aq (by omega)];omega) (by have:D.n2=2*D.S:=rfl;rw [aq (by omega)];omega) fun Z4 wv Qn=>?_
 have lo_g_wv:=Qn.lo hp
 have PL:Blk wv Z4 (bI (List.replicate (Int.toNat (i64.wrap (1+((D.n2:Nat):Int)))) 0)) 29:=Qn.blk.cast (fL _ _)
 have dhd_h:=Made.old Qn dhd_h
 refine ao _ rfl ⟨_,dhd_h.at rfl,⟨by omega,ao _ rfl (nh (i:=0) PL (by simp only [List.length_replicate,T4];omega) fun ND Py=>?_)⟩⟩
 have PL:=Py.blk
 refine⟨bXU [] [5] ND.drew (fun _=>False),?_⟩
 refine⟨by omega,?_⟩
 rintro _ rfl _ rfl _ rfl
 have dhd_h:=Blk.drew (Ch.blk Py.ch dhd_h (fun e=>absurd (OE _ (by exact .inl rfl)) (Nat.not_lt.2 (by rw [e];exact lo_g_wv))))
 refine ao _ rfl ⟨.inl (by decide),_,_,_,dhd_h.at rfl,?_⟩
 have PL:=Blk.drew PL
 have h:=((h.pu Qn.pu).ch Py.ch (fun k hx e=>(fun hx=>absurd (OE _ hx) (Nat.not_lt.2 lo_g_wv)) (e▸hx))).pu (Pu.bj _)
 refine oF oa PL (o:=1) Hg (by(simp;omega)) (h).ints (by(have:D.n2=2*D.S:=rfl;simp only [List.length_set,List.length_replicate];omega)) fun NF OA=>?_
 have PL:=OA.blk
 refine bXU.sD OA.ch (by decide) ?_
 have hp:=Ch.call (Ch.drew (Ch.call (Ch.made hp Qn) Py.ch (by exact fun k e=>.inr (e▸lo_g_wv)))) OA.ch (by exact fun k e=>.inr (e▸lo_g_wv))
 exact⟨Z4,_,by rfl,by have hw:=DB.lay (D:=D) T4;have hbu:u32.wrap D.av=D.av:=dE (by omega);have h9:=PL;rw [hbu]at h9;have e:(min D.n2 (Int.toNat (i64.wrap (1+((D.n2:Nat):Int))) - Int.toNat 1))=min (2*D.S) (Int.toNat (i64.wrap (1+((D.n2:Nat):Int))) - 1):=rfl;rw [e,hw]at h9;exact Own.ofRow h9 (by rw [D.eT,T4]) (by omega),lo_g_wv,hp⟩
theorem Ld:S1 prog 234 3 (.int .i64 0) 8:=S1.of (by kernel_rfl) (by kernel_rfl) rfl
theorem La:SN prog 234 3 (.int .i64 0) 1 8:=Ld.sn
end
section
set_option maxRecDepth 10000
set_option maxHeartbeats 1000000
theorem Dq {g n c:Nat} {mp A:Option Addr} {b:Int} {T:TypeId} {w:World}(hb:Blk w g #[.pointer mp,.int .i64 b,.slice A (2*n) c] T)(hn:n≤64):
 Calls prog 120 #[(.pointer (some (Addr.mk g 0 none)))] w fun e w'=>∃v,e= .returned v∧v= .int .i64 (n:Int)∧w'=w:=by
 refine pr (some (Addr.mk g 0 none)) ?_
 refine ao _ rfl ⟨_,_,_,hb.at rfl,?_⟩
 exact⟨congrArg (Value.int .i64) (by rw [aq (by rw [Int.tdiv_eq_ediv_of_nonneg (by omega)];omega)];rw [Int.tdiv_eq_ediv_of_nonneg (by omega)];omega),rfl⟩
theorem MP {g n c:Nat} {mp A:Option Addr} {b:Int} {T:TypeId} {w:World}(hb:Blk w g #[.pointer mp,.int .i64 b,.slice A (2*n) c] T)(hn:n≤64)(aj:Int):
 Calls prog 57 #[(.pointer (some (Addr.mk g 0 none))),(.int .i64 aj)] w fun e w'=>∃v,e= .returned v∧v= .bool (decide (0≤aj∧aj<(n:Int)))∧Pu w w':=by
 refine tU (some (Addr.mk g 0 none)) _ ?_
 refine⟨fun x w'=>x=((decide ((aj:Int)≥0)) && (decide ((aj:Int)<(n:Int))))∧Pu w w',?_,?_⟩
 ·refine ab (fun c1=>?_) (fun c1=>?_)
  ·refine Calls.mono (Dq hb hn) ?_
   rintro e w9 ⟨_,rfl,rfl,e9⟩
   obtain rfl:=e9.symm
   exact⟨_,rfl,by simp only [c1,Bool.true_and],Ch.refl _ _⟩
  ·exact⟨by simp only [c1,Bool.false_and],Ch.refl _ _⟩
 rintro _ _ wv ⟨rfl,NP⟩
 exact⟨congrArg Value.bool (by rw [Bool.eq_iff_iff];simp),NP⟩
theorem DB.yy {m:Mem} {l:List U32}(h:¬l.length=1+2*m.S):DB.ay m l=110:=by unfold DB.ay;rw [if_pos h]
theorem DB.Eg {m:Mem} {l:List U32}(h:l.length=1+2*m.S)(hb:DB.wd l 0>64):DB.ay m l=110:=by unfold DB.ay;rw [if_neg (by simpa using h),if_pos hb]
theorem DB.uS {m:Mem} {l:List U32}(h:l.length=1+2*m.S)(hb:¬DB.wd l 0>64):DB.ay m l=if(List.range m.S).all (DB.lh m l)then 0 else 110:=by unfold DB.ay;rw [if_neg (by simpa using h),if_neg hb]
theorem DB.fF {m:Mem} {l:List U32}(h:l.length=1+2*m.S)(hb:¬DB.wd l 0>64) {p:Nat}(hp:p<m.S)(he:DB.lh m l p=false):DB.ay m l=110:=by
 rw [uS h hb,if_neg]
 intro hh
 have:=List.all_eq_true.1 hh p (List.mem_range.2 hp)
 rw [he]at this;cases this
theorem DB.qx {m:Mem} {l:List U32}(h:l.length=1+2*m.S)(hb:¬DB.wd l 0>64)(hp:∀p,p<m.S→DB.lh m l p=true):DB.ay m l=0:=by
 rw [uS h hb,if_pos (List.all_eq_true.2 fun p h=>hp p (List.mem_range.1 h))]
theorem DB.ri {l:List U32} {i:Nat}:((l.drop 1).map U32.v).getD i 0=DB.wd l (1+i):=by
 unfold DB.wd
 rw [List.getD_eq_getElem?_getD,List.getD_eq_getElem?_getD,List.getElem?_map,List.getElem?_drop]
 cases l[1+i]? <;>rfl
theorem DB.A6 {l:List U32}(hw:∀x∈l,0≤x.v∧x.v<4294967296)(i:Nat):0≤DB.wd l i∧DB.wd l i<4294967296:=by
 unfold DB.wd
 rw [List.getD_eq_getElem?_getD]
 by_cases hi:i<l.length
 ·rw [List.getElem?_eq_getElem hi];exact hw _ (List.getElem_mem hi)
 ·rw [List.getElem?_eq_none (by omega)];show(0:Int)≤0∧(0:Int)<_;omega
theorem MN {L:eQ} {m:Mem} {Z:Nat→Prop} {wordsA:Option Addr} {wordsN wordsC:Nat} {l:List U32} {w:World}(h:cv w L m)(hz:Rd w Z wordsA wordsN wordsC l)(hw:∀x∈l,0≤x.v∧x.v<4294967296):
 Calls prog 50 #[(.pointer (some (Addr.mk L.g 0 none))),(.slice wordsA wordsN wordsC)] w fun e w'=>∃v,e= .returned v∧∃p:Option Addr,v= .tuple #[.pointer p,.int .i64 (DB.ay m l)]∧
  (DB.ay m l=0→∃g a,p=some (Addr.mk g 0 none)∧DBP w' ⟨g,a,L⟩ (DB.load m l)∧w.heap.size≤g∧w.heap.size≤a)∧(DB.ay m l≠0→p=none)∧Pu w w':=by
 have hm:=h.dV
 have hl:=hz.len
 have VG:=hz.cap
 have Od:=hz.lt
 have Z5:i64.wrap (1+i64.wrap (2*(m.S:Int)))=1+2*(m.S:Int):=by rw [aq (x:=2*(m.S:Int)) (by omega),aq (by omega)]
 refine AO (some (Addr.mk L.g 0 none)) wordsA wordsN wordsC ?_
 refine⟨fun b w'=>b=(decide (¬l.length=1+2*m.S) || decide (DB.wd l 0>64))∧Pu w w',?_,?_⟩
 ·refine jm ?_
  refine Calls.mono (v9 h) ?_
  rintro e w1 ⟨_,rfl,rfl,rfl⟩
  refine⟨_,rfl,?_⟩
  refine aL (fun c1=>?_) (fun c1=>?_)
  ·rw [Z5]at c1
   exact⟨by rw [show decide (¬l.length=1+2*m.S)=true by simp;omega];rfl,Ch.refl _ _⟩
  ·rw [Z5]at c1
   refine⟨by omega,?_⟩
   obtain⟨p,hA,hZ,hc⟩:=hz.u32 (by omega)
   refine ao p hA ⟨_,hc 0 (by omega),?_,Ch.refl _ _⟩
   rw [show decide (¬l.length=1+2*m.S)=false by simp;omega,Bool.false_or];rfl
 rintro _ _ wv ⟨rfl,q⟩
 refine bF (fun c1=>?_) (fun c1=>?_)
 ·have he:DB.ay m l=110:=by
   simp only [decide_eq_true_eq]at c1
   by_cases hn:l.length=1+2*m.S
   ·rcases c1 with c1 | c1
    ·exact absurd hn c1
    ·exact DB.Eg hn c1
   ·exact DB.yy hn
  exact⟨none,by rw [he],by rw [he];intro hh;omega,fun _=>rfl,q⟩
 simp only [decide_eq_false_iff_not,Classical.not_not]at c1
 obtain⟨hlen,hb⟩:=c1
 have TW:=(hz.pu q).pu (Pu.bj _)
 obtain⟨p,hA,hZ,hc⟩:=TW.u32 (by omega)
 refine⟨bXU [3] [] wv.drew (fun _=>False),by omega,ao p hA ⟨.inr ⟨by decide,bX.lt (TW.lt _ hZ) (fun h=>h)⟩,_,hc 0 (by omega),?_⟩⟩
 have en:i64.wrap (((wordsN:Nat):Int) - 1)=2*(m.S:Int):=by rw [aq (by omega)];omega
 rw [en]
 refine jq oa (n:=2*(m.S:Int)) (by omega) (by omega) (by omega) fun ga ND ma=>?_
 refine bXU.gg ma.pu (by decide) ?_
 refine mkd fun gv NF mv=>?_
 refine bXU.gg mv.pu (by decide) ?_
 have q0:Pu w wv.drew:=q.drew
 have loa:=ma.lo q0
 have q1:Pu w ND:=q0.made ma
 have lov:=mv.lo q1
 have q2:Pu w NF:=q1.made mv
 have ba:Blk NF.drew ga (bI (List.replicate (2*(m.S:Int)).toNat 0)) _:=(mv.old (ma.blk.cast (fL _ _))).drew
 have bv:=mv.blk.drew
 have OG:=mv.ne ma.blk
 have V4:=((TW.pu ma.pu).pu mv.pu).pu (Pu.bj _)
 refine⟨bXU [] [3] NF.drew (fun _=>False),.inl (by decide),_,_,_,bv.at rfl,by omega,?_⟩
 rintro xA e1 xN e2 xC e3
 have r:=Rd.from_ (lo:=Int.toNat 1) V4 e1 e2 e3 (by omega) (by omega)
 refine pZ oa ba rfl r.ints (by simp;omega) fun NI s3=>?_
 refine bXU.sD s3.ch (by decide) ?_
 have OK:jg (List.replicate (2*(m.S:Int)).toNat 0) 0 (((l.drop (Int.toNat 1)).map U32.v).take (min xN (2*(m.S:Int)).toNat))=(l.drop 1).map U32.v:=by
  rw [List.take_of_length_le (by rw [e2];simp;omega)]
  exact n8 _ _ (by simp;omega)
 have ba:=s3.blk
 rw [OK]at ba
 have bv:=s3.old bv (fun e=>OG e.symm)
 have q3:Pu w NI:=(q2.drew).stored s3 (.inr loa)
 have e2S:(2*(m.S:Int)).toNat=2*m.S:=by omega
 rw [e2S]at bv
 refine Calls.mono (Dq bv hm.1) ?_
 rintro e w4 ⟨_,rfl,rfl,rfl⟩
 refine⟨_,rfl,?_⟩
 refine⟨fun mz x W=>mz=((m.S:Int) - x).toNat∧(0≤x∧x≤(m.S:Int))∧Pu w W∧Blk W gv #[.pointer (some (Addr.mk L.g 0 none)),.int .i64 (i64.wrap (DB.wd l 0)),.slice (some (Addr.mk ga 0 none)) (2*m.S) (2*m.S)] 110∧Blk W ga (bI ((l.drop 1).map U32.v)) 29∧∀q,q<x.toNat→DB.lh m l q=true,
  ⟨_,rfl,⟨by omega,by omega⟩,q3,bv,ba,fun q hq=>by omega⟩,?_⟩
 rintro _ _ x w5 ⟨rfl,hx,q5,bv,ba,T8⟩
 have Su:((l.drop 1).map U32.v).length=2*m.S:=by simp;omega
 refine ar (fun c2=>?_) (fun c2=>?_)
 ·have ex:i64.wrap (2*x)=2*x:=aq (by omega)
  have ext:(2*x).toNat=2*x.toNat:=by omega
  refine⟨_,_,_,bv.at rfl,by rw [ex];omega,?_⟩
  rintro _ rfl _ rfl _ rfl
  rw [ex,ext]
  refine⟨by omega,ao (Addr.mk ga (2*x.toNat) none) (by rw [if_neg (by omega)];simp [Addr.add];omega) ?_⟩
  refine⟨_,_,⟨by rw [bK];exact ba.cell (eG (by rw [Su];omega)),by rw [bK];exact ba.cell (eG (by rw [Su];omega))⟩,?_⟩
  have ea:((l.drop 1).map U32.v).getD (2*x.toNat+0) 0=DB.wd l (1+2*x.toNat):=DB.ri
  have eb:((l.drop 1).map U32.v).getD (2*x.toNat+1) 0=DB.wd l (2+2*x.toNat):=by rw [DB.ri];congr 1;omega
  rw [ea,eb]
  refine Calls.mono (Dk _ _ (DB.A6 hw _) (DB.A6 hw _)) ?_
  rintro e w6 ⟨_,rfl,rfl,q6⟩
  refine⟨_,_,_,_,_,_,rfl,?_⟩
  refine mkd fun ge w7 me=>?_
  have be:=me.blk
  refine cp be (by simp) fun w8 s8=>?_
  have be:Blk w8 ge #[.int .i64 (Ent.dec (DB.wd l (1+2*x.toNat)) (DB.wd l (2+2*x.toNat))).typ,.int .i64 (Ent.dec (DB.wd l (1+2*x.toNat)) (DB.wd l (2+2*x.toNat))).owner,.int .i64 (Ent.dec (DB.wd l (1+2*x.toNat)) (DB.wd l (2+2*x.toNat))).refs,.int .i64 (Ent.dec (DB.wd l (1+2*x.toNat)) (DB.wd l (2+2*x.toNat))).state,.bool (Ent.dec (DB.wd l (1+2*x.toNat)) (DB.wd l (2+2*x.toNat))).bm] _:=s8.blk
  have q7:Pu w w7:=(q5.pu q6).made me
  have q8:Pu w w8:=q7.stored s8 (.inr (me.lo (q5.pu q6)))
  have nv:=me.ne (q6.blk bv)
  have na:=me.ne (q6.blk ba)
  have bv:=s8.old (me.old (q6.blk bv)) nv
  have ba:=s8.old (me.old (q6.blk ba)) na
  have how:0≤(Ent.dec (DB.wd l (1+2*x.toNat)) (DB.wd l (2+2*x.toNat))).owner∨Ent.fg (DB.wd l (1+2*x.toNat)) (DB.wd l (2+2*x.toNat))≠0:=by
   by_cases hd:Ent.fg (DB.wd l (1+2*x.toNat)) (DB.wd l (2+2*x.toNat))=0
   ·exact .inl (Ent.fP (Ent.g8 hd).1).2.2.1
   ·exact .inr hd
  refine⟨fun b W=>b= !(DB.lh m l x.toNat)∧Pu w W∧Blk W gv #[.pointer (some (Addr.mk L.g 0 none)),.int .i64 (i64.wrap (DB.wd l 0)),.slice (some (Addr.mk ga 0 none)) (2*m.S) (2*m.S)] 110∧Blk W ga (bI ((l.drop 1).map U32.v)) 29,?_,?_⟩
  ·refine aL (fun c3=>?_) (fun c3=>?_)
   ·exact⟨by unfold DB.lh;simp [c3],q8,bv,ba⟩
   ·refine⟨_,be.at rfl,?_⟩
    refine Calls.mono (MP bv hm.1 _) ?_
    rintro e w9 ⟨_,rfl,rfl,q9⟩
    refine⟨_,rfl,?_,q8.pu q9,q9.blk bv,q9.blk ba⟩
    unfold DB.lh
    have Qu:Ent.fg (DB.wd l (1+2*x.toNat)) (DB.wd l (2+2*x.toNat))=0:=by simpa using c3
    have h0:=how.resolve_right (fun h=>h Qu)
    rw [Qu]
    simp [h0]
  rintro _ _ w9 ⟨rfl,q9,bv,ba⟩
  refine bL (fun c4=>?_) (fun c4=>?_)
  ·have he:=DB.fF hlen hb (p:=x.toNat) (by omega) c4
   exact⟨none,by rw [he],by rw [he];intro hh;omega,fun _=>rfl,q9⟩
  ·have e9:i64.wrap (x+1)=x+1:=aq (by omega)
   refine⟨_,?_,rfl,?_,q9,bv,ba,fun q hq=>?_⟩
   ·rw [e9];omega
   ·rw [e9];omega
   ·rw [e9]at hq
    by_cases hqx:q=x.toNat
    ·subst hqx;exact c4
    ·exact T8 q (by omega)
 ·have Ow:∀p,p<m.S→DB.lh m l p=true:=fun p hp=>T8 p (by omega)
  have he:=DB.qx hlen hb Ow
  refine⟨some (Addr.mk gv 0 none),by rw [he],fun _=>⟨gv,ga,rfl,?_,lov,loa⟩,fun hh=>absurd he hh,q5⟩
  have Vx:∀k,L.X k→k<w.heap.size:=h.lt
  refine⟨⟨110,?_⟩,⟨_,_,ba,by rw [eV,Su];rfl,fun p hp=>?_⟩,h.pu q5,DB.Jq hw he,fun e=>OG e,fun hx=>absurd (Vx _ hx) (Nat.not_lt.2 lov),fun hx=>absurd (Vx _ hx) (Nat.not_lt.2 loa)⟩
  ·have hw0:=DB.A6 hw 0
   rw [aq (by omega)]at bv
   exact bv
  ·have hp:p<m.S:=hp
   have ho:=Ow p hp
   unfold DB.lh at ho
   simp only [Bool.and_eq_true,beq_iff_eq]at ho
   have hd:=Ent.g8 ho.1
   refine⟨?_,?_⟩
   ·rw [eG (by rw [Su];omega),DB.ri]
    show _=some (Value.int .u32 (Ent.dec _ _).w0)
    rw [hd.2.1]
   ·rw [eG (by rw [Su];omega),DB.ri]
    show _=some (Value.int .u32 (Ent.dec _ _).w1)
    rw [hd.2.2]
    congr 3;omega
end
section
namespace V
section
variable {U:Uni}
theorem aU.uQ {rs:List (Res U)} {X:Nat→Nat→Prop} {w w':World} {Q:Ou U→Prop} {v:Value} {k:Option Kn} {Z:Nat→Prop} {r:Res U} {kc:List (Key×Kn)}(hs:Sat rs X w)(q:Pu w w')(hr:RS Z w' r)(hz:∀k,Z k→w.heap.size≤k)(hQ:Q ⟨v,k,[],[r],kc⟩)(hk:KnO (rs++ [r]) v k)
 (VA:∀key k,(key,k)∈kc→fX (rs++ [r]) fr0 key k):aU rs [] X w Q (.returned v) w':=by
 obtain⟨out,rs',X',h1,rfl,h3,h4⟩:=aU.more (Q:=fun o=>o=⟨v,k,[],[r],[]⟩) hs q hr hz rfl hk
 have h3:rs=rs':=by simpa [bJ]using h3
 subst h3
 exact⟨⟨v,k,[],[r],kc⟩,rs,X',fU hk,hQ,rfl,⟨h4.sat,h4.ch,h4.same,h4.grow,h4.new,h4.kr,fun key k hm _=>VA key k hm⟩⟩
theorem aU.GB {t:Nat} {rm:Nat→Nat} {m m':U.ty t} {X:Nat→Nat→Prop} {w w':World} {Q:Ou U→Prop} {v:Value} {k:Option Kn} {Z0 Z1:Nat→Prop} {r:Res U} {kc:List (Key×Kn)}(q:Ch (X 0) w w')(hp:U.pred t rm m' Z0 w')(hz0:∀k,Z0 k→X 0 k∨w.heap.size≤k)(hr:RS Z1 w' r)(TW:∀k,Z1 k→w.heap.size≤k)(hd:∀k,Z0 k→¬Z1 k)
 (hQ:Q ⟨v,k,[.ob t m'],[r],kc⟩)(hk:KnO [.ob t rm m',r] v k)(VA:∀key k,(key,k)∈kc→fX [.ob t rm m',r] fr0 key k):aU [.ob t rm m] [0] X w Q (.returned v) w':=by
 refine⟨_,[.ob t rm m'],fun i=>if i=0 then Z0 else if i=1 then Z1 else X i,fU hk,hQ,by simp [bJ,dI,nth,cK],⟨⟨fun i r' NV=>?_,fun i j hi hj OH k Pb OC=>?_⟩,q.mono fun k hk=>⟨0,by simp,hk⟩,fun i hi hm=>?_,fun i hi k hk=>?_,fun i h1 h2 k hk=>?_,.inr hk,fun key k hm _=>VA key k hm⟩⟩
 ·match i with
  | 0=>simp only [List.cons_append,List.nil_append,nth,Option.some.injEq]at NV;subst NV;exact hp
  | 1=>simp only [List.cons_append,List.nil_append,nth,Option.some.injEq]at NV;subst NV;exact hr
  | i+2=>simp [nth]at NV
 ·simp at hi hj
  match i,j,hi,hj,OH with
  | 0,1,_,_,_=>exact hd k Pb OC
  | 1,0,_,_,_=>exact hd k OC Pb
  | 0,0,_,_,h=>exact h rfl
  | 1,1,_,_,h=>exact h rfl
 ·simp at hi hm;omega
 ·simp at hi;subst hi;exact hz0 k hk
 ·simp at h1 h2
  obtain rfl:i=1:=by omega
  exact TW k hk
theorem KnO.pair {rs:List (Res U)} {a b:Value} {p:PK}(h:den U rs p=some a):KnO rs (.tuple #[a,b]) (some (.t [some p,none])):=
 ⟨_,rfl,fun j k hj=>by
  match j,hj with
  | 0,hj=>simp only [nth,Option.some.injEq]at hj;subst hj;exact⟨a,rfl,h⟩
  | 1,hj=>simp [nth]at hj
  | j+2,hj=>simp [nth]at hj⟩
theorem wq {rs:List (Res U)} {fr:Fr} {key:Key} {k:Kn}(h:fX rs fr key k):∀key' k',(key',k')∈ [(key,k)]→fX rs fr key' k':=fun key' k' hm=>by
 simp only [List.mem_singleton,Prod.mk.injEq]at hm
 obtain⟨rfl,rfl⟩:=hm
 exact h
theorem aU.Ly {a a':Res U} {rest:List (Res U)} {u:Upd U} {X:Nat→Nat→Prop} {w w':World} {Q:Ou U→Prop} {v:Value} {k:Option Kn} {Z:Nat→Prop}(hs:Sat (a::rest) X w)(q:Ch (X 0) w w')(hu:dI a u=some a')(hp:RS Z w' a')(hz:∀k,Z k→X 0 k∨w.heap.size≤k)(hQ:Q ⟨v,k,[u],[],[]⟩)(hk:KnO (a'::rest) v k):aU (a::rest) [0] X w Q (.returned v) w':=by
 refine⟨_,a'::rest,fun i=>if i=0 then Z else X i,fU hk,hQ,by simp [bJ,hu,nth,cK],⟨⟨fun i r hr=>?_,fun i j hi hj OH k Pb OC=>?_⟩,q.mono fun k hk=>⟨0,by simp,hk⟩,fun i hi hm=>?_,fun i hi k hk=>?_,fun i h1 h2=>by simp at h1 h2;omega,.inr (by simpa using hk),fun _ k hk=>by cases hk⟩⟩
 ·rw [List.append_nil]at hr
  match i with
  | 0=>simp only [nth,Option.some.injEq]at hr;subst hr;exact hp
  | i+1=>exact(hs.res (i+1) r hr).ch q fun k hk h0=>hs.dis 0 (i+1) (by simp) (aX hr) (by omega) k h0 hk
 ·simp at hi hj
  have key:∀j,j<rest.length+1→j≠0→Z k→X j k→False:=fun j hj h0 hZ hX=>by
   rcases hz k hZ with h | h
   ·exact hs.dis 0 j (by simp) (by simpa using hj) (by omega) k h hX
   ·have:=hs.lt (i:=j) (by simpa using hj) k hX;omega
  by_cases h1:i=0
  ·have h2:¬j=0:=by omega
   simp only [h1,if_true,if_neg h2]at Pb OC
   exact key j hj h2 Pb OC
  ·simp only [if_neg h1]at Pb
   by_cases h2:j=0
   ·simp only [h2,if_true]at OC
    exact key i hi h1 OC Pb
   ·simp only [if_neg h2]at OC
    exact hs.dis i j (by simpa using hi) (by simpa using hj) OH k Pb OC
 ·simp at hm;simp only [if_neg hm]
 ·simp at hi;subst hi;exact hz k hk
theorem aU.first {t:Nat} {r:Nat→Nat} {s s':U.ty t} {rest:List (Res U)} {X:Nat→Nat→Prop} {w w':World} {Q:Ou U→Prop} {v:Value} {k:Option Kn} {Z:Nat→Prop}(hs:Sat (.ob t r s::rest) X w)(q:Ch (X 0) w w')(hp:U.pred t r s' Z w')(hz:∀k,Z k→X 0 k∨w.heap.size≤k)(hQ:Q ⟨v,k,[.ob t s'],[],[]⟩)(hk:KnO (.ob t r s'::rest) v k):aU (.ob t r s::rest) [0] X w Q (.returned v) w':=
 aU.Ly (a':= .ob t r s') hs q (by simp [dI]) hp hz hQ hk
end
end V
theorem Dg.iL {d:Dg}(h:d.Ok):d.save.length=26:=by
 have h1:=h.len
 have h2:=h.n
 unfold Dg.save
 simp
 omega
theorem Gl {l:List Int}(h:l.length=26):Value.agg (bI l)= .agg #[.int .u32 (l.getD 0 0),.int .u32 (l.getD 1 0),.int .u32 (l.getD 2 0),.int .u32 (l.getD 3 0),.int .u32 (l.getD 4 0),.int .u32 (l.getD 5 0),.int .u32 (l.getD 6 0),.int .u32 (l.getD 7 0),.int .u32 (l.getD 8 0),.int .u32 (l.getD 9 0),.int .u32 (l.getD 10 0),.int .u32 (l.getD 11 0),.int .u32 (l.getD 12 0),.int .u32 (l.getD 13 0),.int .u32 (l.getD 14 0),.int .u32 (l.getD 15 0),.int .u32 (l.getD 16 0),.int .u32 (l.getD 17 0),.int .u32 (l.getD 18 0),.int .u32 (l.getD 19 0),.int .u32 (l.getD 20 0),.int .u32 (l.getD 21 0),.int .u32 (l.getD 22 0),.int .u32 (l.getD 23 0),.int .u32 (l.getD 24 0),.int .u32 (l.getD 25 0)]:=by
 rcases l with _ | ⟨a0,_ | ⟨a1,_ | ⟨a2,_ | ⟨a3,_ | ⟨a4,_ | ⟨a5,_ | ⟨a6,_ | ⟨a7,_ | ⟨a8,_ | ⟨a9,_ | ⟨b0,_ | ⟨b1,_ | ⟨b2,_ | ⟨b3,_ | ⟨b4,_ | ⟨b5,_ | ⟨b6,_ | ⟨b7,_ | ⟨b8,_ | ⟨b9,_ | ⟨c0,_ | ⟨c1,_ | ⟨c2,_ | ⟨c3,_ | ⟨c4,_ | ⟨c5,_ | ⟨c6,r⟩⟩⟩⟩⟩⟩⟩⟩⟩⟩⟩⟩⟩⟩⟩⟩⟩⟩⟩⟩⟩⟩⟩⟩⟩⟩⟩
 all_goals first | rfl | (simp at h;done)
end
end Go.Proofs.YtinhphjfnedhgaaGreatDoor
