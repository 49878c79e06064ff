/- BuildMeasures returns true for every input, and each argument reads behind the call as it read before; what the listed variable reads as is tied to the program's text; no condition. -/
import Derived.Test.YtinhphjfnedhgaaGreatDoorY2
import Derived.KernelRfl
set_option linter.unusedVariables false
set_option linter.unusedSimpArgs false
namespace Go.Proofs.YtinhphjfnedhgaaGreatDoor.V
open Go Go.RowKit
open Go.IntKind (i64 u32 u64)
section
section
variable {U:Uni} {P:Program} {tbl:Tb U} {may:List Nat} {k0:Nat}
variable {w0:World} {X0 X:Nat→Nat→Prop} {w:World} {fr:Fr} {st:St U} {n:Nat} {N:List Nat} {ops:Array Oper}
def MSw(P:Program):Ln:=fun B o ρ w F=>∃v,F v∧∀w',Kept (held B w) w w'→(execOp ρ o).run P w'= .ok (.value v) w'
theorem vl {F G:Nat→Prop}:∀ {l:List Nat},Bz F l→(∀i,F i→G i)→Bz G l
 | [],_,_=>trivial
 | [_],h,hg=>hg _ h
 | _::j::r,h,hg=>⟨hg _ h.1,vl (l:=j::r) h.2 hg⟩
theorem y8 {b:Nat→Nat→Prop}:∀ {l:List Nat} {k:Nat},bW b l k→∃i,i∈l∧b i k
 | [i],k,h=>⟨i,by simp,h⟩
 | i::j::r,k,h=>by
  rcases h with h | h
  ·exact⟨i,by simp,h⟩
  ·obtain⟨i',h1,h2⟩:=y8 (l:=j::r) h
   exact⟨i',List.mem_cons_of_mem _ h1,h2⟩
theorem FM {α:Type}(M L:List α):jA ((M++L).length - L.length) (M++L)=M:=by
 rw [fq,List.length_append,Nat.add_sub_cancel,List.take_left]
theorem K3 {rs:List (Res U)} {p:PK} {v:Value}(h:den U rs p=some v):p.id<rs.length:=by
 unfold den at h
 cases hn:nth rs p.id with
 | none=>rw [hn]at h;cases p<;>simp [cz]at h
 | some r=>exact bc hn
theorem BOk.step {V:List Nat} {rd:List (Nat×List Nat)} {b:Nat→Nat→Prop}(hb:BOk V rd b st.rs X w) {st':St U} {X':Nat→Nat→Prop} {w':World} {M:List Nat}(hs:eA w0 k0 X0 may fr st X w st' X' w' M):
 BOk V rd (fun i k=>b i k∨∃id,id∈qm i rd∧id<st'.rs.length∧X' id k) st'.rs X' w':=by
 refine⟨fun i id k h1 h2 h3=>.inr ⟨id,h1,h2,h3⟩,fun i k h=>.inl (hb.all i k h),fun i k hi hk=>?_⟩
 rcases hk with hk | ⟨id,h1,h2,h3⟩
 ·obtain⟨h4,h5⟩:=hb.only i k hi hk
  refine⟨Nat.lt_of_lt_of_le h4 hs.ch.size,fun j hj hx=>?_⟩
  by_cases R5:j<st.rs.length
  ·by_cases hm:j∈M
   ·rcases hs.grow j hm k hx with h6 | h6
    ·exact h5 j R5 h6
    ·omega
   ·rw [(hs.same j R5 hm).2]at hx
    exact h5 j R5 hx
  ·have:=hs.new j (Nat.le_of_not_lt R5) hj k hx
   omega
 ·refine⟨hs.inv.sat.lt h2 k h3,fun j hj hx=>?_⟩
  by_cases Ob:id=j
  ·rw [← Ob];exact h1
  ·exact absurd hx (hs.inv.sat.dis id j h2 hj Ob k h3)
theorem Bv {V:List Nat} {rd:List (Nat×List Nat)} {M beh:List Nat}(h:Bw V rd M beh=true):∀i,i∈beh→i ∉ V∧∀j,j∈M→j ∉ qm i rd:=by
 intro i hi
 have:=cI.1 h i hi
 simp only [Bool.and_eq_true,Bool.not_eq_true']at this
 refine⟨fun hv=>?_,fun j hj hr=>?_⟩
 ·rw [fh.2 hv]at this;cases this.1
 ·have h2:=cI.1 this.2 j hj
  rw [fh.2 hr]at h2;cases h2
theorem BOk.kept {V:List Nat} {rd:List (Nat×List Nat)} {b:Nat→Nat→Prop}(hb:BOk V rd b st.rs X w) {st':St U} {X':Nat→Nat→Prop} {w':World} {M:List Nat}(hs:eA w0 k0 X0 may fr st X w st' X' w' M) {beh:List Nat}(h:Bw V rd M beh=true):Kept (bW b beh) w w':=by
 refine hs.ch.kept.mono fun k hk=>?_
 obtain⟨i,hi,hbi⟩:=y8 hk
 obtain⟨h1,h2⟩:=Bv h i hi
 obtain⟨h3,h4⟩:=hb.only i k h1 hbi
 exact⟨h3,fun⟨j,hj,hx⟩=>h2 j hj (h4 j (hs.mlt j hj) hx)⟩
theorem IC {o:Oper} {kn:List (Key×Kn)} {x:Nat}(h:rdX o kn X x):∃t a p,o.op= .load t a∧kf kn a=some (.p p)∧X p.id x:=by
 unfold rdX at h
 cases hop:o.op<;>simp only [hop]at h
 rename_i t a
 cases hk:V.kf kn a with
 | none=>simp only [hk]at h
 | some k=>cases k<;>simp only [hk]at h;exact⟨t,a,_,rfl,hk,h⟩
theorem FK {all:Bool} {V:List Nat} {rd:List (Nat×List Nat)} {K:Fr→St U→Prop}(Ot:∀f c,tbl.c f=some c→LV U P f c∧cj P f=true):
 ∀(fuel:Nat)(listed:Array Bool)(fr:Fr)(st0 st:St U)(Xs X:Nat→Nat→Prop)(w:World)(ds:List Deferred)(b:Nat→Nat→Prop),(all=false→BOk V rd b st.rs X w)→(all=true→∀i k,b i k)→Steps w0 k0 X0 may st0 Xs st X w→av st.rs fr st.kn→fr.ds=ds→
  tX U P tbl may k0 n N ops all V rd K fuel listed fr st→
  qL P (fun o ρ w K=>opW P false none o ρ w K) (MSw P) n N ops (Aft w0 k0 X0 may st0 Xs ds K) fuel (some b) listed fr w:=by
 intro fuel
 induction fuel with
 | zero=>
  intro listed fr st0 st Xs X w ds b hb NQ hS hk hd h
  simp only [tX]at h
  simp only [qL]
  split at h
  ·rename_i QN
   try simp only [QN]
   exact⟨st,X,hS,hk,hd,h⟩
  ·exact h.elim
 | succ fuel ih=>
  intro listed fr st0 st Xs X w ds b hb NQ hS hk hd h
  simp only [tX]at h
  simp only [qL]
  split at h
  ·rename_i QN
   try simp only [QN]
   exact⟨st,X,hS,hk,hd,h⟩
  ·rename_i i0 r0 QN
   try simp only [QN]
   split at h
   ·rename_i i hfa
    try simp only [hfa]
    split at h
    ·rename_i o ho
     try simp only [ho]
     refine lD h (fun fr' hl Pf hq=>?_) (fun fr' hl Pf h=>?_)
     ·have Qo:=hk.same hl
      clear h
      have h:=hq
      clear hq
      cases Nv:GI o with
      | true=>simp only [Nv]at h
      | false=>
      cases Sd:KD all V rd i o st.kn with
      | false=>simp only [Nv,Sd]at h
      | true=>
       simp only [Nv,Sd]at h
       obtain⟨v,k,h1,h2,h3⟩:=uT hS.inv.sat Qo h
       refine⟨v,?_,fun w' hw=>h3 w' (hw.mono fun x hx=>?_)⟩
       ·refine il (jF h1 Qo h2) fun Og hp=>?_
        obtain⟨OD,e1,e2,h4,h5,h6⟩:=hp
        exact ih _ Og st0 OD Xs X w ds b (by rw [e1];exact hb) NQ (hS.kn e1 e2) (by rw [e1];exact h4) (by rw [h5,Pf,hd]) h6
       ·show b i x
        obtain⟨t,a,p,hop,hp,hx⟩:=IC hx
        unfold KD at Sd
        simp only [hop,hp]at Sd
        by_cases ha:all=true
        ·exact NQ ha i x
        have hb:=hb (by simpa using ha)
        split at Sd
        ·rename_i hv
         rcases Bool.or_eq_true_iff.1 hv with hv | hv
         ·exact absurd hv ha
         ·exact hb.all i x (fh.1 hv)
        ·have hpk:=Qo.kf a
         rw [hp]at hpk
         exact hb.has i p.id x (fh.1 Sd) (K3 (show den U st.rs p=some _ from hpk)) hx
     ·refine il (jF h (hk.same hl) trivial) fun Og hp=>?_
      obtain⟨OD,e1,e2,h4,h5,h6⟩:=hp
      exact ih _ Og st0 OD Xs X w ds b (by rw [e1];exact hb) NQ (hS.kn e1 e2) (by rw [e1];exact h4) (by rw [h5,Pf,hd]) h6
    ·exact h.elim
   ·split at h
    ·exact h.elim
    ·rename_i U0 _
     try simp only [U0]
     refine vl h fun i h=>?_
     split at h
     ·rename_i o ho
      try simp only [ho]
      refine lD h (fun fr' hl Pf h=>?_) (fun fr' hl Pf h=>?_)
      ·have Qo:=hk.same hl
       refine sy (Gk (CO Ot hS.inv Qo h) fun ch w' ⟨_,_,_,_,_,h,_⟩=>h.elim) fun v w' hp=>?_
       obtain⟨k,st',X',M,h1,h2,h3⟩:=hp
       have h1:=CJ h1
       split at h1
       ·rename_i hap
        rw [h3.md,FM]at hap
        refine il (jF h1 h3.kn h2) fun Og hp=>?_
        obtain⟨OD,e1,e2,h4,h5,h6⟩:=hp
        have hb:=hb rfl
        have OQ:=hb.step h3
        have UY:=ih (listed.setIfInBounds i true) Og st0 OD Xs X' w' ds _ (fun _=>by rw [e1];exact OQ) (fun ha=>by cases ha) ((hS.trans h3.steps).kn e1 e2) (by rw [e1];exact h4) (by rw [h5,Pf,hd]) h6
        unfold CV
        simp only
        split
        ·exact⟨_,fun i k hik=>.inl hik,UY⟩
        ·exact⟨hb.kept h3 hap,_,fun i k hik=>.inl hik,UY⟩
       ·exact h1.elim
      ·refine il (jF h (hk.same hl) trivial) fun Og hp=>?_
       obtain⟨OD,e1,e2,h4,h5,h6⟩:=hp
       exact ih _ Og st0 OD Xs X w ds b (by rw [e1];exact hb) NQ (hS.kn e1 e2) (by rw [e1];exact h4) (by rw [h5,Pf,hd]) h6
     ·exact h.elim
variable (U P tbl may k0 w0 X0 n)in
def tz(c:Code)(V:QF2 U→Fr→St U→Prop):Prop:=
 ∀(Q:QF2 U)(fr:Fr)(st:St U)(X:Nat→Nat→Prop)(a:Act)(w:World),Rep n fr a→Inv w0 k0 X0 may st.rs X w→av st.rs fr st.kn→V Q fr st→
  c.wpIn (WF none) 0 P (mL n (writes c) a fun x fr' w'=>Aft w0 k0 X0 may st X fr.ds (fun fr' st'=>Q x fr' st') fr' w') a w
theorem Real.two {ws:List Nat} {a0:Act} {Q:QF} {e:Exit} {a':Act} {w':World}(h:Real n ws a0 none Q e a' w'):mL n ws a0 Q e a' w':=by
 cases e<;>first | exact h | exact h.1.elim
theorem mL.mono {ws ws':List Nat} {a0:Act} {Q Q':QF} {e:Exit} {a':Act} {w':World}(h:mL n ws a0 Q e a' w')(hw:∀i,i∈ws→i∈ws')(hQ:∀x fr w,Q x fr w→Q' x fr w):mL n ws' a0 Q' e a' w':=by
 cases e<;>first | exact h | (obtain⟨fr,h1,h2,h3⟩:=h;exact⟨fr,h1,hQ _ _ _ h2,h3.mono hw⟩)
theorem Aft.mono {ds:List Deferred} {K K':Fr→St U→Prop} {fr':Fr} {w':World}(h:Aft w0 k0 X0 may st X ds K fr' w')(hK:∀fr st,K fr st→K' fr st):Aft w0 k0 X0 may st X ds K' fr' w':=by
 obtain⟨st',X',h1,h2,h3,h4⟩:=h
 exact⟨st',X',h1,h2,h3,hK _ _ h4⟩
theorem Aft.pre {Rf:St U} {X1:Nat→Nat→Prop} {w1:World} {ds:List Deferred} {K:Fr→St U→Prop} {fr':Fr} {w':World}(hs:Steps w0 k0 X0 may st X Rf X1 w1)(h:Aft w0 k0 X0 may Rf X1 ds K fr' w'):Aft w0 k0 X0 may st X ds K fr' w':=by
 obtain⟨st',X',h1,h2,h3,h4⟩:=h
 exact⟨st',X',hs.trans h1,h2,h3,h4⟩
theorem tY {id:Nat} {Q:QF2 U} {a:Act}(Ot:∀f c,tbl.c f=some c→LV U P f c∧cj P f=true)(hr:Rep n fr a)(hI:Inv w0 k0 X0 may st.rs X w)(hk:av st.rs fr st.kn)(h:DL U P tbl may k0 n N ops (Q .normal) (fun ch=>Q (.panic ch)) ops.toList fr st):
 (Code.region id ops false).wpIn (WF none) 0 P (mL n (writes (.region id ops false)) a fun x fr' w'=>Aft w0 k0 X0 may st X fr.ds (fun fr' st'=>Q x fr' st') fr' w') a w:=by
 have hv:=rH (n:=n) (N:=N) (ops:=ops) Ot ops.toList fr st st X X w fr.ds (Steps.refl hI) hk rfl h
 exact wpIn_mono (wpIn_region_list (mO (ws:=writes (.region id ops false)) (a0:=a) ops.toList (fun o ho d hd=>List.mem_filterMap.2 ⟨o,ho,hd⟩) fr a w hr (Agr.refl _ _) hv)) fun e a' w' he=>by
  cases e<;>first | exact he | (obtain⟨_,_,h,_⟩:=he;exact h.elim)
theorem vQ {id:Nat} {Q:QF2 U} {a:Act} {V:List Nat} {rd:List (Nat×List Nat)}(Ot:∀f c,tbl.c f=some c→LV U P f c∧cj P f=true)(hm:P.follows .mixedOrders=true)(hs:Region.noSelect ops=true)(PG:eI ops.toList=true)(hr:Rep n fr a)(hI:Inv w0 k0 X0 may st.rs X w)(hk:av st.rs fr st.kn) {all:Bool}
 (h:tX U P tbl may k0 n N ops all V rd (Q .normal) ops.size (Array.replicate ops.size false) fr st):
 (Code.region id ops true).wpIn (WF none) 0 P (mL n (writes (.region id ops true)) a fun x fr' w'=>Aft w0 k0 X0 may st X fr.ds (fun fr' st'=>Q x fr' st') fr' w') a w:=by
 have hI':=Inv.drew hI
 have hS:Steps w0 k0 X0 may st X st X w.drew:=Steps.refl hI'
 have hv:=FK (n:=n) (N:=N) (ops:=ops) Ot ops.size (Array.replicate ops.size false) fr st st X X w.drew fr.ds (fun i k=>i∈V∨all=true∨∃id,id∈qm i rd∧id<st.rs.length∧X id k) (fun ha=>⟨fun i id k h1 h2 h3=>.inr (.inr ⟨id,h1,h2,h3⟩),fun i k h=>.inl h,fun i k hi hk=>by
  rcases hk with hk | hk | ⟨id,h1,h2,h3⟩
  ·exact absurd hk hi
  ·rw [ha]at hk;cases hk
  ·refine⟨hI'.sat.lt h2 k h3,fun j hj hx=>?_⟩
   by_cases Ob:id=j
   ·rw [← Ob];exact h1
   ·exact absurd hx (hI'.sat.dis id j h2 hj Ob k h3)⟩) (fun ha i k=>.inr (.inl ha)) hS hk rfl h
 exact wpIn_mono (jy hm n7 (fun o ho=>iG PG o (Array.mem_toList_iff.2 ho)) (rI (ws:=writes (.region id ops true)) (a0:=a) (Qp:=none) (M:=fun o ρ w K=>opW P false none o ρ w K) (MS:=MSw P) (fun _ _ _ _ h=>h) (fun _ _ _ _ _ h=>h) hs (fun i o ho d hd=>sG ho hd) ops.size _ (fun _ _ _=>True) _ fr a w.drew (gQ.none _ _) (mM.none _ _) hr (Agr.refl _ _) hv)) fun e a' w' he=>Real.two (ln he)
end
end
section
section
variable {U:Uni} {P:Program} {tbl:Tb U} {may:List Nat} {k0:Nat}
variable {w0:World} {X0 X:Nat→Nat→Prop} {w:World} {fr:Fr} {st:St U} {n:Nat} {N:List Nat} {ops:Array Oper}
theorem xG {T:Type}:∀ {l:List (Nat×Sh2)} {J:SlT l T} {fr:Fr} {F:T→Prop},Kt l J fr F→∃J' vs,F J'∧(∀G:T→List (Nat×Value)→Prop,alS l J G→G J' vs)∧∀s v,(s,v)∈vs→lk fr.g s fr.e=v
 | [],J,fr,F,h=>⟨J,[],h,fun G hG=>hG,fun s v hv=>by cases hv⟩
 | (s,sh)::r,J,fr,F,h=>by
  obtain⟨J1,h1,g1⟩:=vg h
  obtain⟨J2,vs,h2,g2,e2⟩:=xG h1
  refine⟨J2,(s,lk fr.g s fr.e)::vs,h2,fun G hG=>g2 (fun J'' vs=>G J'' ((s,lk fr.g s fr.e)::vs)) (g1 (fun J' v=>alS r J' fun J'' vs=>G J'' ((s,v)::vs)) hG),fun s' v hv=>?_⟩
  rcases List.mem_cons.1 hv with e | hv
  ·injection e with e1 e2;rw [e1,e2]
  ·exact e2 s' v hv
def dE(kn:List (Key×Kn))(id:Nat):Nat→List AV→List Value→Prop
 | _,[],[]=>True
 | i,.v x::r,v::vs=>x=v∧dE kn id (i+1) r vs
 | i,.k p::r,_::vs=>cV (.c id i) kn=some (.p p)∧dE kn id (i+1) r vs
 | _,_,_=>False
theorem rL {T:Type} {id:Nat} {kn:List (Key×Kn)}:∀ {l:List CS} {J:CST l T} {i:Nat} {vs:List Value} {F:T→Prop},AD id kn l J i vs F→∃J' az,F J'∧(∀G:T→List AV→Prop,Hr l J G→G J' az)∧dE kn id i az vs∧∀n,jo n l=true→∀p,AV.k p∈az→p.id<n
 | [],J,i,[],F,h=>⟨J,[],h,fun G hG=>hG,trivial,fun _ _ p hp=>by cases hp⟩
 | [],_,_,_::_,_,h=>h.elim
 | .v _::_,_,_,[],_,h=>h.elim
 | .k _::_,_,_,[],_,h=>h.elim
 | .v s::r,J,i,v::vs,F,h=>by
  obtain⟨J1,h1,g1⟩:=oL h
  obtain⟨J2,az,h2,g2,d2,b2⟩:=rL h1
  refine⟨J2,.v v::az,h2,fun G hG=>g2 (fun J'' vs=>G J'' (.v v::vs)) (g1 (fun J' v=>Hr r J' fun J'' l=>G J'' (.v v::l)) hG),⟨rfl,d2⟩,fun n hn p hp=>?_⟩
  rcases List.mem_cons.1 hp with e | hp
  ·cases e
  ·exact b2 n hn p hp
 | .k p::r,J,i,v::vs,F,h=>by
  simp only [AD]at h
  split at h
  ·rename_i q hq
   split at h
   ·rename_i he
    obtain⟨J2,az,h2,g2,d2,b2⟩:=rL h
    refine⟨J2,.k p::az,h2,fun G hG=>g2 (fun J'' vs=>G J'' (.k p::vs)) hG,⟨by rw [hq,(Kn.mZ he).1],d2⟩,fun n hn p' hp=>?_⟩
    simp only [jo]at hn
    split at hn
    ·rename_i Nu
     rcases List.mem_cons.1 hp with e | hp
     ·injection e with e;subst e;simpa [Nat.blt_eq]using Nu
     ·exact b2 n hn p' hp
    ·cases hn
   ·exact h.elim
  ·exact h.elim
def UpD(rs:List (Res U))(kn:List (Key×Kn))(id:Nat):UP U→Prop
 | .ob t s=>∃r,nth rs id=some (.ob t r s)
 | .blk az=>∃g cs T,nth rs id=some (.blk g cs T)∧dE kn id 0 az cs
 | .lst t A c l=>∃own T,nth rs id=some (.lst t own T A c l)
theorem nK {T:Type} {rs:List (Res U)} {kn:List (Key×Kn)}:∀ {l:List (Nat×RSh)} {J:zk U l T} {F:T→Prop},qM rs kn l J F→∃J' us,F J'∧(∀G:T→List (Nat×UP U)→Prop,Ex l J G→G J' us)∧us.map (·.1)=l.map (·.1)∧(∀id u,(id,u)∈us→UpD rs kn id u)∧
 ∀n,eE n l=true→∀id u,(id,u)∈us→id<n∧∀az,u= .blk az→∀p,AV.k p∈az→p.id<n
 | [],J,F,h=>⟨J,[],h,fun G hG=>hG,rfl,fun id u hu=>(by cases hu),fun _ _ id u hu=>by cases hu⟩
 | (id,.ob t)::r,J,F,h=>by
  simp only [qM]at h
  split at h
  ·rename_i t' r' s hn
   split at h
   ·rename_i ht
    subst ht
    obtain⟨J2,us,h2,g2,m2,d2,b2⟩:=nK h
    refine⟨J2,(id,.ob t' s)::us,h2,fun G hG=>g2 (fun J'' vs=>G J'' ((id,.ob t' s)::vs)) (hG s),by simp [m2],fun i u hu=>?_,fun n hb i u hu=>?_⟩
    ·rcases List.mem_cons.1 hu with e | hu
     ·injection e with e1 e2;subst e1;subst e2;exact⟨r',hn⟩
     ·exact d2 i u hu
    ·simp only [eE]at hb
     split at hb
     ·rename_i Nu
      rcases List.mem_cons.1 hu with e | hu
      ·injection e with e1 e2;subst e1;subst e2;exact⟨by simpa [Nat.blt_eq]using Nu,fun az e=>by cases e⟩
      ·exact b2 n hb i u hu
     ·cases hb
   ·exact h.elim
  ·exact h.elim
 | (id,.blk l)::r,J,F,h=>by
  simp only [qM]at h
  split at h
  ·rename_i g cs T' hn
   obtain⟨J1,az,h1,g1,d1,b1⟩:=rL h
   obtain⟨J2,us,h2,g2,m2,d2,b2⟩:=nK h1
   refine⟨J2,(id,.blk az)::us,h2,fun G hG=>g2 (fun J'' vs=>G J'' ((id,.blk az)::vs)) (g1 (fun J' cs=>Ex r J' fun J'' us=>G J'' ((id,.blk cs)::us)) hG),by simp [m2],fun i u hu=>?_,fun n hb i u hu=>?_⟩
   ·rcases List.mem_cons.1 hu with e | hu
    ·injection e with e1 e2;subst e1;subst e2;exact⟨g,cs,T',hn,d1⟩
    ·exact d2 i u hu
   ·simp only [eE]at hb
    split at hb
    ·rename_i Nu
     simp only [Bool.and_eq_true]at Nu
     rcases List.mem_cons.1 hu with e | hu
     ·injection e with e1 e2;subst e1;subst e2
      exact⟨by simpa [Nat.blt_eq]using Nu.1,fun as' e p hp=>by injection e with e;subst e;exact b1 n Nu.2 p hp⟩
     ·exact b2 n hb i u hu
    ·cases hb
  ·exact h.elim
 | (id,.lst t)::r,J,F,h=>by
  simp only [qM]at h
  split at h
  ·rename_i t' own T' A c l hn
   split at h
   ·rename_i ht
    subst ht
    obtain⟨J2,us,h2,g2,m2,d2,b2⟩:=nK h
    refine⟨J2,(id,.lst t' A c l)::us,h2,fun G hG=>g2 (fun J'' vs=>G J'' ((id,.lst t' A c l)::vs)) (hG A c l),by simp [m2],fun i u hu=>?_,fun n hb i u hu=>?_⟩
    ·rcases List.mem_cons.1 hu with e | hu
     ·injection e with e1 e2;subst e1;subst e2;exact⟨own,T',hn⟩
     ·exact d2 i u hu
    ·simp only [eE]at hb
     split at hb
     ·rename_i Nu
      rcases List.mem_cons.1 hu with e | hu
      ·injection e with e1 e2;subst e1;subst e2;exact⟨by simpa [Nat.blt_eq]using Nu,fun az e=>by cases e⟩
      ·exact b2 n hb i u hu
     ·cases hb
   ·exact h.elim
  ·exact h.elim
theorem we {f:Nat→Res U→Option (Res U)}:∀ {i:Nat} {l l':List (Res U)},lay f i l=some l'→l'.length=l.length∧∀j r,nth l j=some r→∃r',f (i+j) r=some r'∧nth l' j=some r'
 | i,[],l',h=>by
  simp only [lay,Option.some.injEq]at h
  subst h
  exact⟨rfl,fun j r hr=>by simp [nth]at hr⟩
 | i,r::l,l',h=>by
  simp only [lay]at h
  split at h
  ·rename_i r' l2 h1 h2
   injection h with h
   subst h
   obtain⟨e1,e2⟩:=we h2
   refine⟨by simp [e1],fun j x hx=>?_⟩
   cases j with
   | zero=>simp [nth]at hx;subst hx;exact⟨r',h1,rfl⟩
   | succ j=>
    obtain⟨y,h3,h4⟩:=e2 j x hx
    exact⟨y,by rw [show i+(j+1)=i+1+j by omega];exact h3,h4⟩
  ·cases h
theorem jz {i:Nat} {u:UP U}:∀ {us:List (Nat×UP U)},kP i us=some u→(i,u)∈us
 | [],h=>by cases h
 | (j,x)::r,h=>by
  unfold kP at h
  split at h
  ·rename_i he
   injection h with h
   rw [← h,Nat.eq_of_beq_eq_true he]
   exact List.mem_cons_self ..
  ·exact List.mem_cons_of_mem _ (jz h)
theorem rO {i:Nat}:∀ {us:List (Nat×UP U)},kP i us=none→i ∉ us.map (·.1)
 | [],_=>by simp
 | (j,x)::r,h=>by
  unfold kP at h
  split at h
  ·cases h
  ·rename_i he
   rw [List.map_cons,List.mem_cons,not_or]
   exact⟨by rintro rfl;simp at he,rO h⟩
theorem pL {kn:List (Key×Kn)} {s:Nat} {k:Kn}:∀ {l:List (Nat×Kn)},CZ kn l=true→(s,k)∈l→∃p,k= .p p∧cV (.s s) kn=some (.p p)
 | [],_,h=>by cases h
 | (a,q)::r,h,hm=>by
  simp only [CZ]at h
  split at h
  ·rename_i x hx
   split at h
   ·rename_i he
    rcases List.mem_cons.1 hm with e | hm
    ·injection e with e1 e2
     subst e1;subst e2
     obtain⟨e3,p,e4⟩:=Kn.mZ he
     exact⟨p,by rw [← e3,e4],by rw [hx,e4]⟩
    ·exact pL h hm
   ·cases h
  ·cases h
theorem kq {m:Nat} {s:Nat} {p:PK}:∀ {l:List (Nat×Kn)},oq m l=true→(s,Kn.p p)∈l→p.id<m
 | [],_,h=>by cases h
 | (a,.p q)::r,h,hm=>by
  simp only [oq]at h
  split at h
  ·rename_i Nu
   rcases List.mem_cons.1 hm with e | hm
   ·injection e with e1 e2;injection e2 with e2;subst e2;simpa [Nat.blt_eq]using Nu
   ·exact kq h hm
  ·cases h
 | (a,.t _)::r,h,_=>by cases h
 | (a,.ag _)::r,h,_=>by cases h
 | (a,.f _ _)::r,h,_=>by cases h
theorem rS {key:Key} {k:Kn}:∀ {l:List (Nat×Kn)},(key,k)∈AK l→∃s,key= .s s∧(s,k)∈l
 | [],h=>by cases h
 | (s,q)::r,h=>by
  rcases List.mem_cons.1 h with e | h
  ·injection e with e1 e2;subst e1;subst e2;exact⟨s,rfl,List.mem_cons_self ..⟩
  ·obtain⟨s',h1,h2⟩:=rS (l:=r) h;exact⟨s',h1,List.mem_cons_of_mem _ h2⟩
theorem fZ {rs:List (Res U)} {s:Nat} {v:Value}:∀ {l:List (Nat×Kn)},(s,v)∈lz rs l→∃p,(s,Kn.p p)∈l∧v=(den U rs p).getD undef
 | [],h=>by cases h
 | (a,.p q)::r,h=>by
  rcases List.mem_cons.1 h with e | h
  ·injection e with e1 e2;subst e1;subst e2;exact⟨q,List.mem_cons_self ..,rfl⟩
  ·obtain⟨p,h1,h2⟩:=fZ (l:=r) h;exact⟨p,List.mem_cons_of_mem _ h1,h2⟩
 | (a,.t _)::r,h=>by obtain⟨p,h1,h2⟩:=fZ (l:=r) h;exact⟨p,List.mem_cons_of_mem _ h1,h2⟩
 | (a,.ag _)::r,h=>by obtain⟨p,h1,h2⟩:=fZ (l:=r) h;exact⟨p,List.mem_cons_of_mem _ h1,h2⟩
 | (a,.f _ _)::r,h=>by obtain⟨p,h1,h2⟩:=fZ (l:=r) h;exact⟨p,List.mem_cons_of_mem _ h1,h2⟩
 | (a,.pan)::r,h=>by obtain⟨p,h1,h2⟩:=fZ (l:=r) h;exact⟨p,List.mem_cons_of_mem _ h1,h2⟩
theorem dE.Ks {kn:List (Key×Kn)} {id:Nat} {V:PK→Value}:∀ {i:Nat} {az:List AV} {vs:List Value},dE kn id i az vs→(∀j p v,nth az j=some (.k p)→nth vs j=some v→V p=v)→aG (fun a=>match a with | .v x=>x | .k p=>V p) az=vs
 | _,[],[],_,_=>rfl
 | _,[],_::_,h,_=>by simp [dE]at h
 | _,_::_,[],h,_=>by rename_i a l;cases a<;>simp [dE]at h
 | i,.v x::r,v::vs,h,hv=>by
  simp only [dE]at h
  simp only [aG,h.1]
  rw [dE.Ks h.2 fun j p v h1 h2=>hv (j+1) p v h1 h2]
 | i,.k p::r,v::vs,h,hv=>by
  simp only [dE]at h
  simp only [aG]
  rw [hv 0 p v rfl rfl,dE.Ks h.2 fun j p v h1 h2=>hv (j+1) p v h1 h2]
theorem dE.kn {kn:List (Key×Kn)} {id:Nat}:∀ {i j:Nat} {az:List AV} {vs:List Value} {p:PK},dE kn id i az vs→nth az j=some (.k p)→cV (.c id (i+j)) kn=some (.p p)
 | _,_,[],_,_,_,h=>by simp [nth]at h
 | i,0,.v _::_,_::_,_,_,h=>by simp [nth]at h
 | i,0,.k p::r,v::vs,p',hd,h=>by
  simp only [dE]at hd
  simp only [nth,Option.some.injEq,AV.k.injEq]at h
  subst h
  exact hd.1
 | i,j+1,.v _::r,_::vs,p,hd,h=>by
  simp only [dE]at hd
  have:=dE.kn hd.2 (show nth r j=some (.k p)from h)
  rwa [show i+1+j=i+(j+1)by omega]at this
 | i,j+1,.k _::r,_::vs,p,hd,h=>by
  simp only [dE]at hd
  have:=dE.kn hd.2 (show nth r j=some (.k p)from h)
  rwa [show i+1+j=i+(j+1)by omega]at this
 | _,_,.v _::_,[],_,hd,_=>by simp [dE]at hd
 | _,_,.k _::_,[],_,hd,_=>by simp [dE]at hd
theorem nb {id:Nat} {key:Key} {k:Kn}:∀ {i:Nat} {l:List CS},(key,k)∈wF id i l→∃j p,key= .c id (i+j)∧k= .p p∧nth l j=some (.k p)
 | _,[],h=>by cases h
 | i,.v _::r,h=>by
  obtain⟨j,p,h1,h2,h3⟩:=nb (l:=r) h
  exact⟨j+1,p,by rw [h1];congr 1;omega,h2,h3⟩
 | i,.k q::r,h=>by
  rcases List.mem_cons.1 h with e | h
  ·injection e with e1 e2;exact⟨0,q,e1,e2,rfl⟩
  ·obtain⟨j,p,h1,h2,h3⟩:=nb (l:=r) h
   exact⟨j+1,p,by rw [h1];congr 1;omega,h2,h3⟩
theorem mm {key:Key} {k:Kn}:∀ {l:List (Nat×RSh)},(key,k)∈CD l→∃id cs j p,(id,RSh.blk cs)∈l∧key= .c id j∧k= .p p∧nth cs j=some (.k p)
 | [],h=>by cases h
 | (id,.blk cs)::r,h=>by
  rcases List.mem_append.1 h with h | h
  ·obtain⟨j,p,h1,h2,h3⟩:=nb h
   exact⟨id,cs,j,p,List.mem_cons_self ..,by simpa using h1,h2,h3⟩
  ·obtain⟨a,b,c,d,h1,h2⟩:=mm (l:=r) h;exact⟨a,b,c,d,List.mem_cons_of_mem _ h1,h2⟩
 | (id,.ob _)::r,h=>by obtain⟨a,b,c,d,h1,h2⟩:=mm (l:=r) h;exact⟨a,b,c,d,List.mem_cons_of_mem _ h1,h2⟩
 | (id,.lst _)::r,h=>by obtain⟨a,b,c,d,h1,h2⟩:=mm (l:=r) h;exact⟨a,b,c,d,List.mem_cons_of_mem _ h1,h2⟩
theorem vH {T:Type} {id:Nat} {kn:List (Key×Kn)}:∀ {l:List CS} {J:CST l T} {i:Nat} {vs:List Value} {F:T→Prop},AD id kn l J i vs F→(∃J',F J')∧∀j p,nth l j=some (.k p)→cV (.c id (i+j)) kn=some (.p p)
 | [],J,i,[],F,h=>⟨⟨J,h⟩,fun j p hp=>by simp [nth]at hp⟩
 | [],_,_,_::_,_,h=>h.elim
 | .v _::_,_,_,[],_,h=>h.elim
 | .k _::_,_,_,[],_,h=>h.elim
 | .v s::r,J,i,v::vs,F,h=>by
  obtain⟨J1,h1,_⟩:=oL h
  obtain⟨h2,h3⟩:=vH h1
  refine⟨h2,fun j p hp=>?_⟩
  cases j with
  | zero=>simp [nth]at hp
  | succ j=>have:=h3 j p hp;rwa [show i+1+j=i+(j+1)by omega]at this
 | .k q::r,J,i,v::vs,F,h=>by
  simp only [AD]at h
  split at h
  ·rename_i x hx
   split at h
   ·rename_i he
    obtain⟨h2,h3⟩:=vH h
    refine⟨h2,fun j p hp=>?_⟩
    cases j with
    | zero=>simp only [nth,Option.some.injEq,CS.k.injEq]at hp;subst hp;rw [Nat.add_zero,hx,(Kn.mZ he).1]
    | succ j=>have:=h3 j p hp;rwa [show i+1+j=i+(j+1)by omega]at this
   ·exact h.elim
  ·exact h.elim
theorem qW {T:Type} {rs:List (Res U)} {kn:List (Key×Kn)}:∀ {l:List (Nat×RSh)} {J:zk U l T} {F:T→Prop},qM rs kn l J F→∀id cs,(id,RSh.blk cs)∈l→∀j p,nth cs j=some (.k p)→cV (.c id j) kn=some (.p p)
 | [],_,_,_,_,_,h=>by cases h
 | (id,.ob t)::r,J,F,h,i,cs,hm=>by
  simp only [qM]at h
  split at h
  ·split at h
   ·exact qW h i cs ((List.mem_cons.1 hm).resolve_left fun e=>by cases e)
   ·exact h.elim
  ·exact h.elim
 | (id,.lst t)::r,J,F,h,i,cs,hm=>by
  simp only [qM]at h
  split at h
  ·split at h
   ·exact qW h i cs ((List.mem_cons.1 hm).resolve_left fun e=>by cases e)
   ·exact h.elim
  ·exact h.elim
 | (id,.blk l)::r,J,F,h,i,cs,hm=>by
  simp only [qM]at h
  split at h
  ·obtain⟨⟨J',h1⟩,h2⟩:=vH h
   intro j p hp
   rcases List.mem_cons.1 hm with e | hm
   ·injection e with e1 e2
    injection e2 with e2
    subst e1;subst e2
    have:=h2 j p hp
    rwa [Nat.zero_add]at this
   ·exact qW h1 i cs hm j p hp
  ·exact h.elim
theorem di.Jc {x:Res U} {g:Nat} {cs:List Value} {T:TypeId}(h:di x (.blk g cs T)):∃Wc,x= .blk g Wc T∧Wc.length=cs.length:=by
 cases h
 rename_i c hc
 exact⟨c,rfl,hc⟩
theorem yM {ct:At} {J:JT2 U ct} {stb st':St U} {fr fr':Fr} {a a':Act} {w':World} {X X':Nat→Nat→Prop} {ws:List Nat}(hr:Rep n fr a)(Nn:Rep n fr' a')(NO:Agr ws a a')(Oz:td ct.wr2 ws=true)
 (hkb:av stb.rs fr stb.kn)(Qo:av st'.rs fr' st'.kn)(hI:Inv w0 k0 X0 may st'.rs X' w')(hlen:stb.rs.length≤st'.rs.length)(hmd:∀i,i<stb.rs.length→i ∉ st'.md→i ∉ aG (·.1) ct.rsh→nth st'.rs i=nth stb.rs i∧X' i=X i)(N7:∀i a,nth stb.rs i=some a→∃b,nth st'.rs i=some b∧di a b)(Wq:k0≤stb.rs.length)
 (hu:o9 ct stb.rs.length J fr' st') {F:List (Nat×Value)→St U→Prop}(NQ:BA ct J stb fr.e F):
 ∃e OD,F e OD∧Rep n ⟨e,fun i=>a'.tmps.getD i undef,fr.ds⟩ a'∧Inv w0 k0 X0 may OD.rs X' w'∧av OD.rs ⟨e,fun i=>a'.tmps.getD i undef,fr.ds⟩ OD.kn∧OD.md= []∧OD.rs.length=stb.rs.length∧(∀i,i<stb.rs.length→i ∉ aG (·.1) ct.rsh→nth OD.rs i=nth stb.rs i∧X' i=X i)∧∀i a,nth stb.rs i=some a→∃b,nth OD.rs i=some b∧di a b:=by
 unfold o9 at hu
 split at hu
 case h_2=>exact hu.elim
 rename_i OJ
 simp only [Bool.and_eq_true]at OJ
 obtain⟨aan,aai,Z7,aao⟩:=OJ
 obtain⟨J1,vs,h1,g1,e1⟩:=xG hu
 have VP:=qW h1
 obtain⟨p,us,hp,g2,m2,d2,b2⟩:=nK h1
 have NQ:=g2 _ (g1 _ NQ) hp
 split at NQ
 case h_2=>exact NQ.elim
 rename_i R9 OI
 split at NQ
 case h_2=>exact NQ.elim
 rename_i NM R4
 obtain⟨l1,f1⟩:=we OI
 obtain⟨l2,f2⟩:=we R4
 have aau:aG (·.1) ct.rsh=us.map (·.1):=by rw [gA,m2]
 have r1:∀i x,nth stb.rs i=some x→∃y z,nth R9 i=some y∧nth st'.rs i=some z∧((∀az,kP i us≠some (.blk az))→y=z)∧((∃az,kP i us=some (.blk az))→y=x):=by
  intro i x hx
  obtain⟨y,hy,hy1⟩:=f1 i x hx
  rw [Nat.zero_add]at hy
  obtain⟨z,hz,UO⟩:=N7 i x hx
  refine⟨y,z,hy1,hz,?_,?_⟩
  ·intro hnb
   unfold KT at hy
   cases hg:kP i us with
   | none=>
    rw [hg]at hy
    simp only [Option.some.injEq]at hy
    subst hy
    have VH:=rO hg
    have:i ∉ st'.md:=fun hm=>by
     have:=cI.1 aai i hm
     rw [aau]at this
     rcases Bool.or_eq_true_iff.1 this with h | h
     ·have:=Nat.le_of_ble_eq_true h;have:=bc hx;omega
     ·exact VH (fh.1 h)
    have h2:=(hmd i (bc hx) this (by rw [aau];exact VH)).1
    rw [hz,hx]at h2
    injection h2 with h2
    exact h2.symm
   | some u=>
    rw [hg]at hy
    have hd:=d2 i u (jz hg)
    cases u with
    | ob t s=>
     obtain⟨r,hr⟩:=hd
     rw [hz]at hr
     injection hr with hr
     subst hr
     have h2:dh x (.ob t s)=some y:=hy
     cases UO
     simp only [dh,dif_pos]at h2
     injection h2 with h2
     exact h2.symm
    | blk az=>exact absurd hg (hnb az)
    | lst t A c l=>
     obtain⟨own,T,hr⟩:=hd
     rw [hz]at hr
     injection hr with hr
     subst hr
     have h2:dh x (.lst t A c l)=some y:=hy
     cases UO
     simp only [dh,dif_pos]at h2
     injection h2 with h2
     exact h2.symm
  ·rintro⟨az,hg⟩
   unfold KT at hy
   rw [hg]at hy
   simp only [Option.some.injEq]at hy
   exact hy.symm
 have OB:∀q:PK,q.id<stb.rs.length→den U R9 q=den U st'.rs q:=by
  intro q hq
  obtain⟨x,hx⟩:=cu hq
  obtain⟨y,z,hy,hz,ha,hb⟩:=r1 _ x hx
  unfold den
  rw [hy,hz]
  cases hg:kP q.id us with
  | none=>rw [ha (fun az e=>by rw [hg]at e;cases e)]
  | some u=>
   cases u with
   | ob t s=>rw [ha (fun az e=>by rw [hg]at e;cases e)]
   | lst t A c l=>rw [ha (fun az e=>by rw [hg]at e;cases e)]
   | blk az=>
    have Vr:=hb ⟨az,hg⟩
    subst Vr
    obtain⟨z',R1,UO⟩:=N7 _ _ hx
    rw [hz]at R1
    injection R1 with R1
    subst R1
    obtain⟨g,cs,T,hc,_⟩:=d2 _ _ (jz hg)
    rw [hz]at hc
    injection hc with hc
    subst hc
    cases UO
    cases q<;>rfl
 have r2:∀i,i<stb.rs.length→nth NM i=nth st'.rs i:=by
  intro i hi
  obtain⟨x,hx⟩:=cu hi
  obtain⟨y,z,hy,hz,ha,hb⟩:=r1 i x hx
  obtain⟨v,hv,Ue⟩:=f2 i y hy
  rw [Nat.zero_add]at hv
  rw [Ue,hz]
  unfold L4 at hv
  cases hg:kP i us with
  | none=>
   rw [hg]at hv
   simp only [Option.some.injEq]at hv
   rw [← hv,ha (fun az e=>by rw [hg]at e;cases e)]
  | some u=>
   rw [hg]at hv
   cases u with
   | ob t s=>simp only [Option.some.injEq]at hv;rw [← hv,ha (fun az e=>by rw [hg]at e;cases e)]
   | lst t A c l=>simp only [Option.some.injEq]at hv;rw [← hv,ha (fun az e=>by rw [hg]at e;cases e)]
   | blk az=>
    have Vr:=hb ⟨az,hg⟩
    subst Vr
    obtain⟨z',R1,UO⟩:=N7 _ _ hx
    rw [hz]at R1
    injection R1 with R1
    subst R1
    obtain⟨g,cs,T,hc,hcd⟩:=d2 _ _ (jz hg)
    rw [hz]at hc
    injection hc with hc
    subst hc
    have VW:=(b2 _ Z7 _ _ (jz hg)).2 az rfl
    have VU:aG (jT R9) az=cs:=by
     have:=hcd.Ks (V:=fun p=>(den U R9 p).getD undef) (fun j p v hj hv=>by
      have hk:=hcd.kn hj
      obtain⟨g',cs',T',u,q1,q2,q3⟩:=Qo.get hk
      rw [hz]at q1
      injection q1 with q1
      injection q1 with _ q1 _
      subst q1
      rw [Nat.zero_add]at q2
      rw [hv]at q2
      injection q2 with q2
      subst q2
      have q3:den U st'.rs p=some v:=q3
      rw [OB p (VW p (gX hj)),q3]
      rfl)
     have e:(fun a=>match a with | .v x=>x | .k p=>(den U R9 p).getD undef)=jT R9:=by funext a;cases a<;>rfl
     rw [e]at this
     exact this
    have hv:dh y (.blk (aG (jT R9) az))=some v:=hv
    rw [VU]at hv
    obtain⟨Wc,rfl,hle⟩:=UO.Jc
    simp only [dh,hle,Nat.beq_refl]at hv
    exact hv.symm
 have aaj:NM.length=stb.rs.length:=by rw [l2,l1]
 have Tt:∀q:PK,q.id<stb.rs.length→den U NM q=den U st'.rs q:=fun q hq=>by unfold den;rw [r2 _ hq]
 obtain⟨Q6,Pf⟩:=pR Oz
 have QI:∀s v,(s,v)∈vs++lz NM ct.kns→lk fr'.g s fr'.e=v:=by
  intro s v hm
  rcases List.mem_append.1 hm with hm | hm
  ·exact e1 s v hm
  ·obtain⟨q,hq,rfl⟩:=fZ hm
   obtain⟨q',Oy,hg⟩:=pL aan hq
   injection Oy with Oy
   subst Oy
   have:den U st'.rs q=some (lk fr'.g s fr'.e):=Qo.get hg
   rw [Tt q (kq aao hq),this]
   rfl
 have Pz:Rep n ⟨vs++lz NM ct.kns++forget ct.wr2 fr.e,fun i=>a'.tmps.getD i undef,fr.ds⟩ a':=vO hr Nn (NO.mono Q6) Pf QI
 have VL:∀i,lk (fun i=>a'.tmps.getD i undef) i (vs++lz NM ct.kns++forget ct.wr2 fr.e)=lk fr'.g i fr'.e:=fun i=>by rw [← Nn.get];exact(Pz.get i).symm
 have OW:∀i,i<stb.rs.length→i ∉ aG (·.1) ct.rsh→nth NM i=nth stb.rs i∧X' i=X i:=by
  intro i hi VH
  rw [r2 i hi]
  refine hmd i hi (fun hm=>?_) VH
  have:=cI.1 aai i hm
  rcases Bool.or_eq_true_iff.1 this with h | h
  ·have:=Nat.le_of_ble_eq_true h;omega
  ·exact VH (fh.1 h)
 have Tm:∀i a,nth stb.rs i=some a→∃b,nth NM i=some b∧di a b:=by
  intro i x hx
  obtain⟨z,hz,UO⟩:=N7 i x hx
  exact⟨z,by rw [r2 i (bc hx)];exact hz,UO⟩
 have hIt:Inv w0 k0 X0 may NM X' w':=hI.JZ (by omega) (fun i hi=>r2 i (by omega)) (by omega)
 have NQ:=jL (fun r hr=>by
  obtain⟨i,hi⟩:=r5 hr
  exact⟨_,_,hIt.sat.res i r hi⟩) NQ
 refine⟨_,_,NQ,Pz,hIt,?_,rfl,aaj,OW,Tm⟩
 refine av.app ?_ (av.app ?_ ?_)
 ·intro key k hm
  obtain⟨s,rfl,hs⟩:=rS hm
  obtain⟨q,rfl,hg⟩:=pL aan hs
  show den U NM q=some (lk _ s _)
  rw [VL,Tt q (kq aao hs)]
  exact Qo.get hg
 ·intro key k hm
  obtain⟨id,cs,j,q,h3,rfl,rfl,h5⟩:=mm hm
  have hg:=VP id cs h3 j q h5
  obtain⟨g,cs',T,v,q1,q2,q3⟩:=Qo.get hg
  have Tv:id<stb.rs.length∧q.id<stb.rs.length:=by
   have key:∀(l:List (Nat×RSh)),eE stb.rs.length l=true→(id,RSh.blk cs)∈l→id<stb.rs.length∧jo stb.rs.length cs=true:=by
    intro l
    induction l with
    | nil=>intro _ h;cases h
    | cons x r ih=>
     intro hb hm
     obtain⟨i,x⟩:=x
     cases x with
     | ob t=>
      simp only [eE]at hb
      split at hb
      ·exact ih hb ((List.mem_cons.1 hm).resolve_left fun e=>by cases e)
      ·cases hb
     | lst t=>
      simp only [eE]at hb
      split at hb
      ·exact ih hb ((List.mem_cons.1 hm).resolve_left fun e=>by cases e)
      ·cases hb
     | blk l=>
      simp only [eE]at hb
      split at hb
      ·rename_i Nu
       simp only [Bool.and_eq_true]at Nu
       rcases List.mem_cons.1 hm with e | hm
       ·injection e with e1 e2;injection e2 with e2;subst e1;subst e2
        exact⟨by simpa [Nat.blt_eq]using Nu.1,Nu.2⟩
       ·exact ih hb hm
      ·cases hb
   obtain⟨h6,h7⟩:=key ct.rsh Z7 h3
   refine⟨h6,?_⟩
   have key2:∀(l:List CS)(j:Nat),jo stb.rs.length l=true→nth l j=some (.k q)→q.id<stb.rs.length:=by
    intro l
    induction l with
    | nil=>intro j _ h;simp [nth]at h
    | cons x r ih=>
     intro j hb hj
     cases x with
     | v s=>
      cases j with
      | zero=>simp [nth]at hj
      | succ j=>exact ih j hb hj
     | k p'=>
      simp only [jo]at hb
      split at hb
      ·rename_i Nu
       cases j with
       | zero=>simp only [nth,Option.some.injEq,CS.k.injEq]at hj;subst hj;simpa [Nat.blt_eq]using Nu
       | succ j=>exact ih j hb hj
      ·cases hb
   exact key2 cs j h7 h5
  exact⟨g,cs',T,v,by rw [r2 id Tv.1];exact q1,q2,by show den U NM q=_;rw [Tt q Tv.2];exact q3⟩
 ·have Tp:=av.fg (M:=aG (·.1) ct.rsh) hkb (rs':=NM) (fun i hi hm=>(OW i hi hm).1) (fun i _ x hx=>Tm i x hx)
  intro key k hm
  obtain⟨UT,Rk⟩:=dD hm
  have h0:=Tp key k UT
  cases key with
  | s i=>
   have VH:i ∉ ct.wr2:=by
    intro hh
    have Rk:(!ly i ct.wr2)=true:=Rk
    rw [fh.2 hh]at Rk
    cases Rk
   show iW NM (lk _ i _) k
   have:lk (fun i=>a'.tmps.getD i undef) i (vs++lz NM ct.kns++forget ct.wr2 fr.e)=lk fr.g i fr.e:=by
    rw [VL,← Nn.get,← hr.get]
    exact NO.tmps i fun hi=>VH (Q6 i hi)
   rw [this]
   exact h0
  | c id off=>exact h0
  | l id path=>exact h0
end
end
section
section
variable {U:Uni} {P:Program} {tbl:Tb U} {may:List Nat} {k0:Nat}
variable {w0:World} {X0 X:Nat→Nat→Prop} {w:World} {fr:Fr} {st:St U} {n:Nat} {N:List Nat} {ops:Array Oper}
theorem Steps.back {Rf:St U} {X':Nat→Nat→Prop} {w':World}(h:Steps w0 k0 X0 may {st with md:= []} X Rf X' w'):Steps w0 k0 X0 may st X (kp U Rf st.md) X' w':=by
 obtain⟨a,b,⟨L,h1,h2,h3⟩,d⟩:=h
 refine⟨a,b,⟨L,?_,h2,h3⟩,d⟩
 show Rf.md++st.md=L++st.md
 rw [h1];simp
theorem Gu {s j:Nat} {st st':St U} {X:Nat→Nat→Prop}(h:AW k0 s j st=some st')(hI:Inv w0 k0 X0 may st.rs X w)(hk:av st.rs fr st.kn):∃X',Steps w0 k0 X0 may st X st' X' w∧av st'.rs fr st'.kn:=by
 unfold AW at h
 split at h
 ·rename_i i OU
  split at h
  ·injection h with h;subst h;exact⟨X,Steps.refl hI,hk⟩
  ·rename_i NJ
   have NJ:i≠j:=fun e=>by rw [e,Nat.beq_refl]at NJ;cases NJ
   split at h
   ·rename_i t T A c l t' T' A' c' l' hi hj
    split at h
    ·rename_i hb
     injection h with h;subst h
     simp only [Bool.and_eq_true]at hb
     obtain⟨⟨b1,b2⟩,b3,b4⟩:=hb
     obtain rfl:=Nat.eq_of_beq_eq_true b3
     obtain rfl:=Nat.eq_of_beq_eq_true b4
     have b1:=Nat.le_of_ble_eq_true b1
     have b2:=Nat.le_of_ble_eq_true b2
     have li:=bc hi
     have lj:=bc hj
     have nj:nth (cg (cg st.rs j (.lst t true T A c l)) i (.lst t true T none 0 [])) j=some (.lst t true T A c l):=by
      rw [bn,if_neg (by rintro⟨e,_⟩;exact NJ e.symm),bn,if_pos ⟨rfl,lj⟩]
     have ni:nth (cg (cg st.rs j (.lst t true T A c l)) i (.lst t true T none 0 [])) i=some (.lst t true T none 0 []):=by
      rw [bn,if_pos ⟨rfl,by rw [rZ];exact li⟩]
     have no:∀k,k≠i→k≠j→nth (cg (cg st.rs j (.lst t true T A c l)) i (.lst t true T none 0 [])) k=nth st.rs k:=fun k h1 h2=>by
      rw [bn,if_neg (fun e=>h1 e.1),bn,if_neg (fun e=>h2 e.1)]
     have mem:∀k,k∈ [i,j]→k=i∨k=j:=by simp
     have xi:j7 (j7 X j (X i)) i (fun _=>False) i=fun _=>False:=updX_eq ..
     have xj:j7 (j7 X j (X i)) i (fun _=>False) j=X i:=by rw [jg _ _ (Ne.symm NJ),updX_eq]
     have xo:∀k,k ∉ [i,j]→j7 (j7 X j (X i)) i (fun _=>False) k=X k:=fun k hk=>by
      have:k≠i∧k≠j:=by simpa using hk
      rw [jg _ _ this.1,jg _ _ this.2]
     have hlen:(cg (cg st.rs j (Res.lst t true T A c l)) i (.lst t true T none 0 [])).length=st.rs.length:=by simp
     have N7:∀k a,nth st.rs k=some a→∃b,nth (cg (cg st.rs j (.lst t true T A c l)) i (.lst t true T none 0 [])) k=some b∧di a b:=fun k a ha=>by
      by_cases e1:k=i
      ·subst e1;rw [hi]at ha;injection ha with ha;subst ha;exact⟨_,ni,di.lst ..⟩
      by_cases e2:k=j
      ·subst e2;rw [hj]at ha;injection ha with ha;subst ha;exact⟨_,nj,di.lst ..⟩
      exact⟨a,by rw [no k e1 e2];exact ha,di.refl a⟩
     refine⟨j7 (j7 X j (X i)) i (fun _=>False),⟨?_,by rw [hlen];exact Nat.le_refl _,⟨[i,j],rfl,fun k hk=>.inr (by rcases mem k hk with rfl | rfl<;>assumption),fun k _ hk=>⟨no k (fun e=>hk (by simp [e])) (fun e=>hk (by simp [e])),xo k hk⟩⟩,N7⟩,?_⟩
     ·obtain⟨sat,ch,old,new,len⟩:=hI
      have sub:∀k,k<st.rs.length→∀b,j7 (j7 X j (X i)) i (fun _=>False) k b→(k=j∧X i b)∨(k≠j∧k≠i∧X k b):=fun k _ b hb=>by
       by_cases e1:k=i
       ·subst e1;rw [xi]at hb;exact hb.elim
       by_cases e2:k=j
       ·subst e2;rw [xj]at hb;exact .inl ⟨rfl,hb⟩
       rw [xo k (by simp [e1,e2])]at hb;exact .inr ⟨e2,e1,hb⟩
      refine⟨⟨fun k r hr=>?_,fun a b ha hb Uo k hka hkb=>?_⟩,ch,fun k Qo b hb=>?_,fun k h1 h2 b hb=>?_,by rw [hlen];exact len⟩
      ·by_cases e1:k=i
       ·subst e1;rw [ni]at hr;injection hr with hr;subst hr;rw [xi]
        exact(⟨Own.nil,fun k hk=>hk.elim⟩:RS (fun _=>False) w (.lst t true T none 0 []:Res U))
       by_cases e2:k=j
       ·subst e2;rw [nj]at hr;injection hr with hr;subst hr;rw [xj];exact sat.res i _ hi
       rw [no k e1 e2]at hr;rw [xo k (by simp [e1,e2])];exact sat.res k r hr
      ·rw [hlen]at ha hb
       rcases sub a ha k hka with⟨rfl,h1⟩ | ⟨h0,h00,h1⟩
       ·rcases sub b hb k hkb with⟨rfl,h2⟩ | ⟨_,h3,h2⟩
        ·exact Uo rfl
        ·exact sat.dis i b li hb (Ne.symm h3) k h1 h2
       ·rcases sub b hb k hkb with⟨rfl,h2⟩ | ⟨_,h3,h2⟩
        ·exact sat.dis a i ha li h00 k h1 h2
        ·exact sat.dis a b ha hb Uo k h1 h2
      ·rw [xo k (by simp;omega)]at hb;exact old k Qo b hb
      ·rw [hlen]at h2
       rcases sub k h2 b hb with⟨rfl,h⟩ | ⟨_,_,h⟩
       ·exact new i b1 li b h
       ·exact new k h1 h2 b h
     ·have all:∀ {P:Key×Kn→Prop} {x:Key×Kn} {l:List (Key×Kn)},P x→(∀y,y∈l→P y)→∀y,y∈x::l→P y:=fun h1 h2 y hy=>(List.mem_cons.1 hy).elim (fun e=>e▸h1) (h2 y)
      refine fun key k hm=>all (P:=fun x=>fm _ fr x.1 x.2) ?_ ?_ (key,k) hm
      ·have h0:den U st.rs (.sl i 0)=some (lk fr.g s fr.e):=hk.get OU
       show den U _ (.sl j 0)=some (lk fr.g s fr.e)
       rw [← h0]
       simp only [den,PK.id,nj,hi,cz,jv]
      ·have:=hk.fg (M:= [i,j]) (rs':=cg (cg st.rs j (.lst t true T A c l)) i (.lst t true T none 0 [])) (fun k _ hk=>no k (fun e=>hk (by simp [e])) (fun e=>hk (by simp [e]))) (fun k _ a ha=>N7 k a ha)
       exact fun x hx=>this x.1 x.2 hx
    ·cases h
   ·cases h
 ·cases h
theorem Ey {key:Key} {tt:Nat} {T:TypeId} {st:St U} {X:Nat→Nat→Prop}(hv:uC fr st key=some (.slice none 0 0))(hI:Inv w0 k0 X0 may st.rs X w)(hk:av st.rs fr st.kn):∃X',Steps w0 k0 X0 may st X ⟨st.rs++ [.lst tt true T none 0 []],(key,.p (.sl st.rs.length 0))::eK (fun a _=>!(a.eq key)) st.kn,st.md⟩ X' w∧av (st.rs++ [.lst tt true T none 0 []]) fr ((key,.p (.sl st.rs.length 0))::eK (fun a _=>!(a.eq key)) st.kn):=by
 have PA:RS (fun _=>False) w (.lst tt true T none 0 []:Res U):=⟨Own.nil,fun k hk=>hk.elim⟩
 have P2:nth (st.rs++ [Res.lst tt true T none 0 []]) st.rs.length=some (.lst tt true T none 0 []):=ym
 have hI2:=hI.more (Ch.refl _ _) PA (fun k hk=>hk.elim)
 have NT:=rb hk (Res.lst tt true T none 0 [])
 have hd:den U (st.rs++ [Res.lst tt true T none 0 []]) (.sl st.rs.length 0)=some (.slice none 0 0):=by
  simp only [den,PK.id,P2,cz,jv,List.length_nil]
 refine⟨j7 X st.rs.length fun _=>False,⟨hI2,by simp,⟨[],rfl,fun i hi=>(by cases hi),fun i hi _=>⟨by show nth (st.rs++_) i=_;rw [bu,if_pos hi],jg _ _ (by omega)⟩⟩,fun i a ha=>⟨a,by show nth (st.rs++_) i=_;rw [bu,if_pos (bc ha)];exact ha,di.refl a⟩⟩,?_⟩
 intro key' k hm
 rcases List.mem_cons.1 hm with e | hm
 ·injection e with e1 e2
  subst e1;subst e2
  cases key' with
  | s i=>
   simp only [uC,Option.some.injEq]at hv
   show den U _ _=some (lk fr.g i fr.e)
   rw [hv];exact hd
  | c id off=>
   simp only [uC]at hv
   split at hv
   ·rename_i g cs T' hn
    exact⟨g,cs,T',_,by rw [bu,if_pos (bc hn)];exact hn,hv,hd⟩
   ·cases hv
  | l id path=>simp only [uC,reduceCtorEq]at hv
 ·exact NT _ _ (dD hm).1
theorem iM:∀ {l:List (Key×Nat×TypeId)} {st:St U} {X:Nat→Nat→Prop} {F:St U→Prop},kA k0 fr l st F→Inv w0 k0 X0 may st.rs X w→av st.rs fr st.kn→∃st' X',F st'∧Steps w0 k0 X0 may st X st' X' w∧av st'.rs fr st'.kn
 | [],st,X,F,h,hI,hk=>⟨st,X,h,Steps.refl hI,hk⟩
 | (key,tt,T)::r,st,X,F,h,hI,hk=>by
  have old:(match uC fr st key with
   | some (.slice none 0 0)=>kA k0 fr r ⟨st.rs++ [.lst tt true T none 0 []],(key,.p (.sl st.rs.length 0))::eK (fun a _=>!(a.eq key)) st.kn,st.md⟩ F
   | _=>False)→∃st' X',F st'∧Steps w0 k0 X0 may st X st' X' w∧av st'.rs fr st'.kn:=fun h=>by
   split at h
   ·rename_i hv
    obtain⟨X1,h1,h2⟩:=Ey (tt:=tt) (T:=T) hv hI hk
    obtain⟨st',X',hF,h3,h4⟩:=iM h h1.inv h2
    exact⟨st',X',hF,h1.trans h3,h4⟩
   ·exact h.elim
  cases key with
  | s s=>
   cases hb:Nat.ble 1000 tt with
   | true=>
    simp only [kA,hb]at h
    unfold CB at h
    split at h
    ·obtain⟨hd,h⟩:=h
     have NT:av st.rs fr ((.s s,.p (.sl (tt - 1000) 0))::st.kn):=fun key k hm=>by
      rcases List.mem_cons.1 hm with e | hm
      ·injection e with e1 e2
       subst e1;subst e2
       exact hd
      ·exact hk key k hm
     obtain⟨st',X',hF,h3,h4⟩:=iM h hI NT
     exact⟨st',X',hF,⟨h3.inv,h3.len,h3.md,h3.root⟩,h4⟩
    ·split at h
     ·rename_i Rf hm
      obtain⟨X1,h1,h2⟩:=Gu hm hI hk
      obtain⟨st',X',hF,h3,h4⟩:=iM h h1.inv h2
      exact⟨st',X',hF,h1.trans h3,h4⟩
     ·exact h.elim
   | false=>simp only [kA,hb]at h;exact old h
  | c id off=>cases hb:Nat.ble 1000 tt<;>simp only [kA,hb]at h<;>exact old h
  | l id path=>cases hb:Nat.ble 1000 tt<;>simp only [kA,hb]at h<;>exact old h
theorem Ko {c:Code} {Q:QF2 U} {a:Act} {st':St U} {X':Nat→Nat→Prop} {ws:List Nat}(hS:Steps w0 k0 X0 may st X st' X' w)(h:c.wpIn (WF none) 0 P (mL n ws a fun x Og w2=>Aft w0 k0 X0 may st' X' fr.ds (fun fr' st'=>Q x fr' st') Og w2) a w):
 c.wpIn (WF none) 0 P (mL n ws a fun x Og w2=>Aft w0 k0 X0 may st X fr.ds (fun fr' st'=>Q x fr' st') Og w2) a w:=by
 refine wpIn_mono h fun x a' w' he=>?_
 cases x
 case outgrown=>exact he
 all_goals
  obtain⟨fr',Nn,hq,NO⟩:=he
  exact⟨fr',Nn,hq.pre hS,NO⟩
theorem Ez {c:Code} {an:An} {V:QF2 U→Fr→St U→Prop}(h:tz U P may k0 w0 X0 n c V):tz U P may k0 w0 X0 n c fun Q fr st=>rF U k0 an Q fr st fun Q st=>V Q fr st:=by
 intro Q fr st X a w hr hI hk hv
 simp only [rF]at hv
 obtain⟨st',X',hv,h1,h2⟩:=iM hv hI hk
 refine wpIn_mono (h Q fr st' X' a w hr h1.inv h2 hv) fun x a' w' he=>?_
 cases x
 case outgrown=>exact he
 all_goals
  obtain⟨fr',Nn,hq,NO⟩:=he
  exact⟨fr',Nn,hq.pre h1,NO⟩
theorem gg {c:Code} {an:An} {V:QF2 U→Fr→St U→Prop}(h:tz U P may k0 w0 X0 n c V):tz U P may k0 w0 X0 n c fun Q fr st=>iw U may k0 c an Q fr st fun Q st=>V Q fr st:=by
 refine Ez (V:=fun Q fr st=>rE U may k0 c an Q fr st fun Q st=>V Q fr st) ?_
 intro Q fr st X a w hr hI hk hv
 simp only [rE]at hv
 split at hv
 ·exact h Q fr st X a w hr hI hk hv
 ·rename_i ct hct
  split at hv
  ·rename_i Oz
   simp only [Bool.and_eq_true]at Oz
   obtain⟨Oz,Oc⟩:=Oz
   obtain⟨J,h1,h2⟩:=hv
   have UY:=h _ fr {st with md:= []} X a w hr hI hk h1
   refine wpIn_mono UY fun x a' w' he=>?_
   have other:∀fr',(Aft w0 k0 X0 may {st with md:= []} X fr.ds (fun fr' st'=>Q x fr' (kp U st' st.md)) fr' w')→Aft w0 k0 X0 may st X fr.ds (fun fr' st'=>Q x fr' st') fr' w':=by
    rintro fr' ⟨st',X',g1,g2,g3,g4⟩
    exact⟨kp U st' st.md,X',g1.back,g2,g3,g4⟩
   cases x
   case normal=>
    obtain⟨fr',Nn,⟨st',X',g1,g2,g3,g4⟩,NO⟩:=he
    obtain⟨L,hL,cL,hl⟩:=g1.md
    have hL:st'.md=L:=by rw [hL];simp
    obtain⟨e,OD,f1,f2,f3,f4,f5,f6,f7,f8⟩:=yM (stb:=st) (X:=X) hr Nn NO Oz hk g2 g1.inv g1.len (fun i hi hm _=>hl i hi (by rw [← hL];exact hm)) g1.root hI.len g4 (h2 _)
    refine⟨_,f2,⟨kp U OD (aG (·.1) ct.rsh++st.md),X',⟨f3,by show st.rs.length≤OD.rs.length;omega,⟨aG (·.1) ct.rsh,?_,fun i hi=>gD (cI.1 Oc i hi),f7⟩,f8⟩,f4,rfl,f1⟩,NO⟩
    show OD.md++(aG (·.1) ct.rsh++st.md)=_
    rw [f5];rfl
   case outgrown=>exact he
   all_goals
    obtain⟨fr',Nn,hq,NO⟩:=he
    exact⟨fr',Nn,other fr' hq,NO⟩
  ·exact hv.elim
theorem dC(Ot:∀f c,tbl.c f=some c→LV U P f c∧cj P f=true)(hm:P.follows .mixedOrders=true):∀(c:Code)(an:An),tz U P may k0 w0 X0 n c (fun Q fr st=>j6 U P tbl may k0 n N c an Q fr st)
 | .skip,an=>fun Q fr st X a w hr hI hk hv=>wpIn_skip ⟨fr,hr,⟨st,X,Steps.refl hI,hk,rfl,hv⟩,Agr.refl _ _⟩
 | .region id ops false,an=>gg (c:= .region id ops false) (V:=fun Q fr st=>DL U P tbl may k0 n N ops (Q .normal) (fun ch=>Q (.panic ch)) ops.toList fr st) fun Q fr st X a w hr hI hk hv=>tY Ot hr hI hk hv
 | .region id ops true,an=>gg (c:= .region id ops true) (V:=fun Q fr st=>match Region.noSelect ops,eI ops.toList with
  | true,true=>tX U P tbl may k0 n N ops (lH P ops.toList) an.V an.rd (Q .normal) ops.size (Array.replicate ops.size false) fr st
  | _,_=>False) fun Q fr st X a w hr hI hk hv=>by
  dsimp only at hv
  split at hv
  ·rename_i hs PG
   exact vQ Ot hm hs PG hr hI hk hv
  ·exact hv.elim
 | .seq x y,an=>gg (c:= .seq x y) (V:=fun Q fr st=>j6 U P tbl may k0 n N x an.l (fun e fr' st'=>match e with | .normal=>j6 U P tbl may k0 n N y an.r Q fr' st' | e=>Q e fr' st') fr st) fun Q fr st X a w hr hI hk hv=>by
  refine wpIn_seq (wpIn_mono (dC Ot hm x an.l _ fr st X a w hr hI hk hv) fun e a' w' he=>?_)
  cases e
  case normal=>
   obtain⟨fr',Nn,⟨st',X',g1,g2,g3,g4⟩,NO⟩:=he
   refine wpIn_mono (dC Ot hm y an.r Q fr' st' X' a' w' Nn g1.inv g2 g4) fun e a2 w2 he=>?_
   cases e<;>first
    | exact he.elim
    | (obtain⟨Og,h1,h2,h3⟩:=he
       exact⟨Og,h1,g3▸h2.pre g1,(NO.mono fun i hi=>List.mem_append_left _ hi).trans (h3.mono fun i hi=>List.mem_append_right _ hi)⟩)
  all_goals first
   | exact he.elim
   | (obtain⟨Og,h1,h2,h3⟩:=he
      exact⟨Og,h1,h2,h3.mono fun i hi=>List.mem_append_left _ hi⟩)
 | .cond c x y,an=>gg (c:= .cond c x y) (V:=fun Q fr st=>match ev fr c with
  | .bool b=>split b (j6 U P tbl may k0 n N x an.l Q fr st) (j6 U P tbl may k0 n N y an.r Q fr st)
  | _=>False) fun Q fr st X a w hr hI hk hv=>by
  dsimp only at hv
  split at hv
  ·rename_i b hb
   rw [← hr.eval]at hb
   rcases fv hv with⟨rfl,Ue⟩ | ⟨rfl,Ue⟩
   ·exact wpIn_cond_true hb (wpIn_mono (dC Ot hm x an.l Q fr st X a w hr hI hk Ue) fun e a' w' he=>he.mono (fun i hi=>List.mem_append_left _ hi) (fun _ _ _ h=>h))
   ·exact wpIn_cond_false hb (wpIn_mono (dC Ot hm y an.r Q fr st X a w hr hI hk Ue) fun e a' w' he=>he.mono (fun i hi=>List.mem_append_right _ hi) (fun _ _ _ h=>h))
  ·exact hv.elim
 | .block id c,an=>gg (c:= .block id c) (V:=fun Q fr st=>j6 U P tbl may k0 n N c an.l (fun e fr' st'=>match e with
  | .exit id'=>(match Nat.beq id' id with | true=>Q .normal fr' st' | false=>Q (.exit id') fr' st')
  | e=>Q e fr' st') fr st) fun Q fr st X a w hr hI hk hv=>by
  refine wpIn_block (wpIn_mono (dC Ot hm c an.l _ fr st X a w hr hI hk hv) fun e a' w' he=>?_)
  cases e
  case exit id'=>
   obtain⟨fr',Nn,hq,NO⟩:=he
   simp only [Exit.inBlock]
   split
   ·rename_i hi
    subst hi
    exact⟨fr',Nn,hq.mono fun fr st QG=>(by dsimp only at QG;rw [Nat.beq_refl]at QG;exact QG),NO⟩
   ·rename_i hi
    refine⟨fr',Nn,hq.mono fun fr st QG=>?_,NO⟩
    dsimp only at QG
    split at QG
    ·rename_i hb;exact absurd (Nat.eq_of_beq_eq_true hb) hi
    ·exact QG
  all_goals exact he
 | .loop c,an=>fun Q fr st00 X00 a w hr acJ ab8 hv=>by
  simp only [j6,rF]at hv
  obtain⟨st,X,hv,aaH,hk⟩:=iM hv acJ ab8
  have hI:=aaH.inv
  refine Ko aaH ?_
  split at hv
  ·exact hv.elim
  ·rename_i ct hct
   split at hv
   ·rename_i Oz
    simp only [Bool.and_eq_true]at Oz
    obtain⟨Oz,Oc⟩:=Oz
    obtain⟨I,⟨m0,h0⟩,PY⟩:=hv
    refine nG (fun m a' w'=>∃fr' st' X',Rep n fr' a'∧(Inv w0 k0 X0 may st'.rs X' w'∧st.rs.length≤st'.rs.length∧(∀i,i<st.rs.length→i ∉ st'.md→i ∉ aG (·.1) ct.rsh→nth st'.rs i=nth st.rs i∧X' i=X i)∧∀i a,nth st.rs i=some a→∃b,nth st'.rs i=some b∧di a b)∧av st'.rs fr' st'.kn∧o9 ct st.rs.length (I m) fr' st'∧Agr (writes c) a a') m0 ⟨fr,{st with md:= []},X,hr,⟨hI,Nat.le_refl _,fun _ _ _ _=>⟨rfl,rfl⟩,fun i a ha=>⟨a,ha,di.refl a⟩⟩,hk,h0,Agr.refl _ _⟩ ?_
    rintro m a1 w1 ⟨TA,Rf,X1,Q2,⟨Oi,Rt,Z3,Vy⟩,OA,hu,NO⟩
    obtain⟨e,OD,f1,f2,f3,f4,f5,f6,f7,f8⟩:=yM (stb:=st) (X:=X) hr Q2 NO Oz hk OA Oi Rt Z3 Vy hI.len hu (PY m _)
    refine wpIn_mono (dC Ot hm c an.l _ _ OD X1 a1 w1 f2 f3 f4 f1) fun x a' w' he=>?_
    have join:∀ {RI:St U} {X3:Nat→Nat→Prop},Steps w0 k0 X0 may OD X1 RI X3 w'→∃L3,RI.md=L3∧(∀i,i∈L3→i∈may∨k0≤i)∧∀i,i<st.rs.length→i ∉ L3→i ∉ aG (·.1) ct.rsh→nth RI.rs i=nth st.rs i∧X3 i=X i:=by
     intro RI X3 Z3
     obtain⟨L3,hL3,cL3,VM⟩:=Z3.md
     refine⟨L3,by rw [hL3,f5];simp,cL3,fun i hi hn Se=>?_⟩
     obtain⟨e1,e2⟩:=VM i (by omega) hn
     obtain⟨e3,e4⟩:=f7 i hi Se
     exact⟨e1.trans e3,e2.trans e4⟩
    have rootj:∀ {RI:St U} {X3:Nat→Nat→Prop},Steps w0 k0 X0 may OD X1 RI X3 w'→∀i a,nth st.rs i=some a→∃b,nth RI.rs i=some b∧di a b:=by
     intro RI X3 Z3 i x hx
     obtain⟨b,hb,hr⟩:=f8 i x hx
     obtain⟨c',Ul,Nn⟩:=Z3.root i b hb
     exact⟨c',Ul,hr.trans Nn⟩
    have out:∀ {K:Fr→St U→Prop} {fr':Fr},Aft w0 k0 X0 may OD X1 fr.ds (fun fr' st'=>K fr' (kp U st' (aG (·.1) ct.rsh++st.md))) fr' w'→Aft w0 k0 X0 may st X fr.ds K fr' w':=by
     rintro K fr' ⟨RI,X3,g1,g2,g3,g4⟩
     obtain⟨L3,hL3,cL3,VM⟩:=join g1
     refine⟨kp U RI (aG (·.1) ct.rsh++st.md),X3,⟨g1.inv,?_,⟨L3++aG (·.1) ct.rsh,?_,fun i hi=>(List.mem_append.1 hi).elim (cL3 i) (fun hi=>gD (cI.1 Oc i hi)),fun i hi hn=>?_⟩,fun i x hx=>rootj g1 i x hx⟩,g2,g3,g4⟩
     ·show st.rs.length≤RI.rs.length
      have:=g1.len;omega
     ·show RI.md++(_++_)=_
      rw [hL3,List.append_assoc]
     ·rw [List.mem_append,not_or]at hn
      exact VM i hi hn.1 hn.2
    cases x
    case normal=>
     obtain⟨fr',Nn,⟨RI,X3,g1,g2,g3,m',Nu,hu'⟩,Rv⟩:=he
     obtain⟨L3,hL3,_,VM⟩:=join g1
     exact⟨m',Nu,fr',RI,X3,Nn,⟨g1.inv,by have:=g1.len;omega,fun i hi hn Se=>VM i hi (by rw [← hL3];exact hn) Se,rootj g1⟩,g2,hu',NO.trans Rv⟩
    case outgrown=>exact he
    all_goals
     obtain⟨fr',Nn,hq,Rv⟩:=he
     exact⟨fr',Nn,out hq,NO.trans Rv⟩
   ·exact hv.elim
 | .exit id,an=>fun Q fr st X a w hr hI hk hv=>wpIn_exit ⟨fr,hr,⟨st,X,Steps.refl hI,hk,rfl,hv⟩,Agr.refl _ _⟩
 | .ret,an=>fun Q fr st X a w hr hI hk hv=>wpIn_ret ⟨fr,hr,⟨st,X,Steps.refl hI,hk,rfl,hv⟩,Agr.refl _ _⟩
 | .scope c,an=>by
  refine gg (c:= .scope c) (V:=fun Q fr st=>j6 U P tbl may k0 n N c an.l (fun e fr' st'=>match e with
   | .goto _=>False
   | e=>Q e fr' st') fr st) fun Q fr st X a w hr hI hk hv=>?_
  refine(wpIn_wide (n:=0)).2 (wp_scope_straight ((wpIn_wide (n:=0)).1 (wpIn_mono (dC Ot hm c an.l _ fr st X a w hr hI hk hv) fun e a' w' he=>?_)))
  cases e
  case goto l=>obtain⟨_,_,⟨_,_,_,_,_,h⟩,_⟩:=he;exact h.elim
  all_goals exact he
 | .label _,an=>fun Q fr st X a w hr hI hk hv=>wpIn_label ⟨fr,hr,⟨st,X,Steps.refl hI,hk,rfl,hv⟩,Agr.refl _ _⟩
 | .rangeFunc _ _ _ _,an=>fun Q fr st X a w hr hI hk hv=>hv.elim
 | .goto _,an=>fun Q fr st X a w hr hI hk hv=>hv.elim
 | .refuse _,an=>fun Q fr st X a w hr hI hk hv=>hv.elim
end
end
end Go.Proofs.YtinhphjfnedhgaaGreatDoor.V
namespace Go.Proofs.YtinhphjfnedhgaaGreatDoor.V
open Go Go.RowKit
open Go.IntKind (i64 u32 u64)
open Enc (enc)
section
section
variable {U:Uni} {P:Program} {tbl:Tb U} {may:List Nat} {k0:Nat}
variable {w0:World} {X0 X:Nat→Nat→Prop} {w:World} {fr:Fr} {st:St U} {n:Nat} {N:List Nat}
theorem Ec {t:TypeId} {k:Option Kn} {x:Value} {K:Value→Option Kn→Prop}(h:uW U P t k st K)(hx:KnO st.rs x k):∃q,x= .pointer (some q):=by
 unfold uW at h
 split at h
 ·rename_i id off
  split at h
  ·rename_i g cs T hn
   have hd:den U st.rs (.loc id off)=some x:=hx
   simp only [den,PK.id,hn,cz,Option.some.injEq]at hd
   exact⟨_,hd.symm⟩
  ·exact h.elim
 ·rename_i id path off
  split at h
  ·rename_i tt r s hn
   have hd:den U st.rs (.obj id path off)=some x:=hx
   simp only [den,PK.id,hn,cz,Option.some.injEq]at hd
   exact⟨_,hd.symm⟩
  ·exact h.elim
 ·rename_i id li i off
  split at h
  ·rename_i r hn
   split at h
   ·rename_i L hL
    have hd:den U st.rs (.el id li i off)=some x:=hx
    simp only [den,PK.id,hn,cz,hL]at hd
    split at hd
    ·injection hd with hd;exact⟨_,hd.symm⟩
    ·cases hd
   ·exact h.elim
  ·exact h.elim
 ·exact h.elim
theorem kh {tmps:Array Value}(ht:∀i,tmps.getD i undef=lk fr.g i fr.e)(hS:Sat st.rs X w)(hk:av st.rs fr st.kn):∀(rs:List ResultVar) {F:List Value→List (Option Kn)→Prop},lh U P fr st rs F→
 ∃vs ks,F vs ks∧vs.length=ks.length∧(∀j v k,nth vs j=some v→nth ks j=some k→KnO st.rs v k)∧(rs.mapM (kZ tmps)).run P w= .ok vs w
 | [],F,h=>⟨[],[],h,rfl,fun j v k hv=>by simp [nth]at hv,rfl⟩
 | .tmp t::r,F,h=>by
  obtain⟨vs,ks,hF,hl,OU,hr⟩:=kh ht hS hk r h
  refine⟨_,_,hF,by simp [hl],fun j v k hv NS=>?_,?_⟩
  ·cases j with
   | zero=>
    simp only [nth,Option.some.injEq]at hv NS
    subst hv;subst NS
    cases hg:cV (.s t) st.kn with
    | none=>exact trivial
    | some q=>exact hk.get hg
   | succ j=>exact OU j v k hv NS
  ·have h1:(kZ tmps (.tmp t)).run P w= .ok (lk fr.g t fr.e) w:=by rw [← ht];rfl
   rw [List.mapM_cons,Sem.run_bind,h1]
   show(Sem.run P (do let bs ← r.mapM (kZ tmps);pure (lk fr.g t fr.e::bs)) w)=_
   rw [Sem.run_bind,hr]
   rfl
 | .cell a t::r,F,h=>by
  simp only [lh]at h
  have hx:KnO st.rs (lk fr.g a fr.e) (cV (.s a) st.kn):=by
   cases hg:cV (.s a) st.kn with
   | none=>exact trivial
   | some q=>exact hk.get hg
  obtain⟨q,hq⟩:=Ec h hx
  obtain⟨v,kv,hF,QI,OG⟩:=uV hS hk hx h
  obtain⟨vs,ks,hF,hl,OU,hr⟩:=kh ht hS hk r hF
  refine⟨_,_,hF,by simp [hl],fun j u k hv NS=>?_,?_⟩
  ·cases j with
   | zero=>
    simp only [nth,Option.some.injEq]at hv NS
    subst hv;subst NS
    exact QI
   | succ j=>exact OU j u k hv NS
  ·have h2:=OG w (Kept.refl _ _)
   rw [hq]at h2
   have h1:(kZ tmps (.cell a t)).run P w= .ok v w:=by
    show(do loadVar t (← asAddr (tmps.getD a undef)):Sem Value).run P w=_
    rw [ht,hq]
    exact h2
   rw [List.mapM_cons,Sem.run_bind,h1]
   show(Sem.run P (do let bs ← r.mapM (kZ tmps);pure (v::bs)) w)=_
   rw [Sem.run_bind,hr]
   rfl
theorem xO {fn:Func} {tmps:Array Value} {vs:List Value}(hr:(fn.results.toList.mapM (kZ tmps)).run P w= .ok vs w):(results fn tmps).run P w= .ok (match vs with | [v]=>v | vs=>.tuple ⟨vs⟩) w:=by
 have hm:(fn.results.mapM (kZ tmps)).run P w= .ok ⟨vs⟩ w:=by
  rw [Array.mapM_eq_mapM_toList]
  simp [hr]
 have Tn:results fn tmps=(do let vs ← fn.results.mapM (kZ tmps);pure (if h:vs.size=1 then vs[0]else .tuple vs)):=by
  unfold results kZ
  congr 1
 rw [Tn,Sem.run_bind,hm]
 cases vs with
 | nil=>rfl
 | cons v r=>
  cases r with
  | nil=>rfl
  | cons u r=>rfl
theorem wJ {a b:Res U}(h:di a b):dh a (uD U b)=some b:=by
 cases h
 ·rename_i h
  simp only [dh,uD,h,Nat.beq_refl]
 ·simp [dh,uD]
 ·simp [dh,uD]
theorem mJ {G:List (Res U)}:∀ {ms:List Nat} {us:List (Res U)} {L:List (Res U)},iI (nth G) ms=some us→(∀i,i∈ms→∀b,nth G i=some b→∃a,nth L i=some a∧di a b)→∃L',bO L ms (aG (uD U) us)=some L'∧L'.length=L.length∧(∀i,i∈ms→nth L' i=nth G i)∧∀i,i ∉ ms→nth L' i=nth L i
 | [],us,L,hM,h=>by
  simp only [iI,Option.some.injEq]at hM
  subst hM
  exact⟨L,rfl,rfl,fun i hi=>(by cases hi),fun _ _=>rfl⟩
 | m::ms,us,L,hM,h=>by
  simp only [iI]at hM
  split at hM
  ·rename_i b bs hb VV
   injection hM with hM
   subst hM
   obtain⟨a,ha,hr⟩:=h m (List.mem_cons_self ..) b hb
   have hml:=bc ha
   have e:∀j,nth (cg L m b) j=if j=m then some b else nth L j:=fun j=>by
    rw [bn]
    by_cases hj:j=m
    ·rw [if_pos ⟨hj,hml⟩,if_pos hj]
    ·rw [if_neg (fun hh=>hj hh.1),if_neg hj]
   obtain⟨L',h1,h2,h3,h4⟩:=mJ (L:=cg L m b) VV fun i hi x hx=>by
    rw [e]
    by_cases hj:i=m
    ·subst hj
     rw [hb]at hx
     injection hx with hx
     subst hx
     exact⟨b,by rw [if_pos rfl],di.refl b⟩
    ·rw [if_neg hj];exact h i (List.mem_cons_of_mem _ hi) x hx
   refine⟨L',?_,by rw [h2];simp,fun i hi=>?_,fun i hi=>?_⟩
   ·simp only [aG,bO,ha,wJ hr]
    exact h1
   ·by_cases hm:i∈ms
    ·exact h3 i hm
    ·have:i=m:=(List.mem_cons.1 hi).resolve_right hm
     subst this
     rw [h4 i hm,e,if_pos rfl,hb]
   ·rw [List.mem_cons,not_or]at hi
    rw [h4 i hi.2,e,if_neg hi.1]
  ·cases hM
theorem uM {i:Nat}:∀ {l:List Nat} {p q:Nat},posOf i l p=some q→p≤q∧nth l (q - p)=some i
 | [],_,_,h=>by cases h
 | j::r,p,q,h=>by
  simp only [posOf]at h
  split at h
  ·rename_i he
   injection h with h
   subst h
   exact⟨Nat.le_refl _,by rw [Nat.sub_self,Nat.eq_of_beq_eq_true he];rfl⟩
  ·obtain⟨h1,h2⟩:=uM h
   refine⟨by omega,?_⟩
   rw [show q - p=(q - (p+1))+1 by omega]
   exact h2
theorem yd {α β:Type} {f:α→Option β} {l:List α} {r:List β}(h:iI f l=some r) {i:Nat} {a:α}(ha:nth l i=some a):f a=nth r i:=by
 obtain⟨b,h1,h2⟩:=(sI h).2 i a ha
 rw [h1,h2]
theorem Gx {α β:Type} {f:α→Option β} {l:List α} {r:List β}(h:iI f l=some r):r.length=l.length:=(sI h).1
theorem pN {rs:List (Res U)} {key:Key} {k:Kn}:∀ {l:List (Key×Kn)},qx rs l=true→(key,k)∈l→(∃p v,k= .p p∧den U rs p=some v)∨∃l,k= .ag l∧∀j p,nth l j=some (some p)→∃v,den U rs p=some v
 | [],_,h=>by cases h
 | (a,.p p)::r,h,hm=>by
  simp only [qx]at h
  split at h
  ·rename_i v hv
   rcases List.mem_cons.1 hm with e | hm
   ·injection e with e1 e2;subst e2;exact .inl ⟨p,v,rfl,hv⟩
   ·exact pN h hm
  ·cases h
 | (a,.t _)::r,h,_=>by cases h
 | (a,.ag l)::r,h,hm=>by
  simp only [qx]at h
  split at h
  ·rename_i hl
   rcases List.mem_cons.1 hm with e | hm
   ·injection e with e1 e2;subst e2
    refine .inr ⟨l,rfl,fun j p hj=>?_⟩
    have:=cI.1 hl _ (gX hj)
    simp only [Ej]at this
    split at this
    ·rename_i v hv;exact⟨v,hv⟩
    ·cases this
   ·exact pN h hm
  ·cases h
 | (a,.f _ _)::r,h,_=>by cases h
theorem og {key:Key} {k:Kn}:∀ {l:List (Option Kn)} {i:Nat},(key,k)∈tZ i l→∃j,key= .s (i+j)∧nth l j=some (some k)
 | [],_,h=>by cases h
 | none::r,i,h=>by
  obtain⟨j,h1,h2⟩:=og (l:=r) h
  exact⟨j+1,by rw [h1];congr 1;omega,h2⟩
 | some q::r,i,h=>by
  rcases List.mem_cons.1 h with e | h
  ·injection e with e1 e2;subst e2;exact⟨0,e1,rfl⟩
  ·obtain⟨j,h1,h2⟩:=og (l:=r) h
   exact⟨j+1,by rw [h1];congr 1;omega,h2⟩
theorem tl {id:Nat} {key:Key} {k:Kn}:∀ {l:List AV} {i:Nat},(key,k)∈Jf id i l→∃j p,key= .c id (i+j)∧k= .p p∧nth l j=some (.k p)
 | [],_,h=>by cases h
 | .v _::r,i,h=>by
  obtain⟨j,p,h1,h2,h3⟩:=tl (l:=r) h
  exact⟨j+1,p,by rw [h1];congr 1;omega,h2,h3⟩
 | .k q::r,i,h=>by
  rcases List.mem_cons.1 h with e | h
  ·injection e with e1 e2;exact⟨0,q,e1,e2,rfl⟩
  ·obtain⟨j,p,h1,h2,h3⟩:=tl (l:=r) h
   exact⟨j+1,p,by rw [h1];congr 1;omega,h2,h3⟩
theorem lq {key:Key} {k:Kn}:∀ {l:List (PR U)} {i:Nat},(key,k)∈AO i l→∃j g az T o p,nth l j=some (.blk g az T)∧key= .c (i+j) o∧k= .p p∧nth az o=some (.k p)
 | [],_,h=>by cases h
 | .blk g az T::r,i,h=>by
  rcases List.mem_append.1 h with h | h
  ·obtain⟨o,p,h1,h2,h3⟩:=tl h
   exact⟨0,g,az,T,o,p,rfl,by rw [h1];simp,h2,h3⟩
  ·obtain⟨j,a,b,c,o,p,h1,h2,h3⟩:=lq (l:=r) h
   exact⟨j+1,a,b,c,o,p,h1,by rw [h2];congr 1;omega,h3⟩
 | .ob .. ::r,i,h=>by
  obtain⟨j,a,b,c,o,p,h1,h2,h3⟩:=lq (l:=r) h
  exact⟨j+1,a,b,c,o,p,h1,by rw [h2];congr 1;omega,h3⟩
 | .lst .. ::r,i,h=>by
  obtain⟨j,a,b,c,o,p,h1,h2,h3⟩:=lq (l:=r) h
  exact⟨j+1,a,b,c,o,p,h1,by rw [h2];congr 1;omega,h3⟩
theorem zc {T:Type} {c:CP} {J:c.T T} {F G:T→AV→Prop}(h:alC c J F)(hg:∀a b,F a b→G a b):alC c J G:=by
 cases c<;>simp only [alC]at h ⊢ <;>first | exact fun x=>hg _ _ (h x) | exact fun x y z=>hg _ _ (h x y z) | exact hg _ _ h
theorem pY {T:Type}:∀ {l:List CP} {J:Cg l T} {F G:T→List AV→Prop},BB l J F→(∀a b,F a b→G a b)→BB l J G
 | [],_,_,_,h,hg=>hg _ _ h
 | c::l,J,F,G,h,hg=>zc (c:=c) h fun _ _ h=>pY h fun _ _ h=>hg _ _ h
theorem Hs {T:Type} {a:AP} {J:a.T U T} {F G:T→AA→Prop}(h:alA a J F)(hg:∀a b,F a b→G a b):alA a J G:=by
 cases a with
 | one c=>exact zc (c:=c) h fun _ _ h=>hg _ _ h
 | agg l=>exact pY (l:=l) h fun _ _ h=>hg _ _ h
 | enc tt=>exact fun x=>hg _ _ (h x)
theorem vo {T:Type}:∀ {l:List AP} {J:Cr U l T} {F G:T→List AA→Prop},wM l J F→(∀a b,F a b→G a b)→wM l J G
 | [],_,_,_,h,hg=>hg _ _ h
 | c::l,J,F,G,h,hg=>Hs (a:=c) h fun _ _ h=>vo h fun _ _ h=>hg _ _ h
theorem Hq {T:Type} {p:RP} {J:p.T U T} {F G:T→PR U→Prop}(h:alR p J F)(hg:∀a b,F a b→G a b):alR p J G:=by
 cases p with
 | ob t=>exact fun r s=>hg _ _ (h r s)
 | blk l T=>exact fun g=>pY (h g) fun _ _ h=>hg _ _ h
 | lst t own T=>exact fun A c l=>hg _ _ (h A c l)
theorem vn {T:Type}:∀ {l:List RP} {J:EG U l T} {F G:T→List (PR U)→Prop},wL l J F→(∀a b,b.length=l.length→F a b→G a b)→wL l J G
 | [],_,_,_,h,hg=>hg _ _ rfl h
 | c::l,J,F,G,h,hg=>Hq (p:=c) h fun _ _ h=>vn h fun _ _ hl h=>hg _ _ (by simp [hl]) h
theorem yx {bD rets:List Nat} {Q:Ou U→Prop} {v:Value} {k:Option Kn} {Pa:List (Res U)} {X':Nat→Nat→Prop} {w':World}(h:KZ U k0 bD rets Q v k st)(Wq:Pa.length=k0)(hs:Steps w k0 X bD ⟨Pa,[],[]⟩ X st X' w')(hk:av st.rs fr st.kn)(hv:k=some .pan∨KnO st.rs v k)(Oe:∀i,i∈bD→i<k0):
 ∃out rs' X'',iL k v=iL out.kr out.res∧Q out∧bO Pa bD out.upd=some rs'∧vx Pa bD X w out w' rs' X'':=by
 unfold KZ at h
 split at h
 case h_2=>exact h.elim
 rename_i us ns hus hns OJ
 simp only [Bool.and_eq_true]at OJ
 obtain⟨UZ,PG⟩:=OJ
 have UZ:∀i,i∈rets→k0≤i:=fun i hi=>Nat.le_of_ble_eq_true (cI.1 UZ i hi)
 have PG:=mU PG
 obtain⟨L,hL,cL,hl⟩:=hs.md
 have OW:∀i,i<k0→i ∉ bD→nth st.rs i=nth Pa i∧X' i=X i:=by
  intro i hi hm
  refine hl i (by simp only [];omega) fun Rk=>?_
  rcases cL i Rk with h | h
  ·exact hm h
  ·omega
 obtain⟨rs',NF,aak,Q6,abW⟩:=mJ (L:=Pa) hus fun i hi b hb=>by
  obtain⟨a,ha⟩:=cu (l:=Pa) (i:=i) (by rw [Wq];exact Oe i hi)
  obtain⟨b',OQ,hr⟩:=hs.root i a ha
  rw [hb]at OQ
  injection OQ with OQ
  subst OQ
  exact⟨a,ha,hr⟩
 have Tl:∀i,i<k0→nth rs' i=nth st.rs i:=by
  intro i hi
  by_cases hm:i∈bD
  ·exact Q6 i hm
  ·rw [abW i hm,(OW i hi hm).1]
 have VF:ns.length=rets.length:=Gx hns
 have Ri:rs'.length=k0:=by rw [aak,Wq]
 have VE:∀i j,mT k0 rets i=some j→nth (rs'++ns) j=nth st.rs i:=by
  intro i j NJ
  unfold mT at NJ
  split at NJ
  ·rename_i hb
   have hb:i<k0:=by simpa [Nat.blt_eq]using hb
   injection NJ with NJ
   subst NJ
   rw [bu,if_pos (by omega),Tl i hb]
  ·simp only [Option.map_eq_some_iff]at NJ
   obtain⟨p,hp,rfl⟩:=NJ
   obtain⟨_,NZ⟩:=uM hp
   rw [Nat.sub_zero]at NZ
   rw [bu,if_neg (by omega),show k0+p - rs'.length=p by omega,← yd hns NZ]
 have OB:∀ {p q:PK} {u:Value},p.ren (mT k0 rets)=some q→den U st.rs p=some u→den U (rs'++ns) q=some u:=by
  intro p q u hp hd
  have h1:=VE _ _ (PK.vP hp)
  unfold den at hd ⊢
  rw [h1,← hd]
  cases p<;>simp only [PK.ren,Option.map_eq_some_iff]at hp<;>obtain⟨i,hi,rfl⟩:=hp<;>simp only [PK.id]<;>cases nth st.rs _<;>first | rfl | (rename_i r;cases r<;>rfl)
 have VO:∀ {v:Value} {k k':Kn},k.ren (mT k0 rets)=some k'→iW st.rs v k→iW (rs'++ns) v k':=by
  intro v k k' hk hv
  cases k with
  | pan=>exact hv.elim
  | p p=>
   simp only [Kn.ren,Option.map_eq_some_iff]at hk
   obtain⟨q,hq,rfl⟩:=hk
   exact OB hq hv
  | t l=>
   simp only [Kn.ren,Option.some.injEq]at hk
   subst hk
   obtain⟨vs,e,hh⟩:=hv
   refine⟨vs,e,fun j q hj=>?_⟩
   obtain⟨p,hp,hq⟩:=dQ hj
   obtain⟨u,hu,hd⟩:=hh j p hp
   exact⟨u,hu,OB hq hd⟩
  | ag l=>
   simp only [Kn.ren,Option.some.injEq]at hk
   subst hk
   obtain⟨vs,e,hh⟩:=hv
   refine⟨vs,e,fun j q hj=>?_⟩
   obtain⟨p,hp,hq⟩:=dQ hj
   obtain⟨u,hu,hd⟩:=hh j p hp
   exact⟨u,hu,OB hq hd⟩
  | f a b=>
   simp only [Kn.ren,Option.some.injEq]at hk
   subst hk
   obtain⟨fn,fs,cs,e,hl,h1,h2⟩:=hv
   refine⟨fn,fs,cs,e,by simpa using hl,fun j q hj=>?_,fun j q hj=>?_⟩
   ·obtain⟨p,hp,hq⟩:=dQ hj
    obtain⟨u,hu,hd⟩:=h1 j p hp
    exact⟨u,hu,OB hq hd⟩
   ·obtain⟨p,hp,hq⟩:=dQ hj
    obtain⟨u,hu,hd⟩:=h2 j p hp
    exact⟨u,hu,OB hq hd⟩
 let X'':Nat→Nat→Prop:=fun i=>if i<k0 then X' i else match nth rets (i - k0)with
  | some r=>X' r
  | none=>fun _=>False
 have hX:∀i,i<k0→X'' i=X' i:=fun i hi=>if_pos hi
 have hXr:∀i r,¬i<k0→nth rets (i - k0)=some r→X'' i=X' r:=fun i r hi hr=>by
  show(if i<k0 then _ else _)=_
  rw [if_neg hi,hr]
 have RN:∀i,i<(rs'++ns).length→∃r,X'' i=X' r∧nth (rs'++ns) i=nth st.rs r∧r<st.rs.length∧((i<k0∧r=i)∨(¬i<k0∧k0≤r∧nth rets (i - k0)=some r)):=by
  intro i hi
  by_cases h1:i<k0
  ·refine⟨i,hX i h1,by rw [bu,if_pos (by omega),Tl i h1],?_,.inl ⟨h1,rfl⟩⟩
   have:=hs.len
   simp only at this
   omega
  ·simp at hi
   obtain⟨r,hr⟩:=cu (l:=rets) (i:=i - k0) (by omega)
   have hn:=yd hns hr
   obtain⟨y,hy⟩:=cu (l:=ns) (i:=i - k0) (by omega)
   rw [hy]at hn
   exact⟨r,hXr i r h1 hr,by rw [bu,if_neg (by omega),show i - rs'.length=i - k0 by omega,hy,hn],bc hn,.inr ⟨h1,UZ r (gX hr),hr⟩⟩
 refine⟨_,rs',X'',(uZ ..).symm,h,NF,⟨⟨fun i r hr=>?_,fun i j hi hj NJ k TJ=>?_⟩,hs.inv.ch,fun i hi hm=>?_,fun i hm k TJ=>?_,fun i h1 h2 k TJ=>?_,?_,fun key q hq hns=>?_⟩⟩
 ·obtain⟨m,e1,e2,_⟩:=RN i (bc hr)
  rw [e1]
  exact hs.inv.sat.res m r (by rw [← e2];exact hr)
 ·obtain⟨a,a1,a2,a3,a4⟩:=RN i hi
  obtain⟨b,b1,b2,b3,b4⟩:=RN j hj
  rw [a1]at TJ
  rw [b1]
  refine hs.inv.sat.dis a b a3 b3 (fun Uo=>?_) k TJ
  subst Uo
  rcases a4 with⟨a5,a6⟩ | ⟨a5,a6,a7⟩<;>rcases b4 with⟨b5,b6⟩ | ⟨b5,b6,b7⟩
  ·exact NJ (a6.symm.trans b6)
  ·omega
  ·omega
  ·have inj:∀(l:List Nat)(x y r:Nat),l.Nodup→nth l x=some r→nth l y=some r→x=y:=by
    intro l
    induction l with
    | nil=>intro x y r _ h;simp [nth]at h
    | cons z l ih=>
     intro x y r hn h1 h2
     rw [List.nodup_cons]at hn
     cases x with
     | zero=>
      simp only [nth,Option.some.injEq]at h1
      subst h1
      cases y with
      | zero=>rfl
      | succ y=>exact absurd (gX (l:=l) h2) hn.1
     | succ x=>
      cases y with
      | zero=>
       simp only [nth,Option.some.injEq]at h2
       subst h2
       exact absurd (gX (l:=l) h1) hn.1
      | succ y=>rw [ih x y r hn.2 h1 h2]
   have:=inj rets _ _ _ PG a7 b7
   omega
 ·rw [hX i (by omega)]
  exact(OW i (by omega) hm).2
 ·rw [hX i (Oe i hm)]at TJ
  exact hs.inv.old i (Oe i hm) k TJ
 ·obtain⟨m,e1,e2,e3,e4⟩:=RN i (by simp only [List.length_append];simp only at h2;omega)
  rw [e1]at TJ
  rcases e4 with⟨e5,e6⟩ | ⟨e5,e6,_⟩
  ·omega
  ·exact hs.inv.new m e6 e3 k TJ
 ·rcases hv with rfl | hv
  ·exact .inl rfl
  right
  cases k with
  | none=>exact trivial
  | some k=>
   show KnO _ v (k.ren _)
   cases hkr:k.ren (mT k0 rets)with
   | none=>exact trivial
   | some k'=>exact VO hkr hv
 ·obtain⟨i0,i',o',k1,⟨rfl,e2⟩ | ⟨rfl,e2⟩,e3,e4⟩:=jK hq
  ·obtain⟨UT,_⟩:=dD e2
   obtain⟨g,cs,T,u,q1,q2,q3⟩:=hk _ _ UT
   exact⟨g,cs,T,u,by show nth (rs'++ns) _=_;rw [VE _ _ e3];exact q1,q2,VO e4 q3⟩
  ·obtain⟨UT,_⟩:=dD e2
   obtain⟨t,r,s,q1,q2⟩:=hk _ _ UT
   exact⟨t,r,s,by show nth (rs'++ns) _=_;rw [VE _ _ e3];exact q1,VO e4 q2⟩
theorem rj {fn:Func} {rets:List Nat} {Q:Ou U→Prop} {Pa:List (Res U)} {bD:List Nat} {kn0:List (Key×Kn)} {a':Act} {w':World} {st':St U} {X':Nat→Nat→Prop}(Ri:Pa.length=k0)(Oe:∀i,i∈bD→i<k0)(hr:Rep n fr a')(hs:Steps w k0 X bD ⟨Pa,kn0,[]⟩ X st' X' w')(hk:av st'.rs fr st'.kn)
 (Tn:vN U P k0 bD rets Q fn fr st'):∃v,(results fn a'.tmps).run P w'= .ok v w'∧aS Pa bD X w Q (.returned v) w':=by
 obtain⟨vs,ks,hF,hlen,QI,OG⟩:=kh hr.get hs.inv.sat hk _ Tn
 refine⟨_,xO OG,?_⟩
 have Z6:Steps w k0 X bD ⟨Pa,[],[]⟩ X st' X' w':=⟨hs.inv,hs.len,hs.md,hs.root⟩
 have go:∀ {v k},GS U k0 bD rets Q v k st'→KnO st'.rs v k→∃out rs' X',Ending.returned v=iL out.kr out.res∧Q out∧bO Pa bD out.upd=some rs'∧vx Pa bD X w out w' rs' X':=by
  intro v k P4 Uh
  obtain⟨out,rs',X'',h1,h2,h3,h4⟩:=yx P4 Ri Z6 hk (.inr Uh) Oe
  exact⟨out,rs',X'',by rw [← h1];cases k with | none=>rfl | some k=>cases k<;>first | rfl | exact Uh.elim,h2,h3,h4⟩
 have tup:∀ {vs:List Value} {ks:List (Option Kn)},vs.length=ks.length→(∀j v k,nth vs j=some v→nth ks j=some k→KnO st'.rs v k)→KnO st'.rs (.tuple ⟨vs⟩) (some (.t (aG jc ks))):=by
  intro vs ks hlen QI
  refine⟨⟨vs⟩,rfl,fun j p hj=>?_⟩
  rw [br]at hj
  cases hn:nth ks j with
  | none=>rw [hn]at hj;cases hj
  | some k=>
   rw [hn]at hj
   injection hj with hj
   obtain⟨v,hv⟩:=cu (l:=vs) (i:=j) (by rw [hlen];exact bc hn)
   refine⟨v,by rw [aH]at hv;simpa using hv,?_⟩
   have:=QI j v k hv hn
   unfold jc at hj
   split at hj
   ·injection hj with hj;subst hj;exact this
   ·cases hj
 cases vs with
 | nil=>
  cases ks with
  | nil=>exact go hF (tup rfl QI)
  | cons _ _=>simp at hlen
 | cons v r=>
  cases ks with
  | nil=>simp at hlen
  | cons k s=>
   cases r with
   | nil=>
    cases s with
    | nil=>exact go hF (QI 0 v k rfl rfl)
    | cons _ _=>simp at hlen
   | cons u r=>
    cases s with
    | nil=>simp at hlen
    | cons _ _=>exact go hF (tup hlen QI)
theorem Cw {f:Nat} {fn:Func} {c:Ctr U} {V:Code→(Ou U→Prop)→Fr→St U→Prop} {W:List Value→List (Option Kn)→List (Res U)→List (Key×Kn)→(Ou U→Prop)→Prop}(hf:P.funcs[f]? =some fn)
 (hV:∀(code:Code)(Q:Ou U→Prop)(Pa:List (Res U))(X:Nat→Nat→Prop)(w:World)(kn:List (Key×Kn))(fr:Fr)(a:Act),Pa.length=c.res.length→Inv w c.res.length X c.bD Pa X w→Rep fn.ntmps fr a→av Pa fr kn→fr.ds= []→V code Q fr ⟨Pa,kn,[]⟩→code.wpIn (WF none) 0 P (bodyPostM (WF none) 0 P fn (aS Pa c.bD X w Q)) a w)
 (hW:∀args ks rs kc Q,W args ks rs kc Q→∃code,fn.body=some code∧Nat.ble args.length fn.ntmps=true∧qx rs (tZ 0 ks++kc)=true∧V code Q ⟨num 0 args,fun _=>undef,[]⟩ ⟨rs,tZ 0 ks++kc,[]⟩)
 (h:wM c.args c.body fun B az=>wL c.res B fun B ps=>∀Q:Ou U→Prop,B Q→wm (eg ps) (W (aG (tv (aG PR.jD ps)) az) (aG EB az) (eg ps) (AO 0 ps++wc 0 ps) Q)):LV U P f c:=by
 refine vo h fun B az h=>vn h fun B ps hl h=>?_
 intro Q hQ X w hsat hlkp
 have h:=jL (fun r hr=>by
  obtain⟨j,hj,he⟩:=List.mem_iff_getElem.1 hr
  exact⟨_,_,hsat.res j r (by rw [aH,List.getElem?_eq_getElem hj,he])⟩) (h Q hQ)
 obtain⟨code,hb,hnt,hkd,h⟩:=hW _ _ _ _ _ h
 have Q4:(aG (tv (aG PR.jD ps)) az).length≤fn.ntmps:=Nat.le_of_ble_eq_true hnt
 have Ri:(eg ps).length=c.res.length:=by simp [hl]
 have hI:Inv w c.res.length X c.bD (eg ps) X w:=⟨hsat,Ch.refl _ _,fun i _ k hk=>.inl hk,fun i h1 h2=>by omega,by omega⟩
 generalize P7:aG (tv (aG PR.jD ps)) az=args at h Q4 ⊢
 have OU:av (eg ps) ⟨num 0 args,fun _=>undef,[]⟩ (tZ 0 (aG EB az)++(AO 0 ps++wc 0 ps)):=by
  intro key k Nv
  rcases pN hkd Nv with⟨p,v,rfl,hd⟩ | ⟨l,rfl,hd⟩
  rotate_left
  ·rcases List.mem_append.1 Nv with Nv | Nv
   ·obtain⟨j,rfl,hj⟩:=og Nv
    rw [Nat.zero_add]
    rw [br]at hj
    cases ha:nth az j with
    | none=>rw [ha]at hj;cases hj
    | some a=>
     rw [ha]at hj
     injection hj with hj
     obtain⟨as',rfl,rfl⟩:∃as',a= .agg as'∧l=aG avK as':=by
      unfold EB at hj
      split at hj
      ·cases hj
      ·cases hj
      ·split at hj
       ·injection hj with hj;injection hj with hj;exact⟨_,rfl,hj.symm⟩
       ·cases hj
     have hv:nth args j=some (.agg ⟨aG (jT (aG PR.jD ps)) as'⟩):=by rw [← P7,br,ha];rfl
     have Nu:=bc hv
     refine⟨⟨aG (jT (aG PR.jD ps)) as'⟩,?_,fun j' k hk=>?_⟩
     ·show lk _ j (num 0 args)=_
      rw [sK,dif_pos ⟨Nat.zero_le _,by simpa using Nu⟩]
      rw [aH,List.getElem?_eq_getElem Nu]at hv
      simpa using hv
     ·obtain⟨u,hu⟩:=hd j' k hk
      refine⟨u,?_,hu⟩
      rw [br]at hk
      cases hn:nth as' j' with
      | none=>rw [hn]at hk;cases hk
      | some b=>
       rw [hn]at hk
       injection hk with hk
       cases b with
       | v x=>cases hk
       | k p=>
        injection hk with hk
        subst hk
        have h9:nth (aG (jT (aG PR.jD ps)) as') j'=some u:=by
         rw [br,hn]
         show some ((den U (aG PR.jD ps) p).getD undef)=_
         rw [← rn,hu];rfl
        rw [aH]at h9
        simpa using h9
   ·rcases List.mem_append.1 Nv with Nv | Nv
    ·obtain⟨_,_,_,_,_,_,_,_,h3,_⟩:=lq Nv
     cases h3
    ·have h9:=jJ Nv
     obtain⟨_,_,_,_,_,_,_,_,_,_,h3,h4⟩:=h9
     cases h4
  rcases List.mem_append.1 Nv with Nv | Nv
  ·obtain⟨j,rfl,hj⟩:=og Nv
   rw [Nat.zero_add]
   rw [br]at hj
   cases ha:nth az j with
   | none=>rw [ha]at hj;cases hj
   | some a=>
    rw [ha]at hj
    injection hj with hj
    have ha2:a= .one (.k p):=by
     unfold EB at hj
     split at hj
     ·injection hj with hj;injection hj with hj;rw [hj]
     ·cases hj
     ·split at hj<;>cases hj
    subst ha2
    show den U (eg ps) p=some (lk _ j (num 0 args))
    have hv:nth args j=some v:=by
     rw [← P7,br,ha]
     show some ((den U (aG PR.jD ps) p).getD undef)=_
     rw [← rn,hd];rfl
    have Nu:=bc hv
    rw [sK,dif_pos ⟨Nat.zero_le _,by simpa using Nu⟩,hd]
    rw [aH,List.getElem?_eq_getElem Nu]at hv
    rw [← hv]
    simp
  rcases List.mem_append.1 Nv with Nv | Nv
  rotate_left
  ·have h0:=hlkp _ _ Nv
   obtain⟨_,_,_,_,_,_,_,_,_,_,rfl,_⟩:=jJ Nv
   exact h0
  ·obtain⟨j,g,as',T,o,q,h1,h2,h3,h4⟩:=lq Nv
   injection h3 with h3
   subst h3
   rw [h2,Nat.zero_add]
   refine⟨g,aG (jT (aG PR.jD ps)) as',T,v,?_,?_,hd⟩
   ·rw [jO,h1];rfl
   ·rw [br,h4]
    show some ((den U (aG PR.jD ps) p).getD undef)=_
    rw [← rn,hd];rfl
 refine(callsIn_wide (n:=0)).1 (callsIn_of_wp_marks (F:=WF none) hf hb trivial ?_)
 have Pz:Rep fn.ntmps ⟨num 0 args,fun _=>undef,[]⟩ {tmps:=(⟨args⟩:Array Value)++Array.replicate (fn.ntmps - (⟨args⟩:Array Value).size) undef,defers:= []}:=by
  refine⟨by simp;omega,fun i=>?_,rfl⟩
  rw [sK]
  simp only [Nat.zero_le,Nat.sub_zero,true_and,Array.getD_eq_getD_getElem?]
  by_cases hi:i<args.length
  ·rw [dif_pos hi,Array.getElem?_append_left (by simpa using hi)]
   simp [hi]
  ·rw [dif_neg hi,Array.getElem?_append_right (by simpa using hi)]
   rw [Array.getElem?_replicate]
   split<;>rfl
 exact hV code Q (eg ps) X w _ _ _ Ri hI Pz OU rfl h
theorem Is {f:Nat} {fn:Func} {an:An} {rets:List Nat} {c:Ctr U}(hf:P.funcs[f]? =some fn)(hm:P.follows .mixedOrders=true)(Ot:∀f c,tbl.c f=some c→LV U P f c∧cj P f=true)(Oe:hH (fun i=>Nat.blt i c.res.length) c.bD=true)(h:Vc2 U P tbl N fn an rets c):LV U P f c:=by
 have P1:∀i,i∈c.bD→i<c.res.length:=fun i hi=>by simpa [Nat.blt_eq]using cI.1 Oe i hi
 refine Cw (V:=fun code Q fr st=>j6 U P tbl c.bD c.res.length fn.ntmps N code an (fun e fr st=>match fr.ds,e with
  | [],.normal=>vN U P c.res.length c.bD rets Q fn fr st
  | [],.ret=>vN U P c.res.length c.bD rets Q fn fr st
  | [],.panic [⟨v,false,false⟩]=>GS U c.res.length c.bD rets Q v (some .pan) st
  | _,_=>False) fr st) hf ?_ (fun args ks rs kc Q h=>?_) h
 ·intro code Q Pa X w kn fr a Ri hI Pz OU Pf h
  refine wpIn_mono (dC Ot hm code an _ _ _ X _ w Pz hI OU h) fun e a' w' he=>?_
  cases e
  case normal=>
   obtain⟨fr',hr,⟨st',X',g1,g2,g3,g4⟩,_⟩:=he
   have g3:fr'.ds= []:=g3.trans Pf
   rw [g3]at g4
   show LeavesInM (WF none) 0 P fn a'.tmps _ a'.defers .returning w'
   rw [hr.defers,g3]
   exact rj Ri P1 hr g1 g2 g4
  case ret=>
   obtain⟨fr',hr,⟨st',X',g1,g2,g3,g4⟩,_⟩:=he
   have g3:fr'.ds= []:=g3.trans Pf
   rw [g3]at g4
   show LeavesInM (WF none) 0 P fn a'.tmps _ a'.defers .returning w'
   rw [hr.defers,g3]
   exact rj Ri P1 hr g1 g2 g4
  case panic ch=>
   obtain⟨fr',hr,⟨st',X',g1,g2,g3,g4⟩,_⟩:=he
   have g3:fr'.ds= []:=g3.trans Pf
   rw [g3]at g4
   rcases ch with _ | ⟨⟨v,_ | _,_ | _⟩,_ | ⟨c2,r⟩⟩<;>first | exact g4.elim | skip
   obtain⟨out,rs',X'',h1,h2,h3,h4⟩:=yx g4 Ri ⟨g1.inv,g1.len,g1.md,g1.root⟩ g2 (.inl rfl) P1
   show LeavesInM (WF none) 0 P fn a'.tmps _ a'.defers (.panicking [⟨v,false,false⟩]) w'
   rw [hr.defers,g3]
   exact⟨out,rs',X'',h1,h2,h3,h4⟩
  case outgrown=>exact he.elim
  all_goals
   obtain⟨fr',hr,⟨st',X',g1,g2,g3,g4⟩,_⟩:=he
   have g3:fr'.ds= []:=g3.trans Pf
   rw [g3]at g4
   exact g4.elim
 ·unfold Ly at h
  split at h
  case h_2=>exact h.elim
  rename_i code hb OJ
  simp only [Bool.and_eq_true]at OJ
  exact⟨code,hb,OJ.1,OJ.2,h⟩
def DP {U:Uni}:List (Nat×Ctr U)→Nat→Option (Ctr U)
 | [],_=>none
 | (g,c)::r,f=>match Nat.beq g f with
  | true=>some c
  | false=>DP r f
abbrev bw {U:Uni}(l:List (Nat×Ctr U)):Tb U:=⟨DP l,.bool,[]⟩
def vI(U:Uni)(P:Program):List (Nat×Ctr U)→Prop
 | []=>True
 | (f,c)::r=>LV U P f c∧vI U P r
theorem pq {c:Ctr U} {f:Nat}:∀ {tb:List (Nat×Ctr U)},DP tb f=some c→vI U P tb→hH (fun p=>cj P p.1) tb=true→LV U P f c∧cj P f=true
 | [],h,_,_=>by cases h
 | (g,d)::r,h,ha,hb=>by
  unfold DP at h
  have hc:=cI.1 hb
  split at h
  ·rename_i he
   injection h with h
   rw [← h,← Nat.eq_of_beq_eq_true he]
   exact⟨ha.1,hc _ (List.mem_cons_self ..)⟩
  ·exact pq h ha.2 (cI.2 fun x hx=>hc x (List.mem_cons_of_mem _ hx))
theorem verify {f:Nat} {fn:Func} {an:An} {rets:List Nat} {c:Ctr U} {tb:List (Nat×Ctr U)} {sh:Sh} {al:List (Nat×List PK×List PK)}(hf:P.funcs[f]? =some fn)(hm:P.follows .mixedOrders=true)(ht:vI U P tb)(hb:(hH (fun p=>cj P p.1) tb && hH (fun i=>Nat.blt i c.res.length) c.bD)=true)(h:Vc2 U P ⟨DP tb,sh,al⟩ N fn an rets c):LV U P f c:=by
 rw [Bool.and_eq_true]at hb
 exact Is hf hm (fun f c hfc=>pq hfc ht hb.1) hb.2 h
theorem aS.pu {rs:List (Res U)} {X:Nat→Nat→Prop} {w w':World} {Q:Ou U→Prop} {v:Value} {k:Option Kn}(hs:Sat rs X w)(q:Pu w w')(hQ:Q ⟨v,k,[],[],[]⟩)(hk:KnO rs v k):aS rs [] X w Q (.returned v) w':=by
 have Z6:Sat (rs++ []) X w':=by
  rw [List.append_nil]
  exact⟨fun i r hr=>(hs.res i r hr).ch q (fun _ _ h=>h),hs.dis⟩
 refine⟨_,rs,X,fi hk,hQ,rfl,⟨Z6,q.mono fun k hk=>hk.elim,fun _ _ _=>rfl,fun i hi=>(by cases hi),fun i h1 h2=>by simp at h2;omega,.inr (by simpa using hk),fun _ k hk=>by cases hk⟩⟩
theorem aS.one {t:Nat} {r:Nat→Nat} {s s':U.ty t} {X:Nat→Nat→Prop} {w w':World} {Q:Ou U→Prop} {v:Value} {k:Option Kn} {Z:Nat→Prop}(q:Ch (X 0) w w')(hp:U.pred t r s' Z w')(hz:∀k,Z k→X 0 k∨w.heap.size≤k)(hQ:Q ⟨v,k,[.ob t s'],[],[]⟩)(hk:KnO [.ob t r s'] v k):aS [.ob t r s] [0] X w Q (.returned v) w':=by
 have NF:bO [Res.ob t r s] [0] [.ob t s']=some [.ob t r s']:=by simp [bO,dh,nth,cg]
 refine⟨_,_,fun i=>if i=0 then Z else X i,fi hk,hQ,NF,⟨⟨fun i r' hr=>?_,fun i j hi hj NJ=>?_⟩,q.mono fun k hk=>⟨0,by simp,hk⟩,fun i hi hm=>?_,fun i hi k hk=>?_,fun i h1 h2=>by simp at h1 h2;omega,.inr hk,fun _ k hk=>by cases hk⟩⟩
 ·cases i with
  | zero=>simp only [List.append_nil,nth,Option.some.injEq]at hr;subst hr;exact hp
  | succ i=>simp [nth]at hr
 ·simp at hi hj;omega
 ·simp at hi hm;omega
 ·simp at hi;subst hi;exact hz k hk
theorem aS.new {t:Nat} {r:Nat→Nat} {s':U.ty t} {X:Nat→Nat→Prop} {w w':World} {Q:Ou U→Prop} {v:Value} {k:Option Kn} {Z:Nat→Prop}(q:Pu w w')(hp:U.pred t r s' Z w')(hz:∀k,Z k→w.heap.size≤k)(hQ:Q ⟨v,k,[],[.ob t r s'],[]⟩)(hk:KnO [.ob t r s'] v k):aS [] [] X w Q (.returned v) w':=by
 refine⟨_,[],fun i=>if i=0 then Z else X i,fi hk,hQ,rfl,⟨⟨fun i r' hr=>?_,fun i j hi hj NJ=>?_⟩,q.mono fun k hk=>hk.elim,fun i hi hm=>?_,fun i hi=>(by cases hi),fun i h1 h2 k hk=>?_,.inr hk,fun _ k hk=>by cases hk⟩⟩
 ·cases i with
  | zero=>simp only [List.nil_append,nth,Option.some.injEq]at hr;subst hr;exact hp
  | succ i=>simp [nth]at hr
 ·simp at hi hj;omega
 ·simp at hi
 ·simp at h2;subst h2;exact hz k hk
theorem bU {b:Bool} {x y:Prop}(h:split b x y)(hb:b=true):x:=(fv h).elim (·.2) fun h=>by rw [hb]at h;cases h.1
theorem bV {b:Bool} {x y:Prop}(h:split b x y)(hb:b=false):y:=(fv h).elim (fun h=>by rw [hb]at h;cases h.1) (·.2)
theorem ao {a b:Prop}(h:a)(k:a→b):a∧b:=⟨h,k h⟩
theorem KnO.tup {U:Uni} {rs:List (Res U)} {vs:Array Value}:∀(l:List (Option PK)),(∀o∈l,o=none)→KnO rs (.tuple vs) (some (.t l)):=fun l h=>⟨vs,rfl,fun j k hj=>by have:=h _ (gX hj);cases this⟩
theorem allEq {α:Sort _} {a:α} {F:α→Prop}(h:F a):∀x,x=a→F x:=fun _ e=>e▸h
theorem ab {α:Type} {a b:α} {l m:List α}(h:a=b)(k:l=m):a::l=b::m:=by rw [h,k]
theorem gh {α:Type} {F:(α→Prop)→Prop} {G:α→Prop}(e:α)(h1:F (fun x=>x=e))(h2:G e):∃J:α→Prop,F J∧∀(_:Nat→Value)(x:α),J x→G x:=⟨_,h1,fun _ _ h=>h▸h2⟩
theorem dup2 {α β:Type} {F:(α→β→Prop)→Prop} {G:α→β→Prop}(h:F G):∃J:α→β→Prop,F J∧∀(_:Nat→Value)(x:α)(y:β),J x y→G x y:=⟨_,h,fun _ _ _ h=>h⟩
theorem CY {U:Uni} {Q:Ou U→Prop} {a b:Bool} {k:Option Kn} {u:List (Upd U)} {n:List (Res U)} {kc:List (Key×Kn)}(h:Q ⟨.bool a,k,u,n,kc⟩)(h1:a=b):Q ⟨.bool b,k,u,n,kc⟩:=h1▸h
theorem sM {U:Uni} {Q:Ou U→Prop} {i:IntKind} {a b:Int} {k:Option Kn} {u:List (Upd U)} {n:List (Res U)} {kc:List (Key×Kn)}(h:Q ⟨.int i a,k,u,n,kc⟩)(h1:a=b):Q ⟨.int i b,k,u,n,kc⟩:=h1▸h
theorem aB {U:Uni} {Q:Ou U→Prop} {a b:Value} {k:Option Kn} {u u':List (Upd U)} {n n':List (Res U)} {kc:List (Key×Kn)}(h:Q ⟨a,k,u,n,kc⟩)(h1:a=b)(h2:u=u')(h3:n=n'):Q ⟨b,k,u',n',kc⟩:=by rw [← h1,← h2,← h3];exact h
end
theorem cG {a b:Int}(h:a=b):Value.int .i64 a=Value.int .i64 b:=congrArg _ h
theorem bt {a b:Int}(h:a=b):Value.int .u32 a=Value.int .u32 b:=congrArg _ h
theorem eQb {a b:Bool}(h:a=b):Value.bool a=Value.bool b:=congrArg _ h
end
end Go.Proofs.YtinhphjfnedhgaaGreatDoor.V
namespace Go.Proofs.YtinhphjfnedhgaaGreatDoor
open Go.Proofs.Tryz (prog)
open Go Go.RowKit V
open Go.IntKind (i64 u32 u64)
open Enc (enc)
section
structure BkE where
 p:Int
 A:Option Addr
 n:Nat
 c:Nat
instance:Enc BkE:=⟨fun x=>[.int .i64 x.p,.slice x.A x.n x.c],2,fun _=>rfl,by simp [Value.oneCell'],by omega⟩
structure MOE where
 k:Int
 a:Int
 A:Option Addr
 n:Nat
 c:Nat
instance:Enc MOE:=⟨fun x=>[.int .i64 x.k,.int .u32 x.a,.slice x.A x.n x.c],3,fun _=>rfl,by simp [Value.oneCell'],by omega⟩
structure MOW where
 k:Int
 a:Int
 A:Option Addr
 n:Nat
 c:Nat
 l:List U32
def MOW.o(x:MOW):MOE:=⟨x.k,x.a,x.A,x.n,x.c⟩
structure Wt where
 A:Option Addr
 c:Nat
 l:List U32
structure BSt where
 rows:Nat→Option (Nat×List MOW)
 last:Wt
def BSt.nil:BSt:=⟨fun _=>none,⟨none,0,[]⟩⟩
structure ja(w:World)(W:Nat→Prop)(s:BSt):Prop where
 own:∀g c es,s.rows g=some (c,es)→Own w (fun k=>k=g) 64 (some ⟨g,0,none⟩) es.length c (es.map MOW.o)
 off:∀g q,s.rows g=some q→g<w.heap.size∧¬W g
 wds:∀g c es x,s.rows g=some (c,es)→x∈es→Rd w W x.A x.n x.c x.l
 last:Rd w W s.last.A s.last.l.length s.last.c s.last.l
 lt:∀k,W k→k<w.heap.size
def ij(W:Nat→Prop)(s:BSt):Nat→Prop:=fun k=>W k∨∃q,s.rows k=some q
section
variable {w w':World} {W X:Nat→Prop} {s:BSt}
theorem ja.ch(h:ja w W s)(q:Ch X w w')(hb:∀k,ij W s k→¬X k):ja w' W s:=
 ⟨fun g c es hr=>(h.own g c es hr).ch q fun k hk=>hb k (.inr ⟨_,hk▸hr⟩),fun g r hr=>⟨Nat.lt_of_lt_of_le (h.off g r hr).1 q.size,(h.off g r hr).2⟩,fun g c es x hr hx=>(h.wds g c es x hr hx).ch q fun k hk=>hb k (.inl hk),h.last.ch q fun k hk=>hb k (.inl hk),fun k hk=>Nat.lt_of_lt_of_le (h.lt k hk) q.size⟩
theorem ja.ltX(h:ja w W s):∀k,ij W s k→k<w.heap.size:=fun k hk=>by
 rcases hk with hk | ⟨q,hk⟩
 ·exact h.lt k hk
 ·exact(h.off k q hk).1
theorem ja.nil:ja w (fun _=>False) BSt.nil:=⟨fun g c es h=>(by cases h),fun g q h=>(by cases h),fun g c es x h=>(by cases h),Rd.nil,fun k h=>h.elim⟩
end
def kO(s:BSt)(b:BkE)(es:List MOW):Prop:=(b.A=none∧b.n=0∧b.c=0∧es= [])∨∃g,b.A=some ⟨g,0,none⟩∧b.n=es.length∧s.rows g=some (b.c,es)
theorem kO.one {s:BSt} {b:BkE} {es fs:List MOW}(h:kO s b es)(k:kO s b fs):es=fs:=by
 rcases h with⟨h1,_,_,rfl⟩ | ⟨g,h1,_,h2⟩
 ·rcases k with⟨_,_,_,rfl⟩ | ⟨g,k1,_⟩
  ·rfl
  ·rw [h1]at k1;cases k1
 ·rcases k with⟨k1,_⟩ | ⟨g',k1,_,k2⟩
  ·rw [h1]at k1;cases k1
  ·rw [h1]at k1
   injection k1 with k1
   injection k1 with k1
   subst k1
   rw [h2]at k2
   injection k2 with k2
   injection k2
def qh(bk:List BkE)(s:BSt)(p:Int)(o:MOW)(QM:List BkE)(s1:BSt):Prop:=
 ((∀b,b∈bk→b.p≠p)∧QM=bk∧s1=s)∨
 ∃(i:Nat)(b:BkE)(A:Option Addr)(c:Nat),bk[i]? =some b∧b.p=p∧A≠none∧QM=bk.set i ⟨p,A,b.n+1,c⟩∧(∀es,kO s b es→kO s1 ⟨p,A,b.n+1,c⟩ (es++ [o]))∧(∀b' es',kO s b' es'→(b'.A=none∨b'.A≠b.A)→kO s1 b' es'∧(b'.A=none∨b'.A≠A))
structure FC(bk:List BkE)(s:BSt)(p:Int):Prop where
 one:∀(i j:Nat)(b b':BkE),bk[i]? =some b→bk[j]? =some b'→b.p=b'.p→i=j
 has:∀b,b∈bk→∃es,kO s b es
 few:∀b,b∈bk→b.p=p→b.n≤1000000
end
structure LOp where
 k:Int
 a:Int
 b:Int
 c:Int
 d:Int
instance:Enc LOp:=⟨fun x=>[.int .i64 x.k,.int .u32 x.a,.int .u32 x.b,.int .u32 x.c,.int .u32 x.d],5,fun _=>rfl,by simp [Value.oneCell'],by omega⟩
structure W26 where
 l:List U32
def W26.c(x:W26):List Value:=aG (fun j=>.int .u32 (x.l.getD j (U32.mk 0)).v) (upN 0 26)
def W26.n(x:W26):List U32:=aG (fun j=>U32.mk (x.l.getD j (U32.mk 0)).v) (upN 0 26)
instance:Enc W26:=⟨W26.c,26,fun _=>rfl,fun x u h=>by
 obtain⟨a,rfl⟩:=sH h
 rfl,by omega⟩
def UEl:Nat→Type
 | 0=>I64
 | 1=>U32
 | 2=>U8
 | 3=>Bl
 | 4=>Ent
 | 5=>LOp
 | 6=>Fl
 | 7=>BkE
 | 8=>W26
 | _=>I64
@[reducible] def UEn:(t:Nat)→Enc (UEl t)
 | 0=>inferInstanceAs (Enc I64)
 | 1=>inferInstanceAs (Enc U32)
 | 2=>inferInstanceAs (Enc U8)
 | 3=>inferInstanceAs (Enc Bl)
 | 4=>inferInstanceAs (Enc Ent)
 | 5=>inferInstanceAs (Enc LOp)
 | 6=>inferInstanceAs (Enc Fl)
 | 7=>inferInstanceAs (Enc BkE)
 | 8=>inferInstanceAs (Enc W26)
 | _+9=>inferInstanceAs (Enc I64)
def UDf:(t:Nat)→UEl t
 | 0=>I64.mk 0
 | 1=>U32.mk 0
 | 2=>U8.mk 0
 | 3=>Bl.mk false
 | 4=>Ent.free
 | 5=>⟨0,0,0,0,0⟩
 | 6=>Fl.zero
 | 7=>⟨0,none,0,0⟩
 | 8=>⟨[]⟩
 | _+9=>I64.mk 0
def Hz:(t:Nat)→List Value→Option (UEl t)
 | 0,[.int .i64 x]=>some (I64.mk x)
 | 1,[.int .u32 x]=>some (U32.mk x)
 | 2,[.int .u8 x]=>some (U8.mk x)
 | 3,[.bool x]=>some (Bl.mk x)
 | 4,[.int .i64 a,.int .i64 b,.int .i64 c,.int .i64 d,.bool e]=>some (Ent.mk a b c d e)
 | 5,[.int .i64 a,.int .u32 b,.int .u32 c,.int .u32 d,.int .u32 e]=>some (LOp.mk a b c d e)
 | 7,[.int .i64 p,.slice A n c]=>some (BkE.mk p A n c)
 | _,_=>none
theorem gF {t:Nat} {cs:List Value} {x:UEl t}(h:Hz t cs=some x):(UEn t).enc x=cs:=by
 unfold Hz at h
 split at h<;>first | (injection h with h;subst h;rfl) | cases h
def K4(cs:List Value):Option W26:=match yH cs with
 | some l=>(match Nat.beq l.length 26 with
  | true=>some ⟨l⟩
  | false=>none)
 | none=>none
theorem I9 {cs:List Value} {x:W26}(h:K4 cs=some x):x.c=cs:=by
 unfold K4 at h
 split at h
 ·rename_i l hl
  split at h
  ·rename_i hn
   injection h with h
   subst h
   have hn:=Nat.eq_of_beq_eq_true hn
   rw [oB hl]
   apply List.ext_getElem?
   intro j
   show(aG _ _)[j]? =_
   rw [← aH,br,List.getElem?_map,List.getElem?_map]
   cases hj:nth (upN 0 26) j with
   | none=>rw [List.getElem?_eq_none];rfl;(by_cases h9:j<26;(have h8:=cu (l:=upN 0 26) (i:=j) (by rw [gl];exact h9);rw [hj]at h8;obtain⟨_,h8⟩:=h8;cases h8);omega)
   | some i=>
    have h1:=jh hj
    have h2:=bc hj
    rw [gl]at h2
    have h3:i=j:=by omega
    subst h3
    show some (Value.int .u32 (l.getD i (U32.mk 0)).v)=_
    rw [List.getD_eq_getElem?_getD,List.getElem?_eq_getElem (by omega)];rfl
  ·cases h
 ·cases h
def Mw:(t:Nat)→List Value→Option (UEl t)
 | 6,cs=>yJ cs
 | 8,cs=>K4 cs
 | t,cs=>Hz t cs
theorem Jo:∀ {t:Nat} {cs:List Value} {x:UEl t},Mw t cs=some x→(UEn t).enc x=cs
 | 6,_,_,h=>(pQ h).1.symm
 | 0,_,_,h=>gF (t:=0) h
 | 1,_,_,h=>gF (t:=1) h
 | 2,_,_,h=>gF (t:=2) h
 | 3,_,_,h=>gF (t:=3) h
 | 4,_,_,h=>gF (t:=4) h
 | 5,_,_,h=>gF (t:=5) h
 | 7,_,_,h=>gF (t:=7) h
 | 8,_,_,h=>I9 h
 | t+9,_,_,h=>gF (t:=t+9) h
def UE:Els:=⟨UEl,UEn,UDf,Mw,Jo⟩
def MR:Kind UE where
 ty:=Mem
 pred:=fun r s X w=>∃L:eP,r 0=L.g∧(∀k,L.X k↔X k)∧cA w L s
 ch:=fun⟨L,h1,h2,h3⟩ q hb=>⟨L,h1,h2,h3.ch q fun k hk=>hb k ((h2 k).1 hk)⟩
 lt:=fun⟨_,_,h2,h3⟩ k hk=>h3.lt k ((h2 k).2 hk)
 iv:=true
 inv:=Mem.Wf
 gM:=fun⟨_,_,_,h⟩=>⟨h.u32,h.eU⟩
def kPd:Kind UE where
 ty:=Pd
 pred:=fun r s X w=>∃a,(∀k,(k=r 0∨k=a)↔X k)∧PdP w (r 0) a (r 1) s
 ch:=fun⟨a,h1,h2⟩ q hb=>⟨a,h1,h2.ch q (hb _ ((h1 _).1 (.inl rfl))) (hb _ ((h1 _).1 (.inr rfl)))⟩
 lt:=fun⟨a,h1,h2⟩ k hk=>by rcases(h1 k).2 hk with rfl | rfl;exact h2.lt.1;exact h2.lt.2
 iv:=true
 inv:=Pd.Ok
 gM:=fun⟨_,_,h⟩=>h.ok
 fo:=fun _ s path off=>match path,off with
  | 0,0=>some (.o 1 0)
  | 0,1=>some (.v (.int .i64 s.ax))
  | _,_=>none
 sU:=by
  rintro r s X w path off f v ⟨a,hX,hD⟩ hf hv
  have h:=LP hD
  split at hf
  ·injection hf with hf;subst hf;simp only [fvV]at hv
   exact⟨(hX _).1 (.inl rfl),by rw [← hv];exact h.1⟩
  ·injection hf with hf;subst hf;simp only [fvV]at hv
   exact⟨(hX _).1 (.inl rfl),by rw [← hv];exact h.2⟩
  ·cases hf
 fs:=fun _ s path off v=>match path,off,v with
  | 0,1,.int .i64 x=>some (0≤x∧x≤64,s.gu x)
  | _,_,_=>none
 sQ:=by
  rintro r s s' X w path off v c ⟨a,hX,hD⟩ hf hc K hK
  split at hf
  ·simp only [Option.some.injEq,Prod.mk.injEq]at hf
   obtain⟨rfl,rfl⟩:=hf
   exact hD.DU hc fun w' h' q=>hK w' ⟨a,hX,h'⟩ (q.mono fun k hk=>(hX k).1 (.inl hk))
  ·cases hf
def L6:Kind UE where
 ty:=Mem
 pred:=fun r s X w=>∃L:kE,(∀k,L.X k↔X k)∧fW w (r 0) L s
 ch:=fun⟨L,h2,h3⟩ q hb=>⟨L,h2,h3.ch q fun k hk=>hb k ((h2 k).1 hk)⟩
 lt:=fun⟨_,h2,h3⟩ k hk=>h3.lt k ((h2 k).2 hk)
 iv:=true
 inv:=Mem.Wf
 gM:=fun⟨_,_,h⟩=>⟨h.u32,h.eU⟩
def MQ:Kind UE where
 ty:=Pd
 pred:=fun r s X w=>(∀k,(k=r 0∨k=r 2)↔X k)∧oP w (r 0) (r 1) (r 2) (r 3) s
 ch:=fun⟨h1,h2⟩ q hb=>⟨h1,h2.ch q (hb _ ((h1 _).1 (.inl rfl))) (hb _ ((h1 _).1 (.inr rfl)))⟩
 lt:=fun⟨h1,h2⟩ k hk=>by rcases(h1 k).2 hk with rfl | rfl;exact h2.lt.1;exact h2.lt.2
 li:=fun r s i=>match i with
  | 0=>some ⟨4,some ⟨r 2,0,none⟩,r 3,s.jP⟩
  | _=>none
 qv:=by
  rintro r s X w i L h hl
  split at hl
  ·injection hl with hl;subst hl;exact KA h.1 h.2
  ·cases hl
 st:=fun _ s j i tt=>match j,tt with
  | 0,4=>fun x=>some ((Ent.ok x=true∧Ent.owner x<((s.n:Nat):Int)),s.set i x)
  | _,_=>fun _=>none
 rR:=by
  rintro r s s' X w j i L x y off vs c h hl hx ho hy hs hc K hK
  split at hl
  ·injection hl with hl
   subst hl
   simp only [Option.some.injEq,Prod.mk.injEq]at hs
   obtain⟨rfl,rfl⟩:=hs
   exact h.2.Kz hx ho hy hc fun w' h' q=>hK w' ⟨h.1,h'⟩ (q.mono fun k hk=>(h.1 k).1 (.inr hk))
  ·cases hl
 iv:=true
 inv:=Pd.Ok
 gM:=fun⟨_,h⟩=>h.ok
 fo:=fun _ s path off=>match path,off with
  | 0,0=>some (.o 1 0)
  | 0,1=>some (.l 0)
  | 0,2=>some (.v (.int .i64 s.ax))
  | _,_=>none
 sU:=by
  rintro r s X w path off f v ⟨hX,hD⟩ hf hv
  have h:=KB hD
  split at hf
  ·injection hf with hf;subst hf;simp only [fvV]at hv
   exact⟨(hX _).1 (.inl rfl),by rw [← hv];exact h.1⟩
  ·injection hf with hf;subst hf;simp only [fvV]at hv
   exact⟨(hX _).1 (.inl rfl),by rw [← hv];exact h.2.1⟩
  ·injection hf with hf;subst hf;simp only [fvV]at hv
   exact⟨(hX _).1 (.inl rfl),by rw [← hv];exact h.2.2⟩
  ·cases hf
 fs:=fun _ s path off v=>match path,off,v with
  | 0,2,.int .i64 x=>some (0≤x∧x≤64,s.gu x)
  | _,_,_=>none
 sQ:=by
  rintro r s s' X w path off v c ⟨hX,hD⟩ hf hc K hK
  split at hf
  ·simp only [Option.some.injEq,Prod.mk.injEq]at hf
   obtain⟨rfl,rfl⟩:=hf
   exact hD.DU hc fun w' h' q=>hK w' ⟨hX,h'⟩ (q.mono fun k hk=>(hX k).1 (.inl hk))
  ·cases hf
def MT:Kind UE where
 ty:=Dg
 pred:=fun r s X w=>∃L:DgL,(∀k,L.X (r 0) k↔X k)∧mA w (r 0) L s
 ch:=fun⟨L,h2,h3⟩ q hb=>⟨L,h2,h3.ch q fun k hk=>hb k ((h2 k).1 hk)⟩
 lt:=fun⟨_,h2,h3⟩ k hk=>h3.lt k ((h2 k).2 hk)
def L5(b:Nat):Kind UE where
 ty:=List Int
 pred:=fun _ s X w=>(∀k,k=b↔X k)∧kX w b s
 ch:=fun⟨h2,h3⟩ q hb=>⟨h2,h3.ch q fun k hk=>hb k ((h2 k).1 hk)⟩
 lt:=fun⟨h2,h3⟩ k hk=>h3.lt k ((h2 k).2 hk)
def kU:Kind UE where
 ty:=List U32
 pred:=fun r s X w=>(∀k,k=r 0↔X k)∧zj w (r 0) s
 ch:=fun⟨h2,T,h3⟩ q hb=>⟨h2,T,q.blk h3 (hb _ ((h2 _).1 rfl))⟩
 lt:=fun⟨h2,T,h3⟩ k hk=>by rw [(h2 k).2 hk];exact h3.lt
 li:=fun r s i=>match i with
  | 0=>some ⟨1,some ⟨r 0,0,none⟩,s.length,s⟩
  | _=>none
 qv:=by
  rintro r s X w i L h hl
  split at hl
  ·injection hl with hl;subst hl;exact CE h.1 h.2
  ·cases hl
 st:=fun _ s j i tt=>match j,tt with
  | 0,1=>fun x=>some (True,s.set i x)
  | _,_=>fun _=>none
 rR:=by
  rintro r s s' X w j i L x y off vs c h hl hx ho hy hs hc K hK
  split at hl
  ·injection hl with hl
   subst hl
   simp only [Option.some.injEq,Prod.mk.injEq]at hs
   obtain⟨rfl,rfl⟩:=hs
   exact Iy h.1 h.2 hx ho hy hK
  ·cases hl
 ix:=fun path off=>match path,off with
  | 0,0=>some 0
  | _,_=>none
 sO:=by
  rintro r s path off i L h hl
  split at h
  ·injection h with h;subst h
   injection hl with hl;subst hl;rfl
  ·cases h
 wl:=fun _ s path off n=>match path,off with
  | 0,0=>some (s.length=n,aG (fun j=>.int .u32 (s.getD j (U32.mk 0)).v) (upN 0 n))
  | _,_=>none
 uB:=by
  rintro r s X w path off n c cs h hw hc
  split at hw
  ·simp only [Option.some.injEq,Prod.mk.injEq]at hw
   obtain⟨rfl,rfl⟩:=hw
   exact Ix h.1 h.2 hc
  ·cases hw
 ws:=fun _ s path off vs=>match path,off with
  | 0,0=>(match yH vs with
   | some l=>some (s.length=l.length,l)
   | none=>none)
  | _,_=>none
 rC:=by
  rintro r s s' X w path off vs c h hs hc K hK
  split at hs
  ·split at hs
   ·rename_i l hl
    simp only [Option.some.injEq,Prod.mk.injEq]at hs
    obtain⟨rfl,rfl⟩:=hs
    exact Iw h.1 h.2 hl hc hK
   ·cases hs
  ·cases hs
def kFl:Kind UE where
 ty:=Fl
 pred:=fun r s X w=>(∀k,k=r 0↔X k)∧FlP w (r 0) s
 ch:=fun⟨h2,h3,T,h4⟩ q hb=>⟨h2,h3,T,q.blk h4 (hb _ ((h2 _).1 rfl))⟩
 lt:=fun⟨h2,_,T,h3⟩ k hk=>by rw [(h2 k).2 hk];exact h3.lt
 li:=fun r s i=>match i with
  | 0=>some ⟨1,some ⟨r 0,0,none⟩,s.rs.length,s.rs⟩
  | _=>none
 qv:=by
  rintro r s X w i L h hl
  split at hl
  ·injection hl with hl;subst hl;exact h.2.li h.1
  ·cases hl
 fs:=fun _ s path off v=>match path,off,v with
  | 0,15,.int .u32 x=>some (True,{s with pc:=x})
  | 0,16,.bool x=>some (True,{s with z:=x})
  | 0,17,.bool x=>some (True,{s with n:=x})
  | 0,18,.bool x=>some (True,{s with l:=x})
  | _,_,_=>none
 sQ:=by
  rintro r s s' X w path off v c h hf hc K hK
  split at hf
  all_goals first
   | cases hf;done
   | (simp only [Option.some.injEq,Prod.mk.injEq]at hf
      obtain⟨rfl,rfl⟩:=hf
      exact FlP.st h.2 (by omega) (by exact h.2.len) (by rfl) fun w' h' q=>hK w' ⟨h.1,h'⟩ (q.mono fun k hk=>(h.1 k).1 hk))
 st:=fun _ s j i tt=>match j,tt with
  | 0,1=>fun x=>some (True,s.AM i x)
  | _,_=>fun _=>none
 rR:=by
  rintro r s s' X w j i L x y off vs c h hl hx ho hy hs hc K hK
  split at hl
  ·injection hl with hl
   subst hl
   simp only [Option.some.injEq,Prod.mk.injEq]at hs
   obtain⟨rfl,rfl⟩:=hs
   exact h.2.stR h.1 hx ho hy hK
  ·cases hl
 iv:=true
 inv:=Fl.Ok
 gM:=fun h=>h.2.len
 fo:=fun _ s path off=>match path,off with
  | 0,15=>some (.v (.int .u32 s.pc))
  | 0,16=>some (.v (.bool s.z))
  | 0,17=>some (.v (.bool s.n))
  | 0,18=>some (.v (.bool s.l))
  | _,_=>none
 sU:=by
  rintro r s X w path off f v ⟨hX,hl,T,hb⟩ hf hv
  split at hf
  all_goals first
   | cases hf;done
   | (injection hf with hf
      subst hf
      simp only [fvV,Option.some.injEq]at hv
      exact⟨(hX _).1 rfl,by rw [← hv];exact hb.cell rfl⟩)
 ix:=fun path off=>match path,off with
  | 0,0=>some 0
  | _,_=>none
 sO:=by
  rintro r s path off i L h hl
  split at h
  ·injection h with h;subst h
   injection hl with hl;subst hl;rfl
  ·cases h
 wl:=fun _ s path off n=>match path,off,n with
  | 0,0,19=>some (True,s.cells)
  | _,_,_=>none
 uB:=by
  rintro r s X w path off n c cs ⟨hX,hl,T,hb⟩ hw hc
  split at hw
  ·simp only [Option.some.injEq,Prod.mk.injEq]at hw
   obtain⟨rfl,rfl⟩:=hw
   exact⟨(hX _).1 rfl,fun j u hj=>by rw [Nat.zero_add];exact hb.cell (by simpa using hj)⟩
  ·cases hw
 ws:=fun _ _ path off vs=>match path,off with
  | 0,0=>(match yJ vs with
   | some l=>some (True,l)
   | none=>none)
  | _,_=>none
 rC:=by
  rintro r s s' X w path off vs c h hs hc K hK
  split at hs
  ·split at hs
   ·rename_i l hl
    simp only [Option.some.injEq,Prod.mk.injEq]at hs
    obtain⟨rfl,rfl⟩:=hs
    obtain⟨e,h2⟩:=pQ hl
    subst e
    exact h.2.all h2 fun w' h' q=>hK w' ⟨h.1,h'⟩ (q.mono fun k hk=>(h.1 k).1 hk)
   ·cases hs
  ·cases hs
def kWt:Kind UE where
 ty:=Wt
 pred:=fun _ s X w=>Rd w X s.A s.l.length s.c s.l
 ch:=fun h q hb=>h.ch q hb
 lt:=fun h=>h.lt
 li:=fun _ s i=>match i with
  | 0=>some ⟨1,s.A,s.c,s.l⟩
  | _=>none
 qv:=by
  rintro r s X w i L h hl
  split at hl
  ·injection hl with hl;subst hl;exact h
  ·cases hl
structure Sv where
 D:DB
 pD:Nat
 pM:Nat
structure Sv.Ok(s:Sv):Prop where
 wf:s.D.mem.Wf
 pd:s.D.pd.Ok
def kSv:Kind UE where
 ty:=Sv
 pred:=fun _ s X w=>∃(a:Nat)(L:eP),L.g=s.pM∧DBP w ⟨s.pD,a,L⟩ s.D∧∀k,fG.X ⟨s.pD,a,L⟩ k↔X k
 ch:=fun⟨a,L,h1,h2,h3⟩ q hb=>⟨a,L,h1,h2.ch q fun k hk=>hb k ((h3 k).1 hk),h3⟩
 lt:=fun⟨_,_,_,h2,h3⟩ k hk=>h2.lt k ((h3 k).2 hk)
 iv:=true
 inv:=Sv.Ok
 gM:=fun⟨_,_,_,h,_⟩=>⟨⟨h.mem.u32,h.mem.eU⟩,h.pd.ok⟩
def MU:Kind UE where
 ty:=BSt
 pred:=fun _ s X w=>∃W:Nat→Prop,(∀k,ij W s k↔X k)∧ja w W s
 ch:=fun⟨W,h1,h2⟩ q hb=>⟨W,h1,h2.ch q fun k hk=>hb k ((h1 k).1 hk)⟩
 lt:=fun⟨_,h1,h2⟩ k hk=>h2.ltX k ((h1 k).2 hk)
def UK:Nat→Kind UE
 | 0=>MR
 | 1=>kPd
 | 2=>L6
 | 3=>MQ
 | 4=>MT
 | 5=>L5 0
 | 6=>L5 1
 | 7=>kU
 | 8=>kWt
 | 9=>kSv
 | 10=>kFl
 | 11=>MU
 | _=>Kind.none UE
abbrev cq(t:Nat)(r:Nat→Nat)(s:(UK t).ty)(X:Nat→Prop)(w:World):Prop:=(UK t).pred r s X w
theorem Hy {t:Nat} {r:Nat→Nat} {s:(UK t).ty} {X:Nat→Prop} {w:World}(h:cq t r s X w):(UK t).inv s:=(UK t).gM h
def UMk:TypeId→List Value→Option ((t:Nat)×(UK t).ty)
 | 69,cs=>(match yH cs with
  | some l=>some ⟨7,l⟩
  | none=>none)
 | 276,cs=>(match yJ cs with
  | some s=>some ⟨10,s⟩
  | none=>none)
 | _,_=>none
theorem Li {T:TypeId} {cs:List Value} {q:(t:Nat)×(UK t).ty} {w:World} {g:Nat}(h:UMk T cs=some q)(hb:Blk w g ⟨cs⟩ T):(UK q.1).pred (fun _=>g) q.2 (fun k=>k=g) w:=by
 unfold UMk at h
 split at h
 ·split at h
  ·rename_i l hl
   injection h with h
   subst h
   have:=oB hl
   subst this
   exact(⟨fun k=>Iff.rfl,_,hb.cast (by simp [bR])⟩:(∀k,k=g↔k=g)∧zj w g l)
  ·cases h
 ·split at h
  ·rename_i s hs
   injection h with h
   subst h
   obtain⟨rfl,h2⟩:=pQ hs
   exact(⟨fun k=>Iff.rfl,h2,_,hb⟩:(∀k,k=g↔k=g)∧FlP w g s)
  ·cases h
 ·cases h
def Un:Uni:=Uni.of UE UK (fun t=>match t with
 | 3=>some 0
 | 29=>some 1
 | 4=>some 3
 | 50=>some 4
 | 96=>some 4
 | 31=>some 5
 | 59=>some 7
 | _=>none) UMk Li
theorem uO0 {a b:Mem}(h:a=b):Upd.ob (U:=Un) 0 a= .ob 0 b:=congrArg (Upd.ob (U:=Un) 0) h
theorem rO0 {r:Nat→Nat} {a b:Mem}(h:a=b):Res.ob (U:=Un) 0 r a= .ob 0 r b:=congrArg (Res.ob (U:=Un) 0 r) h
theorem uO1 {a b:Pd}(h:a=b):Upd.ob (U:=Un) 1 a= .ob 1 b:=congrArg (Upd.ob (U:=Un) 1) h
theorem rO1 {r:Nat→Nat} {a b:Pd}(h:a=b):Res.ob (U:=Un) 1 r a= .ob 1 r b:=congrArg (Res.ob (U:=Un) 1 r) h
end Go.Proofs.YtinhphjfnedhgaaGreatDoor
namespace Go.Proofs.YtinhphjfnedhgaaGreatDoor
open Go.Proofs.Tryz (prog)
open Go Go.RowKit V
open Go.IntKind (i64 u32 u64)
section
namespace V
section
variable {U:Uni}
theorem aS.more {rs:List (Res U)} {X:Nat→Nat→Prop} {w w':World} {Q:Ou U→Prop} {v:Value} {k:Option Kn} {Z:Nat→Prop} {r:Res U}(hs:Sat rs X w)(q:Pu w w')(hr:RS Z w' r)(hz:∀k,Z k→w.heap.size≤k)(hQ:Q ⟨v,k,[],[r],[]⟩)(hk:KnO (rs++ [r]) v k):aS rs [] X w Q (.returned v) w':=by
 refine⟨_,rs,fun i=>if i=rs.length then Z else X i,fi hk,hQ,rfl,⟨⟨fun i r' Nn=>?_,fun i j hi hj NJ k OA NT=>?_⟩,q.mono fun k hk=>hk.elim,fun i hi _=>if_neg (by omega),fun i hi=>(by cases hi),fun i h1 h2 k hk=>?_,.inr hk,fun _ k hk=>by cases hk⟩⟩
 ·by_cases hi:i<rs.length
  ·rw [bu,if_pos hi]at Nn
   simp only [if_neg (show ¬i=rs.length by omega)]
   exact(hs.res i r' Nn).ch q fun _ _ h=>h
  ·have h1:=bc Nn
   simp at h1
   obtain rfl:i=rs.length:=by omega
   rw [bu,if_neg (by omega),Nat.sub_self]at Nn
   obtain rfl:r=r':=by simpa [nth]using Nn
   simpa using hr
 ·simp at hi hj
  by_cases h1:i=rs.length
  ·have h2:¬j=rs.length:=by omega
   simp only [h1,if_true,if_neg h2]at OA NT
   have:=hs.lt (i:=j) (by omega) k NT
   have:=hz k OA
   omega
  ·simp only [if_neg h1]at OA
   by_cases h2:j=rs.length
   ·simp only [h2,if_true]at NT
    have:=hs.lt (i:=i) (by omega) k OA
    have:=hz k NT
    omega
   ·simp only [if_neg h2]at NT
    exact hs.dis i j (by omega) (by omega) NJ k OA NT
 ·simp at h2
  obtain rfl:i=rs.length:=by omega
  simp only [if_true]at hk
  exact hz k hk
theorem KM {t:Nat} {T:TypeId} {A:Option Addr} {n c:Nat} {l:List (U.el t)} {Z:Nat→Prop} {w:World}(h:Own w Z T A n c l):RS (U:=U) (fun k=>Z k∧k<w.heap.size) w (.lst t true T A c l):=by
 have hl:=h.len
 subst hl
 exact⟨h.within,fun k hk=>hk.2⟩
end
end V
section
variable {r rm:Nat→Nat} {E:Pd} {m:Mem} {X:Nat→Nat→Prop} {w w':World}
theorem mF(hs:Sat (U:=Un) [.ob 0 rm m] X w):∃L:eP,rm 0=L.g∧cA w L m∧∀k,L.X k↔X 0 k:=by
 obtain⟨L,h1,h2,h3⟩:=(hs.res 0 _ rfl:cq 0 rm m (X 0) w)
 exact⟨L,h1,h3,h2⟩
theorem ya(hs:Sat (U:=Un) [.ob 1 r E,.ob 0 rm m] X w)(hl:av (U:=Un) [.ob 1 r E,.ob 0 rm m] fr0 [(.l 0 1,.p (.obj 1 0 0))])(hn:E.n=m.S):
 ∃(a:Nat)(L:eP),rm 0=L.g∧r 1=L.g∧DBP w ⟨r 0,a,L⟩ (E.on m)∧(∀k,(k=r 0∨k=a)↔X 0 k)∧(∀k,L.X k↔X 1 k):=by
 obtain⟨a,h1,h2⟩:=(hs.res 0 _ rfl:cq 1 r E (X 0) w)
 obtain⟨L,h3,h4,h5⟩:=(hs.res 1 _ rfl:cq 0 rm m (X 1) w)
 obtain⟨t',r',s',Ug,hk⟩:=hl _ _ (List.mem_singleton.2 rfl)
 simp only [nth,Option.some.injEq,Res.ob.injEq]at Ug
 obtain⟨rfl,rfl,_⟩:=Ug
 have hk:some (Value.pointer (some ⟨rm 0,0,none⟩))=some (Value.pointer (some ⟨r 1,0,none⟩)):=hk
 simp only [Option.some.injEq,Value.pointer.injEq,Addr.mk.injEq]at hk
 have hg:r 1=L.g:=by rw [← h3];exact hk.1.symm
 rw [hg]at h2
 have hx:∀k,(k=r 0∨k=a)→¬L.X k:=fun k hk hL=>hs.dis 0 1 (by simp) (by simp) (by omega) k ((h1 k).1 hk) ((h4 k).1 hL)
 exact⟨a,L,h3,hg,h2.db h5 hn ⟨hx _ (.inl rfl),hx _ (.inr rfl)⟩,h1,h4⟩
theorem CI {a:Nat} {L:eP} {D:DB} {Q:Ou Un→Prop} {v:Value} {k:Option Kn}(hs:Sat (U:=Un) [.ob 1 r E,.ob 0 rm m] X w)(Qg:∀k,(k=r 0∨k=a)↔X 0 k)(QJ:∀k,L.X k↔X 1 k)(hg:rm 0=L.g)(hr:r 1=L.g)(h:DBP w' ⟨r 0,a,L⟩ D)(q:Ch (fG.X ⟨r 0,a,L⟩) w w')
 (hQ:Q ⟨v,k,[.ob 1 D.pd,.ob 0 D.mem],[],[]⟩)(hk:KnO (U:=Un) [.ob 1 r D.pd,.ob 0 rm D.mem] v k):aS (U:=Un) [.ob 1 r E,.ob 0 rm m] [0,1] X w Q (.returned v) w':=by
 refine⟨_,[.ob 1 r D.pd,.ob 0 rm D.mem],X,fi hk,hQ,by simp [bO,dh,nth,cg],⟨⟨fun i r' Nn=>?_,hs.dis⟩,q.mono fun k hk=>?_,fun i hi hm=>rfl,fun i hi k hk=>.inl hk,fun i h1 h2=>by simp at h1 h2;omega,.inr (by simpa using hk),fun _ k hk=>by cases hk⟩⟩
 ·match i with
  | 0=>
   simp only [List.append_nil,nth,Option.some.injEq]at Nn
   subst Nn
   exact(⟨a,Qg,by rw [hr];exact h.pd⟩:cq 1 r D.pd (X 0) w')
  | 1=>
   simp only [List.append_nil,nth,Option.some.injEq]at Nn
   subst Nn
   exact(⟨L,hg,QJ,h.mem⟩:cq 0 rm D.mem (X 1) w')
  | i+2=>simp [nth]at Nn
 ·rcases hk with hk | hk | hk
  ·exact⟨0,by simp,(Qg k).1 (.inl hk)⟩
  ·exact⟨0,by simp,(Qg k).1 (.inr hk)⟩
  ·exact⟨1,by simp,(QJ k).1 hk⟩
end
end
end Go.Proofs.YtinhphjfnedhgaaGreatDoor
namespace Go.Proofs.YtinhphjfnedhgaaGreatDoor
open Go.Proofs.Tryz (prog)
open Go Go.RowKit V
open Go.IntKind (i64 u32 u64)
section
set_option maxRecDepth 100000
end
section
set_option maxRecDepth 100000
def tw(ma:Bool)(mb:Int)(mc:Bool)(md:Bool)(R:aC)(w:World):Prop:=
 ∀(gv:Nat)(wv:World),gv=w.heap.size→wv=w.alloc (.cells #[(.bool ma),(.int .i64 mb),(.bool mc),(.bool md)] 128)→
 ∃J:Bool→World→Prop,(
  ∃x9:Int,wv.cell? (((Addr.mk gv 0 none).add 0).add 1)=some (.int .i64 x9)∧
  split (decide ((x9:Int)<0)) (
   J true wv) (
   ∃Po:Int,wv.cell? (((Addr.mk gv 0 none).add 0).add 1)=some (.int .i64 Po)∧
   J (decide ((Po:Int)>63)) wv))∧∀(NR:Nat→Value)(NV:Bool),∀M5,J NV M5→
 split NV (
  R (.tuple #[(.int .u32 0),(.int .i64 4)]) M5) (
  ∃J1:Bool→World→Prop,(
   ∃Qb:Bool,M5.cell? ((Addr.mk gv 0 none).add 3)=some (.bool Qb)∧
   split Qb (
    ∃O7:Bool,M5.cell? (((Addr.mk gv 0 none).add 0).add 0)=some (.bool O7)∧
    J1 (!O7) M5) (
    J1 false M5))∧∀(Oq:Nat→Value)(Re:Bool),∀M8,J1 Re M8→
  split Re (
   R (.tuple #[(.int .u32 0),(.int .i64 1)]) M8) (
   ∃SL:Int,M8.cell? (((Addr.mk gv 0 none).add 0).add 1)=some (.int .i64 SL)∧
   ∀Nb:Int,Nb=(u32.wrap (BitVec.ofInt u32.bits (u32.wrap ((u32.wrap SL:Int)*2 ^ 8)) ||| BitVec.ofInt u32.bits 1).toNat)→
   ∃x33:Bool,M8.cell? (((Addr.mk gv 0 none).add 0).add 0)=some (.bool x33)∧
   ∃UA:Bool,M8.cell? ((Addr.mk gv 0 none).add 2)=some (.bool UA)∧
   ∃Uz:Bool,M8.cell? ((Addr.mk gv 0 none).add 3)=some (.bool Uz)∧
   ∀(No:Nat)(Nf:World),No=M8.heap.size→Nf=M8.alloc (.cells #[(.bool x33),(.int .u32 2),(.bool UA),(.int .u32 4),(.bool Uz),(.int .u32 8)] 255)→
   ∃I:Nat→Int→Int→World→Prop,(∃m,I m Nb 0 Nf)∧∀(m:Nat)(RF:Nat→Value)(Np:Int)(Pg:Int),∀NK,I m Np Pg NK→
   split (decide ((Pg:Int)<((3:Nat):Int))) (
    (0≤(Pg:Int)∧(Pg:Int)<((3:Nat):Int))∧
    ∃X4:Bool,∃XZ:Int,(NK.cell? (((Addr.mk No 0 none).add (Int.toNat Pg*2)).add 0)=some (.bool X4)∧NK.cell? (((Addr.mk No 0 none).add (Int.toNat Pg*2)).add 1)=some (.int .u32 XZ))∧
    ∀(TL:Nat)(NG:World),TL=NK.heap.size→NG=NK.alloc (.cells (#[(.bool false),(.int .u32 0)]) 255)→
    aF NG (Addr.mk TL 0 none) [(.bool X4),(.int .u32 XZ)] fun Nk=>
    ∃Ux:Bool,Nk.cell? ((Addr.mk TL 0 none).add 0)=some (.bool Ux)∧
    split Ux (
     ∃Uw:Int,Nk.cell? ((Addr.mk TL 0 none).add 1)=some (.int .u32 Uw)∧
     ∀Ol:Int,Ol=(u32.wrap (BitVec.ofInt u32.bits Np ||| BitVec.ofInt u32.bits Uw).toNat)→
     ∃m1,m1<m∧I m1 Ol (i64.wrap (Pg+1)) Nk) (
     ∃m1,m1<m∧I m1 Np (i64.wrap (Pg+1)) Nk)) (
    R (.tuple #[(.int .u32 Np),(.int .i64 0)]) NK)))
def BG:Ann:=(.node none .leaf (.node none (.node none (.node (some ⟨[(16,.one (.bool))],[7,8,9,10,11,12,13,14,15,16]⟩) .leaf .leaf) .leaf) (.node none (.node none (.node (some ⟨[(24,.one (.bool))],[17,18,19,20,21,22,23,24]⟩) .leaf .leaf) .leaf) (.node none .leaf (.node none (.node none .leaf (.node none (.node (some ⟨[(4,.one (.int .u32)),(43,.one (.int .i64))],[4,6,43,44,45,46,47,48,49,50,51,52,53]⟩) .leaf .leaf) .leaf)) .leaf)))))
theorem WSecond_eq(ma:Bool)(mb:Int)(mc:Bool)(md:Bool)(R:aC)(w:World):tw ma mb mc md R w=vcF prog aL [4] Tryz.f133 BG [(.agg #[(.bool ma),(.int .i64 mb),(.bool mc),(.bool md)])] R none w:=by kernel_rfl
theorem uc(ma:Bool)(mb:Int)(mc:Bool)(md:Bool) {R:aC} {w:World}(h:tw ma mb mc md R w):Calls prog 133 #[(.agg #[(.bool ma),(.int .i64 mb),(.bool mc),(.bool md)])] w fun e w'=>∃v,e= .returned v∧R v w':=
 aj Tryz.func133 ar aa ((WSecond_eq ma mb mc md R w).mp h)
end
section
set_option maxRecDepth 100000
def gU(x:Int)(k:Int)(R:aC)(w:World):Prop:=
 ∀s:Int,s=(u64.wrap (BitVec.ofInt u64.bits (u64.wrap k) &&& BitVec.ofInt u64.bits 31).toNat)→
 ke s fun N6=>
 ke (u64.wrap (32 - s)) fun ZH=>
 R (.int .u32 (u32.wrap (BitVec.ofInt u32.bits (u32.wrap ((x:Int)*2 ^ (min N6 u32.bits))) ||| BitVec.ofInt u32.bits ((x:Int).fdiv (2 ^ (min ZH u32.bits)))).toNat)) w
def mB:Ann:= .leaf
theorem BitsRotateLeft32_eq(x:Int)(k:Int)(R:aC)(w:World):gU x k R w=vcF prog aL [5] Tryz.f200 mB [(.int .u32 x),(.int .i64 k)] R none w:=by kernel_rfl
theorem kN(x:Int)(k:Int) {R:aC} {w:World}(h:gU x k R w):Calls prog 200 #[(.int .u32 x),(.int .i64 k)] w fun e w'=>∃v,e= .returned v∧R v w':=
 aj Tryz.func200 ar aa ((BitsRotateLeft32_eq x k R w).mp h)
def vq(wv:Int)(n:Int)(R:aC)(w:World):Prop:=
 Calls prog 200 #[(.int .u32 wv),(.int .i64 (i64.wrap (0 - n)))] w fun e M5=>
 ∃x8:Int,e= .returned (.int .u32 x8)∧
 R (.int .u32 x8) M5
def ED:Ann:= .leaf
theorem SRight_eq(wv:Int)(n:Int)(R:aC)(w:World):vq wv n R w=vcF prog aL [] Tryz.f193 ED [(.int .u32 wv),(.int .i64 n)] R none w:=by kernel_rfl
theorem wP(wv:Int)(n:Int) {R:aC} {w:World}(h:vq wv n R w):Calls prog 193 #[(.int .u32 wv),(.int .i64 n)] w fun e w'=>∃v,e= .returned v∧R v w':=
 aj Tryz.func193 ar aa ((SRight_eq wv n R w).mp h)
def oO(blocka:Int)(blockb:Int)(blockc:Int)(blockd:Int)(blocke:Int)(blockf:Int)(blockg:Int)(blockh:Int)(blocki:Int)(blockj:Int)(blockk:Int)(blockl:Int)(blockm:Int)(blockn:Int)(blocko:Int)(blockp:Int)(R:aC)(w:World):Prop:=
 ∀(gv:Nat)(wv:World),gv=w.heap.size→wv=w.alloc (.cells #[(.int .u32 blocka),(.int .u32 blockb),(.int .u32 blockc),(.int .u32 blockd),(.int .u32 blocke),(.int .u32 blockf),(.int .u32 blockg),(.int .u32 blockh),(.int .u32 blocki),(.int .u32 blockj),(.int .u32 blockk),(.int .u32 blockl),(.int .u32 blockm),(.int .u32 blockn),(.int .u32 blocko),(.int .u32 blockp)] 262)→
 ∀(Nc:Nat)(M5:World),Nc=wv.heap.size→M5=wv.alloc (.cells (Array.replicate 64 (.int .u32 0)) 287)→
 ∀(N8:Nat)(M8:World),N8=M5.heap.size→M8=M5.alloc (.cells (Array.replicate 64 (.int .u32 0)) 287)→
 ∃b:Nat→Nat→Prop,
 ∀Vg:Option Addr,Vg=(some (if 64=0 then Addr.mk N8 0 none else(Addr.mk N8 0 none).add (0*1)))→∀TO:Nat,TO=64 - 0→∀Vf:Nat,Vf=64 - 0→
 ∀WI:Option Addr,WI=(some (if 16=0 then Addr.mk gv 0 none else(Addr.mk gv 0 none).add (0*1)))→∀WG:Nat,WG=16 - 0→∀WH:Nat,WH=16 - 0→
 ∃x9:Int,∃Nb,(Builtin.copy_ #[62,62] 3 #[(.slice Vg TO Vf),(.slice WI WG WH)]:Sem Value).run prog M8.drew= .ok (.int .i64 x9) Nb∧
 ∃b1:Nat→Nat→Prop,(∀i k,b i k→b1 i k)∧
 ∀t:Int,t=16→
 ∃I:Nat→Int→World→Prop,(∃m,I m t Nb)∧∀(m:Nat)(Us:Nat→Value)(t1:Int),∀Nf,I m t1 Nf→
 split (decide ((t1:Int)<64)) (
  (0≤(i64.wrap (t1 - 15):Int)∧(i64.wrap (t1 - 15):Int)<((64:Nat):Int))∧
  ∃OY:Int,Nf.drew.cell? ((Addr.mk N8 0 none).add (Int.toNat (i64.wrap (t1 - 15))*1))=some (.int .u32 OY)∧
  (0≤(i64.wrap (t1 - 2):Int)∧(i64.wrap (t1 - 2):Int)<((64:Nat):Int))∧
  ∃OX:Int,Nf.drew.cell? ((Addr.mk N8 0 none).add (Int.toNat (i64.wrap (t1 - 2))*1))=some (.int .u32 OX)∧
  ∃b2:Nat→Nat→Prop,
  (0≤(i64.wrap (t1 - 16):Int)∧(i64.wrap (t1 - 16):Int)<((64:Nat):Int))∧
  b2 4 (((Addr.mk N8 0 none).add (Int.toNat (i64.wrap (t1 - 16))*1)).block)∧
  ∃Qh:Int,Nf.drew.drew.cell? ((Addr.mk N8 0 none).add (Int.toNat (i64.wrap (t1 - 16))*1))=some (.int .u32 Qh)∧
  (0≤(i64.wrap (t1 - 7):Int)∧(i64.wrap (t1 - 7):Int)<((64:Nat):Int))∧
  b2 17 (((Addr.mk N8 0 none).add (Int.toNat (i64.wrap (t1 - 7))*1)).block)∧
  ∃Uz:Int,Nf.drew.drew.cell? ((Addr.mk N8 0 none).add (Int.toNat (i64.wrap (t1 - 7))*1))=some (.int .u32 Uz)∧
  Calls prog 193 #[(.int .u32 OY),(.int .i64 7)] Nf.drew.drew fun e Np=>
  ∃QT:Int,e= .returned (.int .u32 QT)∧
  Kept (bW b2 [0,1,2,3,4,7,10,11,14,15,16,17,19,21,24,25]) Nf.drew.drew Np∧∃b3:Nat→Nat→Prop,(∀i k,b2 i k→b3 i k)∧
  Calls prog 193 #[(.int .u32 OY),(.int .i64 18)] Np fun e NK=>
  ∃OK:Int,e= .returned (.int .u32 OK)∧
  Kept (bW b3 [0,1,2,3,4,10,11,14,15,16,17,19,21,24,25]) Np NK∧∃b4:Nat→Nat→Prop,(∀i k,b3 i k→b4 i k)∧
  Calls prog 193 #[(.int .u32 OX),(.int .i64 17)] NK fun e NG=>
  ∃Uy:Int,e= .returned (.int .u32 Uy)∧
  Kept (bW b4 [0,1,2,3,4,9,10,11,12,13,14,15,16,17,18,21,24,25]) NK NG∧∃b5:Nat→Nat→Prop,(∀i k,b4 i k→b5 i k)∧
  Calls prog 193 #[(.int .u32 OX),(.int .i64 19)] NG fun e Nk=>
  ∃x44:Int,e= .returned (.int .u32 x44)∧
  Kept (bW b5 [0,1,2,3,4,5,9,10,11,12,13,14,15,16,17,18,24,25]) NG Nk∧∃b6:Nat→Nat→Prop,(∀i k,b5 i k→b6 i k)∧
  (0≤(t1:Int)∧(t1:Int)<((64:Nat):Int))∧
  aF Nk ((Addr.mk N8 0 none).add (Int.toNat t1*1)) [(.int .u32 (u32.wrap ((u32.wrap ((u32.wrap (Qh+(u32.wrap (BitVec.ofInt u32.bits (u32.wrap (BitVec.ofInt u32.bits QT ^^^ BitVec.ofInt u32.bits OK).toNat) ^^^ BitVec.ofInt u32.bits ((OY:Int).fdiv (2 ^ 3))).toNat)))+Uz))+(u32.wrap (BitVec.ofInt u32.bits (u32.wrap (BitVec.ofInt u32.bits Uy ^^^ BitVec.ofInt u32.bits x44).toNat) ^^^ BitVec.ofInt u32.bits ((OX:Int).fdiv (2 ^ 10))).toNat))))] fun Ol=>
  ∃b7:Nat→Nat→Prop,(∀i k,b6 i k→b7 i k)∧
  ∀t2:Int,t2=(i64.wrap (t1+1))→
  ∃m1,m1<m∧I m1 t2 Ol) (
  ∃Uw:Array Value,(Uw.size=64∧∀i u,Uw[i]? =some u→Nf.cell? ((Addr.mk N8 0 none).add i)=some u)∧
  Uw.size=64∧(∀v∈Uw.toList,one? v True)∧
  aF Nf (Addr.mk Nc 0 none) Uw.toList fun Np=>
  ∃r0:Array Value,(r0.size=64∧∀i u,r0[i]? =some u→Np.cell? ((Addr.mk Nc 0 none).add i)=some u)∧
  R (.agg r0) Np)
def wN:Ann:=(.node none .leaf (.node none .leaf (.node none .leaf (.node none (.node none .leaf (.node none (.node (some ⟨[(4,.one (.int .i64))],[4,5,6,10,11,12,13,14,15,16,17,18,19,20,21,22,23,24,25,26,27,28,29,30,31,32,33,34,35,36,37,38,39,40,41,42,43,44,45,46,47,48,49,50]⟩) .leaf .leaf) .leaf)) .leaf))))
theorem SSchedule_eq(blocka:Int)(blockb:Int)(blockc:Int)(blockd:Int)(blocke:Int)(blockf:Int)(blockg:Int)(blockh:Int)(blocki:Int)(blockj:Int)(blockk:Int)(blockl:Int)(blockm:Int)(blockn:Int)(blocko:Int)(blockp:Int)(R:aC)(w:World):oO blocka blockb blockc blockd blocke blockf blockg blockh blocki blockj blockk blockl blockm blockn blocko blockp R w=vcF prog aL [4] Tryz.f192 wN [(.agg #[(.int .u32 blocka),(.int .u32 blockb),(.int .u32 blockc),(.int .u32 blockd),(.int .u32 blocke),(.int .u32 blockf),(.int .u32 blockg),(.int .u32 blockh),(.int .u32 blocki),(.int .u32 blockj),(.int .u32 blockk),(.int .u32 blockl),(.int .u32 blockm),(.int .u32 blockn),(.int .u32 blocko),(.int .u32 blockp)])] R none w:=by kernel_rfl
theorem qR(blocka:Int)(blockb:Int)(blockc:Int)(blockd:Int)(blocke:Int)(blockf:Int)(blockg:Int)(blockh:Int)(blocki:Int)(blockj:Int)(blockk:Int)(blockl:Int)(blockm:Int)(blockn:Int)(blocko:Int)(blockp:Int) {R:aC} {w:World}(h:oO blocka blockb blockc blockd blocke blockf blockg blockh blocki blockj blockk blockl blockm blockn blocko blockp R w):Calls prog 192 #[(.agg #[(.int .u32 blocka),(.int .u32 blockb),(.int .u32 blockc),(.int .u32 blockd),(.int .u32 blocke),(.int .u32 blockf),(.int .u32 blockg),(.int .u32 blockh),(.int .u32 blocki),(.int .u32 blockj),(.int .u32 blockk),(.int .u32 blockl),(.int .u32 blockm),(.int .u32 blockn),(.int .u32 blocko),(.int .u32 blockp)])] w fun e w'=>∃v,e= .returned v∧R v w':=
 aj Tryz.func192 ar aa ((SSchedule_eq blocka blockb blockc blockd blocke blockf blockg blockh blocki blockj blockk blockl blockm blockn blocko blockp R w).mp h)
def vt(statea:Int)(stateb:Int)(statec:Int)(stated:Int)(statee:Int)(statef:Int)(stateg:Int)(stateh:Int)(blocka:Int)(blockb:Int)(blockc:Int)(blockd:Int)(blocke:Int)(blockf:Int)(blockg:Int)(blockh:Int)(blocki:Int)(blockj:Int)(blockk:Int)(blockl:Int)(blockm:Int)(blockn:Int)(blocko:Int)(blockp:Int)(R:aC)(w:World):Prop:=
 ∀(gv:Nat)(wv:World),gv=w.heap.size→wv=w.alloc (.cells #[(.int .u32 statea),(.int .u32 stateb),(.int .u32 statec),(.int .u32 stated),(.int .u32 statee),(.int .u32 statef),(.int .u32 stateg),(.int .u32 stateh)] 66)→
 ∀(Nc:Nat)(M5:World),Nc=wv.heap.size→M5=wv.alloc (.cells #[(.int .u32 blocka),(.int .u32 blockb),(.int .u32 blockc),(.int .u32 blockd),(.int .u32 blocke),(.int .u32 blockf),(.int .u32 blockg),(.int .u32 blockh),(.int .u32 blocki),(.int .u32 blockj),(.int .u32 blockk),(.int .u32 blockl),(.int .u32 blockm),(.int .u32 blockn),(.int .u32 blocko),(.int .u32 blockp)] 262)→
 ∀(N8:Nat)(M8:World),N8=M5.heap.size→M8=M5.alloc (.cells (#[(.int .u32 0),(.int .u32 0),(.int .u32 0),(.int .u32 0),(.int .u32 0),(.int .u32 0),(.int .u32 0),(.int .u32 0)]) 66)→
 ∃OL:Int,∃OS:Int,∃Ta:Int,∃S9:Int,∃S7:Int,∃Zt:Int,∃Zs:Int,∃Zr:Int,(M8.cell? ((Addr.mk gv 0 none).add 0)=some (.int .u32 OL)∧M8.cell? ((Addr.mk gv 0 none).add 1)=some (.int .u32 OS)∧M8.cell? ((Addr.mk gv 0 none).add 2)=some (.int .u32 Ta)∧M8.cell? ((Addr.mk gv 0 none).add 3)=some (.int .u32 S9)∧M8.cell? ((Addr.mk gv 0 none).add 4)=some (.int .u32 S7)∧M8.cell? ((Addr.mk gv 0 none).add 5)=some (.int .u32 Zt)∧M8.cell? ((Addr.mk gv 0 none).add 6)=some (.int .u32 Zs)∧M8.cell? ((Addr.mk gv 0 none).add 7)=some (.int .u32 Zr))∧
 ∀(No:Nat)(Nb:World),No=M8.heap.size→Nb=M8.alloc (.cells (#[(.int .u32 0),(.int .u32 0),(.int .u32 0),(.int .u32 0),(.int .u32 0),(.int .u32 0),(.int .u32 0),(.int .u32 0)]) 66)→
 aF Nb (Addr.mk No 0 none) [(.int .u32 OL),(.int .u32 OS),(.int .u32 Ta),(.int .u32 S9),(.int .u32 S7),(.int .u32 Zt),(.int .u32 Zs),(.int .u32 Zr)] fun Nf=>
 ∃QV:Int,∃Qx:Int,∃S6:Int,∃S5:Int,∃S4:Int,∃Zo:Int,∃Zn:Int,∃Zm:Int,∃Zl:Int,∃Zk:Int,∃Zj:Int,∃Zi:Int,∃Zh:Int,∃Zg:Int,∃Zf:Int,∃Ze:Int,(Nf.cell? ((Addr.mk Nc 0 none).add 0)=some (.int .u32 QV)∧Nf.cell? ((Addr.mk Nc 0 none).add 1)=some (.int .u32 Qx)∧Nf.cell? ((Addr.mk Nc 0 none).add 2)=some (.int .u32 S6)∧Nf.cell? ((Addr.mk Nc 0 none).add 3)=some (.int .u32 S5)∧Nf.cell? ((Addr.mk Nc 0 none).add 4)=some (.int .u32 S4)∧Nf.cell? ((Addr.mk Nc 0 none).add 5)=some (.int .u32 Zo)∧Nf.cell? ((Addr.mk Nc 0 none).add 6)=some (.int .u32 Zn)∧Nf.cell? ((Addr.mk Nc 0 none).add 7)=some (.int .u32 Zm)∧Nf.cell? ((Addr.mk Nc 0 none).add 8)=some (.int .u32 Zl)∧Nf.cell? ((Addr.mk Nc 0 none).add 9)=some (.int .u32 Zk)∧Nf.cell? ((Addr.mk Nc 0 none).add 10)=some (.int .u32 Zj)∧Nf.cell? ((Addr.mk Nc 0 none).add 11)=some (.int .u32 Zi)∧Nf.cell? ((Addr.mk Nc 0 none).add 12)=some (.int .u32 Zh)∧Nf.cell? ((Addr.mk Nc 0 none).add 13)=some (.int .u32 Zg)∧Nf.cell? ((Addr.mk Nc 0 none).add 14)=some (.int .u32 Zf)∧Nf.cell? ((Addr.mk Nc 0 none).add 15)=some (.int .u32 Ze))∧
 Calls prog 192 #[(.agg #[(.int .u32 QV),(.int .u32 Qx),(.int .u32 S6),(.int .u32 S5),(.int .u32 S4),(.int .u32 Zo),(.int .u32 Zn),(.int .u32 Zm),(.int .u32 Zl),(.int .u32 Zk),(.int .u32 Zj),(.int .u32 Zi),(.int .u32 Zh),(.int .u32 Zg),(.int .u32 Zf),(.int .u32 Ze)])] Nf fun e Np=>
 ∃Qi:Array Value,e= .returned (.agg Qi)∧
 ∃I:Nat→Int→World→Prop,(∃m,I m 0 Np)∧∀(m:Nat)(RF:Nat→Value)(NV:Int),∀NK,I m NV NK→
 split (decide ((NV:Int)<64)) (
  (0≤(NV:Int)∧(NV:Int)<((64:Nat):Int))∧
  ∃Om:Int,Qi[Int.toNat NV*1]? =some (.int .u32 Om)∧
  (0≤(0:Int)∧(0:Int)<((8:Nat):Int))∧
  ∃OX:Int,NK.drew.cell? ((Addr.mk No 0 none).add (Int.toNat 0*1))=some (.int .u32 OX)∧
  (0≤(4:Int)∧(4:Int)<((8:Nat):Int))∧
  ∃RH:Int,NK.drew.cell? ((Addr.mk No 0 none).add (Int.toNat 4*1))=some (.int .u32 RH)∧
  ∃b:Nat→Nat→Prop,
  (0≤(7:Int)∧(7:Int)<((8:Nat):Int))∧
  b 1 (((Addr.mk No 0 none).add (Int.toNat 7*1)).block)∧
  ∃QU:Int,NK.drew.drew.cell? ((Addr.mk No 0 none).add (Int.toNat 7*1))=some (.int .u32 QU)∧
  (0≤(5:Int)∧(5:Int)<((8:Nat):Int))∧
  b 13 (((Addr.mk No 0 none).add (Int.toNat 5*1)).block)∧
  ∃YC:Int,NK.drew.drew.cell? ((Addr.mk No 0 none).add (Int.toNat 5*1))=some (.int .u32 YC)∧
  (0≤(6:Int)∧(6:Int)<((8:Nat):Int))∧
  b 18 (((Addr.mk No 0 none).add (Int.toNat 6*1)).block)∧
  ∃Uy:Int,NK.drew.drew.cell? ((Addr.mk No 0 none).add (Int.toNat 6*1))=some (.int .u32 Uy)∧
  (0≤(NV:Int)∧(NV:Int)<((64:Nat):Int))∧
  b 24 (((Addr.mk 0 0 none).add (Int.toNat NV*1)).block)∧
  ∃Ux:Int,NK.drew.drew.cell? ((Addr.mk 0 0 none).add (Int.toNat NV*1))=some (.int .u32 Ux)∧
  Calls prog 193 #[(.int .u32 RH),(.int .i64 6)] NK.drew.drew fun e NG=>
  ∃SL:Int,e= .returned (.int .u32 SL)∧
  Kept (bW b [0,1,4,7,11,12,13,14,15,16,17,18,19,20,22,23,24,26]) NK.drew.drew NG∧∃b1:Nat→Nat→Prop,(∀i k,b i k→b1 i k)∧
  Calls prog 193 #[(.int .u32 RH),(.int .i64 11)] NG fun e Nk=>
  ∃OR:Int,e= .returned (.int .u32 OR)∧
  Kept (bW b1 [0,1,7,11,12,13,14,15,16,17,18,19,20,22,23,24,26]) NG Nk∧∃b2:Nat→Nat→Prop,(∀i k,b1 i k→b2 i k)∧
  Calls prog 193 #[(.int .u32 RH),(.int .i64 25)] Nk fun e Ol=>
  ∃x32:Int,e= .returned (.int .u32 x32)∧
  Kept (bW b2 [0,1,6,11,12,13,14,15,16,17,18,19,20,22,23,24,26]) Nk Ol∧∃b3:Nat→Nat→Prop,(∀i k,b2 i k→b3 i k)∧
  ∀t1:Int,t1=(u32.wrap ((u32.wrap ((u32.wrap ((u32.wrap (QU+(u32.wrap (BitVec.ofInt u32.bits (u32.wrap (BitVec.ofInt u32.bits SL ^^^ BitVec.ofInt u32.bits OR).toNat) ^^^ BitVec.ofInt u32.bits x32).toNat)))+(u32.wrap (BitVec.ofInt u32.bits (u32.wrap (BitVec.ofInt u32.bits RH &&& BitVec.ofInt u32.bits YC).toNat) ^^^ BitVec.ofInt u32.bits (u32.wrap (BitVec.ofInt u32.bits (u32.wrap (BitVec.ofInt u32.bits (if u32.signed then -1 else u32.max) ^^^ BitVec.ofInt u32.bits RH).toNat) &&& BitVec.ofInt u32.bits Uy).toNat)).toNat)))+Ux))+Om))→
  ∃b4:Nat→Nat→Prop,
  (0≤(1:Int)∧(1:Int)<((8:Nat):Int))∧
  b4 10 (((Addr.mk No 0 none).add (Int.toNat 1*1)).block)∧
  ∃x62:Int,Ol.drew.cell? ((Addr.mk No 0 none).add (Int.toNat 1*1))=some (.int .u32 x62)∧
  (0≤(2:Int)∧(2:Int)<((8:Nat):Int))∧
  b4 14 (((Addr.mk No 0 none).add (Int.toNat 2*1)).block)∧
  ∃x66:Int,Ol.drew.cell? ((Addr.mk No 0 none).add (Int.toNat 2*1))=some (.int .u32 x66)∧
  (0≤(1:Int)∧(1:Int)<((8:Nat):Int))∧
  b4 18 (((Addr.mk No 0 none).add (Int.toNat 1*1)).block)∧
  ∃WM:Int,Ol.drew.cell? ((Addr.mk No 0 none).add (Int.toNat 1*1))=some (.int .u32 WM)∧
  (0≤(2:Int)∧(2:Int)<((8:Nat):Int))∧
  b4 20 (((Addr.mk No 0 none).add (Int.toNat 2*1)).block)∧
  ∃x72:Int,Ol.drew.cell? ((Addr.mk No 0 none).add (Int.toNat 2*1))=some (.int .u32 x72)∧
  Calls prog 193 #[(.int .u32 OX),(.int .i64 2)] Ol.drew fun e QC=>
  ∃x53:Int,e= .returned (.int .u32 x53)∧
  Kept (bW b4 [2,5,8,9,10,11,12,13,14,15,16,17,18,19,20,21,22]) Ol.drew QC∧∃b5:Nat→Nat→Prop,(∀i k,b4 i k→b5 i k)∧
  Calls prog 193 #[(.int .u32 OX),(.int .i64 13)] QC fun e T9=>
  ∃Xe:Int,e= .returned (.int .u32 Xe)∧
  Kept (bW b5 [5,8,9,10,11,12,13,14,15,16,17,18,19,20,21,22]) QC T9∧∃b6:Nat→Nat→Prop,(∀i k,b5 i k→b6 i k)∧
  Calls prog 193 #[(.int .u32 OX),(.int .i64 22)] T9 fun e Qd=>
  ∃x58:Int,e= .returned (.int .u32 x58)∧
  Kept (bW b6 [4,8,9,10,11,12,13,14,15,16,17,18,19,20,21,22]) T9 Qd∧∃b7:Nat→Nat→Prop,(∀i k,b6 i k→b7 i k)∧
  ∀t2:Int,t2=(u32.wrap ((u32.wrap (BitVec.ofInt u32.bits (u32.wrap (BitVec.ofInt u32.bits x53 ^^^ BitVec.ofInt u32.bits Xe).toNat) ^^^ BitVec.ofInt u32.bits x58).toNat)+(u32.wrap (BitVec.ofInt u32.bits (u32.wrap (BitVec.ofInt u32.bits (u32.wrap (BitVec.ofInt u32.bits OX &&& BitVec.ofInt u32.bits x62).toNat) ^^^ BitVec.ofInt u32.bits (u32.wrap (BitVec.ofInt u32.bits OX &&& BitVec.ofInt u32.bits x66).toNat)).toNat) ^^^ BitVec.ofInt u32.bits (u32.wrap (BitVec.ofInt u32.bits WM &&& BitVec.ofInt u32.bits x72).toNat)).toNat)))→
  (0≤(0:Int)∧(0:Int)<((8:Nat):Int))∧
  ∃x80:Int,Qd.cell? ((Addr.mk No 0 none).add (Int.toNat 0*1))=some (.int .u32 x80)∧
  (0≤(1:Int)∧(1:Int)<((8:Nat):Int))∧
  ∃WJ:Int,Qd.cell? ((Addr.mk No 0 none).add (Int.toNat 1*1))=some (.int .u32 WJ)∧
  (0≤(2:Int)∧(2:Int)<((8:Nat):Int))∧
  ∃x84:Int,Qd.cell? ((Addr.mk No 0 none).add (Int.toNat 2*1))=some (.int .u32 x84)∧
  (0≤(3:Int)∧(3:Int)<((8:Nat):Int))∧
  ∃x86:Int,Qd.cell? ((Addr.mk No 0 none).add (Int.toNat 3*1))=some (.int .u32 x86)∧
  (0≤(4:Int)∧(4:Int)<((8:Nat):Int))∧
  ∃x90:Int,Qd.cell? ((Addr.mk No 0 none).add (Int.toNat 4*1))=some (.int .u32 x90)∧
  (0≤(5:Int)∧(5:Int)<((8:Nat):Int))∧
  ∃x92:Int,Qd.cell? ((Addr.mk No 0 none).add (Int.toNat 5*1))=some (.int .u32 x92)∧
  (0≤(6:Int)∧(6:Int)<((8:Nat):Int))∧
  ∃x94:Int,Qd.cell? ((Addr.mk No 0 none).add (Int.toNat 6*1))=some (.int .u32 x94)∧
  aF Qd (Addr.mk No 0 none) [(.int .u32 (u32.wrap (t1+t2))),(.int .u32 x80),(.int .u32 WJ),(.int .u32 x84),(.int .u32 (u32.wrap (x86+t1))),(.int .u32 x90),(.int .u32 x92),(.int .u32 x94)] fun ZG=>
  ∃m1,m1<m∧I m1 (i64.wrap (NV+1)) ZG) (
  ∃I1:Nat→Int→World→Prop,(∃m2,I1 m2 0 NK)∧∀(m2:Nat)(Ur:Nat→Value)(Pt:Int),∀NG,I1 m2 Pt NG→
  split (decide ((Pt:Int)<8)) (
   ∃b:Nat→Nat→Prop,
   (0≤(Pt:Int)∧(Pt:Int)<((8:Nat):Int))∧
   b 2 (((Addr.mk No 0 none).add (Int.toNat Pt*1)).block)∧
   ∃ZF:Int,NG.drew.cell? ((Addr.mk No 0 none).add (Int.toNat Pt*1))=some (.int .u32 ZF)∧
   (0≤(Pt:Int)∧(Pt:Int)<((8:Nat):Int))∧
   b 5 (((Addr.mk gv 0 none).add (Int.toNat Pt*1)).block)∧
   ∃ZE:Int,NG.drew.cell? ((Addr.mk gv 0 none).add (Int.toNat Pt*1))=some (.int .u32 ZE)∧
   (0≤(Pt:Int)∧(Pt:Int)<((8:Nat):Int))∧
   aF NG.drew ((Addr.mk No 0 none).add (Int.toNat Pt*1)) [(.int .u32 (u32.wrap (ZF+ZE)))] fun Nk=>
   ∃b1:Nat→Nat→Prop,(∀i k,b i k→b1 i k)∧
   ∃m3,m3<m2∧I1 m3 (i64.wrap (Pt+1)) Nk) (
   ∃UJ:Int,∃UI:Int,∃UH:Int,∃UG:Int,∃UF:Int,∃UD:Int,∃UC:Int,∃UB:Int,(NG.cell? ((Addr.mk No 0 none).add 0)=some (.int .u32 UJ)∧NG.cell? ((Addr.mk No 0 none).add 1)=some (.int .u32 UI)∧NG.cell? ((Addr.mk No 0 none).add 2)=some (.int .u32 UH)∧NG.cell? ((Addr.mk No 0 none).add 3)=some (.int .u32 UG)∧NG.cell? ((Addr.mk No 0 none).add 4)=some (.int .u32 UF)∧NG.cell? ((Addr.mk No 0 none).add 5)=some (.int .u32 UD)∧NG.cell? ((Addr.mk No 0 none).add 6)=some (.int .u32 UC)∧NG.cell? ((Addr.mk No 0 none).add 7)=some (.int .u32 UB))∧
   aF NG (Addr.mk N8 0 none) [(.int .u32 UJ),(.int .u32 UI),(.int .u32 UH),(.int .u32 UG),(.int .u32 UF),(.int .u32 UD),(.int .u32 UC),(.int .u32 UB)] fun Nk=>
   ∃PV:Int,∃PU:Int,∃Ql:Int,∃Qk:Int,∃Qj:Int,∃Tg:Int,∃Tf:Int,∃Te:Int,(Nk.cell? ((Addr.mk N8 0 none).add 0)=some (.int .u32 PV)∧Nk.cell? ((Addr.mk N8 0 none).add 1)=some (.int .u32 PU)∧Nk.cell? ((Addr.mk N8 0 none).add 2)=some (.int .u32 Ql)∧Nk.cell? ((Addr.mk N8 0 none).add 3)=some (.int .u32 Qk)∧Nk.cell? ((Addr.mk N8 0 none).add 4)=some (.int .u32 Qj)∧Nk.cell? ((Addr.mk N8 0 none).add 5)=some (.int .u32 Tg)∧Nk.cell? ((Addr.mk N8 0 none).add 6)=some (.int .u32 Tf)∧Nk.cell? ((Addr.mk N8 0 none).add 7)=some (.int .u32 Te))∧
   R (.agg #[(.int .u32 PV),(.int .u32 PU),(.int .u32 Ql),(.int .u32 Qk),(.int .u32 Qj),(.int .u32 Tg),(.int .u32 Tf),(.int .u32 Te)]) Nk))
def EF:Ann:=(.node none .leaf (.node none .leaf (.node none (.node none .leaf (.node none (.node (some ⟨[(16,.one (.int .i64))],[6,7,8,9,10,11,16,17,18,19,20,21,22,23,24,25,26,27,28,29,30,31,32,33,34,35,36,37,38,39,40,41,42,43,44,45,46,47,48,49,50,51,52,53,54,55,56,57,58,59,60,61,62,63,64,65,66,67,68,69,70,71,72,73,74,75,76,77,78,79,80,81,82,83,84,85,86,87,88,89,90,91,92,93,94,95,96]⟩) .leaf .leaf) .leaf)) (.node none (.node none .leaf (.node none (.node (some ⟨[(97,.one (.int .i64))],[12,97,98,99,100,101,102,103,104,105,106,107,108]⟩) .leaf .leaf) .leaf)) .leaf))))
theorem SBlock_eq(statea:Int)(stateb:Int)(statec:Int)(stated:Int)(statee:Int)(statef:Int)(stateg:Int)(stateh:Int)(blocka:Int)(blockb:Int)(blockc:Int)(blockd:Int)(blocke:Int)(blockf:Int)(blockg:Int)(blockh:Int)(blocki:Int)(blockj:Int)(blockk:Int)(blockl:Int)(blockm:Int)(blockn:Int)(blocko:Int)(blockp:Int)(R:aC)(w:World):vt statea stateb statec stated statee statef stateg stateh blocka blockb blockc blockd blocke blockf blockg blockh blocki blockj blockk blockl blockm blockn blocko blockp R w=vcF prog aL [10,11] Tryz.f175 EF [(.agg #[(.int .u32 statea),(.int .u32 stateb),(.int .u32 statec),(.int .u32 stated),(.int .u32 statee),(.int .u32 statef),(.int .u32 stateg),(.int .u32 stateh)]),(.agg #[(.int .u32 blocka),(.int .u32 blockb),(.int .u32 blockc),(.int .u32 blockd),(.int .u32 blocke),(.int .u32 blockf),(.int .u32 blockg),(.int .u32 blockh),(.int .u32 blocki),(.int .u32 blockj),(.int .u32 blockk),(.int .u32 blockl),(.int .u32 blockm),(.int .u32 blockn),(.int .u32 blocko),(.int .u32 blockp)])] R none w:=by kernel_rfl
theorem wR(statea:Int)(stateb:Int)(statec:Int)(stated:Int)(statee:Int)(statef:Int)(stateg:Int)(stateh:Int)(blocka:Int)(blockb:Int)(blockc:Int)(blockd:Int)(blocke:Int)(blockf:Int)(blockg:Int)(blockh:Int)(blocki:Int)(blockj:Int)(blockk:Int)(blockl:Int)(blockm:Int)(blockn:Int)(blocko:Int)(blockp:Int) {R:aC} {w:World}(h:vt statea stateb statec stated statee statef stateg stateh blocka blockb blockc blockd blocke blockf blockg blockh blocki blockj blockk blockl blockm blockn blocko blockp R w):Calls prog 175 #[(.agg #[(.int .u32 statea),(.int .u32 stateb),(.int .u32 statec),(.int .u32 stated),(.int .u32 statee),(.int .u32 statef),(.int .u32 stateg),(.int .u32 stateh)]),(.agg #[(.int .u32 blocka),(.int .u32 blockb),(.int .u32 blockc),(.int .u32 blockd),(.int .u32 blocke),(.int .u32 blockf),(.int .u32 blockg),(.int .u32 blockh),(.int .u32 blocki),(.int .u32 blockj),(.int .u32 blockk),(.int .u32 blockl),(.int .u32 blockm),(.int .u32 blockn),(.int .u32 blocko),(.int .u32 blockp)])] w fun e w'=>∃v,e= .returned v∧R v w':=
 aj Tryz.func175 ar aa ((SBlock_eq statea stateb statec stated statee statef stateg stateh blocka blockb blockc blockd blocke blockf blockg blockh blocki blockj blockk blockl blockm blockn blocko blockp R w).mp h)
def vr(R:aC)(w:World):Prop:=
 ∀(gv:Nat)(wv:World),gv=w.heap.size→wv=w.alloc (.cells (#[(.int .u32 0),(.int .u32 0),(.int .u32 0),(.int .u32 0),(.int .u32 0),(.int .u32 0),(.int .u32 0),(.int .u32 0)]) 66)→
 aF wv (Addr.mk gv 0 none) [(.int .u32 1779033703),(.int .u32 3144134277),(.int .u32 1013904242),(.int .u32 2773480762),(.int .u32 1359893119),(.int .u32 2600822924),(.int .u32 528734635),(.int .u32 1541459225)] fun M5=>
 ∃PV:Int,∃PU:Int,∃Ql:Int,∃Qk:Int,∃Qj:Int,∃Tg:Int,∃Tf:Int,∃Te:Int,(M5.cell? ((Addr.mk gv 0 none).add 0)=some (.int .u32 PV)∧M5.cell? ((Addr.mk gv 0 none).add 1)=some (.int .u32 PU)∧M5.cell? ((Addr.mk gv 0 none).add 2)=some (.int .u32 Ql)∧M5.cell? ((Addr.mk gv 0 none).add 3)=some (.int .u32 Qk)∧M5.cell? ((Addr.mk gv 0 none).add 4)=some (.int .u32 Qj)∧M5.cell? ((Addr.mk gv 0 none).add 5)=some (.int .u32 Tg)∧M5.cell? ((Addr.mk gv 0 none).add 6)=some (.int .u32 Tf)∧M5.cell? ((Addr.mk gv 0 none).add 7)=some (.int .u32 Te))∧
 R (.agg #[(.int .u32 PV),(.int .u32 PU),(.int .u32 Ql),(.int .u32 Qk),(.int .u32 Qj),(.int .u32 Tg),(.int .u32 Tf),(.int .u32 Te)]) M5
def EE:Ann:= .leaf
theorem SFirst_eq(R:aC)(w:World):vr R w=vcF prog aL [] Tryz.f137 EE [] R none w:=by kernel_rfl
theorem wQ {R:aC} {w:World}(h:vr R w):Calls prog 137 #[] w fun e w'=>∃v,e= .returned v∧R v w':=
 aj Tryz.func137 ar aa ((SFirst_eq R w).mp h)
end
section
set_option maxRecDepth 100000
def Du(R:aC)(w:World):Prop:=
 Calls prog 137 #[] w fun e wv=>
 ∃x1a:Int,∃x1b:Int,∃x1c:Int,∃x1d:Int,∃x1e:Int,∃x1f:Int,∃x1g:Int,∃x1h:Int,e= .returned (.agg #[(.int .u32 x1a),(.int .u32 x1b),(.int .u32 x1c),(.int .u32 x1d),(.int .u32 x1e),(.int .u32 x1f),(.int .u32 x1g),(.int .u32 x1h)])∧
 ∀(gv:Nat)(M5:World),gv=wv.heap.size→M5=wv.alloc (.cells #[(.int .u32 x1a),(.int .u32 x1b),(.int .u32 x1c),(.int .u32 x1d),(.int .u32 x1e),(.int .u32 x1f),(.int .u32 x1g),(.int .u32 x1h),(.int .i64 0),(.slice none 0 0)] 228)→
 R (.pointer (some (Addr.mk gv 0 none))) M5
def Jt:Ann:= .leaf
theorem SNew_eq(R:aC)(w:World):Du R w=vcF prog aL [] Tryz.f125 Jt [] R none w:=by kernel_rfl
theorem BH {R:aC} {w:World}(h:Du R w):Calls prog 125 #[] w fun e w'=>∃v,e= .returned v∧R v w':=
 aj Tryz.func125 ar aa ((SNew_eq R w).mp h)
def Dw(d:Option Addr)(wordsA:Option Addr)(wordsN:Nat)(wordsC:Nat)(R:aC)(w:World):Prop:=
 au d fun p8=>
 ∃NW:Int,w.cell? (p8.add 8)=some (.int .i64 NW)∧
 split (decide ((((wordsN:Nat):Int):Int)>(i64.wrap (36028797018963968 - NW)))) (
  R (.tuple #[]) w) (
  au d fun RZ=>
  ∃NV:Int,w.cell? (RZ.add 8)=some (.int .i64 NV)∧
  au d fun ZK=>
  aF w (ZK.add 8) [(.int .i64 (i64.wrap (NV+((wordsN:Nat):Int))))] fun wv=>
  ∃b:Nat→Nat→Prop,
  au d fun Wd=>
  b 3 ((Wd.add 9).block)∧
  ∃Vl:Option Addr,∃abv:Nat,∃YS:Nat,wv.drew.cell? (Wd.add 9)=some (.slice Vl abv YS)∧
  au d fun p27=>
  b 7 ((p27.add 9).block)∧
  ∃TT:Option Addr,∃Rn:Nat,∃TS:Nat,wv.drew.cell? (p27.add 9)=some (.slice TT Rn TS)∧
  au d fun p32=>
  b 12 ((p32.add 9).block)∧
  ∃abl:Option Addr,∃RV:Nat,∃abk:Nat,wv.drew.cell? (p32.add 9)=some (.slice abl RV abk)∧
  (0≤(((RV:Nat):Int):Int)∧(((RV:Nat):Int):Int)≤((YS:Nat):Int))∧
  (0≤(((Rn:Nat):Int):Int)∧(((Rn:Nat):Int):Int)≤((Int.toNat ((RV:Nat):Int):Nat):Int))∧
  ∀SG:Option Addr,SG=(if(Int.toNat ((RV:Nat):Int))=0 then Vl else(Vl:Option Addr).map (·.add (0*1)))→∀RU:Nat,RU=(Int.toNat ((Rn:Nat):Int)) - 0→∀SF:Nat,SF=(Int.toNat ((RV:Nat):Int)) - 0→
  ∃YA:Option Addr,∃Yy:Nat,∃Yz:Nat,∃M5,(Builtin.append_ #[62,62] 62 #[(.slice SG RU SF),(.slice wordsA wordsN wordsC)]:Sem Value).run prog wv.drew= .ok (.slice YA Yy Yz) M5∧
  Kept (bW b [0,1,4,5,6,9,10,11]) wv.drew M5∧∃b1:Nat→Nat→Prop,(∀i k,b i k→b1 i k)∧
  ∃I:Nat→Option Addr→Nat→Nat→World→Prop,(∃m,I m YA Yy Yz M5)∧∀(m:Nat)(QQ:Nat→Value)(leftA:Option Addr)(leftN:Nat)(leftC:Nat),∀M8,I m leftA leftN leftC M8→
  split (decide ((((leftN:Nat):Int):Int)≥16)) (
   ∃b2:Nat→Nat→Prop,
   au d fun Ub=>
   b2 4 ((Ub.add 0).block)∧
   ∃XY:Int,∃XX:Int,∃XW:Int,∃XV:Int,∃XU:Int,∃XT:Int,∃XS:Int,∃XR:Int,(M8.drew.cell? ((Ub.add 0).add 0)=some (.int .u32 XY)∧M8.drew.cell? ((Ub.add 0).add 1)=some (.int .u32 XX)∧M8.drew.cell? ((Ub.add 0).add 2)=some (.int .u32 XW)∧M8.drew.cell? ((Ub.add 0).add 3)=some (.int .u32 XV)∧M8.drew.cell? ((Ub.add 0).add 4)=some (.int .u32 XU)∧M8.drew.cell? ((Ub.add 0).add 5)=some (.int .u32 XT)∧M8.drew.cell? ((Ub.add 0).add 6)=some (.int .u32 XS)∧M8.drew.cell? ((Ub.add 0).add 7)=some (.int .u32 XR))∧
   16≤leftN∧
   au leftA fun Q0=>
   b2 7 (Q0.block)∧
   ∃SA:Int,∃Sz:Int,∃Sy:Int,∃Sx:Int,∃Sw:Int,∃Su:Int,∃Ss:Int,∃Sr:Int,∃XN:Int,∃XM:Int,∃XL:Int,∃XK:Int,∃XJ:Int,∃XH:Int,∃XG:Int,∃XF:Int,(M8.drew.cell? (Q0.add 0)=some (.int .u32 SA)∧M8.drew.cell? (Q0.add 1)=some (.int .u32 Sz)∧M8.drew.cell? (Q0.add 2)=some (.int .u32 Sy)∧M8.drew.cell? (Q0.add 3)=some (.int .u32 Sx)∧M8.drew.cell? (Q0.add 4)=some (.int .u32 Sw)∧M8.drew.cell? (Q0.add 5)=some (.int .u32 Su)∧M8.drew.cell? (Q0.add 6)=some (.int .u32 Ss)∧M8.drew.cell? (Q0.add 7)=some (.int .u32 Sr)∧M8.drew.cell? (Q0.add 8)=some (.int .u32 XN)∧M8.drew.cell? (Q0.add 9)=some (.int .u32 XM)∧M8.drew.cell? (Q0.add 10)=some (.int .u32 XL)∧M8.drew.cell? (Q0.add 11)=some (.int .u32 XK)∧M8.drew.cell? (Q0.add 12)=some (.int .u32 XJ)∧M8.drew.cell? (Q0.add 13)=some (.int .u32 XH)∧M8.drew.cell? (Q0.add 14)=some (.int .u32 XG)∧M8.drew.cell? (Q0.add 15)=some (.int .u32 XF))∧
   Calls prog 175 #[(.agg #[(.int .u32 XY),(.int .u32 XX),(.int .u32 XW),(.int .u32 XV),(.int .u32 XU),(.int .u32 XT),(.int .u32 XS),(.int .u32 XR)]),(.agg #[(.int .u32 SA),(.int .u32 Sz),(.int .u32 Sy),(.int .u32 Sx),(.int .u32 Sw),(.int .u32 Su),(.int .u32 Ss),(.int .u32 Sr),(.int .u32 XN),(.int .u32 XM),(.int .u32 XL),(.int .u32 XK),(.int .u32 XJ),(.int .u32 XH),(.int .u32 XG),(.int .u32 XF)])] M8.drew fun e Nb=>
   ∃XE:Int,∃XD:Int,∃XC:Int,∃XB:Int,∃XA:Int,∃Xz:Int,∃Xy:Int,∃Xx:Int,e= .returned (.agg #[(.int .u32 XE),(.int .u32 XD),(.int .u32 XC),(.int .u32 XB),(.int .u32 XA),(.int .u32 Xz),(.int .u32 Xy),(.int .u32 Xx)])∧
   Kept (bW b2 [0,1]) M8.drew Nb∧∃b3:Nat→Nat→Prop,(∀i k,b2 i k→b3 i k)∧
   au d fun p53=>
   aF Nb (p53.add 0) [(.int .u32 XE),(.int .u32 XD),(.int .u32 XC),(.int .u32 XB),(.int .u32 XA),(.int .u32 Xz),(.int .u32 Xy),(.int .u32 Xx)] fun Nf=>
   ∃b4:Nat→Nat→Prop,(∀i k,b3 i k→b4 i k)∧
   (0≤(16:Int)∧(16:Int)≤((leftN:Nat):Int))∧
   ∀RT:Option Addr,RT=(if leftC=(Int.toNat 16)then leftA else(leftA:Option Addr).map (·.add ((Int.toNat 16)*1)))→∀RQ:Nat,RQ=leftN - (Int.toNat 16)→∀RR:Nat,RR=leftC - (Int.toNat 16)→
   ∃m1,m1<m∧I m1 RT RQ RR Nf) (
   ∃Sp:Option Addr,∃So:Nat,∃TR:Nat,∃Nb,(Builtin.append_ #[62,62] 62 #[(.slice none 0 0),(.slice leftA leftN leftC)]:Sem Value).run prog M8= .ok (.slice Sp So TR) Nb∧
   au d fun p58=>
   aF Nb (p58.add 9) [(.slice Sp So TR)] fun Nf=>
   R (.tuple #[]) Nf))
def Jv:Ann:=(.node none .leaf (.node none .leaf (.node none .leaf (.node none (.node none (.node (some ⟨[(4,.one (.slice))],[4,39,40,41,42,43,44,45,46,47,48,49,50,51,52,53,54]⟩) .leaf .leaf) .leaf) .leaf))))
theorem SAdd_eq(d:Option Addr)(wordsA:Option Addr)(wordsN:Nat)(wordsC:Nat)(R:aC)(w:World):Dw d wordsA wordsN wordsC R w=vcF prog aL [4] Tryz.f135 Jv [(.pointer d),(.slice wordsA wordsN wordsC)] R none w:=by kernel_rfl
theorem BK(d:Option Addr)(wordsA:Option Addr)(wordsN:Nat)(wordsC:Nat) {R:aC} {w:World}(h:Dw d wordsA wordsN wordsC R w):Calls prog 135 #[(.pointer d),(.slice wordsA wordsN wordsC)] w fun e w'=>∃v,e= .returned v∧R v w':=
 aj Tryz.func135 ar aa ((SAdd_eq d wordsA wordsN wordsC R w).mp h)
def zf(d:Option Addr)(R:aC)(w:World):Prop:=
 ∀(gv:Nat)(wv:World),gv=w.heap.size→wv=w.alloc (.cells (Array.replicate 26 (.int .u32 0)) 69)→
 ∀(Nc:Nat)(M5:World),Nc=wv.heap.size→M5=wv.alloc (.cells (Array.replicate 26 (.int .u32 0)) 69)→
 ∃b:Nat→Nat→Prop,
 (0≤(8:Int)∧(8:Int)≤((26:Nat):Int))∧
 ∀x4A:Option Addr,x4A=(some (if 26=0 then Addr.mk Nc 0 none else(Addr.mk Nc 0 none).add (0*1)))→∀x4N:Nat,x4N=(Int.toNat 8) - 0→∀x4C:Nat,x4C=26 - 0→
 au d fun p6=>
 ∀WI:Option Addr,WI=(some (if 8=0 then p6.add 0 else(p6.add 0).add (0*1)))→∀WG:Nat,WG=8 - 0→∀WH:Nat,WH=8 - 0→
 ∃x9:Int,∃M8,(Builtin.copy_ #[62,62] 3 #[(.slice x4A x4N x4C),(.slice WI WG WH)]:Sem Value).run prog M5.drew= .ok (.int .i64 x9) M8∧
 Kept (bW b [1]) M5.drew M8∧∃b1:Nat→Nat→Prop,(∀i k,b i k→b1 i k)∧
 ∃b2:Nat→Nat→Prop,
 au d fun p11=>
 b2 3 ((p11.add 8).block)∧
 ∃PD:Int,M8.drew.cell? (p11.add 8)=some (.int .i64 PD)∧
 au d fun We=>
 b2 10 ((We.add 8).block)∧
 ∃NU:Int,M8.drew.cell? (We.add 8)=some (.int .i64 NU)∧
 (0≤(8:Int)∧(8:Int)<((26:Nat):Int))∧
 aF M8.drew ((Addr.mk Nc 0 none).add (Int.toNat 8*1)) [(.int .u32 (u32.wrap ((u64.wrap PD:Int).fdiv (2 ^ 32))))] fun Nb=>
 Kept (bW b2 [7,11]) M8.drew Nb∧∃b3:Nat→Nat→Prop,(∀i k,b2 i k→b3 i k)∧
 (0≤(9:Int)∧(9:Int)<((26:Nat):Int))∧
 aF Nb ((Addr.mk Nc 0 none).add (Int.toNat 9*1)) [(.int .u32 (u32.wrap NU))] fun Nf=>
 ∃b4:Nat→Nat→Prop,(∀i k,b3 i k→b4 i k)∧
 ∃b5:Nat→Nat→Prop,
 (0≤(10:Int)∧(10:Int)≤((26:Nat):Int))∧
 ∀PQ:Option Addr,PQ=(some (if 26=(Int.toNat 10)then Addr.mk Nc 0 none else(Addr.mk Nc 0 none).add ((Int.toNat 10)*1)))→∀PN:Nat,PN=26 - (Int.toNat 10)→∀PO:Nat,PO=26 - (Int.toNat 10)→
 au d fun Rg=>
 b5 4 ((Rg.add 9).block)∧
 ∃PM:Option Addr,∃PJ:Nat,∃PL:Nat,Nf.drew.cell? (Rg.add 9)=some (.slice PM PJ PL)∧
 ∃OR:Int,∃Np,(Builtin.copy_ #[62,62] 3 #[(.slice PQ PN PO),(.slice PM PJ PL)]:Sem Value).run prog Nf.drew= .ok (.int .i64 OR) Np∧
 Kept (bW b5 [1]) Nf.drew Np∧∃b6:Nat→Nat→Prop,(∀i k,b5 i k→b6 i k)∧
 ∃OK:Array Value,(OK.size=26∧∀i u,OK[i]? =some u→Np.cell? ((Addr.mk Nc 0 none).add i)=some u)∧
 OK.size=26∧(∀v∈OK.toList,one? v True)∧
 aF Np (Addr.mk gv 0 none) OK.toList fun NK=>
 ∃r0:Array Value,(r0.size=26∧∀i u,r0[i]? =some u→NK.cell? ((Addr.mk gv 0 none).add i)=some u)∧
 R (.agg r0) NK
def HD:Ann:= .leaf
theorem SSave_eq(d:Option Addr)(R:aC)(w:World):zf d R w=vcF prog aL [] Tryz.f126 HD [(.pointer d)] R none w:=by kernel_rfl
theorem zg(d:Option Addr) {R:aC} {w:World}(h:zf d R w):Calls prog 126 #[(.pointer d)] w fun e w'=>∃v,e= .returned v∧R v w':=
 aj Tryz.func126 ar aa ((SSave_eq d R w).mp h)
def zh(wordsA:Option Addr)(wordsN:Nat)(wordsC:Nat)(R:aC)(w:World):Prop:=
 split ((((wordsN:Nat):Int):Int) !=26) (
  R (.tuple #[(.pointer none),(.int .i64 20)]) w) (
  (0≤(8:Int)∧(8:Int)<((wordsN:Nat):Int))∧
  au wordsA fun ZM=>
  ∃Po:Int,w.drew.cell? (ZM.add (Int.toNat 8*1))=some (.int .u32 Po)∧
  (0≤(9:Int)∧(9:Int)<((wordsN:Nat):Int))∧
  au wordsA fun We=>
  ∃Om:Int,w.drew.cell? (We.add (Int.toNat 9*1))=some (.int .u32 Om)∧
  ∀n:Int,n=(u64.wrap (BitVec.ofInt u64.bits (u64.wrap ((u64.wrap Po:Int)*2 ^ 32)) ||| BitVec.ofInt u64.bits (u64.wrap Om)).toNat)→
  (0≤(8:Int)∧(8:Int)≤((wordsC:Nat):Int))∧
  (0≤(8:Int)∧(8:Int)≤((Int.toNat 8:Nat):Int))∧
  ∀Pw:Option Addr,Pw=(if(Int.toNat 8)=0 then wordsA else(wordsA:Option Addr).map (·.add (0*1)))→∀Pv:Nat,Pv=(Int.toNat 8) - 0→∀PS:Nat,PS=(Int.toNat 8) - 0→
  8≤Pv∧
  au Pw fun TF=>
  ∃SQ:Int,∃TX:Int,∃TW:Int,∃TV:Int,∃TU:Int,∃YR:Int,∃YQ:Int,∃YP:Int,(w.drew.cell? (TF.add 0)=some (.int .u32 SQ)∧w.drew.cell? (TF.add 1)=some (.int .u32 TX)∧w.drew.cell? (TF.add 2)=some (.int .u32 TW)∧w.drew.cell? (TF.add 3)=some (.int .u32 TV)∧w.drew.cell? (TF.add 4)=some (.int .u32 TU)∧w.drew.cell? (TF.add 5)=some (.int .u32 YR)∧w.drew.cell? (TF.add 6)=some (.int .u32 YQ)∧w.drew.cell? (TF.add 7)=some (.int .u32 YP))∧
  ∀(gv:Nat)(wv:World),gv=w.drew.heap.size→wv=w.drew.alloc (.cells #[(.int .u32 SQ),(.int .u32 TX),(.int .u32 TW),(.int .u32 TV),(.int .u32 TU),(.int .u32 YR),(.int .u32 YQ),(.int .u32 YP),(.int .i64 (i64.wrap n)),(.slice none 0 0)] 228)→
  ∃J:Bool→World→Prop,(
   ∃b:Nat→Nat→Prop,
   split (decide ((n:Int)>36028797018963968)) (
    J true wv.drew) (
    split (decide ((n:Int)<16)) (
     b 9 (((Addr.mk gv 0 none).add 0).block)∧
     ∃Yx:Int,∃Yw:Int,∃Yv:Int,∃Yu:Int,∃Yt:Int,∃Ys:Int,∃Yr:Int,∃Yq:Int,(wv.drew.cell? (((Addr.mk gv 0 none).add 0).add 0)=some (.int .u32 Yx)∧wv.drew.cell? (((Addr.mk gv 0 none).add 0).add 1)=some (.int .u32 Yw)∧wv.drew.cell? (((Addr.mk gv 0 none).add 0).add 2)=some (.int .u32 Yv)∧wv.drew.cell? (((Addr.mk gv 0 none).add 0).add 3)=some (.int .u32 Yu)∧wv.drew.cell? (((Addr.mk gv 0 none).add 0).add 4)=some (.int .u32 Yt)∧wv.drew.cell? (((Addr.mk gv 0 none).add 0).add 5)=some (.int .u32 Ys)∧wv.drew.cell? (((Addr.mk gv 0 none).add 0).add 6)=some (.int .u32 Yr)∧wv.drew.cell? (((Addr.mk gv 0 none).add 0).add 7)=some (.int .u32 Yq))∧
     Calls prog 137 #[] wv.drew fun e M5=>
     ∃Yp:Int,∃Yo:Int,∃Yn:Int,∃Ym:Int,∃Yl:Int,∃Yk:Int,∃Yj:Int,∃Yi:Int,e= .returned (.agg #[(.int .u32 Yp),(.int .u32 Yo),(.int .u32 Yn),(.int .u32 Ym),(.int .u32 Yl),(.int .u32 Yk),(.int .u32 Yj),(.int .u32 Yi)])∧
     Kept (bW b [0,6,7,8,9]) wv.drew M5∧∃b1:Nat→Nat→Prop,(∀i k,b i k→b1 i k)∧
     J (!(cv #[(.int .u32 Yx),(.int .u32 Yw),(.int .u32 Yv),(.int .u32 Yu),(.int .u32 Yt),(.int .u32 Ys),(.int .u32 Yr),(.int .u32 Yq)] #[(.int .u32 Yp),(.int .u32 Yo),(.int .u32 Yn),(.int .u32 Ym),(.int .u32 Yl),(.int .u32 Yk),(.int .u32 Yj),(.int .u32 Yi)])) M5) (
     J false wv.drew)))∧∀(NR:Nat→Value)(Pg:Bool),∀M5,J Pg M5→
  split Pg (
   R (.tuple #[(.pointer none),(.int .i64 20)]) M5) (
   ∀waits:Int,waits=(i64.wrap ((n:Int).tmod 16))→
   (0≤(i64.wrap (10+waits):Int)∧(i64.wrap (10+waits):Int)≤((wordsN:Nat):Int))∧
   ∀Qs:Option Addr,Qs=(if wordsC=(Int.toNat (i64.wrap (10+waits)))then wordsA else(wordsA:Option Addr).map (·.add ((Int.toNat (i64.wrap (10+waits)))*1)))→∀O6:Nat,O6=wordsN - (Int.toNat (i64.wrap (10+waits)))→∀QS:Nat,QS=wordsC - (Int.toNat (i64.wrap (10+waits)))→
   ∃I:Nat→Int→World→Prop,(∃m,I m 0 M5)∧∀(m:Nat)(Oq:Nat→Value)(P8:Int),∀M8,I m P8 M8→
   split (decide ((P8:Int)<((O6:Nat):Int))) (
    (0≤(P8:Int)∧(P8:Int)<((O6:Nat):Int))∧
    au Qs fun QD=>
    ∃Xe:Int,M8.cell? (QD.add (Int.toNat P8*1))=some (.int .u32 Xe)∧
    split ((Xe:Int) !=0) (
     R (.tuple #[(.pointer none),(.int .i64 20)]) M8) (
     ∃m1,m1<m∧I m1 (i64.wrap (P8+1)) M8)) (
    (0≤(i64.wrap (10+waits):Int)∧(i64.wrap (10+waits):Int)≤((wordsC:Nat):Int))∧
    (0≤(i64.wrap (10+waits):Int)∧(i64.wrap (10+waits):Int)≤((Int.toNat (i64.wrap (10+waits)):Nat):Int))∧
    (0≤(10:Int)∧(10:Int)≤((Int.toNat (i64.wrap (10+waits)):Nat):Int))∧
    ∀TQ:Option Addr,TQ=(if(Int.toNat (i64.wrap (10+waits)))=(Int.toNat 10)then wordsA else(wordsA:Option Addr).map (·.add ((Int.toNat 10)*1)))→∀QR:Nat,QR=(Int.toNat (i64.wrap (10+waits))) - (Int.toNat 10)→∀TP:Nat,TP=(Int.toNat (i64.wrap (10+waits))) - (Int.toNat 10)→
    ∃WR:Option Addr,∃WO:Nat,∃WQ:Nat,∃Nb,(Builtin.append_ #[62,62] 62 #[(.slice none 0 0),(.slice TQ QR TP)]:Sem Value).run prog M8= .ok (.slice WR WO WQ) Nb∧
    aF Nb ((Addr.mk gv 0 none).add 9) [(.slice WR WO WQ)] fun Nf=>
    R (.tuple #[(.pointer (some (Addr.mk gv 0 none))),(.int .i64 0)]) Nf)))
def HF:Ann:=(.node none .leaf (.node none .leaf (.node none .leaf (.node none .leaf (.node none (.node none (.node (some ⟨[(43,.one (.bool))],[30,31,32,33,34,35,36,37,38,39,40,41,42,43]⟩) .leaf .leaf) .leaf) (.node none .leaf (.node none (.node none .leaf (.node none (.node (some ⟨[(52,.one (.int .i64))],[2,3,8,52,53,54,55,56,57,58]⟩) .leaf .leaf) .leaf)) .leaf)))))))
theorem SLoad_eq(wordsA:Option Addr)(wordsN:Nat)(wordsC:Nat)(R:aC)(w:World):zh wordsA wordsN wordsC R w=vcF prog aL [4,6] Tryz.f70 HF [(.slice wordsA wordsN wordsC)] R none w:=by kernel_rfl
theorem zi(wordsA:Option Addr)(wordsN:Nat)(wordsC:Nat) {R:aC} {w:World}(h:zh wordsA wordsN wordsC R w):Calls prog 70 #[(.slice wordsA wordsN wordsC)] w fun e w'=>∃v,e= .returned v∧R v w':=
 aj Tryz.func70 ar aa ((SLoad_eq wordsA wordsN wordsC R w).mp h)
end
section
set_option maxRecDepth 100000
def DD(m:Option Addr)(R:aC)(w:World):Prop:=
 split m.isNone (
  R (.pointer none) w) (
  Calls prog 54 #[(.pointer m)] w fun e wv=>
  ∃x7:Int,e= .returned (.int .i64 x7)∧
  ∃I:Nat→Int→World→Prop,(∃m1,I m1 0 wv)∧∀(m1:Nat)(QQ:Nat→Value)(x8:Int),∀M5,I m1 x8 M5→
  split (decide ((x8:Int)<x7)) (
   Calls prog 78 #[(.int .i64 x8)] M5 fun e M8=>
   ∃OL:Bool,∃OS:Int,e= .returned (.agg #[(.bool OL),(.int .i64 OS)])∧
   Calls prog 77 #[(.pointer m),(.agg #[(.bool OL),(.int .i64 OS)])] M8 fun e Nb=>
   ∃Po:Int,e= .returned (.int .i64 Po)∧
   ∃m2,m2<m1∧I m2 (i64.wrap (x8+1)) Nb) (
   Calls prog 54 #[(.pointer m)] M5 fun e M8=>
   ∃Qb:Int,e= .returned (.int .i64 Qb)∧
   ∃SU:Option Addr,∃SR:Nat,∃SS:Nat,∃Nb,(Instr.makeSlice 62 (.int .i64 (i64.wrap (2*Qb))) (.int .i64 (i64.wrap (2*Qb))):Sem Value).run prog M8= .ok (.slice SU SR SS) Nb∧
   ∀(Nc:Nat)(Nf:World),Nc=Nb.heap.size→Nf=Nb.alloc (.cells #[(.pointer m),(.int .i64 0),(.slice SU SR SS)] 110)→
   R (.pointer (some (Addr.mk Nc 0 none))) Nf))
def JU:Ann:=(.node none .leaf (.node none .leaf (.node none (.node none .leaf (.node none (.node (some ⟨[(8,.one (.int .i64))],[3,8,9,10,11,12,13,14,15]⟩) .leaf .leaf) .leaf)) .leaf)))
theorem DNew_eq(m:Option Addr)(R:aC)(w:World):DD m R w=vcF prog aL [] Tryz.f29 JU [(.pointer m)] R none w:=by kernel_rfl
theorem Cc(m:Option Addr) {R:aC} {w:World}(h:DD m R w):Calls prog 29 #[(.pointer m)] w fun e w'=>∃v,e= .returned v∧R v w':=
 aj Tryz.func29 ar aa ((DNew_eq m R w).mp h)
def vz(d:Option Addr)(R:aC)(w:World):Prop:=
 au d fun p5=>
 ∃Vg:Option Addr,∃TO:Nat,∃Vf:Nat,w.cell? (p5.add 2)=some (.slice Vg TO Vf)∧
 ∃Rq:Option Addr,∃QX:Nat,∃RX:Nat,∃wv,(Instr.makeSlice 62 (.int .i64 (i64.wrap (1+((TO:Nat):Int)))) (.int .i64 (i64.wrap (1+((TO:Nat):Int)))):Sem Value).run prog w= .ok (.slice Rq QX RX) wv∧
 au d fun ZM=>
 ∃Qi:Int,wv.cell? (ZM.add 1)=some (.int .i64 Qi)∧
 (0≤(0:Int)∧(0:Int)<((QX:Nat):Int))∧
 au Rq fun p17=>
 aF wv (p17.add (Int.toNat 0*1)) [(.int .u32 (u32.wrap Qi))] fun M5=>
 ∃b:Nat→Nat→Prop,
 (0≤(1:Int)∧(1:Int)≤((QX:Nat):Int))∧
 ∀SX:Option Addr,SX=(if RX=(Int.toNat 1)then Rq else(Rq:Option Addr).map (·.add ((Int.toNat 1)*1)))→∀SV:Nat,SV=QX - (Int.toNat 1)→∀SW:Nat,SW=RX - (Int.toNat 1)→
 au d fun Ti=>
 b 5 ((Ti.add 2).block)∧
 ∃Pw:Option Addr,∃Pv:Nat,∃PS:Nat,M5.drew.cell? (Ti.add 2)=some (.slice Pw Pv PS)∧
 ∃Re:Int,∃M8,(Builtin.copy_ #[62,62] 3 #[(.slice SX SV SW),(.slice Pw Pv PS)]:Sem Value).run prog M5.drew= .ok (.int .i64 Re) M8∧
 Kept (bW b [2]) M5.drew M8∧∃b1:Nat→Nat→Prop,(∀i k,b i k→b1 i k)∧
 R (.slice Rq QX RX) M8
def Fh:Ann:= .leaf
theorem DWords_eq(d:Option Addr)(R:aC)(w:World):vz d R w=vcF prog aL [] Tryz.f52 Fh [(.pointer d)] R none w:=by kernel_rfl
theorem xg(d:Option Addr) {R:aC} {w:World}(h:vz d R w):Calls prog 52 #[(.pointer d)] w fun e w'=>∃v,e= .returned v∧R v w':=
 aj Tryz.func52 ar aa ((DWords_eq d R w).mp h)
end
section
set_option maxRecDepth 100000
def Am(m:Option Addr)(wordsA:Option Addr)(wordsN:Nat)(wordsC:Nat)(R:aC)(w:World):Prop:=
 ∃J:Bool→World→Prop,(
  split m.isNone (
   J true w) (
   Calls prog 54 #[(.pointer m)] w fun e wv=>
   ∃NV:Int,e= .returned (.int .i64 NV)∧
   split ((((wordsN:Nat):Int):Int) !=(i64.wrap (1+(i64.wrap (2*NV))))) (
    J true wv) (
    (0≤(0:Int)∧(0:Int)<((wordsN:Nat):Int))∧
    au wordsA fun Wd=>
    ∃Re:Int,wv.cell? (Wd.add (Int.toNat 0*1))=some (.int .u32 Re)∧
    J (decide ((Re:Int)>64)) wv)))∧∀(QQ:Nat→Value)(Qh:Bool),∀wv,J Qh wv→
 split Qh (
  R (.tuple #[(.pointer none),(.int .i64 110)]) wv) (
  ∃b:Nat→Nat→Prop,
  (0≤(0:Int)∧(0:Int)<((wordsN:Nat):Int))∧
  au wordsA fun TE=>
  b 3 ((TE.add (Int.toNat 0*1)).block)∧
  ∃OK:Int,wv.drew.cell? (TE.add (Int.toNat 0*1))=some (.int .u32 OK)∧
  ∃YK:Option Addr,∃YI:Nat,∃YJ:Nat,∃M5,(Instr.makeSlice 62 (.int .i64 (i64.wrap (((wordsN:Nat):Int) - 1))) (.int .i64 (i64.wrap (((wordsN:Nat):Int) - 1))):Sem Value).run prog wv.drew= .ok (.slice YK YI YJ) M5∧
  Kept (bW b [0,1,2,3,4]) wv.drew M5∧∃b1:Nat→Nat→Prop,(∀i k,b i k→b1 i k)∧
  ∀(Nc:Nat)(M8:World),Nc=M5.heap.size→M8=M5.alloc (.cells #[(.pointer m),(.int .i64 (i64.wrap OK)),(.slice YK YI YJ)] 110)→
  Kept (bW b1 [1,2,5,6]) M5 M8∧∃b2:Nat→Nat→Prop,(∀i k,b1 i k→b2 i k)∧
  ∃b3:Nat→Nat→Prop,
  b3 3 (((Addr.mk Nc 0 none).add 2).block)∧
  ∃SE:Option Addr,∃SC:Nat,∃SD:Nat,M8.drew.cell? ((Addr.mk Nc 0 none).add 2)=some (.slice SE SC SD)∧
  (0≤(1:Int)∧(1:Int)≤((wordsN:Nat):Int))∧
  ∀RT:Option Addr,RT=(if wordsC=(Int.toNat 1)then wordsA else(wordsA:Option Addr).map (·.add ((Int.toNat 1)*1)))→∀RQ:Nat,RQ=wordsN - (Int.toNat 1)→∀RR:Nat,RR=wordsC - (Int.toNat 1)→
  ∃x44:Int,∃Nb,(Builtin.copy_ #[62,62] 3 #[(.slice SE SC SD),(.slice RT RQ RR)]:Sem Value).run prog M8.drew= .ok (.int .i64 x44) Nb∧
  Kept (bW b3 [0]) M8.drew Nb∧∃b4:Nat→Nat→Prop,(∀i k,b3 i k→b4 i k)∧
  Calls prog 120 #[(.pointer (some (Addr.mk Nc 0 none)))] Nb fun e Nf=>
  ∃X5:Int,e= .returned (.int .i64 X5)∧
  ∃I:Nat→Int→World→Prop,(∃m1,I m1 0 Nf)∧∀(m1:Nat)(Oq:Nat→Value)(Rm:Int),∀Np,I m1 Rm Np→
  split (decide ((Rm:Int)<X5)) (
   ∃Vk:Option Addr,∃Vi:Nat,∃Vj:Nat,Np.cell? ((Addr.mk Nc 0 none).add 2)=some (.slice Vk Vi Vj)∧
   (0≤(i64.wrap (2*Rm):Int)∧(i64.wrap (2*Rm):Int)≤((Vi:Nat):Int))∧
   ∀Sp:Option Addr,Sp=(if Vj=(Int.toNat (i64.wrap (2*Rm)))then Vk else(Vk:Option Addr).map (·.add ((Int.toNat (i64.wrap (2*Rm)))*1)))→∀So:Nat,So=Vi - (Int.toNat (i64.wrap (2*Rm)))→∀TR:Nat,TR=Vj - (Int.toNat (i64.wrap (2*Rm)))→
   2≤So∧
   au Sp fun p59=>
   ∃WW:Int,∃WV:Int,(Np.cell? (p59.add 0)=some (.int .u32 WW)∧Np.cell? (p59.add 1)=some (.int .u32 WV))∧
   Calls prog 121 #[(.agg #[(.int .u32 WW),(.int .u32 WV)])] Np fun e NK=>
   ∃x60aa:Int,∃x60ab:Int,∃x60ac:Int,∃x60ad:Int,∃x60ae:Bool,∃WU:Int,e= .returned (.tuple #[(.agg #[(.int .i64 x60aa),(.int .i64 x60ab),(.int .i64 x60ac),(.int .i64 x60ad),(.bool x60ae)]),(.int .i64 WU)])∧
   ∀(No:Nat)(NG:World),No=NK.heap.size→NG=NK.alloc (.cells (#[(.int .i64 0),(.int .i64 0),(.int .i64 0),(.int .i64 0),(.bool false)]) 50)→
   aF NG (Addr.mk No 0 none) [(.int .i64 x60aa),(.int .i64 x60ab),(.int .i64 x60ac),(.int .i64 x60ad),(.bool x60ae)] fun Nk=>
   ∃J1:Bool→World→Prop,(
    split ((WU:Int) !=0) (
     J1 true Nk) (
     ∃x68:Int,Nk.cell? ((Addr.mk No 0 none).add 1)=some (.int .i64 x68)∧
     Calls prog 57 #[(.pointer (some (Addr.mk Nc 0 none))),(.int .i64 x68)] Nk fun e Ol=>
     ∃WN:Bool,e= .returned (.bool WN)∧
     J1 (!WN) Ol))∧∀(RF:Nat→Value)(Vh:Bool),∀Ol,J1 Vh Ol→
   split Vh (
    R (.tuple #[(.pointer none),(.int .i64 110)]) Ol) (
    ∃m2,m2<m1∧I m2 (i64.wrap (Rm+1)) Ol)) (
   R (.tuple #[(.pointer (some (Addr.mk Nc 0 none))),(.int .i64 0)]) Np))
def Ia:Ann:=(.node none .leaf (.node none (.node none (.node (some ⟨[(26,.one (.bool))],[10,11,12,13,14,15,16,17,18,19,20,21,22,23,24,25,26]⟩) .leaf .leaf) .leaf) (.node none .leaf (.node none .leaf (.node none (.node none .leaf (.node none (.node (some ⟨[(47,.one (.int .i64))],[4,5,7,8,9,47,48,49,50,51,52,53,54,55,56,57,58,59,60,61,62,63,64,65,66,67,68,69,70,71,72]⟩) (.node none .leaf (.node none .leaf (.node none (.node none (.node none .leaf (.node none .leaf (.node none (.node (some ⟨[(71,.one (.bool))],[63,64,65,66,67,68,69,70,71]⟩) .leaf .leaf) .leaf))) .leaf) .leaf))) .leaf) .leaf)) .leaf)))))
theorem DLoad_eq(m:Option Addr)(wordsA:Option Addr)(wordsN:Nat)(wordsC:Nat)(R:aC)(w:World):Am m wordsA wordsN wordsC R w=vcF prog aL [] Tryz.f50 Ia [(.pointer m),(.slice wordsA wordsN wordsC)] R none w:=by kernel_rfl
theorem Ao(m:Option Addr)(wordsA:Option Addr)(wordsN:Nat)(wordsC:Nat) {R:aC} {w:World}(h:Am m wordsA wordsN wordsC R w):Calls prog 50 #[(.pointer m),(.slice wordsA wordsN wordsC)] w fun e w'=>∃v,e= .returned v∧R v w':=
 aj Tryz.func50 ar aa ((DLoad_eq m wordsA wordsN wordsC R w).mp h)
def vD(d:Option Addr)(R:aC)(w:World):Prop:=
 ∃b:Nat→Nat→Prop,
 au d fun p5=>
 b 3 ((p5.add 0).block)∧
 ∃x7:Option Addr,w.drew.cell? (p5.add 0)=some (.pointer x7)∧
 au d fun ZN=>
 b 8 ((ZN.add 1).block)∧
 ∃O5:Int,w.drew.cell? (ZN.add 1)=some (.int .i64 O5)∧
 au d fun RZ=>
 b 12 ((RZ.add 2).block)∧
 ∃Rp:Option Addr,∃O8:Nat,∃Ro:Nat,w.drew.cell? (RZ.add 2)=some (.slice Rp O8 Ro)∧
 (Calls prog 51 #[(.pointer x7)] w.drew fun e wv=>
  ∃x8:Option Addr,e= .returned (.pointer x8)∧
  Kept (bW b [0,5,6,7,8,9,10,11,12,13]) w.drew wv∧∃b1:Nat→Nat→Prop,(∀i k,b i k→b1 i k)∧
  ∃Qw:Option Addr,∃Qu:Nat,∃Qv:Nat,∃M5,(Instr.makeSlice 62 (.int .i64 ((O8:Nat):Int)) (.int .i64 ((O8:Nat):Int)):Sem Value).run prog wv= .ok (.slice Qw Qu Qv) M5∧
  Kept (bW b1 [0,1,2,3,4,5,6,7,8,9,10]) wv M5∧∃b2:Nat→Nat→Prop,(∀i k,b1 i k→b2 i k)∧
  ∀(gv:Nat)(M8:World),gv=M5.heap.size→M8=M5.alloc (.cells #[(.pointer x8),(.int .i64 O5),(.slice Qw Qu Qv)] 110)→
  Kept (bW b2 [0,1,2,5,6,9,10,11,12]) M5 M8∧∃b3:Nat→Nat→Prop,(∀i k,b2 i k→b3 i k)∧
  ∃b4:Nat→Nat→Prop,
  b4 3 (((Addr.mk gv 0 none).add 2).block)∧
  ∃PQ:Option Addr,∃PN:Nat,∃PO:Nat,M8.drew.cell? ((Addr.mk gv 0 none).add 2)=some (.slice PQ PN PO)∧
  au d fun Rg=>
  b4 7 ((Rg.add 2).block)∧
  ∃PM:Option Addr,∃PJ:Nat,∃PL:Nat,M8.drew.cell? (Rg.add 2)=some (.slice PM PJ PL)∧
  ∃OR:Int,∃Nb,(Builtin.copy_ #[62,62] 3 #[(.slice PQ PN PO),(.slice PM PJ PL)]:Sem Value).run prog M8.drew= .ok (.int .i64 OR) Nb∧
  Kept (bW b4 [0,4]) M8.drew Nb∧∃b5:Nat→Nat→Prop,(∀i k,b4 i k→b5 i k)∧
  R (.pointer (some (Addr.mk gv 0 none))) Nb)∧
 (∃Qw:Option Addr,∃Qu:Nat,∃Qv:Nat,∃wv,(Instr.makeSlice 62 (.int .i64 ((O8:Nat):Int)) (.int .i64 ((O8:Nat):Int)):Sem Value).run prog w.drew= .ok (.slice Qw Qu Qv) wv∧
  Kept (bW b [0,1,2,3,5,6,7,8,9,10]) w.drew wv∧∃b1:Nat→Nat→Prop,(∀i k,b i k→b1 i k)∧
  Calls prog 51 #[(.pointer x7)] wv fun e M5=>
  ∃x8:Option Addr,e= .returned (.pointer x8)∧
  Kept (bW b1 [0,5,6,7,8,9,10,11,12,13,14]) wv M5∧∃b2:Nat→Nat→Prop,(∀i k,b1 i k→b2 i k)∧
  ∀(gv:Nat)(M8:World),gv=M5.heap.size→M8=M5.alloc (.cells #[(.pointer x8),(.int .i64 O5),(.slice Qw Qu Qv)] 110)→
  Kept (bW b2 [0,1,2,5,6,9,10,11,12]) M5 M8∧∃b3:Nat→Nat→Prop,(∀i k,b2 i k→b3 i k)∧
  ∃b4:Nat→Nat→Prop,
  b4 3 (((Addr.mk gv 0 none).add 2).block)∧
  ∃PQ:Option Addr,∃PN:Nat,∃PO:Nat,M8.drew.cell? ((Addr.mk gv 0 none).add 2)=some (.slice PQ PN PO)∧
  au d fun Rg=>
  b4 7 ((Rg.add 2).block)∧
  ∃PM:Option Addr,∃PJ:Nat,∃PL:Nat,M8.drew.cell? (Rg.add 2)=some (.slice PM PJ PL)∧
  ∃OR:Int,∃Nb,(Builtin.copy_ #[62,62] 3 #[(.slice PQ PN PO),(.slice PM PJ PL)]:Sem Value).run prog M8.drew= .ok (.int .i64 OR) Nb∧
  Kept (bW b4 [0,4]) M8.drew Nb∧∃b5:Nat→Nat→Prop,(∀i k,b4 i k→b5 i k)∧
  R (.pointer (some (Addr.mk gv 0 none))) Nb)
def Fo:Ann:= .leaf
theorem DClone_eq(d:Option Addr)(R:aC)(w:World):vD d R w=vcF prog aL [] Tryz.f17 Fo [(.pointer d)] R none w:=by kernel_rfl
theorem xq(d:Option Addr) {R:aC} {w:World}(h:vD d R w):Calls prog 17 #[(.pointer d)] w fun e w'=>∃v,e= .returned v∧R v w':=
 aj Tryz.func17 ar aa ((DClone_eq d R w).mp h)
end
end Go.Proofs.YtinhphjfnedhgaaGreatDoor
namespace Go.Proofs.YtinhphjfnedhgaaGreatDoor
open Go.Proofs.Tryz (prog)
open Go Go.RowKit V
open Go.IntKind (i64 u32 u64)
namespace Mem
def dm(m:Mem):Nat→Mem
 | 0=>m
 | k+1=>(dm m k).zero true k
theorem Kk(m:Mem)(s:Bool)(p:Int):(m.zero s p).S=m.S:=by unfold zero;split<;>rfl
theorem Kl(m:Mem)(s:Bool)(p:Int):(m.zero s p).I=m.I:=by unfold zero;split<;>rfl
@[simp] theorem l6(m:Mem):∀k,(m.dm k).S=m.S
 | 0=>rfl
 | k+1=>by rw [dm,Kk,l6 m k]
@[simp] theorem Im(m:Mem):∀k,(m.dm k).I=m.I
 | 0=>rfl
 | k+1=>by rw [dm,Kl,Im m k]
theorem Ax(m:Mem) {p:Int}(h:0≤p∧p<9000000000000000000):m.dm (i64.wrap (p+1)).toNat=(m.dm p.toNat).zero true p:=by
 rw [aA (by omega),show(p+1).toNat=p.toNat+1 by omega,dm,show((p.toNat:Nat):Int)=p by omega]
end Mem
def DB.new(m:Mem):DB:=⟨m.dm m.S,0,fun _=>.free⟩
theorem DB.J6(m:Mem):(DB.new m).S=m.S:=m.l6 _
theorem DB.ju(m:Mem)(h:1≤m.S):(DB.new m).Ok:=⟨fun p hp=>⟨Ent.wq,by show(0:Int)<((DB.new m).S:Nat);rw [DB.J6];omega⟩,by show(0:Int)≤0∧(0:Int)≤64;omega⟩
def DB.ws(D:DB):List Int:=(List.range D.S).flatMap fun p=>[(D.ent p).w0,(D.ent p).w1]
theorem nL {α:Type}(f g:Nat→α):∀n,((List.range n).flatMap fun p=>[f p,g p]).length=2*n
 | 0=>rfl
 | n+1=>by rw [List.range_succ,List.flatMap_append,List.length_append,nL f g n];simp;omega
theorem l9 {α:Type}(f g:Nat→α):∀n i,i<2*n→((List.range n).flatMap fun p=>[f p,g p])[i]? =some (if i % 2=0 then f (i / 2)else g (i / 2))
 | 0,i,h=>by omega
 | n+1,i,h=>by
  rw [List.range_succ,List.flatMap_append]
  by_cases hi:i<2*n
  ·rw [List.getElem?_append_left (by rw [nL];exact hi),l9 f g n i hi]
  ·rw [List.getElem?_append_right (by rw [nL];omega),nL]
   by_cases h2:i=2*n
   ·subst h2
    have e1:2*n % 2=0:=by omega
    have e2:2*n / 2=n:=by omega
    simp [e1,e2]
   ·have:i=2*n+1:=by omega
    subst this
    have e1:(2*n+1) % 2=1:=by omega
    have e2:(2*n+1) / 2=n:=by omega
    simp [e1,e2]
theorem DB.jr(D:DB):D.ws.length=2*D.S:=nL _ _ _
theorem DB.words_eq(D:DB):D.words=D.ax::D.ws:=rfl
theorem DBP.ints {w:World} {L:fG} {D:DB}(h:DBP w L D):dw w (fun k=>k=L.a) .u32 (some (Addr.mk L.a 0 none)) D.n2 D.n2 D.ws:=by
 obtain⟨T,cs,hb,hs,hc⟩:=h.ws
 refine dw.blk (Z:=fun k=>k=L.a) (m:=0) hb rfl (Nat.le_refl _) (D.jr) fun j x hj=>?_
 have Pm:j<2*D.S:=by rw [← D.jr];exact(List.getElem?_eq_some_iff.1 hj).1
 have h2:=l9 (fun p=>(D.ent p).w0) (fun p=>(D.ent p).w1) D.S j Pm
 have h3:D.ws[j]? =_:=h2
 rw [hj]at h3
 injection h3 with h3
 have hp:=hc (j / 2) (by omega)
 rw [Nat.zero_add,h3]
 split
 ·have:=hp.1
  rwa [show 2*(j / 2)=j by omega]at this
 ·have:=hp.2
  rwa [show 2*(j / 2)+1=j by omega]at this
theorem DB.lay {D:DB} {n:Nat}(hn:n=1+2*D.S):jb ((List.replicate n 0).set 0 D.ax) 1 (D.ws.take (min (2*D.S) (n - 1)))=D.words:=by
 subst hn
 rw [List.take_of_length_le (by rw [D.jr];omega),show 1+2*D.S=(2*D.S)+1 by omega,List.replicate_succ,List.set_cons_zero]
 have:=r3 [D.ax] D.ws [] (List.replicate (2*D.S) 0) (by rw [D.jr];simp)
 simpa [D.words_eq]using this
theorem DB.ei(D:DB):D.words.length=1+2*D.S:=by rw [D.words_eq,List.length_cons,D.jr];omega
def DB.KL(D:DB)(s:Int)(n:Nat):List I64:=((List.range n).filter (D.bm s)).map fun(p:Nat)=>I64.mk (p:Int)
def DB.wd(l:List U32)(i:Nat):Int:=(l.getD i ⟨0⟩).v
def DB.load(m:Mem)(l:List U32):DB:=⟨m,DB.wd l 0,fun p=>Ent.dec (DB.wd l (1+2*p)) (DB.wd l (2+2*p))⟩
def DB.kV(m:Mem)(l:List U32)(p:Nat):Bool:=Ent.eZ (DB.wd l (1+2*p)) (DB.wd l (2+2*p))==0 && decide ((Ent.dec (DB.wd l (1+2*p)) (DB.wd l (2+2*p))).owner<m.S)
def DB.aw(m:Mem)(l:List U32):Int:=
 if l.length≠1+2*m.S then 110 else if DB.wd l 0>64 then 110 else if(List.range m.S).all (DB.kV m l)then 0 else 110
theorem DB.IV {m:Mem} {l:List U32}(hw:∀x∈l,0≤x.v∧x.v<4294967296)(h:DB.aw m l=0):(DB.load m l).Ok:=by
 unfold DB.aw at h
 split at h
 ·omega
 rename_i h1
 split at h
 ·omega
 rename_i h2
 split at h
 ·rename_i h3
  refine⟨fun p hp=>?_,?_⟩
  ·have hq:=List.all_eq_true.1 h3 p (List.mem_range.2 hp)
   simp only [DB.kV,Bool.and_eq_true,beq_iff_eq,decide_eq_true_eq]at hq
   exact⟨(Ent.gO hq.1).1,hq.2⟩
  ·have h0:0<l.length:=by omega
   have:=hw _ (List.getElem_mem h0)
   have e:DB.wd l 0=l[0].v:=by unfold DB.wd;rw [List.getD_eq_getElem?_getD,List.getElem?_eq_getElem h0];rfl
   show 0≤DB.wd l 0∧DB.wd l 0≤64
   rw [e]at h2 ⊢
   omega
 ·omega
theorem CF {n:Nat} {v:Value} {i:Nat}(h:i<n):(Array.replicate n v)[i]? =some v:=by simp [h]
section
set_option maxRecDepth 10000
set_option maxHeartbeats 1000000
theorem nY:S1 prog 62 29 (.int .u32 0) 4:=S1.of (by kernel_rfl) (by kernel_rfl) rfl
theorem Cz:SN prog 62 29 (.int .u32 0) 1 4:=nY.sn
theorem pX {w:World}(x:Int)(k:Int)(hk: -31≤k∧k≤ -1):
 Calls prog 200 #[(.int .u32 x),(.int .i64 k)] w fun e w'=>∃v,e= .returned v∧v= .int .u32 (n5 x (-k))∧Pu w w':=by
 refine kN _ _ ?_
 have hs:=LG hk
 have hp:=Ch.refl (fun _=>False) w
 rintro _ rfl
 refine rW (by(rw [hs];omega)) (rW (by(rw [IntKind.wrap_u64];omega)) ?_)
 exact⟨congrArg (Value.int .u32) (by rw [hs];exact rot_eq hk),hp⟩
theorem js {w:World}(wv:Int)(n:Int)(hn:1≤n∧n≤31):
 Calls prog 193 #[(.int .u32 wv),(.int .i64 n)] w fun e w'=>∃v,e= .returned v∧v= .int .u32 (n5 wv n)∧Pu w w':=by
 refine wP _ _ ?_
 have e0:i64.wrap (0 - n)= -n:=by rw [aA (by omega)];omega
 have hp:=Ch.refl (fun _=>False) w
 refine Calls.mono (pX _ _ (by rw [e0];omega)) ?_
 rintro e M5 ⟨_,rfl,rfl,Na⟩
 refine⟨_,rfl,?_⟩
 have hp:=Ch.pu hp Na
 exact⟨congrArg (Value.int .u32) (by rw [e0,Int.neg_neg]),hp⟩
theorem DW {w:World}(blocka:Int)(blockb:Int)(blockc:Int)(blockd:Int)(blocke:Int)(blockf:Int)(blockg:Int)(blockh:Int)(blocki:Int)(blockj:Int)(blockk:Int)(blockl:Int)(blockm:Int)(blockn:Int)(blocko:Int)(blockp:Int):
 Calls prog 192 #[(.agg #[(.int .u32 blocka),(.int .u32 blockb),(.int .u32 blockc),(.int .u32 blockd),(.int .u32 blocke),(.int .u32 blockf),(.int .u32 blockg),(.int .u32 blockh),(.int .u32 blocki),(.int .u32 blockj),(.int .u32 blockk),(.int .u32 blockl),(.int .u32 blockm),(.int .u32 blockn),(.int .u32 blocko),(.int .u32 blockp)])] w fun e w'=>∃v,e= .returned v∧v= .agg (bR (af [blocka,blockb,blockc,blockd,blocke,blockf,blockg,blockh,blocki,blockj,blockk,blockl,blockm,blockn,blocko,blockp] 48))∧Pu w w':=by
 refine qR _ _ _ _ _ _ _ _ _ _ _ _ _ _ _ _ ?_
 obtain⟨bb,PB⟩:∃bb,bb= [blocka,blockb,blockc,blockd,blocke,blockf,blockg,blockh,blocki,blockj,blockk,blockl,blockm,blockn,blocko,blockp]:=⟨_,rfl⟩
 have hB:bb.length=16:=by rw [PB];rfl
 have hp:=Ch.refl (fun _=>False) w
 refine mkd fun gv wv Nd=>?_
 have M3:=Nd.blk
 have hp:=Ch.made hp Nd
 refine mkd fun Nc M5 Nq=>?_
 have Ox:=Nq.lo hp
 have Oo:=Nq.ne M3
 have M7:Blk M5 Nc (bR (List.replicate 64 0)) _:=Nq.blk.cast (fH _ _)
 have hp:=Ch.made hp Nq
 have M3:=Made.old Nq M3
 refine mkd fun N8 M8 N0=>?_
 have QE:=N0.lo hp
 have Pj:=N0.ne M3
 have ne_gv1_gv2:=N0.ne M7
 have M9:Blk M8 N8 (bR (List.replicate 64 0)) _:=N0.blk.cast (fH _ _)
 refine⟨bXU [] [] M8.drew (fun _=>False),?_⟩
 rintro _ rfl _ rfl _ rfl
 rintro _ rfl _ rfl _ rfl
 have M9:=Blk.drew M9
 have M3:=Blk.drew (Made.old N0 M3)
 have M3:Blk M8.drew gv (bR [blocka,blockb,blockc,blockd,blocke,blockf,blockg,blockh,blocki,blockj,blockk,blockl,blockm,blockn,blocko,blockp]) _:=M3.cast (by rfl)
 refine oC nY M9 (o:=0) rfl (by(simp;done)) (dw.MK (Z:=fun _=>True) M3 trivial rfl (by(simp;done)) (by(simp;done)) (by(simp;done))) (by(simp;done)) fun Nb Nh=>?_
 have M9:=Nh.blk
 refine bXU.grow Nh.ch ?_
 rintro _ rfl
 have hp:=Ch.call (Ch.drew (Ch.made hp N0)) Nh.ch (by exact fun k e=>.inr (e▸QE))
 have M3:=Ch.blk Nh.ch M3 (Pj)
 have M7:=Ch.blk Nh.ch (Blk.drew (Made.old N0 M7)) (ne_gv1_gv2)
 refine⟨fun mz t1 W=>mz=(64 - t1).toNat∧(16≤t1∧t1≤64)∧Ch (fun _=>False) w W∧Blk W gv (bR ([blocka,blockb,blockc,blockd,blocke,blockf,blockg,blockh,blocki,blockj,blockk,blockl,blockm,blockn,blocko,blockp])) 262∧Blk W Nc (bR (List.replicate 64 0)) 287∧Blk W N8 (bR (af bb (t1.toNat - 16))) 287,⟨_,rfl,(by omega),hp,M3,M7,M9.cast (congrArg bR (by subst PB;rfl))⟩,?_⟩
 rintro _ _ t1 Nf ⟨rfl,h0,hp,M3,M7,M9⟩
 refine aq (fun c1=>?_) (fun c1=>?_)
 ·refine⟨by(simp only [IntKind.wrap_i64];omega),?_⟩
  have M9:=Blk.drew M9
  refine⟨_,M9.so (i:=(i64.wrap (t1 - 15))) (by(rw [cZ hB];simp only [IntKind.wrap_i64];omega)),⟨by(simp only [IntKind.wrap_i64];omega),⟨_,M9.so (i:=(i64.wrap (t1 - 2))) (by(rw [cZ hB];simp only [IntKind.wrap_i64];omega)),?_⟩⟩⟩
  refine⟨bXU [4,17] [] Nf.drew.drew (fun _=>False),?_⟩
  have M9:=Blk.drew M9
  refine⟨by(simp only [IntKind.wrap_i64];omega),⟨.inr ⟨by decide,bX.ld M9 (fun h=>h) _⟩,_,M9.so (i:=(i64.wrap (t1 - 16))) (by(rw [cZ hB];simp only [IntKind.wrap_i64];omega)),⟨by(simp only [IntKind.wrap_i64];omega),⟨.inr ⟨by decide,bX.ld M9 (fun h=>h) _⟩,_,M9.so (i:=(i64.wrap (t1 - 7))) (by(rw [cZ hB];simp only [IntKind.wrap_i64];omega)),?_⟩⟩⟩⟩
  refine Calls.mono (js _ _ (by omega)) ?_
  rintro e Np ⟨_,rfl,rfl,ND⟩
  refine⟨_,rfl,?_⟩
  refine bXU.eW ND (by decide) ?_
  refine Calls.mono (js _ _ (by omega)) ?_
  rintro e NK ⟨_,rfl,rfl,NC⟩
  refine⟨_,rfl,?_⟩
  refine bXU.eW NC (by decide) ?_
  refine Calls.mono (js _ _ (by omega)) ?_
  rintro e NG ⟨_,rfl,rfl,Nx⟩
  refine⟨_,rfl,?_⟩
  refine bXU.eW Nx (by decide) ?_
  refine Calls.mono (js _ _ (by omega)) ?_
  rintro e Nk ⟨_,rfl,rfl,Nw⟩
  refine⟨_,rfl,?_⟩
  refine bXU.eW Nw (by decide) ?_
  have M9:=Pu.blk Nw (Pu.blk Nx (Pu.blk NC (Pu.blk ND M9)))
  refine⟨by omega,AF M9 (by(rw [cZ hB];omega)) fun Ol QY=>?_⟩
  have M9:=QY.blk
  refine bXU.grow QY.ch ?_
  rintro _ rfl
  have hp:=Ch.call (Ch.pu (Ch.pu (Ch.pu (Ch.pu (Ch.drew (Ch.drew hp)) ND) NC) Nx) Nw) QY.ch (by exact fun k e=>.inr (e▸QE))
  have M3:=Ch.blk QY.ch (Pu.blk Nw (Pu.blk Nx (Pu.blk NC (Pu.blk ND (Blk.drew (Blk.drew M3)))))) (Pj)
  have M7:=Ch.blk QY.ch (Pu.blk Nw (Pu.blk Nx (Pu.blk NC (Pu.blk ND (Blk.drew (Blk.drew M7)))))) (ne_gv1_gv2)
  exact⟨_,by rw [IntKind.wrap_i64];omega,rfl,by rw [IntKind.wrap_i64];omega,hp,M3,M7,M9.cast (congrArg bR (by exact xL (by omega)))⟩
 ·refine⟨bR (af bb (t1.toNat - 16)),M9.vM (by(simp [cZ hB];done)),⟨by rw [eT];(simp [cZ hB];done),nZ,pw M7 (by(simp [cZ hB];done)) fun Np OM=>?_⟩⟩
  have M7:=OM.blk
  refine⟨bR (af bb (t1.toNat - 16)),M7.vM (by(simp [cZ hB];done)),?_⟩
  have hp:=Ch.call hp OM.ch (by exact fun k e=>.inr (e▸Ox))
  exact⟨congrArg (fun l=>Value.agg (bR l)) (by have:t1=64:=(by omega);subst this;rw [← PB];rfl),hp⟩
theorem F1 {K:List Int} {w:World}(hk:kX w 0 K)(statea:Int)(stateb:Int)(statec:Int)(stated:Int)(statee:Int)(statef:Int)(stateg:Int)(stateh:Int)(blocka:Int)(blockb:Int)(blockc:Int)(blockd:Int)(blocke:Int)(blockf:Int)(blockg:Int)(blockh:Int)(blocki:Int)(blockj:Int)(blockk:Int)(blockl:Int)(blockm:Int)(blockn:Int)(blocko:Int)(blockp:Int):
 Calls prog 175 #[(.agg #[(.int .u32 statea),(.int .u32 stateb),(.int .u32 statec),(.int .u32 stated),(.int .u32 statee),(.int .u32 statef),(.int .u32 stateg),(.int .u32 stateh)]),(.agg #[(.int .u32 blocka),(.int .u32 blockb),(.int .u32 blockc),(.int .u32 blockd),(.int .u32 blocke),(.int .u32 blockf),(.int .u32 blockg),(.int .u32 blockh),(.int .u32 blocki),(.int .u32 blockj),(.int .u32 blockk),(.int .u32 blockl),(.int .u32 blockm),(.int .u32 blockn),(.int .u32 blocko),(.int .u32 blockp)])] w fun e w'=>∃v,e= .returned v∧v= .agg #[(.int .u32 ((jd K (S8.mk statea stateb statec stated statee statef stateg stateh) [blocka,blockb,blockc,blockd,blocke,blockf,blockg,blockh,blocki,blockj,blockk,blockl,blockm,blockn,blocko,blockp]).a)),(.int .u32 ((jd K (S8.mk statea stateb statec stated statee statef stateg stateh) [blocka,blockb,blockc,blockd,blocke,blockf,blockg,blockh,blocki,blockj,blockk,blockl,blockm,blockn,blocko,blockp]).b)),(.int .u32 ((jd K (S8.mk statea stateb statec stated statee statef stateg stateh) [blocka,blockb,blockc,blockd,blocke,blockf,blockg,blockh,blocki,blockj,blockk,blockl,blockm,blockn,blocko,blockp]).c)),(.int .u32 ((jd K (S8.mk statea stateb statec stated statee statef stateg stateh) [blocka,blockb,blockc,blockd,blocke,blockf,blockg,blockh,blocki,blockj,blockk,blockl,blockm,blockn,blocko,blockp]).d)),(.int .u32 ((jd K (S8.mk statea stateb statec stated statee statef stateg stateh) [blocka,blockb,blockc,blockd,blocke,blockf,blockg,blockh,blocki,blockj,blockk,blockl,blockm,blockn,blocko,blockp]).e)),(.int .u32 ((jd K (S8.mk statea stateb statec stated statee statef stateg stateh) [blocka,blockb,blockc,blockd,blocke,blockf,blockg,blockh,blocki,blockj,blockk,blockl,blockm,blockn,blocko,blockp]).f)),(.int .u32 ((jd K (S8.mk statea stateb statec stated statee statef stateg stateh) [blocka,blockb,blockc,blockd,blocke,blockf,blockg,blockh,blocki,blockj,blockk,blockl,blockm,blockn,blocko,blockp]).g)),(.int .u32 ((jd K (S8.mk statea stateb statec stated statee statef stateg stateh) [blocka,blockb,blockc,blockd,blocke,blockf,blockg,blockh,blocki,blockj,blockk,blockl,blockm,blockn,blocko,blockp]).h))]∧Pu w w':=by
 refine wR _ _ _ _ _ _ _ _ _ _ _ _ _ _ _ _ _ _ _ _ _ _ _ _ ?_
 obtain⟨bb,PB⟩:∃bb,bb= [blocka,blockb,blockc,blockd,blocke,blockf,blockg,blockh,blocki,blockj,blockk,blockl,blockm,blockn,blocko,blockp]:=⟨_,rfl⟩
 have hB:bb.length=16:=by rw [PB];rfl
 obtain⟨ss,PE⟩:∃ss,ss=(S8.mk statea stateb statec stated statee statef stateg stateh):=⟨_,rfl⟩
 have hp:=Ch.refl (fun _=>False) w
 have ON:=hk.lt
 refine mkd fun gv wv Nd=>?_
 have M3:=Nd.blk
 refine mkd fun Nc M5 Nq=>?_
 have M7:=Nq.blk
 have hp:=Ch.made (Ch.made hp Nd) Nq
 have M3:=Made.old Nq M3
 refine mkd fun N8 M8 N0=>?_
 have QE:=N0.lo hp
 have Pj:=N0.ne M3
 have ne_gv1_gv2:=N0.ne M7
 have M9:=N0.blk
 have M3:=Made.old N0 M3
 refine⟨_,_,_,_,_,_,_,_,⟨M3.at rfl,M3.at rfl,M3.at rfl,M3.at rfl,M3.at rfl,M3.at rfl,M3.at rfl,M3.at rfl⟩,?_⟩
 have hp:=Ch.made hp N0
 have M7:=Made.old N0 M7
 refine mkd fun No Nb Od=>?_
 have Nr:=Od.lo hp
 have Nt:=Od.ne M3
 have ne_gv1_gv3:=Od.ne M7
 have ne_gv2_gv3:=Od.ne M9
 have M4:=Od.blk
 refine fX M4 rfl fun Nf Nl=>?_
 have M4:=Nl.blk
 have M7:=Ch.blk Nl.ch (Made.old Od M7) (ne_gv1_gv3)
 refine⟨_,_,_,_,_,_,_,_,_,_,_,_,_,_,_,_,⟨M7.at rfl,M7.at rfl,M7.at rfl,M7.at rfl,M7.at rfl,M7.at rfl,M7.at rfl,M7.at rfl,M7.at rfl,M7.at rfl,M7.at rfl,M7.at rfl,M7.at rfl,M7.at rfl,M7.at rfl,M7.at rfl⟩,?_⟩
 refine Calls.mono (DW _ _ _ _ _ _ _ _ _ _ _ _ _ _ _ _) ?_
 rintro e Np ⟨_,rfl,rfl,ND⟩
 refine⟨_,rfl,?_⟩
 have hp:=Ch.pu (Ch.call (Ch.made hp Od) Nl.ch (by exact fun k e=>.inr (e▸Nr))) ND
 have hk:=(((((hk.pu Nd.pu).pu Nq.pu).pu N0.pu).pu Od.pu).ch Nl.ch (fun k hx e=>(fun hx=>absurd (ON _ hx) (Nat.not_lt.2 Nr)) (e▸hx))).pu ND
 have M3:=Pu.blk ND (Ch.blk Nl.ch (Made.old Od M3) (Nt))
 have M7:=Pu.blk ND M7
 have M9:=Pu.blk ND (Ch.blk Nl.ch (Made.old Od M9) (ne_gv2_gv3))
 have M4:=Pu.blk ND M4
 refine⟨fun mz NV W=>mz=(64 - NV).toNat∧(0≤NV∧NV≤64)∧Ch (fun _=>False) w W∧kX W 0 K∧Blk W gv #[(.int .u32 statea),(.int .u32 stateb),(.int .u32 statec),(.int .u32 stated),(.int .u32 statee),(.int .u32 statef),(.int .u32 stateg),(.int .u32 stateh)] 66∧Blk W Nc #[(.int .u32 blocka),(.int .u32 blockb),(.int .u32 blockc),(.int .u32 blockd),(.int .u32 blocke),(.int .u32 blockf),(.int .u32 blockg),(.int .u32 blockh),(.int .u32 blocki),(.int .u32 blockj),(.int .u32 blockk),(.int .u32 blockl),(.int .u32 blockm),(.int .u32 blockn),(.int .u32 blocko),(.int .u32 blockp)] 262∧Blk W N8 #[(.int .u32 0),(.int .u32 0),(.int .u32 0),(.int .u32 0),(.int .u32 0),(.int .u32 0),(.int .u32 0),(.int .u32 0)] 66∧Blk W No #[(.int .u32 ((aI K (af bb 48) ss NV.toNat).a)),(.int .u32 ((aI K (af bb 48) ss NV.toNat).b)),(.int .u32 ((aI K (af bb 48) ss NV.toNat).c)),(.int .u32 ((aI K (af bb 48) ss NV.toNat).d)),(.int .u32 ((aI K (af bb 48) ss NV.toNat).e)),(.int .u32 ((aI K (af bb 48) ss NV.toNat).f)),(.int .u32 ((aI K (af bb 48) ss NV.toNat).g)),(.int .u32 ((aI K (af bb 48) ss NV.toNat).h))] 66,⟨_,rfl,(by omega),hp,hk,M3,M7,M9,M4.cast (Jg (congrArg (Value.int .u32) (by subst PE;rfl)) (congrArg (Value.int .u32) (by subst PE;rfl)) (congrArg (Value.int .u32) (by subst PE;rfl)) (congrArg (Value.int .u32) (by subst PE;rfl)) (congrArg (Value.int .u32) (by subst PE;rfl)) (congrArg (Value.int .u32) (by subst PE;rfl)) (congrArg (Value.int .u32) (by subst PE;rfl)) (congrArg (Value.int .u32) (by subst PE;rfl)))⟩,?_⟩
 rintro _ _ NV NK ⟨rfl,h0,hp,hk,M3,M7,M9,M4⟩
 refine aq (fun c1=>?_) (fun c1=>?_)
 ·refine⟨by omega,⟨_,xM (l:=(af [blocka,blockb,blockc,blockd,blocke,blockf,blockg,blockh,blocki,blockj,blockk,blockl,blockm,blockn,blocko,blockp] 48)) (i:=NV) (by(rw [cZ rfl];omega)),⟨by decide,?_⟩⟩⟩
  have M4:=Blk.drew M4
  refine⟨_,M4.at rfl,⟨by decide,⟨_,M4.at rfl,?_⟩⟩⟩
  refine⟨bXU [1,13,18,24] [] NK.drew.drew (fun _=>False),?_⟩
  have M4:=Blk.drew M4
  have hk:=(hk.pu (Pu.aU _)).pu (Pu.aU _)
  obtain⟨_,drow_hk⟩:=hk.blk
  refine⟨by decide,⟨.inr ⟨by decide,bX.ld M4 (fun h=>h) _⟩,_,M4.at rfl,⟨by decide,⟨.inr ⟨by decide,bX.ld M4 (fun h=>h) _⟩,_,M4.at rfl,⟨by decide,⟨.inr ⟨by decide,bX.ld M4 (fun h=>h) _⟩,_,M4.at rfl,⟨by omega,⟨.inr ⟨by decide,bX.ld drow_hk (fun h=>h) _⟩,_,drow_hk.so (i:=NV) (by(have h9:=hk.len;omega)),?_⟩⟩⟩⟩⟩⟩⟩⟩
  refine Calls.mono (js _ _ (by omega)) ?_
  rintro e NG ⟨_,rfl,rfl,Nx⟩
  refine⟨_,rfl,?_⟩
  refine bXU.eW Nx (by decide) ?_
  refine Calls.mono (js _ _ (by omega)) ?_
  rintro e Nk ⟨_,rfl,rfl,Nw⟩
  refine⟨_,rfl,?_⟩
  refine bXU.eW Nw (by decide) ?_
  refine Calls.mono (js _ _ (by omega)) ?_
  rintro e Ol ⟨_,rfl,rfl,On⟩
  refine⟨_,rfl,?_⟩
  refine bXU.eW On (by decide) ?_
  rintro _ rfl
  refine⟨bXU [10,14,18,20] [] Ol.drew (fun _=>False),?_⟩
  have M4:=Blk.drew (Pu.blk On (Pu.blk Nw (Pu.blk Nx M4)))
  refine⟨by decide,⟨.inr ⟨by decide,bX.ld M4 (fun h=>h) _⟩,_,M4.at rfl,⟨by decide,⟨.inr ⟨by decide,bX.ld M4 (fun h=>h) _⟩,_,M4.at rfl,⟨by decide,⟨.inr ⟨by decide,bX.ld M4 (fun h=>h) _⟩,_,M4.at rfl,⟨by decide,⟨.inr ⟨by decide,bX.ld M4 (fun h=>h) _⟩,_,M4.at rfl,?_⟩⟩⟩⟩⟩⟩⟩⟩
  refine Calls.mono (js _ _ (by omega)) ?_
  rintro e QC ⟨_,rfl,rfl,O1⟩
  refine⟨_,rfl,?_⟩
  refine bXU.eW O1 (by decide) ?_
  refine Calls.mono (js _ _ (by omega)) ?_
  rintro e T9 ⟨_,rfl,rfl,O0⟩
  refine⟨_,rfl,?_⟩
  refine bXU.eW O0 (by decide) ?_
  refine Calls.mono (js _ _ (by omega)) ?_
  rintro e Qd ⟨_,rfl,rfl,OZ⟩
  refine⟨_,rfl,?_⟩
  refine bXU.eW OZ (by decide) ?_
  rintro _ rfl
  have M4:=Pu.blk OZ (Pu.blk O0 (Pu.blk O1 M4))
  refine⟨by decide,⟨_,M4.at rfl,⟨by decide,⟨_,M4.at rfl,⟨by decide,⟨_,M4.at rfl,⟨by decide,⟨_,M4.at rfl,⟨by decide,⟨_,M4.at rfl,⟨by decide,⟨_,M4.at rfl,⟨by decide,⟨_,M4.at rfl,fX M4 rfl fun ZG Ph=>?_⟩⟩⟩⟩⟩⟩⟩⟩⟩⟩⟩⟩⟩⟩
  have M4:=Ph.blk
  have hp:=Ch.call (Ch.pu (Ch.pu (Ch.pu (Ch.drew (Ch.pu (Ch.pu (Ch.pu (Ch.drew (Ch.drew hp)) Nx) Nw) On)) O1) O0) OZ) Ph.ch (by exact fun k e=>.inr (e▸Nr))
  have hk:=(((((((hk.pu Nx).pu Nw).pu On).pu (Pu.aU _)).pu O1).pu O0).pu OZ).ch Ph.ch (fun k hx e=>(fun hx=>absurd (ON _ hx) (Nat.not_lt.2 Nr)) (e▸hx))
  have M3:=Ch.blk Ph.ch (Pu.blk OZ (Pu.blk O0 (Pu.blk O1 (Blk.drew (Pu.blk On (Pu.blk Nw (Pu.blk Nx (Blk.drew (Blk.drew M3))))))))) (Nt)
  have M7:=Ch.blk Ph.ch (Pu.blk OZ (Pu.blk O0 (Pu.blk O1 (Blk.drew (Pu.blk On (Pu.blk Nw (Pu.blk Nx (Blk.drew (Blk.drew M7))))))))) (ne_gv1_gv3)
  have M9:=Ch.blk Ph.ch (Pu.blk OZ (Pu.blk O0 (Pu.blk O1 (Blk.drew (Pu.blk On (Pu.blk Nw (Pu.blk Nx (Blk.drew (Blk.drew M9))))))))) (ne_gv2_gv3)
  exact⟨_,by rw [IntKind.wrap_i64];omega,rfl,by rw [IntKind.wrap_i64];omega,hp,hk,M3,M7,M9,M4.cast (Jg (congrArg (Value.int .u32) (by rw [fy (by omega),PB];rfl)) (congrArg (Value.int .u32) (by rw [fy (by omega),PB];rfl)) (congrArg (Value.int .u32) (by rw [fy (by omega),PB];rfl)) (congrArg (Value.int .u32) (by rw [fy (by omega),PB];rfl)) (congrArg (Value.int .u32) (by rw [fy (by omega),PB];rfl)) (congrArg (Value.int .u32) (by rw [fy (by omega),PB];rfl)) (congrArg (Value.int .u32) (by rw [fy (by omega),PB];rfl)) (congrArg (Value.int .u32) (by rw [fy (by omega),PB];rfl)))⟩
 ·have e64:NV.toNat=64:=by omega
  rw [e64]at M4
  refine⟨fun mz Pt W=>Ch (fun _=>False) w W∧kX W 0 K∧(∃T,Blk W gv #[(.int .u32 statea),(.int .u32 stateb),(.int .u32 statec),(.int .u32 stated),(.int .u32 statee),(.int .u32 statef),(.int .u32 stateg),(.int .u32 stateh)] T)∧(∃T,Blk W Nc #[(.int .u32 blocka),(.int .u32 blockb),(.int .u32 blockc),(.int .u32 blockd),(.int .u32 blocke),(.int .u32 blockf),(.int .u32 blockg),(.int .u32 blockh),(.int .u32 blocki),(.int .u32 blockj),(.int .u32 blockk),(.int .u32 blockl),(.int .u32 blockm),(.int .u32 blockn),(.int .u32 blocko),(.int .u32 blockp)] T)∧(∃T,Blk W N8 #[(.int .u32 0),(.int .u32 0),(.int .u32 0),(.int .u32 0),(.int .u32 0),(.int .u32 0),(.int .u32 0),(.int .u32 0)] T)∧((mz=8∧Pt=0∧(∃T,Blk W No #[(.int .u32 ((aI K (af bb 48) ss 64).a)),(.int .u32 ((aI K (af bb 48) ss 64).b)),(.int .u32 ((aI K (af bb 48) ss 64).c)),(.int .u32 ((aI K (af bb 48) ss 64).d)),(.int .u32 ((aI K (af bb 48) ss 64).e)),(.int .u32 ((aI K (af bb 48) ss 64).f)),(.int .u32 ((aI K (af bb 48) ss 64).g)),(.int .u32 ((aI K (af bb 48) ss 64).h))] T))∨(mz=7∧Pt=1∧(∃T,Blk W No #[(.int .u32 (bF (aI K (af bb 48) ss 64).a statea)),(.int .u32 ((aI K (af bb 48) ss 64).b)),(.int .u32 ((aI K (af bb 48) ss 64).c)),(.int .u32 ((aI K (af bb 48) ss 64).d)),(.int .u32 ((aI K (af bb 48) ss 64).e)),(.int .u32 ((aI K (af bb 48) ss 64).f)),(.int .u32 ((aI K (af bb 48) ss 64).g)),(.int .u32 ((aI K (af bb 48) ss 64).h))] T))∨(mz=6∧Pt=2∧(∃T,Blk W No #[(.int .u32 (bF (aI K (af bb 48) ss 64).a statea)),(.int .u32 (bF (aI K (af bb 48) ss 64).b stateb)),(.int .u32 ((aI K (af bb 48) ss 64).c)),(.int .u32 ((aI K (af bb 48) ss 64).d)),(.int .u32 ((aI K (af bb 48) ss 64).e)),(.int .u32 ((aI K (af bb 48) ss 64).f)),(.int .u32 ((aI K (af bb 48) ss 64).g)),(.int .u32 ((aI K (af bb 48) ss 64).h))] T))∨(mz=5∧Pt=3∧(∃T,Blk W No #[(.int .u32 (bF (aI K (af bb 48) ss 64).a statea)),(.int .u32 (bF (aI K (af bb 48) ss 64).b stateb)),(.int .u32 (bF (aI K (af bb 48) ss 64).c statec)),(.int .u32 ((aI K (af bb 48) ss 64).d)),(.int .u32 ((aI K (af bb 48) ss 64).e)),(.int .u32 ((aI K (af bb 48) ss 64).f)),(.int .u32 ((aI K (af bb 48) ss 64).g)),(.int .u32 ((aI K (af bb 48) ss 64).h))] T))∨(mz=4∧Pt=4∧(∃T,Blk W No #[(.int .u32 (bF (aI K (af bb 48) ss 64).a statea)),(.int .u32 (bF (aI K (af bb 48) ss 64).b stateb)),(.int .u32 (bF (aI K (af bb 48) ss 64).c statec)),(.int .u32 (bF (aI K (af bb 48) ss 64).d stated)),(.int .u32 ((aI K (af bb 48) ss 64).e)),(.int .u32 ((aI K (af bb 48) ss 64).f)),(.int .u32 ((aI K (af bb 48) ss 64).g)),(.int .u32 ((aI K (af bb 48) ss 64).h))] T))∨(mz=3∧Pt=5∧(∃T,Blk W No #[(.int .u32 (bF (aI K (af bb 48) ss 64).a statea)),(.int .u32 (bF (aI K (af bb 48) ss 64).b stateb)),(.int .u32 (bF (aI K (af bb 48) ss 64).c statec)),(.int .u32 (bF (aI K (af bb 48) ss 64).d stated)),(.int .u32 (bF (aI K (af bb 48) ss 64).e statee)),(.int .u32 ((aI K (af bb 48) ss 64).f)),(.int .u32 ((aI K (af bb 48) ss 64).g)),(.int .u32 ((aI K (af bb 48) ss 64).h))] T))∨(mz=2∧Pt=6∧(∃T,Blk W No #[(.int .u32 (bF (aI K (af bb 48) ss 64).a statea)),(.int .u32 (bF (aI K (af bb 48) ss 64).b stateb)),(.int .u32 (bF (aI K (af bb 48) ss 64).c statec)),(.int .u32 (bF (aI K (af bb 48) ss 64).d stated)),(.int .u32 (bF (aI K (af bb 48) ss 64).e statee)),(.int .u32 (bF (aI K (af bb 48) ss 64).f statef)),(.int .u32 ((aI K (af bb 48) ss 64).g)),(.int .u32 ((aI K (af bb 48) ss 64).h))] T))∨(mz=1∧Pt=7∧(∃T,Blk W No #[(.int .u32 (bF (aI K (af bb 48) ss 64).a statea)),(.int .u32 (bF (aI K (af bb 48) ss 64).b stateb)),(.int .u32 (bF (aI K (af bb 48) ss 64).c statec)),(.int .u32 (bF (aI K (af bb 48) ss 64).d stated)),(.int .u32 (bF (aI K (af bb 48) ss 64).e statee)),(.int .u32 (bF (aI K (af bb 48) ss 64).f statef)),(.int .u32 (bF (aI K (af bb 48) ss 64).g stateg)),(.int .u32 ((aI K (af bb 48) ss 64).h))] T))∨(mz=0∧Pt=8∧(∃T,Blk W No #[(.int .u32 (bF (aI K (af bb 48) ss 64).a statea)),(.int .u32 (bF (aI K (af bb 48) ss 64).b stateb)),(.int .u32 (bF (aI K (af bb 48) ss 64).c statec)),(.int .u32 (bF (aI K (af bb 48) ss 64).d stated)),(.int .u32 (bF (aI K (af bb 48) ss 64).e statee)),(.int .u32 (bF (aI K (af bb 48) ss 64).f statef)),(.int .u32 (bF (aI K (af bb 48) ss 64).g stateg)),(.int .u32 (bF (aI K (af bb 48) ss 64).h stateh))] T))),⟨_,hp,hk,⟨_,M3⟩,⟨_,M7⟩,⟨_,M9⟩,.inl ⟨rfl,rfl,⟨_,M4⟩⟩⟩,?_⟩
  rintro _ _ Pt NG ⟨hp,hk,⟨_,M3⟩,⟨_,M7⟩,⟨_,M9⟩,hU⟩
  rcases hU with⟨rfl,rfl,⟨_,M4⟩⟩ | ⟨rfl,rfl,⟨_,M4⟩⟩ | ⟨rfl,rfl,⟨_,M4⟩⟩ | ⟨rfl,rfl,⟨_,M4⟩⟩ | ⟨rfl,rfl,⟨_,M4⟩⟩ | ⟨rfl,rfl,⟨_,M4⟩⟩ | ⟨rfl,rfl,⟨_,M4⟩⟩ | ⟨rfl,rfl,⟨_,M4⟩⟩ | ⟨rfl,rfl,⟨_,M4⟩⟩
  ·refine dV ?_
   refine⟨bXU [] [2,5] NG.drew (fun _=>False),?_⟩
   have M4:=Blk.drew M4
   have M3:=Blk.drew M3
   refine⟨by decide,⟨.inl (by decide),_,M4.at rfl,⟨by decide,⟨.inl (by decide),_,M3.at rfl,⟨by decide,bZ M4 (by simp) fun Nk M6=>?_⟩⟩⟩⟩⟩
   have M4:Blk Nk No #[_,(.int .u32 ((aI K (af bb 48) ss 64).b)),(.int .u32 ((aI K (af bb 48) ss 64).c)),(.int .u32 ((aI K (af bb 48) ss 64).d)),(.int .u32 ((aI K (af bb 48) ss 64).e)),(.int .u32 ((aI K (af bb 48) ss 64).f)),(.int .u32 ((aI K (af bb 48) ss 64).g)),(.int .u32 ((aI K (af bb 48) ss 64).h))] _:=M6.blk
   refine bXU.grow M6.ch ?_
   have hp:=Ch.call (Ch.drew hp) M6.ch (by exact fun k e=>.inr (e▸Nr))
   have hk:=(hk.pu (Pu.aU _)).ch M6.ch (fun k hx e=>(fun hx=>absurd (ON _ hx) (Nat.not_lt.2 Nr)) (e▸hx))
   have M3:=Ch.blk M6.ch M3 (Nt)
   have M7:=Ch.blk M6.ch (Blk.drew M7) (ne_gv1_gv3)
   have M9:=Ch.blk M6.ch (Blk.drew M9) (ne_gv2_gv3)
   exact⟨7,by decide,hp,hk,⟨_,M3⟩,⟨_,M7⟩,⟨_,M9⟩,.inr (.inl ⟨rfl,rfl,⟨_,M4⟩⟩)⟩
  ·refine dV ?_
   refine⟨bXU [] [2,5] NG.drew (fun _=>False),?_⟩
   have M4:=Blk.drew M4
   have M3:=Blk.drew M3
   refine⟨by decide,⟨.inl (by decide),_,M4.at rfl,⟨by decide,⟨.inl (by decide),_,M3.at rfl,⟨by decide,bZ M4 (by simp) fun Nk M6=>?_⟩⟩⟩⟩⟩
   have M4:Blk Nk No #[(.int .u32 (bF (aI K (af bb 48) ss 64).a statea)),_,(.int .u32 ((aI K (af bb 48) ss 64).c)),(.int .u32 ((aI K (af bb 48) ss 64).d)),(.int .u32 ((aI K (af bb 48) ss 64).e)),(.int .u32 ((aI K (af bb 48) ss 64).f)),(.int .u32 ((aI K (af bb 48) ss 64).g)),(.int .u32 ((aI K (af bb 48) ss 64).h))] _:=M6.blk
   refine bXU.grow M6.ch ?_
   have hp:=Ch.call (Ch.drew hp) M6.ch (by exact fun k e=>.inr (e▸Nr))
   have hk:=(hk.pu (Pu.aU _)).ch M6.ch (fun k hx e=>(fun hx=>absurd (ON _ hx) (Nat.not_lt.2 Nr)) (e▸hx))
   have M3:=Ch.blk M6.ch M3 (Nt)
   have M7:=Ch.blk M6.ch (Blk.drew M7) (ne_gv1_gv3)
   have M9:=Ch.blk M6.ch (Blk.drew M9) (ne_gv2_gv3)
   exact⟨6,by decide,hp,hk,⟨_,M3⟩,⟨_,M7⟩,⟨_,M9⟩,.inr (.inr (.inl ⟨rfl,rfl,⟨_,M4⟩⟩))⟩
  ·refine dV ?_
   refine⟨bXU [] [2,5] NG.drew (fun _=>False),?_⟩
   have M4:=Blk.drew M4
   have M3:=Blk.drew M3
   refine⟨by decide,⟨.inl (by decide),_,M4.at rfl,⟨by decide,⟨.inl (by decide),_,M3.at rfl,⟨by decide,bZ M4 (by simp) fun Nk M6=>?_⟩⟩⟩⟩⟩
   have M4:Blk Nk No #[(.int .u32 (bF (aI K (af bb 48) ss 64).a statea)),(.int .u32 (bF (aI K (af bb 48) ss 64).b stateb)),_,(.int .u32 ((aI K (af bb 48) ss 64).d)),(.int .u32 ((aI K (af bb 48) ss 64).e)),(.int .u32 ((aI K (af bb 48) ss 64).f)),(.int .u32 ((aI K (af bb 48) ss 64).g)),(.int .u32 ((aI K (af bb 48) ss 64).h))] _:=M6.blk
   refine bXU.grow M6.ch ?_
   have hp:=Ch.call (Ch.drew hp) M6.ch (by exact fun k e=>.inr (e▸Nr))
   have hk:=(hk.pu (Pu.aU _)).ch M6.ch (fun k hx e=>(fun hx=>absurd (ON _ hx) (Nat.not_lt.2 Nr)) (e▸hx))
   have M3:=Ch.blk M6.ch M3 (Nt)
   have M7:=Ch.blk M6.ch (Blk.drew M7) (ne_gv1_gv3)
   have M9:=Ch.blk M6.ch (Blk.drew M9) (ne_gv2_gv3)
   exact⟨5,by decide,hp,hk,⟨_,M3⟩,⟨_,M7⟩,⟨_,M9⟩,.inr (.inr (.inr (.inl ⟨rfl,rfl,⟨_,M4⟩⟩)))⟩
  ·refine dV ?_
   refine⟨bXU [] [2,5] NG.drew (fun _=>False),?_⟩
   have M4:=Blk.drew M4
   have M3:=Blk.drew M3
   refine⟨by decide,⟨.inl (by decide),_,M4.at rfl,⟨by decide,⟨.inl (by decide),_,M3.at rfl,⟨by decide,bZ M4 (by simp) fun Nk M6=>?_⟩⟩⟩⟩⟩
   have M4:Blk Nk No #[(.int .u32 (bF (aI K (af bb 48) ss 64).a statea)),(.int .u32 (bF (aI K (af bb 48) ss 64).b stateb)),(.int .u32 (bF (aI K (af bb 48) ss 64).c statec)),_,(.int .u32 ((aI K (af bb 48) ss 64).e)),(.int .u32 ((aI K (af bb 48) ss 64).f)),(.int .u32 ((aI K (af bb 48) ss 64).g)),(.int .u32 ((aI K (af bb 48) ss 64).h))] _:=M6.blk
   refine bXU.grow M6.ch ?_
   have hp:=Ch.call (Ch.drew hp) M6.ch (by exact fun k e=>.inr (e▸Nr))
   have hk:=(hk.pu (Pu.aU _)).ch M6.ch (fun k hx e=>(fun hx=>absurd (ON _ hx) (Nat.not_lt.2 Nr)) (e▸hx))
   have M3:=Ch.blk M6.ch M3 (Nt)
   have M7:=Ch.blk M6.ch (Blk.drew M7) (ne_gv1_gv3)
   have M9:=Ch.blk M6.ch (Blk.drew M9) (ne_gv2_gv3)
   exact⟨4,by decide,hp,hk,⟨_,M3⟩,⟨_,M7⟩,⟨_,M9⟩,.inr (.inr (.inr (.inr (.inl ⟨rfl,rfl,⟨_,M4⟩⟩))))⟩
  ·refine dV ?_
   refine⟨bXU [] [2,5] NG.drew (fun _=>False),?_⟩
   have M4:=Blk.drew M4
   have M3:=Blk.drew M3
   refine⟨by decide,⟨.inl (by decide),_,M4.at rfl,⟨by decide,⟨.inl (by decide),_,M3.at rfl,⟨by decide,bZ M4 (by simp) fun Nk M6=>?_⟩⟩⟩⟩⟩
   have M4:Blk Nk No #[(.int .u32 (bF (aI K (af bb 48) ss 64).a statea)),(.int .u32 (bF (aI K (af bb 48) ss 64).b stateb)),(.int .u32 (bF (aI K (af bb 48) ss 64).c statec)),(.int .u32 (bF (aI K (af bb 48) ss 64).d stated)),_,(.int .u32 ((aI K (af bb 48) ss 64).f)),(.int .u32 ((aI K (af bb 48) ss 64).g)),(.int .u32 ((aI K (af bb 48) ss 64).h))] _:=M6.blk
   refine bXU.grow M6.ch ?_
   have hp:=Ch.call (Ch.drew hp) M6.ch (by exact fun k e=>.inr (e▸Nr))
   have hk:=(hk.pu (Pu.aU _)).ch M6.ch (fun k hx e=>(fun hx=>absurd (ON _ hx) (Nat.not_lt.2 Nr)) (e▸hx))
   have M3:=Ch.blk M6.ch M3 (Nt)
   have M7:=Ch.blk M6.ch (Blk.drew M7) (ne_gv1_gv3)
   have M9:=Ch.blk M6.ch (Blk.drew M9) (ne_gv2_gv3)
   exact⟨3,by decide,hp,hk,⟨_,M3⟩,⟨_,M7⟩,⟨_,M9⟩,.inr (.inr (.inr (.inr (.inr (.inl ⟨rfl,rfl,⟨_,M4⟩⟩)))))⟩
  ·refine dV ?_
   refine⟨bXU [] [2,5] NG.drew (fun _=>False),?_⟩
   have M4:=Blk.drew M4
   have M3:=Blk.drew M3
   refine⟨by decide,⟨.inl (by decide),_,M4.at rfl,⟨by decide,⟨.inl (by decide),_,M3.at rfl,⟨by decide,bZ M4 (by simp) fun Nk M6=>?_⟩⟩⟩⟩⟩
   have M4:Blk Nk No #[(.int .u32 (bF (aI K (af bb 48) ss 64).a statea)),(.int .u32 (bF (aI K (af bb 48) ss 64).b stateb)),(.int .u32 (bF (aI K (af bb 48) ss 64).c statec)),(.int .u32 (bF (aI K (af bb 48) ss 64).d stated)),(.int .u32 (bF (aI K (af bb 48) ss 64).e statee)),_,(.int .u32 ((aI K (af bb 48) ss 64).g)),(.int .u32 ((aI K (af bb 48) ss 64).h))] _:=M6.blk
   refine bXU.grow M6.ch ?_
   have hp:=Ch.call (Ch.drew hp) M6.ch (by exact fun k e=>.inr (e▸Nr))
   have hk:=(hk.pu (Pu.aU _)).ch M6.ch (fun k hx e=>(fun hx=>absurd (ON _ hx) (Nat.not_lt.2 Nr)) (e▸hx))
   have M3:=Ch.blk M6.ch M3 (Nt)
   have M7:=Ch.blk M6.ch (Blk.drew M7) (ne_gv1_gv3)
   have M9:=Ch.blk M6.ch (Blk.drew M9) (ne_gv2_gv3)
   exact⟨2,by decide,hp,hk,⟨_,M3⟩,⟨_,M7⟩,⟨_,M9⟩,.inr (.inr (.inr (.inr (.inr (.inr (.inl ⟨rfl,rfl,⟨_,M4⟩⟩))))))⟩
  ·refine dV ?_
   refine⟨bXU [] [2,5] NG.drew (fun _=>False),?_⟩
   have M4:=Blk.drew M4
   have M3:=Blk.drew M3
   refine⟨by decide,⟨.inl (by decide),_,M4.at rfl,⟨by decide,⟨.inl (by decide),_,M3.at rfl,⟨by decide,bZ M4 (by simp) fun Nk M6=>?_⟩⟩⟩⟩⟩
   have M4:Blk Nk No #[(.int .u32 (bF (aI K (af bb 48) ss 64).a statea)),(.int .u32 (bF (aI K (af bb 48) ss 64).b stateb)),(.int .u32 (bF (aI K (af bb 48) ss 64).c statec)),(.int .u32 (bF (aI K (af bb 48) ss 64).d stated)),(.int .u32 (bF (aI K (af bb 48) ss 64).e statee)),(.int .u32 (bF (aI K (af bb 48) ss 64).f statef)),_,(.int .u32 ((aI K (af bb 48) ss 64).h))] _:=M6.blk
   refine bXU.grow M6.ch ?_
   have hp:=Ch.call (Ch.drew hp) M6.ch (by exact fun k e=>.inr (e▸Nr))
   have hk:=(hk.pu (Pu.aU _)).ch M6.ch (fun k hx e=>(fun hx=>absurd (ON _ hx) (Nat.not_lt.2 Nr)) (e▸hx))
   have M3:=Ch.blk M6.ch M3 (Nt)
   have M7:=Ch.blk M6.ch (Blk.drew M7) (ne_gv1_gv3)
   have M9:=Ch.blk M6.ch (Blk.drew M9) (ne_gv2_gv3)
   exact⟨1,by decide,hp,hk,⟨_,M3⟩,⟨_,M7⟩,⟨_,M9⟩,.inr (.inr (.inr (.inr (.inr (.inr (.inr (.inl ⟨rfl,rfl,⟨_,M4⟩⟩)))))))⟩
  ·refine dV ?_
   refine⟨bXU [] [2,5] NG.drew (fun _=>False),?_⟩
   have M4:=Blk.drew M4
   have M3:=Blk.drew M3
   refine⟨by decide,⟨.inl (by decide),_,M4.at rfl,⟨by decide,⟨.inl (by decide),_,M3.at rfl,⟨by decide,bZ M4 (by simp) fun Nk M6=>?_⟩⟩⟩⟩⟩
   have M4:Blk Nk No #[(.int .u32 (bF (aI K (af bb 48) ss 64).a statea)),(.int .u32 (bF (aI K (af bb 48) ss 64).b stateb)),(.int .u32 (bF (aI K (af bb 48) ss 64).c statec)),(.int .u32 (bF (aI K (af bb 48) ss 64).d stated)),(.int .u32 (bF (aI K (af bb 48) ss 64).e statee)),(.int .u32 (bF (aI K (af bb 48) ss 64).f statef)),(.int .u32 (bF (aI K (af bb 48) ss 64).g stateg)),_] _:=M6.blk
   refine bXU.grow M6.ch ?_
   have hp:=Ch.call (Ch.drew hp) M6.ch (by exact fun k e=>.inr (e▸Nr))
   have hk:=(hk.pu (Pu.aU _)).ch M6.ch (fun k hx e=>(fun hx=>absurd (ON _ hx) (Nat.not_lt.2 Nr)) (e▸hx))
   have M3:=Ch.blk M6.ch M3 (Nt)
   have M7:=Ch.blk M6.ch (Blk.drew M7) (ne_gv1_gv3)
   have M9:=Ch.blk M6.ch (Blk.drew M9) (ne_gv2_gv3)
   exact⟨0,by decide,hp,hk,⟨_,M3⟩,⟨_,M7⟩,⟨_,M9⟩,.inr (.inr (.inr (.inr (.inr (.inr (.inr (.inr (⟨rfl,rfl,⟨_,M4⟩⟩))))))))⟩
  ·refine mi ⟨_,_,_,_,_,_,_,_,⟨M4.at rfl,M4.at rfl,M4.at rfl,M4.at rfl,M4.at rfl,M4.at rfl,M4.at rfl,M4.at rfl⟩,fX M9 rfl fun Nk M6=>?_⟩
   have M9:=M6.blk
   refine⟨_,_,_,_,_,_,_,_,⟨M9.at rfl,M9.at rfl,M9.at rfl,M9.at rfl,M9.at rfl,M9.at rfl,M9.at rfl,M9.at rfl⟩,?_⟩
   have hp:=Ch.call hp M6.ch (by exact fun k e=>.inr (e▸QE))
   exact⟨congrArg Value.agg (Jg (congrArg (Value.int .u32) (by rw [← PB,← PE];subst PE;rfl)) (congrArg (Value.int .u32) (by rw [← PB,← PE];subst PE;rfl)) (congrArg (Value.int .u32) (by rw [← PB,← PE];subst PE;rfl)) (congrArg (Value.int .u32) (by rw [← PB,← PE];subst PE;rfl)) (congrArg (Value.int .u32) (by rw [← PB,← PE];subst PE;rfl)) (congrArg (Value.int .u32) (by rw [← PB,← PE];subst PE;rfl)) (congrArg (Value.int .u32) (by rw [← PB,← PE];subst PE;rfl)) (congrArg (Value.int .u32) (by rw [← PB,← PE];subst PE;rfl))),hp⟩
theorem F0 {w:World}:
 Calls prog 137 #[] w fun e w'=>∃v,e= .returned v∧v= .agg #[(.int .u32 S8.first.a),(.int .u32 S8.first.b),(.int .u32 S8.first.c),(.int .u32 S8.first.d),(.int .u32 S8.first.e),(.int .u32 S8.first.f),(.int .u32 S8.first.g),(.int .u32 S8.first.h)]∧Pu w w':=by
 refine wQ ?_
 have hp:=Ch.refl (fun _=>False) w
 refine mkd fun gv wv Nd=>?_
 have Ng:=Nd.lo hp
 have M3:=Nd.blk
 refine fX M3 rfl fun M5 OV=>?_
 have M3:=OV.blk
 refine⟨_,_,_,_,_,_,_,_,⟨M3.at rfl,M3.at rfl,M3.at rfl,M3.at rfl,M3.at rfl,M3.at rfl,M3.at rfl,M3.at rfl⟩,?_⟩
 have hp:=Ch.call (Ch.made hp Nd) OV.ch (by exact fun k e=>.inr (e▸Ng))
 exact⟨congrArg Value.agg (Jg (congrArg (Value.int .u32) (by rfl)) (congrArg (Value.int .u32) (by rfl)) (congrArg (Value.int .u32) (by rfl)) (congrArg (Value.int .u32) (by rfl)) (congrArg (Value.int .u32) (by rfl)) (congrArg (Value.int .u32) (by rfl)) (congrArg (Value.int .u32) (by rfl)) (congrArg (Value.int .u32) (by rfl))),hp⟩
end
namespace Ent
theorem or0 {e:Ent}(h:e.ok=true):u32.wrap (BitVec.ofInt u32.bits (u32.wrap (BitVec.ofInt u32.bits (u32.wrap ((u32.wrap e.typ:Int)*2 ^ 0)) ||| BitVec.ofInt u32.bits (u32.wrap ((u32.wrap e.state:Int)*2 ^ 4))).toNat) ||| BitVec.ofInt u32.bits (u32.wrap ((u32.wrap e.owner:Int)*2 ^ 16))).toNat=e.typ+16*e.state+65536*e.owner:=by
 have h1:=fI h
 have h2:=lx h
 rw [dI (x:=e.typ) (by omega),dI (x:=e.state) (by omega),dI (x:=e.owner) (by omega),dI (x:=e.typ*2 ^ 0) (by omega),dI (x:=e.state*2 ^ 4) (by omega),dI (x:=e.owner*2 ^ 16) (by omega),pG (x:=e.typ*2 ^ 0) (by omega) (by omega),oh,
  show e.state*2 ^ 4=2 ^ 4*e.state by omega,gp 4 (by omega) (by omega) (by omega),pG (by omega) (by omega),oh,show e.owner*2 ^ 16=2 ^ 16*e.owner by omega,gp 16 (by omega) (by omega) (by omega)]
 omega
theorem or1 {x:Int}(h:∃a b:Int,x=a+512*b∧0≤a∧a<256∧0≤b∧b<8388608):u32.wrap (BitVec.ofInt u32.bits x ||| BitVec.ofInt u32.bits 256).toNat=x+256:=by
 obtain⟨a,b,rfl,h1,h2,h3,h4⟩:=h
 have e1:nor (2 ^ 8*1) a=2 ^ 8*1+a:=gp 8 (by omega) h1 h2
 have e2:nor (2 ^ 9*b) a=2 ^ 9*b+a:=gp 9 h3 h1 (by omega)
 have e3:nor (2 ^ 9*b) (256+a)=2 ^ 9*b+(256+a):=gp 9 h3 (by omega) (by omega)
 rw [pG (by omega) (by omega)]
 have assoc:∀x y z:Int,nor (nor x y) z=nor x (nor y z):=by
  intro x y z;unfold nor;simp [Nat.or_assoc]
 rw [show a+512*b=2 ^ 9*b+a by omega,← e2,assoc,oh a 256,show nor 256 a=256+a by simpa using e1,e3,e2]
 omega
theorem mask(k:Nat) {x:Int}(m:Int)(hm:m=2 ^ k - 1)(hk:k≤31)(hx:0≤x∧x<4294967296):i64.wrap (u32.wrap (BitVec.ofInt u32.bits x &&& BitVec.ofInt u32.bits m).toNat)=x % 2 ^ k:=by
 have h2:(2:Int) ^ k≤2 ^ 31:=by exact_mod_cast Nat.pow_le_pow_right (n:=2) (by omega) hk
 have h3:(0:Int)<2 ^ k:=Int.pow_pos (by omega)
 have h4:=Int.emod_nonneg x (Int.ne_of_gt h3)
 have h5:=Int.emod_lt_of_pos x h3
 subst hm
 rw [ru hx (by omega),pJ k hx.1,aA (by omega)]
theorem LW(k:Nat) {x:Int}(m:Int)(hm:m=2 ^ k - 1)(hk:k≤31)(hx:0≤x∧x<4294967296):u32.wrap (BitVec.ofInt u32.bits x &&& BitVec.ofInt u32.bits m).toNat=x % 2 ^ k:=by
 have h2:(2:Int) ^ k≤2 ^ 31:=by exact_mod_cast Nat.pow_le_pow_right (n:=2) (by omega) hk
 have h3:(0:Int)<2 ^ k:=Int.pow_pos (by omega)
 subst hm
 rw [ru hx (by omega),pJ k hx.1]
theorem mj {x:Int}(n:Nat)(hx:0≤x∧x<4294967296):0≤x.fdiv (2 ^ n)∧x.fdiv (2 ^ n)<4294967296:=by
 rw [mH]
 have h3:(0:Int)<2 ^ n:=Int.pow_pos (by omega)
 refine⟨Int.ediv_nonneg hx.1 (by omega),?_⟩
 have:=Int.ediv_le_self (2 ^ n) hx.1
 omega
theorem parts_eq {a b:Int}(ha:0≤a∧a<4294967296)(hb:0≤b∧b<4294967296):
 i64.wrap (u32.wrap (BitVec.ofInt u32.bits ((a:Int).fdiv (2 ^ 0)) &&& BitVec.ofInt u32.bits 7).toNat)=(parts a b).typ∧
 i64.wrap (u32.wrap (BitVec.ofInt u32.bits ((a:Int).fdiv (2 ^ 16)) &&& BitVec.ofInt u32.bits 63).toNat)=(parts a b).owner∧
 i64.wrap (u32.wrap (BitVec.ofInt u32.bits b &&& BitVec.ofInt u32.bits 63).toNat)=(parts a b).refs∧
 i64.wrap (u32.wrap (BitVec.ofInt u32.bits ((a:Int).fdiv (2 ^ 4)) &&& BitVec.ofInt u32.bits 3).toNat)=(parts a b).state∧
 ((u32.wrap (BitVec.ofInt u32.bits ((a:Int).fdiv (2 ^ 8)) &&& BitVec.ofInt u32.bits 1).toNat:Int)==1)=(parts a b).bB:=by
 refine⟨?_,?_,?_,?_,?_⟩
 ·rw [mask 3 7 (by decide) (by decide) (mj 0 ha),mH];simp [parts]
 ·rw [mask 6 63 (by decide) (by decide) (mj 16 ha),mH];simp [parts]
 ·rw [mask 6 63 (by decide) (by decide) hb];simp [parts]
 ·rw [mask 2 3 (by decide) (by decide) (mj 4 ha),mH];simp [parts]
 ·rw [LW 1 1 (by decide) (by decide) (mj 8 ha),mH];simp only [parts];rw [Bool.eq_iff_iff];simp
theorem eqW(a b c d:Int):cv #[.int .u32 a,.int .u32 b] #[.int .u32 c,.int .u32 d]=(decide (a=c) && decide (b=d)):=by
 simp [cv,eqL,nI];rfl
end Ent
end Go.Proofs.YtinhphjfnedhgaaGreatDoor
namespace Go.Proofs.YtinhphjfnedhgaaGreatDoor
open Go.Proofs.Tryz (prog)
open Go Go.RowKit V
open Go.IntKind (i64 u32 u64)
section
set_option maxRecDepth 100000
set_option maxHeartbeats 1000000
attribute [local irreducible] Vc2 VcD
theorem Ent.eqC(a b c d a' b' c' d':Int)(e e':Bool):cv #[.int .i64 a,.int .i64 b,.int .i64 c,.int .i64 d,.bool e] #[.int .i64 a',.int .i64 b',.int .i64 c',.int .i64 d',.bool e']=decide (a=a'∧b=b'∧c=c'∧d=d'∧e=e'):=by
 simp [cv,eqL,nI];rw [Bool.eq_iff_iff];simp
theorem Ent.GM {e:Ent}:(if e.ok then(0:Int)else 110)=0↔e.ok=true:=by cases e.ok<;>simp
def oX:Ctr Un:=⟨[.one (.int .i64)],[],[],[],fun n K=>K ⟨(.bool (decide (0≤n∧n≤63))),none,[],[],[]⟩⟩
def JQ(n:Int)(Q:Ou Un→Prop):Prop:=
 ∃J:Bool→Prop,(
  split (decide (n≥0)) (
   J (decide (n≤63))) (
   J false))∧∀(QQ:Nat→Value)(x2:Bool),J x2→
 Q ⟨(.bool x2),none,[],[],[]⟩
theorem JR:Vc2 Un prog (bw []) [] Tryz.f199 (.r' (.two (.node [] (some ⟨[(2,(.one .bool))],[],upN 2 7,[]⟩) [] [] .leaf .leaf) .leaf)) [] oX=(∀n,∀Q,(oX.body n Q)→JQ n Q):=by kernel_rfl
theorem JP:LV Un prog 199 oX:=verify Tryz.func199 aa (tb:= []) trivial (by kernel_rfl) (JR.mpr fun n Q h=>gh ((decide ((n:Int)≥0)) && (decide ((n:Int)≤63))) (ae (fun c1=>(by show _=_;rw [Bool.eq_iff_iff];simp_all<;>omega)) fun c1=>(by show _=_;rw [Bool.eq_iff_iff];simp_all<;>omega))<| CY h (by rw [Bool.eq_iff_iff];simp))
def lX:Ctr Un:=⟨[.agg [.int .i64,.int .i64,.int .i64,.int .i64,.bool]],[],[],[],fun ea eb ec ed ee K=>K ⟨(.int .i64 (if(Ent.mk ea eb ec ed ee).ok then 0 else 110)),none,[],[],[]⟩⟩
def H5(ea:Int)(eb:Int)(ec:Int)(ed:Int)(ee:Bool)(Q:Ou Un→Prop):Prop:=
 ∀(gv:Nat),
 ∀(Nc:Nat),
 ∃J:Bool→Prop,(
  split (decide (ea≥0)) (
   ∀ok:Bool,ok=(decide ((ea:Int)<7))→
   J ok) (
   ∀ok:Bool,ok=false→
   J ok))∧∀(Oq:Nat→Value)(ok:Bool),J ok→
 ∃J1:Bool→Int→Int→Int→Int→Bool→Prop,(
  split (ea !=0) (
   ∃J2:Bool→Prop,(
    split ok (
     ∀Qm:Bool,Qm=(decide (0≤eb∧eb≤63))→
     J2 Qm) (
     ∀Qm:Bool,Qm=false→
     J2 Qm))∧∀(Us:Nat→Value)(Qm:Bool),J2 Qm→
   J1 Qm ea eb 0 0 false) (
   J1 ok ea 0 0 0 false))∧∀(Us:Nat→Value)(Qm:Bool) TC TB Uv Uu (Ut:Bool),J1 Qm TC TB Uv Uu Ut→
 ∀OK:Bool,OK=((ea:Int)==1)→
 split OK (
  ∃J2:Bool→Prop,(
   split Qm (
    split (decide (0≤ec∧ec≤63)) (
     split (decide (ed>0)) (
      ∀RJ:Bool,RJ=(decide ((ed:Int)<4))→
      J2 RJ) (
      ∀RJ:Bool,RJ=false→
      J2 RJ)) (
     ∀RJ:Bool,RJ=false→
     J2 RJ)) (
    ∀RJ:Bool,RJ=false→
    J2 RJ))∧∀(RF:Nat→Value)(RJ:Bool),J2 RJ→
  ∃J3:Bool→Prop,(
   split (!RJ) (
    J3 true) (
    J3 (!(cv #[(.int .i64 ea),(.int .i64 eb),(.int .i64 ec),(.int .i64 ed),(.bool ee)] #[(.int .i64 TC),(.int .i64 TB),(.int .i64 ec),(.int .i64 ed),(.bool Ut)]))))∧∀(Ur:Nat→Value)(Sn:Bool),J3 Sn→
  split Sn (
   Q ⟨(.int .i64 110),none,[],[],[]⟩) (
   Q ⟨(.int .i64 0),none,[],[],[]⟩)) (
  ∀Sq:Bool,Sq=((ea:Int)==2)→
  split Sq (
   ∃J2:Bool→Prop,(
    split (!Qm) (
     J2 true) (
     J2 (!(cv #[(.int .i64 ea),(.int .i64 eb),(.int .i64 ec),(.int .i64 ed),(.bool ee)] #[(.int .i64 TC),(.int .i64 TB),(.int .i64 Uv),(.int .i64 Uu),(.bool ee)]))))∧∀(RF:Nat→Value)(Sn:Bool),J2 Sn→
   split Sn (
    Q ⟨(.int .i64 110),none,[],[],[]⟩) (
    Q ⟨(.int .i64 0),none,[],[],[]⟩)) (
   ∃J2:Bool→Prop,(
    split (!Qm) (
     J2 true) (
     J2 (!(cv #[(.int .i64 ea),(.int .i64 eb),(.int .i64 ec),(.int .i64 ed),(.bool ee)] #[(.int .i64 TC),(.int .i64 TB),(.int .i64 Uv),(.int .i64 Uu),(.bool Ut)]))))∧∀(RF:Nat→Value)(Sn:Bool),J2 Sn→
   split Sn (
    Q ⟨(.int .i64 110),none,[],[],[]⟩) (
    Q ⟨(.int .i64 0),none,[],[],[]⟩)))
theorem H6:Vc2 Un prog (bw [(199,oX)]) [4,30,54] Tryz.f189 (.r' (.r' (.two (.node [] (some ⟨[(4,(.one .bool))],[],[4]++upN 8 8,[]⟩) [] [] .leaf .leaf) (.two (.r' (.node [] (some ⟨[(4,(.one .bool))],[],[4]++upN 19 9,[(1,(.blk [(.v (.int .i64)),(.v (.int .i64)),(.v (.int .i64)),(.v (.int .i64)),(.v .bool)]))]⟩) [] [] (.r' (.node [] (some ⟨[(4,(.one .bool))],[],[4]++upN 22 6,[]⟩) [] [] .leaf .leaf)) .leaf)) (.two (.r' (.two (.r' (.two (.two (.node [] none [] [(1,[0]),(3,[0])] .leaf .leaf) (.node [] (some ⟨[(4,(.one .bool))],[],[4]++upN 38 16,[]⟩) [] [] .leaf .leaf)) .leaf)) .leaf)) (.two (.two (.node [] (some ⟨[(65,(.one .bool))],[],upN 59 7,[]⟩) [] [] .leaf .leaf) .leaf) .leaf)))))) [] lX=(∀ea eb ec ed ee,∀Q,(lX.body ea eb ec ed ee Q)→H5 ea eb ec ed ee Q):=by kernel_rfl
section
attribute [local grind=] Ent.ok Ent.eqC
theorem H4:LV Un prog 189 lX:=verify Tryz.func189 aa (tb:= [(199,oX)]) ⟨JP,trivial⟩ (by kernel_rfl) (H6.mpr fun ea eb ec ed ee Q h gv Nc=>gh ((decide ((ea:Int)≥0)) && (decide ((ea:Int)<7))) (ae (fun c1=>allEq<| (by grind)) fun c1=>allEq<| (by grind))<| ⟨fun Qm TC TB Uv Uu Ut=>(Qm=(decide (0≤ea∧ea<7) && (ea==0 || decide (0≤eb∧eb≤63))))∧(TC=ea∧TB=(if ea=0 then 0 else eb)∧Uv=0∧Uu=0∧Ut=false),aN (fun c2=>gh (((decide ((ea:Int)≥0)) && (decide ((ea:Int)<7))) && (decide (0≤eb∧eb≤63))) (ae (fun c3=>allEq<| (by grind)) fun c3=>allEq<| (by grind))<| ⟨(by grind),(by grind)⟩) fun c2=>⟨(by grind),(by grind)⟩,fun _ Qm TC TB Uv Uu Ut ⟨g1,g2⟩=>allEq<| aK (fun c4=>gh (Qm && ((decide (0≤ec∧ec≤63)) && ((decide ((ed:Int)>0)) && (decide ((ed:Int)<4))))) (ae (fun c5=>ae (fun c6=>ae (fun c7=>allEq<| (by grind)) fun c7=>allEq<| (by grind)) fun c6=>allEq<| (by grind)) fun c5=>allEq<| (by grind))<| gh ((!(Qm && ((decide (0≤ec∧ec≤63)) && ((decide ((ed:Int)>0)) && (decide ((ed:Int)<4)))))) || (!(cv #[(.int .i64 ea),(.int .i64 eb),(.int .i64 ec),(.int .i64 ed),(.bool ee)] #[(.int .i64 TC),(.int .i64 TB),(.int .i64 ec),(.int .i64 ed),(.bool Ut)]))) (ae (fun c8=>(by grind)) fun c8=>(by grind))<| cQ (fun c9=>sM h (by grind)) fun c9=>sM h (by grind)) fun c4=>allEq<| aK (fun Uq=>gh ((!Qm) || (!(cv #[(.int .i64 ea),(.int .i64 eb),(.int .i64 ec),(.int .i64 ed),(.bool ee)] #[(.int .i64 TC),(.int .i64 TB),(.int .i64 Uv),(.int .i64 Uu),(.bool ee)]))) (ae (fun c11=>(by grind)) fun c11=>(by grind))<| cQ (fun c12=>sM h (by grind)) fun c12=>sM h (by grind)) fun Uq=>gh ((!Qm) || (!(cv #[(.int .i64 ea),(.int .i64 eb),(.int .i64 ec),(.int .i64 ed),(.bool ee)] #[(.int .i64 TC),(.int .i64 TB),(.int .i64 Uv),(.int .i64 Uu),(.bool Ut)]))) (ae (fun TM=>(by grind)) fun TM=>(by grind))<| cQ (fun c14=>sM h (by grind)) fun c14=>sM h (by grind)⟩)
end
section
attribute [local grind=] Ent.ok
end
def j3:Ctr Un:=⟨[.agg [.int .i64,.int .i64,.int .i64,.int .i64,.bool]],[],[],[],fun ea eb ec ed ee K=>∀(x:Int)(y:Int)(z:Int),((x=(if(Ent.mk ea eb ec ed ee).ok then(Ent.mk ea eb ec ed ee).w0 else 0)∧y=(if(Ent.mk ea eb ec ed ee).ok then(Ent.mk ea eb ec ed ee).w1 else 0)∧z=(if(Ent.mk ea eb ec ed ee).ok then 0 else 110)))→K ⟨(.tuple #[(.agg #[(.int .u32 x),(.int .u32 y)]),(.int .i64 z)]),(some (.t [none,none])),[],[],[]⟩⟩
def Fb(ea:Int)(eb:Int)(ec:Int)(ed:Int)(ee:Bool)(Q:Ou Un→Prop):Prop:=
 ∀(gv:Nat),
 ∀(Nc:Nat),
 split (((if(Ent.mk ea eb ec ed ee).ok then 0 else 110):Int) !=0) (
  Q ⟨(.tuple #[(.agg #[(.int .u32 0),(.int .u32 0)]),(.int .i64 110)]),(some (.t [none,none])),[],[],[]⟩) (
  ∀wv:Int,wv=(u32.wrap (BitVec.ofInt u32.bits (u32.wrap (BitVec.ofInt u32.bits (u32.wrap ((u32.wrap ea:Int)*2 ^ 0)) ||| BitVec.ofInt u32.bits (u32.wrap ((u32.wrap ed:Int)*2 ^ 4))).toNat) ||| BitVec.ofInt u32.bits (u32.wrap ((u32.wrap eb:Int)*2 ^ 16))).toNat)→
  split ee (
   ∀M5:Int,M5=(u32.wrap (BitVec.ofInt u32.bits wv ||| BitVec.ofInt u32.bits 256).toNat)→
   Q ⟨(.tuple #[(.agg #[(.int .u32 M5),(.int .u32 (u32.wrap ec))]),(.int .i64 0)]),(some (.t [none,none])),[],[],[]⟩) (
   Q ⟨(.tuple #[(.agg #[(.int .u32 wv),(.int .u32 (u32.wrap ec))]),(.int .i64 0)]),(some (.t [none,none])),[],[],[]⟩))
theorem Fc:Vc2 Un prog (bw [(189,lX)]) [4] Tryz.f170 .leaf [] j3=(∀ea eb ec ed ee,∀Q,(j3.body ea eb ec ed ee Q)→Fb ea eb ec ed ee Q):=by kernel_rfl
theorem vy:LV Un prog 170 j3:=verify Tryz.func170 aa (tb:= [(189,lX)]) ⟨H4,trivial⟩ (by kernel_rfl) (Fc.mpr fun ea eb ec ed ee Q h gv Nc=>aN (fun c1=>(h 0 0 110 (by grind))) fun c1=>allEq<| ae (fun c2=>allEq<| aB (h (u32.wrap (BitVec.ofInt u32.bits (u32.wrap (BitVec.ofInt u32.bits (u32.wrap (BitVec.ofInt u32.bits (u32.wrap ((u32.wrap ea:Int)*2 ^ 0)) ||| BitVec.ofInt u32.bits (u32.wrap ((u32.wrap ed:Int)*2 ^ 4))).toNat) ||| BitVec.ofInt u32.bits (u32.wrap ((u32.wrap eb:Int)*2 ^ 16))).toNat) ||| BitVec.ofInt u32.bits 256).toNat) (u32.wrap ec) 0 (by have hk:=Ent.GM.1 c1;have h1:=Ent.fI hk;have h2:=Ent.lx hk;simp only at h1 h2;rw [if_pos hk,if_pos hk,if_pos hk];refine⟨?_,dI (x:=ec) (by omega),rfl⟩;have h3:=Ent.or0 hk;simp only at h3;rw [h3,Ent.or1 ⟨ea+16*ed,128*eb,by omega⟩];simp [Ent.w0,c2])) (congrArg (fun l=>Value.tuple (List.toArray l)) (ab (congrArg (fun l=>Value.agg (List.toArray l)) (ab rfl (ab (bt (by rfl)) rfl))) (ab rfl rfl))) rfl rfl) fun c2=>aB (h (u32.wrap (BitVec.ofInt u32.bits (u32.wrap (BitVec.ofInt u32.bits (u32.wrap ((u32.wrap ea:Int)*2 ^ 0)) ||| BitVec.ofInt u32.bits (u32.wrap ((u32.wrap ed:Int)*2 ^ 4))).toNat) ||| BitVec.ofInt u32.bits (u32.wrap ((u32.wrap eb:Int)*2 ^ 16))).toNat) (u32.wrap ec) 0 (by have hk:=Ent.GM.1 c1;have h1:=Ent.fI hk;have h2:=Ent.lx hk;simp only at h1 h2;rw [if_pos hk,if_pos hk,if_pos hk];refine⟨?_,dI (x:=ec) (by omega),rfl⟩;have h3:=Ent.or0 hk;simp only at h3;rw [h3];simp [Ent.w0,c2])) (congrArg (fun l=>Value.tuple (List.toArray l)) (ab (congrArg (fun l=>Value.agg (List.toArray l)) (ab rfl (ab (bt (by rfl)) rfl))) (ab rfl rfl))) rfl rfl)
theorem Ent.I8 {a b x y z:Int}(h:x=(if(parts a b).ok then(parts a b).w0 else 0)∧y=(if(parts a b).ok then(parts a b).w1 else 0)∧z=(if(parts a b).ok then 0 else 110))(c:(z !=0)=true∨(!(cv #[.int .u32 x,.int .u32 y] #[.int .u32 a,.int .u32 b]))=true):dec a b=free∧eZ a b=110:=by
 obtain⟨rfl,rfl,rfl⟩:=h
 rw [eqW]at c
 cases hk:(parts a b).ok<;>simp [hk]at c
 ·simp [dec,eZ,hk]
 ·have h2:¬((parts a b).w0=a∧(parts a b).w1=b):=by rcases c with c | c<;>simp [c]
  simp [dec,eZ,hk,h2]
theorem Ent.G0 {a b x y z:Int}(h:x=(if(parts a b).ok then(parts a b).w0 else 0)∧y=(if(parts a b).ok then(parts a b).w1 else 0)∧z=(if(parts a b).ok then 0 else 110))(c:(z !=0)=false∧(!(cv #[.int .u32 x,.int .u32 y] #[.int .u32 a,.int .u32 b]))=false):dec a b=parts a b∧eZ a b=0:=by
 obtain⟨rfl,rfl,rfl⟩:=h
 rw [eqW]at c
 cases hk:(parts a b).ok<;>simp [hk]at c
 simp [dec,eZ,hk,c]
def qe:Ctr Un:=⟨[.agg [.int .u32,.int .u32]],[],[],[],fun wa wb K=>(0≤(wa:Int)∧(wa:Int)<4294967296)∧(0≤(wb:Int)∧(wb:Int)<4294967296)∧K ⟨(.tuple #[(.agg #[(.int .i64 ((Ent.dec wa wb).typ)),(.int .i64 ((Ent.dec wa wb).owner)),(.int .i64 ((Ent.dec wa wb).refs)),(.int .i64 ((Ent.dec wa wb).state)),(.bool ((Ent.dec wa wb).bB))]),(.int .i64 (Ent.eZ wa wb))]),(some (.t [none,none])),[],[],[]⟩⟩
def Ff(wa:Int)(wb:Int)(Q:Ou Un→Prop):Prop:=
 ∀(gv:Nat),
 ∀(Nc:Nat),
 (0≤(0:Int)∧(0:Int)<(2:Int))∧
 ∀Pq:Int,Pq=(i64.wrap (u32.wrap (BitVec.ofInt u32.bits ((wa:Int).fdiv (2 ^ 0)) &&& BitVec.ofInt u32.bits 7).toNat))→
 (0≤(0:Int)∧(0:Int)<(2:Int))∧
 ∀NV:Int,NV=(i64.wrap (u32.wrap (BitVec.ofInt u32.bits ((wa:Int).fdiv (2 ^ 4)) &&& BitVec.ofInt u32.bits 3).toNat))→
 (0≤(0:Int)∧(0:Int)<(2:Int))∧
 ∀OX:Bool,OX=((u32.wrap (BitVec.ofInt u32.bits ((wa:Int).fdiv (2 ^ 8)) &&& BitVec.ofInt u32.bits 1).toNat:Int)==1)→
 (0≤(0:Int)∧(0:Int)<(2:Int))∧
 ∀Qh:Int,Qh=(i64.wrap (u32.wrap (BitVec.ofInt u32.bits ((wa:Int).fdiv (2 ^ 16)) &&& BitVec.ofInt u32.bits 63).toNat))→
 (0≤(1:Int)∧(1:Int)<(2:Int))∧
 ∀OK:Int,OK=(i64.wrap (u32.wrap (BitVec.ofInt u32.bits wb &&& BitVec.ofInt u32.bits 63).toNat))→
 ∀(N8:Nat),
 ∀(x:Int)(y:Int)(z:Int),
 ((x=(if(Ent.mk Pq Qh OK NV OX).ok then(Ent.mk Pq Qh OK NV OX).w0 else 0)∧y=(if(Ent.mk Pq Qh OK NV OX).ok then(Ent.mk Pq Qh OK NV OX).w1 else 0)∧z=(if(Ent.mk Pq Qh OK NV OX).ok then 0 else 110)))→
 ∀(No:Nat),
 ∃J:Bool→Prop,(
  split (z !=0) (
   J true) (
   J (!(cv #[(.int .u32 x),(.int .u32 y)] #[(.int .u32 wa),(.int .u32 wb)]))))∧∀(RF:Nat→Value)(Pg:Bool),J Pg→
 split Pg (
  Q ⟨(.tuple #[(.agg #[(.int .i64 0),(.int .i64 0),(.int .i64 0),(.int .i64 0),(.bool false)]),(.int .i64 110)]),(some (.t [none,none])),[],[],[]⟩) (
  Q ⟨(.tuple #[(.agg #[(.int .i64 Pq),(.int .i64 Qh),(.int .i64 OK),(.int .i64 NV),(.bool OX)]),(.int .i64 0)]),(some (.t [none,none])),[],[],[]⟩)
theorem Fg:Vc2 Un prog (bw [(170,j3)]) [11,16,21,26,30] Tryz.f121 (.r' (.r' (.two (.r' (.two (.node [] (some ⟨[(43,(.one .bool))],[],upN 37 7,[]⟩) [] [] .leaf .leaf) .leaf)) .leaf))) [] qe=(∀wa wb,∀Q,(qe.body wa wb Q)→Ff wa wb Q):=by kernel_rfl
theorem Fe:LV Un prog 121 qe:=verify Tryz.func121 aa (tb:= [(170,j3)]) ⟨vy,trivial⟩ (by kernel_rfl) (Fg.mpr fun wa wb Q h=>by
 obtain⟨e1,e2,e3,e4,e5⟩:=Ent.parts_eq h.1 h.2.1
 obtain⟨Ni,NI,h⟩:=h
 exact fun gv Nc=>ao (by omega) fun s1 Pq Va=>ao ‹_› fun s2 NV U9=>ao ‹_› fun s3 OX U7=>ao ‹_› fun s4 Qh U6=>ao (by omega) fun s5 OK U5 N8 x y z f6=>(by rw [e1]at Va;rw [e2]at U6;rw [e3]at U5;rw [e4]at U9;rw [e5]at U7;subst Va U6 U5 U9 U7;exact fun No=>gh (((z:Int) !=0) || (!(cv #[(.int .u32 x),(.int .u32 y)] #[(.int .u32 wa),(.int .u32 wb)]))) (ae (fun c1=>(by grind)) fun c1=>(by grind))<| cQ (fun c2=>(by have hd:=Ent.I8 (a:=wa) (b:=wb) f6 c2;exact aB h (by rw [hd.1,hd.2]<;>rfl) rfl rfl)) fun c2=>(by have hd:=Ent.G0 (a:=wa) (b:=wb) f6 c2;exact aB h (by rw [hd.1,hd.2]<;>rfl) rfl rfl)))
theorem puC {P:Program} {f:Nat} {args:Array Value} {w:World} {v:Value} {k:Option Kn}(h:∀X:Nat→Nat→Prop,Sat (U:=Un) [] X w→av (U:=Un) [] fr0 []→Calls P f args w (aS (U:=Un) [] [] X w (fun o=>o=⟨v,k,[],[],[]⟩)))(hk:iL k v= .returned v:=by rfl):Calls P f args w fun e w'=>∃u,e= .returned u∧u=v∧Pu w w':=by
 refine(h (fun _ _=>False) ⟨fun i r h=>by simp [nth]at h,fun _ _ _ _ _ _ h=>h.elim⟩ (fun _ _ h=>by cases h)).mono ?_
 rintro e w' ⟨out,rs',X',rfl,rfl,_,hp⟩
 exact⟨_,hk,rfl,hp.ch.mono fun k ⟨j,hj,_⟩=>by cases hj⟩
theorem I6 {w:World}(ea eb ec ed:Int)(ee:Bool):
 Calls prog 170 #[(.agg #[(.int .i64 ea),(.int .i64 eb),(.int .i64 ec),(.int .i64 ed),(.bool ee)])] w fun e w'=>∃v,e= .returned v∧v= .tuple #[(.agg #[(.int .u32 (if(Ent.mk ea eb ec ed ee).ok then(Ent.mk ea eb ec ed ee).w0 else 0)),(.int .u32 (if(Ent.mk ea eb ec ed ee).ok then(Ent.mk ea eb ec ed ee).w1 else 0))]),(.int .i64 (if(Ent.mk ea eb ec ed ee).ok then 0 else 110))]∧Pu w w':=
 puC fun X=>vy ea eb ec ed ee (fun o=>o=_) (fun x y z h=>by obtain⟨rfl,rfl,rfl⟩:=h;rfl) X w
theorem C8 {w:World}(wa wb:Int)(ha:0≤wa∧wa<4294967296)(hb:0≤wb∧wb<4294967296):
 Calls prog 121 #[(.agg #[(.int .u32 wa),(.int .u32 wb)])] w fun e w'=>∃v,e= .returned v∧v=(.tuple #[(.agg #[(.int .i64 ((Ent.dec wa wb).typ)),(.int .i64 ((Ent.dec wa wb).owner)),(.int .i64 ((Ent.dec wa wb).refs)),(.int .i64 ((Ent.dec wa wb).state)),(.bool ((Ent.dec wa wb).bB))]),(.int .i64 (Ent.eZ wa wb))])∧Pu w w':=
 puC fun X=>Fe wa wb (fun o=>o=_) ⟨ha,hb,rfl⟩ X w
end
end Go.Proofs.YtinhphjfnedhgaaGreatDoor
namespace Go.Proofs.YtinhphjfnedhgaaGreatDoor
open Go.Proofs.Tryz (prog)
open Go Go.RowKit V
open Go.IntKind (i64 u32 u64)
section
set_option maxRecDepth 10000
set_option maxHeartbeats 1000000
theorem K6 {w:World}(t:Int):
 Calls prog 128 #[(.int .i64 t)] w fun e w'=>∃v,e= .returned v∧v= .bool (DB.turns t)∧Pu w w':=by
 refine xh _ ?_
 have hp:=Ch.refl (fun _=>False) w
 refine⟨fun x w'=>x=(((t:Int)==4) || (((t:Int)==5) || ((t:Int)==6)))∧Pu w w',?_,?_⟩
 ·refine ae (fun c1=>?_) (fun c1=>?_)
  ·exact⟨by simp only [c1,Bool.true_and,Bool.and_true,Bool.false_and,Bool.and_false,Bool.true_or,Bool.or_true,Bool.false_or,Bool.or_false,Bool.not_true,Bool.not_false,if_true,if_false,Bool.false_eq_true],Ch.refl _ _⟩
  ·refine ae (fun c2=>?_) (fun c2=>?_)
   ·exact⟨by simp only [c1,c2,Bool.true_and,Bool.and_true,Bool.false_and,Bool.and_false,Bool.true_or,Bool.or_true,Bool.false_or,Bool.or_false,Bool.not_true,Bool.not_false,if_true,if_false,Bool.false_eq_true],Ch.refl _ _⟩
   ·exact⟨by simp only [c1,c2,Bool.true_and,Bool.and_true,Bool.false_and,Bool.and_false,Bool.true_or,Bool.or_true,Bool.false_or,Bool.or_false,Bool.not_true,Bool.not_false,if_true,if_false,Bool.false_eq_true],Ch.refl _ _⟩
 rintro _ _ wv ⟨rfl,Nj⟩
 have hp:=Ch.pu hp Nj
 exact⟨congrArg Value.bool (by simp [DB.turns,Bool.or_assoc]),hp⟩
theorem mw {w:World}(ak:Int):
 Calls prog 78 #[(.int .i64 ak)] w fun e w'=>∃v,e= .returned v∧v= .agg #[(.bool true),(.int .i64 ak)]∧Pu w w':=by
 refine ur _ ?_
 have hp:=Ch.refl (fun _=>False) w
 refine mkd fun gv wv Nd=>?_
 have Ng:=Nd.lo hp
 have M3:=Nd.blk
 refine bP M3 (by simp) fun M5 OV=>?_
 have M3:Blk M5 gv #[(.bool true),(.int .i64 ak)] _:=OV.blk
 refine⟨_,_,⟨M3.at rfl,M3.at rfl⟩,?_⟩
 have hp:=Ch.call (Ch.made hp Nd) OV.ch (by exact fun k e=>.inr (e▸Ng))
 exact⟨rfl,hp⟩
theorem G1 {L:fG} {D:DB} {w:World}(h:DBP w L D):
 Calls prog 120 #[(.pointer (some (Addr.mk L.g 0 none)))] w fun e w'=>∃v,e= .returned v∧v= .int .i64 (D.S:Int)∧w'=w:=by
 refine oZ (some (Addr.mk L.g 0 none)) ?_
 obtain⟨_,dhd_h⟩:=h.hd
 refine ah _ rfl ⟨_,_,_,dhd_h.at rfl,?_⟩
 exact⟨congrArg (Value.int .i64) (by have:=h.S64;rw [aA (by rw [Int.tdiv_eq_ediv_of_nonneg (by omega)];unfold DB.S DB.n2 at *;omega)];rw [Int.tdiv_eq_ediv_of_nonneg (by omega)];unfold DB.S DB.n2;omega),rfl⟩
theorem Bm {L:fG} {D:DB} {w:World}(h:DBP w L D)(ak:Int):
 Calls prog 57 #[(.pointer (some (Addr.mk L.g 0 none))),(.int .i64 ak)] w fun e w'=>∃v,e= .returned v∧v= .bool (D.has ak)∧Pu w w':=by
 refine tT (some (Addr.mk L.g 0 none)) _ ?_
 have hp:=Ch.refl (fun _=>False) w
 have N3:=h.lt
 refine⟨fun x w'=>x=((decide ((ak:Int)≥0)) && (decide ((ak:Int)<(D.S:Int))))∧Pu w w',?_,?_⟩
 ·refine ae (fun c1=>?_) (fun c1=>?_)
  ·refine Calls.mono (G1 h) ?_
   rintro e w9 ⟨_,rfl,rfl,e9⟩
   obtain rfl:=e9.symm
   refine⟨_,rfl,?_⟩
   exact⟨by simp only [c1,Bool.true_and,Bool.and_true,Bool.false_and,Bool.and_false,Bool.true_or,Bool.or_true,Bool.false_or,Bool.or_false,Bool.not_true,Bool.not_false,if_true,if_false,Bool.false_eq_true],Ch.refl _ _⟩
  ·exact⟨by simp only [c1,Bool.true_and,Bool.and_true,Bool.false_and,Bool.and_false,Bool.true_or,Bool.or_true,Bool.false_or,Bool.or_false,Bool.not_true,Bool.not_false,if_true,if_false,Bool.false_eq_true],Ch.refl _ _⟩
 rintro _ _ wv ⟨rfl,Nj⟩
 have hp:=Ch.pu hp Nj
 exact⟨congrArg Value.bool (by rw [Bool.eq_iff_iff];simp [DB.has]),hp⟩
theorem dAt {L:fG} {D:DB} {w:World}(h:DBP w L D)(ak:Int)(hp:D.has ak=true):
 Calls prog 58 #[.pointer (some (Addr.mk L.g 0 none)),.int .i64 ak] w fun e w'=>∃v,e= .returned v∧v= .agg #[.int .i64 (D.at_ ak).typ,.int .i64 (D.at_ ak).owner,.int .i64 (D.at_ ak).refs,.int .i64 (D.at_ ak).state,.bool (D.at_ ak).bB]∧Pu w w':=by
 refine Fp _ _ ?_
 refine mkd fun gv wv m=>?_
 have h1:=h.pu m.pu
 obtain⟨T,hd⟩:=h1.hd
 obtain⟨T2,cs,hr,NA,hw⟩:=h1.ws
 have hn:=DB.dG hp
 have ho:=DB.ai hp
 have h64:=h.S64
 have e0:i64.wrap (2*ak)=2*ak:=aA (by omega)
 have e1:(2*ak).toNat=2*ak.toNat:=by omega
 have e2:D.n2=2*D.S:=rfl
 refine ah _ rfl ⟨_,_,_,hd.at rfl,by rw [e0,e2];omega,?_⟩
 rintro _ rfl _ rfl _ rfl
 rw [e0,e1,e2]
 refine⟨by omega,ah (Addr.mk L.a (2*ak.toNat) none) (by rw [if_neg (by omega)];simp [Addr.add];omega) ?_⟩
 refine⟨_,_,⟨by rw [bT];exact hr.cell (hw _ hn).1,by rw [bT];exact hr.cell (hw _ hn).2⟩,?_⟩
 have Oz:=(h.ok.ent _ hn).1
 refine Calls.mono (C8 _ _ (Ent.xE Oz) (Ent.xD Oz)) ?_
 rw [(Ent.wB Oz).1,(Ent.wB Oz).2]
 rintro e w1 ⟨_,rfl,rfl,q1⟩
 refine⟨_,_,_,_,_,_,rfl,?_⟩
 refine mkd fun g1 w2 m1=>?_
 have b1:=m1.blk
 have b0:=m1.old (q1.blk m.blk)
 have ne:=m1.ne (q1.blk m.blk)
 refine bP b1 (by simp) fun w3 s3=>?_
 have b1':Blk w3 g1 #[.int .i64 (D.at_ ak).typ,.int .i64 (D.at_ ak).owner,.int .i64 (D.at_ ak).refs,.int .i64 (D.at_ ak).state,.bool (D.at_ ak).bB] _:=s3.blk
 refine⟨_,_,_,_,_,⟨b1'.at rfl,b1'.at rfl,b1'.at rfl,b1'.at rfl,b1'.at rfl⟩,?_⟩
 refine bP (s3.old b0 ne) (by simp) fun w4 s4=>?_
 have b0':Blk w4 gv #[.int .i64 (D.at_ ak).typ,.int .i64 (D.at_ ak).owner,.int .i64 (D.at_ ak).refs,.int .i64 (D.at_ ak).state,.bool (D.at_ ak).bB] _:=s4.blk
 refine⟨_,_,_,_,_,⟨b0'.at rfl,b0'.at rfl,b0'.at rfl,b0'.at rfl,b0'.at rfl⟩,?_⟩
 have Ni:Pu w wv:=m.pu
 have NZ:Pu w w2:=(Ni.trans q1).made m1
 exact⟨rfl,(NZ.stored s3 (.inr (m1.lo (Ni.trans q1)))).stored s4 (.inr (m.lo (Ch.refl (fun _=>False) w)))⟩
theorem Em {L:fG} {D:DB} {w:World}(h:DBP w L D)(ak:Int)(ea eb ec ed:Int)(ee:Bool)(hp:D.has ak=true)(he:(Ent.mk ea eb ec ed ee).ok=true)(PA:eb<(D.S:Int)):
 Calls prog 115 #[.pointer (some (Addr.mk L.g 0 none)),.int .i64 ak,.agg #[.int .i64 ea,.int .i64 eb,.int .i64 ec,.int .i64 ed,.bool ee]] w fun e w'=>∃v,e= .returned v∧v= .tuple #[]∧DBP w' L (D.set ak ⟨ea,eb,ec,ed,ee⟩)∧Ch L.X w w':=by
 refine Ca _ _ _ _ _ _ _ ?_
 refine mkd fun gv wv m=>?_
 have b:=m.blk
 refine⟨_,_,_,_,_,⟨b.at rfl,b.at rfl,b.at rfl,b.at rfl,b.at rfl⟩,?_⟩
 refine Calls.mono (I6 _ _ _ _ _) ?_
 rw [if_pos he,if_pos he,if_pos he]
 rintro e w1 ⟨_,rfl,rfl,q1⟩
 refine⟨_,_,_,rfl,?_⟩
 refine mkd fun g1 w2 m1=>?_
 have p2:Pu w w2:=((show Pu w wv from m.pu).trans q1).made m1
 refine bP m1.blk (by simp) fun w3 s3=>?_
 have b1:Blk w3 g1 #[.int .u32 (Ent.mk ea eb ec ed ee).w0,.int .u32 (Ent.mk ea eb ec ed ee).w1] _:=s3.blk
 have p3:Pu w w3:=p2.stored s3 (.inr (m1.lo ((show Pu w wv from m.pu).trans q1)))
 have h3:=(h.pu p3).pu (Pu.aU w3)
 have b1:=b1.drew
 obtain⟨T,hd⟩:=h3.hd
 obtain⟨T2,cs,hr,NA,hw⟩:=h3.ws
 have hn:=DB.dG hp
 have ho:=DB.ai hp
 have h64:=h.S64
 have e0:i64.wrap (2*ak)=2*ak:=aA (by omega)
 have e1:(2*ak).toNat=2*ak.toNat:=by omega
 have e2:D.n2=2*D.S:=rfl
 have hga:g1≠L.a:=fun e=>by have h5:=(h.lt L.a (.inr (.inl rfl)));have h6:=m1.lo ((show Pu w wv from m.pu).trans q1);omega
 refine⟨fun _ k=>k=L.g,ah _ rfl ⟨block_add _ _,_,_,_,hd.at rfl,by rw [e0,e2];omega,?_⟩⟩
 rintro _ rfl _ rfl _ rfl _ rfl _ rfl _ rfl
 rw [e0,e1,e2,if_neg (by omega),if_neg (by omega)]
 have hl:dw w3.drew (fun k=>k=g1) .u32 (some ((Addr.mk g1 0 none).add (0*1))) (2 - 0) (2 - 0) [(Ent.mk ea eb ec ed ee).w0,(Ent.mk ea eb ec ed ee).w1]:=
  dw.blk (m:=0) (Z:=fun k=>k=g1) b1 rfl (Nat.le_refl _) rfl (fun j x hx=>by
   match j with
   | 0=>simp at hx;subst hx;rfl
   | 1=>simp at hx;subst hx;rfl
   | j+2=>simp at hx)
 have hA:(Option.map (fun x:Addr=>x.add (2*ak.toNat *1)) (some (Addr.mk L.a 0 none)))=some (Addr.mk L.a (2*ak.toNat) none):=by simp [Addr.add];omega
 rw [hA]
 obtain⟨x,w4,OG,hw4⟩:=rp (P:=prog) (dT:=62) (sT:=62) (ty:=3) (o:=2*ak.toNat) (dn:=2*D.S - 2*ak.toNat) (dc:=2*D.S - 2*ak.toNat) nX hr hl (by rw [NA,e2];omega) (K:=fun w4=>bN w3.drew L.a (setAt cs (2*ak.toNat) [.int .u32 (Ent.mk ea eb ec ed ee).w0,.int .u32 (Ent.mk ea eb ec ed ee).w1]) T2 w4)
  (fun w4 hs=>by rw [show min (2 - 0) (2*D.S - 2*ak.toNat)=2 by omega]at hs;exact hs)
 refine⟨x,w4,OG,hw4.kept.mono (fun k hk=>by have hk:k=L.g:=(by simpa [bW]using hk);rw [hk];exact fun e=>h.dis.1 e.symm),fun _ k=>k=L.g,fun _ k hk=>hk,rfl,h3.Kz hp he PA hr hw4,?_⟩
 exact(((p3.mono (by simp):Ch L.X w w3)).drew).stored hw4 (.inl (.inr (.inl rfl)))
theorem K7 {L:fG} {D:DB} {w:World}(h:DBP w L D)(ak:Int):
 Calls prog 18 #[(.pointer (some (Addr.mk L.g 0 none))),(.int .i64 ak)] w fun e w'=>∃v,e= .returned v∧v= .tuple #[(.agg #[(.int .i64 ((D.entry ak).typ)),(.int .i64 ((D.entry ak).owner)),(.int .i64 ((D.entry ak).refs)),(.int .i64 ((D.entry ak).state)),(.bool ((D.entry ak).bB))]),(.int .i64 (D.aR ak))]∧Pu w w':=by
 refine xp (some (Addr.mk L.g 0 none)) _ ?_
 have hp:=Ch.refl (fun _=>False) w
 have N3:=h.lt
 refine mkd fun gv wv Nd=>?_
 have Ng:=Nd.lo hp
 have M3:=Nd.blk
 have h:=h.pu Nd.pu
 refine Calls.mono (Bm h _) ?_
 rintro e M5 ⟨_,rfl,rfl,Na⟩
 refine⟨_,rfl,?_⟩
 refine dK (fun c1=>?_) (fun c1=>?_)
 ·have M3:=Pu.blk Na M3
  refine bP M3 (by simp) fun M8 NX=>?_
  have M3:Blk M8 gv #[(.int .i64 0),(.int .i64 0),(.int .i64 0),(.int .i64 0),(.bool false)] _:=NX.blk
  refine⟨_,_,_,_,_,⟨M3.at rfl,M3.at rfl,M3.at rfl,M3.at rfl,M3.at rfl⟩,?_⟩
  have hp:=Ch.call (Ch.pu (Ch.made hp Nd) Na) NX.ch (by exact fun k e=>.inr (e▸Ng))
  exact⟨by(simp [DB.entry,DB.aR,c1];done),hp⟩
 ·have h:=h.pu Na
  refine Calls.mono (dAt h _ ‹_›) ?_
  rintro e M8 ⟨_,rfl,rfl,Nz⟩
  have M3:=Pu.blk Nz (Pu.blk Na M3)
  refine⟨_,_,_,_,_,rfl,bP M3 (by simp) fun Nb Nh=>?_⟩
  have M3:Blk Nb gv #[(.int .i64 ((D.at_ ak).typ)),(.int .i64 ((D.at_ ak).owner)),(.int .i64 ((D.at_ ak).refs)),(.int .i64 ((D.at_ ak).state)),(.bool ((D.at_ ak).bB))] _:=Nh.blk
  refine⟨_,_,_,_,_,⟨M3.at rfl,M3.at rfl,M3.at rfl,M3.at rfl,M3.at rfl⟩,?_⟩
  have hp:=Ch.call (Ch.pu (Ch.pu (Ch.made hp Nd) Na) Nz) Nh.ch (by exact fun k e=>.inr (e▸Ng))
  exact⟨by(simp [DB.entry,DB.aR,c1];done),hp⟩
theorem yL {L:fG} {D:DB} {w:World}(h:DBP w L D)(ak:Int):
 Calls prog 116 #[(.pointer (some (Addr.mk L.g 0 none))),(.int .i64 ak)] w fun e w'=>∃v,e= .returned v∧v= .bool (D.cp ak)∧Pu w w':=by
 refine tS (some (Addr.mk L.g 0 none)) _ ?_
 have hp:=Ch.refl (fun _=>False) w
 have N3:=h.lt
 refine⟨fun x w'=>x=((D.has ak) && ((((D.at_ ak).typ):Int)==1))∧Pu w w',?_,?_⟩
 ·refine Calls.mono (Bm h _) ?_
  rintro e wv ⟨_,rfl,rfl,Nj⟩
  refine⟨_,rfl,?_⟩
  refine ae (fun c1=>?_) (fun c1=>?_)
  ·have h:=h.pu Nj
   refine Calls.mono (dAt h _ ‹_›) ?_
   rintro e M5 ⟨_,rfl,rfl,Na⟩
   refine⟨_,_,_,_,_,rfl,?_⟩
   exact⟨by simp only [c1,Bool.true_and,Bool.and_true,Bool.false_and,Bool.and_false,Bool.true_or,Bool.or_true,Bool.false_or,Bool.or_false,Bool.not_true,Bool.not_false,if_true,if_false,Bool.false_eq_true],(Ch.pu Nj Na)⟩
  ·exact⟨by simp only [c1,Bool.true_and,Bool.and_true,Bool.false_and,Bool.and_false,Bool.true_or,Bool.or_true,Bool.false_or,Bool.or_false,Bool.not_true,Bool.not_false,if_true,if_false,Bool.false_eq_true],Nj⟩
 rintro _ _ wv ⟨rfl,Nj⟩
 have hp:=Ch.pu hp Nj
 exact⟨congrArg Value.bool (by(simp [DB.cp];done)),hp⟩
theorem Ke {L:fG} {D:DB} {w:World}(h:DBP w L D)(space:Int)(more:Int)(hp:D.has space=true)(he:({D.at_ space with refs:=(D.at_ space).refs+more}:Ent).ok=true):
 Calls prog 117 #[(.pointer (some (Addr.mk L.g 0 none))),(.int .i64 space),(.int .i64 more)] w fun e w'=>∃v,e= .returned v∧v= .tuple #[]∧DBP w' L (D.more space more)∧Ch L.X w w':=by
 refine Ak (some (Addr.mk L.g 0 none)) _ _ ?_
 have hi:i64.wrap ((D.at_ space).refs+more)=(D.at_ space).refs+more:=aA (by have:=Ent.fI he;simp only at this;omega)
 have ho:=(h.ok.ent _ (DB.dG hp)).2
 have hp:=Ch.refl L.X w
 have N3:=h.lt
 refine Calls.mono (dAt h _ ‹_›) ?_
 rintro e wv ⟨_,rfl,rfl,Nj⟩
 refine⟨_,_,_,_,_,rfl,?_⟩
 have hp:=Ch.pu hp Nj
 refine mkd fun gv M5 Nd=>?_
 have Ng:=Nd.lo hp
 have M3:=Nd.blk
 refine bP M3 (by simp) fun M8 NX=>?_
 have M3:Blk M8 gv #[(.int .i64 ((D.at_ space).typ)),(.int .i64 ((D.at_ space).owner)),(.int .i64 ((D.at_ space).refs)),(.int .i64 ((D.at_ space).state)),(.bool ((D.at_ space).bB))] _:=NX.blk
 refine⟨_,M3.at rfl,bZ M3 (by simp) fun Nb Nh=>?_⟩
 have M3:Blk Nb gv #[(.int .i64 ((D.at_ space).typ)),(.int .i64 ((D.at_ space).owner)),_,(.int .i64 ((D.at_ space).state)),(.bool ((D.at_ space).bB))] _:=Nh.blk
 refine⟨_,_,_,_,_,⟨M3.at rfl,M3.at rfl,M3.at rfl,M3.at rfl,M3.at rfl⟩,?_⟩
 have h:=(((h.pu Nj).pu Nd.pu).ch NX.ch (fun k hx e=>(fun hx=>absurd (N3 _ hx) (Nat.not_lt.2 Ng)) (e▸hx))).ch Nh.ch (fun k hx e=>(fun hx=>absurd (N3 _ hx) (Nat.not_lt.2 Ng)) (e▸hx))
 refine Calls.mono (Em h _ _ _ _ _ _ ‹_› (by rw [hi];exact he) (by exact ho)) ?_
 rintro e Nf ⟨_,rfl,rfl,h,NH⟩
 refine⟨rfl,?_⟩
 have hp:=Ch.call (Ch.call (Ch.call (Ch.made hp Nd) NX.ch (by exact fun k e=>.inr (e▸Ng))) Nh.ch (by exact fun k e=>.inr (e▸Ng))) NH (by exact fun k hk=>.inl hk)
 exact⟨rfl,by rw [show D.more space more=D.set space ⟨((D.at_ space).typ),((D.at_ space).owner),(i64.wrap (((D.at_ space).refs)+more)),((D.at_ space).state),((D.at_ space).bB)⟩from by rw [hi];rfl];exact h,hp⟩
theorem Mg {L:fG} {D:DB} {w:World}(h:DBP w L D)(ak:Int)(t:Int)(space:Int):
 Calls prog 64 #[(.pointer (some (Addr.mk L.g 0 none))),(.int .i64 ak),(.int .i64 t),(.int .i64 space)] w fun e w'=>∃v,e= .returned v∧v= .int .i64 (D.bY ak t space)∧DBP w' L (D.take ak t space)∧Ch L.X w w':=by
 refine Ah (some (Addr.mk L.g 0 none)) _ _ _ ?_
 have h_0:=h
 have hp:=Ch.refl L.X w
 have N3:=h.lt
 refine Calls.mono (Bm h _) ?_
 rintro e wv ⟨_,rfl,rfl,Nj⟩
 refine⟨_,rfl,?_⟩
 rintro _ rfl
 refine dK (fun c1=>?_) (fun c1=>?_)
 ·have h:=h.pu Nj
  have hp:=Ch.pu hp Nj
  exact⟨congrArg (Value.int .i64) (by(simp [DB.take,DB.cl,DB.bY,c1];done)),by rw [show D.take ak t space=D from by(simp [DB.take,DB.cl,DB.bY,c1];done)];exact h,hp⟩
 ·refine⟨fun x w'=>x=(((t:Int) !=2) && (!(DB.turns t)))∧Pu wv w',?_,?_⟩
  ·refine ae (fun c2=>?_) (fun c2=>?_)
   ·refine Calls.mono (K6 _) ?_
    rintro e M5 ⟨_,rfl,rfl,Na⟩
    refine⟨_,rfl,?_⟩
    rintro _ rfl
    exact⟨by simp only [c2,Bool.true_and,Bool.and_true,Bool.false_and,Bool.and_false,Bool.true_or,Bool.or_true,Bool.false_or,Bool.or_false,Bool.not_true,Bool.not_false,if_true,if_false,Bool.false_eq_true],Na⟩
   ·rintro _ rfl
    exact⟨by simp only [c2,Bool.true_and,Bool.and_true,Bool.false_and,Bool.and_false,Bool.true_or,Bool.or_true,Bool.false_or,Bool.or_false,Bool.not_true,Bool.not_false,if_true,if_false,Bool.false_eq_true],Ch.refl _ _⟩
  rintro _ _ M5 ⟨rfl,Na⟩
  refine eS (fun c3=>?_) (fun c3=>?_)
  ·have h:=(h.pu Nj).pu Na
   have hp:=Ch.pu (Ch.pu hp Nj) Na
   exact⟨congrArg (Value.int .i64) (by(simp [DB.take,DB.cl,DB.bY,c1,c3];done)),by rw [show D.take ak t space=D from by(simp [DB.take,DB.cl,DB.bY,c1,c3];done)];exact h,hp⟩
  ·refine⟨fun x w'=>x=((!(D.cp space)) || (decide ((((D.at_ space).refs):Int)≥63)))∧Pu M5 w',?_,?_⟩
   ·have h:=(h.pu Nj).pu Na
    refine Calls.mono (yL h _) ?_
    rintro e M8 ⟨_,rfl,rfl,Nz⟩
    refine⟨_,rfl,?_⟩
    refine ae (fun c4=>?_) (fun c4=>?_)
    ·rintro _ rfl
     exact⟨by simp only [c4,Bool.true_and,Bool.and_true,Bool.false_and,Bool.and_false,Bool.true_or,Bool.or_true,Bool.false_or,Bool.or_false,Bool.not_true,Bool.not_false,if_true,if_false,Bool.false_eq_true],Nz⟩
    ·have h:=h.pu Nz
     refine Calls.mono (dAt h _ (by grind [DB.take,DB.cl,DB.bY,DB.cp])) ?_
     rintro e Nb ⟨_,rfl,rfl,Ns⟩
     refine⟨_,_,_,_,_,rfl,?_⟩
     rintro _ rfl
     exact⟨by simp only [c4,Bool.true_and,Bool.and_true,Bool.false_and,Bool.and_false,Bool.true_or,Bool.or_true,Bool.false_or,Bool.or_false,Bool.not_true,Bool.not_false,if_true,if_false,Bool.false_eq_true],(Ch.pu Nz Ns)⟩
   rintro _ _ M8 ⟨rfl,Nz⟩
   refine cQ (fun c5=>?_) (fun c5=>?_)
   ·have h:=((h.pu Nj).pu Na).pu Nz
    have hp:=Ch.pu (Ch.pu (Ch.pu hp Nj) Na) Nz
    exact⟨congrArg (Value.int .i64) (by grind [DB.take,DB.cl,DB.bY]),by rw [show D.take ak t space=D from by grind [DB.take,DB.cl,DB.bY]];exact h,hp⟩
   ·have h:=((h.pu Nj).pu Na).pu Nz
    refine Calls.mono (dAt h _ ‹_›) ?_
    rintro e Nb ⟨_,rfl,rfl,Ns⟩
    refine⟨_,_,_,_,_,rfl,?_⟩
    rintro _ rfl
    refine aN (fun c6=>?_) (fun c6=>?_)
    ·have h:=h.pu Ns
     have hp:=Ch.pu (Ch.pu (Ch.pu (Ch.pu hp Nj) Na) Nz) Ns
     exact⟨congrArg (Value.int .i64) (by grind [DB.take,DB.cl,DB.bY]),by rw [show D.take ak t space=D from by grind [DB.take,DB.cl,DB.bY]];exact h,hp⟩
    ·have h:=h.pu Ns
     refine Calls.mono (Em h _ _ _ _ _ _ ‹_› (by obtain⟨Oi,Rt⟩:=DB.fC (d:=D) (p:=space) (by grind);have:=DB.ai Oi;have:=h.S64;exact DB.Gn (by grind) (by omega)) (by obtain⟨Oi,Rt⟩:=DB.fC (d:=D) (p:=space) (by grind);exact(DB.ai Oi).2)) ?_
     rintro e Nf ⟨_,rfl,rfl,h,NH⟩
     refine⟨rfl,?_⟩
     refine Calls.mono (Ke h _ _ (by obtain⟨Oi,Rt⟩:=DB.fC (d:=D) (p:=space) (by grind);exact Oi) (by obtain⟨Oi,Rt⟩:=DB.fC (d:=D) (p:=space) (by grind);rw [DB.Ms (d:=D) c1 Oi (by omega)];have h3:=(h_0.ok.at_ Oi).1;have h4:=Ent.fI h3;exact DB.vX h3 Rt (by grind))) ?_
     rintro e Np ⟨_,rfl,rfl,h,ND⟩
     refine⟨rfl,?_⟩
     have hp:=Ch.call (Ch.call (Ch.pu (Ch.pu (Ch.pu (Ch.pu hp Nj) Na) Nz) Ns) NH (by exact fun k hk=>.inl hk)) ND (by exact fun k hk=>.inl hk)
     exact⟨congrArg (Value.int .i64) (by grind [DB.take,DB.cl,DB.bY]),by rw [show D.take ak t space=(D.set ak ⟨t,space,0,0,false⟩).more space 1 from by grind [DB.take,DB.cl,DB.bY]];exact h,hp⟩
theorem El {L:fG} {D:DB} {w:World}(h:DBP w L D)(space:Int)(s:Int):
 Calls prog 43 #[(.pointer (some (Addr.mk L.g 0 none))),(.int .i64 space),(.int .i64 s)] w fun e w'=>∃v,e= .returned v∧v= .int .i64 (D.aT space s)∧DBP w' L (D.setState space s)∧Ch L.X w w':=by
 refine qU (some (Addr.mk L.g 0 none)) _ _ ?_
 have hp:=Ch.refl L.X w
 have N3:=h.lt
 refine Calls.mono (Bm h _) ?_
 rintro e wv ⟨_,rfl,rfl,Nj⟩
 refine⟨_,rfl,?_⟩
 refine dK (fun c1=>?_) (fun c1=>?_)
 ·have h:=h.pu Nj
  have hp:=Ch.pu hp Nj
  exact⟨congrArg (Value.int .i64) (by(simp [DB.setState,DB.aT,c1];done)),by rw [show D.setState space s=D from by(simp [DB.setState,DB.aT,c1];done)];exact h,hp⟩
 ·have h:=h.pu Nj
  refine Calls.mono (dAt h _ ‹_›) ?_
  rintro e M5 ⟨_,rfl,rfl,Na⟩
  refine⟨_,_,_,_,_,rfl,?_⟩
  have hp:=Ch.pu (Ch.pu hp Nj) Na
  refine mkd fun gv M8 Nd=>?_
  have Ng:=Nd.lo hp
  have M3:=Nd.blk
  refine bP M3 (by simp) fun Nb Nh=>?_
  have M3:Blk Nb gv #[(.int .i64 ((D.at_ space).typ)),(.int .i64 ((D.at_ space).owner)),(.int .i64 ((D.at_ space).refs)),(.int .i64 ((D.at_ space).state)),(.bool ((D.at_ space).bB))] _:=Nh.blk
  refine⟨_,M3.at rfl,?_⟩
  rintro _ rfl
  refine aN (fun c2=>?_) (fun c2=>?_)
  ·have h:=((h.pu Na).pu Nd.pu).ch Nh.ch (fun k hx e=>(fun hx=>absurd (N3 _ hx) (Nat.not_lt.2 Ng)) (e▸hx))
   have hp:=Ch.call (Ch.made hp Nd) Nh.ch (by exact fun k e=>.inr (e▸Ng))
   exact⟨congrArg (Value.int .i64) (by(simp [DB.setState,DB.aT,c1,c2];done)),by rw [show D.setState space s=D from by(simp [DB.setState,DB.aT,c1,c2];done)];exact h,hp⟩
  ·refine⟨fun x w'=>x=(((s:Int) !=3) && (((((D.at_ space).state):Int) !=1) || ((s:Int) !=2)))∧Pu Nb w',?_,?_⟩
   ·refine ae (fun c3=>?_) (fun c3=>?_)
    ·refine⟨_,M3.at rfl,?_⟩
     refine ae (fun c4=>?_) (fun c4=>?_)
     ·rintro _ rfl
      exact⟨by simp only [c3,c4,Bool.true_and,Bool.and_true,Bool.false_and,Bool.and_false,Bool.true_or,Bool.or_true,Bool.false_or,Bool.or_false,Bool.not_true,Bool.not_false,if_true,if_false,Bool.false_eq_true],Ch.refl _ _⟩
     ·rintro _ rfl
      exact⟨by simp only [c3,c4,Bool.true_and,Bool.and_true,Bool.false_and,Bool.and_false,Bool.true_or,Bool.or_true,Bool.false_or,Bool.or_false,Bool.not_true,Bool.not_false,if_true,if_false,Bool.false_eq_true],Ch.refl _ _⟩
    ·rintro _ rfl
     exact⟨by simp only [c3,Bool.true_and,Bool.and_true,Bool.false_and,Bool.and_false,Bool.true_or,Bool.or_true,Bool.false_or,Bool.or_false,Bool.not_true,Bool.not_false,if_true,if_false,Bool.false_eq_true],Ch.refl _ _⟩
   rintro _ _ Nf ⟨rfl,NH⟩
   refine eS (fun c5=>?_) (fun c5=>?_)
   ·have h:=(((h.pu Na).pu Nd.pu).ch Nh.ch (fun k hx e=>(fun hx=>absurd (N3 _ hx) (Nat.not_lt.2 Ng)) (e▸hx))).pu NH
    have hp:=Ch.pu (Ch.call (Ch.made hp Nd) Nh.ch (by exact fun k e=>.inr (e▸Ng))) NH
    exact⟨congrArg (Value.int .i64) (by(simp [DB.setState,DB.aT,c1,c2,c5];done)),by rw [show D.setState space s=D from by(simp [DB.setState,DB.aT,c1,c2,c5];done)];exact h,hp⟩
   ·have M3:=Pu.blk NH M3
    refine bZ M3 (by simp) fun Np OM=>?_
    have M3:Blk Np gv #[(.int .i64 ((D.at_ space).typ)),(.int .i64 ((D.at_ space).owner)),(.int .i64 ((D.at_ space).refs)),(.int .i64 s),(.bool ((D.at_ space).bB))] _:=OM.blk
    refine⟨_,_,_,_,_,⟨M3.at rfl,M3.at rfl,M3.at rfl,M3.at rfl,M3.at rfl⟩,?_⟩
    have h:=((((h.pu Na).pu Nd.pu).ch Nh.ch (fun k hx e=>(fun hx=>absurd (N3 _ hx) (Nat.not_lt.2 Ng)) (e▸hx))).pu NH).ch OM.ch (fun k hx e=>(fun hx=>absurd (N3 _ hx) (Nat.not_lt.2 Ng)) (e▸hx))
    refine Calls.mono (Em h _ _ _ _ _ _ ‹_› (by exact DB.J5 (h.ok.at_ c1).1 (by grind) (by grind)) (by exact(h.ok.at_ c1).2.1)) ?_
    rintro e NK ⟨_,rfl,rfl,h,NC⟩
    refine⟨rfl,?_⟩
    have hp:=Ch.call (Ch.call (Ch.pu (Ch.call (Ch.made hp Nd) Nh.ch (by exact fun k e=>.inr (e▸Ng))) NH) OM.ch (by exact fun k e=>.inr (e▸Ng))) NC (by exact fun k hk=>.inl hk)
    exact⟨congrArg (Value.int .i64) (by grind [DB.setState,DB.aT]),by rw [show D.setState space s=D.set space ⟨((D.at_ space).typ),((D.at_ space).owner),((D.at_ space).refs),s,((D.at_ space).bB)⟩from by grind [DB.setState,DB.aT]];exact h,hp⟩
theorem Mj {L:fG} {D:DB} {w:World}(h:DBP w L D)(ak:Int):
 Calls prog 45 #[(.pointer (some (Addr.mk L.g 0 none))),(.int .i64 ak)] w fun e w'=>∃v,e= .returned v∧v= .int .i64 (D.cR ak)∧DBP w' L (D.dB ak)∧Ch L.X w w':=by
 refine Ar (some (Addr.mk L.g 0 none)) _ ?_
 have h_0:=h
 have hp:=Ch.refl L.X w
 have N3:=h.lt
 refine Calls.mono (Bm h _) ?_
 rintro e wv ⟨_,rfl,rfl,Nj⟩
 refine⟨_,rfl,?_⟩
 refine dK (fun c1=>?_) (fun c1=>?_)
 ·have h:=h.pu Nj
  have hp:=Ch.pu hp Nj
  exact⟨congrArg (Value.int .i64) (by(simp [DB.dB,DB.aX,DB.cR,DB.ay,DB.cE,Mem.dU,DB.fL,DB.dA,DB.mem_set,DB.more,c1];done)),by rw [show D.dB ak=D from by(simp [DB.dB,DB.aX,DB.cR,DB.ay,DB.cE,Mem.dU,DB.fL,DB.dA,DB.mem_set,DB.more,c1];done)];exact h,hp⟩
 ·have h:=h.pu Nj
  refine Calls.mono (dAt h _ ‹_›) ?_
  rintro e M5 ⟨_,rfl,rfl,Na⟩
  refine⟨_,_,_,_,_,rfl,?_⟩
  have hp:=Ch.pu (Ch.pu hp Nj) Na
  refine mkd fun gv M8 Nd=>?_
  have Ng:=Nd.lo hp
  have M3:=Nd.blk
  refine bP M3 (by simp) fun Nb Nh=>?_
  have M3:Blk Nb gv #[(.int .i64 ((D.at_ ak).typ)),(.int .i64 ((D.at_ ak).owner)),(.int .i64 ((D.at_ ak).refs)),(.int .i64 ((D.at_ ak).state)),(.bool ((D.at_ ak).bB))] _:=Nh.blk
  refine⟨_,M3.at rfl,?_⟩
  rintro _ rfl
  refine aK (fun c2=>?_) (fun c2=>?_)
  ·have h:=((h.pu Na).pu Nd.pu).ch Nh.ch (fun k hx e=>(fun hx=>absurd (N3 _ hx) (Nat.not_lt.2 Ng)) (e▸hx))
   have hp:=Ch.call (Ch.made hp Nd) Nh.ch (by exact fun k e=>.inr (e▸Ng))
   exact⟨congrArg (Value.int .i64) (by(simp [DB.dB,DB.aX,DB.cR,DB.ay,DB.cE,Mem.dU,DB.fL,DB.dA,DB.mem_set,DB.more,c1,c2];done)),by rw [show D.dB ak=D from by(simp [DB.dB,DB.aX,DB.cR,DB.ay,DB.cE,Mem.dU,DB.fL,DB.dA,DB.mem_set,DB.more,c1,c2];done)];exact h,hp⟩
  ·refine⟨fun x w'=>x=(((((D.at_ ak).typ):Int)==1) && (decide ((((D.at_ ak).refs):Int)>0)))∧Pu Nb w',?_,?_⟩
   ·refine⟨_,M3.at rfl,?_⟩
    refine ae (fun c3=>?_) (fun c3=>?_)
    ·refine⟨_,M3.at rfl,?_⟩
     rintro _ rfl
     exact⟨by simp only [c3,Bool.true_and,Bool.and_true,Bool.false_and,Bool.and_false,Bool.true_or,Bool.or_true,Bool.false_or,Bool.or_false,Bool.not_true,Bool.not_false,if_true,if_false,Bool.false_eq_true],Ch.refl _ _⟩
    ·rintro _ rfl
     exact⟨by simp only [c3,Bool.true_and,Bool.and_true,Bool.false_and,Bool.and_false,Bool.true_or,Bool.or_true,Bool.false_or,Bool.or_false,Bool.not_true,Bool.not_false,if_true,if_false,Bool.false_eq_true],Ch.refl _ _⟩
   rintro _ _ Nf ⟨rfl,NH⟩
   refine eS (fun c4=>?_) (fun c4=>?_)
   ·have h:=(((h.pu Na).pu Nd.pu).ch Nh.ch (fun k hx e=>(fun hx=>absurd (N3 _ hx) (Nat.not_lt.2 Ng)) (e▸hx))).pu NH
    have hp:=Ch.pu (Ch.call (Ch.made hp Nd) Nh.ch (by exact fun k e=>.inr (e▸Ng))) NH
    exact⟨congrArg (Value.int .i64) (by(simp [DB.dB,DB.aX,DB.cR,DB.ay,DB.cE,Mem.dU,DB.fL,DB.dA,DB.mem_set,DB.more,c1,c2,c4];done)),by rw [show D.dB ak=D from by(simp [DB.dB,DB.aX,DB.cR,DB.ay,DB.cE,Mem.dU,DB.fL,DB.dA,DB.mem_set,DB.more,c1,c2,c4];done)];exact h,hp⟩
   ·have h:=(((h.pu Na).pu Nd.pu).ch Nh.ch (fun k hx e=>(fun hx=>absurd (N3 _ hx) (Nat.not_lt.2 Ng)) (e▸hx))).pu NH
    refine Calls.mono (Em h _ _ _ _ _ _ ‹_› (by exact Ent.wq) (by have:=DB.ai c1;omega)) ?_
    rintro e Np ⟨_,rfl,rfl,h,ND⟩
    refine⟨rfl,?_⟩
    refine⟨fun x w'=>x=(((((D.at_ ak).typ):Int) !=1) && (((D.set ak ⟨0,0,0,0,false⟩).cp ((D.at_ ak).owner)) && (decide (((((D.set ak ⟨0,0,0,0,false⟩).at_ ((D.at_ ak).owner)).refs):Int)>0))))∧Pu Np w',?_,?_⟩
    ·have M3:=Ch.blk ND (Pu.blk NH M3) (fun hx=>absurd (N3 _ hx) (Nat.not_lt.2 Ng))
     refine⟨_,M3.at rfl,?_⟩
     refine ae (fun c5=>?_) (fun c5=>?_)
     ·refine⟨_,M3.at rfl,?_⟩
      refine Calls.mono (yL h _) ?_
      rintro e NK ⟨_,rfl,rfl,NC⟩
      refine⟨_,rfl,?_⟩
      refine ae (fun c6=>?_) (fun c6=>?_)
      ·have M3:=Pu.blk NC M3
       refine⟨_,M3.at rfl,?_⟩
       have h:=h.pu NC
       refine Calls.mono (dAt h _ (by grind [DB.dB,DB.aX,DB.cR,DB.ay,DB.cE,Mem.dU,DB.fL,DB.dA,DB.mem_set,DB.more,DB.cp])) ?_
       rintro e NG ⟨_,rfl,rfl,Nx⟩
       refine⟨_,_,_,_,_,rfl,?_⟩
       exact⟨by simp only [c5,c6,Bool.true_and,Bool.and_true,Bool.false_and,Bool.and_false,Bool.true_or,Bool.or_true,Bool.false_or,Bool.or_false,Bool.not_true,Bool.not_false,if_true,if_false,Bool.false_eq_true],(Ch.pu NC Nx)⟩
      ·exact⟨by simp only [c5,c6,Bool.true_and,Bool.and_true,Bool.false_and,Bool.and_false,Bool.true_or,Bool.or_true,Bool.false_or,Bool.or_false,Bool.not_true,Bool.not_false,if_true,if_false,Bool.false_eq_true],NC⟩
     ·exact⟨by simp only [c5,Bool.true_and,Bool.and_true,Bool.false_and,Bool.and_false,Bool.true_or,Bool.or_true,Bool.false_or,Bool.or_false,Bool.not_true,Bool.not_false,if_true,if_false,Bool.false_eq_true],Ch.refl _ _⟩
    rintro _ _ NK ⟨rfl,NC⟩
    refine eS (fun c7=>?_) (fun c7=>?_)
    ·have M3:=Pu.blk NC (Ch.blk ND (Pu.blk NH M3) (fun hx=>absurd (N3 _ hx) (Nat.not_lt.2 Ng)))
     refine⟨_,M3.at rfl,?_⟩
     have h:=h.pu NC
     refine Calls.mono (Ke h _ _ (by exact(DB.fC (d:=D.set ak ⟨0,0,0,0,false⟩) (by grind)).1) (by have h2:=DB.fC (d:=D.set ak ⟨0,0,0,0,false⟩) (p:=(D.at_ ak).owner) (by grind);have h3:=Ent.fI (h.ok.at_ h2.1).1;exact DB.vX (h.ok.at_ h2.1).1 h2.2 (by grind))) ?_
     rintro e NG ⟨_,rfl,rfl,h,Nx⟩
     refine⟨rfl,?_⟩
     refine⟨bXU [3] [] NG.drew L.M.X,?_⟩
     have h:=h.pu (Pu.aU _)
     obtain⟨_,dhd_h⟩:=h.hd
     refine ah _ rfl ⟨.inr ⟨by decide,bX.ld dhd_h (h.dis.2.1) _⟩,_,dhd_h.at rfl,?_⟩
     refine Calls.mono (mw _) ?_
     rintro e Nk ⟨_,rfl,rfl,Nw⟩
     refine⟨_,_,rfl,?_⟩
     refine bXU.eW Nw (by decide) ?_
     have h:=h.pu Nw
     refine Calls.mono (GY h _ _) ?_
     rintro e Ol ⟨_,rfl,rfl,h,On⟩
     refine⟨_,rfl,?_⟩
     refine bXU.more On (by intro k hk;exact .inl hk) (by decide) ?_
     have hp:=Ch.call (Ch.pu (Ch.drew (Ch.call (Ch.pu (Ch.call (Ch.pu (Ch.call (Ch.made hp Nd) Nh.ch (by exact fun k e=>.inr (e▸Ng))) NH) ND (by exact fun k hk=>.inl hk)) NC) Nx (by exact fun k hk=>.inl hk))) Nw) (On.mono L.inM) (by exact fun k hk=>.inl hk)
     exact⟨congrArg (Value.int .i64) (by grind [DB.dB,DB.aX,DB.cR,DB.ay,DB.cE,Mem.dU,DB.fL,DB.dA,DB.mem_set,DB.more]),by rw [show D.dB ak=(((D.set ak ⟨0,0,0,0,false⟩).more ((D.at_ ak).owner) (-1)).aD (((D.set ak ⟨0,0,0,0,false⟩).more ((D.at_ ak).owner) (-1)).mem.zero true ak))from by grind [DB.dB,DB.aX,DB.cR,DB.ay,DB.cE,Mem.dU,DB.fL,DB.dA,DB.mem_set,DB.more]];exact h,hp⟩
    ·refine⟨bXU [3] [] NK.drew L.M.X,?_⟩
     have h:=(h.pu NC).pu (Pu.aU _)
     obtain⟨_,dhd_h⟩:=h.hd
     refine ah _ rfl ⟨.inr ⟨by decide,bX.ld dhd_h (h.dis.2.1) _⟩,_,dhd_h.at rfl,?_⟩
     refine Calls.mono (mw _) ?_
     rintro e NG ⟨_,rfl,rfl,Nx⟩
     refine⟨_,_,rfl,?_⟩
     refine bXU.eW Nx (by decide) ?_
     have h:=h.pu Nx
     refine Calls.mono (GY h _ _) ?_
     rintro e Nk ⟨_,rfl,rfl,h,Nw⟩
     refine⟨_,rfl,?_⟩
     refine bXU.more Nw (by intro k hk;exact .inl hk) (by decide) ?_
     have hp:=Ch.call (Ch.pu (Ch.drew (Ch.pu (Ch.call (Ch.pu (Ch.call (Ch.made hp Nd) Nh.ch (by exact fun k e=>.inr (e▸Ng))) NH) ND (by exact fun k hk=>.inl hk)) NC)) Nx) (Nw.mono L.inM) (by exact fun k hk=>.inl hk)
     exact⟨congrArg (Value.int .i64) (by grind [DB.dB,DB.aX,DB.cR,DB.ay,DB.cE,Mem.dU,DB.fL,DB.dA,DB.mem_set,DB.more]),by rw [show D.dB ak=((D.set ak ⟨0,0,0,0,false⟩).aD ((D.set ak ⟨0,0,0,0,false⟩).mem.zero true ak))from by grind [DB.dB,DB.aX,DB.cR,DB.ay,DB.cE,Mem.dU,DB.fL,DB.dA,DB.mem_set,DB.more]];exact h,hp⟩
theorem Bj {L:fG} {D:DB} {w:World}(h:DBP w L D)(space:Int)(first:Int):
 Calls prog 60 #[(.pointer (some (Addr.mk L.g 0 none))),(.int .i64 space),(.int .i64 first)] w fun e w'=>∃v,e= .returned v∧v= .int .i64 (D.aQ space first)∧DBP w' L (D.aJ space first)∧Ch L.X w w':=by
 refine qf (some (Addr.mk L.g 0 none)) _ _ ?_
 have h64:=h.S64
 have hbo:=h.ok.ax
 have hp:=Ch.refl L.X w
 have N3:=h.lt
 refine⟨fun x w'=>x=((!(D.has space)) || (!(D.has first)))∧Pu w w',?_,?_⟩
 ·refine Calls.mono (Bm h _) ?_
  rintro e wv ⟨_,rfl,rfl,Nj⟩
  refine⟨_,rfl,?_⟩
  refine ae (fun c1=>?_) (fun c1=>?_)
  ·rintro _ rfl
   exact⟨by simp only [c1,Bool.true_and,Bool.and_true,Bool.false_and,Bool.and_false,Bool.true_or,Bool.or_true,Bool.false_or,Bool.or_false,Bool.not_true,Bool.not_false,if_true,if_false,Bool.false_eq_true],Nj⟩
  ·have h:=h.pu Nj
   refine Calls.mono (Bm h _) ?_
   rintro e M5 ⟨_,rfl,rfl,Na⟩
   refine⟨_,rfl,?_⟩
   rintro _ rfl
   exact⟨by simp only [c1,Bool.true_and,Bool.and_true,Bool.false_and,Bool.and_false,Bool.true_or,Bool.or_true,Bool.false_or,Bool.or_false,Bool.not_true,Bool.not_false,if_true,if_false,Bool.false_eq_true],(Ch.pu Nj Na)⟩
 rintro _ _ wv ⟨rfl,Nj⟩
 refine cQ (fun c2=>?_) (fun c2=>?_)
 ·have h:=h.pu Nj
  have hp:=Ch.pu hp Nj
  exact⟨congrArg (Value.int .i64) (by grind [DB.aJ,DB.aZ,DB.aQ]),by rw [show D.aJ space first=D from by grind [DB.aJ,DB.aZ,DB.aQ]];exact h,hp⟩
 ·rintro _ rfl
  refine aK (fun c3=>?_) (fun c3=>?_)
  ·have h:=h.pu Nj
   have hp:=Ch.pu hp Nj
   exact⟨congrArg (Value.int .i64) (by(simp [DB.aJ,DB.aZ,DB.aQ,c2,c3];done)),by rw [show D.aJ space first=D from by(simp [DB.aJ,DB.aZ,DB.aQ,c2,c3];done)];exact h,hp⟩
  ·refine⟨fun x w'=>x=(((((D.at_ space).typ):Int) !=0) || ((((D.at_ first).typ):Int) !=0))∧Pu wv w',?_,?_⟩
   ·have h:=h.pu Nj
    refine Calls.mono (dAt h _ (by grind [DB.aJ,DB.aZ,DB.aQ])) ?_
    rintro e M5 ⟨_,rfl,rfl,Na⟩
    refine⟨_,_,_,_,_,rfl,?_⟩
    refine ae (fun c4=>?_) (fun c4=>?_)
    ·rintro _ rfl
     exact⟨by simp only [c4,Bool.true_and,Bool.and_true,Bool.false_and,Bool.and_false,Bool.true_or,Bool.or_true,Bool.false_or,Bool.or_false,Bool.not_true,Bool.not_false,if_true,if_false,Bool.false_eq_true],Na⟩
    ·have h:=h.pu Na
     refine Calls.mono (dAt h _ (by grind [DB.aJ,DB.aZ,DB.aQ])) ?_
     rintro e M8 ⟨_,rfl,rfl,Nz⟩
     refine⟨_,_,_,_,_,rfl,?_⟩
     rintro _ rfl
     exact⟨by simp only [c4,Bool.true_and,Bool.and_true,Bool.false_and,Bool.and_false,Bool.true_or,Bool.or_true,Bool.false_or,Bool.or_false,Bool.not_true,Bool.not_false,if_true,if_false,Bool.false_eq_true],(Ch.pu Na Nz)⟩
   rintro _ _ M5 ⟨rfl,Na⟩
   refine cQ (fun c5=>?_) (fun c5=>?_)
   ·have h:=(h.pu Nj).pu Na
    have hp:=Ch.pu (Ch.pu hp Nj) Na
    exact⟨congrArg (Value.int .i64) (by grind [DB.aJ,DB.aZ,DB.aQ]),by rw [show D.aJ space first=D from by grind [DB.aJ,DB.aZ,DB.aQ]];exact h,hp⟩
   ·have h:=(h.pu Nj).pu Na
    obtain⟨_,dhd_h⟩:=h.hd
    refine ah _ rfl ⟨_,dhd_h.at rfl,?_⟩
    rintro _ rfl
    refine aq (fun c6=>?_) (fun c6=>?_)
    ·have hp:=Ch.pu (Ch.pu hp Nj) Na
     exact⟨congrArg (Value.int .i64) (by(simp [DB.aJ,DB.aZ,DB.aQ,c2,c3,c5,c6];done)),by rw [show D.aJ space first=D from by(simp [DB.aJ,DB.aZ,DB.aQ,c2,c3,c5,c6];done)];exact h,hp⟩
    ·refine Calls.mono (Em h _ _ _ _ _ _ (by(show D.has space=true;grind)) (by have h1:D.has space=true:=(by grind);have:=DB.ai h1;simp only [Ent.ok,decide_eq_true_eq];simp;omega) (by exact(DB.ai (d:=D) (p:=space) (by grind)).2)) ?_
     rintro e M8 ⟨_,rfl,rfl,h,Nz⟩
     refine⟨rfl,?_⟩
     refine Calls.mono (Em h _ _ _ _ _ _ (by(show D.has first=true;grind)) (by have h1:D.has space=true:=(by grind);have:=DB.ai h1;simp only [Ent.ok,decide_eq_true_eq];simp;omega) (by exact(DB.ai (d:=D) (p:=space) (by grind)).2)) ?_
     rintro e Nb ⟨_,rfl,rfl,h,Ns⟩
     refine⟨rfl,?_⟩
     refine⟨bXU [3] [] Nb.drew L.M.X,?_⟩
     have h:=h.pu (Pu.aU _)
     obtain⟨_,dhd_h⟩:=h.hd
     refine ah _ rfl ⟨.inr ⟨by decide,bX.ld dhd_h (h.dis.2.1) _⟩,_,dhd_h.at rfl,?_⟩
     refine Calls.mono (mw _) ?_
     rintro e Nf ⟨_,rfl,rfl,NH⟩
     refine⟨_,_,rfl,?_⟩
     refine bXU.eW NH (by decide) ?_
     have h:=h.pu NH
     refine Calls.mono (wx h _ _ _ _ (by exact pj _)) ?_
     rintro e Np ⟨_,rfl,rfl,h,ND⟩
     refine⟨_,rfl,?_⟩
     refine bXU.more ND (by intro k hk;exact .inl hk) (by decide) ?_
     refine⟨bXU [3,9] [] Np.drew L.M.X,?_⟩
     have h:=h.pu (Pu.aU _)
     obtain⟨_,dhd_h⟩:=h.hd
     refine ah _ rfl ⟨.inr ⟨by decide,bX.ld dhd_h (h.dis.2.1) _⟩,_,dhd_h.at rfl,ah _ rfl ⟨.inr ⟨by decide,bX.ld dhd_h (h.dis.2.1) _⟩,_,dhd_h.at rfl,?_⟩⟩
     refine Calls.mono (mw _) ?_
     rintro e NK ⟨_,rfl,rfl,NC⟩
     refine⟨_,_,rfl,?_⟩
     refine bXU.eW NC (by decide) ?_
     have h:=h.pu NC
     refine Calls.mono (wx h _ _ _ _ (by exact pj _)) ?_
     rintro e NG ⟨_,rfl,rfl,h,Nx⟩
     refine⟨_,rfl,?_⟩
     refine bXU.more Nx (by intro k hk;exact .inl hk) (by decide) ?_
     refine⟨bXU [3] [] NG.drew L.M.X,?_⟩
     have h:=h.pu (Pu.aU _)
     obtain⟨_,dhd_h⟩:=h.hd
     refine ah _ rfl ⟨.inr ⟨by decide,bX.ld dhd_h (h.dis.2.1) _⟩,_,dhd_h.at rfl,?_⟩
     refine Calls.mono (mw _) ?_
     rintro e Nk ⟨_,rfl,rfl,Nw⟩
     refine⟨_,_,rfl,?_⟩
     refine bXU.eW Nw (by decide) ?_
     have h:=h.pu Nw
     refine Calls.mono (wx h _ _ _ _ (by omega)) ?_
     rintro e Ol ⟨_,rfl,rfl,h,On⟩
     refine⟨_,rfl,?_⟩
     refine bXU.more On (by intro k hk;exact .inl hk) (by decide) ?_
     obtain⟨_,dhd_h⟩:=h.hd
     refine ah _ rfl ⟨_,dhd_h.at rfl,ah _ rfl (bZ dhd_h (by simp) fun QC Td=>?_)⟩
     have h:=h.DU Td (by show 0≤i64.wrap (D.ax+1)∧i64.wrap (D.ax+1)≤64;rw [aA (by omega)];omega)
     have hp:=Ch.call (Ch.call (Ch.pu (Ch.drew (Ch.call (Ch.pu (Ch.drew (Ch.call (Ch.pu (Ch.drew (Ch.call (Ch.call (Ch.pu (Ch.pu hp Nj) Na) Nz (by exact fun k hk=>.inl hk)) Ns (by exact fun k hk=>.inl hk))) NH) (ND.mono L.inM) (by exact fun k hk=>.inl hk))) NC) (Nx.mono L.inM) (by exact fun k hk=>.inl hk))) Nw) (On.mono L.inM) (by exact fun k hk=>.inl hk)) Td.ch (by exact fun k e=>.inl (by subst e;exact .inl rfl))
     exact⟨congrArg (Value.int .i64) (by(simp [DB.aJ,DB.aZ,DB.aQ,c2,c3,c5,c6];done)),by rw [show D.aJ space first=(((((D.set space ⟨1,space,1,1,false⟩).set first ⟨3,space,0,0,false⟩).aD (((D.set space ⟨1,space,1,1,false⟩).set first ⟨3,space,0,0,false⟩).mem.write true space 0 (u32.wrap first))).aD ((((D.set space ⟨1,space,1,1,false⟩).set first ⟨3,space,0,0,false⟩).aD (((D.set space ⟨1,space,1,1,false⟩).set first ⟨3,space,0,0,false⟩).mem.write true space 0 (u32.wrap first))).mem.write true space 1 (u32.wrap ((((D.set space ⟨1,space,1,1,false⟩).set first ⟨3,space,0,0,false⟩).aD (((D.set space ⟨1,space,1,1,false⟩).set first ⟨3,space,0,0,false⟩).mem.write true space 0 (u32.wrap first))).ax)))).aD (((((D.set space ⟨1,space,1,1,false⟩).set first ⟨3,space,0,0,false⟩).aD (((D.set space ⟨1,space,1,1,false⟩).set first ⟨3,space,0,0,false⟩).mem.write true space 0 (u32.wrap first))).aD ((((D.set space ⟨1,space,1,1,false⟩).set first ⟨3,space,0,0,false⟩).aD (((D.set space ⟨1,space,1,1,false⟩).set first ⟨3,space,0,0,false⟩).mem.write true space 0 (u32.wrap first))).mem.write true space 1 (u32.wrap ((((D.set space ⟨1,space,1,1,false⟩).set first ⟨3,space,0,0,false⟩).aD (((D.set space ⟨1,space,1,1,false⟩).set first ⟨3,space,0,0,false⟩).mem.write true space 0 (u32.wrap first))).ax)))).mem.write true space 2 0)).gu (i64.wrap (((((((D.set space ⟨1,space,1,1,false⟩).set first ⟨3,space,0,0,false⟩).aD (((D.set space ⟨1,space,1,1,false⟩).set first ⟨3,space,0,0,false⟩).mem.write true space 0 (u32.wrap first))).aD ((((D.set space ⟨1,space,1,1,false⟩).set first ⟨3,space,0,0,false⟩).aD (((D.set space ⟨1,space,1,1,false⟩).set first ⟨3,space,0,0,false⟩).mem.write true space 0 (u32.wrap first))).mem.write true space 1 (u32.wrap ((((D.set space ⟨1,space,1,1,false⟩).set first ⟨3,space,0,0,false⟩).aD (((D.set space ⟨1,space,1,1,false⟩).set first ⟨3,space,0,0,false⟩).mem.write true space 0 (u32.wrap first))).ax)))).aD (((((D.set space ⟨1,space,1,1,false⟩).set first ⟨3,space,0,0,false⟩).aD (((D.set space ⟨1,space,1,1,false⟩).set first ⟨3,space,0,0,false⟩).mem.write true space 0 (u32.wrap first))).aD ((((D.set space ⟨1,space,1,1,false⟩).set first ⟨3,space,0,0,false⟩).aD (((D.set space ⟨1,space,1,1,false⟩).set first ⟨3,space,0,0,false⟩).mem.write true space 0 (u32.wrap first))).mem.write true space 1 (u32.wrap ((((D.set space ⟨1,space,1,1,false⟩).set first ⟨3,space,0,0,false⟩).aD (((D.set space ⟨1,space,1,1,false⟩).set first ⟨3,space,0,0,false⟩).mem.write true space 0 (u32.wrap first))).ax)))).mem.write true space 2 0)).ax)+1))from by have h5:D.has first=true:=(by grind);have h6:=DB.ai h5;have e1:u32.wrap first=first:=dI (by omega);have e2:u32.wrap D.ax=D.ax:=dI (by omega);have e3:i64.wrap (D.ax+1)=D.ax+1:=aA (by omega);show D.aJ space first=(((((D.set space ⟨1,space,1,1,false⟩).set first ⟨3,space,0,0,false⟩)).aD (((D.mem.write true space 0 (u32.wrap first)).write true space 1 (u32.wrap D.ax)).write true space 2 0)).gu (i64.wrap (D.ax+1)));rw [e1,e2,e3];unfold DB.aJ;rw [if_pos (by grind [DB.aQ])];rfl];exact h,hp⟩
end
section
set_option maxRecDepth 10000
set_option maxHeartbeats 1000000
end
section
set_option maxRecDepth 10000
set_option maxHeartbeats 1000000
theorem MY {L:eP} {m:Mem} {w:World}(h:cA w L m)(hS:1≤m.S):
 Calls prog 29 #[(.pointer (some (Addr.mk L.g 0 none)))] w fun e w'=>∃v,e= .returned v∧∃g:Nat,∃a:Nat,v= .pointer (some (Addr.mk g 0 none))∧cA w' L (m.dm m.S)∧DBP w' ⟨g,a,L⟩ (DB.new m)∧(w.heap.size≤g∧w.heap.size≤a)∧Ch L.X w w':=by
 refine Cc (some (Addr.mk L.g 0 none)) ?_
 have hm:=h.eU
 have hp:=Ch.refl L.X w
 have N3:=h.lt
 refine mi ?_
 refine Calls.mono (v7 h) ?_
 rintro e w9 ⟨_,rfl,rfl,e9⟩
 obtain rfl:=e9.symm
 refine⟨_,rfl,?_⟩
 refine⟨fun mz x8 W=>mz=(m.S - x8).toNat∧(0≤x8∧x8≤m.S)∧Ch L.X w W∧cA W L (m.dm x8.toNat),⟨_,rfl,(by omega),hp,by exact h⟩,?_⟩
 rintro _ _ x8 M5 ⟨rfl,h0,hp,h⟩
 refine aq (fun c1=>?_) (fun c1=>?_)
 ·refine Calls.mono (mw _) ?_
  rintro e M8 ⟨_,rfl,rfl,Nz⟩
  refine⟨_,_,rfl,?_⟩
  have h:=h.pu Nz
  refine Calls.mono (J9 h _ _) ?_
  rintro e Nb ⟨_,rfl,rfl,h,Ns⟩
  refine⟨_,rfl,?_⟩
  have hp:=Ch.call (Ch.pu hp Nz) Ns (by exact fun k hk=>.inl hk)
  exact⟨_,by rw [IntKind.wrap_i64];omega,rfl,by rw [IntKind.wrap_i64];omega,hp,by rw [Mem.Ax _ (by omega)];exact h⟩
 ·have RM:=h.lt
  have Ud:=hp
  have hx:x8.toNat=m.S:=by omega
  have Rk:=h.eU.1
  have Wo:Int.toNat (i64.wrap (2*(((m.dm x8.toNat).S:Nat):Int)))=2*m.S:=by rw [Mem.l6,aA (by omega)];omega
  refine Calls.mono (v7 h) ?_
  rintro e w9 ⟨_,rfl,rfl,e9⟩
  obtain rfl:=e9.symm
  refine⟨_,rfl,?_⟩
  refine Gz nY ((⟨0⟩:U32)) (by rfl) (n:=(i64.wrap (2*((m.dm x8.toNat).S)))) (by rw [aA (by omega)];omega) (by rw [aA (by omega)];omega) (by rw [aA (by omega)];omega) fun Vd Nb Pb OE=>?_
  have lo_g_wv3:=Pb.lo hp
  refine mkd fun Nc Nf Nq=>?_
  have M7:=Nq.blk
  have h:=(h.pu Pb.pu).pu Nq.pu
  have hp:=Ch.made (Ch.made hp Pb) Nq
  exact⟨Nc,Vd,rfl,by rw [show(m.dm m.S)=(m.dm x8.toNat)from by rw [hx]];exact h,⟨⟨_,Blk.cast M7 (by rw [Wo];show _=_;simp only [DB.n2,DB.new,Mem.l6])⟩,⟨_,_,Made.old Nq Pb.blk,by rw [Array.size_replicate,Wo];show _=2*(m.dm m.S).S;rw [Mem.l6],fun p hp=>by have PZ:p<m.S:=(by rwa [DB.J6]at hp);exact⟨CF (by rw [Wo];omega),CF (by rw [Wo];omega)⟩⟩,by show cA _ _ (m.dm m.S);rw [← hx];exact h,DB.ju m hS,by have:=Nq.num;have:=Pb.lt;simp only [];omega,fun hh=>absurd (show Nc<M5.heap.size from RM _ hh) (by have:=Nq.num;have:=Pb.kept.size;omega),fun hh=>absurd (show Vd<M5.heap.size from RM _ hh) (by have:=Pb.num;omega)⟩,by have h1:=Nq.num;have h2:=Pb.num;have h3:=Pb.kept.size;have h4:=Ud.size;omega,hp⟩
theorem K5 {L:fG} {D:DB} {w:World}(h:DBP w L D):
 Calls prog 52 #[(.pointer (some (Addr.mk L.g 0 none)))] w fun e w'=>∃v,e= .returned v∧∃g:Nat,∃n:Nat,v= .slice (some (Addr.mk g 0 none)) n n∧Own w' (fun k=>k=g) 29 (some (Addr.mk g 0 none)) n n (D.words.map U32.mk)∧w.heap.size≤g∧Pu w w':=by
 refine xg (some (Addr.mk L.g 0 none)) ?_
 have h64:=h.S64
 have hb:=h.ok.ax
 have Ug:Int.toNat (i64.wrap (1+((D.n2:Nat):Int)))=1+2*D.S:=by have:D.n2=2*D.S:=rfl;rw [aA (by omega)];omega
 have hp:=Ch.refl (fun _=>False) w
 have N3:=h.lt
 obtain⟨_,dhd_h⟩:=h.hd
 refine ah _ rfl ⟨_,_,_,dhd_h.at rfl,?_⟩
 refine jj nY (n:=(i64.wrap (1+((D.n2:Nat):Int)))) (by have:D.n2=2*D.S:=rfl;rw [aA (by omega)];omega) (by have:D.n2=2*D.S:=rfl;rw [aA (by omega)];omega) (by have:D.n2=2*D.S:=rfl;rw [aA (by omega)];omega) fun aaM wv PX=>?_
 have lo_g_wv:=PX.lo hp
 have O4:Blk wv aaM (bR (List.replicate (Int.toNat (i64.wrap (1+((D.n2:Nat):Int)))) 0)) 29:=PX.blk.cast (fH _ _)
 have dhd_h:=Made.old PX dhd_h
 refine ah _ rfl ⟨_,dhd_h.at rfl,⟨by omega,ah _ rfl (mR (i:=0) O4 (by simp only [List.length_replicate,Ug];omega) fun M5 OV=>?_)⟩⟩
 have O4:=OV.blk
 refine⟨bXU [] [5] M5.drew (fun _=>False),?_⟩
 refine⟨by omega,?_⟩
 rintro _ rfl _ rfl _ rfl
 have dhd_h:=Blk.drew (Ch.blk OV.ch dhd_h (fun e=>absurd (N3 _ (by exact .inl rfl)) (Nat.not_lt.2 (by rw [e];exact lo_g_wv))))
 refine ah _ rfl ⟨.inl (by decide),_,_,_,dhd_h.at rfl,?_⟩
 have O4:=Blk.drew O4
 have h:=((h.pu PX.pu).ch OV.ch (fun k hx e=>(fun hx=>absurd (N3 _ hx) (Nat.not_lt.2 lo_g_wv)) (e▸hx))).pu (Pu.aU _)
 refine oC nY O4 (o:=1) G2 (by(simp;omega)) (h).ints (by(have:D.n2=2*D.S:=rfl;simp only [List.length_set,List.length_replicate];omega)) fun M8 NX=>?_
 have O4:=NX.blk
 refine bXU.sF NX.ch (by decide) ?_
 have hp:=Ch.call (Ch.drew (Ch.call (Ch.made hp PX) OV.ch (by exact fun k e=>.inr (e▸lo_g_wv)))) NX.ch (by exact fun k e=>.inr (e▸lo_g_wv))
 exact⟨aaM,_,by rfl,by have hw:=DB.lay (D:=D) Ug;have hbu:u32.wrap D.ax=D.ax:=dI (by omega);have h9:=O4;rw [hbu]at h9;have e:(min D.n2 (Int.toNat (i64.wrap (1+((D.n2:Nat):Int))) - Int.toNat 1))=min (2*D.S) (Int.toNat (i64.wrap (1+((D.n2:Nat):Int))) - 1):=rfl;rw [e,hw]at h9;exact Own.ofRow h9 (by rw [D.ei,Ug]) (by omega),lo_g_wv,hp⟩
end
end Go.Proofs.YtinhphjfnedhgaaGreatDoor
