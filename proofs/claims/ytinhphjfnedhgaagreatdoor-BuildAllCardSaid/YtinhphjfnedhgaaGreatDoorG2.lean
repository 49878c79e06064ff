/- Chapter 17, BuildAll: every code, all entries and all words of every script are the document's. -/
import Derived.Test.YtinhphjfnedhgaaGreatDoorG1
import Derived.Test.YtinhphjfnedhgaaGreatDoorProg
import Derived.KernelRfl
set_option linter.unusedVariables false
set_option linter.unusedSimpArgs false
namespace Go.Proofs.YtinhphjfnedhgaaGreatDoor.V
open Go Go.RowKit
open Go.IntKind (i64 u32 u64)
open Enc (enc)
section
section
variable {U:Uni} {P:Program} {tbl:Tb U} {may:List Nat} {k0:Nat}
theorem gY {α β:Type}(f:α→β):∀l,aN f l=l.map f
 | []=>rfl
 | a::l=>by simp [aN,gY f l]
theorem bp {α β:Type}(f:α→β):∀(l:List α)(i:Nat),nth (aN f l) i=(nth l i).map f
 | [],_=>rfl
 | _::_,0=>rfl
 | _::l,i+1=>bp f l i
@[simp] theorem Ha {α β:Type}(f:α→β):∀l:List α,(aN f l).length=l.length
 | []=>rfl
 | _::l=>by simp [aN,Ha f l]
theorem ft {x:Nat}:∀ {l:List Nat},lx x l=true↔x∈l
 | []=>by simp [lx]
 | y::r=>by
  unfold lx
  split
  ·rename_i h
   have:=Nat.eq_of_beq_eq_true h
   simp [this]
  ·rename_i h
   have h':¬x=y:=by rintro rfl;simp at h
   rw [ft]
   simp [h']
theorem mU:∀ {l:List Nat},oR l=true→l.Nodup
 | [],_=>List.nodup_nil
 | x::r,h=>by
  unfold oR at h
  split at h
  ·cases h
  ·rename_i hm
   refine List.nodup_cons.2 ⟨fun hx=>?_,mU h⟩
   rw [ft.2 hx]at hm
   cases hm
theorem cC {α:Type} {f:α→Bool}:∀ {l:List α},iN f l=true↔∀x∈l,f x=true
 | []=>by simp [iN]
 | a::r=>by
  unfold iN
  split
  ·rename_i h
   rw [cC]
   simp [h]
  ·rename_i h
   simp [h]
theorem zi {α:Type} {f:α→Bool}:∀ {l:List α},my f l=true↔∃x∈l,f x=true
 | []=>by simp [my]
 | a::r=>by
  unfold my
  split
  ·rename_i h
   simp [h]
  ·rename_i h
   rw [zi]
   simp [h]
theorem r6 {α β:Type} {f:α→Option β}:∀ {l:List α} {r:List β},jf f l=some r→r.length=l.length∧∀i a,nth l i=some a→∃b,f a=some b∧nth r i=some b
 | [],r,h=>by
  simp only [jf,Option.some.injEq]at h
  subst h
  exact⟨rfl,fun i a hi=>by simp [nth]at hi⟩
 | a::l,r,h=>by
  unfold jf at h
  split at h
  ·rename_i b bs hb Xk
   injection h with h
   subst h
   obtain⟨h1,h2⟩:=r6 Xk
   refine⟨by simp [h1],fun i x hx=>?_⟩
   cases i with
   | zero=>simp [nth]at hx;subst hx;exact⟨b,hb,rfl⟩
   | succ i=>exact h2 i x hx
  ·cases h
theorem fG {α:Type}:∀(n:Nat)(l:List α),jP n l=l.take n
 | 0,_=>by simp [jP]
 | n+1,[]=>by simp [jP]
 | n+1,a::l=>by simp [jP,fG n l]
theorem gC {α:Type}:∀(n:Nat)(l:List α),mF n l=l.drop n
 | 0,_=>by simp [mF]
 | n+1,[]=>by simp [mF]
 | n+1,a::l=>by simp [mF,gC n l]
theorem rz {α:Type}:∀(l:List α)(i:Nat)(x:α),cJ l i x=l.set i x
 | [],_,_=>by simp [cJ]
 | _::_,0,_=>rfl
 | _::l,i+1,x=>by simp [cJ,rz l i x]
theorem pE:∀(vs:List Value)(cs:List Value)(o:Nat),setAt ⟨cs⟩ o vs=⟨iC cs o vs⟩
 | [],_,_=>rfl
 | v::r,cs,o=>by
  have e:(Array.mk cs).setIfInBounds o v=⟨cJ cs o v⟩:=by apply Array.ext';simp [rz]
  simp only [setAt,iC,e]
  exact pE r _ _
@[simp] theorem D9 {α:Type}:∀(vs:List α)(cs:List α)(o:Nat),(iC cs o vs).length=cs.length
 | [],_,_=>rfl
 | v::r,cs,o=>by simp [iC,D9 r]
theorem mo {α:Type}:∀(vs:List α)(cs:List α)(o i:Nat),o+vs.length≤cs.length→nth (iC cs o vs) i=if o≤i∧i<o+vs.length then nth vs (i - o)else nth cs i
 | [],cs,o,i,h=>by
  simp only [iC,List.length_nil,Nat.add_zero]
  rw [if_neg (by omega)]
 | v::r,cs,o,i,h=>by
  simp only [List.length_cons]at h
  simp only [iC,List.length_cons]
  rw [mo r _ _ _ (by simp;omega),bB]
  by_cases h1:o+1≤i∧i<o+1+r.length
  ·rw [if_pos h1,if_pos (by omega)]
   have:i - o=(i - (o+1))+1:=by omega
   rw [this];rfl
  ·rw [if_neg h1]
   by_cases h2:i=o
   ·subst h2
    rw [if_pos ⟨rfl,by omega⟩,if_pos (by omega)];simp [nth]
   ·rw [if_neg (by omega),if_neg (by omega)]
theorem dH {f:Key→Kn→Bool} {key:Key} {k:Kn}:∀ {l:List (Key×Kn)},(key,k)∈fl f l→(key,k)∈l∧f key k=true
 | [],h=>by cases h
 | (a,q)::r,h=>by
  unfold fl at h
  split at h
  ·rename_i hf
   rcases List.mem_cons.1 h with e | h
   ·injection e with e1 e2;subst e1;subst e2;exact⟨List.mem_cons_self ..,hf⟩
   ·have:=dH h;exact⟨List.mem_cons_of_mem _ this.1,this.2⟩
  ·have:=dH h;exact⟨List.mem_cons_of_mem _ this.1,this.2⟩
theorem Key.mX:∀ {a b:Key},a.eq b=true→a=b
 | .s a,.s b,h=>by rw [Nat.eq_of_beq_eq_true h]
 | .c a b,.c x y,h=>by
  simp only [Key.eq,Bool.and_eq_true]at h
  rw [Nat.eq_of_beq_eq_true h.1,Nat.eq_of_beq_eq_true h.2]
 | .l a b,.l x y,h=>by
  simp only [Key.eq,Bool.and_eq_true]at h
  rw [Nat.eq_of_beq_eq_true h.1,Nat.eq_of_beq_eq_true h.2]
 | .s _,.l _ _,h=>by cases h
 | .l _ _,.s _,h=>by cases h
 | .c _ _,.l _ _,h=>by cases h
 | .l _ _,.c _ _,h=>by cases h
 | .s _,.c _ _,h=>by cases h
 | .c _ _,.s _,h=>by cases h
theorem ve {key:Key} {k:Kn}:∀ {l:List (Key×Kn)},dw key l=some k→(key,k)∈l
 | [],h=>by cases h
 | (a,q)::r,h=>by
  unfold dw at h
  split at h
  ·rename_i he
   injection h with h
   subst h
   rw [Key.mX he]
   exact List.mem_cons_self ..
  ·exact List.mem_cons_of_mem _ (ve h)
theorem PK.mX:∀ {a b:PK},a.eq b=true→a=b
 | .loc a b,.loc x y,h=>by
  simp only [PK.eq,Bool.and_eq_true]at h
  rw [Nat.eq_of_beq_eq_true h.1,Nat.eq_of_beq_eq_true h.2]
 | .obj a b c,.obj x y z,h=>by
  simp only [PK.eq,Bool.and_eq_true]at h
  rw [Nat.eq_of_beq_eq_true h.1,Nat.eq_of_beq_eq_true h.2.1,Nat.eq_of_beq_eq_true h.2.2]
 | .sl a b,.sl x y,h=>by
  simp only [PK.eq,Bool.and_eq_true]at h
  rw [Nat.eq_of_beq_eq_true h.1,Nat.eq_of_beq_eq_true h.2]
 | .loc ..,.obj ..,h | .loc ..,.sl ..,h | .loc ..,.el ..,h | .obj ..,.loc ..,h | .obj ..,.sl ..,h | .obj ..,.el ..,h | .sl ..,.loc ..,h | .sl ..,.obj ..,h | .sl ..,.el ..,h | .el ..,.loc ..,h | .el ..,.obj ..,h | .el ..,.sl ..,h | .el ..,.el ..,h=>by cases h
theorem Kn.mX {a b:Kn}(h:a.eq b=true):a=b∧∃p,a= .p p:=by
 cases a<;>cases b<;>simp only [Kn.eq]at h<;>first | cases h | skip
 rename_i p q
 exact⟨by rw [PK.mX h],p,rfl⟩
def Kn.has(p:PK):Kn→Prop
 | .p k=>k=p
 | .t l=>∃j,nth l j=some (some p)
 | .ag l=>∃j,nth l j=some (some p)
 | .f a b=>(∃j,nth a j=some (some p))∨∃j,nth b j=some (some p)
 | .pan=>False
theorem jv.mono {rs rs':List (Res U)} {v:Value} {k:Kn}(h:jv rs v k)(hd:∀p,k.has p→∀u,den U rs p=some u→den U rs' p=some u):jv rs' v k:=by
 cases k with
 | pan=>exact h
 | p k=>exact hd k rfl _ h
 | t l=>
  obtain⟨vs,h1,h2⟩:=h
  exact⟨vs,h1,fun j k hj=>by obtain⟨u,hu,Tg⟩:=h2 j k hj;exact⟨u,hu,hd k ⟨j,hj⟩ _ Tg⟩⟩
 | ag l=>
  obtain⟨vs,h1,h2⟩:=h
  exact⟨vs,h1,fun j k hj=>by obtain⟨u,hu,Tg⟩:=h2 j k hj;exact⟨u,hu,hd k ⟨j,hj⟩ _ Tg⟩⟩
 | f a b=>
  obtain⟨f,fs,cs,h1,hl,h2,h3⟩:=h
  exact⟨f,fs,cs,h1,hl,fun j k hj=>by obtain⟨u,hu,Tg⟩:=h2 j k hj;exact⟨u,hu,hd k (.inl ⟨j,hj⟩) _ Tg⟩,fun j k hj=>by obtain⟨u,hu,Tg⟩:=h3 j k hj;exact⟨u,hu,hd k (.inr ⟨j,hj⟩) _ Tg⟩⟩
theorem iJ {α:Type}:∀ {l:List α} {i:Nat} {x:α},nth l i=some x→x∈l
 | a::l,0,x,h=>by simp [nth]at h;subst h;exact List.mem_cons_self ..
 | a::l,i+1,x,h=>List.mem_cons_of_mem _ (iJ (l:=l) h)
theorem Kn.Bq {k:Kn} {i:Nat}(h:k.ofList i=false) {p:PK}(hp:k.has p):p.ofList i=false:=by
 have key:∀ {l:List (Option PK)},my (uY i) l=false→∀j,nth l j=some (some p)→p.ofList i=false:=by
  intro l hl j hj
  cases he:p.ofList i
  ·rfl
  ·have:my (uY i) l=true:=zi.2 ⟨some p,iJ hj,he⟩
   rw [hl]at this
   cases this
 cases k with
 | pan=>exact hp.elim
 | p k=>cases hp;exact h
 | t l=>obtain⟨j,hj⟩:=hp;exact key h j hj
 | ag l=>obtain⟨j,hj⟩:=hp;exact key h j hj
 | f a b=>
  simp only [Kn.ofList]at h
  split at h
  ·cases h
  ·rename_i ha
   rcases hp with⟨j,hj⟩ | ⟨j,hj⟩
   ·exact key ha j hj
   ·exact key h j hj
inductive dI:Res U→Res U→Prop
 | blk (g:Nat)(cs cs':List Value)(T:TypeId):cs.length=cs'.length→dI (.blk g cs T) (.blk g cs' T)
 | ob (t:Nat)(r:Nat→Nat)(s s':U.ty t):dI (.ob t r s) (.ob t r s')
 | lst (t:Nat)(own:Bool)(T:TypeId)(A A':Option Addr)(c c':Nat)(l l':List (U.el t)):dI (.lst t own T A c l) (.lst t own T A' c' l')
theorem dI.refl:∀a:Res U,dI a a
 | .blk g cs T=>.blk g cs cs T rfl
 | .ob t r s=>.ob t r s s
 | .lst t own T A c l=>.lst t own T A A c c l l
theorem dI.den {a b:Res U}(h:dI a b) {p:PK} {v:Value}(hp:p.ofList p.id=false∨a=b)(hd:cz U p (some a)=some v):cz U p (some b)=some v:=by
 rcases hp with hp | rfl
 ·cases h<;>cases p<;>simp only [cz,PK.ofList,PK.id,reduceCtorEq]at hd hp ⊢ <;>first | exact hd | (simp at hp)
 ·exact hd
theorem zc {r r':Res U} {u:Upd U}(h:dz r u=some r'):dI r r':=by
 cases r<;>cases u<;>simp only [dz]at h<;>first | cases h | skip
 ·split at h
  ·rename_i hb
   injection h with h;subst h
   exact .blk _ _ _ _ (Nat.eq_of_beq_eq_true hb).symm
  ·cases h
 ·split at h
  ·rename_i t r s t' s' ht
   subst ht
   injection h with h;subst h
   exact .ob _ _ _ _
  ·cases h
 ·split at h
  ·rename_i t own T A c l t' A' c' l' ht
   subst ht
   injection h with h;subst h
   exact .lst _ _ _ _ _ _ _ _ _
  ·cases h
theorem dI.trans {a b c:Res U}(h:dI a b)(k:dI b c):dI a c:=by
 cases h<;>cases k
 ·rename_i h1 _ h2;exact .blk _ _ _ _ (h1.trans h2)
 ·exact .ob _ _ _ _
 ·exact .lst _ _ _ _ _ _ _ _ _
theorem n7 {rs rs':List (Res U)} {M:List Nat}(hs:∀i,i<rs.length→i ∉ M→nth rs' i=nth rs i)(hr:∀i,i∈M→∀a,nth rs i=some a→∃b,nth rs' i=some b∧dI a b)
 {p:PK}(hp:p.id ∉ M∨p.ofList p.id=false) {v:Value}(hd:den U rs p=some v):den U rs' p=some v:=by
 unfold den at hd ⊢
 cases hn:nth rs p.id with
 | none=>rw [hn]at hd;cases p<;>simp [cz]at hd
 | some a=>
  rw [hn]at hd
  by_cases hm:p.id∈M
  ·obtain⟨b,hb,Vb⟩:=hr _ hm a hn
   rw [hb]
   exact Vb.den (.inl (hp.elim (fun h=>absurd hm h) id)) hd
  ·rw [hs _ (aX hn) hm,hn];exact hd
theorem eE.M8 {rs:List (Res U)} {fr fr':Fr}(h:∀i,lk fr'.g i fr'.e=lk fr.g i fr.e) {key:Key} {k:Kn}(hp:eE rs fr key k):eE rs fr' key k:=by
 cases key with
 | s i=>show jv rs (lk fr'.g i fr'.e) k;rw [h];exact hp
 | c id off=>exact hp
 | l id path=>exact hp
theorem aC.same {rs:List (Res U)} {fr fr':Fr} {kn:List (Key×Kn)}(h:aC rs fr kn)(he:∀i,lk fr'.g i fr'.e=lk fr.g i fr.e):aC rs fr' kn:=fun key k hk=>(h key k hk).M8 he
theorem aC.app {rs:List (Res U)} {fr:Fr} {a b:List (Key×Kn)}(h:aC rs fr a)(k:aC rs fr b):aC rs fr (a++b):=fun key q hq=>(List.mem_append.1 hq).elim (h key q) (k key q)
theorem aC.nil {rs:List (Res U)} {fr:Fr}:aC rs fr []:=fun _ _ h=>by cases h
theorem aC.get {rs:List (Res U)} {fr:Fr} {kn:List (Key×Kn)}(h:aC rs fr kn) {key:Key} {k:Kn}(hk:dw key kn=some k):eE rs fr key k:=h _ _ (ve hk)
theorem aC.kf {rs:List (Res U)} {fr:Fr} {kn:List (Key×Kn)}(h:aC rs fr kn)(x:Operand):KnO rs (ev fr x) (V.kf kn x):=by
 cases x with
 | tmp t=>
  show KnO rs (lk fr.g t fr.e) (dw (.s t) kn)
  cases hg:dw (.s t) kn with
  | none=>exact trivial
  | some k=>exact h.get hg
 | const v=>exact trivial
 | global g=>exact trivial
 | func f=>exact trivial
theorem aC.iL {rs rs':List (Res U)} {fr:Fr} {kn:List (Key×Kn)} {M:List Nat}(h:aC rs fr kn)(hs:∀i,i<rs.length→i ∉ M→nth rs' i=nth rs i)(hr:∀i,i∈M→∀a,nth rs i=some a→∃b,nth rs' i=some b∧dI a b)
 {kn':List (Key×Kn)}(hk:∀key k,(key,k)∈kn'→(key,k)∈kn∧(∀p,k.has p→p.id ∉ M∨p.ofList p.id=false)∧∀id off,key= .c id off→id ∉ M∨∃g cs cs' T,nth rs id=some (.blk g cs T)∧nth rs' id=some (.blk g cs' T)∧nth cs' off=nth cs off):aC rs' fr kn':=by
 intro key k hm
 obtain⟨h1,h2,h3⟩:=hk key k hm
 have h0:=h key k h1
 have hd:∀p,k.has p→∀u,den U rs p=some u→den U rs' p=some u:=fun p hp u hu=>n7 hs hr (h2 p hp) hu
 cases key with
 | s i=>exact jv.mono h0 hd
 | c id off=>
  obtain⟨g,cs,T,v,e1,e2,e3⟩:=h0
  rcases h3 id off rfl with h3 | ⟨g',Ya,X9,T',e4,e5,e6⟩
  ·exact⟨g,cs,T,v,by rw [hs _ (aX e1) h3];exact e1,e2,e3.mono hd⟩
  ·rw [e1]at e4
   injection e4 with e4
   injection e4 with e4 e7 e8
   subst e4;subst e7;subst e8
   exact⟨g,X9,T,v,e5,by rw [e6];exact e2,e3.mono hd⟩
 | l id path=>
  obtain⟨t,r,s,e1,e2⟩:=h0
  by_cases hm:id∈M
  ·obtain⟨b,hb,Vb⟩:=hr id hm _ e1
   cases Vb
   exact⟨t,r,_,hb,e2.mono hd⟩
  ·exact⟨t,r,s,by rw [hs _ (aX e1) hm];exact e1,e2.mono hd⟩
theorem uW {key:Key} {k:Kn}:∀ {M:List Nat} {kn:List (Key×Kn)},(key,k)∈gm M kn→(key,k)∈kn∧∀i∈M,k.ofList i=false∧∀off,key≠ .c i off
 | [],kn,h=>⟨h,fun i hi=>by cases hi⟩
 | i::r,kn,h=>by
  unfold gm at h
  obtain⟨h1,h2⟩:=uW h
  obtain⟨h3,h4⟩:=dH h1
  simp only [Bool.and_eq_true,Bool.not_eq_true']at h4
  refine⟨h3,fun j hj=>?_⟩
  rcases List.mem_cons.1 hj with rfl | hj
  ·refine⟨h4.1,fun off e=>?_⟩
   subst e
   simp at h4
  ·exact h2 j hj
theorem aC.gm {rs rs':List (Res U)} {fr:Fr} {kn:List (Key×Kn)} {M:List Nat}(h:aC rs fr kn)(hs:∀i,i<rs.length→i ∉ M→nth rs' i=nth rs i)(hr:∀i,i∈M→∀a,nth rs i=some a→∃b,nth rs' i=some b∧dI a b):aC rs' fr (V.gm M kn):=by
 refine h.iL hs hr fun key k hk=>?_
 obtain⟨h1,h2⟩:=uW hk
 refine⟨h1,fun p hp=>?_,fun id off e=>?_⟩
 ·by_cases hm:p.id∈M
  ·exact .inr (Kn.Bq (h2 _ hm).1 hp)
  ·exact .inl hm
 ·by_cases hm:id∈M
  ·exact absurd e ((h2 id hm).2 off)
  ·exact .inl hm
theorem Hf {rs:List (Res U)} {fr fr':Fr} {kn:List (Key×Kn)} {d:Nat} {v:Value} {k:Option Kn}(h:aC rs fr kn)(hv:KnO rs v k)(h1:lk fr'.g d fr'.e=v)(h2:∀i,i≠d→lk fr'.g i fr'.e=lk fr.g i fr.e):aC rs fr' (yG (.s d) k kn):=by
 have key:aC rs fr' (fl (fun a _=>!(a.eq (.s d))) kn):=by
  intro a q hq
  obtain⟨hm,hf⟩:=dH hq
  have h0:=h a q hm
  cases a with
  | s i=>
   have P0:i≠d:=by rintro rfl;simp [Key.eq]at hf
   show jv rs (lk fr'.g i fr'.e) q
   rw [h2 i P0];exact h0
  | c id off=>exact h0
  | l id path=>exact h0
 unfold yG
 split
 ·exact key
 ·rename_i q
  intro a z hz
  rcases List.mem_cons.1 hz with e | hz
  ·injection e with e1 e2
   subst e1;subst e2
   show jv rs (lk fr'.g d fr'.e) z
   rw [h1];exact hv
  ·exact key a z hz
theorem wo(g:Nat→Value)(d i:Nat)(v:Value)(e:List (Nat×Value)):lk g i ((d,v)::e)=if i=d then v else lk g i e:=by
 simp only [lk]
 split
 ·rename_i h;rw [if_pos (Nat.eq_of_beq_eq_true h)]
 ·rename_i h;rw [if_neg (by rintro rfl;simp at h)]
theorem jU {n:Nat} {N:List Nat} {fr:Fr} {dst:Option Tmp} {v:Value} {k:Option Kn} {st:St U} {F:Fr→St U→Prop}(h:yl U n N fr dst v k st F)(hk:aC st.rs fr st.kn)(hv:KnO st.rs v k):
 jJ n N fr dst v fun fr'=>∃st',st'.rs=st.rs∧st'.md=st.md∧aC st.rs fr' st'.kn∧fr'.ds=fr.ds∧F fr' st':=by
 unfold yl at h
 unfold jJ at h ⊢
 cases dst with
 | none=>exact⟨st,rfl,rfl,hk,rfl,h⟩
 | some d=>
  dsimp only at h ⊢
  split at h
  ·rename_i hb
   have fin:∀u,u=v→F ⟨(d,u)::fr.e,fr.g,fr.ds⟩ {st with kn:=yG (.s d) k st.kn}→∃st':St U,st'.rs=st.rs∧st'.md=st.md∧aC st.rs ⟨(d,u)::fr.e,fr.g,fr.ds⟩ st'.kn∧fr.ds=fr.ds∧F ⟨(d,u)::fr.e,fr.g,fr.ds⟩ st':=by
    intro u hu hF
    subst hu
    exact⟨{st with kn:=yG (.s d) k st.kn},rfl,rfl,Hf hk hv (by rw [wo,if_pos rfl]) (fun i hi=>by rw [wo,if_neg hi]),rfl,hF⟩
   split at h
   ·rename_i hN
    cases v with
    | int kk x=>intro z hz;exact fin _ (by rw [hz]) (h z hz)
    | bool x=>intro z hz;exact fin _ (by rw [hz]) (h z hz)
    | _=>exact fin _ rfl h
   ·exact fin _ rfl h
  ·exact h.elim
theorem lz {ops:Array Oper} {o:Oper} {fr:Fr} {yes no yes' no':Fr→Prop}(h:iw ops o fr yes no)(hy:∀fr',(∀i,lk fr'.g i fr'.e=lk fr.g i fr.e)→fr'.ds=fr.ds→yes fr'→yes' fr')(hn:∀fr',(∀i,lk fr'.g i fr'.e=lk fr.g i fr.e)→fr'.ds=fr.ds→no fr'→no' fr'):iw ops o fr yes' no':=by
 unfold iw at h ⊢
 split at h
 ·exact hy fr (fun _=>rfl) rfl h
 ·rename_i j want hg
  split at h
  ·rename_i d hd
   split at h
   ·rename_i b hb
    have hl:∀b',lk fr.g d fr.e= .bool b'→∀i,lk fr.g i ((d,.bool b')::fr.e)=lk fr.g i fr.e:=by
     intro b' Qf i
     rw [wo]
     split
     ·rename_i e;rw [e,Qf]
     ·rfl
    rcases fV h with⟨rfl,h2⟩ | ⟨rfl,h2⟩
    ·refine af (fun _=>?_) (fun e=>by cases e)
     cases want
     ·exact hn _ (hl _ hb) rfl h2
     ·exact hy _ (hl _ hb) rfl h2
    ·refine af (fun e=>by cases e) (fun _=>?_)
     cases want
     ·exact hy _ (hl _ hb) rfl h2
     ·exact hn _ (hl _ hb) rfl h2
   ·exact hn fr (fun _=>rfl) rfl h
   ·exact h.elim
  ·exact h.elim
theorem Em {o:Oper} {ρ:Operand→Value} {F:Value→Prop}(hc:∀v,ρ (.const v)=v)(hl:∀t x,o.op≠ .load t x)(h:pJ P o ρ F)(w:World):∃v,F v∧∀w',w'.os=w.os→w'.tape=w.tape→w'.output=w.output→(execOp ρ o).run P w'= .ok (.value v) w':=by
 have hw:pI P none o ρ {w with heap:= #[]} F False:=by
  unfold pJ pI at h
  unfold pI
  generalize o.op=op at h hl ⊢
  cases op<;>first | exact h | exact absurd rfl (hl _ _)
 rcases oO hc hw with⟨v,hv,hr⟩ | hh
 ·exact⟨v,hv,fun w' h1 h2 h3=>hr w' ⟨h1,h2,h3,Nat.zero_le _,fun k hk=>absurd hk (Nat.not_lt_zero _)⟩⟩
 ·exact hh.elim
def rdX(o:Oper)(kn:List (Key×Kn))(X:Nat→Nat→Prop):Nat→Prop:=
 match o.op with
 | .load _ x=>(match V.kf kn x with
  | some (.p k)=>X k.id
  | _=>fun _=>False)
 | _=>fun _=>False
theorem BE {s:TypeId} {x:Value} {f:Nat} {F:Value→Prop}(h:kF P s x f F):∃fields fd p,P.underlying s=some (.struct fields)∧fields[f]? =some fd∧x= .pointer (some p)∧F (.pointer (some (p.add fd.offset)))∧∀w,(Instr.fieldAt s x f).run P w= .ok (.pointer (some (p.add fd.offset))) w:=by
 have key:∀fields fd p,P.underlying s=some (.struct fields)→fields[f]? =some fd→x= .pointer (some p)→∀w,(Instr.fieldAt s x f).run P w= .ok (.pointer (some (p.add fd.offset))) w:=by
  intro fields fd p h1 h2 h3 w
  have h':kF P s x f fun v=>v= .pointer (some (p.add fd.offset)):=by
   unfold kF at h ⊢
   subst h3
   rw [h1]at h ⊢
   simp only at h ⊢
   rw [h2]at h ⊢
   simp only at h ⊢
   split at h
   ·rename_i i hi
    split at h
    ·exact ai p rfl rfl
    ·exact h.elim
   ·exact h.elim
  obtain⟨v,hv,hr⟩:=si h'
  rw [hr w,hv]
 have h0:=h
 unfold kF at h
 split at h
 ·rename_i fields hs
  split at h
  ·rename_i fd hf
   split at h
   ·split at h
    ·split at h
     ·obtain⟨p,hp,hF⟩:=cW h
      exact⟨fields,fd,p,hs,hf,by rw [hp],hF,key fields fd p hs hf (by rw [hp])⟩
     ·exact h.elim
    ·exact h.elim
   ·exact h.elim
  ·exact h.elim
 ·exact h.elim
theorem Hm {t:TypeId} {p:Addr} {i:Value} {F:Value→Prop}(h:qn P t (.pointer (some p)) i F):∃n e k ix,P.underlying t=some (.array n e)∧i= .int k ix∧F (.pointer (some (p.add (ix.toNat *bA P e))))∧∀w,(Instr.indexAt t (.pointer (some p)) i).run P w= .ok (.pointer (some (p.add (ix.toNat *bA P e)))) w:=by
 unfold qn at h
 cases hu:P.underlying t with
 | none=>rw [hu]at h;exact h.elim
 | some d=>
  rw [hu]at h
  cases d<;>first | exact h.elim | skip
  rename_i n e
  cases i<;>first | exact h.elim | skip
  rename_i k ix
  simp only at h
  split at h
  ·rename_i he
   obtain⟨hb,h⟩:=h
   obtain⟨q,hq,hF⟩:=cW h
   injection hq with hq
   subst hq
   refine⟨n,e,k,ix,rfl,rfl,hF,fun w=>?_⟩
   have h':qn P t (.pointer (some p)) (.int k ix) fun v=>v= .pointer (some (p.add (ix.toNat *bA P e))):=by
    unfold qn
    rw [hu]
    simp only [he]
    exact⟨hb,ai p rfl rfl⟩
   obtain⟨v,hv,hr⟩:=nZ h'
   rw [hr w,hv]
  ·exact h.elim
theorem JK {t e:TypeId} {A:Option Addr} {n c:Nat} {k:IntKind} {ix:Int} {p:Addr}(ht:P.underlying t=some (.slice e))(he:hasType P e=true)(hb:0≤ix∧ix<n)(hA:A=some p)(w:World):(Instr.indexAt t (.slice A n c) (.int k ix)).run P w= .ok (.pointer (some (p.add (ix.toNat *bA P e)))) w:=by
 have h':qn P t (.slice A n c) (.int k ix) fun v=>v= .pointer (some (p.add (ix.toNat *bA P e))):=by
  unfold qn
  rw [ht]
  simp only [he]
  exact⟨hb,ai p hA rfl⟩
 obtain⟨v,hv,hr⟩:=nZ h'
 rw [hr w,hv]
theorem RS.rd {X:Nat→Prop} {w:World} {t:Nat} {own:Bool} {T:TypeId} {A:Option Addr} {c:Nat} {l:List (U.el t)}(h:RS X w (.lst t own T A c l)):Rd w X A l.length c l:=by
 cases own
 ·exact h
 ·have h1:Rd w (fun k=>X k∧k<w.heap.size) A l.length c l:=h.1.rd
  exact h1.mono (fun k hk=>hk.1) h.2
theorem RS.ls {X:Nat→Prop} {w:World} {r:Res U} {li:Nat} {L:Ls U.el}(h:RS X w r)(hl:jX r li=some L):Rd w X L.A L.l.length L.c L.l:=by
 unfold jX at hl
 split at hl
 ·injection hl with hl
  subst hl
  exact RS.rd h
 ·exact U.pN h hl
 ·cases hl
theorem dB {α:Type} {o:Option α} {F:α→Prop}(h:gP o F):∃a,o=some a∧F a:=by
 cases o with
 | none=>exact h.elim
 | some a=>exact⟨a,rfl,h⟩
theorem jY {t:TypeId} {cs:List Value} {off:Nat} {v:Value}(h:ae P t cs off=some v) {w:World} {p:Addr}(hp:∀j u,j<bA P t→nth cs (off+j)=some u→w.cell? (p.add j)=some u):(Instr.loadAt t (.pointer (some p))).run P w= .ok v w:=by
 unfold ae at h
 split at h
 ·rename_i hb
  simp only [Bool.and_eq_true]at hb
  obtain⟨h1,h2,h3,h4⟩:=hb
  have h4:off+bA P t≤cs.length:=Nat.le_of_ble_eq_true h4
  have Tn:ik (dK P t)=bA P t:=Nat.eq_of_beq_eq_true h3
  refine lf (s:=dK P t) h1 h2 h3 ?_
  have hd:∀j,nth (cs.drop off) j=nth cs (off+j):=fun j=>by rw [aQ,aQ,List.getElem?_drop]
  split at h
  ·rename_i s hs
   have:=hp 0 v (by rw [← Tn,hs];simp [ik]) (by simpa using h)
   rw [hs]
   simpa [iK,Addr.add]using this
  ·rename_i l hs
   injection h with h
   subst h
   rw [hs]at Tn ⊢
   simp only [ik]at Tn
   have hlen:(cs.drop off |>.take l.length).length=l.length:=by simp;omega
   simp only [iK,fG,gC,hlen,Nat.beq_refl]
   have key:∀(vs:List Value)(i:Nat),(∀j u,vs[j]? =some u→w.cell? (p.add (i+j))=some u)→jF w p i vs:=by
    intro vs
    induction vs with
    | nil=>intro _ _;exact trivial
    | cons x r ih=>
     intro i hh
     have h0:=hh 0 x rfl
     have h1:=ih (i+1) fun j u hu=>by rw [show i+1+j=i+(j+1)by omega];exact hh (j+1) u (by simpa using hu)
     cases r with
     | nil=>exact h0
     | cons y r=>exact⟨h0,h1⟩
   refine key _ 0 fun j u hu=>?_
   rw [Nat.zero_add]
   have hj:j<l.length:=by have:=(List.getElem?_eq_some_iff.1 hu).1;omega
   refine hp j u (by omega) ?_
   rw [aQ,← List.getElem?_drop,← hu,List.getElem?_take,if_pos hj]
  ·rename_i n hs
   injection h with h
   subst h
   rw [hs]at Tn ⊢
   simp only [ik]at Tn
   refine⟨by simp [fG,gC];omega,fun j u hu=>?_⟩
   simp only [fG,gC]at hu
   have hj:j<n:=by
    have:=(Array.getElem?_eq_some_iff.1 hu).1
    simp at this
    omega
   refine hp j u (by omega) ?_
   rw [aQ,← List.getElem?_drop]
   have:((cs.drop off).take n)[j]? =some u:=by simpa using hu
   rwa [List.getElem?_take,if_pos hj]at this
 ·cases h
theorem Kept.y6 {B:Nat→Prop} {w w':World}(k:Kept B w w') {p:Addr}(hp:B p.block) {v:Value}(h:w.cell? p=some v):w'.cell? p=some v:=(k.cell hp).trans h
theorem jC:∀ {n k j i:Nat},nth (upN n k) j=some i→i=n+j
 | n,0,j,i,h=>by simp [upN,nth]at h
 | n,k+1,0,i,h=>by simp [upN,nth]at h;omega
 | n,k+1,j+1,i,h=>by have:=jC (n:=n+1) (k:=k) (j:=j) h;omega
theorem gL:∀(n k:Nat),(upN n k).length=k
 | _,0=>rfl
 | n,k+1=>by simp [upN,gL (n+1) k]
theorem En {o:Option Kn} {p:PK}(h:jA o=some p):o=some (.p p):=by
 unfold jA at h
 split at h
 ·injection h with h;rw [h]
 ·cases h
theorem EN {st:St U} {fr:Fr} {id off:Nat} {g:Nat} {cs:List Value} {T t:TypeId} {v:Value}(hk:aC st.rs fr st.kn)(hn:nth st.rs id=some (.blk g cs T))(hv:ae P t cs off=some v)(hs:nK P t=false):KnO st.rs v (BI id off st.kn v):=by
 unfold BI
 split
 ·rename_i v2 X9
  split
  ·refine⟨X9,rfl,fun j p hj=>?_⟩
   rw [bp]at hj
   cases hu:nth (upN 0 X9.toList.length) j with
   | none=>rw [hu]at hj;cases hj
   | some i=>
    rw [hu]at hj
    have OS:i=j:=by have:=jC hu;omega
    subst OS
    have Ow:=aX hu
    rw [gL]at Ow
    injection hj with hj
    obtain⟨g',cs',T',u,e1,e2,e3⟩:=hk.get (En hj)
    rw [hn]at e1
    injection e1 with e1
    injection e1 with _ e1 _
    subst e1
    refine⟨u,?_,e3⟩
    have key:∀m,i<(jP m (mF off cs)).length→(jP m (mF off cs))[i]? =some u:=fun m hm=>by
     rw [fG,gC]at hm ⊢
     rw [List.getElem?_take,if_pos (by simp at hm;omega),List.getElem?_drop,← aQ]
     exact e2
    unfold ae at hv
    unfold nK at hs
    split at hv
    ·split at hv
     ·rename_i h2;rw [h2]at hs;cases hs
     ·injection hv with hv;injection hv with hv
      subst hv
      simpa using key _ Ow
     ·injection hv with hv;injection hv with hv
      subst hv
      simpa using key _ Ow
    ·cases hv
  ·trivial
 ·trivial
theorem vb {t:TypeId} {x:Value} {k:Option Kn} {st:St U} {X:Nat→Nat→Prop} {w:World} {K:Value→Option Kn→Prop}(hS:Sat st.rs X w) {fr:Fr}(hk:aC st.rs fr st.kn)(hx:KnO st.rs x k)(h:vc U P t k st K):
 ∃v kv,K v kv∧KnO st.rs v kv∧∀w',Kept (match k with | some (.p k)=>X k.id | _=>fun _=>False) w w'→(Instr.loadAt t x).run P w'= .ok v w':=by
 unfold vc at h
 split at h
 ·rename_i id off
  split at h
  ·rename_i g cs T hn
   obtain⟨v,hv,hK⟩:=dB h
   have hd:den U st.rs (.loc id off)=some x:=hx
   simp only [den,PK.id,hn,cz,Option.some.injEq]at hd
   subst hd
   obtain⟨hg,hX,hb⟩:=hS.res id _ hn
   refine⟨v,_,hK,?_,fun w' hw=>jY hv fun j u hj hu=>?_⟩
   ·cases hs:nK P t
    ·exact EN hk hn hv hs
    ·simp only
     cases hq:dw (.c id off) st.kn with
     | none=>exact trivial
     | some q=>
      obtain⟨g',cs',T',u,e1,e2,e3⟩:=hk.get hq
      rw [hn]at e1
      injection e1 with e1
      injection e1 with _ e1 _
      subst e1
      have:v=u:=by
       unfold ae at hv
       unfold nK at hs
       split at hv
       ·split at hv
        ·rw [e2]at hv;injection hv with hv;exact hv.symm
        ·rename_i UN;rw [UN]at hs;cases hs
        ·rename_i UN;rw [UN]at hs;cases hs
       ·cases hv
      rw [this];exact e3
   ·refine Kept.y6 hw (by rw [block_add];exact hg) ?_
    rw [bO]
    exact hb.cell (by rw [aQ]at hu;simpa using hu)
  ·exact h.elim
 ·rename_i id path off
  split at h
  ·rename_i tt r s hn
   split at h
   rotate_left
   ·split at h
    ·rename_i c cs Sg
     obtain⟨hc,h⟩:=h
     obtain⟨v,hv,hK⟩:=dB h
     have hd:den U st.rs (.obj id path off)=some x:=hx
     simp only [den,PK.id,hn,cz,Option.some.injEq]at hd
     subst hd
     obtain⟨hX,O0⟩:=U.uO (hS.res id _ hn) Sg hc
     refine⟨v,_,hK,trivial,fun w' hw=>jY hv fun j u hj hu=>?_⟩
     refine Kept.y6 hw (by rw [block_add];exact hX) ?_
     rw [Nat.zero_add,aQ]at hu
     rw [bO]
     exact O0 j u hu
    ·exact h.elim
   ·rename_i f hf
    obtain⟨u,hu,h⟩:=dB h
    obtain⟨v,hv,hK⟩:=dB h
    have hd:den U st.rs (.obj id path off)=some x:=hx
    simp only [den,PK.id,hn,cz,Option.some.injEq]at hd
    subst hd
    obtain⟨hX,hc⟩:=U.sf (hS.res id _ hn) hf hu
    refine⟨v,_,hK,?_,fun w' hw=>jY hv fun j y hj hy=>?_⟩
    ·cases hs:nK P t
     ·exact trivial
     ·have huv:u=v:=by
       unfold ae at hv
       unfold nK at hs
       split at hv
       ·split at hv
        ·injection hv
        ·rename_i UN;rw [UN]at hs;cases hs
        ·rename_i UN;rw [UN]at hs;cases hs
       ·cases hv
      subst huv
      cases f with
      | v y=>exact trivial
      | o p o=>
       have Wh:den U st.rs (.obj id p o)=some u:=by
        simp only [den,PK.id,hn,cz]
        exact hu
       cases o with
       | succ o=>exact Wh
       | zero=>
        show KnO st.rs u (match dw (.l id p) st.kn with
         | some k=>some k
         | none=>some (.p (.obj id p 0)))
        cases hl:dw (.l id p) st.kn with
        | none=>exact Wh
        | some k=>
         obtain⟨t',r',s',e1,e2⟩:=hk.get hl
         rw [hn]at e1
         injection e1 with e1
         cases e1
         simp only [fvV,Option.some.injEq]at hu
         rw [← hu]
         exact e2
      | l i=>
       show den U st.rs (.sl id i)=_
       simp only [den,PK.id,hn,cz]
       simp only [fvV]at hu
       simp only [jX]
       cases hL:U.li tt r s i with
       | none=>rw [hL]at hu;cases hu
       | some L=>simp only [hL]at hu ⊢;exact hu
    ·cases j with
     | zero=>
      simp only [Nat.zero_add,nth,Option.some.injEq]at hy
      subst hy
      exact Kept.y6 hw (by rw [block_add];exact hX) hc
     | succ j=>simp [nth]at hy
  ·exact h.elim
 ·rename_i id li i off
  split at h
  ·rename_i r hn
   split at h
   ·rename_i L hL
    have hd:den U st.rs (.el id li i off)=some x:=hx
    simp only [den,PK.id,hn,cz,hL]at hd
    split at hd
    ·rename_i hb
     injection hd with hd
     subst hd
     have hr:=(hS.res id _ hn).ls hL
     obtain⟨p,y,hA,hy,hZ,hc⟩:=hr.ld hb.1 hb.2
     split at h
     ·rename_i _ ho
      have ho:off=0:=Nat.eq_of_beq_eq_true ho
      subst ho
      split at h
      ·rename_i h1
       have h1:(U.en L.t).size=1:=Nat.eq_of_beq_eq_true h1
       obtain⟨hle,h⟩:=h
       obtain⟨v,hv,hK⟩:=dB h
       refine⟨v,_,hK,trivial,fun w' hw=>jY hv fun j u hj hu=>?_⟩
       rw [Nat.zero_add,HC,bp]at hu
       cases Tg:nth (upN 0 (bA P t)) j with
       | none=>rw [Tg]at hu;cases hu
       | some j'=>
        rw [Tg]at hu
        have OS:j'=j:=by have:=jC Tg;omega
        subst OS
        have Ow:=aX Tg
        rw [gL]at Ow
        injection hu with hu
        have hx2:=List.getElem?_eq_getElem (l:=L.l) (i:=i.toNat+j') (by omega)
        obtain⟨p',RT,hZ',Xj⟩:=hr.cell _ _ hx2
        rw [hA]at RT
        injection RT with RT
        subst RT
        have h0:=Xj 0 (by show 0<(U.en L.t).size;omega)
        have e1:elA U L.t L.A i 0=p.add i.toNat:=by unfold elA;rw [hA,h1];simp [Addr.add]
        rw [e1]
        refine Kept.y6 hw (by rw [block_add,block_add];exact hZ) ?_
        have e2:(p.add ((i.toNat+j')*Enc.size (U.el L.t))).add 0=(p.add i.toNat).add j':=by
         rw [show Enc.size (U.el L.t)=1 from h1,add_add,add_add,Nat.mul_one,Nat.add_zero]
        rw [e2]at h0
        have hu:hd1 (enc (L.l.getD (i.toNat+j') (U.df L.t)))=u:=hu
        rw [h0,← hu,List.getD_eq_getElem?_getD,hx2]
        show(enc L.l[i.toNat+j'])[0]? =some (hd1 (enc L.l[i.toNat+j']))
        have hl:(enc L.l[i.toNat+j']).length=1:=by rw [cr];exact h1
        match he:enc L.l[i.toNat+j'],hl with
        | [a],_=>rfl
      ·exact h.elim
     obtain⟨v,hv,hK⟩:=dB h
     refine⟨v,_,hK,trivial,fun w' hw=>jY hv fun j u hj hu=>?_⟩
     have hg:L.l.getD i.toNat (U.df L.t)=y:=by rw [List.getD_eq_getElem?_getD,hy];rfl
     rw [hg]at hu
     have hjs:off+j<Enc.size (U.el L.t):=by have:=aX hu;rw [← cr y];exact this
     have h2:=hc (off+j) hjs
     refine Kept.y6 hw ?_ ?_
     ·unfold elA
      rw [hA]
      simp only [Option.getD_some,block_add]
      exact hZ
     ·unfold elA
      rw [hA]
      simp only [Option.getD_some]
      rw [add_add]
      rw [aQ]at hu
      exact h2.trans hu
    ·cases hd
   ·exact h.elim
  ·exact h.elim
 ·exact h.elim
theorem yB(ρ:Operand→Value)(a:Array Operand):(⟨aN ρ a.toList⟩:Array Value)=a.map ρ:=by
 apply Array.ext'
 simp [gY]
theorem yO {rs:List (Res U)} {cs:List Value}:∀ {l:List (Nat×PK)} {F:Prop},LC rs cs l F→F∧∀o p,(o,p)∈l→den U rs p=nth cs o
 | [],F,h=>⟨h,fun _ _ h=>by cases h⟩
 | (a,b)::l,F,h=>by
  obtain⟨h1,h2⟩:=yO h.2
  refine⟨h1,fun o p hm=>?_⟩
  rcases List.mem_cons.1 hm with e | hm
  ·injection e with e1 e2;subst e1;subst e2;exact h.1
  ·exact h2 o p hm
theorem sq {j:Nat} {p:PK}:∀ {l:List (Nat×PK)},wO j l=some p→(j,p)∈l
 | (a,b)::l,h=>by
  unfold wO at h
  split at h
  ·rename_i he
   injection h with h
   subst h
   rw [← Nat.eq_of_beq_eq_true he];exact List.mem_cons_self ..
  ·exact List.mem_cons_of_mem _ (sq h)
theorem u7 {o:Oper} {fr:Fr} {st:St U} {X:Nat→Nat→Prop} {w:World} {K:Value→Option Kn→Prop}(hS:Sat st.rs X w)(hk:aC st.rs fr st.kn)(h:nW U P o (ev fr) st K):
 ∃v k,K v k∧KnO st.rs v k∧∀w',Kept (rdX o st.kn X) w w'→(execOp (ev fr) o).run P w'= .ok (.value v) w':=by
 have hc:∀v,ev fr (.const v)=v:=fun _=>rfl
 have hp:∀F:Value→Prop,(∀t x,o.op≠ .load t x)→pJ P o (ev fr) F→∃v,F v∧∀w',Kept (rdX o st.kn X) w w'→(execOp (ev fr) o).run P w'= .ok (.value v) w':=fun F hl hF=>by
  obtain⟨v,h1,h2⟩:=Em hc hl hF w
  exact⟨v,h1,fun w' hw=>h2 w' hw.os hw.tape hw.output⟩
 have hpn:(∀t x,o.op≠ .load t x)→pJ P o (ev fr) (fun v=>K v none)→∃v k,K v k∧KnO st.rs v k∧∀w',Kept (rdX o st.kn X) w w'→(execOp (ev fr) o).run P w'= .ok (.value v) w':=fun hl hF=>by
  obtain⟨v,h1,h2⟩:=hp _ hl hF
  exact⟨v,none,h1,trivial,h2⟩
 obtain⟨dst,op,ty,pos,after,guard⟩:=o
 cases op<;>first
  | exact hpn (fun _ _ e=>by cases e) h
  | skip
 case move x=>exact⟨_,_,h,hk.kf x,fun _ _=>rfl⟩
 case assign x=>exact⟨_,_,h,hk.kf x,fun _ _=>rfl⟩
 case build t ps=>
  obtain⟨v,h1,h2⟩:=hp _ (fun _ _ e=>by cases e) h
  unfold HG at h1
  split at h1
  ·exact⟨v,none,h1,trivial,h2⟩
  ·split at h1
   ·rename_i cs
    obtain⟨h1,h3⟩:=yO h1
    refine⟨_,_,h1,⟨cs,rfl,fun j k hj=>?_⟩,h2⟩
    rw [bp]at hj
    cases hn:nth (upN 0 cs.toList.length) j with
    | none=>rw [hn]at hj;cases hj
    | some i=>
     rw [hn]at hj
     have OS:i=j:=by have:=jC hn;omega
     subst OS
     injection hj with hj
     have:=h3 _ _ (sq hj)
     have Ow:=aX hn
     rw [gL]at Ow
     obtain⟨u,hu⟩:=cf (l:=cs.toList) (i:=i) Ow
     exact⟨u,by rw [aQ]at hu;simpa using hu,by rw [this,hu]⟩
   ·exact h1.elim
 case load t x=>
  obtain⟨v,kv,h1,h2,h3⟩:=vb hS hk (hk.kf x) h
  refine⟨v,kv,h1,h2,fun w' hw=>?_⟩
  have:=h3 w' hw
  simp [execOp,this]
 case nilCheck x=>
  simp only [nW]at h
  split at h
  ·rename_i p hx
   refine⟨_,_,h,by rw [← hx];exact hk.kf x,fun w' _=>?_⟩
   simp [execOp,hx]
  ·exact h.elim
 case fieldAddr s x f=>
  have h:kF P s (ev fr x) f (fun v=>K v (wx P s f (V.kf st.kn x))):=h
  obtain⟨fields,fd,p,h1,h2,h3,h4,h5⟩:=BE h
  refine⟨_,_,h4,?_,fun w' _=>by simp [execOp,h5]⟩
  have hx:=hk.kf x
  rw [h3]at hx
  unfold wx
  split
  ·rename_i k P1
   rw [P1]at hx
   rw [h1]
   simp only [h2]
   have hx:den U st.rs k=some (.pointer (some p)):=hx
   cases k with
   | loc id off=>
    show den U st.rs _=_
    unfold den at hx ⊢
    simp only [PK.id]at hx ⊢
    cases hn:nth st.rs id with
    | none=>rw [hn]at hx;simp [cz]at hx
    | some r=>
     rw [hn]at hx
     cases r<;>simp only [cz,reduceCtorEq,Option.some.injEq,Value.pointer.injEq]at hx ⊢
     rw [← hx,bO]
   | el id li i off=>
    show den U st.rs _=_
    unfold den at hx ⊢
    simp only [PK.id]at hx ⊢
    cases hn:nth st.rs id with
    | none=>rw [hn]at hx;simp [cz]at hx
    | some r=>
     rw [hn]at hx
     simp only [cz]at hx ⊢
     cases hL:jX r li with
     | none=>rw [hL]at hx;cases hx
     | some L=>
      simp only [hL]at hx ⊢
      split at hx
      ·rename_i hb
       rw [if_pos hb]
       injection hx with hx
       injection hx with hx
       injection hx with hx
       rw [← hx]
       unfold elA
       rw [← add_add]
      ·cases hx
   | obj id path off=>
    show den U st.rs _=_
    unfold den at hx ⊢
    simp only [PK.id]at hx ⊢
    cases hn:nth st.rs id with
    | none=>rw [hn]at hx;simp [cz]at hx
    | some r=>
     rw [hn]at hx
     cases r<;>simp only [cz,reduceCtorEq,Option.some.injEq,Value.pointer.injEq]at hx ⊢
     rw [← hx,bO]
   | sl _ _=>exact trivial
  ·exact trivial
 case sliceToArrayPointer arr x=>
  simp only [nW]at h
  have hx:=hk.kf x
  split at h
  ·rename_i id li P1
   rw [P1]at hx
   have hx:den U st.rs (.sl id li)=some (ev fr x):=hx
   split at h
   ·rename_i r n e hn ht
    split at h
    ·rename_i L hL
     simp only [den,PK.id,hn,cz,hL,Option.some.injEq]at hx
     obtain⟨⟨h0,hle⟩,hK⟩:=h
     obtain⟨p,y,hA,_⟩:=((hS.res id _ hn).ls hL).ld (i:=0) (by omega) (by omega)
     have e1:elA U L.t L.A 0 0=p:=by unfold elA;rw [hA];simp [Addr.add]
     obtain⟨v,hv,PD⟩:=hp (fun v=>v= .pointer (some p)) (fun _ _ e=>by cases e) (by
      show(match P.underlying arr,ev fr x with
       | some (.array n _),.slice a len _=>n≤len∧Value.pointer a= .pointer (some p)
       | _,_=>False)
      rw [ht,← hx,hA]
      exact⟨hle,rfl⟩)
     subst hv
     rw [e1]at hK
     refine⟨_,_,hK,?_,PD⟩
     show den U st.rs (.el id li 0 0)=_
     simp only [den,PK.id,hn,cz,hL]
     rw [if_pos (by omega),e1]
    ·exact h.elim
   ·exact h.elim
  ·exact h.elim
 case indexAddr t x i=>
  simp only [nW]at h
  have hx:=hk.kf x
  split at h
  ·rename_i id li k ix P1 hi
   rw [P1]at hx
   have hx:den U st.rs (.sl id li)=some (ev fr x):=hx
   split at h
   ·rename_i r e hn ht
    split at h
    ·rename_i L hL
     simp only [den,PK.id,hn,cz,hL,Option.some.injEq]at hx
     split at h
     ·rename_i he
      simp only [Bool.and_eq_true]at he
      have On:bA P e=(U.en L.t).size:=Nat.eq_of_beq_eq_true he.2
      obtain⟨hb,hK⟩:=h
      obtain⟨p,y,hA,_⟩:=((hS.res id _ hn).ls hL).ld hb.1 hb.2
      have hv:elA U L.t L.A ix 0=p.add (ix.toNat *bA P e):=by
       unfold elA
       rw [hA,On]
       simp [Addr.add]
      refine⟨_,_,hK,?_,fun w' _=>?_⟩
      ·show den U st.rs (.el id li ix 0)=_
       simp only [den,PK.id,hn,cz,hL]
       rw [if_pos hb]
      ·have:=JK (P:=P) (c:=L.c) (k:=k) ht he.1 hb hA w'
       rw [hv]
       simp [execOp,← hx,hi,this]
     ·exact h.elim
    ·exact h.elim
   ·exact h.elim
  ·rename_i id path off k ix P1 hi
   rw [P1]at hx
   have hx:den U st.rs (.obj id path off)=some (ev fr x):=hx
   split at h
   ·rename_i tt r s li n e hn VI ht
    split at h
    ·rename_i L hL
     simp only [den,PK.id,hn,cz,Option.some.injEq]at hx
     split at h
     ·rename_i he
      simp only [Bool.and_eq_true]at he
      have On:bA P e=(U.en L.t).size:=Nat.eq_of_beq_eq_true he.2
      obtain⟨⟨hb,Tl⟩,hK⟩:=h
      unfold Uni.ix1 at VI
      rw [hn]at VI
      have hA:=U.sa VI hL
      have hM:qn P t (ev fr x) (ev fr i) (fun v=>v= .pointer (some ((Addr.mk (r path) off none).add (ix.toNat *bA P e)))):=by
       unfold qn
       rw [ht,← hx,hi]
       simp only [he.1]
       exact⟨⟨hb.1,Tl⟩,ai _ rfl rfl⟩
      obtain⟨v,hv,PD⟩:=nZ hM
      have hvE:elA U L.t L.A ix 0=(Addr.mk (r path) off none).add (ix.toNat *bA P e):=by
       unfold elA
       rw [hA,On]
       simp [Addr.add]
      refine⟨_,_,hK,?_,fun w' _=>?_⟩
      ·show den U st.rs (.el id li ix 0)=_
       simp only [den,PK.id,hn,cz,jX,hL]
       rw [if_pos hb]
      ·rw [hvE,← hv]
       simp [execOp,PD]
     ·exact h.elim
    ·exact h.elim
   ·exact h.elim
  ·rename_i id off k ix P1 hi
   rw [P1]at hx
   have hx:den U st.rs (.loc id off)=some (ev fr x):=hx
   unfold den at hx
   simp only [PK.id]at hx
   cases hn:nth st.rs id with
   | none=>rw [hn]at hx;simp [cz]at hx
   | some r=>
    rw [hn]at hx
    cases r<;>simp only [cz,reduceCtorEq,Option.some.injEq]at hx
    rename_i g cs T
    rw [← hx]at h
    obtain⟨n,e,k',ix',h1,h2,h3,h4⟩:=Hm h
    rw [hi]at h2
    injection h2 with h2 h2'
    subst h2;subst h2'
    refine⟨_,_,h3,?_,fun w' _=>by simp [execOp,← hx,h4]⟩
    show den U st.rs _=_
    simp only [den,PK.id,hn,cz,Ht,h1]
    rw [bO]
  ·exact h.elim
 case extract x i=>
  simp only [nW]at h
  split at h
  ·rename_i vs hx
   obtain⟨v,hv,hK⟩:=dB h
   have Rf:vs[i]? =some v:=by rw [aQ]at hv;simpa using hv
   refine⟨v,_,hK,?_,fun w' _=>?_⟩
   ·unfold Hg
    split
    ·rename_i l P1
     split
     ·rename_i p hl
      have:=hk.kf x
      rw [P1,hx]at this
      obtain⟨vs',e,hh⟩:=this
      injection e with e
      subst e
      obtain⟨u,hu,hd⟩:=hh i p hl
      rw [Rf]at hu
      injection hu with hu
      subst hu
      exact hd
     ·exact trivial
    ·exact trivial
   ·simp [execOp,Instr.extract,hx,Rf]
  ·exact h.elim
 case makeFunc f first cap=>
  refine⟨_,_,h,?_,fun w' _=>by rw [yB,yB];rfl⟩
  have key:∀(a:Array Operand)(j:Nat)(k:PK),nth (aN (fun x=>jA (V.kf st.kn x)) a.toList) j=some (some k)→∃u,(⟨aN (ev fr) a.toList⟩:Array Value)[j]? =some u∧den U st.rs k=some u:=by
   intro a j k hj
   rw [bp]at hj
   cases hn:nth a.toList j with
   | none=>rw [hn]at hj;cases hj
   | some x=>
    rw [hn]at hj
    injection hj with hj
    refine⟨ev fr x,?_,?_⟩
    ·rw [aQ]at hn
     simp [gY,hn]
    ·have:=hk.kf x
     unfold jA at hj
     dsimp only at hj
     split at hj
     ·rename_i q hq
      injection hj with hj
      subst hj
      rw [hq]at this
      exact this
     ·cases hj
  exact⟨_,_,_,rfl,by simp,key first,key cap⟩
 case binOp op t x y ty'=>
  simp only [nW]at h
  split at h
  ·exact h.elim
  ·exact hpn (fun _ _ e=>by cases e) h
 case slice t x lo hi mx=>
  cases lo with
  | some _=>exact h.elim
  | none=>cases hi with
   | some _=>exact h.elim
   | none=>cases mx with
    | some _=>exact h.elim
    | none=>
     simp only [nW]at h
     have hx:=hk.kf x
     split at h
     ·rename_i id path off P1
      rw [P1]at hx
      have hx:den U st.rs (.obj id path off)=some (ev fr x):=hx
      split at h
      ·rename_i tt r s li n e hn VI ht
       split at h
       ·rename_i L hL
        simp only [den,PK.id,hn,cz,Option.some.injEq]at hx
        split at h
        ·rename_i he
         obtain⟨⟨⟨hl,hc⟩,hn0⟩,hK⟩:=h
         unfold Uni.ix1 at VI
         rw [hn]at VI
         have hA:=U.sa VI hL
         have hM:ru P t (ev fr x) none none none (fun v=>v= .slice L.A L.l.length L.c) False:=by
          unfold ru
          rw [ht,← hx]
          simp only [he,Option.isNone_none,Bool.true_or,Bool.and_self]
          refine ai _ rfl ?_
          unfold m9 pU sk
          intro a' ha' n' Ri c' Xj
          subst ha' Ri Xj
          rw [if_neg (by omega),hA,hl,hc]
          simp [Addr.add]
         rcases rq hM with⟨v,hv,PD⟩ | h
         ·refine⟨_,_,hK,?_,fun w' _=>?_⟩
          ·show den U st.rs (.sl id li)=_
           simp only [den,PK.id,hn,cz,jX,hL]
          ·rw [← hv]
           simp [execOp,PD]
         ·exact h.elim
        ·exact h.elim
       ·exact h.elim
      ·exact h.elim
     ·exact h.elim
end
end
end Go.Proofs.YtinhphjfnedhgaaGreatDoor.V
namespace Go.Proofs.YtinhphjfnedhgaaGreatDoor
open Go.Proofs.Tryz (prog)
open Go Go.RowKit V
open Go.IntKind (i64 u32 u64)
def aL(a b:Int):Int:=u32.wrap (a+b)
def qS(a b:Int):Int:=u32.wrap (BitVec.ofInt u32.bits a ^^^ BitVec.ofInt u32.bits b).toNat
def HP(a b:Int):Int:=u32.wrap (BitVec.ofInt u32.bits a &&& BitVec.ofInt u32.bits b).toNat
def Nf(a:Int):Int:=u32.wrap (BitVec.ofInt u32.bits (if u32.signed then -1 else u32.max) ^^^ BitVec.ofInt u32.bits a).toNat
def mS(w n:Int):Int:=u32.wrap (BitVec.ofInt u32.bits (w.fdiv (2 ^ (min n.toNat u32.bits))) ||| BitVec.ofInt u32.bits (u32.wrap (w*2 ^ (min (32 - n).toNat u32.bits)))).toNat
theorem Ml {k:Int}(h: -31≤k∧k≤ -1):u64.wrap (BitVec.ofInt u64.bits (u64.wrap k) &&& BitVec.ofInt u64.bits 31).toNat=32+k:=by
 have:∀j:Fin 31,u64.wrap (BitVec.ofInt u64.bits (u64.wrap (-(j.val+1:Int))) &&& BitVec.ofInt u64.bits 31).toNat=32+ -(j.val+1:Int):=by decide+kernel
 have h2:=this ⟨(-k - 1).toNat,by omega⟩
 simp only []at h2
 rwa [show(-(((-k - 1).toNat:Nat)+1:Int))=k by omega]at h2
theorem ig {x:Int}(h:0≤x∧x<18446744073709551616):u64.wrap x=x:=by rw [IntKind.wrap_u64];omega
theorem rot_eq {x k:Int}(h: -31≤k∧k≤ -1):u32.wrap (BitVec.ofInt u32.bits (u32.wrap (x*2 ^ (min (32+k).toNat u32.bits))) ||| BitVec.ofInt u32.bits (x.fdiv (2 ^ (min (u64.wrap (32 - (32+k))).toNat u32.bits)))).toNat=mS x (-k):=by
 rw [ig (by omega),BitVec.or_comm,show 32 - (32+k)= -k by omega]
 unfold mS
 rw [show 32 - -k=32+k by omega]
def sg0(a:Int):Int:=qS (qS (mS a 7) (mS a 18)) (a.fdiv (2 ^ 3))
def sg1(b:Int):Int:=qS (qS (mS b 17) (mS b 19)) (b.fdiv (2 ^ 10))
abbrev back(l:List Int)(t k:Int):Int:=l.getD (Int.toNat (i64.wrap (t - k))) 0
def rC(l:List Int)(t:Int):Int:=aL (aL (aL (back l t 16) (sg0 (back l t 15))) (back l t 7)) (sg1 (back l t 2))
theorem Bf(l:List Int)(t:Int):aL (aL (aL (sg1 (back l t 2)) (back l t 7)) (sg0 (back l t 15))) (back l t 16)=rC l t:=by
 unfold rC
 generalize sg1 _=a
 generalize sg0 _=b
 generalize back l t 7=c
 generalize back l t 16=d
 simp only [aL,u32_eq]
 omega
def ah(b:List Int):Nat→List Int
 | 0=>b++List.replicate 48 0
 | k+1=>(ah b k).set (16+k) (rC (ah b k) ((16+k:Nat):Int))
theorem cF {b:List Int}(h:b.length=16):∀k,(ah b k).length=64
 | 0=>by simp [ah,h]
 | k+1=>by simp [ah,cF h k]
theorem pG {b:List Int} {t:Int}(h:16≤t∧t<64):ah b ((i64.wrap (t+1)).toNat - 16)=(ah b (t.toNat - 16)).set t.toNat (rC (ah b (t.toNat - 16)) t):=by
 rw [aq (by omega),show(t+1).toNat - 16=(t.toNat - 16)+1 by omega,ah,show 16+(t.toNat - 16)=t.toNat by omega,show((t.toNat:Nat):Int)=t by omega]
def gl(b:List Int)(t:Int):List Int:=if t<16 then b.take t.toNat++List.replicate (64 - t.toNat) 0 else ah b (t.toNat - 16)
theorem gz {b:List Int}(h:b.length=16) {t:Int}(ht:0≤t∧t≤64):(gl b t).length=64:=by
 unfold gl
 split
 ·simp [h];omega
 ·exact cF h _
theorem Bg {b:List Int}(h:b.length=16) {t:Int}(ht:0≤t∧t<16):gl b (i64.wrap (t+1))=(gl b t).set t.toNat (b.getD t.toNat 0):=by
 have h0:gl b (i64.wrap (t+1))=b.take (t.toNat+1)++List.replicate (64 - (t.toNat+1)) 0:=by
  unfold gl
  rw [aq (by omega)]
  split
  ·rw [show(t+1).toNat=t.toNat+1 by omega]
  ·rw [show(t+1).toNat - 16=0 by omega,show t.toNat+1=16 by omega,ah,List.take_of_length_le (by omega)]
 rw [h0]
 unfold gl
 rw [if_pos ht.2]
 apply List.ext_getElem?
 intro i
 simp only [List.getElem?_append,List.getElem?_set,List.length_take,List.length_append,List.length_replicate,List.getElem?_take,List.getElem?_replicate,List.getD_eq_getElem?_getD,h]
 have hb:=List.getElem?_eq_getElem (l:=b) (i:=t.toNat) (by omega)
 by_cases hi:i=t.toNat
 ·subst hi
  rw [hb]
  have h1:t.toNat<min (t.toNat+1) 16:=by omega
  have h2:t.toNat<min t.toNat 16+(64 - t.toNat):=by omega
  simp [h1,h2]
 ·grind
theorem yb {b:List Int} {t:Int}(ht:16≤t∧t<64):gl b (i64.wrap (t+1))=(gl b t).set t.toNat (rC (gl b t) t):=by
 unfold gl
 rw [if_neg (by rw [aq (by omega)];omega),if_neg (by omega)]
 exact pG ht
theorem Bh {b:List Int} {t:Int}(h:¬t<64)(h2:t≤64):gl b t=ah b 48:=by
 have:t=64:=by omega
 subst this
 rfl
@[ext] structure S8 where
 (a b c d e f g h:Int)
deriving DecidableEq
def S8.T1(k w:Int)(s:S8):Int:=aL (aL (aL (aL s.h (qS (qS (mS s.e 6) (mS s.e 11)) (mS s.e 25))) (qS (HP s.e s.f) (HP (Nf s.e) s.g))) k) w
def S8.T2(s:S8):Int:=aL (qS (qS (mS s.a 2) (mS s.a 13)) (mS s.a 22)) (qS (qS (HP s.a s.b) (HP s.a s.c)) (HP s.b s.c))
def S8.rnd(k w:Int)(s:S8):S8:=⟨aL (s.T1 k w) s.T2,s.a,s.b,s.c,aL s.d (s.T1 k w),s.e,s.f,s.g⟩
def av(K W:List Int)(s:S8):Nat→S8
 | 0=>s
 | t+1=>S8.rnd (K.getD t 0) (W.getD t 0) (av K W s t)
theorem cy {K W:List Int} {s:S8} {t:Int}(h:0≤t∧t<64):av K W s (i64.wrap (t+1)).toNat=S8.rnd (K.getD t.toNat 0) (W.getD t.toNat 0) (av K W s t.toNat):=by
 rw [aq (by omega),show(t+1).toNat=t.toNat+1 by omega,av]
def S8.add(s v:S8):S8:=⟨aL v.a s.a,aL v.b s.b,aL v.c s.c,aL v.d s.d,aL v.e s.e,aL v.f s.f,aL v.g s.g,aL v.h s.h⟩
def dV(K:List Int)(s:S8)(b:List Int):S8:=s.add (av K (ah b 48) s 64)
def S8.first:S8:=⟨1779033703,3144134277,1013904242,2773480762,1359893119,2600822924,528734635,1541459225⟩
def S8.ok(s:S8):Prop:=(0≤s.a∧s.a<4294967296)∧(0≤s.b∧s.b<4294967296)∧(0≤s.c∧s.c<4294967296)∧(0≤s.d∧s.d<4294967296)∧(0≤s.e∧s.e<4294967296)∧(0≤s.f∧s.f<4294967296)∧(0≤s.g∧s.g<4294967296)∧(0≤s.h∧s.h<4294967296)
theorem eP(a b:Int):0≤aL a b∧aL a b<4294967296:=by unfold aL;rw [u32_eq];omega
theorem S8.sy(s v:S8):(s.add v).ok:=⟨eP _ _,eP _ _,eP _ _,eP _ _,eP _ _,eP _ _,eP _ _,eP _ _⟩
end Go.Proofs.YtinhphjfnedhgaaGreatDoor
namespace Go.Proofs.YtinhphjfnedhgaaGreatDoor.V
open Go Go.RowKit
open Go.IntKind (i64 u32 u64)
theorem sm:u32.bits=32:=rfl
theorem HH:u64.bits=64:=rfl
def nor(x y:Int):Int:=((x.toNat ||| y.toNat:Nat):Int)
def JB(x y:Int):Int:=((x.toNat &&& y.toNat:Nat):Int)
theorem eK {n:Nat} {x:Int}(h0:0≤x)(h:x<2 ^ n):(BitVec.ofInt n x).toNat=x.toNat:=by
 rw [BitVec.toNat_ofInt,Int.emod_eq_of_lt h0 (by exact_mod_cast h)]
theorem oP {x y:Int}(hx:0≤x∧x<4294967296)(hy:0≤y∧y<4294967296):u32.wrap (BitVec.ofInt u32.bits x ||| BitVec.ofInt u32.bits y).toNat=nor x y:=by
 have h:=BitVec.isLt (BitVec.ofInt 32 x ||| BitVec.ofInt 32 y)
 rw [sm,bj (by omega),BitVec.toNat_or,eK hx.1 hx.2,eK hy.1 hy.2];rfl
theorem qO {x y:Int}(hx:0≤x∧x<4294967296)(hy:0≤y∧y<4294967296):u32.wrap (BitVec.ofInt u32.bits x &&& BitVec.ofInt u32.bits y).toNat=JB x y:=by
 have h:=BitVec.isLt (BitVec.ofInt 32 x &&& BitVec.ofInt 32 y)
 rw [sm,bj (by omega),BitVec.toNat_and,eK hx.1 hx.2,eK hy.1 hy.2];rfl
theorem gQ(k:Nat) {a y:Int}(ha:0≤a)(hy:0≤y)(h:y<2 ^ k):nor (2 ^ k*a) y=2 ^ k*a+y:=by
 obtain⟨a,rfl⟩:=Int.eq_ofNat_of_zero_le ha
 obtain⟨y,rfl⟩:=Int.eq_ofNat_of_zero_le hy
 have h':y<2 ^ k:=by exact_mod_cast h
 have e:((2:Int) ^ k*(a:Int)).toNat=2 ^ k*a:=by
  rw [show(2:Int) ^ k*(a:Int)=((2 ^ k*a:Nat):Int)by push_cast;rfl,Int.toNat_natCast]
 unfold nor
 rw [e,Int.toNat_natCast,← Nat.two_pow_add_eq_or_of_lt h']
 push_cast;rfl
theorem nV(x y:Int):nor x y=nor y x:=by unfold nor;rw [Nat.or_comm]
theorem oS(k:Nat) {x:Int}(hx:0≤x):JB x (2 ^ k - 1)=x % 2 ^ k:=by
 obtain⟨x,rfl⟩:=Int.eq_ofNat_of_zero_le hx
 have hp:0<2 ^ k:=Nat.two_pow_pos k
 have e:((2:Int) ^ k - 1).toNat=2 ^ k - 1:=by
  have:((2:Int) ^ k)=((2 ^ k:Nat):Int):=by push_cast;rfl
  omega
 unfold JB
 rw [e,Int.toNat_natCast,Nat.and_two_pow_sub_one_eq_mod]
 push_cast;rfl
theorem mE {x:Int}(n:Nat):x.fdiv (2 ^ n)=x / 2 ^ n:=Int.fdiv_eq_ediv_of_nonneg x (Int.pow_nonneg (by omega))
end Go.Proofs.YtinhphjfnedhgaaGreatDoor.V
namespace Go.Proofs.YtinhphjfnedhgaaGreatDoor
open Go.Proofs.Tryz (prog)
open Go Go.RowKit V
open Go.IntKind (i64 u32 u64)
section
def LW(K:List Int):Nat→S8→List U32→S8×List U32
 | 0,s,l=>(s,l)
 | f+1,s,l=>if 16≤l.length then LW K f (dV K s ((l.take 16).map U32.v)) (l.drop 16)else(s,l)
def bT(K:List Int)(s:S8)(l:List U32):S8×List U32:=LW K (l.length / 16) s l
theorem dE {K:List Int} {s:S8} {l:List U32}(h:l.length<16):bT K s l=(s,l):=by
 unfold bT
 rw [Nat.div_eq_of_lt h];rfl
theorem eQ {K:List Int} {s:S8} {l:List U32}(h:16≤l.length):bT K s l=bT K (dV K s ((l.take 16).map U32.v)) (l.drop 16):=by
 unfold bT
 rw [show l.length / 16=(l.drop 16).length / 16+1 by rw [List.length_drop];omega,LW,if_pos h]
theorem kJ {K:List Int} {p:S8→List U32→Prop}(h0:∀s l,l.length<16→p s l)(h1:∀s l,16≤l.length→p (dV K s ((l.take 16).map U32.v)) (l.drop 16)→p s l):∀(n:Nat)(s:S8)(l:List U32),l.length=n→p s l:=by
 intro n
 induction n using Nat.strongRecOn with
 | ind n ih=>
  intro s l hl
  by_cases h:l.length<16
  ·exact h0 s l h
  ·exact h1 s l (by omega) (ih (l.drop 16).length (by rw [List.length_drop];omega) _ _ rfl)
theorem BV(K:List Int)(s:S8)(l:List U32):(bT K s l).2.length=l.length % 16:=by
 refine kJ (K:=K) (p:=fun s l=>(bT K s l).2.length=l.length % 16) (fun s l h=>?_) (fun s l h ih=>?_) _ s l rfl
 ·simp only [dE h];rw [Nat.mod_eq_of_lt h]
 ·simp only [eQ h];rw [ih,List.length_drop];omega
theorem zn(K:List Int)(s:S8)(l:List U32)(x:U32):bT K s (l++ [x])=if(bT K s l).2.length+1=16 then(dV K (bT K s l).1 (((bT K s l).2++ [x]).map U32.v),[])else((bT K s l).1,(bT K s l).2++ [x]):=by
 refine kJ (K:=K) (p:=fun s l=>bT K s (l++ [x])=if(bT K s l).2.length+1=16 then(dV K (bT K s l).1 (((bT K s l).2++ [x]).map U32.v),[])else((bT K s l).1,(bT K s l).2++ [x])) (fun s l h=>?_) (fun s l h ih=>?_) _ s l rfl
 ·simp only [dE h]
  split
  ·rename_i h2
   rw [eQ (by simp;omega),List.take_of_length_le (by simp;omega),List.drop_of_length_le (by simp;omega),dE (by simp)]
  ·rw [dE (by simp;omega)]
 ·simp only [eQ h]
  rw [eQ (by simp;omega),List.take_append_of_le_length h,List.drop_append_of_le_length h,ih]
theorem BU(K:List Int)(s:S8)(l:List U32):∀x∈(bT K s l).2,x∈l:=by
 refine kJ (K:=K) (p:=fun s l=>∀x∈(bT K s l).2,x∈l) (fun s l h=>?_) (fun s l h ih=>?_) _ s l rfl
 ·simp only [dE h];exact fun x h=>h
 ·simp only [eQ h];exact fun x hx=>List.mem_of_mem_drop (ih x hx)
theorem ET(K:List Int)(s:S8)(l:List U32):s.ok→(bT K s l).1.ok:=by
 refine kJ (K:=K) (p:=fun s l=>s.ok→(bT K s l).1.ok) (fun s l h=>?_) (fun s l h ih=>?_) _ s l rfl
 ·simp only [dE h];exact fun h=>h
 ·simp only [eQ h];exact fun _=>ih (S8.sy _ _)
theorem kp {l:List U32}(h:16≤l.length):(l.take 16).map U32.v= [(l.getD 0 ⟨0⟩).v,(l.getD 1 ⟨0⟩).v,(l.getD 2 ⟨0⟩).v,(l.getD 3 ⟨0⟩).v,(l.getD 4 ⟨0⟩).v,(l.getD 5 ⟨0⟩).v,(l.getD 6 ⟨0⟩).v,(l.getD 7 ⟨0⟩).v,(l.getD 8 ⟨0⟩).v,(l.getD 9 ⟨0⟩).v,(l.getD 10 ⟨0⟩).v,(l.getD 11 ⟨0⟩).v,(l.getD 12 ⟨0⟩).v,(l.getD 13 ⟨0⟩).v,(l.getD 14 ⟨0⟩).v,(l.getD 15 ⟨0⟩).v]:=by
 rcases l with _ | ⟨a,_ | ⟨b,_ | ⟨c,_ | ⟨d,_ | ⟨e,_ | ⟨f,_ | ⟨g,_ | ⟨h,_ | ⟨i,_ | ⟨j,_ | ⟨k,_ | ⟨m,_ | ⟨n,_ | ⟨o,_ | ⟨p,_ | ⟨q,r⟩⟩⟩⟩⟩⟩⟩⟩⟩⟩⟩⟩⟩⟩⟩⟩
 all_goals first | rfl | (simp at h;done)
theorem pW {l:List U32}(h:l.length=16):l.map U32.v= [(l.getD 0 ⟨0⟩).v,(l.getD 1 ⟨0⟩).v,(l.getD 2 ⟨0⟩).v,(l.getD 3 ⟨0⟩).v,(l.getD 4 ⟨0⟩).v,(l.getD 5 ⟨0⟩).v,(l.getD 6 ⟨0⟩).v,(l.getD 7 ⟨0⟩).v,(l.getD 8 ⟨0⟩).v,(l.getD 9 ⟨0⟩).v,(l.getD 10 ⟨0⟩).v,(l.getD 11 ⟨0⟩).v,(l.getD 12 ⟨0⟩).v,(l.getD 13 ⟨0⟩).v,(l.getD 14 ⟨0⟩).v,(l.getD 15 ⟨0⟩).v]:=by
 rw [← kp (by omega),List.take_of_length_le (by omega)]
theorem pX {K:List Int} {s:S8} {a l:List U32} {i:Int} {x:U32} {S:S8} {b:List U32}(h:bT K s (a++l.take i.toNat)=(S,b))(hi:0≤i∧i<9000000000000000000)(hx:l[i.toNat]? =some x):
 bT K s (a++l.take (i64.wrap (i+1)).toNat)=if b.length+1=16 then(dV K S ((b++ [x]).map U32.v),[])else(S,b++ [x]):=by
 rw [aq (by omega),show(i+1).toNat=i.toNat+1 by omega,List.take_add_one,hx,← List.append_assoc,Option.toList_some,zn,h]
theorem Ec {l:List Int} {r:List U32} {i:Int} {x:U32}(h:0≤i∧i<16)(hx:r[i.toNat]? =some x):fI l 10 ((r.map U32.v).take (i64.wrap (i+1)).toNat)=(fI l 10 ((r.map U32.v).take i.toNat)).set (Int.toNat (i64.wrap (10+i))) x.v:=by
 have hl:i.toNat<r.length:=(List.getElem?_eq_some_iff.1 hx).1
 rw [aq (by omega),aq (by omega),show(i+1).toNat=i.toNat+1 by omega,List.take_add_one,List.getElem?_map,hx,Option.map_some,Option.toList_some,uR,List.length_take,List.length_map,show(10+i).toNat=10+min i.toNat r.length by omega]
structure Dg where
 st:S8
 n:Int
 waits:List U32
namespace Dg
def new:Dg:=⟨S8.first,0,[]⟩
def add(K:List Int)(d:Dg)(l:List U32):Dg:=if(l.length:Int)>36028797018963968 - d.n then d else⟨(bT K d.st (d.waits++l)).1,d.n+l.length,(bT K d.st (d.waits++l)).2⟩
structure Ok(d:Dg):Prop where
 n:0≤d.n∧d.n≤36028797018963968
 len:d.waits.length=(d.n % 16).toNat
 st:d.st.ok
 words:∀x∈d.waits,0≤x.v∧x.v<4294967296
theorem kA:new.Ok:=⟨by decide,rfl,by unfold S8.ok new S8.first;decide,by simp [new]⟩
theorem sy {K:List Int} {d:Dg} {l:List U32}(h:d.Ok)(hl:∀x∈l,0≤x.v∧x.v<4294967296):(d.add K l).Ok:=by
 unfold add
 split
 ·exact h
 ·have hn:=h.n
  have hw:=h.len
  refine⟨⟨by show 0≤d.n+_;omega,by show d.n+_≤_;omega⟩,?_,ET _ _ _ h.st,fun x hx=>?_⟩
  ·show(bT K d.st (d.waits++l)).2.length=((d.n+l.length) % 16).toNat
   rw [BV,List.length_append,hw]
   omega
  ·rcases List.mem_append.1 (BU _ _ _ x hx)with h1 | h1
   ·exact h.words x h1
   ·exact hl x h1
def save(d:Dg):List Int:= [d.st.a,d.st.b,d.st.c,d.st.d,d.st.e,d.st.f,d.st.g,d.st.h,d.n / 4294967296,d.n % 4294967296]++(d.waits.map U32.v++List.replicate (16 - d.waits.length) 0)
def ij(l:List U32):S8:=⟨(l.getD 0 ⟨0⟩).v,(l.getD 1 ⟨0⟩).v,(l.getD 2 ⟨0⟩).v,(l.getD 3 ⟨0⟩).v,(l.getD 4 ⟨0⟩).v,(l.getD 5 ⟨0⟩).v,(l.getD 6 ⟨0⟩).v,(l.getD 7 ⟨0⟩).v⟩
def nOf(l:List U32):Int:=(l.getD 8 ⟨0⟩).v*4294967296+(l.getD 9 ⟨0⟩).v
def load(l:List U32):Dg:=⟨ij l,nOf l,(l.drop 10).take (nOf l % 16).toNat⟩
theorem save_eq {d:Dg}(h:d.Ok) {x y:Int} {n:Nat}(hx:x=d.n / 4294967296)(hy:y=d.n % 4294967296)(hn:d.waits.length=n):
 fI (((fI (List.replicate 26 0) 0 (List.take (min 8 8) [d.st.a,d.st.b,d.st.c,d.st.d,d.st.e,d.st.f,d.st.g,d.st.h])).set 8 x).set 9 y) 10 ((List.map U32.v d.waits).take (min n 16))=d.save:=by
 have hl:=h.len
 have R1:=h.n
 subst hx hy hn
 rw [List.take_of_length_le (l:=List.map U32.v d.waits) (by simp;omega)]
 have e:(((fI (List.replicate 26 0) 0 (List.take (min 8 8) [d.st.a,d.st.b,d.st.c,d.st.d,d.st.e,d.st.f,d.st.g,d.st.h])).set 8 (d.n / 4294967296)).set 9 (d.n % 4294967296))= [d.st.a,d.st.b,d.st.c,d.st.d,d.st.e,d.st.f,d.st.g,d.st.h,d.n / 4294967296,d.n % 4294967296]++(List.replicate d.waits.length 0++List.replicate (16 - d.waits.length) 0):=by
  rw [List.replicate_append_replicate,show d.waits.length+(16 - d.waits.length)=16 by omega];rfl
 rw [e]
 exact rA [d.st.a,d.st.b,d.st.c,d.st.d,d.st.e,d.st.f,d.st.g,d.st.h,d.n / 4294967296,d.n % 4294967296] (d.waits.map U32.v) _ _ (by simp)
theorem Gy {n:Int}(h:0≤n∧n≤36028797018963968):u32.wrap ((u64.wrap n:Int).fdiv (2 ^ 32))=n / 4294967296:=by
 rw [ig (by omega),mE,bj (by omega)];rfl
theorem nOf_eq {l:List U32}(h:∀x∈l,0≤x.v∧x.v<4294967296)(hl:l.length=26):u64.wrap (BitVec.ofInt u64.bits (u64.wrap ((u64.wrap (l.getD 8 ⟨0⟩).v:Int)*2 ^ 32)) ||| BitVec.ofInt u64.bits (u64.wrap (l.getD 9 ⟨0⟩).v)).toNat=nOf l∧0≤nOf l∧nOf l<18446744073709551616:=by
 have h8:=h _ (List.getElem_mem (show 8<l.length by omega))
 have h9:=h _ (List.getElem_mem (show 9<l.length by omega))
 have e8:(l.getD 8 ⟨0⟩)=l[8]:=by simp [List.getD_eq_getElem?_getD,hl]
 have e9:(l.getD 9 ⟨0⟩)=l[9]:=by simp [List.getD_eq_getElem?_getD,hl]
 have hn:nOf l=l[8].v*(4294967296:Int)+l[9].v:=by unfold nOf;rw [e8,e9]
 refine⟨?_,by rw [hn];omega,by rw [hn];omega⟩
 rw [e8,e9,hn]
 generalize l[8].v=a at *
 generalize l[9].v=b at *
 rw [ig (x:=a) (by omega),ig (x:=b) (by omega),ig (x:=a*2 ^ 32) (by omega)]
 rw [HH,BitVec.toNat_or,eK (by omega) (by omega),eK (by omega) (by omega)]
 have:=gQ 32 (a:=a) (y:=b) (by omega) (by omega) (by omega)
 unfold nor at this
 rw [show a*2 ^ 32=2 ^ 32*a by omega,this,ig (by omega)]
 omega
def ay(l:List U32):Int:=
 if l.length≠26 then 20 else if nOf l>36028797018963968∨(nOf l<16∧ij l≠S8.first)then 20
 else if(l.drop (10+(nOf l % 16).toNat)).all (fun x=>x.v==0)then 0 else 20
def zero:Dg:=⟨⟨0,0,0,0,0,0,0,0⟩,0,[]⟩
def ae(l:List U32):Dg:=if ay l=0 then load l else zero
theorem aH {l:List U32}(h:ay l=20):ae l=zero:=by unfold ae;rw [h];rfl
theorem bQ {l:List U32}(h:ay l=0):ae l=load l:=by unfold ae;rw [if_pos h]
theorem uQ {l:List U32} {i:Int} {x:U32} {k:Nat}(h:10≤i)(h9:i<26)(hk:i<10+(k:Int))(hx:l[i.toNat]? =some x):(l.drop 10).take (min ((i64.wrap (i+1)).toNat - 10) k)=(l.drop 10).take (min (i.toNat - 10) k)++ [x]:=by
 rw [aq (by omega),show(i+1).toNat - 10=(i.toNat - 10)+1 by omega,show min ((i.toNat - 10)+1) k=(i.toNat - 10)+1 by omega,show min (i.toNat - 10) k=i.toNat - 10 by omega,List.take_add_one,List.getElem?_drop,show 10+(i.toNat - 10)=i.toNat by omega,hx]
 rfl
theorem JD {l:List U32}(h:∀x∈l,0≤x.v∧x.v<4294967296)(hl:l.length=26):u64.wrap ((u64.wrap ((u64.wrap (l.getD 8 ⟨0⟩).v:Int)*2 ^ 32))+(u64.wrap (l.getD 9 ⟨0⟩).v))=nOf l:=by
 have h8:=h _ (List.getElem_mem (show 8<l.length by omega))
 have h9:=h _ (List.getElem_mem (show 9<l.length by omega))
 have e8:(l.getD 8 ⟨0⟩)=l[8]:=by simp [List.getD_eq_getElem?_getD,hl]
 have e9:(l.getD 9 ⟨0⟩)=l[9]:=by simp [List.getD_eq_getElem?_getD,hl]
 unfold nOf
 rw [e8,e9]
 generalize l[8].v=a at *
 generalize l[9].v=b at *
 rw [ig (x:=a) (by omega),ig (x:=b) (by omega),ig (x:=a*2 ^ 32) (by omega),ig (by omega)]
 rfl
theorem xV {l:List U32} {i:Int} {k:Nat}(h:¬i<26)(hk:k<16):(l.drop 10).take (min (i.toNat - 10) k)=(l.drop 10).take k:=by
 rw [show min (i.toNat - 10) k=k by omega]
theorem kC {l:List U32}(h:¬l.length=26):ay l=20:=by unfold ay;rw [if_pos h]
theorem ff {l:List U32}(h:l.length=26)(hg:nOf l>36028797018963968∨(nOf l<16∧ij l≠S8.first)):ay l=20:=by unfold ay;rw [if_neg (by simpa using h),if_pos hg]
theorem jh {l:List U32}(h:l.length=26)(hg:¬(nOf l>36028797018963968∨(nOf l<16∧ij l≠S8.first)))(hz:∀(i:Nat)(x:U32),(l.drop (10+(nOf l % 16).toNat))[i]? =some x→x.v=0):ay l=0:=by
 unfold ay
 rw [if_neg (by simpa using h),if_neg hg,if_pos]
 rw [List.all_eq_true]
 intro x hx
 obtain⟨i,hi⟩:=List.getElem?_of_mem hx
 simpa using hz i x hi
theorem dX {l:List U32}(h:l.length=26)(hg:¬(nOf l>36028797018963968∨(nOf l<16∧ij l≠S8.first))) {i:Nat} {x:U32}(hx:(l.drop (10+(nOf l % 16).toNat))[i]? =some x)(h0:¬x.v=0):ay l=20:=by
 unfold ay
 rw [if_neg (by simpa using h),if_neg hg,if_neg]
 rw [List.all_eq_true]
 intro hh
 exact h0 (by simpa using hh x (List.mem_of_getElem? hx))
theorem lo_eq {l:List U32}:(i64.wrap (10+nOf l % 16)).toNat=10+(nOf l % 16).toNat:=by rw [aq (by omega)];omega
end Dg
structure DgL where
 Y:Nat→Prop
 a:Option Addr
 n:Nat
 c:Nat
def DgL.X(L:DgL)(g:Nat):Nat→Prop:=fun k=>k=g∨L.Y k
structure oB(w:World)(g:Nat)(L:DgL)(D:Dg):Prop where
 blk:∃T,Blk w g #[.int .u32 D.st.a,.int .u32 D.st.b,.int .u32 D.st.c,.int .u32 D.st.d,.int .u32 D.st.e,.int .u32 D.st.f,.int .u32 D.st.g,.int .u32 D.st.h,.int .i64 D.n,.slice L.a L.n L.c] T
 rd:Rd w L.Y L.a L.n L.c D.waits
 off:¬L.Y g
variable {w w':World} {g:Nat} {L:DgL} {D:Dg} {X:Nat→Prop}
theorem oB.lt(h:oB w g L D):∀k,L.X g k→k<w.heap.size:=by
 rintro k (rfl | hk)
 ·obtain⟨T,b⟩:=h.blk;exact b.lt
 ·exact h.rd.lt k hk
theorem oB.ch(h:oB w g L D)(hk:Ch X w w')(hx:∀k,L.X g k→¬X k):oB w' g L D:=
 ⟨h.blk.imp fun _ b=>hk.blk b (hx g (.inl rfl)),h.rd.ch hk fun k hk=>hx k (.inr hk),h.off⟩
theorem oB.pu(h:oB w g L D)(hk:Pu w w'):oB w' g L D:=h.ch hk (by simp)
end
structure Mem where
 S:Nat
 I:Nat
 pg:Bool→Nat→Nat→Int
namespace Mem
def cnt(m:Mem)(s:Bool):Nat:=match s with
 | true=>m.S
 | false=>m.I
def has(m:Mem)(s:Bool)(p:Int):Bool:=decide (0≤p∧p<(m.cnt s:Int))
def dC(o:Int):Bool:=decide (0≤o∧o<1024)
def bD(m:Mem)(s:Bool)(p o:Int):Int:=if m.has s p && dC o then m.pg s p.toNat o.toNat else 0
def tick(m:Mem)(_:Int):Mem:=m
def fill(m:Mem)(s:Bool)(p:Nat)(f:Nat→Int):Mem:= {m with pg:=fun s' p' o'=>if s'=s∧p'=p then f o' else m.pg s' p' o'}
def put(m:Mem)(s:Bool)(p o:Nat)(v:Int):Mem:=m.fill s p fun o'=>if o'=o then v else m.pg s p o'
def err(m:Mem)(s:Bool)(p o:Int):Int:=if m.has s p then(if dC o then 0 else 70)else 5
def write(m:Mem)(s:Bool)(p o v:Int):Mem:=if m.has s p && dC o then(m.put s p.toNat o.toNat v).tick 1 else m
def cR(m:Mem)(s:Bool)(p:Int):Int:=if m.has s p then 0 else 5
def zero(m:Mem)(s:Bool)(p:Int):Mem:=if m.has s p then(m.fill s p.toNat fun _=>0).tick 1024 else m
def fresh(S I:Nat):Mem:= {S,I,pg:=fun _ _ _=>0}
@[simp] theorem MQ(m:Mem)(n:Int)(s:Bool):(m.tick n).cnt s=m.cnt s:=by cases s<;>rfl
@[simp] theorem MR(m:Mem)(s':Bool)(p:Nat)(f:Nat→Int)(s:Bool):(m.fill s' p f).cnt s=m.cnt s:=by cases s<;>rfl
@[simp] theorem M4(m:Mem)(s':Bool)(p o:Nat)(v:Int)(s:Bool):(m.put s' p o v).cnt s=m.cnt s:=by cases s<;>rfl
theorem bh {m:Mem} {s:Bool} {p:Int}(h:m.has s p=true):0≤p∧p<(m.cnt s:Int):=by simpa [has]using h
theorem cK {m:Mem} {s:Bool} {p:Int}(h:m.has s p=true):p.toNat<m.cnt s:=by have:=bh h;omega
theorem fX {o:Int}(h:dC o=true):0≤o∧o<1024:=by simpa [dC]using h
end Mem
end Go.Proofs.YtinhphjfnedhgaaGreatDoor
namespace Go.Proofs.YtinhphjfnedhgaaGreatDoor
open Go.Proofs.Tryz (prog)
open Go Go.RowKit V
open Go.IntKind (i64 u32 u64)
section
set_option maxRecDepth 100000
def aK:List Nat:= [2,3,4,5,6,7,8,9,10,11,12,13,14,15,16,17,18,19,20,21,22,23,24,25,26,27,28,29,30,31,32,33,34,35,36,37,38,39,40,41,42,43,44,45,46,47,48,49,50,51,52,53,54,55,56,57,58,59,60,61,62,63,64,65,66,67,68,69,70,71,72,73,74,75,76,77,78,79,80,81,82,83,84,85,86,87,88,89,90,91,92,93,94,95,96,97,98,99,100,101,102,103,104,105,106,107,108,109,110,111,112,113,114,115,116,117,118,119,120,121,122,123,124,125,126,127,128,129,130,131,132,133,134,135,136,137,138,139,140,141,142,143,144,145,146,147,148,149,150,151,152,153,154,155,156,157,158,159,160,161,162,163,164,165,166,167,168,169,170,171,172,173,174,175,176,177,178,179,180,181,182,183,184,185,186,187,188,189,190,191,192,193,194,195,196,197,198,199,200,201,218,219,225]
theorem aw:eC prog aK=true:=by kernel_rfl
theorem aa:prog.follows .mixedOrders=true:=by kernel_rfl
def IK(m:Option Addr)(fa:Bool)(fb:Int)(R:aD)(w:World):Prop:=
 ∀(gv:Nat)(wv:World),gv=w.heap.size→wv=w.alloc (.cells #[(.bool fa),(.int .i64 fb)] 86)→
 au m fun p7=>
 ∃XH:Option Addr,∃WC:Nat,∃x9C:Nat,wv.cell? (p7.add 1)=some (.slice XH WC x9C)∧
 ∃Pg:Bool,wv.cell? ((Addr.mk gv 0 none).add 0)=some (.bool Pg)∧
 split Pg (
  au m fun VC=>
  ∃Vx:Option Addr,∃SY:Nat,∃WO:Nat,wv.cell? (VC.add 0)=some (.slice Vx SY WO)∧
  ∃J:Bool→World→Prop,(
   ∃Po:Int,wv.cell? ((Addr.mk gv 0 none).add 1)=some (.int .i64 Po)∧
   split (decide ((Po:Int)<0)) (
    J true wv) (
    ∃PB:Int,wv.cell? ((Addr.mk gv 0 none).add 1)=some (.int .i64 PB)∧
    J (decide ((PB:Int)≥((SY:Nat):Int))) wv))∧∀(Oi:Nat→Value)(PJ:Bool),∀Nw,J PJ Nw→
  split PJ (
   R (.pointer none) Nw) (
   ∃RA:Int,Nw.cell? ((Addr.mk gv 0 none).add 1)=some (.int .i64 RA)∧
   (0≤(RA:Int)∧(RA:Int)<((SY:Nat):Int))∧
   au Vx fun SE=>
   ∃OU:Option Addr,Nw.cell? (SE.add (Int.toNat RA*1))=some (.pointer OU)∧
   R (.pointer OU) Nw)) (
  ∃J:Bool→World→Prop,(
   ∃Po:Int,wv.cell? ((Addr.mk gv 0 none).add 1)=some (.int .i64 Po)∧
   split (decide ((Po:Int)<0)) (
    J true wv) (
    ∃PB:Int,wv.cell? ((Addr.mk gv 0 none).add 1)=some (.int .i64 PB)∧
    J (decide ((PB:Int)≥((WC:Nat):Int))) wv))∧∀(Oi:Nat→Value)(PJ:Bool),∀Nw,J PJ Nw→
  split PJ (
   R (.pointer none) Nw) (
   ∃RA:Int,Nw.cell? ((Addr.mk gv 0 none).add 1)=some (.int .i64 RA)∧
   (0≤(RA:Int)∧(RA:Int)<((WC:Nat):Int))∧
   au XH fun SE=>
   ∃OU:Option Addr,Nw.cell? (SE.add (Int.toNat RA*1))=some (.pointer OU)∧
   R (.pointer OU) Nw))
def L7:Ann:=(.node none .leaf (.node none .leaf (.node none .leaf (.node none (.node none (.node (some ⟨[(25,.one (.bool))],[16,17,18,19,20,21,22,23,24,25]⟩) .leaf .leaf) .leaf) .leaf))))
theorem MAt_eq(m:Option Addr)(fa:Bool)(fb:Int)(R:aD)(w:World):IK m fa fb R w=vcF prog aK [] Tryz.f90 L7 [(.pointer m),(.agg #[(.bool fa),(.int .i64 fb)])] R none w:=by kernel_rfl
theorem FT(m:Option Addr)(fa:Bool)(fb:Int) {R:aD} {w:World}(h:IK m fa fb R w):Calls prog 90 #[(.pointer m),(.agg #[(.bool fa),(.int .i64 fb)])] w fun e w'=>∃v,e= .returned v∧R v w':=
 ak Tryz.func90 aw aa ((MAt_eq m fa fb R w).mp h)
def vK(m:Option Addr)(R:aD)(w:World):Prop:=
 ∃b:Nat→Nat→Prop,
 au m fun p4=>
 b 3 ((p4.add 0).block)∧
 ∃SA:Option Addr,∃Q1:Nat,∃SR:Nat,w.drew.cell? (p4.add 0)=some (.slice SA Q1 SR)∧
 au m fun p9=>
 b 8 ((p9.add 1).block)∧
 ∃S2:Option Addr,∃SZ:Nat,∃S0:Nat,w.drew.cell? (p9.add 1)=some (.slice S2 SZ S0)∧
 au m fun SG=>
 b 13 ((SG.add 2).block)∧
 ∃OJ:Int,w.drew.cell? (SG.add 2)=some (.int .i64 OJ)∧
 Calls prog 122 #[(.slice SA Q1 SR)] w.drew fun e wv=>
 ∃Tp:Option Addr,∃SQ:Nat,∃U2:Nat,e= .returned (.slice Tp SQ U2)∧
 Kept (bE b [0,5,6,7,8,10,11,12,13]) w.drew wv∧∃b1:Nat→Nat→Prop,(∀i k,b i k→b1 i k)∧
 Calls prog 122 #[(.slice S2 SZ S0)] wv fun e Nw=>
 ∃Uw:Option Addr,∃Uv:Nat,∃Vy:Nat,e= .returned (.slice Uw Uv Vy)∧
 Kept (bE b1 [0,1,5,10,11,12,13]) wv Nw∧∃b2:Nat→Nat→Prop,(∀i k,b1 i k→b2 i k)∧
 ∀(gv:Nat)(Ny:World),gv=Nw.heap.size→Ny=Nw.alloc (.cells #[(.slice Tp SQ U2),(.slice Uw Uv Vy),(.int .i64 OJ)] 148)→
 Kept (bE b2 [0,1,2,5,6,7,10,11]) Nw Ny∧∃b3:Nat→Nat→Prop,(∀i k,b2 i k→b3 i k)∧
 R (.pointer (some (Addr.mk gv 0 none))) Ny
def FR:Ann:= .leaf
theorem MClone_eq(m:Option Addr)(R:aD)(w:World):vK m R w=vcF prog aK [] Tryz.f51 FR [(.pointer m)] R none w:=by kernel_rfl
theorem xn(m:Option Addr) {R:aD} {w:World}(h:vK m R w):Calls prog 51 #[(.pointer m)] w fun e w'=>∃v,e= .returned v∧R v w':=
 ak Tryz.func51 aw aa ((MClone_eq m R w).mp h)
def Ai(m:Option Addr)(toa:Bool)(tob:Int)(froma:Bool)(fromb:Int)(R:aD)(w:World):Prop:=
 ∀(gv:Nat)(wv:World),gv=w.heap.size→wv=w.alloc (.cells #[(.bool toa),(.int .i64 tob)] 86)→
 ∀(NB:Nat)(Nw:World),NB=wv.heap.size→Nw=wv.alloc (.cells #[(.bool froma),(.int .i64 fromb)] 86)→
 ∃b:Nat→Nat→Prop,
 b 1 ((Addr.mk gv 0 none).block)∧
 ∃Qa:Bool,∃PC:Int,(Nw.drew.cell? ((Addr.mk gv 0 none).add 0)=some (.bool Qa)∧Nw.drew.cell? ((Addr.mk gv 0 none).add 1)=some (.int .i64 PC))∧
 b 4 ((Addr.mk NB 0 none).block)∧
 ∃Pf:Bool,∃Pq:Int,(Nw.drew.cell? ((Addr.mk NB 0 none).add 0)=some (.bool Pf)∧Nw.drew.cell? ((Addr.mk NB 0 none).add 1)=some (.int .i64 Pq))∧
 Calls prog 90 #[(.pointer m),(.agg #[(.bool Qa),(.int .i64 PC)])] Nw.drew fun e Ny=>
 ∃Pg:Option Addr,e= .returned (.pointer Pg)∧
 Kept (bE b [3,4]) Nw.drew Ny∧∃b1:Nat→Nat→Prop,(∀i k,b i k→b1 i k)∧
 Calls prog 90 #[(.pointer m),(.agg #[(.bool Pf),(.int .i64 Pq)])] Ny fun e NF=>
 ∃P6:Option Addr,e= .returned (.pointer P6)∧
 ∃b2:Nat→Nat→Prop,(∀i k,b1 i k→b2 i k)∧
 ∃J:Bool→World→Prop,(
  split Pg.isNone (
   J true NF) (
   J P6.isNone NF))∧∀(OW:Nat→Value)(ON:Bool),∀NI,J ON NI→
 split ON (
  R (.int .i64 5) NI) (
  au m fun UB=>
  ∃Qh:Int,NI.cell? (UB.add 2)=some (.int .i64 Qh)∧
  au m fun Sf=>
  aA NI (Sf.add 2) [(.int .i64 (i64.wrap (Qh+2048)))] fun NW=>
  au P6 fun XN=>
  ∃QU:Array Value,(QU.size=1024∧∀i u,QU[i]? =some u→NW.cell? (XN.add i)=some u)∧
  au Pg fun XM=>
  QU.size=1024∧(∀v∈QU.toList,one? v True)∧
  aA NW XM QU.toList fun NT=>
  R (.int .i64 0) NT)
def IJ:Ann:=(.node none .leaf (.node none .leaf (.node none (.node none (.node (some ⟨[(20,.one (.bool))],[15,16,17,18,19,20]⟩) .leaf .leaf) .leaf) .leaf)))
theorem MCopy_eq(m:Option Addr)(toa:Bool)(tob:Int)(froma:Bool)(fromb:Int)(R:aD)(w:World):Ai m toa tob froma fromb R w=vcF prog aK [] Tryz.f66 IJ [(.pointer m),(.agg #[(.bool toa),(.int .i64 tob)]),(.agg #[(.bool froma),(.int .i64 fromb)])] R none w:=by kernel_rfl
theorem Aj(m:Option Addr)(toa:Bool)(tob:Int)(froma:Bool)(fromb:Int) {R:aD} {w:World}(h:Ai m toa tob froma fromb R w):Calls prog 66 #[(.pointer m),(.agg #[(.bool toa),(.int .i64 tob)]),(.agg #[(.bool froma),(.int .i64 fromb)])] w fun e w'=>∃v,e= .returned v∧R v w':=
 ak Tryz.func66 aw aa ((MCopy_eq m toa tob froma fromb R w).mp h)
def Ag(lA:Option Addr)(lN:Nat)(lC:Nat)(R:aD)(w:World):Prop:=
 ∃XH:Option Addr,∃WC:Nat,∃x9C:Nat,∃wv,(Instr.makeSlice 145 (.int .i64 ((lN:Nat):Int)) (.int .i64 ((lN:Nat):Int)):Sem Value).run prog w= .ok (.slice XH WC x9C) wv∧
 ∃I:Nat→Int→World→Prop,(∃m,I m 0 wv)∧∀(m:Nat)(PO:Nat→Value)(OX:Int),∀Nw,I m OX Nw→
 split (decide ((OX:Int)<((lN:Nat):Int))) (
  (0≤(OX:Int)∧(OX:Int)<((lN:Nat):Int))∧
  au lA fun p15=>
  ∃OJ:Option Addr,Nw.cell? (p15.add (Int.toNat OX*1))=some (.pointer OJ)∧
  au OJ fun Va=>
  ∃Pw:Array Value,(Pw.size=1024∧∀i u,Pw[i]? =some u→Nw.cell? (Va.add i)=some u)∧
  ∀(NB:Nat)(Ny:World),NB=Nw.heap.size→Ny=Nw.alloc (.cells (Array.replicate 1024 (.int .u32 0)) 213)→
  Pw.size=1024∧(∀v∈Pw.toList,one? v True)∧
  aA Ny (Addr.mk NB 0 none) Pw.toList fun NF=>
  (0≤(OX:Int)∧(OX:Int)<((WC:Nat):Int))∧
  au XH fun UB=>
  aA NF (UB.add (Int.toNat OX*1)) [(.pointer (some (Addr.mk NB 0 none)))] fun NI=>
  ∃m1,m1<m∧I m1 (i64.wrap (OX+1)) NI) (
  R (.slice XH WC x9C) Nw)
def II:Ann:=(.node none .leaf (.node none .leaf (.node none (.node none .leaf (.node none (.node (some ⟨[(12,.one (.int .i64))],[4,5,6,12,13,14,15,16,17,18,19,20,21,22,23]⟩) .leaf .leaf) .leaf)) .leaf)))
theorem MEach_eq(lA:Option Addr)(lN:Nat)(lC:Nat)(R:aD)(w:World):Ag lA lN lC R w=vcF prog aK [] Tryz.f122 II [(.slice lA lN lC)] R none w:=by kernel_rfl
theorem Ah(lA:Option Addr)(lN:Nat)(lC:Nat) {R:aD} {w:World}(h:Ag lA lN lC R w):Calls prog 122 #[(.slice lA lN lC)] w fun e w'=>∃v,e= .returned v∧R v w':=
 ak Tryz.func122 aw aa ((MEach_eq lA lN lC R w).mp h)
def oz(m:Option Addr)(R:aD)(w:World):Prop:=
 au m fun p4=>
 ∃SA:Option Addr,∃Q1:Nat,∃SR:Nat,w.cell? (p4.add 1)=some (.slice SA Q1 SR)∧
 R (.int .i64 ((Q1:Nat):Int)) w
def xk:Ann:= .leaf
theorem MInsecure_eq(m:Option Addr)(R:aD)(w:World):oz m R w=vcF prog aK [] Tryz.f55 xk [(.pointer m)] R none w:=by kernel_rfl
theorem qx(m:Option Addr) {R:aD} {w:World}(h:oz m R w):Calls prog 55 #[(.pointer m)] w fun e w'=>∃v,e= .returned v∧R v w':=
 ak Tryz.func55 aw aa ((MInsecure_eq m R w).mp h)
def Ae(n:Int)(R:aD)(w:World):Prop:=
 ∃SA:Option Addr,∃Q1:Nat,∃SR:Nat,∃wv,(Instr.makeSlice 145 (.int .i64 n) (.int .i64 n):Sem Value).run prog w= .ok (.slice SA Q1 SR) wv∧
 ∃I:Nat→Int→World→Prop,(∃m,I m 0 wv)∧∀(m:Nat)(PO:Nat→Value)(x9:Int),∀Nw,I m x9 Nw→
 split (decide ((x9:Int)<((Q1:Nat):Int))) (
  ∀(NB:Nat)(Ny:World),NB=Nw.heap.size→Ny=Nw.alloc (.cells (Array.replicate 1024 (.int .u32 0)) 213)→
  (0≤(x9:Int)∧(x9:Int)<((Q1:Nat):Int))∧
  au SA fun WV=>
  aA Ny (WV.add (Int.toNat x9*1)) [(.pointer (some (Addr.mk NB 0 none)))] fun NF=>
  ∃m1,m1<m∧I m1 (i64.wrap (x9+1)) NF) (
  R (.slice SA Q1 SR) Nw)
def IG:Ann:=(.node none .leaf (.node none .leaf (.node none (.node none .leaf (.node none (.node (some ⟨[(9,.one (.int .i64))],[4,9,10,11,12,13,14,15,16,17]⟩) .leaf .leaf) .leaf)) .leaf)))
theorem MMade_eq(n:Int)(R:aD)(w:World):Ae n R w=vcF prog aK [] Tryz.f76 IG [(.int .i64 n)] R none w:=by kernel_rfl
theorem Af(n:Int) {R:aD} {w:World}(h:Ae n R w):Calls prog 76 #[(.int .i64 n)] w fun e w'=>∃v,e= .returned v∧R v w':=
 ak Tryz.func76 aw aa ((MMade_eq n R w).mp h)
def DT(cV:Int)(insecure:Int)(R:aD)(w:World):Prop:=
 ∃J:Bool→World→Prop,(
  split (decide ((cV:Int)<1)) (
   J true w) (
   split (decide ((cV:Int)>64)) (
    J true w) (
    split (decide ((insecure:Int)<1)) (
     J true w) (
     J (decide ((insecure:Int)>64)) w))))∧∀(PO:Nat→Value)(Pw:Bool),∀wv,J Pw wv→
 split Pw (
  R (.tuple #[(.pointer none),(.int .i64 1)]) wv) (
  Calls prog 76 #[(.int .i64 cV)] wv fun e Nw=>
  ∃aay:Option Addr,∃aaw:Nat,∃aax:Nat,e= .returned (.slice aay aaw aax)∧
  Calls prog 76 #[(.int .i64 insecure)] Nw fun e Ny=>
  ∃Ra:Option Addr,∃Q9:Nat,∃RC:Nat,e= .returned (.slice Ra Q9 RC)∧
  ∀(NB:Nat)(NF:World),NB=Ny.heap.size→NF=Ny.alloc (.cells #[(.slice aay aaw aax),(.slice Ra Q9 RC),(.int .i64 0)] 148)→
  R (.tuple #[(.pointer (some (Addr.mk NB 0 none))),(.int .i64 0)]) NF)
def Kw:Ann:=(.node none .leaf (.node none (.node none (.node (some ⟨[(19,.one (.bool))],[6,7,8,9,10,11,12,13,14,15,16,17,18,19]⟩) .leaf .leaf) .leaf) .leaf))
theorem MNew_eq(cV:Int)(insecure:Int)(R:aD)(w:World):DT cV insecure R w=vcF prog aK [] Tryz.f27 Kw [(.int .i64 cV),(.int .i64 insecure)] R none w:=by kernel_rfl
theorem tH(cV:Int)(insecure:Int) {R:aD} {w:World}(h:DT cV insecure R w):Calls prog 27 #[(.int .i64 cV),(.int .i64 insecure)] w fun e w'=>∃v,e= .returned v∧R v w':=
 ak Tryz.func27 aw aa ((MNew_eq cV insecure R w).mp h)
def Ac(m:Option Addr)(fa:Bool)(fb:Int)(R:aD)(w:World):Prop:=
 ∀(gv:Nat)(wv:World),gv=w.heap.size→wv=w.alloc (.cells #[(.bool fa),(.int .i64 fb)] 86)→
 ∃RK:Bool,∃Sc:Int,(wv.cell? ((Addr.mk gv 0 none).add 0)=some (.bool RK)∧wv.cell? ((Addr.mk gv 0 none).add 1)=some (.int .i64 Sc))∧
 Calls prog 136 #[(.pointer m),(.agg #[(.bool RK),(.int .i64 Sc)]),(.int .i64 1)] wv fun e Nw=>
 ∃RJ:Option Addr,∃Rc:Int,e= .returned (.tuple #[(.pointer RJ),(.int .i64 Rc)])∧
 split ((Rc:Int) !=0) (
  R (.tuple #[(.slice none 0 0),(.int .i64 Rc)]) Nw) (
  ∃Qy:Option Addr,∃Qw:Nat,∃Qx:Nat,∃Ny,(Instr.makeSlice 62 (.int .i64 1024) (.int .i64 1024):Sem Value).run prog Nw= .ok (.slice Qy Qw Qx) Ny∧
  au RJ fun UC=>
  ∀RE:Option Addr,RE=(some (if 1024=0 then UC else UC.add (0*1)))→∀RD:Nat,RD=1024 - 0→∀R9:Nat,R9=1024 - 0→
  ∃QP:Int,∃NF,(Builtin.copy_ #[62,62] 3 #[(.slice Qy Qw Qx),(.slice RE RD R9)]:Sem Value).run prog Ny= .ok (.int .i64 QP) NF∧
  R (.tuple #[(.slice Qy Qw Qx),(.int .i64 0)]) NF)
def IE:Ann:= .leaf
theorem MPage_eq(m:Option Addr)(fa:Bool)(fb:Int)(R:aD)(w:World):Ac m fa fb R w=vcF prog aK [] Tryz.f69 IE [(.pointer m),(.agg #[(.bool fa),(.int .i64 fb)])] R none w:=by kernel_rfl
theorem Ad(m:Option Addr)(fa:Bool)(fb:Int) {R:aD} {w:World}(h:Ac m fa fb R w):Calls prog 69 #[(.pointer m),(.agg #[(.bool fa),(.int .i64 fb)])] w fun e w'=>∃v,e= .returned v∧R v w':=
 ak Tryz.func69 aw aa ((MPage_eq m fa fb R w).mp h)
def Aa(m:Option Addr)(fa:Bool)(fb:Int)(off:Int)(R:aD)(w:World):Prop:=
 ∀(gv:Nat)(wv:World),gv=w.heap.size→wv=w.alloc (.cells #[(.bool fa),(.int .i64 fb)] 86)→
 ∃Sz:Bool,∃Sy:Int,(wv.cell? ((Addr.mk gv 0 none).add 0)=some (.bool Sz)∧wv.cell? ((Addr.mk gv 0 none).add 1)=some (.int .i64 Sy))∧
 Calls prog 90 #[(.pointer m),(.agg #[(.bool Sz),(.int .i64 Sy)])] wv fun e Nw=>
 ∃OH:Option Addr,e= .returned (.pointer OH)∧
 ∃J:Bool→World→Prop,(
  split OH.isNone (
   J true Nw) (
   split (decide ((off:Int)<0)) (
    J true Nw) (
    J (decide ((off:Int)≥1024)) Nw)))∧∀(Oi:Nat→Value)(ON:Bool),∀Ny,J ON Ny→
 split ON (
  R (.int .u32 0) Ny) (
  au OH fun SF=>
  (0≤(off:Int)∧(off:Int)<((1024:Nat):Int))∧
  ∃PJ:Int,Ny.cell? (SF.add (Int.toNat off*1))=some (.int .u32 PJ)∧
  R (.int .u32 PJ) Ny)
def IC:Ann:=(.node none .leaf (.node none .leaf (.node none (.node none (.node (some ⟨[(20,.one (.bool))],[11,12,13,14,15,16,17,18,19,20]⟩) .leaf .leaf) .leaf) .leaf)))
theorem MPeek_eq(m:Option Addr)(fa:Bool)(fb:Int)(off:Int)(R:aD)(w:World):Aa m fa fb off R w=vcF prog aK [] Tryz.f33 IC [(.pointer m),(.agg #[(.bool fa),(.int .i64 fb)]),(.int .i64 off)] R none w:=by kernel_rfl
theorem Ab(m:Option Addr)(fa:Bool)(fb:Int)(off:Int) {R:aD} {w:World}(h:Aa m fa fb off R w):Calls prog 33 #[(.pointer m),(.agg #[(.bool fa),(.int .i64 fb)]),(.int .i64 off)] w fun e w'=>∃v,e= .returned v∧R v w':=
 ak Tryz.func33 aw aa ((MPeek_eq m fa fb off R w).mp h)
def z8(m:Option Addr)(fa:Bool)(fb:Int)(off:Int)(R:aD)(w:World):Prop:=
 ∀(gv:Nat)(wv:World),gv=w.heap.size→wv=w.alloc (.cells #[(.bool fa),(.int .i64 fb)] 86)→
 ∃RJ:Bool,∃Rc:Int,(wv.cell? ((Addr.mk gv 0 none).add 0)=some (.bool RJ)∧wv.cell? ((Addr.mk gv 0 none).add 1)=some (.int .i64 Rc))∧
 Calls prog 114 #[(.pointer m),(.agg #[(.bool RJ),(.int .i64 Rc)]),(.int .i64 off)] wv fun e Nw=>
 ∃QG:Option Addr,∃Qz:Int,e= .returned (.tuple #[(.pointer QG),(.int .i64 Qz)])∧
 split ((Qz:Int) !=0) (
  R (.tuple #[(.int .u32 0),(.int .i64 Qz)]) Nw) (
  au QG fun UC=>
  ∃O1:Int,Nw.cell? UC=some (.int .u32 O1)∧
  R (.tuple #[(.int .u32 O1),(.int .i64 0)]) Nw)
def IB:Ann:= .leaf
theorem MRead_eq(m:Option Addr)(fa:Bool)(fb:Int)(off:Int)(R:aD)(w:World):z8 m fa fb off R w=vcF prog aK [] Tryz.f92 IB [(.pointer m),(.agg #[(.bool fa),(.int .i64 fb)]),(.int .i64 off)] R none w:=by kernel_rfl
theorem z9(m:Option Addr)(fa:Bool)(fb:Int)(off:Int) {R:aD} {w:World}(h:z8 m fa fb off R w):Calls prog 92 #[(.pointer m),(.agg #[(.bool fa),(.int .i64 fb)]),(.int .i64 off)] w fun e w'=>∃v,e= .returned v∧R v w':=
 ak Tryz.func92 aw aa ((MRead_eq m fa fb off R w).mp h)
def tF(m:Option Addr)(R:aD)(w:World):Prop:=
 au m fun p4=>
 ∃SA:Option Addr,∃Q1:Nat,∃SR:Nat,w.cell? (p4.add 0)=some (.slice SA Q1 SR)∧
 R (.int .i64 ((Q1:Nat):Int)) w
def CG:Ann:= .leaf
theorem MSecure_eq(m:Option Addr)(R:aD)(w:World):tF m R w=vcF prog aK [] Tryz.f54 CG [(.pointer m)] R none w:=by kernel_rfl
theorem uA(m:Option Addr) {R:aD} {w:World}(h:tF m R w):Calls prog 54 #[(.pointer m)] w fun e w'=>∃v,e= .returned v∧R v w':=
 ak Tryz.func54 aw aa ((MSecure_eq m R w).mp h)
def vJ(m:Option Addr)(fa:Bool)(fb:Int)(times:Int)(R:aD)(w:World):Prop:=
 ∀(gv:Nat)(wv:World),gv=w.heap.size→wv=w.alloc (.cells #[(.bool fa),(.int .i64 fb)] 86)→
 ∃Qa:Bool,∃PC:Int,(wv.cell? ((Addr.mk gv 0 none).add 0)=some (.bool Qa)∧wv.cell? ((Addr.mk gv 0 none).add 1)=some (.int .i64 PC))∧
 Calls prog 90 #[(.pointer m),(.agg #[(.bool Qa),(.int .i64 PC)])] wv fun e Nw=>
 ∃Pg:Option Addr,e= .returned (.pointer Pg)∧
 split Pg.isNone (
  R (.tuple #[(.pointer none),(.int .i64 5)]) Nw) (
  au m fun p15=>
  ∃Po:Int,Nw.cell? (p15.add 2)=some (.int .i64 Po)∧
  au m fun UC=>
  aA Nw (UC.add 2) [(.int .i64 (i64.wrap (Po+(i64.wrap (times*1024)))))] fun Ny=>
  R (.tuple #[(.pointer Pg),(.int .i64 0)]) Ny)
def FO:Ann:= .leaf
theorem MWhole_eq(m:Option Addr)(fa:Bool)(fb:Int)(times:Int)(R:aD)(w:World):vJ m fa fb times R w=vcF prog aK [] Tryz.f136 FO [(.pointer m),(.agg #[(.bool fa),(.int .i64 fb)]),(.int .i64 times)] R none w:=by kernel_rfl
theorem xe(m:Option Addr)(fa:Bool)(fb:Int)(times:Int) {R:aD} {w:World}(h:vJ m fa fb times R w):Calls prog 136 #[(.pointer m),(.agg #[(.bool fa),(.int .i64 fb)]),(.int .i64 times)] w fun e w'=>∃v,e= .returned v∧R v w':=
 ak Tryz.func136 aw aa ((MWhole_eq m fa fb times R w).mp h)
def z6(m:Option Addr)(fa:Bool)(fb:Int)(off:Int)(R:aD)(w:World):Prop:=
 ∀(gv:Nat)(wv:World),gv=w.heap.size→wv=w.alloc (.cells #[(.bool fa),(.int .i64 fb)] 86)→
 ∃Qa:Bool,∃PC:Int,(wv.cell? ((Addr.mk gv 0 none).add 0)=some (.bool Qa)∧wv.cell? ((Addr.mk gv 0 none).add 1)=some (.int .i64 PC))∧
 Calls prog 90 #[(.pointer m),(.agg #[(.bool Qa),(.int .i64 PC)])] wv fun e Nw=>
 ∃Pg:Option Addr,e= .returned (.pointer Pg)∧
 split Pg.isNone (
  R (.tuple #[(.pointer none),(.int .i64 5)]) Nw) (
  ∃J:Bool→World→Prop,(
   split (decide ((off:Int)<0)) (
    J true Nw) (
    J (decide ((off:Int)≥1024)) Nw))∧∀(Oi:Nat→Value)(Pw:Bool),∀Ny,J Pw Ny→
  split Pw (
   R (.tuple #[(.pointer none),(.int .i64 70)]) Ny) (
   au m fun UC=>
   ∃QP:Int,Ny.cell? (UC.add 2)=some (.int .i64 QP)∧
   au m fun U9=>
   aA Ny (U9.add 2) [(.int .i64 (i64.wrap (QP+1)))] fun NF=>
   au Pg fun SE=>
   (0≤(off:Int)∧(off:Int)<((1024:Nat):Int))∧
   R (.tuple #[(.pointer (some (SE.add (Int.toNat off*1)))),(.int .i64 0)]) NF))
def IA:Ann:=(.node none .leaf (.node none .leaf (.node none .leaf (.node none (.node none (.node (some ⟨[(19,.one (.bool))],[14,15,16,17,18,19]⟩) .leaf .leaf) .leaf) .leaf))))
theorem MWord_eq(m:Option Addr)(fa:Bool)(fb:Int)(off:Int)(R:aD)(w:World):z6 m fa fb off R w=vcF prog aK [] Tryz.f114 IA [(.pointer m),(.agg #[(.bool fa),(.int .i64 fb)]),(.int .i64 off)] R none w:=by kernel_rfl
theorem z7(m:Option Addr)(fa:Bool)(fb:Int)(off:Int) {R:aD} {w:World}(h:z6 m fa fb off R w):Calls prog 114 #[(.pointer m),(.agg #[(.bool fa),(.int .i64 fb)]),(.int .i64 off)] w fun e w'=>∃v,e= .returned v∧R v w':=
 ak Tryz.func114 aw aa ((MWord_eq m fa fb off R w).mp h)
def vI(m:Option Addr)(fa:Bool)(fb:Int)(off:Int)(v:Int)(R:aD)(w:World):Prop:=
 ∀(gv:Nat)(wv:World),gv=w.heap.size→wv=w.alloc (.cells #[(.bool fa),(.int .i64 fb)] 86)→
 ∃Pf:Bool,∃Pq:Int,(wv.cell? ((Addr.mk gv 0 none).add 0)=some (.bool Pf)∧wv.cell? ((Addr.mk gv 0 none).add 1)=some (.int .i64 Pq))∧
 Calls prog 114 #[(.pointer m),(.agg #[(.bool Pf),(.int .i64 Pq)]),(.int .i64 off)] wv fun e Nw=>
 ∃aaQ:Option Addr,∃Vw:Int,e= .returned (.tuple #[(.pointer aaQ),(.int .i64 Vw)])∧
 split ((Vw:Int)==0) (
  au aaQ fun UB=>
  aA Nw UB [(.int .u32 v)] fun Ny=>
  R (.int .i64 Vw) Ny) (
  R (.int .i64 Vw) Nw)
def FN:Ann:= .leaf
theorem MWrite_eq(m:Option Addr)(fa:Bool)(fb:Int)(off:Int)(v:Int)(R:aD)(w:World):vI m fa fb off v R w=vcF prog aK [] Tryz.f42 FN [(.pointer m),(.agg #[(.bool fa),(.int .i64 fb)]),(.int .i64 off),(.int .u32 v)] R none w:=by kernel_rfl
theorem xd(m:Option Addr)(fa:Bool)(fb:Int)(off:Int)(v:Int) {R:aD} {w:World}(h:vI m fa fb off v R w):Calls prog 42 #[(.pointer m),(.agg #[(.bool fa),(.int .i64 fb)]),(.int .i64 off),(.int .u32 v)] w fun e w'=>∃v,e= .returned v∧R v w':=
 ak Tryz.func42 aw aa ((MWrite_eq m fa fb off v R w).mp h)
def z4(m:Option Addr)(fa:Bool)(fb:Int)(R:aD)(w:World):Prop:=
 ∀(gv:Nat)(wv:World),gv=w.heap.size→wv=w.alloc (.cells #[(.bool fa),(.int .i64 fb)] 86)→
 ∃Sz:Bool,∃Sy:Int,(wv.cell? ((Addr.mk gv 0 none).add 0)=some (.bool Sz)∧wv.cell? ((Addr.mk gv 0 none).add 1)=some (.int .i64 Sy))∧
 Calls prog 136 #[(.pointer m),(.agg #[(.bool Sz),(.int .i64 Sy)]),(.int .i64 1)] wv fun e Nw=>
 ∃Qa:Option Addr,∃PC:Int,e= .returned (.tuple #[(.pointer Qa),(.int .i64 PC)])∧
 split ((PC:Int)==0) (
  au Qa fun WV=>
  ∀Sb:Option Addr,Sb=(some (if 1024=0 then WV else WV.add (0*1)))→∀RF:Nat,RF=1024 - 0→∀Sa:Nat,Sa=1024 - 0→
  ∃Ny,(Builtin.clear_ #[62] 0 #[(.slice Sb RF Sa)]:Sem Value).run prog Nw= .ok (.tuple #[]) Ny∧
  R (.int .i64 PC) Ny) (
  R (.int .i64 PC) Nw)
def Iz:Ann:= .leaf
theorem MZero_eq(m:Option Addr)(fa:Bool)(fb:Int)(R:aD)(w:World):z4 m fa fb R w=vcF prog aK [] Tryz.f77 Iz [(.pointer m),(.agg #[(.bool fa),(.int .i64 fb)])] R none w:=by kernel_rfl
theorem z5(m:Option Addr)(fa:Bool)(fb:Int) {R:aD} {w:World}(h:z4 m fa fb R w):Calls prog 77 #[(.pointer m),(.agg #[(.bool fa),(.int .i64 fb)])] w fun e w'=>∃v,e= .returned v∧R v w':=
 ak Tryz.func77 aw aa ((MZero_eq m fa fb R w).mp h)
end
end Go.Proofs.YtinhphjfnedhgaaGreatDoor
namespace Go.Proofs.YtinhphjfnedhgaaGreatDoor
open Go.Proofs.Tryz (prog)
open Go Go.RowKit V
open Go.IntKind (i64 u32 u64)
section
structure eW where
 g:Nat
 a:Nat
 b:Nat
 pg:Bool→Nat→Nat
 n:Bool→Nat
def eW.row(L:eW)(s:Bool):Nat:=match s with
 | true=>L.a
 | false=>L.b
def eW.X(L:eW):Nat→Prop:=fun k=>k=L.g∨k=L.a∨k=L.b∨∃s i,i<L.n s∧k=L.pg s i
abbrev ptr(g:Nat):Value:= .pointer (some (Addr.mk g 0 none))
abbrev fr(s:Bool)(p:Int):Value:= .agg #[.bool s,.int .i64 p]
structure cv(w:World)(L:eW)(m:Mem):Prop where
 cnt:∀s,L.n s=m.cnt s
 hd:∃T:TypeId×Int,Blk w L.g #[.slice (some (Addr.mk L.a 0 none)) m.S m.S,.slice (some (Addr.mk L.b 0 none)) m.I m.I,.int .i64 T.2] T.1
 rows:∀s,∃T cs,Blk w (L.row s) cs T∧∀i,i<m.cnt s→cs[i]? =some (ptr (L.pg s i))
 pgs:∀s i,i<m.cnt s→∃T cs,Blk w (L.pg s i) cs T∧cs.size=1024∧∀o,o<1024→cs[o]? =some (.int .u32 (m.pg s i o))
 inj:∀s i s' i',i<m.cnt s→i'<m.cnt s'→L.pg s i=L.pg s' i'→s=s'∧i=i'
 dis:L.a≠L.g∧L.b≠L.g∧∀s i,i<m.cnt s→L.pg s i≠L.g∧L.pg s i≠L.a∧L.pg s i≠L.b
 u32:∀s i o,0≤m.pg s i o∧m.pg s i o<4294967296
 er:m.S≤64∧m.I≤64
theorem cv.inX {w:World} {L:eW} {m:Mem}(h:cv w L m) {s:Bool} {i:Nat}(hi:i<m.cnt s):L.X (L.pg s i):= .inr (.inr (.inr ⟨s,i,by rw [h.cnt];exact hi,rfl⟩))
theorem cv.kept {w w':World} {L:eW} {m:Mem} {B:Nat→Prop}(h:cv w L m)(hk:Kept B w w')(hb:∀k,L.X k→B k):cv w' L m:=by
 refine⟨h.cnt,?_,fun s=>?_,fun s i hi=>?_,h.inj,h.dis,h.u32,h.er⟩
 ·obtain⟨T,hd⟩:=h.hd
  exact⟨T,hd.kept hk (hb _ (.inl rfl))⟩
 ·obtain⟨T,cs,hr,h2⟩:=h.rows s
  exact⟨T,cs,hr.kept hk (hb _ (by cases s<;>simp [eW.X,eW.row])),h2⟩
 ·obtain⟨T,cs,hr,h2⟩:=h.pgs s i hi
  exact⟨T,cs,hr.kept hk (hb _ (h.inX hi)),h2⟩
theorem cv.lt {w:World} {L:eW} {m:Mem}(h:cv w L m):∀k,L.X k→k<w.heap.size:=by
 rintro k (rfl | rfl | rfl | ⟨s,i,hi,rfl⟩)
 ·obtain⟨T,hd⟩:=h.hd;exact hd.lt
 ·obtain⟨T,cs,hr,h2⟩:=h.rows true;exact hr.lt
 ·obtain⟨T,cs,hr,h2⟩:=h.rows false;exact hr.lt
 ·obtain⟨T,cs,hr,h2⟩:=h.pgs s i (by rw [← h.cnt];exact hi);exact hr.lt
theorem cv.ch {w w':World} {L:eW} {m:Mem} {Y:Nat→Prop}(h:cv w L m)(hk:Ch Y w w')(hb:∀k,L.X k→¬Y k):cv w' L m:=
 h.kept hk.kept fun k hx=>⟨h.lt k hx,hb k hx⟩
theorem cv.pu {w w':World} {L:eW} {m:Mem}(h:cv w L m)(hk:Pu w w'):cv w' L m:=h.ch hk (by simp)
theorem cv.G7 {w w2:World} {L:eW} {m:Mem}(h:cv w L m) {T:TypeId} {x:Int}(hs:bF w L.g #[.slice (some (Addr.mk L.a 0 none)) m.S m.S,.slice (some (Addr.mk L.b 0 none)) m.I m.I,.int .i64 x] T w2):cv w2 L m:=by
 have hk:∀k,k≠L.g→(fun k=>k≠L.g) k:=fun _ h=>h
 refine⟨h.cnt,⟨(T,x),hs.blk⟩,fun s=>?_,fun s i hi=>?_,h.inj,h.dis,h.u32,h.er⟩
 ·obtain⟨T,cs,hr,h2⟩:=h.rows s
  exact⟨T,cs,hs.old hr (by cases s<;>simp [eW.row,h.dis.1,h.dis.2.1]),h2⟩
 ·obtain⟨T,cs,hr,h2⟩:=h.pgs s i hi
  exact⟨T,cs,hs.old hr (h.dis.2.2 s i hi).1,h2⟩
theorem cv.ax {w w2:World} {L:eW} {m:Mem}(h:cv w L m) {s:Bool} {i:Nat}(hi:i<m.cnt s) {cs:Array Value} {T:TypeId} {f:Nat→Int}(hs:bF w (L.pg s i) cs T w2)(hc:cs.size=1024)(hf:∀o,o<1024→cs[o]? =some (.int .u32 (f o)))
 (hu:∀o,0≤f o∧f o<4294967296):cv w2 L (m.fill s i f):=by
 obtain⟨T0,hd⟩:=h.hd
 refine⟨fun s=>by rw [h.cnt];simp,⟨T0,hs.old hd (fun e=>(h.dis.2.2 s i hi).1 e.symm)⟩,fun s'=>?_,fun s' i' OI=>?_,fun s1 i1 s2 i2 h1 h2=>h.inj s1 i1 s2 i2 (by simpa using h1) (by simpa using h2),⟨h.dis.1,h.dis.2.1,fun s1 i1 h1=>h.dis.2.2 s1 i1 (by simpa using h1)⟩,fun s' i' o=>?_,h.er⟩
 ·obtain⟨T,cs,hr,h2⟩:=h.rows s'
  refine⟨T,cs,hs.old hr ?_,by simpa using h2⟩
  have:=(h.dis.2.2 s i hi).2
  cases s'<;>simp only [eW.row]
  ·exact fun e=>this.2 e.symm
  ·exact fun e=>this.1 e.symm
 ·have X5:i'<m.cnt s':=by simpa using OI
  by_cases hq:s'=s∧i'=i
  ·obtain⟨rfl,rfl⟩:=hq
   exact⟨T,cs,hs.blk,hc,fun o ho=>by rw [hf o ho];simp [Mem.fill]⟩
  ·obtain⟨T,cs,hr,h2,h3⟩:=h.pgs s' i' X5
   refine⟨T,cs,hs.old hr (fun e=>hq (h.inj _ _ _ _ X5 hi e)),h2,fun o ho=>?_⟩
   rw [h3 o ho]
   simp only [Mem.fill]
   rw [if_neg hq]
 ·simp only [Mem.fill]
  split
  ·exact hu o
  ·exact h.u32 _ _ _
theorem Lz {w:World} {g i:Nat} {cs:Array Value} {T:TypeId} {k:IntKind} {x:Int} {K:Int→Prop}(hb:Blk w g cs T)(hi:cs[i]? =some (.int k x))(hK:K x):
 au (some (Addr.mk g 0 none)) fun p=>∃x:Int,w.cell? (p.add i)=some (.int k x)∧K x:=ai _ rfl ⟨_,hb.at hi,hK⟩
theorem JL {w:World} {g i:Nat} {cs:Array Value} {T:TypeId} {A:Option Addr} {n c:Nat} {K:Option Addr→Nat→Nat→Prop}(hb:Blk w g cs T)(hi:cs[i]? =some (.slice A n c))(hK:K A n c):
 au (some (Addr.mk g 0 none)) fun p=>∃(A:Option Addr)(n c:Nat),w.cell? (p.add i)=some (.slice A n c)∧K A n c:=ai _ rfl ⟨_,_,_,hb.at hi,hK⟩
section
variable {w:World} {L:eW} {m:Mem}
theorem mAt(h:cv w L m)(s:Bool)(p:Int):
 Calls prog 90 #[ptr L.g,fr s p] w fun e w'=>∃v,e= .returned v∧v= .pointer (if m.has s p then some (Addr.mk (L.pg s p.toNat) 0 none)else none)∧Pu w w':=by
 refine FT _ s p ?_
 intro g1 w1 hg hw
 have hM:=made hg hw
 have h1:=h.pu hM.pu
 obtain⟨T,hd⟩:=h1.hd
 refine JL hd rfl ⟨_,hM.blk.at rfl,?_⟩
 have fin:∀(a n:Nat),n=m.cnt s→a=L.row s→
  ∃J:Bool→World→Prop,(
  ∃Po:Int,w1.cell? ((Addr.mk g1 0 none).add 1)=some (.int .i64 Po)∧
  split (decide ((Po:Int)<0)) (
   J true w1) (
   ∃PB:Int,w1.cell? ((Addr.mk g1 0 none).add 1)=some (.int .i64 PB)∧
   J (decide ((PB:Int)≥((n:Nat):Int))) w1))∧∀(Oi:Nat→Value)(PJ:Bool),∀Nw,J PJ Nw→
  split PJ (
   (∃v,v=(Value.pointer none)∧v= .pointer (if m.has s p then some (Addr.mk (L.pg s p.toNat) 0 none)else none)∧Pu w Nw)) (
   ∃RA:Int,Nw.cell? ((Addr.mk g1 0 none).add 1)=some (.int .i64 RA)∧
   (0≤(RA:Int)∧(RA:Int)<((n:Nat):Int))∧
   au (some (Addr.mk a 0 none)) fun SE=>
   ∃OU:Option Addr,Nw.cell? (SE.add (Int.toNat RA*1))=some (.pointer OU)∧
   (∃v,v=(Value.pointer OU)∧v= .pointer (if m.has s p then some (Addr.mk (L.pg s p.toNat) 0 none)else none)∧Pu w Nw)):=by
  intro a n hn ha
  refine⟨fun b w'=>w1=w'∧b= !(m.has s p),⟨_,hM.blk.at rfl,af (fun hb=>⟨rfl,?_⟩) (fun hb=>⟨_,hM.blk.at rfl,rfl,?_⟩)⟩,?_⟩
  ·simp at hb
   simp [Mem.has]
   omega
  ·simp at hb
   subst hn
   simp only [Mem.has,ge_iff_le]
   rw [Bool.eq_iff_iff]
   simp
   omega
  ·rintro _ x _ ⟨rfl,rfl⟩
   refine af (fun hb=>⟨_,rfl,?_,hM.pu⟩) (fun hb=>?_)
   ·simp at hb;simp [hb]
   ·have Qf:m.has s p=true:=by simpa using hb
    have hp:0≤p∧p<(n:Int):=by subst hn;simpa [Mem.has]using Qf
    obtain⟨T2,cs,hr,hc⟩:=h1.rows s
    rw [← ha]at hr
    refine⟨_,hM.blk.at rfl,hp,ai _ rfl ⟨_,?_,_,rfl,by rw [if_pos Qf],hM.pu⟩⟩
    rw [Nat.mul_one]
    exact hr.at (hc _ (by omega))
 refine af (fun hb=>?_) (fun hb=>?_)
 ·subst hb
  exact JL hd rfl (by
   obtain⟨J,hJ⟩:=fin L.a m.S rfl rfl
   refine⟨J,hJ.1,fun g x wv hj=>?_⟩
   have:=hJ.2 g x wv hj
   simpa using this)
 ·subst hb
  obtain⟨J,hJ⟩:=fin L.b m.I rfl rfl
  refine⟨J,hJ.1,fun g x wv hj=>?_⟩
  have:=hJ.2 g x wv hj
  simpa using this
theorem qF(h:cv w L m):Calls prog 54 #[ptr L.g] w fun e w'=>∃v,e= .returned v∧v= .int .i64 m.S∧w'=w:=by
 obtain⟨T,hd⟩:=h.hd
 exact uA _ (JL hd rfl ⟨rfl,rfl⟩)
theorem KQ(h:cv w L m)(s:Bool)(p o:Int):
 Calls prog 114 #[ptr L.g,fr s p,.int .i64 o] w fun e w'=>∃v,e= .returned v∧
  ((m.has s p && Mem.dC o)=true∧v= .tuple #[.pointer (some (Addr.mk (L.pg s p.toNat) o.toNat none)),.int .i64 0]∧cv w' L (m.tick 1)∧Ch L.X w w'∨
   (m.has s p && Mem.dC o)=false∧v= .tuple #[.pointer none,.int .i64 (m.err s p o)]∧m.err s p o≠0∧Pu w w'):=by
 refine z7 _ s p o ?_
 intro g1 w1 hg hw
 have hM:=made hg hw
 refine⟨_,_,⟨hM.blk.at rfl,hM.blk.at rfl⟩,(mAt (h.pu hM.pu) s p).mono ?_⟩
 rintro e w2 ⟨_,rfl,rfl,hp⟩
 have Om:=hM.pu.trans hp
 refine⟨_,rfl,?_⟩
 cases hh:m.has s p with
 | false=>
  refine af (fun _=>.inr ⟨rfl,?_,?_,Om⟩) (fun hb=>by simp at hb)
  ·simp [Mem.err,hh]
  ·simp [Mem.err,hh]
 | true=>
  refine af (fun hb=>by simp at hb) (fun _=>?_)
  refine⟨fun b w'=>w2=w'∧b= !(Mem.dC o),af (fun hb=>⟨rfl,?_⟩) (fun hb=>⟨rfl,?_⟩),?_⟩
  ·simp at hb;simp [Mem.dC];omega
  ·simp at hb;simp only [Mem.dC,ge_iff_le];rw [Bool.eq_iff_iff];simp;omega
  ·rintro _ x _ ⟨rfl,rfl⟩
   refine af (fun hb=>?_) (fun hb=>?_)
   ·have ho:Mem.dC o=false:=by simpa using hb
    exact .inr ⟨by simp [ho],by simp [Mem.err,hh,ho],by simp [Mem.err,hh,ho],Om⟩
   ·have ho:Mem.dC o=true:=by simpa using hb
    have h2:=h.pu Om
    obtain⟨T,hd⟩:=h2.hd
    refine Lz hd rfl (ai _ rfl (aP hd (by simp) fun w3 hs=>?_))
    have SL:=Mem.fX ho
    refine ai _ rfl ⟨SL,.inl ⟨by simp [ho],?_,h2.G7 hs,?_⟩⟩
    ·rw [bO,Nat.zero_add,Nat.mul_one]
    ·exact(Om.mono (by simp)).stored hs (.inl (.inl rfl))
theorem Bs(h:cv w L m)(s:Bool)(p o v:Int)(hv:0≤v∧v<4294967296):
 Calls prog 42 #[ptr L.g,fr s p,.int .i64 o,.int .u32 v] w fun e w'=>∃u,e= .returned u∧u= .int .i64 (m.err s p o)∧cv w' L (m.write s p o v)∧Ch L.X w w':=by
 refine xd _ s p o v ?_
 intro g1 w1 hg hw
 have hM:=made hg hw
 refine⟨_,_,⟨hM.blk.at rfl,hM.blk.at rfl⟩,(KQ (h.pu hM.pu) s p o).mono ?_⟩
 rintro e w2 ⟨_,rfl,⟨hh,rfl,h2,hc⟩ | ⟨hh,rfl,he,hp⟩⟩
 ·refine⟨_,_,rfl,af (fun _=>?_) (fun hb=>by simp at hb)⟩
  have Rt:Ch L.X w w2:=((Ch.refl _ w).made hM).trans hc
  simp only [Bool.and_eq_true]at hh
  have hi:=Mem.cK hh.1
  have ho:=Mem.fX hh.2
  obtain⟨T,cs,hr,On,O0⟩:=h2.pgs s p.toNat (by simpa using hi)
  refine ai _ rfl (ja hr (by simp;omega) fun w3 hs=>⟨?_,?_,?_⟩)
  ·simp [Mem.err,hh.1,hh.2]
  ·have:=h2.ax (f:=fun o'=>if o'=o.toNat then v else m.pg s p.toNat o') (by simpa using hi) hs (by simp [setAt,On]) (fun o' SL=>?_) (fun o'=>?_)
   ·simp only [Mem.write,hh.1,hh.2,Bool.and_self,if_true]
    exact this
   ·simp only [uS,Array.getElem?_setIfInBounds]
    by_cases e:o.toNat=o'
    ·rw [if_pos e,if_pos (by omega),if_pos e.symm]
    ·rw [if_neg e,if_neg (fun h=>e h.symm)]
     exact O0 o' SL
   ·split
    ·exact hv
    ·exact h.u32 _ _ _
  ·exact Rt.stored hs (.inl (h.inX hi))
 ·refine⟨_,_,rfl,af (fun hb=>absurd (by simpa using hb) he) (fun _=>⟨rfl,?_,?_⟩)⟩
  ·have:=(h.pu hM.pu).pu hp
   simpa [Mem.write,hh]using this
  ·exact(hM.pu.trans hp).mono (by simp)
theorem Mx(h:cv w L m)(s:Bool)(p o:Int):
 Calls prog 33 #[ptr L.g,fr s p,.int .i64 o] w fun e w'=>∃u,e= .returned u∧u= .int .u32 (m.bD s p o)∧Pu w w':=by
 refine Ab _ s p o ?_
 intro g1 w1 hg hw
 have hM:=made hg hw
 refine⟨_,_,⟨hM.blk.at rfl,hM.blk.at rfl⟩,(mAt (h.pu hM.pu) s p).mono ?_⟩
 rintro e w2 ⟨_,rfl,rfl,hp⟩
 have Om:=hM.pu.trans hp
 refine⟨_,rfl,fun b w'=>w2=w'∧b= !(m.has s p && Mem.dC o),?_,?_⟩
 ·cases hh:m.has s p with
  | false=>exact af (fun _=>⟨rfl,rfl⟩) (fun hb=>by simp at hb)
  | true=>
   refine af (fun hb=>by simp at hb) (fun _=>af (fun hb=>⟨rfl,?_⟩) (fun hb=>⟨rfl,?_⟩))
   ·simp at hb;simp [Mem.dC];omega
   ·simp at hb;simp only [Mem.dC,ge_iff_le];rw [Bool.eq_iff_iff];simp;omega
 ·rintro _ x _ ⟨rfl,rfl⟩
  refine af (fun hb=>?_) (fun hb=>?_)
  ·have hh:(m.has s p && Mem.dC o)=false:=by rwa [Bool.not_eq_true']at hb
   exact⟨by simp [Mem.bD,hh],Om⟩
  ·have hh:(m.has s p && Mem.dC o)=true:=by simpa using hb
   have hh':=hh
   simp only [Bool.and_eq_true]at hh
   have hi:=Mem.cK hh.1
   have ho:=Mem.fX hh.2
   obtain⟨T,cs,hr,On,O0⟩:=(h.pu Om).pgs s p.toNat hi
   rw [if_pos hh.1]
   refine ai _ rfl ⟨ho,_,by rw [Nat.mul_one];exact hr.at (O0 _ (by omega)),?_,Om⟩
   simp only [Mem.bD,hh',if_true]
end
end
section
theorem nL:S1 prog 62 29 (.int .u32 0) 4:=S1.of (by kernel_rfl) (by kernel_rfl) rfl
theorem GJ:S1 prog 145 162 (.pointer none) 8:=S1.of (by kernel_rfl) (by kernel_rfl) rfl
def iz(w:World)(g:Nat)(f:Nat→Int):Prop:=∃T cs,Blk w g cs T∧cs.size=1024∧∀o,o<1024→cs[o]? =some (.int .u32 (f o))
structure jK(w:World)(g n k:Nat)(pg:Nat→Nat)(f:Nat→Nat→Int)(b:Nat):Prop where
 row:∃T cs,Blk w g cs T∧cs.size=n∧∀i,i<k→cs[i]? =some (ptr (pg i))
 pgs:∀i,i<k→iz w (pg i) (f i)
 inj:∀i j,i<k→j<k→pg i=pg j→i=j
 dis:∀i,i<k→pg i≠g
 low:b≤g∧∀i,i<k→b≤pg i
theorem iz.lt {w:World} {g:Nat} {f:Nat→Int}(h:iz w g f):g<w.heap.size:=by obtain⟨T,cs,hb,_⟩:=h;exact hb.lt
theorem iz.pu {w w':World} {g:Nat} {f:Nat→Int}(h:iz w g f)(hk:Pu w w'):iz w' g f:=by obtain⟨T,cs,hb,h2⟩:=h;exact⟨T,cs,hk.blk hb,h2⟩
theorem iz.old {w w':World} {g g':Nat} {f:Nat→Int} {cs:Array Value} {T:TypeId}(h:iz w g f)(hs:bF w g' cs T w')(P0:g≠g'):iz w' g f:=by obtain⟨T,cs,hb,h2⟩:=h;exact⟨T,cs,hs.old hb P0,h2⟩
theorem jK.pu {w w':World} {g n k b:Nat} {pg:Nat→Nat} {f:Nat→Nat→Int}(h:jK w g n k pg f b)(hk:Pu w w'):jK w' g n k pg f b:=by
 obtain⟨⟨T,cs,hr,h2⟩,h3,h4,h5,h6⟩:=h
 exact⟨⟨T,cs,hk.blk hr,h2⟩,fun i hi=>(h3 i hi).pu hk,h4,h5,h6⟩
theorem jK.more {w w1 w2:World} {g n k b p:Nat} {pg:Nat→Nat} {f:Nat→Nat→Int}(h:jK w g n k pg f b)(hk:Pu w w1)(hp:iz w1 p (f k))(W8:w.heap.size≤p)(P2:k<n)(hb:b≤w.heap.size):
 ∃T cs,Blk w1 g cs T∧k+1≤cs.size∧∀w2,bF w1 g (setAt cs k [ptr p]) T w2→jK w2 g n (k+1) (fun i=>if i=k then p else pg i) f b:=by
 obtain⟨⟨T,cs,hr,On,h2⟩,h3,h4,h5,h6⟩:=h
 have hg:=hr.lt
 have hold:∀i,i<k→pg i≠p:=fun i hi=>by have:=(h3 i hi).lt;omega
 refine⟨T,cs,hk.blk hr,by omega,fun w2 hs=>⟨⟨T,_,hs.blk,by rw [fH];exact On,fun i hi=>?_⟩,fun i hi=>?_,fun i j hi hj=>?_,fun i hi=>?_,h6.1,fun i hi=>?_⟩⟩
 ·rw [eZ _ _ _ _ (by simp;omega)]
  by_cases e:i=k
  ·subst e;simp
  ·rw [if_neg (by simp;omega),if_neg e]
   exact h2 i (by omega)
 ·by_cases e:i=k
  ·subst e
   rw [if_pos rfl]
   exact hp.old hs (by omega)
  ·rw [if_neg e]
   exact((h3 i (by omega)).pu hk).old hs (h5 i (by omega))
 ·by_cases e:i=k<;>by_cases e':j=k
  ·intro _;omega
  ·rw [if_pos e,if_neg e'];intro hh;exact absurd hh.symm (hold j (by omega))
  ·rw [if_neg e,if_pos e'];intro hh;exact absurd hh (hold i (by omega))
  ·rw [if_neg e,if_neg e'];exact h4 i j (by omega) (by omega)
 ·split
  ·omega
  ·exact h5 i (by omega)
 ·split
  ·omega
  ·exact h6.2 i (by omega)
section
variable {w:World} {L:eW} {m:Mem}
theorem KS(n:Nat)(hn:n≤64):
 Calls prog 76 #[.int .i64 n] w fun e w'=>∃v,e= .returned v∧∃g pg,v= .slice (some (Addr.mk g 0 none)) n n∧jK w' g n n pg (fun _ _=>0) w.heap.size∧Pu w w':=by
 refine Af _ ?_
 refine gR GJ (by omega) (by omega) (by omega) fun g w1 hM=>?_
 rw [Int.toNat_natCast]at hM ⊢
 refine⟨fun k x w'=>∃i:Nat,x=(i:Int)∧i≤n∧k=n - i∧(∃pg,jK w' g n i pg (fun _ _=>0) w.heap.size)∧Pu w w',⟨n,0,rfl,by omega,by omega,⟨fun _=>0,⟨⟨_,_,hM.blk,by simp,by simp⟩,by simp,by simp,by simp,by have:=hM.num;omega,by simp⟩⟩,hM.pu⟩,?_⟩
 rintro k _ x w2 ⟨i,rfl,hi,rfl,⟨pg,hP⟩,QR⟩
 refine af (fun hb=>?_) (fun hb=>?_)
 ·have OI:i<n:=by simpa using hb
  intro p w3 hp Tf
  have SO:=made hp Tf
  obtain⟨T,cs,hr,On,UO⟩:=hP.more (w2:=w3) SO.pu ⟨_,_,SO.blk,by simp,fun o ho=>by simp [ho]⟩ (by rw [SO.num];omega) OI QR.size
  refine⟨⟨by omega,by omega⟩,ai _ rfl ?_⟩
  rw [Nat.mul_one,Int.toNat_natCast]
  refine aP hr On fun w4 hs=>⟨n - (i+1),by omega,i+1,?_,OI,rfl,⟨_,UO _ hs⟩,?_⟩
  ·rw [aq (by omega)];omega
  ·have hg:w.heap.size≤g:=hP.low.1
   exact((QR.made SO).mono (by simp):Ch (fun _=>False) w w3).stored hs (.inr hg)
 ·have:i=n:=by simp at hb;omega
  subst this
  exact⟨g,pg,rfl,hP,QR⟩
theorem Ng(s i:Int)(hs:1≤s∧s≤64)(hi:1≤i∧i≤64):
 Calls prog 27 #[.int .i64 s,.int .i64 i] w fun e w'=>∃v,e= .returned v∧∃L:eW,v= .tuple #[ptr L.g,.int .i64 0]∧cv w' L (Mem.fresh s.toNat i.toNat)∧(∀k,L.X k→w.heap.size≤k)∧Pu w w':=by
 refine tH s i ?_
 refine⟨fun b w'=>w=w'∧b=false,?_,?_⟩
 ·refine af (fun hb=>by simp at hb;omega) (fun _=>af (fun hb=>by simp at hb;omega) (fun _=>af (fun hb=>by simp at hb;omega) (fun _=>⟨rfl,by simp;omega⟩)))
 rintro _ x _ ⟨rfl,rfl⟩
 refine af (fun hb=>by cases hb) (fun _=>?_)
 obtain⟨S,rfl⟩:=Int.eq_ofNat_of_zero_le (show 0≤s by omega)
 obtain⟨I,rfl⟩:=Int.eq_ofNat_of_zero_le (show 0≤i by omega)
 refine(KS S (by omega)).mono ?_
 rintro e w1 ⟨_,rfl,a,pa,rfl,hA,Oj⟩
 refine⟨_,_,_,rfl,(KS I (by omega)).mono ?_⟩
 rintro e w2 ⟨_,rfl,b,pb,rfl,hB,Om⟩
 refine⟨_,_,_,rfl,?_⟩
 intro g w3 hg Tf
 have hM:=made hg Tf
 have hA3:=(hA.pu Om).pu hM.pu
 have hB3:=hB.pu hM.pu
 have Xn:∀j,j<S→pa j<w1.heap.size:=fun j hj=>(hA.pgs j hj).lt
 have OM:a<w1.heap.size:=by obtain⟨T,cs,hr,_⟩:=hA.row;exact hr.lt
 have Xm:∀j,j<I→pb j<w2.heap.size:=fun j hj=>(hB.pgs j hj).lt
 have hbg:b<w2.heap.size:=by obtain⟨T,cs,hr,_⟩:=hB.row;exact hr.lt
 have h12:=Om.size
 have h01:=Oj.size
 have hgn:=hM.num
 refine⟨⟨g,a,b,fun s=>match s with | true=>pa | false=>pb,fun s=>match s with | true=>S | false=>I⟩,rfl,⟨fun s=>by cases s<;>rfl,⟨(_,_),hM.blk⟩,fun s=>?_,fun s i hi=>?_,fun s i s' i' hi OI e=>?_,⟨by show a≠g;omega,by show b≠g;omega,fun s i hi=>?_⟩,fun _ _ _=>by simp [Mem.fresh],by simp [Mem.fresh];omega⟩,?_,(Oj.trans Om).made hM⟩
 ·cases s
  ·obtain⟨T,cs,hr,_,h2⟩:=hB3.row;exact⟨T,cs,hr,h2⟩
  ·obtain⟨T,cs,hr,_,h2⟩:=hA3.row;exact⟨T,cs,hr,h2⟩
 ·cases s
  ·exact hB3.pgs i hi
  ·exact hA3.pgs i hi
 ·cases s<;>cases s'<;>simp only [Mem.cnt,Mem.fresh,Int.toNat_natCast]at hi OI<;>simp only at e
  ·exact⟨rfl,hB.inj _ _ hi OI e⟩
  ·have:=hB.low.2 i hi;have:=Xn i' OI;omega
  ·have:=hB.low.2 i' OI;have:=Xn i hi;omega
  ·exact⟨rfl,hA.inj _ _ hi OI e⟩
 ·cases s<;>simp only [Mem.cnt,Mem.fresh,Int.toNat_natCast]at hi<;>simp only
  ·have:=hB.low.2 i hi;have:=Xm i hi;have:=hB.dis i hi
   refine⟨?_,?_,this⟩<;>omega
  ·have:=hA.low.2 i hi;have:=Xn i hi;have h3:=hA.dis i hi;have:=hB.low.1
   refine⟨?_,h3,?_⟩<;>omega
 ·rintro k (rfl | rfl | rfl | ⟨s,i,hi,rfl⟩)
  ·omega
  ·exact hA.low.1
  ·have:=hB.low.1;omega
  ·cases s<;>simp only [Mem.cnt,Mem.fresh,Int.toNat_natCast]at hi<;>simp only
   ·have:=hB.low.2 i hi;omega
   ·exact hA.low.2 i hi
theorem Hc(h:cv w L m)(s:Bool)(p t:Int):
 Calls prog 136 #[ptr L.g,fr s p,.int .i64 t] w fun e w'=>∃v,e= .returned v∧
  (m.has s p=true∧v= .tuple #[ptr (L.pg s p.toNat),.int .i64 0]∧cv w' L (m.tick (i64.wrap (t*1024)))∧Ch L.X w w'∨
   m.has s p=false∧v= .tuple #[.pointer none,.int .i64 5]∧Pu w w'):=by
 refine xe _ s p t ?_
 intro g1 w1 hg hw
 have hM:=made hg hw
 refine⟨_,_,⟨hM.blk.at rfl,hM.blk.at rfl⟩,(mAt (h.pu hM.pu) s p).mono ?_⟩
 rintro e w2 ⟨_,rfl,rfl,hp⟩
 have Om:=hM.pu.trans hp
 refine⟨_,rfl,?_⟩
 cases hh:m.has s p with
 | false=>exact af (fun _=>.inr ⟨rfl,rfl,Om⟩) (fun hb=>by simp at hb)
 | true=>
  refine af (fun hb=>by simp at hb) (fun _=>?_)
  have h2:=h.pu Om
  obtain⟨T,hd⟩:=h2.hd
  refine Lz hd rfl (ai _ rfl (aP hd (by simp) fun w3 hs=>.inl ⟨rfl,rfl,h2.G7 hs,?_⟩))
  exact(Om.mono (by simp)).stored hs (.inl (.inl rfl))
theorem KP(h:cv w L m)(s:Bool)(p:Int):
 Calls prog 77 #[ptr L.g,fr s p] w fun e w'=>∃v,e= .returned v∧v= .int .i64 (m.cR s p)∧cv w' L (m.zero s p)∧Ch L.X w w':=by
 refine z5 _ s p ?_
 intro g1 w1 hg hw
 have hM:=made hg hw
 refine⟨_,_,⟨hM.blk.at rfl,hM.blk.at rfl⟩,(Hc (h.pu hM.pu) s p 1).mono ?_⟩
 rintro e w2 ⟨_,rfl,⟨hh,rfl,h2,hc⟩ | ⟨hh,rfl,hp⟩⟩
 ·refine⟨_,_,rfl,af (fun _=>ai _ rfl ?_) (fun hb=>by simp at hb)⟩
  rintro A rfl N rfl C rfl
  have hi:=Mem.cK hh
  obtain⟨T,cs,hr,On,O0⟩:=h2.pgs s p.toNat (by simpa using hi)
  refine HB (o:=0) nL rfl hr (by omega) (by omega) fun w3 hs=>⟨?_,?_,?_⟩
  ·simp [Mem.cR,hh]
  ·have:=h2.ax (f:=fun _=>0) (by simpa using hi) hs (by rw [fH];exact On) (fun o ho=>?_) (fun o=>by simp)
   ·simp only [Mem.zero,hh,if_true]
    exact this
   ·have hl:(List.replicate (1024 - 0) (Value.int .u32 0)).length=1024:=List.length_replicate ..
    rw [eZ _ _ _ _ (by rw [hl];omega),if_pos (by rw [hl];omega),List.getElem?_replicate,if_pos (by omega)]
  ·exact(((Ch.refl _ w).made hM).trans hc).stored hs (.inl (h.inX hi))
 ·refine⟨_,_,rfl,af (fun hb=>by simp at hb) (fun _=>⟨?_,?_,?_⟩)⟩
  ·simp [Mem.cR,hh]
  ·simpa [Mem.zero,hh]using (h.pu hM.pu).pu hp
  ·exact(hM.pu.trans hp).mono (by simp)
end
end
structure Ent where
 typ:Int
 owner:Int
 refs:Int
 state:Int
 aV:Bool
deriving DecidableEq
namespace Ent
abbrev free:Ent:=⟨0,0,0,0,false⟩
def ok(e:Ent):Bool:=
 decide (0≤e.typ∧e.typ≤6∧0≤e.owner∧e.owner≤63∧0≤e.refs∧e.refs≤63∧(e.typ=0→e.owner=0)∧(e.typ≠1→e.refs=0∧e.state=0)∧(e.typ=1→1≤e.state∧e.state≤3)∧(e.typ≠2→e.aV=false))
def w0(e:Ent):Int:=e.typ+16*e.state+65536*e.owner+(if e.aV then 256 else 0)
def w1(e:Ent):Int:=e.refs
def parts(a b:Int):Ent:=⟨a % 8,a / 65536 % 64,b % 64,a / 16 % 4,decide (a / 256 % 2=1)⟩
def dec(a b:Int):Ent:=if(parts a b).ok && decide ((parts a b).w0=a) && decide ((parts a b).w1=b)then parts a b else free
def fm(a b:Int):Int:=if(parts a b).ok && decide ((parts a b).w0=a) && decide ((parts a b).w1=b)then 0 else 110
theorem dO {e:Ent}(h:e.ok=true):0≤e.typ∧e.typ≤6∧0≤e.owner∧e.owner≤63∧0≤e.refs∧e.refs≤63∧(e.typ=0→e.owner=0)∧(e.typ≠1→e.refs=0∧e.state=0)∧(e.typ=1→1≤e.state∧e.state≤3)∧(e.typ≠2→e.aV=false):=by
 simpa only [ok,decide_eq_true_eq]using h
theorem je {e:Ent}(h:e.ok=true):0≤e.state∧e.state≤3:=by
 have:=dO h
 by_cases h1:e.typ=1<;>omega
theorem Ep {e:Ent}(h:e.ok=true):parts e.w0 e.w1=e:=by
 have h1:=dO h
 have h2:=je h
 obtain⟨t,o,r,s,n⟩:=e
 simp only at h1 h2
 cases n<;>simp only [parts,w0,w1,Ent.mk.injEq,decide_eq_true_eq,decide_eq_false_iff_not,if_true,Bool.false_eq_true,if_false]<;>omega
theorem wH {e:Ent}(h:e.ok=true):dec e.w0 e.w1=e∧fm e.w0 e.w1=0:=by
 unfold dec fm
 rw [Ep h]
 simp [h]
theorem xS {e:Ent}(h:e.ok=true):0≤e.w0∧e.w0<4294967296:=by
 have h1:=dO h
 have h2:=je h
 unfold w0
 split<;>omega
theorem xR {e:Ent}(h:e.ok=true):0≤e.w1∧e.w1<4294967296:=by
 have h1:=dO h
 unfold w1
 omega
theorem wC:free.ok=true:=by decide
theorem iy {a b:Int}(h:fm a b=0):(dec a b).ok=true∧(dec a b).w0=a∧(dec a b).w1=b:=by
 unfold fm at h
 unfold dec
 split at h
 ·rename_i hc
  rw [if_pos hc]
  simp only [Bool.and_eq_true,decide_eq_true_eq]at hc
  exact⟨hc.1.1,hc.1.2,hc.2⟩
 ·omega
end Ent
structure DB where
 mem:Mem
 aF:Int
 ent:Nat→Ent
namespace DB
def S(d:DB):Nat:=d.mem.S
def has(d:DB)(p:Int):Bool:=decide (0≤p∧p<(d.S:Int))
def at_(d:DB)(p:Int):Ent:=d.ent p.toNat
def set(d:DB)(p:Int)(e:Ent):DB:= {d with ent:=fun q=>if q=p.toNat then e else d.ent q}
def entry(d:DB)(p:Int):Ent:=if d.has p then d.at_ p else .free
def aO(d:DB)(p:Int):Int:=if d.has p then 0 else 5
def fg(d:DB)(p:Int):Bool:=d.has p && (d.at_ p).typ==1
def bf(d:DB)(m:Mem):DB:=⟨m,d.aF,d.ent⟩
def gk(d:DB)(b:Int):DB:=⟨d.mem,b,d.ent⟩
def cp(d:DB)(f:Mem→Mem):DB:=d.bf (f d.mem)
def free(d:DB):Int:=(((List.range d.S).filter fun p=>(d.ent p).typ==0).length:Int)
def Jt(d:DB)(s:Int)(p:Nat):Bool:=(p:Int) !=s && (d.ent p).typ !=0 && (d.ent p).owner==s
def aT(d:DB)(s f:Int):Int:=
 if !d.has s || !d.has f then 5 else if s=f then 1 else if(d.at_ s).typ !=0 || (d.at_ f).typ !=0 then 120 else if d.aF≥64 then 240 else 0
def bM(d:DB)(s f:Int):DB:=
 let d1:=(d.set s ⟨1,s,1,1,false⟩).set f ⟨3,s,0,0,false⟩
 (d1.bf (((d.mem.write true s 0 f).write true s 1 d.aF).write true s 2 0)).gk (d.aF+1)
def aS(d:DB)(s f:Int):DB:=if d.aT s f=0 then d.bM s f else d
def turns(t:Int):Bool:=t==4 || t==5 || t==6
def cZ(d:DB)(p t s:Int):Int:=
 if !d.has p then 5 else if t !=2 && !turns t then 124 else if !d.fg s || decide ((d.at_ s).refs≥63)then 122 else if(d.at_ p).typ !=0 then 120 else 0
def more(d:DB)(s k:Int):DB:=d.set s {d.at_ s with refs:=(d.at_ s).refs+k}
def eG(d:DB)(p t s:Int):DB:=(d.set p ⟨t,s,0,0,false⟩).more s 1
def take(d:DB)(p t s:Int):DB:=if d.cZ p t s=0 then d.eG p t s else d
def dy(d:DB)(p:Int):Int:=
 if !d.has p then 5 else if(d.at_ p).typ=0 then 121 else if(d.at_ p).typ==1 && decide ((d.at_ p).refs>0)then 123 else 0
def fK(d:DB)(p:Int):DB:=
 let d1:=d.set p .free
 (if(d.at_ p).typ !=1 && (d1.fg (d.at_ p).owner && decide ((d1.at_ (d.at_ p).owner).refs>0))then d1.more (d.at_ p).owner (-1)else d1).cp (·.zero true p)
def fu(d:DB)(p:Int):DB:=if d.dy p=0 then d.fK p else d
def bN(d:DB)(p s:Int):Int:=
 if !d.has p then 5 else if(d.at_ p).typ≠1 then 124 else if s !=3 && ((d.at_ p).state !=1 || s !=2)then 3 else 0
def setState(d:DB)(p s:Int):DB:=if d.bN p s=0 then d.set p {d.at_ p with state:=s}else d
def words(d:DB):List Int:=d.aF::(List.range d.S).flatMap fun p=>[(d.ent p).w0,(d.ent p).w1]
structure Ok(d:DB):Prop where
 ent:∀p,p<d.S→(d.ent p).ok=true∧(d.ent p).owner<d.S
 aF:0≤d.aF∧d.aF≤64
@[simp] theorem Nq(d:DB)(p:Int)(e:Ent):(d.set p e).S=d.S:=rfl
@[simp] theorem fF(d:DB)(p q:Int)(e:Ent):(d.set p e).has q=d.has q:=rfl
@[simp] theorem mem_set(d:DB)(p:Int)(e:Ent):(d.set p e).mem=d.mem:=rfl
@[simp] theorem LM(d:DB)(p:Int)(e:Ent):(d.set p e).aF=d.aF:=rfl
@[simp] theorem cA(d:DB)(m:Mem):(d.bf m).mem=m:=rfl
@[simp] theorem HI(d:DB)(m:Mem):(d.bf m).aF=d.aF:=rfl
@[simp] theorem LO(d:DB)(m:Mem)(p:Int):(d.bf m).at_ p=d.at_ p:=rfl
@[simp] theorem Ma(d:DB)(m:Mem):(d.bf m).S=m.S:=rfl
@[simp] theorem Ev(d:DB)(b:Int):(d.gk b).mem=d.mem:=rfl
@[simp] theorem JY(d:DB)(b:Int):(d.gk b).aF=b:=rfl
@[simp] theorem MX(d:DB)(b:Int)(p:Int):(d.gk b).at_ p=d.at_ p:=rfl
@[simp] theorem M5(d:DB)(b:Int):(d.gk b).S=d.S:=rfl
@[simp] theorem Gq(d:DB)(m m':Mem):(d.bf m).bf m'=d.bf m':=rfl
theorem dP(m:Mem)(s s':Bool)(p o v q:Int):(m.write s p o v).has s' q=m.has s' q:=by
 unfold Mem.has Mem.write;split<;>cases s'<;>rfl
theorem gp(d:DB)(p:Int):d.mem.has true p=d.has p:=rfl
theorem bh {d:DB} {p:Int}(h:d.has p=true):0≤p∧p<(d.S:Int):=by simpa [has]using h
theorem cK {d:DB} {p:Int}(h:d.has p=true):p.toNat<d.S:=by have:=bh h;omega
theorem dR {d:DB} {p q:Int} {e:Ent}(hp:0≤p)(hq:0≤q):(d.set p e).at_ q=if q=p then e else d.at_ q:=by
 unfold at_ set
 by_cases h:q=p
 ·simp [h]
 ·simp only [h,if_false];rw [if_neg (by omega)]
theorem set_comm(d:DB) {p q:Int} {e f:Ent}(h:p.toNat≠q.toNat):(d.set p e).set q f=(d.set q f).set p e:=by
 simp only [set,DB.mk.injEq,true_and]
 funext k
 by_cases h1:k=q.toNat<;>by_cases h2:k=p.toNat<;>simp [h1,h2]<;>omega
theorem MY {d:DB} {p q:Int} {e:Ent}(hp:d.has p=true)(hq:d.has q=true)(P0:¬(d.at_ p).typ=(d.at_ q).typ):(d.set p e).at_ q=d.at_ q:=by
 have h1:=bh hp
 have h2:=bh hq
 rw [dR h1.1 h2.1,if_neg (by rintro rfl;exact P0 rfl)]
theorem fY {d:DB} {p:Int}(h:d.fg p=true):d.has p=true∧(d.at_ p).typ=1:=by simpa [fg]using h
theorem G1 {t s:Int}(ht:t=2∨turns t=true)(hs:0≤s∧s≤63):(Ent.mk t s 0 0 false).ok=true:=by
 have:t=2∨t=4∨t=5∨t=6:=by simpa [turns,or_assoc]using ht
 simp only [Ent.ok,decide_eq_true_eq];simp;omega
theorem nT {e:Ent} {k:Int}(h:e.ok=true)(he:e.typ=1)(hk:0≤e.refs+k∧e.refs+k≤63):(Ent.mk e.typ e.owner (e.refs+k) e.state e.aV).ok=true:=by
 have h1:=Ent.dO h
 simp only [Ent.ok,decide_eq_true_eq]
 refine⟨by omega,by omega,by omega,by omega,by omega,by omega,by omega,by omega,by omega,fun _=>h1.2.2.2.2.2.2.2.2.2 (by omega)⟩
theorem KN {e:Ent} {s:Int}(h:e.ok=true)(he:e.typ=1)(hs:1≤s∧s≤3):(Ent.mk e.typ e.owner e.refs s e.aV).ok=true:=by
 have h1:=Ent.dO h
 simp only [Ent.ok,decide_eq_true_eq]
 refine⟨by omega,by omega,by omega,by omega,by omega,by omega,by omega,by omega,by omega,fun _=>h1.2.2.2.2.2.2.2.2.2 (by omega)⟩
theorem Ok.at_ {d:DB}(h:d.Ok) {p:Int}(hp:d.has p=true):(d.at_ p).ok=true∧(d.at_ p).owner<d.S∧0≤(d.at_ p).owner:=
 ⟨(h.ent _ (cK hp)).1,(h.ent _ (cK hp)).2,(Ent.dO (h.ent _ (cK hp)).1).2.2.1⟩
end DB
section
structure gj where
 g:Nat
 a:Nat
 M:eW
def gj.X(L:gj):Nat→Prop:=fun k=>k=L.g∨k=L.a∨L.M.X k
abbrev DB.n2(D:DB):Nat:=2*D.mem.S
structure DBP(w:World)(L:gj)(D:DB):Prop where
 hd:∃T,Blk w L.g #[.pointer (some (Addr.mk L.M.g 0 none)),.int .i64 D.aF,.slice (some (Addr.mk L.a 0 none)) D.n2 D.n2] T
 ws:∃T cs,Blk w L.a cs T∧cs.size=D.n2∧∀p,p<D.S→cs[2*p]? =some (.int .u32 (D.ent p).w0)∧cs[2*p+1]? =some (.int .u32 (D.ent p).w1)
 mem:cv w L.M D.mem
 ok:D.Ok
 dis:L.a≠L.g∧¬L.M.X L.g∧¬L.M.X L.a
section
variable {w w' w2:World} {L:gj} {D:DB} {Y:Nat→Prop}
theorem DBP.lt(h:DBP w L D):∀k,L.X k→k<w.heap.size:=by
 rintro k (rfl | rfl | hk)
 ·obtain⟨T,hd⟩:=h.hd;exact hd.lt
 ·obtain⟨T,cs,hr,_⟩:=h.ws;exact hr.lt
 ·exact h.mem.lt k hk
theorem DBP.ch(h:DBP w L D)(hk:Ch Y w w')(hb:∀k,L.X k→¬Y k):DBP w' L D:=by
 refine⟨?_,?_,h.mem.ch hk fun k hx=>hb k (.inr (.inr hx)),h.ok,h.dis⟩
 ·obtain⟨T,hd⟩:=h.hd;exact⟨T,hk.blk hd (hb _ (.inl rfl))⟩
 ·obtain⟨T,cs,hr,h2⟩:=h.ws;exact⟨T,cs,hk.blk hr (hb _ (.inr (.inl rfl))),h2⟩
theorem DBP.pu(h:DBP w L D)(hk:Pu w w'):DBP w' L D:=h.ch hk (by simp)
theorem DBP.S64(h:DBP w L D):D.S≤64:=h.mem.er.1
theorem DBP.cp(h:DBP w L D) {m:Mem}(hm:cv w' L.M m)(hc:Ch L.M.X w w')(hs:m.S=D.mem.S):DBP w' L (D.bf m):=by
 refine⟨?_,?_,hm,⟨fun p hp=>?_,h.ok.aF⟩,h.dis⟩
 ·obtain⟨T,hd⟩:=h.hd
  refine⟨T,?_⟩
  show Blk w' L.g #[_,_,.slice _ (2*m.S) (2*m.S)] T
  rw [hs];exact hc.blk hd h.dis.2.1
 ·obtain⟨T,cs,hr,h2⟩:=h.ws
  refine⟨T,cs,hc.blk hr h.dis.2.2,?_⟩
  show cs.size=2*m.S∧∀p,p<m.S→_
  rw [hs];exact h2
 ·have hp':p<m.S:=hp
  rw [hs]at hp'
  have:=h.ok.ent p hp'
  refine⟨this.1,?_⟩
  show _<(m.S:Int)
  rw [hs];exact this.2
theorem DBP.Ea(h:DBP w L D) {x:Int} {T:TypeId}(hs:bF w L.g #[.pointer (some (Addr.mk L.M.g 0 none)),.int .i64 x,.slice (some (Addr.mk L.a 0 none)) D.n2 D.n2] T w2)(hx:0≤x∧x≤64):DBP w2 L (D.gk x):=by
 refine⟨⟨T,hs.blk⟩,?_,h.mem.ch hs.ch fun k hk e=>h.dis.2.1 (e▸hk),⟨h.ok.ent,hx⟩,h.dis⟩
 obtain⟨T,cs,hr,h2⟩:=h.ws
 exact⟨T,cs,hs.old hr h.dis.1,h2⟩
theorem DBP.Lb(h:DBP w L D) {p:Int} {e:Ent}(hp:D.has p=true)(he:e.ok=true)(ho:e.owner<D.S) {cs:Array Value} {T:TypeId}(hb:Blk w L.a cs T)(hs:bF w L.a (setAt cs (2*p.toNat) [.int .u32 e.w0,.int .u32 e.w1]) T w2):DBP w2 L (D.set p e):=by
 obtain⟨T',cs',hr,On,h2⟩:=h.ws
 obtain⟨rfl,rfl⟩:=hb.inj hr
 have hn:=DB.cK hp
 refine⟨?_,⟨T,_,hs.blk,by rw [fH];exact On,fun q hq=>?_⟩,h.mem.ch hs.ch fun k hk e=>h.dis.2.2 (e▸hk),⟨fun q hq=>?_,h.ok.aF⟩,h.dis⟩
 ·obtain⟨T,hd⟩:=h.hd;exact⟨T,hs.old hd h.dis.1.symm⟩
 ·have hl:2*p.toNat+ [Value.int .u32 e.w0,Value.int .u32 e.w1].length≤cs.size:=by
   have h1:D.n2=2*D.S:=rfl
   rw [On,h1];simp only [List.length_cons,List.length_nil];omega
  rw [eZ _ _ _ _ hl,eZ _ _ _ _ hl]
  simp only [DB.set,List.length_cons,List.length_nil]
  by_cases hqp:q=p.toNat
  ·subst hqp
   simp
  ·rw [if_neg (by omega),if_neg (by omega:¬(2*p.toNat≤2*q+1∧2*q+1<2*p.toNat+(0+1+1)))]
   simp only [hqp,if_false]
   exact h2 q hq
 ·simp only [DB.set]
  split
  ·exact⟨he,ho⟩
  ·exact h.ok.ent q hq
theorem Mem.bI(m:Mem)(s:Bool)(p o v:Int):(m.write s p o v).S=m.S:=by unfold Mem.write;split<;>rfl
theorem Mem.sD(m:Mem)(s:Bool)(p:Int):(m.zero s p).S=m.S:=by unfold Mem.zero;split<;>rfl
theorem gj.inM(L:gj)(k:Nat)(h:L.M.X k):L.X k:= .inr (.inr h)
theorem wE(h:DBP w L D)(s:Bool)(p o v:Int)(hv:0≤v∧v<4294967296):
 Calls prog 42 #[ptr L.M.g,fr s p,.int .i64 o,.int .u32 v] w fun e w'=>∃u,e= .returned u∧u= .int .i64 (D.mem.err s p o)∧DBP w' L (D.bf (D.mem.write s p o v))∧Ch L.M.X w w':=
 (Bs h.mem s p o v hv).mono fun e w' ⟨u,he,hu,hm,hc⟩=>⟨u,he,hu,h.cp hm hc (Mem.bI ..),hc⟩
theorem Hv(h:DBP w L D)(s:Bool)(p:Int):
 Calls prog 77 #[ptr L.M.g,fr s p] w fun e w'=>∃u,e= .returned u∧u= .int .i64 (D.mem.cR s p)∧DBP w' L (D.bf (D.mem.zero s p))∧Ch L.M.X w w':=
 (KP h.mem s p).mono fun e w' ⟨u,he,hu,hm,hc⟩=>⟨u,he,hu,h.cp hm hc (Mem.sD ..),hc⟩
theorem iU(x:Int):0≤u32.wrap x∧u32.wrap x<4294967296:=by rw [u32_eq];omega
end
end
end Go.Proofs.YtinhphjfnedhgaaGreatDoor
namespace Go.Proofs.YtinhphjfnedhgaaGreatDoor
open Go.Proofs.Tryz (prog)
open Go Go.RowKit V
open Go.IntKind (i64 u32 u64)
section
set_option maxRecDepth 100000
def vO(t:Int)(R:aD)(w:World):Prop:=
 ∃J:Bool→World→Prop,(
  split ((t:Int)==4) (
   J true w) (
   split ((t:Int)==5) (
    J true w) (
    J ((t:Int)==6) w)))∧∀(PO:Nat→Value)(x2:Bool),∀wv,J x2 wv→
 R (.bool x2) wv
def Ga:Ann:=(.node none .leaf (.node none (.node (some ⟨[(2,.one (.bool))],[2,3,4,5,6,7,8,9,10,11,12]⟩) .leaf .leaf) .leaf))
theorem DTurns_eq(t:Int)(R:aD)(w:World):vO t R w=vcF prog aK [] Tryz.f128 Ga [(.int .i64 t)] R none w:=by kernel_rfl
theorem xD(t:Int) {R:aD} {w:World}(h:vO t R w):Calls prog 128 #[(.int .i64 t)] w fun e w'=>∃v,e= .returned v∧R v w':=
 ak Tryz.func128 aw aa ((DTurns_eq t R w).mp h)
def tJ(ax:Int)(R:aD)(w:World):Prop:=
 ∀(gv:Nat)(wv:World),gv=w.heap.size→wv=w.alloc (.cells (#[(.bool false),(.int .i64 0)]) 86)→
 aA wv (Addr.mk gv 0 none) [(.bool true),(.int .i64 ax)] fun Nw=>
 ∃O8:Bool,∃O7:Int,(Nw.cell? ((Addr.mk gv 0 none).add 0)=some (.bool O8)∧Nw.cell? ((Addr.mk gv 0 none).add 1)=some (.int .i64 O7))∧
 R (.agg #[(.bool O8),(.int .i64 O7)]) Nw
def CJ:Ann:= .leaf
theorem DSecure_eq(ax:Int)(R:aD)(w:World):tJ ax R w=vcF prog aK [] Tryz.f78 CJ [(.int .i64 ax)] R none w:=by kernel_rfl
theorem uI(ax:Int) {R:aD} {w:World}(h:tJ ax R w):Calls prog 78 #[(.int .i64 ax)] w fun e w'=>∃v,e= .returned v∧R v w':=
 ak Tryz.func78 aw aa ((DSecure_eq ax R w).mp h)
def vP(d:Option Addr)(R:aD)(w:World):Prop:=
 au d fun p4=>
 ∃SA:Option Addr,∃Q1:Nat,∃SR:Nat,w.cell? (p4.add 2)=some (.slice SA Q1 SR)∧
 R (.int .i64 (i64.wrap ((((Q1:Nat):Int):Int).tdiv 2))) w
def Gb:Ann:= .leaf
theorem DPages_eq(d:Option Addr)(R:aD)(w:World):vP d R w=vcF prog aK [] Tryz.f120 Gb [(.pointer d)] R none w:=by kernel_rfl
theorem oE(d:Option Addr) {R:aD} {w:World}(h:vP d R w):Calls prog 120 #[(.pointer d)] w fun e w'=>∃v,e= .returned v∧R v w':=
 ak Tryz.func120 aw aa ((DPages_eq d R w).mp h)
def DW(d:Option Addr)(ax:Int)(R:aD)(w:World):Prop:=
 ∃J:Bool→World→Prop,(
  split (decide ((ax:Int)≥0)) (
   Calls prog 120 #[(.pointer d)] w fun e wv=>
   ∃OH:Int,e= .returned (.int .i64 OH)∧
   J (decide ((ax:Int)<OH)) wv) (
   J false w))∧∀(PO:Nat→Value)(x4:Bool),∀wv,J x4 wv→
 R (.bool x4) wv
def KF:Ann:=(.node none .leaf (.node none (.node (some ⟨[(4,.one (.bool))],[4,5,6,7,8,9,10,11,12]⟩) .leaf .leaf) .leaf))
theorem DHas_eq(d:Option Addr)(ax:Int)(R:aD)(w:World):DW d ax R w=vcF prog aK [] Tryz.f57 KF [(.pointer d),(.int .i64 ax)] R none w:=by kernel_rfl
theorem tN(d:Option Addr)(ax:Int) {R:aD} {w:World}(h:DW d ax R w):Calls prog 57 #[(.pointer d),(.int .i64 ax)] w fun e w'=>∃v,e= .returned v∧R v w':=
 ak Tryz.func57 aw aa ((DHas_eq d ax R w).mp h)
def IW(d:Option Addr)(ax:Int)(R:aD)(w:World):Prop:=
 ∀(gv:Nat)(wv:World),gv=w.heap.size→wv=w.alloc (.cells (#[(.int .i64 0),(.int .i64 0),(.int .i64 0),(.int .i64 0),(.bool false)]) 50)→
 au d fun p9=>
 ∃S2:Option Addr,∃SZ:Nat,∃S0:Nat,wv.cell? (p9.add 2)=some (.slice S2 SZ S0)∧
 (0≤(i64.wrap (2*ax):Int)∧(i64.wrap (2*ax):Int)≤((SZ:Nat):Int))∧
 ∀aa1:Option Addr,aa1=(if S0=(Int.toNat (i64.wrap (2*ax)))then S2 else(S2:Option Addr).map (·.add ((Int.toNat (i64.wrap (2*ax)))*1)))→∀aa0:Nat,aa0=SZ - (Int.toNat (i64.wrap (2*ax)))→∀ads:Nat,ads=S0 - (Int.toNat (i64.wrap (2*ax)))→
 2≤aa0∧
 au aa1 fun WV=>
 ∃aaP:Int,∃aaO:Int,(wv.cell? (WV.add 0)=some (.int .u32 aaP)∧wv.cell? (WV.add 1)=some (.int .u32 aaO))∧
 Calls prog 121 #[(.agg #[(.int .u32 aaP),(.int .u32 aaO)])] wv fun e Nw=>
 ∃x17aa:Int,∃x17ab:Int,∃x17ac:Int,∃x17ad:Int,∃x17ae:Bool,∃Vv:Int,e= .returned (.tuple #[(.agg #[(.int .i64 x17aa),(.int .i64 x17ab),(.int .i64 x17ac),(.int .i64 x17ad),(.bool x17ae)]),(.int .i64 Vv)])∧
 ∀(NB:Nat)(Ny:World),NB=Nw.heap.size→Ny=Nw.alloc (.cells (#[(.int .i64 0),(.int .i64 0),(.int .i64 0),(.int .i64 0),(.bool false)]) 50)→
 aA Ny (Addr.mk NB 0 none) [(.int .i64 x17aa),(.int .i64 x17ab),(.int .i64 x17ac),(.int .i64 x17ad),(.bool x17ae)] fun NF=>
 ∃Ue:Int,∃Ud:Int,∃Uc:Int,∃Ub:Int,∃Ua:Bool,(NF.cell? ((Addr.mk NB 0 none).add 0)=some (.int .i64 Ue)∧NF.cell? ((Addr.mk NB 0 none).add 1)=some (.int .i64 Ud)∧NF.cell? ((Addr.mk NB 0 none).add 2)=some (.int .i64 Uc)∧NF.cell? ((Addr.mk NB 0 none).add 3)=some (.int .i64 Ub)∧NF.cell? ((Addr.mk NB 0 none).add 4)=some (.bool Ua))∧
 aA NF (Addr.mk gv 0 none) [(.int .i64 Ue),(.int .i64 Ud),(.int .i64 Uc),(.int .i64 Ub),(.bool Ua)] fun NI=>
 ∃O8:Int,∃O7:Int,∃Pk:Int,∃Pj:Int,∃Ph:Bool,(NI.cell? ((Addr.mk gv 0 none).add 0)=some (.int .i64 O8)∧NI.cell? ((Addr.mk gv 0 none).add 1)=some (.int .i64 O7)∧NI.cell? ((Addr.mk gv 0 none).add 2)=some (.int .i64 Pk)∧NI.cell? ((Addr.mk gv 0 none).add 3)=some (.int .i64 Pj)∧NI.cell? ((Addr.mk gv 0 none).add 4)=some (.bool Ph))∧
 R (.agg #[(.int .i64 O8),(.int .i64 O7),(.int .i64 Pk),(.int .i64 Pj),(.bool Ph)]) NI
def L8:Ann:= .leaf
theorem DAt_eq(d:Option Addr)(ax:Int)(R:aD)(w:World):IW d ax R w=vcF prog aK [] Tryz.f58 L8 [(.pointer d),(.int .i64 ax)] R none w:=by kernel_rfl
theorem Ge(d:Option Addr)(ax:Int) {R:aD} {w:World}(h:IW d ax R w):Calls prog 58 #[(.pointer d),(.int .i64 ax)] w fun e w'=>∃v,e= .returned v∧R v w':=
 ak Tryz.func58 aw aa ((DAt_eq d ax R w).mp h)
def DU(d:Option Addr)(ax:Int)(ea:Int)(eb:Int)(ec:Int)(ed:Int)(ee:Bool)(R:aD)(w:World):Prop:=
 ∀(gv:Nat)(wv:World),gv=w.heap.size→wv=w.alloc (.cells #[(.int .i64 ea),(.int .i64 eb),(.int .i64 ec),(.int .i64 ed),(.bool ee)] 50)→
 ∃Sz:Int,∃Sy:Int,∃Yf:Int,∃Ye:Int,∃Yd:Bool,(wv.cell? ((Addr.mk gv 0 none).add 0)=some (.int .i64 Sz)∧wv.cell? ((Addr.mk gv 0 none).add 1)=some (.int .i64 Sy)∧wv.cell? ((Addr.mk gv 0 none).add 2)=some (.int .i64 Yf)∧wv.cell? ((Addr.mk gv 0 none).add 3)=some (.int .i64 Ye)∧wv.cell? ((Addr.mk gv 0 none).add 4)=some (.bool Yd))∧
 Calls prog 170 #[(.agg #[(.int .i64 Sz),(.int .i64 Sy),(.int .i64 Yf),(.int .i64 Ye),(.bool Yd)])] wv fun e Nw=>
 ∃x10aa:Int,∃x10ab:Int,∃PC:Int,e= .returned (.tuple #[(.agg #[(.int .u32 x10aa),(.int .u32 x10ab)]),(.int .i64 PC)])∧
 ∀(NB:Nat)(Ny:World),NB=Nw.heap.size→Ny=Nw.alloc (.cells (#[(.int .u32 0),(.int .u32 0)]) 197)→
 aA Ny (Addr.mk NB 0 none) [(.int .u32 x10aa),(.int .u32 x10ab)] fun NF=>
 ∃b:Nat→Nat→Prop,
 au d fun SG=>
 b 3 ((SG.add 2).block)∧
 ∃Um:Option Addr,∃Rb:Nat,∃Ul:Nat,NF.drew.cell? (SG.add 2)=some (.slice Um Rb Ul)∧
 (0≤(i64.wrap (2*ax):Int)∧(i64.wrap (2*ax):Int)≤((Rb:Nat):Int))∧
 ∀Uk:Option Addr,Uk=(if Ul=(Int.toNat (i64.wrap (2*ax)))then Um else(Um:Option Addr).map (·.add ((Int.toNat (i64.wrap (2*ax)))*1)))→∀Ui:Nat,Ui=Rb - (Int.toNat (i64.wrap (2*ax)))→∀Uj:Nat,Uj=Ul - (Int.toNat (i64.wrap (2*ax)))→
 ∀Uh:Option Addr,Uh=(some (if 2=0 then Addr.mk NB 0 none else(Addr.mk NB 0 none).add (0*1)))→∀Uf:Nat,Uf=2 - 0→∀Ug:Nat,Ug=2 - 0→
 ∃PB:Int,∃NI,(Builtin.copy_ #[62,62] 3 #[(.slice Uk Ui Uj),(.slice Uh Uf Ug)]:Sem Value).run prog NF.drew= .ok (.int .i64 PB) NI∧
 Kept (bE b [0,1]) NF.drew NI∧∃b1:Nat→Nat→Prop,(∀i k,b i k→b1 i k)∧
 R (.tuple #[]) NI
def KD:Ann:= .leaf
theorem DSet_eq(d:Option Addr)(ax:Int)(ea:Int)(eb:Int)(ec:Int)(ed:Int)(ee:Bool)(R:aD)(w:World):DU d ax ea eb ec ed ee R w=vcF prog aK [] Tryz.f115 KD [(.pointer d),(.int .i64 ax),(.agg #[(.int .i64 ea),(.int .i64 eb),(.int .i64 ec),(.int .i64 ed),(.bool ee)])] R none w:=by kernel_rfl
theorem CI(d:Option Addr)(ax:Int)(ea:Int)(eb:Int)(ec:Int)(ed:Int)(ee:Bool) {R:aD} {w:World}(h:DU d ax ea eb ec ed ee R w):Calls prog 115 #[(.pointer d),(.int .i64 ax),(.agg #[(.int .i64 ea),(.int .i64 eb),(.int .i64 ec),(.int .i64 ed),(.bool ee)])] w fun e w'=>∃v,e= .returned v∧R v w':=
 ak Tryz.func115 aw aa ((DSet_eq d ax ea eb ec ed ee R w).mp h)
def vQ(d:Option Addr)(ax:Int)(R:aD)(w:World):Prop:=
 ∀(gv:Nat)(wv:World),gv=w.heap.size→wv=w.alloc (.cells (#[(.int .i64 0),(.int .i64 0),(.int .i64 0),(.int .i64 0),(.bool false)]) 50)→
 Calls prog 57 #[(.pointer d),(.int .i64 ax)] wv fun e Nw=>
 ∃x8:Bool,e= .returned (.bool x8)∧
 split (!x8) (
  aA Nw (Addr.mk gv 0 none) [(.int .i64 0),(.int .i64 0),(.int .i64 0),(.int .i64 0),(.bool false)] fun Ny=>
  ∃O8:Int,∃O7:Int,∃Pk:Int,∃Pj:Int,∃Ph:Bool,(Ny.cell? ((Addr.mk gv 0 none).add 0)=some (.int .i64 O8)∧Ny.cell? ((Addr.mk gv 0 none).add 1)=some (.int .i64 O7)∧Ny.cell? ((Addr.mk gv 0 none).add 2)=some (.int .i64 Pk)∧Ny.cell? ((Addr.mk gv 0 none).add 3)=some (.int .i64 Pj)∧Ny.cell? ((Addr.mk gv 0 none).add 4)=some (.bool Ph))∧
  R (.tuple #[(.agg #[(.int .i64 O8),(.int .i64 O7),(.int .i64 Pk),(.int .i64 Pj),(.bool Ph)]),(.int .i64 5)]) Ny) (
  Calls prog 58 #[(.pointer d),(.int .i64 ax)] Nw fun e Ny=>
  ∃Pf:Int,∃Pq:Int,∃Uu:Int,∃Ut:Int,∃Us:Bool,e= .returned (.agg #[(.int .i64 Pf),(.int .i64 Pq),(.int .i64 Uu),(.int .i64 Ut),(.bool Us)])∧
  aA Ny (Addr.mk gv 0 none) [(.int .i64 Pf),(.int .i64 Pq),(.int .i64 Uu),(.int .i64 Ut),(.bool Us)] fun NF=>
  ∃O8:Int,∃O7:Int,∃Pk:Int,∃Pj:Int,∃Ph:Bool,(NF.cell? ((Addr.mk gv 0 none).add 0)=some (.int .i64 O8)∧NF.cell? ((Addr.mk gv 0 none).add 1)=some (.int .i64 O7)∧NF.cell? ((Addr.mk gv 0 none).add 2)=some (.int .i64 Pk)∧NF.cell? ((Addr.mk gv 0 none).add 3)=some (.int .i64 Pj)∧NF.cell? ((Addr.mk gv 0 none).add 4)=some (.bool Ph))∧
  R (.tuple #[(.agg #[(.int .i64 O8),(.int .i64 O7),(.int .i64 Pk),(.int .i64 Pj),(.bool Ph)]),(.int .i64 0)]) NF)
def Gc:Ann:= .leaf
theorem DEntry_eq(d:Option Addr)(ax:Int)(R:aD)(w:World):vQ d ax R w=vcF prog aK [] Tryz.f18 Gc [(.pointer d),(.int .i64 ax)] R none w:=by kernel_rfl
theorem xI(d:Option Addr)(ax:Int) {R:aD} {w:World}(h:vQ d ax R w):Calls prog 18 #[(.pointer d),(.int .i64 ax)] w fun e w'=>∃v,e= .returned v∧R v w':=
 ak Tryz.func18 aw aa ((DEntry_eq d ax R w).mp h)
def qh(d:Option Addr)(ax:Int)(R:aD)(w:World):Prop:=
 ∃J:Bool→World→Prop,(
  Calls prog 57 #[(.pointer d),(.int .i64 ax)] w fun e wv=>
  ∃x7:Bool,e= .returned (.bool x7)∧
  split x7 (
   Calls prog 58 #[(.pointer d),(.int .i64 ax)] wv fun e Nw=>
   ∃RK:Int,∃Sc:Int,∃adv:Int,∃adu:Int,∃adt:Bool,e= .returned (.agg #[(.int .i64 RK),(.int .i64 Sc),(.int .i64 adv),(.int .i64 adu),(.bool adt)])∧
   J ((RK:Int)==1) Nw) (
   J false wv))∧∀(PO:Nat→Value)(x4:Bool),∀wv,J x4 wv→
 R (.bool x4) wv
def AN:Ann:=(.node none .leaf (.node none (.node (some ⟨[(4,.one (.bool))],[4,5,6,7,8,9,10,11,12,13,14]⟩) .leaf .leaf) .leaf))
theorem DIsSpace_eq(d:Option Addr)(ax:Int)(R:aD)(w:World):qh d ax R w=vcF prog aK [] Tryz.f116 AN [(.pointer d),(.int .i64 ax)] R none w:=by kernel_rfl
theorem tM(d:Option Addr)(ax:Int) {R:aD} {w:World}(h:qh d ax R w):Calls prog 116 #[(.pointer d),(.int .i64 ax)] w fun e w'=>∃v,e= .returned v∧R v w':=
 ak Tryz.func116 aw aa ((DIsSpace_eq d ax R w).mp h)
def AI(d:Option Addr)(space:Int)(more:Int)(R:aD)(w:World):Prop:=
 Calls prog 58 #[(.pointer d),(.int .i64 space)] w fun e wv=>
 ∃Sz:Int,∃Sy:Int,∃Yf:Int,∃Ye:Int,∃Yd:Bool,e= .returned (.agg #[(.int .i64 Sz),(.int .i64 Sy),(.int .i64 Yf),(.int .i64 Ye),(.bool Yd)])∧
 ∀(gv:Nat)(Nw:World),gv=wv.heap.size→Nw=wv.alloc (.cells (#[(.int .i64 0),(.int .i64 0),(.int .i64 0),(.int .i64 0),(.bool false)]) 50)→
 aA Nw (Addr.mk gv 0 none) [(.int .i64 Sz),(.int .i64 Sy),(.int .i64 Yf),(.int .i64 Ye),(.bool Yd)] fun Ny=>
 ∃Pg:Int,Ny.cell? ((Addr.mk gv 0 none).add 2)=some (.int .i64 Pg)∧
 aA Ny ((Addr.mk gv 0 none).add 2) [(.int .i64 (i64.wrap (Pg+more)))] fun NF=>
 ∃aaN:Int,∃Vv:Int,∃aaM:Int,∃aaL:Int,∃aaK:Bool,(NF.cell? ((Addr.mk gv 0 none).add 0)=some (.int .i64 aaN)∧NF.cell? ((Addr.mk gv 0 none).add 1)=some (.int .i64 Vv)∧NF.cell? ((Addr.mk gv 0 none).add 2)=some (.int .i64 aaM)∧NF.cell? ((Addr.mk gv 0 none).add 3)=some (.int .i64 aaL)∧NF.cell? ((Addr.mk gv 0 none).add 4)=some (.bool aaK))∧
 Calls prog 115 #[(.pointer d),(.int .i64 space),(.agg #[(.int .i64 aaN),(.int .i64 Vv),(.int .i64 aaM),(.int .i64 aaL),(.bool aaK)])] NF fun e NI=>
 e= .returned (.tuple #[])∧
 R (.tuple #[]) NI
def IS:Ann:= .leaf
theorem DRefs_eq(d:Option Addr)(space:Int)(more:Int)(R:aD)(w:World):AI d space more R w=vcF prog aK [] Tryz.f117 IS [(.pointer d),(.int .i64 space),(.int .i64 more)] R none w:=by kernel_rfl
theorem AJ(d:Option Addr)(space:Int)(more:Int) {R:aD} {w:World}(h:AI d space more R w):Calls prog 117 #[(.pointer d),(.int .i64 space),(.int .i64 more)] w fun e w'=>∃v,e= .returned v∧R v w':=
 ak Tryz.func117 aw aa ((DRefs_eq d space more R w).mp h)
def AF(d:Option Addr)(ax:Int)(t:Int)(space:Int)(R:aD)(w:World):Prop:=
 Calls prog 57 #[(.pointer d),(.int .i64 ax)] w fun e wv=>
 ∃OX:Bool,e= .returned (.bool OX)∧
 ∀x9:Bool,x9=(!OX)→
 split x9 (
  R (.int .i64 5) wv) (
  ∃J:Bool→World→Prop,(
   split ((t:Int) !=2) (
    Calls prog 128 #[(.int .i64 t)] wv fun e Nw=>
    ∃Pw:Bool,e= .returned (.bool Pw)∧
    ∀P6:Bool,P6=(!Pw)→
    J P6 Nw) (
    ∀P6:Bool,P6=false→
    J P6 wv))∧∀(PO:Nat→Value)(P6:Bool),∀Nw,J P6 Nw→
  split P6 (
   R (.int .i64 124) Nw) (
   ∃J1:Bool→World→Prop,(
    Calls prog 116 #[(.pointer d),(.int .i64 space)] Nw fun e Ny=>
    ∃PJ:Bool,e= .returned (.bool PJ)∧
    split (!PJ) (
     ∀O1:Bool,O1=true→
     J1 O1 Ny) (
     Calls prog 58 #[(.pointer d),(.int .i64 space)] Ny fun e NF=>
     ∃adq:Int,∃WL:Int,∃aal:Int,∃adp:Int,∃ado:Bool,e= .returned (.agg #[(.int .i64 adq),(.int .i64 WL),(.int .i64 aal),(.int .i64 adp),(.bool ado)])∧
     ∀O1:Bool,O1=(decide ((aal:Int)≥63))→
     J1 O1 NF))∧∀(Oi:Nat→Value)(O1:Bool),∀Ny,J1 O1 Ny→
   split O1 (
    R (.int .i64 122) Ny) (
    Calls prog 58 #[(.pointer d),(.int .i64 ax)] Ny fun e NF=>
    ∃Z7:Int,∃adg:Int,∃adf:Int,∃ade:Int,∃adb:Bool,e= .returned (.agg #[(.int .i64 Z7),(.int .i64 adg),(.int .i64 adf),(.int .i64 ade),(.bool adb)])∧
    ∀U4:Bool,U4=((Z7:Int) !=0)→
    split U4 (
     R (.int .i64 120) NF) (
     Calls prog 115 #[(.pointer d),(.int .i64 ax),(.agg #[(.int .i64 t),(.int .i64 space),(.int .i64 0),(.int .i64 0),(.bool false)])] NF fun e NI=>
     e= .returned (.tuple #[])∧
     Calls prog 117 #[(.pointer d),(.int .i64 space),(.int .i64 1)] NI fun e NW=>
     e= .returned (.tuple #[])∧
     R (.int .i64 0) NW))))
def IQ:Ann:=(.node none .leaf (.node none (.node none (.node none .leaf (.node none .leaf (.node none (.node (some ⟨[(14,.one (.bool))],[14,15,16,17,18,19,20,21]⟩) .leaf .leaf) (.node none .leaf (.node none (.node (some ⟨[(22,.one (.bool))],[22,23,24,25,26,27,28,29,30,31,32,33]⟩) .leaf .leaf) .leaf))))) .leaf) .leaf))
theorem DTake_eq(d:Option Addr)(ax:Int)(t:Int)(space:Int)(R:aD)(w:World):AF d ax t space R w=vcF prog aK [9,14,22,34] Tryz.f64 IQ [(.pointer d),(.int .i64 ax),(.int .i64 t),(.int .i64 space)] R none w:=by kernel_rfl
theorem AG(d:Option Addr)(ax:Int)(t:Int)(space:Int) {R:aD} {w:World}(h:AF d ax t space R w):Calls prog 64 #[(.pointer d),(.int .i64 ax),(.int .i64 t),(.int .i64 space)] w fun e w'=>∃v,e= .returned v∧R v w':=
 ak Tryz.func64 aw aa ((DTake_eq d ax t space R w).mp h)
def oD(d:Option Addr)(space:Int)(s:Int)(R:aD)(w:World):Prop:=
 Calls prog 57 #[(.pointer d),(.int .i64 space)] w fun e wv=>
 ∃OH:Bool,e= .returned (.bool OH)∧
 split (!OH) (
  R (.int .i64 5) wv) (
  Calls prog 58 #[(.pointer d),(.int .i64 space)] wv fun e Nw=>
  ∃QG:Int,∃Qz:Int,∃RI:Int,∃RH:Int,∃RG:Bool,e= .returned (.agg #[(.int .i64 QG),(.int .i64 Qz),(.int .i64 RI),(.int .i64 RH),(.bool RG)])∧
  ∀(gv:Nat)(Ny:World),gv=Nw.heap.size→Ny=Nw.alloc (.cells (#[(.int .i64 0),(.int .i64 0),(.int .i64 0),(.int .i64 0),(.bool false)]) 50)→
  aA Ny (Addr.mk gv 0 none) [(.int .i64 QG),(.int .i64 Qz),(.int .i64 RI),(.int .i64 RH),(.bool RG)] fun NF=>
  ∃Po:Int,NF.cell? ((Addr.mk gv 0 none).add 0)=some (.int .i64 Po)∧
  ∀PQ:Bool,PQ=((Po:Int) !=1)→
  split PQ (
   R (.int .i64 124) NF) (
   ∃J:Bool→World→Prop,(
    split ((s:Int) !=3) (
     ∃Qh:Int,NF.cell? ((Addr.mk gv 0 none).add 3)=some (.int .i64 Qh)∧
     split ((Qh:Int) !=1) (
      ∀Pw:Bool,Pw=true→
      J Pw NF) (
      ∀Pw:Bool,Pw=((s:Int) !=2)→
      J Pw NF)) (
     ∀Pw:Bool,Pw=false→
     J Pw NF))∧∀(Oi:Nat→Value)(Pw:Bool),∀NI,J Pw NI→
   split Pw (
    R (.int .i64 3) NI) (
    aA NI ((Addr.mk gv 0 none).add 3) [(.int .i64 s)] fun NW=>
    ∃aae:Int,∃aad:Int,∃aac:Int,∃aab:Int,∃aaa:Bool,(NW.cell? ((Addr.mk gv 0 none).add 0)=some (.int .i64 aae)∧NW.cell? ((Addr.mk gv 0 none).add 1)=some (.int .i64 aad)∧NW.cell? ((Addr.mk gv 0 none).add 2)=some (.int .i64 aac)∧NW.cell? ((Addr.mk gv 0 none).add 3)=some (.int .i64 aab)∧NW.cell? ((Addr.mk gv 0 none).add 4)=some (.bool aaa))∧
    Calls prog 115 #[(.pointer d),(.int .i64 space),(.agg #[(.int .i64 aae),(.int .i64 aad),(.int .i64 aac),(.int .i64 aab),(.bool aaa)])] NW fun e NT=>
    e= .returned (.tuple #[])∧
    R (.int .i64 0) NT)))
def xG:Ann:=(.node none .leaf (.node none .leaf (.node none .leaf (.node none (.node none (.node none .leaf (.node none .leaf (.node none (.node (some ⟨[(19,.one (.bool))],[19,20,21,22,23,24,25,26,27,28,29,30]⟩) .leaf .leaf) .leaf))) .leaf) .leaf))))
theorem DSetState_eq(d:Option Addr)(space:Int)(s:Int)(R:aD)(w:World):oD d space s R w=vcF prog aK [15,19] Tryz.f43 xG [(.pointer d),(.int .i64 space),(.int .i64 s)] R none w:=by kernel_rfl
theorem qz(d:Option Addr)(space:Int)(s:Int) {R:aD} {w:World}(h:oD d space s R w):Calls prog 43 #[(.pointer d),(.int .i64 space),(.int .i64 s)] w fun e w'=>∃v,e= .returned v∧R v w':=
 ak Tryz.func43 aw aa ((DSetState_eq d space s R w).mp h)
def AO(d:Option Addr)(ax:Int)(R:aD)(w:World):Prop:=
 Calls prog 57 #[(.pointer d),(.int .i64 ax)] w fun e wv=>
 ∃x8:Bool,e= .returned (.bool x8)∧
 split (!x8) (
  R (.int .i64 5) wv) (
  Calls prog 58 #[(.pointer d),(.int .i64 ax)] wv fun e Nw=>
  ∃RJ:Int,∃Rc:Int,∃abe:Int,∃abd:Int,∃abc:Bool,e= .returned (.agg #[(.int .i64 RJ),(.int .i64 Rc),(.int .i64 abe),(.int .i64 abd),(.bool abc)])∧
  ∀(gv:Nat)(Ny:World),gv=Nw.heap.size→Ny=Nw.alloc (.cells (#[(.int .i64 0),(.int .i64 0),(.int .i64 0),(.int .i64 0),(.bool false)]) 50)→
  aA Ny (Addr.mk gv 0 none) [(.int .i64 RJ),(.int .i64 Rc),(.int .i64 abe),(.int .i64 abd),(.bool abc)] fun NF=>
  ∃PQ:Int,NF.cell? ((Addr.mk gv 0 none).add 0)=some (.int .i64 PQ)∧
  ∀P7:Bool,P7=((PQ:Int)==0)→
  split P7 (
   R (.int .i64 121) NF) (
   ∃J:Bool→World→Prop,(
    ∃Pw:Int,NF.cell? ((Addr.mk gv 0 none).add 0)=some (.int .i64 Pw)∧
    split ((Pw:Int)==1) (
     ∃QP:Int,NF.cell? ((Addr.mk gv 0 none).add 2)=some (.int .i64 QP)∧
     ∀Po:Bool,Po=(decide ((QP:Int)>0))→
     J Po NF) (
     ∀Po:Bool,Po=false→
     J Po NF))∧∀(Oi:Nat→Value)(Po:Bool),∀NI,J Po NI→
   split Po (
    R (.int .i64 123) NI) (
    Calls prog 115 #[(.pointer d),(.int .i64 ax),(.agg #[(.int .i64 0),(.int .i64 0),(.int .i64 0),(.int .i64 0),(.bool false)])] NI fun e NW=>
    e= .returned (.tuple #[])∧
    ∃J1:Bool→World→Prop,(
     ∃QU:Int,NW.cell? ((Addr.mk gv 0 none).add 0)=some (.int .i64 QU)∧
     split ((QU:Int) !=1) (
      ∃TY:Int,NW.cell? ((Addr.mk gv 0 none).add 1)=some (.int .i64 TY)∧
      Calls prog 116 #[(.pointer d),(.int .i64 TY)] NW fun e NT=>
      ∃Rz:Bool,e= .returned (.bool Rz)∧
      split Rz (
       ∃Q3:Int,NT.cell? ((Addr.mk gv 0 none).add 1)=some (.int .i64 Q3)∧
       Calls prog 58 #[(.pointer d),(.int .i64 Q3)] NT fun e NU=>
       ∃ac9:Int,∃ac8:Int,∃ZF:Int,∃ac7:Int,∃ac6:Bool,e= .returned (.agg #[(.int .i64 ac9),(.int .i64 ac8),(.int .i64 ZF),(.int .i64 ac7),(.bool ac6)])∧
       J1 (decide ((ZF:Int)>0)) NU) (
       J1 false NT)) (
      J1 false NW))∧∀(OW:Nat→Value)(Zw:Bool),∀NT,J1 Zw NT→
    split Zw (
     ∃U3:Int,NT.cell? ((Addr.mk gv 0 none).add 1)=some (.int .i64 U3)∧
     Calls prog 117 #[(.pointer d),(.int .i64 U3),(.int .i64 (-1))] NT fun e NU=>
     e= .returned (.tuple #[])∧
     ∃b:Nat→Nat→Prop,
     au d fun Wa=>
     b 3 ((Wa.add 0).block)∧
     ∃Tv:Option Addr,NU.drew.cell? (Wa.add 0)=some (.pointer Tv)∧
     Calls prog 78 #[(.int .i64 ax)] NU.drew fun e N1=>
     ∃Rw:Bool,∃Rv:Int,e= .returned (.agg #[(.bool Rw),(.int .i64 Rv)])∧
     Kept (bE b [0,1,2,3]) NU.drew N1∧∃b1:Nat→Nat→Prop,(∀i k,b i k→b1 i k)∧
     Calls prog 77 #[(.pointer Tv),(.agg #[(.bool Rw),(.int .i64 Rv)])] N1 fun e Oy=>
     ∃YR:Int,e= .returned (.int .i64 YR)∧
     Kept (bE b1 [0]) N1 Oy∧∃b2:Nat→Nat→Prop,(∀i k,b1 i k→b2 i k)∧
     R (.int .i64 YR) Oy) (
     ∃b:Nat→Nat→Prop,
     au d fun Wa=>
     b 3 ((Wa.add 0).block)∧
     ∃Tv:Option Addr,NT.drew.cell? (Wa.add 0)=some (.pointer Tv)∧
     Calls prog 78 #[(.int .i64 ax)] NT.drew fun e NU=>
     ∃Rw:Bool,∃Rv:Int,e= .returned (.agg #[(.bool Rw),(.int .i64 Rv)])∧
     Kept (bE b [0,1,2,3]) NT.drew NU∧∃b1:Nat→Nat→Prop,(∀i k,b i k→b1 i k)∧
     Calls prog 77 #[(.pointer Tv),(.agg #[(.bool Rw),(.int .i64 Rv)])] NU fun e N1=>
     ∃YR:Int,e= .returned (.int .i64 YR)∧
     Kept (bE b1 [0]) NU N1∧∃b2:Nat→Nat→Prop,(∀i k,b1 i k→b2 i k)∧
     R (.int .i64 YR) N1))))
def IV:Ann:=(.node none .leaf (.node none .leaf (.node none .leaf (.node none (.node none (.node none .leaf (.node none .leaf (.node none (.node (some ⟨[(17,.one (.bool))],[17,18,19,20,21,22,23,24,25]⟩) .leaf .leaf) .leaf))) .leaf) (.node none .leaf (.node none (.node none (.node (some ⟨[(46,.one (.bool))],[30,31,32,33,34,35,36,37,38,39,40,41,42,43,44,45,46]⟩) .leaf .leaf) .leaf) .leaf))))))
theorem DGive_eq(d:Option Addr)(ax:Int)(R:aD)(w:World):AO d ax R w=vcF prog aK [13,17] Tryz.f45 IV [(.pointer d),(.int .i64 ax)] R none w:=by kernel_rfl
theorem AQ(d:Option Addr)(ax:Int) {R:aD} {w:World}(h:AO d ax R w):Calls prog 45 #[(.pointer d),(.int .i64 ax)] w fun e w'=>∃v,e= .returned v∧R v w':=
 ak Tryz.func45 aw aa ((DGive_eq d ax R w).mp h)
def mN(d:Option Addr)(space:Int)(first:Int)(R:aD)(w:World):Prop:=
 ∃J:Bool→World→Prop,(
  Calls prog 57 #[(.pointer d),(.int .i64 space)] w fun e wv=>
  ∃OH:Bool,e= .returned (.bool OH)∧
  split (!OH) (
   ∀x7:Bool,x7=true→
   J x7 wv) (
   Calls prog 57 #[(.pointer d),(.int .i64 first)] wv fun e Nw=>
   ∃PQ:Bool,e= .returned (.bool PQ)∧
   ∀x7:Bool,x7=(!PQ)→
   J x7 Nw))∧∀(PO:Nat→Value)(x7:Bool),∀wv,J x7 wv→
 split x7 (
  R (.int .i64 5) wv) (
  ∀RX:Bool,RX=((space:Int)==first)→
  split RX (
   R (.int .i64 1) wv) (
   ∃J1:Bool→World→Prop,(
    Calls prog 58 #[(.pointer d),(.int .i64 space)] wv fun e Nw=>
    ∃T9:Int,∃Vu:Int,∃Vt:Int,∃Vs:Int,∃Vr:Bool,e= .returned (.agg #[(.int .i64 T9),(.int .i64 Vu),(.int .i64 Vt),(.int .i64 Vs),(.bool Vr)])∧
    split ((T9:Int) !=0) (
     ∀O1:Bool,O1=true→
     J1 O1 Nw) (
     Calls prog 58 #[(.pointer d),(.int .i64 first)] Nw fun e Ny=>
     ∃aai:Int,∃adm:Int,∃adl:Int,∃adk:Int,∃adj:Bool,e= .returned (.agg #[(.int .i64 aai),(.int .i64 adm),(.int .i64 adl),(.int .i64 adk),(.bool adj)])∧
     ∀O1:Bool,O1=((aai:Int) !=0)→
     J1 O1 Ny))∧∀(Oi:Nat→Value)(O1:Bool),∀Nw,J1 O1 Nw→
   split O1 (
    R (.int .i64 120) Nw) (
    au d fun p37=>
    ∃TX:Int,Nw.cell? (p37.add 1)=some (.int .i64 TX)∧
    ∀P8:Bool,P8=(decide ((TX:Int)≥64))→
    split P8 (
     R (.int .i64 240) Nw) (
     Calls prog 115 #[(.pointer d),(.int .i64 space),(.agg #[(.int .i64 1),(.int .i64 space),(.int .i64 1),(.int .i64 1),(.bool false)])] Nw fun e Ny=>
     e= .returned (.tuple #[])∧
     Calls prog 115 #[(.pointer d),(.int .i64 first),(.agg #[(.int .i64 3),(.int .i64 space),(.int .i64 0),(.int .i64 0),(.bool false)])] Ny fun e NF=>
     e= .returned (.tuple #[])∧
     ∃b:Nat→Nat→Prop,
     au d fun Wa=>
     b 3 ((Wa.add 0).block)∧
     ∃Tv:Option Addr,NF.drew.cell? (Wa.add 0)=some (.pointer Tv)∧
     Calls prog 78 #[(.int .i64 space)] NF.drew fun e NI=>
     ∃Rw:Bool,∃Rv:Int,e= .returned (.agg #[(.bool Rw),(.int .i64 Rv)])∧
     Kept (bE b [0,1,2,3,6,7]) NF.drew NI∧∃b1:Nat→Nat→Prop,(∀i k,b i k→b1 i k)∧
     Calls prog 42 #[(.pointer Tv),(.agg #[(.bool Rw),(.int .i64 Rv)]),(.int .i64 0),(.int .u32 (u32.wrap first))] NI fun e NW=>
     ∃x59:Int,e= .returned (.int .i64 x59)∧
     Kept (bE b1 [0]) NI NW∧∃b2:Nat→Nat→Prop,(∀i k,b1 i k→b2 i k)∧
     ∃b3:Nat→Nat→Prop,
     au d fun p61=>
     b3 3 ((p61.add 0).block)∧
     ∃x63:Option Addr,NW.drew.cell? (p61.add 0)=some (.pointer x63)∧
     au d fun p67=>
     b3 9 ((p67.add 1).block)∧
     ∃Yx:Int,NW.drew.cell? (p67.add 1)=some (.int .i64 Yx)∧
     Calls prog 78 #[(.int .i64 space)] NW.drew fun e NT=>
     ∃YA:Bool,∃Yz:Int,e= .returned (.agg #[(.bool YA),(.int .i64 Yz)])∧
     Kept (bE b3 [0,1,2,3,6,7,8,9,10]) NW.drew NT∧∃b4:Nat→Nat→Prop,(∀i k,b3 i k→b4 i k)∧
     Calls prog 42 #[(.pointer x63),(.agg #[(.bool YA),(.int .i64 Yz)]),(.int .i64 1),(.int .u32 (u32.wrap Yx))] NT fun e NU=>
     ∃RW:Int,e= .returned (.int .i64 RW)∧
     Kept (bE b4 [0,6,7]) NT NU∧∃b5:Nat→Nat→Prop,(∀i k,b4 i k→b5 i k)∧
     ∃b6:Nat→Nat→Prop,
     au d fun p73=>
     b6 3 ((p73.add 0).block)∧
     ∃Yn:Option Addr,NU.drew.cell? (p73.add 0)=some (.pointer Yn)∧
     Calls prog 78 #[(.int .i64 space)] NU.drew fun e N1=>
     ∃Ym:Bool,∃Yl:Int,e= .returned (.agg #[(.bool Ym),(.int .i64 Yl)])∧
     Kept (bE b6 [0,1,2,3]) NU.drew N1∧∃b7:Nat→Nat→Prop,(∀i k,b6 i k→b7 i k)∧
     Calls prog 42 #[(.pointer Yn),(.agg #[(.bool Ym),(.int .i64 Yl)]),(.int .i64 2),(.int .u32 0)] N1 fun e Oy=>
     ∃x78:Int,e= .returned (.int .i64 x78)∧
     Kept (bE b7 [0]) N1 Oy∧∃b8:Nat→Nat→Prop,(∀i k,b7 i k→b8 i k)∧
     au d fun p80=>
     ∃Yk:Int,Oy.cell? (p80.add 1)=some (.int .i64 Yk)∧
     au d fun p84=>
     aA Oy (p84.add 1) [(.int .i64 (i64.wrap (Yk+1)))] fun PL=>
     R (.int .i64 0) PL))))
def uH:Ann:=(.node none .leaf (.node none (.node none (.node none (.node (some ⟨[(7,.one (.bool))],[7,8,9,10,11,12,13,14,15,16,17]⟩) .leaf .leaf) (.node none .leaf (.node none .leaf (.node none .leaf (.node none (.node (some ⟨[(22,.one (.bool))],[22,23,24,25,26,27,28,29,30,31,32,33,34]⟩) .leaf .leaf) .leaf))))) .leaf) .leaf))
theorem DTakeSpace_eq(d:Option Addr)(space:Int)(first:Int)(R:aD)(w:World):mN d space first R w=vcF prog aK [7,18,22,35] Tryz.f60 uH [(.pointer d),(.int .i64 space),(.int .i64 first)] R none w:=by kernel_rfl
theorem py(d:Option Addr)(space:Int)(first:Int) {R:aD} {w:World}(h:mN d space first R w):Calls prog 60 #[(.pointer d),(.int .i64 space),(.int .i64 first)] w fun e w'=>∃v,e= .returned v∧R v w':=
 ak Tryz.func60 aw aa ((DTakeSpace_eq d space first R w).mp h)
end
section
set_option maxRecDepth 100000
def vE(cV:Int)(insecure:Int)(R:aD)(w:World):Prop:=
 ∃J:Bool→World→Prop,(
  split (decide ((cV:Int)<1)) (
   J true w) (
   split (decide ((cV:Int)>64)) (
    J true w) (
    split (decide ((insecure:Int)<1)) (
     J true w) (
     J (decide ((insecure:Int)>64)) w))))∧∀(PO:Nat→Value)(PB:Bool),∀wv,J PB wv→
 split PB (
  R (.tuple #[(.pointer none),(.int .i64 1)]) wv) (
  ∀(NB:Nat)(Nw:World),NB=wv.heap.size→Nw=wv.alloc (.cells #[(.slice none 0 0),(.int .i64 cV),(.int .i64 0)] 151)→
  ∀i:Int,i=0→
  ∃I:Nat→Int→World→Prop,(∃m,I m i Nw)∧∀(m:Nat)(OW:Nat→Value)(i1:Int),∀Ny,I m i1 Ny→
  split (decide ((i1:Int)<(i64.wrap (cV+insecure)))) (
   ∃Q6:Option Addr,∃Q4:Nat,∃Q5:Nat,Ny.cell? ((Addr.mk NB 0 none).add 0)=some (.slice Q6 Q4 Q5)∧
   ∀(Oa:Nat)(NF:World),Oa=Ny.heap.size→NF=Ny.alloc (.cells #[(.slice none 0 0)] 62)→
   ∃Ry:Option Addr,∃Rx:Nat,∃R6:Nat,∃NI,(Builtin.append_ #[149,149] 149 #[(.slice Q6 Q4 Q5),(.slice (some (Addr.mk Oa 0 none)) 1 1)]:Sem Value).run prog NF= .ok (.slice Ry Rx R6) NI∧
   aA NI ((Addr.mk NB 0 none).add 0) [(.slice Ry Rx R6)] fun NW=>
   ∀i2:Int,i2=(i64.wrap (i1+1))→
   ∃m1,m1<m∧I m1 i2 NW) (
   R (.tuple #[(.pointer (some (Addr.mk NB 0 none))),(.int .i64 0)]) Ny))
def Fy:Ann:=(.node none .leaf (.node none (.node none (.node (some ⟨[(21,.one (.bool))],[8,9,10,11,12,13,14,15,16,17,18,19,20,21]⟩) .leaf .leaf) .leaf) (.node none .leaf (.node none (.node none .leaf (.node none (.node (some ⟨[(7,.one (.int .i64))],[7,25,26,27,28,29,30,31,32,33,34,35,36,37,38,39,40]⟩) .leaf .leaf) .leaf)) .leaf))))
theorem R07New_eq(cV:Int)(insecure:Int)(R:aD)(w:World):vE cV insecure R w=vcF prog aK [7] Tryz.f28 Fy [(.int .i64 cV),(.int .i64 insecure)] R none w:=by kernel_rfl
theorem ot(cV:Int)(insecure:Int) {R:aD} {w:World}(h:vE cV insecure R w):Calls prog 28 #[(.int .i64 cV),(.int .i64 insecure)] w fun e w'=>∃v,e= .returned v∧R v w':=
 ak Tryz.func28 aw aa ((R07New_eq cV insecure R w).mp h)
def qc(m:Option Addr)(fa:Bool)(fb:Int)(R:aD)(w:World):Prop:=
 ∀(gv:Nat)(wv:World),gv=w.heap.size→wv=w.alloc (.cells #[(.bool fa),(.int .i64 fb)] 103)→
 ∃x6:Int,wv.cell? ((Addr.mk gv 0 none).add 1)=some (.int .i64 x6)∧
 split (decide ((x6:Int)<0)) (
  R (.int .i64 (-1)) wv) (
  ∃x9:Bool,wv.cell? ((Addr.mk gv 0 none).add 0)=some (.bool x9)∧
  split x9 (
   ∃Pg:Int,wv.drew.cell? ((Addr.mk gv 0 none).add 1)=some (.int .i64 Pg)∧
   au m fun VC=>
   ∃PQ:Int,wv.drew.cell? (VC.add 1)=some (.int .i64 PQ)∧
   split (decide ((Pg:Int)<PQ)) (
    ∃RX:Int,wv.drew.cell? ((Addr.mk gv 0 none).add 1)=some (.int .i64 RX)∧
    R (.int .i64 RX) wv.drew) (
    R (.int .i64 (-1)) wv.drew)) (
   ∃ON:Int,wv.drew.cell? ((Addr.mk gv 0 none).add 1)=some (.int .i64 ON)∧
   au m fun UB=>
   ∃Ql:Option Addr,∃P9:Nat,∃Qk:Nat,wv.drew.cell? (UB.add 0)=some (.slice Ql P9 Qk)∧
   au m fun U7=>
   ∃QO:Int,wv.drew.cell? (U7.add 1)=some (.int .i64 QO)∧
   split (decide ((ON:Int)<(i64.wrap (((P9:Nat):Int) - QO)))) (
    au m fun p33=>
    ∃P8:Int,wv.drew.drew.cell? (p33.add 1)=some (.int .i64 P8)∧
    ∃Rz:Int,wv.drew.drew.cell? ((Addr.mk gv 0 none).add 1)=some (.int .i64 Rz)∧
    R (.int .i64 (i64.wrap (P8+Rz))) wv.drew.drew) (
    R (.int .i64 (-1)) wv.drew)))
def zO:Ann:= .leaf
theorem R07Place_eq(m:Option Addr)(fa:Bool)(fb:Int)(R:aD)(w:World):qc m fa fb R w=vcF prog aK [] Tryz.f118 zO [(.pointer m),(.agg #[(.bool fa),(.int .i64 fb)])] R none w:=by kernel_rfl
theorem tn(m:Option Addr)(fa:Bool)(fb:Int) {R:aD} {w:World}(h:qc m fa fb R w):Calls prog 118 #[(.pointer m),(.agg #[(.bool fa),(.int .i64 fb)])] w fun e w'=>∃v,e= .returned v∧R v w':=
 ak Tryz.func118 aw aa ((R07Place_eq m fa fb R w).mp h)
def tp(m:Option Addr)(fa:Bool)(fb:Int)(off:Int)(R:aD)(w:World):Prop:=
 ∀(gv:Nat)(wv:World),gv=w.heap.size→wv=w.alloc (.cells #[(.bool fa),(.int .i64 fb)] 103)→
 ∃Sz:Bool,∃Sy:Int,(wv.cell? ((Addr.mk gv 0 none).add 0)=some (.bool Sz)∧wv.cell? ((Addr.mk gv 0 none).add 1)=some (.int .i64 Sy))∧
 Calls prog 118 #[(.pointer m),(.agg #[(.bool Sz),(.int .i64 Sy)])] wv fun e Nw=>
 ∃OH:Int,e= .returned (.int .i64 OH)∧
 ∃J:Bool→World→Prop,(
  split (decide ((OH:Int)<0)) (
   J true Nw) (
   split (decide ((off:Int)<0)) (
    J true Nw) (
    split (decide ((off:Int)≥1024)) (
     J true Nw) (
     au m fun SF=>
     ∃Q8:Option Addr,∃R8:Nat,∃SX:Nat,Nw.cell? (SF.add 0)=some (.slice Q8 R8 SX)∧
     (0≤(OH:Int)∧(OH:Int)<((R8:Nat):Int))∧
     au Q8 fun U7=>
     ∃PN:Option Addr,∃PI:Nat,∃PW:Nat,Nw.cell? (U7.add (Int.toNat OH*1))=some (.slice PN PI PW)∧
     J ((((PI:Nat):Int):Int)==0) Nw))))∧∀(Oi:Nat→Value)(QU:Bool),∀Ny,J QU Ny→
 split QU (
  R (.int .u32 0) Ny) (
  au m fun p33=>
  ∃T4:Option Addr,∃TZ:Nat,∃Vq:Nat,Ny.cell? (p33.add 0)=some (.slice T4 TZ Vq)∧
  (0≤(OH:Int)∧(OH:Int)<((TZ:Nat):Int))∧
  au T4 fun p37=>
  ∃Ry:Option Addr,∃Rx:Nat,∃R6:Nat,Ny.cell? (p37.add (Int.toNat OH*1))=some (.slice Ry Rx R6)∧
  (0≤(off:Int)∧(off:Int)<((Rx:Nat):Int))∧
  au Ry fun p40=>
  ∃x41:Int,Ny.cell? (p40.add (Int.toNat off*1))=some (.int .u32 x41)∧
  R (.int .u32 x41) Ny)
def Cp:Ann:=(.node none .leaf (.node none .leaf (.node none (.node none (.node (some ⟨[(31,.one (.bool))],[11,12,13,14,15,16,17,18,19,20,21,22,23,24,25,26,27,28,29,30,31]⟩) .leaf .leaf) .leaf) .leaf)))
theorem R07Peek_eq(m:Option Addr)(fa:Bool)(fb:Int)(off:Int)(R:aD)(w:World):tp m fa fb off R w=vcF prog aK [] Tryz.f56 Cp [(.pointer m),(.agg #[(.bool fa),(.int .i64 fb)]),(.int .i64 off)] R none w:=by kernel_rfl
theorem uu(m:Option Addr)(fa:Bool)(fb:Int)(off:Int) {R:aD} {w:World}(h:tp m fa fb off R w):Calls prog 56 #[(.pointer m),(.agg #[(.bool fa),(.int .i64 fb)]),(.int .i64 off)] w fun e w'=>∃v,e= .returned v∧R v w':=
 ak Tryz.func56 aw aa ((R07Peek_eq m fa fb off R w).mp h)
def tj(m:Option Addr)(fa:Bool)(fb:Int)(R:aD)(w:World):Prop:=
 ∀(gv:Nat)(wv:World),gv=w.heap.size→wv=w.alloc (.cells #[(.bool fa),(.int .i64 fb)] 103)→
 ∃x7a:Bool,∃x7b:Int,(wv.cell? ((Addr.mk gv 0 none).add 0)=some (.bool x7a)∧wv.cell? ((Addr.mk gv 0 none).add 1)=some (.int .i64 x7b))∧
 Calls prog 118 #[(.pointer m),(.agg #[(.bool x7a),(.int .i64 x7b)])] wv fun e Nw=>
 ∃x8:Int,e= .returned (.int .i64 x8)∧
 split (decide ((x8:Int)<0)) (
  R (.int .i64 5) Nw) (
  au m fun VC=>
  ∃PQ:Int,Nw.cell? (VC.add 2)=some (.int .i64 PQ)∧
  au m fun p17=>
  aA Nw (p17.add 2) [(.int .i64 (i64.wrap (PQ+1024)))] fun Ny=>
  au m fun p20=>
  ∃RE:Option Addr,∃RD:Nat,∃R9:Nat,Ny.cell? (p20.add 0)=some (.slice RE RD R9)∧
  (0≤(x8:Int)∧(x8:Int)<((RD:Nat):Int))∧
  au RE fun p24=>
  aA Ny (p24.add (Int.toNat x8*1)) [(.slice none 0 0)] fun NF=>
  R (.int .i64 0) NF)
def Co:Ann:= .leaf
theorem R07Zero_eq(m:Option Addr)(fa:Bool)(fb:Int)(R:aD)(w:World):tj m fa fb R w=vcF prog aK [] Tryz.f80 Co [(.pointer m),(.agg #[(.bool fa),(.int .i64 fb)])] R none w:=by kernel_rfl
theorem ur(m:Option Addr)(fa:Bool)(fb:Int) {R:aD} {w:World}(h:tj m fa fb R w):Calls prog 80 #[(.pointer m),(.agg #[(.bool fa),(.int .i64 fb)])] w fun e w'=>∃v,e= .returned v∧R v w':=
 ak Tryz.func80 aw aa ((R07Zero_eq m fa fb R w).mp h)
def oq(m:Option Addr)(R:aD)(w:World):Prop:=
 au m fun p4=>
 ∃x6:Int,w.cell? (p4.add 1)=some (.int .i64 x6)∧
 R (.int .i64 x6) w
def wZ:Ann:= .leaf
theorem R07Secure_eq(m:Option Addr)(R:aD)(w:World):oq m R w=vcF prog aK [] Tryz.f79 wZ [(.pointer m)] R none w:=by kernel_rfl
theorem qw(m:Option Addr) {R:aD} {w:World}(h:oq m R w):Calls prog 79 #[(.pointer m)] w fun e w'=>∃v,e= .returned v∧R v w':=
 ak Tryz.func79 aw aa ((R07Secure_eq m R w).mp h)
def lO(m:Option Addr)(R:aD)(w:World):Prop:=
 au m fun p4=>
 ∃SA:Option Addr,∃Q1:Nat,∃SR:Nat,w.drew.cell? (p4.add 0)=some (.slice SA Q1 SR)∧
 au m fun p9=>
 ∃Pg:Int,w.drew.cell? (p9.add 1)=some (.int .i64 Pg)∧
 R (.int .i64 (i64.wrap (((Q1:Nat):Int) - Pg))) w.drew
def tr:Ann:= .leaf
theorem R07Insecure_eq(m:Option Addr)(R:aD)(w:World):lO m R w=vcF prog aK [] Tryz.f109 tr [(.pointer m)] R none w:=by kernel_rfl
theorem ou(m:Option Addr) {R:aD} {w:World}(h:lO m R w):Calls prog 109 #[(.pointer m)] w fun e w'=>∃v,e= .returned v∧R v w':=
 ak Tryz.func109 aw aa ((R07Insecure_eq m R w).mp h)
def qa(m:Option Addr)(fa:Bool)(fb:Int)(off:Int)(v:Int)(R:aD)(w:World):Prop:=
 ∀(gv:Nat)(wv:World),gv=w.heap.size→wv=w.alloc (.cells #[(.bool fa),(.int .i64 fb)] 103)→
 ∃RK:Bool,∃Sc:Int,(wv.cell? ((Addr.mk gv 0 none).add 0)=some (.bool RK)∧wv.cell? ((Addr.mk gv 0 none).add 1)=some (.int .i64 Sc))∧
 Calls prog 118 #[(.pointer m),(.agg #[(.bool RK),(.int .i64 Sc)])] wv fun e Nw=>
 ∃OX:Int,e= .returned (.int .i64 OX)∧
 split (decide ((OX:Int)<0)) (
  R (.int .i64 5) Nw) (
  ∃J:Bool→World→Prop,(
   split (decide ((off:Int)<0)) (
    J true Nw) (
    J (decide ((off:Int)≥1024)) Nw))∧∀(Oi:Nat→Value)(ON:Bool),∀Ny,J ON Ny→
  split ON (
   R (.int .i64 70) Ny) (
   au m fun UB=>
   ∃Qh:Int,Ny.cell? (UB.add 2)=some (.int .i64 Qh)∧
   au m fun Sf=>
   aA Ny (Sf.add 2) [(.int .i64 (i64.wrap (Qh+1)))] fun NF=>
   au m fun SE=>
   ∃aak:Option Addr,∃aaj:Nat,∃adn:Nat,NF.cell? (SE.add 0)=some (.slice aak aaj adn)∧
   (0≤(OX:Int)∧(OX:Int)<((aaj:Nat):Int))∧
   au aak fun p33=>
   ∃WK:Option Addr,∃Q7:Nat,∃WJ:Nat,NF.cell? (p33.add (Int.toNat OX*1))=some (.slice WK Q7 WJ)∧
   split ((((Q7:Nat):Int):Int)==0) (
    ∃b:Nat→Nat→Prop,
    au m fun p38=>
    b 3 ((p38.add 0).block)∧
    ∃ZV:Option Addr,∃ZU:Nat,∃ada:Nat,NF.drew.cell? (p38.add 0)=some (.slice ZV ZU ada)∧
    ∃ZI:Option Addr,∃ZG:Nat,∃ZH:Nat,∃NI,(Instr.makeSlice 62 (.int .i64 1024) (.int .i64 1024):Sem Value).run prog NF.drew= .ok (.slice ZI ZG ZH) NI∧
    Kept (bE b [0,1,2,3,4]) NF.drew NI∧∃b1:Nat→Nat→Prop,(∀i k,b i k→b1 i k)∧
    (0≤(OX:Int)∧(OX:Int)<((ZU:Nat):Int))∧
    au ZV fun p43=>
    aA NI (p43.add (Int.toNat OX*1)) [(.slice ZI ZG ZH)] fun NW=>
    ∃b2:Nat→Nat→Prop,(∀i k,b1 i k→b2 i k)∧
    au m fun p45=>
    ∃TN:Option Addr,∃TM:Nat,∃WH:Nat,NW.cell? (p45.add 0)=some (.slice TN TM WH)∧
    (0≤(OX:Int)∧(OX:Int)<((TM:Nat):Int))∧
    au TN fun p49=>
    ∃Qv:Option Addr,∃PH:Nat,∃Q2:Nat,NW.cell? (p49.add (Int.toNat OX*1))=some (.slice Qv PH Q2)∧
    (0≤(off:Int)∧(off:Int)<((PH:Nat):Int))∧
    au Qv fun WU=>
    aA NW (WU.add (Int.toNat off*1)) [(.int .u32 v)] fun NT=>
    R (.int .i64 0) NT) (
    au m fun p45=>
    ∃TN:Option Addr,∃TM:Nat,∃WH:Nat,NF.cell? (p45.add 0)=some (.slice TN TM WH)∧
    (0≤(OX:Int)∧(OX:Int)<((TM:Nat):Int))∧
    au TN fun p49=>
    ∃Qv:Option Addr,∃PH:Nat,∃Q2:Nat,NF.cell? (p49.add (Int.toNat OX*1))=some (.slice Qv PH Q2)∧
    (0≤(off:Int)∧(off:Int)<((PH:Nat):Int))∧
    au Qv fun WU=>
    aA NF (WU.add (Int.toNat off*1)) [(.int .u32 v)] fun NI=>
    R (.int .i64 0) NI)))
def zL:Ann:=(.node none .leaf (.node none .leaf (.node none .leaf (.node none (.node none (.node (some ⟨[(20,.one (.bool))],[15,16,17,18,19,20]⟩) .leaf .leaf) .leaf) .leaf))))
theorem R07Write_eq(m:Option Addr)(fa:Bool)(fb:Int)(off:Int)(v:Int)(R:aD)(w:World):qa m fa fb off v R w=vcF prog aK [] Tryz.f47 zL [(.pointer m),(.agg #[(.bool fa),(.int .i64 fb)]),(.int .i64 off),(.int .u32 v)] R none w:=by kernel_rfl
theorem tk(m:Option Addr)(fa:Bool)(fb:Int)(off:Int)(v:Int) {R:aD} {w:World}(h:qa m fa fb off v R w):Calls prog 47 #[(.pointer m),(.agg #[(.bool fa),(.int .i64 fb)]),(.int .i64 off),(.int .u32 v)] w fun e w'=>∃v,e= .returned v∧R v w':=
 ak Tryz.func47 aw aa ((R07Write_eq m fa fb off v R w).mp h)
def qb(m:Option Addr)(p:Int)(R:aD)(w:World):Prop:=
 ∃Tp:Option Addr,∃SQ:Nat,∃U2:Nat,∃wv,(Instr.makeSlice 62 (.int .i64 1024) (.int .i64 1024):Sem Value).run prog w= .ok (.slice Tp SQ U2) wv∧
 ∀i:Int,i=0→
 ∃I:Nat→Int→World→Prop,(∃m1,I m1 i wv)∧∀(m1:Nat)(PO:Nat→Value)(i1:Int),∀Nw,I m1 i1 Nw→
 au m fun XO=>
 ∃Uw:Option Addr,∃Uv:Nat,∃Vy:Nat,Nw.cell? (XO.add 0)=some (.slice Uw Uv Vy)∧
 (0≤(p:Int)∧(p:Int)<((Uv:Nat):Int))∧
 au Uw fun SG=>
 ∃Vx:Option Addr,∃SY:Nat,∃WO:Nat,Nw.cell? (SG.add (Int.toNat p*1))=some (.slice Vx SY WO)∧
 split (decide ((i1:Int)<((SY:Nat):Int))) (
  au m fun SF=>
  ∃Q8:Option Addr,∃R8:Nat,∃SX:Nat,Nw.cell? (SF.add 0)=some (.slice Q8 R8 SX)∧
  (0≤(p:Int)∧(p:Int)<((R8:Nat):Int))∧
  au Q8 fun U7=>
  ∃PN:Option Addr,∃PI:Nat,∃PW:Nat,Nw.cell? (U7.add (Int.toNat p*1))=some (.slice PN PI PW)∧
  (0≤(i1:Int)∧(i1:Int)<((PI:Nat):Int))∧
  au PN fun XN=>
  ∃QU:Int,Nw.cell? (XN.add (Int.toNat i1*1))=some (.int .u32 QU)∧
  (0≤(i1:Int)∧(i1:Int)<((SQ:Nat):Int))∧
  au Tp fun XM=>
  aA Nw (XM.add (Int.toNat i1*1)) [(.int .u32 QU)] fun Ny=>
  ∀i2:Int,i2=(i64.wrap (i1+1))→
  ∃m2,m2<m1∧I m2 i2 Ny) (
  R (.slice Tp SQ U2) Nw)
def zM:Ann:=(.node none .leaf (.node none .leaf (.node none (.node none .leaf (.node none (.node (some ⟨[(6,.one (.int .i64))],[6,8,9,10,11,12,13,14,15,16,17,18,19,20,21,22,23,24,25,26,27,28,29,30,31,32]⟩) .leaf .leaf) .leaf)) .leaf)))
theorem R07Whole_eq(m:Option Addr)(p:Int)(R:aD)(w:World):qb m p R w=vcF prog aK [6] Tryz.f167 zM [(.pointer m),(.int .i64 p)] R none w:=by kernel_rfl
theorem tl(m:Option Addr)(p:Int) {R:aD} {w:World}(h:qb m p R w):Calls prog 167 #[(.pointer m),(.int .i64 p)] w fun e w'=>∃v,e= .returned v∧R v w':=
 ak Tryz.func167 aw aa ((R07Whole_eq m p R w).mp h)
def ts(m:Option Addr)(toa:Bool)(tob:Int)(froma:Bool)(fromb:Int)(R:aD)(w:World):Prop:=
 ∀(gv:Nat)(wv:World),gv=w.heap.size→wv=w.alloc (.cells #[(.bool toa),(.int .i64 tob)] 103)→
 ∀(NB:Nat)(Nw:World),NB=wv.heap.size→Nw=wv.alloc (.cells #[(.bool froma),(.int .i64 fromb)] 103)→
 ∃Qa:Bool,∃PC:Int,(Nw.cell? ((Addr.mk gv 0 none).add 0)=some (.bool Qa)∧Nw.cell? ((Addr.mk gv 0 none).add 1)=some (.int .i64 PC))∧
 Calls prog 118 #[(.pointer m),(.agg #[(.bool Qa),(.int .i64 PC)])] Nw fun e Ny=>
 ∃Pg:Int,e= .returned (.int .i64 Pg)∧
 ∃Pf:Bool,∃Pq:Int,(Ny.cell? ((Addr.mk NB 0 none).add 0)=some (.bool Pf)∧Ny.cell? ((Addr.mk NB 0 none).add 1)=some (.int .i64 Pq))∧
 Calls prog 118 #[(.pointer m),(.agg #[(.bool Pf),(.int .i64 Pq)])] Ny fun e NF=>
 ∃P6:Int,e= .returned (.int .i64 P6)∧
 ∃J:Bool→World→Prop,(
  split (decide ((Pg:Int)<0)) (
   J true NF) (
   J (decide ((P6:Int)<0)) NF))∧∀(OW:Nat→Value)(ON:Bool),∀NI,J ON NI→
 split ON (
  R (.int .i64 5) NI) (
  au m fun SF=>
  ∃PJ:Int,NI.cell? (SF.add 2)=some (.int .i64 PJ)∧
  au m fun U7=>
  aA NI (U7.add 2) [(.int .i64 (i64.wrap (PJ+2048)))] fun NW=>
  ∃b:Nat→Nat→Prop,
  au m fun XN=>
  b 3 ((XN.add 0).block)∧
  ∃aah:Option Addr,∃aag:Nat,∃adi:Nat,NW.drew.cell? (XN.add 0)=some (.slice aah aag adi)∧
  Calls prog 167 #[(.pointer m),(.int .i64 P6)] NW.drew fun e NT=>
  ∃Q6:Option Addr,∃Q4:Nat,∃Q5:Nat,e= .returned (.slice Q6 Q4 Q5)∧
  Kept (bE b [0,1,2,3,4]) NW.drew NT∧∃b1:Nat→Nat→Prop,(∀i k,b i k→b1 i k)∧
  (0≤(Pg:Int)∧(Pg:Int)<((aag:Nat):Int))∧
  au aah fun p37=>
  aA NT (p37.add (Int.toNat Pg*1)) [(.slice Q6 Q4 Q5)] fun NU=>
  ∃b2:Nat→Nat→Prop,(∀i k,b1 i k→b2 i k)∧
  R (.int .i64 0) NU)
def Cr:Ann:=(.node none .leaf (.node none .leaf (.node none .leaf (.node none (.node none (.node (some ⟨[(20,.one (.bool))],[15,16,17,18,19,20]⟩) .leaf .leaf) .leaf) .leaf))))
theorem R07Copy_eq(m:Option Addr)(toa:Bool)(tob:Int)(froma:Bool)(fromb:Int)(R:aD)(w:World):ts m toa tob froma fromb R w=vcF prog aK [] Tryz.f111 Cr [(.pointer m),(.agg #[(.bool toa),(.int .i64 tob)]),(.agg #[(.bool froma),(.int .i64 fromb)])] R none w:=by kernel_rfl
theorem uw(m:Option Addr)(toa:Bool)(tob:Int)(froma:Bool)(fromb:Int) {R:aD} {w:World}(h:ts m toa tob froma fromb R w):Calls prog 111 #[(.pointer m),(.agg #[(.bool toa),(.int .i64 tob)]),(.agg #[(.bool froma),(.int .i64 fromb)])] w fun e w'=>∃v,e= .returned v∧R v w':=
 ak Tryz.func111 aw aa ((R07Copy_eq m toa tob froma fromb R w).mp h)
def tq(m:Option Addr)(fa:Bool)(fb:Int)(R:aD)(w:World):Prop:=
 ∀(gv:Nat)(wv:World),gv=w.heap.size→wv=w.alloc (.cells #[(.bool fa),(.int .i64 fb)] 103)→
 ∃x8a:Bool,∃x8b:Int,(wv.cell? ((Addr.mk gv 0 none).add 0)=some (.bool x8a)∧wv.cell? ((Addr.mk gv 0 none).add 1)=some (.int .i64 x8b))∧
 Calls prog 118 #[(.pointer m),(.agg #[(.bool x8a),(.int .i64 x8b)])] wv fun e Nw=>
 ∃x9:Int,e= .returned (.int .i64 x9)∧
 split (decide ((x9:Int)<0)) (
  R (.tuple #[(.slice none 0 0),(.int .i64 5)]) Nw) (
  au m fun SG=>
  ∃OJ:Int,Nw.cell? (SG.add 2)=some (.int .i64 OJ)∧
  au m fun Va=>
  aA Nw (Va.add 2) [(.int .i64 (i64.wrap (OJ+1024)))] fun Ny=>
  Calls prog 167 #[(.pointer m),(.int .i64 x9)] Ny fun e NF=>
  ∃RE:Option Addr,∃RD:Nat,∃R9:Nat,e= .returned (.slice RE RD R9)∧
  R (.tuple #[(.slice RE RD R9),(.int .i64 0)]) NF)
def Cq:Ann:= .leaf
theorem R07Page_eq(m:Option Addr)(fa:Bool)(fb:Int)(R:aD)(w:World):tq m fa fb R w=vcF prog aK [] Tryz.f113 Cq [(.pointer m),(.agg #[(.bool fa),(.int .i64 fb)])] R none w:=by kernel_rfl
theorem uv(m:Option Addr)(fa:Bool)(fb:Int) {R:aD} {w:World}(h:tq m fa fb R w):Calls prog 113 #[(.pointer m),(.agg #[(.bool fa),(.int .i64 fb)])] w fun e w'=>∃v,e= .returned v∧R v w':=
 ak Tryz.func113 aw aa ((R07Page_eq m fa fb R w).mp h)
end
end Go.Proofs.YtinhphjfnedhgaaGreatDoor
namespace Go.Proofs.YtinhphjfnedhgaaGreatDoor
open Go.Proofs.Tryz (prog)
open Go Go.RowKit V
open Go.IntKind (i64 u32 u64)
section
namespace Mem
def idx(m:Mem)(s:Bool)(p:Nat):Nat:=match s with
 | true=>p
 | false=>m.S+p
def word(m:Mem)(i o:Nat):Int:=if i<m.S then m.pg true i o else m.pg false (i - m.S) o
def place(m:Mem)(s:Bool)(p:Int):Int:=if m.has s p then(m.idx s p.toNat:Int)else -1
theorem Dy(m:Mem)(p:Nat):m.idx false p=m.S+p:=rfl
theorem Dx(m:Mem)(p:Nat):m.idx true p=p:=rfl
theorem MT(m:Mem):m.cnt false=m.I:=rfl
theorem KW(m:Mem):m.cnt true=m.S:=rfl
theorem vV(m:Mem) {i:Nat}(h:i<m.S)(o:Nat):m.word i o=m.pg true i o:=if_pos h
theorem vW(m:Mem) {i:Nat}(h:¬i<m.S)(o:Nat):m.word i o=m.pg false (i - m.S) o:=if_neg h
theorem jN(m:Mem) {s:Bool} {p:Nat}(hp:p<m.cnt s)(o:Nat):m.word (m.idx s p) o=m.pg s p o:=by
 cases s
 ·rw [Dy,vW m (by omega),show m.S+p - m.S=p by omega]
 ·rw [Dx,vV m hp]
theorem oX(m:Mem) {s:Bool} {p:Nat}(hp:p<m.cnt s):m.idx s p<m.S+m.I:=by
 cases s
 ·rw [MT]at hp;rw [Dy];omega
 ·rw [KW]at hp;rw [Dx];omega
theorem l9(m:Mem) {s:Bool} {p:Nat}(hp:p<m.cnt s)(f:Nat→Int) {i:Nat}(o:Nat):(m.fill s p f).word i o=if i=m.idx s p then f o else m.word i o:=by
 by_cases h:i<m.S
 ·rw [vV _ (show i<(m.fill s p f).S from h),vV m h]
  cases s
  ·rw [Dy,if_neg (by omega)];simp [fill]
  ·rw [Dx];simp [fill]
 ·rw [vW _ (show ¬i<(m.fill s p f).S from h),vW m h]
  show(m.fill s p f).pg false (i - m.S) o=_
  cases s
  ·rw [Dy]
   by_cases h2:i=m.S+p
   ·rw [if_pos h2];simp [fill,h2]
   ·rw [if_neg h2];simp only [fill];rw [if_neg (by rintro⟨_,h3⟩;omega)]
  ·rw [Dx,if_neg (by rw [KW]at hp;omega)];simp [fill]
end Mem
structure fL where
 g:Nat
 a:Nat
 c:Nat
 n:Nat
 pg:Nat→Option (Nat×Nat)
def Jp:Option (Nat×Nat)→Value
 | none=>.slice none 0 0
 | some (b,c)=>.slice (some (Addr.mk b 0 none)) 1024 c
def fL.X(L:fL):Nat→Prop:=fun k=>k=L.g∨k=L.a∨∃i c,i<L.n∧L.pg i=some (k,c)
def PgB(w:World)(b:Nat)(f:Nat→Int):Prop:=∃T cs,Blk w b cs T∧1024≤cs.size∧∀o,o<1024→cs[o]? =some (.int .u32 (f o))
structure bU(w:World)(g:Nat)(L:fL)(m:Mem):Prop where
 gq:L.g=g
 n:L.n=m.S+m.I
 hd:∃T:TypeId×Int,Blk w L.g #[.slice (some (Addr.mk L.a 0 none)) L.n L.c,.int .i64 m.S,.int .i64 T.2] T.1
 row:∃T cs,Blk w L.a cs T∧L.n≤cs.size∧∀i,i<L.n→cs[i]? =some (Jp (L.pg i))
 nil:∀i,i<L.n→L.pg i=none→∀o,m.word i o=0
 pgs:∀i b c,i<L.n→L.pg i=some (b,c)→PgB w b (m.word i)
 inj:∀i j b c c',i<L.n→j<L.n→L.pg i=some (b,c)→L.pg j=some (b,c')→i=j
 dis:L.a≠L.g∧∀i b c,i<L.n→L.pg i=some (b,c)→b≠L.g∧b≠L.a
 u32:∀s i o,0≤m.pg s i o∧m.pg s i o<4294967296
 er:m.S≤64∧m.I≤64
section
variable {w w' w2:World} {g:Nat} {L:fL} {m:Mem} {Y:Nat→Prop}
theorem PgB.lt {b:Nat} {f:Nat→Int}(h:PgB w b f):b<w.heap.size:=by obtain⟨T,cs,hb,_⟩:=h;exact hb.lt
theorem PgB.ch {b:Nat} {f:Nat→Int}(h:PgB w b f)(hk:Ch Y w w')(hb:¬Y b):PgB w' b f:=by obtain⟨T,cs,hc,h2⟩:=h;exact⟨T,cs,hk.blk hc hb,h2⟩
theorem bU.lt(h:bU w g L m):∀k,L.X k→k<w.heap.size:=by
 rintro k (rfl | rfl | ⟨i,c,hi,hp⟩)
 ·obtain⟨T,hd⟩:=h.hd;exact hd.lt
 ·obtain⟨T,cs,hr,_⟩:=h.row;exact hr.lt
 ·exact(h.pgs i k c hi hp).lt
theorem bU.ch(h:bU w g L m)(hk:Ch Y w w')(hb:∀k,L.X k→¬Y k):bU w' g L m:=by
 refine⟨h.gq,h.n,?_,?_,h.nil,fun i b c hi hp=>(h.pgs i b c hi hp).ch hk (hb _ (.inr (.inr ⟨i,c,hi,hp⟩))),h.inj,h.dis,h.u32,h.er⟩
 ·obtain⟨T,hd⟩:=h.hd;exact⟨T,hk.blk hd (hb _ (.inl rfl))⟩
 ·obtain⟨T,cs,hr,h2⟩:=h.row;exact⟨T,cs,hk.blk hr (hb _ (.inr (.inl rfl))),h2⟩
theorem bU.pu(h:bU w g L m)(hk:Pu w w'):bU w' g L m:=h.ch hk (by simp)
theorem bU.tick(h:bU w g L m) {x:Int} {T:TypeId}(hs:bF w L.g #[.slice (some (Addr.mk L.a 0 none)) L.n L.c,.int .i64 m.S,.int .i64 x] T w2):bU w2 g L m:=by
 refine⟨h.gq,h.n,⟨(T,x),hs.blk⟩,?_,h.nil,fun i b c hi hp=>(h.pgs i b c hi hp).ch hs.ch (h.dis.2 i b c hi hp).1,h.inj,h.dis,h.u32,h.er⟩
 obtain⟨T',cs,hr,h2⟩:=h.row
 exact⟨T',cs,hs.old hr h.dis.1,h2⟩
def fL.put(L:fL)(i:Nat)(v:Option (Nat×Nat)):fL:= {L with pg:=fun j=>if j=i then v else L.pg j}
theorem fL.HX {L:fL} {i:Nat} {v:Option (Nat×Nat)} {k:Nat}(h:(L.put i v).X k):L.X k∨∃c,v=some (k,c):=by
 rcases h with h | h | ⟨j,c,hj,hp⟩
 ·exact .inl (.inl h)
 ·exact .inl (.inr (.inl h))
 ·simp only [fL.put]at hp
  split at hp
  ·exact .inr ⟨c,hp⟩
  ·exact .inl (.inr (.inr ⟨j,c,hj,hp⟩))
theorem bU.lay(h:bU w g L m) {s:Bool} {p:Nat}(hp:p<m.cnt s) {v:Option (Nat×Nat)} {f:Nat→Int}(hf:∀o,0≤f o∧f o<4294967296)
 (hv:v=none→∀o,f o=0)(hb:∀b c,v=some (b,c)→PgB w b f∧¬L.X b) {cs:Array Value} {T:TypeId}(hr:Blk w L.a cs T)(hs:bF w L.a (setAt cs (m.idx s p) [Jp v]) T w2):
 bU w2 g (L.put (m.idx s p) v) (m.fill s p f):=by
 have hi:=m.oX hp
 obtain⟨T',cs',Oh,On,h2⟩:=h.row
 obtain⟨rfl,rfl⟩:=hr.inj Oh
 have hn:=h.n
 refine⟨h.gq,h.n,?_,⟨T,_,hs.blk,by rw [fH];exact On,fun i OI=>?_⟩,fun i OI hq o=>?_,fun i b c OI hq=>?_,fun i j b c c' OI QS h3 h4=>?_,⟨h.dis.1,fun i b c OI hq=>?_⟩,fun s' i o=>?_,h.er⟩
 ·obtain⟨T'',hd⟩:=h.hd;exact⟨T'',hs.old hd h.dis.1.symm⟩
 ·rw [eZ _ _ _ _ (by simp;omega)]
  simp only [fL.put,List.length_cons,List.length_nil]
  by_cases e:i=m.idx s p
  ·subst e;simp
  ·rw [if_neg (by omega),if_neg e];exact h2 i OI
 ·rw [m.l9 hp]
  simp only [fL.put]at hq
  split at hq
  ·rename_i e;rw [if_pos e];exact hv hq o
  ·rename_i e;rw [if_neg e];exact h.nil i OI hq o
 ·have e0:(m.fill s p f).word i=if i=m.idx s p then f else m.word i:=by
   funext o;rw [m.l9 hp];split<;>rfl
  rw [e0]
  simp only [fL.put]at hq
  split at hq
  ·rename_i e;rw [if_pos e];exact(hb b c hq).1.ch hs.ch fun e2=>(hb b c hq).2 (.inr (.inl e2))
  ·rename_i e;rw [if_neg e];exact(h.pgs i b c OI hq).ch hs.ch (h.dis.2 i b c OI hq).2
 ·simp only [fL.put]at h3 h4
  split at h3<;>split at h4
  ·omega
  ·exact absurd (.inr (.inr ⟨j,c',QS,h4⟩)) (hb b c h3).2
  ·exact absurd (.inr (.inr ⟨i,c,OI,h3⟩)) (hb b c' h4).2
  ·exact h.inj i j b c c' OI QS h3 h4
 ·simp only [fL.put]at hq
  split at hq
  ·have:=(hb b c hq).2
   exact⟨fun e=>this (.inl e),fun e=>this (.inr (.inl e))⟩
  ·exact h.dis.2 i b c OI hq
 ·simp only [Mem.fill]
  split
  ·exact hf o
  ·exact h.u32 s' i o
theorem bU.Nc(h:bU w g L m) {s:Bool} {p:Nat}(hp:p<m.cnt s) {b c:Nat}(hb:L.pg (m.idx s p)=some (b,c)) {f:Nat→Int}(hf:∀o,0≤f o∧f o<4294967296) {cs:Array Value} {T:TypeId}(On:1024≤cs.size)(hc:∀o,o<1024→cs[o]? =some (.int .u32 (f o)))
 (hs:bF w b cs T w2):bU w2 g L (m.fill s p f):=by
 have hi:=m.oX hp
 have hn:=h.n
 have hd':=h.dis.2 _ b c (by omega) hb
 refine⟨h.gq,h.n,?_,?_,fun i OI hq o=>?_,fun i b' c' OI hq=>?_,h.inj,h.dis,fun s' i o=>?_,h.er⟩
 ·obtain⟨T'',hd⟩:=h.hd;exact⟨T'',hs.old hd hd'.1.symm⟩
 ·obtain⟨T',cs',hr,h2⟩:=h.row;exact⟨T',cs',hs.old hr hd'.2.symm,h2⟩
 ·rw [m.l9 hp]
  by_cases e:i=m.idx s p
  ·subst e;rw [hb]at hq;cases hq
  ·rw [if_neg e];exact h.nil i OI hq o
 ·have e0:(m.fill s p f).word i=if i=m.idx s p then f else m.word i:=by
   funext o;rw [m.l9 hp];split<;>rfl
  rw [e0]
  by_cases e:i=m.idx s p
  ·subst e
   rw [hb]at hq
   injection hq with hq
   injection hq with hq1 UN
   subst hq1
   rw [if_pos rfl];exact⟨T,cs,hs.blk,On,hc⟩
  ·rw [if_neg e]
   exact(h.pgs i b' c' OI hq).ch hs.ch fun e2=>e (h.inj i _ b' c' c OI (by omega) hq (e2▸hb))
 ·simp only [Mem.fill]
  split
  ·exact hf o
  ·exact h.u32 s' i o
end
end
section
set_option maxRecDepth 10000
set_option maxHeartbeats 1000000
theorem Ek {g:Nat} {L:fL} {m:Mem} {w:World}(h:bU w g L m):
 Calls prog 79 #[(.pointer (some (Addr.mk g 0 none)))] w fun e w'=>∃v,e= .returned v∧v= .int .i64 m.S∧w'=w:=by
 refine qw (some (Addr.mk g 0 none)) ?_
 obtain⟨_,dhd_h⟩:=(by have h9:=h.hd;rwa [h.gq]at h9:∃T:TypeId×Int,Blk _ _ #[_,_,.int .i64 T.2] T.1)
 refine ai _ rfl ⟨_,dhd_h.at rfl,?_⟩
 exact⟨rfl,rfl⟩
theorem yj {g:Nat} {L:fL} {m:Mem} {w:World}(h:bU w g L m):
 Calls prog 109 #[(.pointer (some (Addr.mk g 0 none)))] w fun e w'=>∃v,e= .returned v∧v= .int .i64 m.I∧Pu w w':=by
 refine ou (some (Addr.mk g 0 none)) ?_
 have h_0:=h
 have hp:=Ch.refl (fun _=>False) w
 have OL:=h.lt
 refine ai _ rfl ?_
 have h:=h.pu (Pu.aI _)
 obtain⟨_,dhd_h⟩:=(by have h9:=h.hd;rwa [h.gq]at h9:∃T:TypeId×Int,Blk _ _ #[_,_,.int .i64 T.2] T.1)
 refine⟨_,_,_,dhd_h.at rfl,ai _ rfl ⟨_,dhd_h.at rfl,?_⟩⟩
 have hp:=Ch.drew hp
 exact⟨congrArg (Value.int .i64) (by have h1:=h.n;have h2:=h.er;rw [aq (by omega)];omega),hp⟩
theorem jT {g:Nat} {L:fL} {m:Mem} {w:World}(h:bU w g L m)(fa:Bool)(fb:Int):
 Calls prog 118 #[(.pointer (some (Addr.mk g 0 none))),(.agg #[(.bool fa),(.int .i64 fb)])] w fun e w'=>∃v,e= .returned v∧v= .int .i64 (m.place fa fb)∧Pu w w':=by
 refine tn (some (Addr.mk g 0 none)) _ _ ?_
 have h1:=h.n
 have h2:=h.er
 have hp:=Ch.refl (fun _=>False) w
 have OL:=h.lt
 refine mkd fun gv wv NC=>?_
 have Nr:=NC.blk
 refine⟨_,Nr.at rfl,?_⟩
 refine ar (fun c1=>?_) (fun c1=>?_)
 ·have hp:=Ch.made hp NC
  exact⟨congrArg (Value.int .i64) (by unfold Mem.place Mem.has Mem.cnt Mem.idx;cases fa<;>simp_all [IntKind.wrap_i64]<;>omega),hp⟩
 ·refine⟨_,Nr.at rfl,?_⟩
  refine af (fun c2=>?_) (fun c2=>?_)
  ·have Nr:=Blk.drew Nr
   have h:=(h.pu NC.pu).pu (Pu.aI _)
   obtain⟨_,dhd_h⟩:=(by have h9:=h.hd;rwa [h.gq]at h9:∃T:TypeId×Int,Blk _ _ #[_,_,.int .i64 T.2] T.1)
   refine⟨_,Nr.at rfl,ai _ rfl ⟨_,dhd_h.at rfl,?_⟩⟩
   refine ar (fun c3=>?_) (fun c3=>?_)
   ·refine⟨_,Nr.at rfl,?_⟩
    have hp:=Ch.drew (Ch.made hp NC)
    exact⟨congrArg (Value.int .i64) (by unfold Mem.place Mem.has Mem.cnt Mem.idx;cases fa<;>simp_all [IntKind.wrap_i64]<;>omega),hp⟩
   ·have hp:=Ch.drew (Ch.made hp NC)
    exact⟨congrArg (Value.int .i64) (by unfold Mem.place Mem.has Mem.cnt Mem.idx;cases fa<;>simp_all [IntKind.wrap_i64]<;>omega),hp⟩
  ·have Nr:=Blk.drew Nr
   have h:=(h.pu NC.pu).pu (Pu.aI _)
   obtain⟨_,dhd_h⟩:=(by have h9:=h.hd;rwa [h.gq]at h9:∃T:TypeId×Int,Blk _ _ #[_,_,.int .i64 T.2] T.1)
   refine⟨_,Nr.at rfl,ai _ rfl ⟨_,_,_,dhd_h.at rfl,ai _ rfl ⟨_,dhd_h.at rfl,?_⟩⟩⟩
   refine ar (fun c4=>?_) (fun c4=>?_)
   ·refine ai _ rfl ?_
    have dhd_h:=Blk.drew dhd_h
    have Nr:=Blk.drew Nr
    refine⟨_,dhd_h.at rfl,⟨_,Nr.at rfl,?_⟩⟩
    have hp:=Ch.drew (Ch.drew (Ch.made hp NC))
    exact⟨congrArg (Value.int .i64) (by unfold Mem.place Mem.has Mem.cnt Mem.idx;cases fa<;>simp_all [IntKind.wrap_i64]<;>omega),hp⟩
   ·have hp:=Ch.drew (Ch.made hp NC)
    exact⟨congrArg (Value.int .i64) (by unfold Mem.place Mem.has Mem.cnt Mem.idx;cases fa<;>simp_all [IntKind.wrap_i64]<;>omega),hp⟩
end
section
section
variable {w:World} {g:Nat} {L:fL} {m:Mem}
theorem jV {s:Bool} {p:Int}:(m.place s p<0)↔m.has s p=false:=by
 unfold Mem.place
 cases h:m.has s p
 ·simp
 ·simp
theorem gA {s:Bool} {p:Int}(h:m.has s p=true):m.place s p=(m.idx s p.toNat:Int):=by unfold Mem.place;rw [if_pos h]
theorem bU.slot(h:bU w g L m) {s:Bool} {p:Nat}(hp:p<m.cnt s):∃T cs,Blk w L.a cs T∧L.n≤cs.size∧m.idx s p<L.n∧cs[m.idx s p]? =some (Jp (L.pg (m.idx s p))):=by
 obtain⟨T,cs,hr,On,h2⟩:=h.row
 have hi:=m.oX hp
 have hn:=h.n
 exact⟨T,cs,hr,On,by omega,h2 _ (by omega)⟩
theorem Jl(h:bU w g L m)(s:Bool)(p o:Int):
 Calls prog 56 #[ptr g,fr s p,.int .i64 o] w fun e w'=>∃u,e= .returned u∧u= .int .u32 (m.bD s p o)∧Pu w w':=by
 refine uu _ s p o ?_
 refine mkd fun g1 w1 m1=>?_
 refine⟨_,_,⟨m1.blk.at rfl,m1.blk.at rfl⟩,(jT (h.pu m1.pu) s p).mono ?_⟩
 rintro e w2 ⟨_,rfl,rfl,q2⟩
 have p2:Pu w w2:=(show Pu w w1 from m1.pu).trans q2
 have h2:=h.pu p2
 have hg:=h2.gq
 subst hg
 obtain⟨T,hd⟩:=h2.hd
 refine⟨_,rfl,?_⟩
 cases hh:m.has s p with
 | false=>
  refine⟨fun b w'=>w2=w'∧b=true,af (fun _=>⟨rfl,rfl⟩) (fun hb=>by simp [jV,hh]at hb),?_⟩
  rintro _ _ _ ⟨rfl,rfl⟩
  exact aU ⟨by simp [Mem.bD,hh],p2⟩
 | true=>
  have hn:=Mem.cK hh
  obtain⟨T2,cs,hr,On,hi,hc⟩:=h2.slot hn
  have Wi:=gA hh
  have ei:(m.place s p).toNat=m.idx s p.toNat:=by omega
  cases hv:L.pg (m.idx s p.toNat)with
  | none=>
   rw [hv]at hc
   refine⟨fun b w'=>w2=w'∧b=true,af (fun _=>⟨rfl,rfl⟩) (fun _=>af (fun _=>⟨rfl,rfl⟩) (fun _=>af (fun _=>⟨rfl,rfl⟩) (fun _=>?_))),?_⟩
   ·refine ai _ rfl ⟨_,_,_,hd.at rfl,by omega,ai _ rfl ⟨none,0,0,?_,rfl,rfl⟩⟩
    rw [Nat.mul_one,ei];exact hr.at hc
   ·rintro _ _ _ ⟨rfl,rfl⟩
    refine aU ⟨?_,p2⟩
    have:=h2.nil _ hi hv o.toNat
    rw [Mem.jN m hn]at this
    simp [Mem.bD,this]
  | some bc=>
   obtain⟨b,c⟩:=bc
   rw [hv]at hc
   obtain⟨T3,cs3,Vh,hsz3,hw⟩:=h2.pgs _ b c hi hv
   refine⟨fun x w'=>w2=w'∧x= !(Mem.dC o),af (fun hb=>?_) (fun _=>af (fun hb=>⟨rfl,?_⟩) (fun Ws=>af (fun hb=>⟨rfl,?_⟩) (fun hb=>?_))),?_⟩
   ·have:m.place s p<0:=by simpa using hb
    omega
   ·have:o<0:=by simpa using hb
    simp [Mem.dC];omega
   ·have:o≥1024:=by simpa using hb
    simp [Mem.dC];omega
   ·have h1:0≤o:=by simpa using Ws
    have h3:o<1024:=by simpa using hb
    refine ai _ rfl ⟨_,_,_,hd.at rfl,by omega,ai _ rfl ⟨some (Addr.mk b 0 none),1024,c,?_,rfl,?_⟩⟩
    ·rw [Nat.mul_one,ei];exact hr.at hc
    ·simp [Mem.dC,h1,h3]
   ·rintro _ x _ ⟨rfl,rfl⟩
    refine cD (fun hb=>?_) (fun hb=>?_)
    ·exact⟨by simp [Mem.bD,hb],p2⟩
    ·have ho:=Mem.fX hb
     refine ai _ rfl ⟨_,_,_,hd.at rfl,by omega,ai _ rfl ⟨some (Addr.mk b 0 none),1024,c,?_,?_⟩⟩
     ·rw [Nat.mul_one,ei];exact hr.at hc
     ·refine⟨by omega,ai _ rfl ⟨m.word (m.idx s p.toNat) o.toNat,?_,?_,p2⟩⟩
      ·rw [Nat.mul_one];exact Vh.at (hw o.toNat (by omega))
      ·simp only [Mem.bD,hh,hb,Bool.and_self,if_true]
       rw [Mem.jN m hn]
def qy(L L1:fL)(w:World):Prop:=∀k,L1.X k→L.X k∨w.heap.size≤k
theorem qy.refl(L:fL)(w:World):qy L L w:=fun _ h=>.inl h
theorem Jk(h:bU w g L m)(s:Bool)(p:Int):
 Calls prog 80 #[ptr g,fr s p] w fun e w'=>∃u,e= .returned u∧∃L1,u= .int .i64 (m.cR s p)∧bU w' g L1 (m.zero s p)∧qy L L1 w∧Ch L.X w w':=by
 refine ur _ s p ?_
 refine mkd fun g1 w1 m1=>?_
 refine⟨_,_,⟨m1.blk.at rfl,m1.blk.at rfl⟩,(jT (h.pu m1.pu) s p).mono ?_⟩
 rintro e w2 ⟨_,rfl,rfl,q2⟩
 have p2:Ch L.X w w2:=((Ch.refl L.X w).made m1).pu q2
 have h2:=(h.pu m1.pu).pu q2
 have hg:=h2.gq
 subst hg
 refine⟨_,rfl,?_⟩
 cases hh:m.has s p with
 | false=>
  refine af (fun _=>⟨L,by simp [Mem.cR,hh],by simpa [Mem.zero,hh]using h2,qy.refl _ _,p2⟩) (fun hb=>by simp [jV,hh]at hb)
 | true=>
  have hn:=Mem.cK hh
  have Wi:=gA hh
  have ei:(m.place s p).toNat=m.idx s p.toNat:=by omega
  refine af (fun hb=>?_) (fun _=>?_)
  ·have:m.place s p<0:=by simpa using hb
   omega
  obtain⟨T,hd⟩:=h2.hd
  refine ai _ rfl ⟨_,hd.at rfl,ai _ rfl (aP hd (by simp) fun w3 s3=>?_)⟩
  have h3:bU w3 L.g L (m.tick 1024):=h2.tick s3
  obtain⟨T',hd'⟩:=h3.hd
  obtain⟨T2,cs,hr,On,hi,hc⟩:=h3.slot (s:=s) (p:=p.toNat) (by simpa using hn)
  have OI:m.idx s p.toNat<L.n:=hi
  refine ai _ rfl ⟨_,_,_,hd'.at rfl,by omega,ai _ rfl ?_⟩
  rw [Nat.mul_one,ei]
  refine aP hr (by simp;omega) fun w4 s4=>?_
  have h4:=h3.lay (s:=s) (p:=p.toNat) (v:=none) (f:=fun _=>0) (by simpa using hn) (fun _=>by omega) (fun _ _=>rfl) (fun b c e=>by cases e) hr s4
  refine⟨L.put (m.idx s p.toNat) none,by simp [Mem.cR,hh],?_,fun k hk=>.inl ((fL.HX (v:=none) hk).elim id fun⟨c,h⟩=>by cases h),(p2.stored s3 (.inl (.inl rfl))).stored s4 (.inl (.inr (.inl rfl)))⟩
  simp only [Mem.zero,hh,if_true]
  exact h4
theorem Jd:S1 prog 149 62 (.slice none 0 0) 24:=S1.of (by kernel_rfl) (by kernel_rfl) rfl
theorem GO(h:bU w g L m)(s:Bool)(p o v:Int)(hv:0≤v∧v<4294967296):
 Calls prog 47 #[ptr g,fr s p,.int .i64 o,.int .u32 v] w fun e w'=>∃u,e= .returned u∧∃L1,u= .int .i64 (m.err s p o)∧bU w' g L1 (m.write s p o v)∧qy L L1 w∧Ch L.X w w':=by
 refine tk _ s p o v ?_
 refine mkd fun g1 w1 m1=>?_
 refine⟨_,_,⟨m1.blk.at rfl,m1.blk.at rfl⟩,(jT (h.pu m1.pu) s p).mono ?_⟩
 rintro e w2 ⟨_,rfl,rfl,q2⟩
 have p2:Ch L.X w w2:=((Ch.refl L.X w).made m1).pu q2
 have h2:=(h.pu m1.pu).pu q2
 have hg:=h2.gq
 subst hg
 refine⟨_,rfl,?_⟩
 cases hh:m.has s p with
 | false=>
  refine af (fun _=>⟨L,by simp [Mem.err,hh],by simpa [Mem.write,hh]using h2,qy.refl _ _,p2⟩) (fun hb=>by simp [jV,hh]at hb)
 | true=>
  have hn:=Mem.cK hh
  have Wi:=gA hh
  have ei:(m.place s p).toNat=m.idx s p.toNat:=by omega
  refine af (fun hb=>?_) (fun _=>?_)
  ·have:m.place s p<0:=by simpa using hb
   omega
  refine⟨fun b w'=>w2=w'∧b= !(Mem.dC o),af (fun hb=>⟨rfl,?_⟩) (fun hb=>⟨rfl,?_⟩),?_⟩
  ·simp at hb;simp [Mem.dC];omega
  ·simp at hb;simp only [Mem.dC,ge_iff_le];rw [Bool.eq_iff_iff];simp;omega
  rintro _ x _ ⟨rfl,rfl⟩
  refine cD (fun ho=>?_) (fun ho=>?_)
  ·exact⟨L,by simp [Mem.err,hh,ho],by simpa [Mem.write,hh,ho]using h2,qy.refl _ _,p2⟩
  have SL:=Mem.fX ho
  obtain⟨T,hd⟩:=h2.hd
  refine ai _ rfl ⟨_,hd.at rfl,ai _ rfl (aP hd (by simp) fun w3 s3=>?_)⟩
  have h3:=h2.tick s3
  have p3:Ch L.X w w3:=p2.stored s3 (.inl (.inl rfl))
  have W9:p.toNat<(m.tick 1).cnt s:=by simpa using hn
  have Tn:bU w3 L.g L (m.tick 1):=h3
  obtain⟨T',hd'⟩:=Tn.hd
  obtain⟨T2,cs,hr,On,hi,hc⟩:=Tn.slot W9
  have ei':(m.place s p).toNat=(m.tick 1).idx s p.toNat:=ei
  have abS:m.place s p=((m.tick 1).idx s p.toNat:Int):=Wi
  refine ai _ rfl ⟨_,_,_,hd'.at rfl,by omega,ai _ rfl ?_⟩
  have fin:∀(L1:fL)(w5:World)(b c:Nat),bU w5 L.g L1 (m.tick 1)→qy L L1 w→Ch L.X w w5→L1.pg ((m.tick 1).idx s p.toNat)=some (b,c)→
   au (some (Addr.mk L.g 0 none)) fun p45=>
   ∃(A:Option Addr)(N C:Nat),w5.cell? (p45.add 0)=some (.slice A N C)∧
   (0≤(m.place s p:Int)∧(m.place s p:Int)<((N:Nat):Int))∧
   au A fun p49=>
   ∃(A2:Option Addr)(N2 C2:Nat),w5.cell? (p49.add (Int.toNat (m.place s p)*1))=some (.slice A2 N2 C2)∧
   (0≤(o:Int)∧(o:Int)<((N2:Nat):Int))∧
   au A2 fun WU=>
   aA w5 (WU.add (Int.toNat o*1)) [(.int .u32 v)] fun NT=>
   ∃L1,Value.int .i64 0= .int .i64 (m.err s p o)∧bU NT L.g L1 (m.write s p o v)∧qy L L1 w∧Ch L.X w NT:=by
   intro L1 w5 b c h5 hgr hch S5
   obtain⟨T5,hd5⟩:=h5.hd
   have hg5:=h5.gq
   obtain⟨T6,cs6,hr6,hsz6,hi6,hc6⟩:=h5.slot W9
   rw [S5]at hc6
   obtain⟨T7,cs7,hb7,adO,hw7⟩:=h5.pgs _ b c hi6 S5
   rw [hg5]at hd5
   refine ai _ rfl ⟨_,_,_,hd5.at rfl,by omega,ai _ rfl ⟨some (Addr.mk b 0 none),1024,c,by rw [Nat.mul_one,ei'];exact hr6.at hc6,by omega,ai _ rfl ?_⟩⟩
   rw [Nat.mul_one]
   refine aP hb7 (by simp;omega) fun w6 s6=>?_
   have hX:L1.X b:= .inr (.inr ⟨_,c,hi6,S5⟩)
   refine⟨L1,by simp [Mem.err,hh,ho],?_,hgr,hch.stored s6 (hgr b hX)⟩
   have:=h5.Nc (s:=s) (p:=p.toNat) (f:=fun o'=>if o'=o.toNat then v else m.pg s p.toNat o') W9 S5 (fun o'=>by split;exact hv;exact h.u32 _ _ _) (cs:=setAt cs7 o.toNat [.int .u32 v]) (by rw [fH];exact adO) (fun o' abZ=>?_) s6
   ·simp only [Mem.write,hh,ho,Bool.and_self,if_true];exact this
   ·rw [eZ _ _ _ _ (by simp;omega)]
    simp only [List.length_cons,List.length_nil]
    by_cases e:o'=o.toNat
    ·rw [if_pos (by omega),if_pos e];simp [e]
    ·rw [if_neg (by omega),if_neg e,hw7 o' abZ,Mem.jN _ W9];rfl
  cases SK:L.pg ((m.tick 1).idx s p.toNat)with
  | some bc=>
   obtain⟨b,c⟩:=bc
   rw [SK]at hc
   refine⟨some (Addr.mk b 0 none),1024,c,by rw [Nat.mul_one,ei'];exact hr.at hc,af (fun hb=>by simp at hb) (fun _=>?_)⟩
   exact fin L w3 b c Tn (qy.refl _ _) p3 SK
  | none=>
   rw [SK]at hc
   refine⟨none,0,0,by rw [Nat.mul_one,ei'];exact hr.at hc,af (fun _=>?_) (fun hb=>by simp at hb)⟩
   have hLX:∀k,L.X k→k<w3.heap.size:=Tn.lt
   refine⟨fun _ k=>k=L.g,ai _ rfl ⟨block_add _ _,_,_,_,hd'.drew.at rfl,?_⟩⟩
   refine gR (P:=prog) nL (by omega) (by omega) (by omega) fun b w4 m4=>?_
   have p4:Ch L.X w w4:=p3.drew.made m4
   have h4:=(Tn.pu (Pu.aI w3)).pu m4.pu
   refine⟨m4.kept.mono fun k hk=>(show k=L.g by simpa [bE]using hk)▸hLX _ (.inl rfl),fun _ k=>k=L.g,fun _ _ h=>h,by omega,ai _ rfl ?_⟩
   obtain⟨T8,cs8,hr8,adN,hi8,hc8⟩:=h4.slot W9
   refine aP hr8 (by simp;omega) fun w5 s5=>?_
   rw [Nat.mul_one,ei']at s5
   have hbn:¬L.X b:=fun hx=>by have:=hLX b hx;have h9:=m4.num;have h10:w3.drew.heap.size=w3.heap.size:=rfl;omega
   have h5:=h4.lay (s:=s) (p:=p.toNat) (v:=some (b,1024)) (f:=(m.tick 1).pg s p.toNat) W9 (fun o=>h4.u32 _ _ _) (fun e=>by cases e)
    (fun b' c' e=>by
     injection e with e;injection e with e1 e2;subst e1
     refine⟨⟨_,_,m4.blk,by rw [Array.size_replicate];omega,fun o' abZ=>?_⟩,hbn⟩
     have:=h4.nil _ hi8 SK o'
     rw [Mem.jN _ W9]at this
     rw [this,Array.getElem?_replicate,if_pos (by omega)]) hr8 s5
   have aci:(m.tick 1).fill s p.toNat ((m.tick 1).pg s p.toNat)=m.tick 1:=by
    simp only [Mem.fill,Mem.tick];congr 1;funext s' p' o';split
    ·rename_i e;rw [e.1,e.2]
    ·rfl
   rw [aci]at h5
   refine⟨fun _ k=>k=L.g,fun _ _ h=>h,?_⟩
   refine fin _ w5 b 1024 h5 (fun k hk=>?_) (p4.stored s5 (.inl (.inr (.inl rfl)))) (by simp [fL.put])
   rcases fL.HX hk with h6 | ⟨c6,h6⟩
   ·exact .inl h6
   ·injection h6 with h6;injection h6 with h6 _;subst h6
    right
    have:=m4.num;have h9:=p3.size;rw [this];exact h9
theorem Lj(s i:Int)(hs:1≤s∧s≤64)(hi:1≤i∧i≤64):
 Calls prog 28 #[.int .i64 s,.int .i64 i] w fun e w'=>∃v,e= .returned v∧∃g L,v= .tuple #[ptr g,.int .i64 0]∧bU w' g L (Mem.fresh s.toNat i.toNat)∧(∀k,L.X k→w.heap.size≤k)∧Pu w w':=by
 refine ot s i ?_
 refine⟨fun b w'=>w=w'∧b=false,?_,?_⟩
 ·refine af (fun hb=>by simp at hb;omega) (fun _=>af (fun hb=>by simp at hb;omega) (fun _=>af (fun hb=>by simp at hb;omega) (fun _=>⟨rfl,by simp;omega⟩)))
 rintro _ x _ ⟨rfl,rfl⟩
 refine gM ?_
 obtain⟨S,rfl⟩:=Int.eq_ofNat_of_zero_le (show 0≤s by omega)
 obtain⟨I,rfl⟩:=Int.eq_ofNat_of_zero_le (show 0≤i by omega)
 refine mkd fun gv w1 m1=>?_
 rintro _ rfl
 have hsn:SN prog 149 62 (.slice none 0 0) 1 24:=Jd.sn
 refine⟨fun k x W=>∃(j:Nat)(A:Option Addr)(c:Nat),k=S+I - j∧x=(j:Int)∧j≤S+I∧fq W (fun k=>w.heap.size≤k∧k≠gv) 62 1 A j c (List.replicate j (.slice none 0 0))∧(∃T,Blk W gv #[.slice A j c,.int .i64 S,.int .i64 0] T)∧Pu w W,
  ⟨_,0,none,0,rfl,rfl,by omega,fq.nil,⟨_,m1.blk⟩,m1.pu⟩,?_⟩
 rintro _ _ _ w2 ⟨j,A,c,rfl,rfl,hj,ho,⟨T,hb⟩,hp⟩
 rw [aq (x:=(S:Int)+(I:Int)) (by omega)]
 refine ar (fun c1=>?_) (fun c1=>?_)
 ·refine⟨_,_,_,hb.at rfl,?_⟩
  refine mkd fun g3 w3 m3=>?_
  have hgv:gv<w2.heap.size:=hb.lt
  refine wQ hsn (ho.pu m3.pu) (news:= [.slice none 0 0]) (m:=1) rfl (fun q u hu=>by
   match q with
   | 0=>simp at hu;subst hu;exact m3.blk.at rfl
   | q+1=>simp at hu) (by simp [Value.oneCell']) (by omega) (by omega) fun A' c' w4 ho4 q4=>?_
  have UQ:=m1.lo (Ch.refl (fun _=>False) w)
  have Qs:Pu w w4:=(hp.made m3).call q4 fun k ⟨b,hA,hk⟩=>.inr (by have:=ho.2 b hA;omega)
  have hb4:Blk w4 gv #[.slice A j c,.int .i64 S,.int .i64 0] T:=q4.blk (m3.old hb) fun⟨b,hA,hk⟩=>(ho.2 b hA).2 hk
  refine aP hb4 (by simp) fun w5 s5=>?_
  rintro _ rfl
  have hm3:=m3.num
  refine⟨S+I - (j+1),by omega,j+1,A',c',rfl,by rw [aq (by omega)];omega,by omega,?_,⟨T,s5.blk⟩,Qs.stored s5 (.inr UQ)⟩
  have h6:fq w4 (fun k=>w.heap.size≤k∧k≠gv) 62 1 A' (j+1) c' (List.replicate (j+1) (.slice none 0 0)):=by
   rw [List.replicate_succ']
   exact ho4.mono fun k hk=>hk.elim id fun e=>by subst e;have:=hp.size;have:=m3.size;omega
  exact h6.ch s5.ch fun k hk e=>hk.2 e
 ·have:j=S+I:=by omega
  subst this
  obtain⟨g0,cur,hA,hZ,Vh,On,ht⟩:=ho.blk (by omega)
  subst hA
  have hg0:g0<w2.heap.size:=Vh.lt
  refine⟨gv,⟨gv,g0,c,S+I,fun _=>none⟩,rfl,⟨rfl,rfl,⟨(T,_),hb⟩,⟨_,cur,Vh,by rw [Nat.mul_one]at On;exact On,fun q hq=>?_⟩,fun q hq _ o=>(by unfold Mem.word;split<;>rfl),fun q b c hq h=>(by cases h),fun q j b c c' hq hj h=>(by cases h),⟨hZ.2,fun q b c hq h=>(by cases h)⟩,fun _ _ _=>by simp [Mem.fresh],by simp [Mem.fresh];omega⟩,?_,hp⟩
  ·have h7:(cur.toList.take ((S+I)*1))[q]? =some (.slice none 0 0):=by
    have XU:q<S+I:=hq
    rw [ht,List.getElem?_replicate,if_pos XU]
   rw [List.getElem?_take]at h7
   split at h7
   ·simpa [Jp]using h7
   ·cases h7
  ·rintro k (rfl | rfl | ⟨q,c',_,hq⟩)
   ·exact m1.lo (Ch.refl (fun _=>False) w)
   ·exact hZ.1
   ·cases hq
end
end
end Go.Proofs.YtinhphjfnedhgaaGreatDoor
namespace Go.Proofs.YtinhphjfnedhgaaGreatDoor
open Go.Proofs.Tryz (prog)
open Go Go.RowKit V
open Go.IntKind (i64 u32 u64)
open Enc (enc)
section
instance:Enc Ent:=⟨fun e=>[.int .i64 e.typ,.int .i64 e.owner,.int .i64 e.refs,.int .i64 e.state,.bool e.aV],5,fun _=>rfl,by simp [Value.oneCell'],by omega⟩
structure pY where
 g:Nat
 e:Nat
 c:Nat
 M:fL
def pY.X(L:pY):Nat→Prop:=fun k=>k=L.g∨k=L.e∨L.M.X k
abbrev DB.aJ(D:DB):List Ent:=(List.range D.S).map D.ent
structure jk(w:World)(g:Nat)(L:pY)(D:DB):Prop where
 gq:L.g=g
 hd:∃T,Blk w L.g #[.pointer (some (Addr.mk L.M.g 0 none)),.slice (some (Addr.mk L.e 0 none)) D.S L.c,.int .i64 D.aF] T
 es:Own w (fun k=>k=L.e) 96 (some (Addr.mk L.e 0 none)) D.S L.c D.aJ
 mem:bU w L.M.g L.M D.mem
 ok:D.Ok
 pos:1≤D.S
 dis:L.e≠L.g∧¬L.M.X L.g∧¬L.M.X L.e
section
variable {w w' w2:World} {g:Nat} {L:pY} {D:DB} {Y:Nat→Prop}
theorem jk.hd'(h:jk w g L D):∃T,Blk w g #[.pointer (some (Addr.mk L.M.g 0 none)),.slice (some (Addr.mk L.e 0 none)) D.S L.c,.int .i64 D.aF] T:=h.gq▸h.hd
theorem jk.lt(h:jk w g L D):∀k,L.X k→k<w.heap.size:=by
 rintro k (rfl | rfl | hk)
 ·obtain⟨T,hd⟩:=h.hd;exact hd.lt
 ·obtain⟨g',hA,hZ,hl⟩:=h.es.lt h.pos
  have:g'=L.e:=hZ
  omega
 ·exact h.mem.lt k hk
theorem jk.ch(h:jk w g L D)(hk:Ch Y w w')(hb:∀k,L.X k→¬Y k):jk w' g L D:=by
 refine⟨h.gq,?_,h.es.ch hk fun k e=>hb k (.inr (.inl e)),h.mem.ch hk fun k hx=>hb k (.inr (.inr hx)),h.ok,h.pos,h.dis⟩
 obtain⟨T,hd⟩:=h.hd;exact⟨T,hk.blk hd (hb _ (.inl rfl))⟩
theorem jk.pu(h:jk w g L D)(hk:Pu w w'):jk w' g L D:=h.ch hk (by simp)
theorem jk.S64(h:jk w g L D):D.S≤64:=h.mem.er.1
theorem pY.inM(L:pY)(k:Nat)(h:L.M.X k):L.X k:= .inr (.inr h)
theorem jk.cp(h:jk w g L D) {m:Mem} {M:fL}(hm:bU w' L.M.g M m)(hc:Ch L.M.X w w')(hg:∀k,M.X k→L.M.X k∨w.heap.size≤k)(hs:m.S=D.mem.S):jk w' g {L with M:=M} (D.bf m)∧(∀k,pY.X {L with M:=M} k→L.X k∨w.heap.size≤k):=by
 have hn:∀k,L.X k→¬L.M.X k→¬M.X k:=fun k hk hx hm'=>(hg k hm').elim hx fun h'=>absurd (h.lt k hk) (Nat.not_lt.2 h')
 have Qe:DB.aJ (D.bf m)=D.aJ:=by show List.map D.ent (List.range m.S)=List.map D.ent (List.range D.mem.S);rw [hs]
 have hS:DB.S (D.bf m)=D.S:=hs
 refine⟨⟨h.gq,?_,?_,?_,⟨fun p hp=>?_,h.ok.aF⟩,by rw [hS];exact h.pos,⟨h.dis.1,hn _ (.inl rfl) h.dis.2.1,hn _ (.inr (.inl rfl)) h.dis.2.2⟩⟩,?_⟩
 ·obtain⟨T,hd⟩:=h.hd
  refine⟨T,?_⟩
  rw [hS]
  show Blk w' L.g #[.pointer (some (Addr.mk M.g 0 none)),_,_] T
  rw [hm.gq]
  exact hc.blk hd h.dis.2.1
 ·rw [Qe,hS]
  exact h.es.ch hc fun k e=>e▸h.dis.2.2
 ·show bU w' M.g M m
  have:=hm.gq
  rw [this];exact hm
 ·rw [hS]at hp ⊢
  exact h.ok.ent p hp
 ·rintro k (hk | hk | hk)
  ·exact .inl (.inl hk)
  ·exact .inl (.inr (.inl hk))
  ·exact(hg k hk).imp (fun h=>.inr (.inr h)) id
theorem jk.Ea(h:jk w g L D) {x:Int} {T:TypeId}(hs:bF w g #[.pointer (some (Addr.mk L.M.g 0 none)),.slice (some (Addr.mk L.e 0 none)) D.S L.c,.int .i64 x] T w2)(hx:0≤x∧x≤64):jk w2 g L (D.gk x):=by
 have hg:=h.gq
 subst hg
 exact⟨rfl,⟨T,hs.blk⟩,h.es.ch hs.ch fun k e e2=>h.dis.1 (by rw [← e,e2]),h.mem.ch hs.ch fun k hk e=>h.dis.2.1 (e▸hk),⟨h.ok.ent,hx⟩,h.pos,h.dis⟩
theorem jk.ldE(h:jk w g L D) {i:Int}(h0:0≤i)(h1:i<(D.S:Int)):∃p,some (Addr.mk L.e 0 none)=some p∧∀j,j<5→w.cell? ((p.add (i.toNat *5)).add j)=(enc (D.at_ i))[j]? :=by
 obtain⟨p,x,hA,hx,hZ,hc⟩:=h.es.rd.ld h0 h1
 refine⟨p,hA,?_⟩
 have hi:i.toNat<D.S:=by omega
 rw [List.getElem?_map,List.getElem?_range hi]at hx
 injection hx with hx
 subst hx
 exact hc
theorem DB.yP(D:DB) {p:Int}(e:Ent):(D.set p e).aJ=D.aJ.set p.toNat e:=by
 apply List.ext_getElem?
 intro i
 show((List.range D.S).map (D.set p e).ent)[i]? =_
 rw [List.getElem?_set,List.getElem?_map,List.getElem?_map]
 by_cases hi:i<D.S
 ·rw [List.getElem?_range hi]
  simp only [DB.set,Option.map_some]
  by_cases h2:p.toNat=i
  ·rw [if_pos h2.symm,if_pos h2,if_pos (by simp;omega)]
  ·rw [if_neg (fun e=>h2 e.symm),if_neg h2]
 ·rw [List.getElem?_eq_none (by simp;omega)]
  simp;omega
end
end
section
structure Fl where
 rs:List U32
 pc:Int
 z:Bool
 n:Bool
 l:Bool
namespace Fl
def Ok(s:Fl):Prop:=s.rs.length=15
def Be(s:Fl)(i:Nat)(x:U32):Fl:= {s with rs:=List.set s.rs i x}
def zero:Fl:=⟨[U32.mk 0,U32.mk 0,U32.mk 0,U32.mk 0,U32.mk 0,U32.mk 0,U32.mk 0,U32.mk 0,U32.mk 0,U32.mk 0,U32.mk 0,U32.mk 0,U32.mk 0,U32.mk 0,U32.mk 0],0,false,false,false⟩
def words(s:Fl):List Value:=aN (fun j=>.int .u32 (s.rs.getD j (U32.mk 0)).v) (upN 0 15)
def cells(s:Fl):List Value:=s.words++ [.int .u32 s.pc,.bool s.z,.bool s.n,.bool s.l]
theorem words_eq {s:Fl}(h:s.Ok):s.words=s.rs.map fun x=>.int .u32 x.v:=by
 obtain⟨rs,pc,z,n,l⟩:=s
 match rs,h with
 | [_,_,_,_,_,_,_,_,_,_,_,_,_,_,_],_=>rfl
theorem cS(s:Fl):s.words.length=15:=rfl
theorem EM {s:Fl}(h:s.Ok) {i:Nat} {x:U32}(hx:s.rs[i]? =some x):s.cells[i]? =some (.int .u32 x.v):=by
 have hi:i<15:=by have:=(List.getElem?_eq_some_iff.1 hx).1;rw [h]at this;exact this
 rw [cells,List.getElem?_append_left (by rw [cS];exact hi),words_eq h,List.getElem?_map,hx];rfl
theorem EL {s:Fl}(h:s.Ok) {i:Nat}(hi:i<15)(x:U32):(s.Be i x).cells=s.cells.set i (.int .u32 x.v):=by
 have h2:(s.Be i x).Ok:=by show(List.set s.rs i x).length=15;rw [List.length_set];exact h
 rw [cells,words_eq h2,cells,words_eq h,List.set_append_left _ _ (by rw [List.length_map,h];exact hi)]
 show(List.set s.rs i x).map _++_=_
 rw [List.map_set];rfl
end Fl
theorem r5 {α β:Type} {f:α→β} {u:β}:∀ {l:List α},u∈aN f l→∃a,u=f a
 | a::l,h=>by
  rcases List.mem_cons.1 h with e | h
  ·exact⟨a,e⟩
  ·exact r5 (l:=l) h
instance:Enc Fl:=⟨Fl.cells,19,fun _=>rfl,fun x u h=>by
 rcases List.mem_append.1 h with h | h
 ·obtain⟨a,rfl⟩:=r5 h
  rfl
 ·simp only [List.mem_cons,List.not_mem_nil,or_false]at h
  rcases h with rfl | rfl | rfl | rfl<;>rfl,by omega⟩
structure FlP(w:World)(g:Nat)(s:Fl):Prop where
 len:s.Ok
 blk:∃T,Blk w g ⟨s.cells⟩ T
section
variable {w:World} {g:Nat} {s:Fl} {K:World→Prop}
theorem FlP.st(h:FlP w g s) {i:Nat} {v:Value} {s':Fl}(hi:i<19)(h2:s'.Ok)(hc:s'.cells=s.cells.set i v)(hK:∀w',FlP w' g s'→Ch (fun k=>k=g) w w'→K w'):aA w ⟨g,i,none⟩ [v] K:=by
 obtain⟨T,hb⟩:=h.blk
 exact ja hb (by show i+1≤s.cells.length;show i+1≤19;omega) fun w2 st=>hK w2 ⟨h2,T,by rw [hc];exact st.blk.cast (by rw [uS];simp)⟩ st.ch
theorem FlP.li(h:FlP w g s) {X:Nat→Prop}(hX:∀k,k=g↔X k):Rd w X (some (Addr.mk g 0 none)) s.rs.length s.rs.length s.rs:=by
 obtain⟨T,hb⟩:=h.blk
 refine⟨rfl,Nat.le_refl _,fun k hk=>by rw [(hX k).2 hk];exact hb.lt,fun i x hi=>⟨_,rfl,(hX _).1 rfl,fun j hj=>?_⟩⟩
 have hj:j=0:=by have:Enc.size U32=1:=rfl;omega
 subst hj
 rw [bO,Nat.zero_add,show Enc.size U32=1 from rfl,Nat.mul_one]
 show w.cell? ⟨g,i,none⟩=some (.int .u32 x.v)
 exact hb.cell (by simpa using Fl.EM h.len hi)
theorem FlP.stR(h:FlP w g s) {X:Nat→Prop}(hX:∀k,k=g↔X k) {i:Nat} {x y:U32}(hx:s.rs[i]? =some x) {o:Nat} {vs:List Value}(ho:o+vs.length≤1)(hy:enc y=(enc x).take o++vs++(enc x).drop (o+vs.length))(hK:∀w',(∀k,k=g↔X k)∧FlP w' g (s.Be i y)→Ch X w w'→K w'):
 aA w (((Addr.mk g 0 none).add (i*1)).add o) vs K:=by
 have hi:i<15:=by have:=(List.getElem?_eq_some_iff.1 hx).1;rw [h.len]at this;exact this
 have hlen:(s.Be i y).Ok:=by show(List.set s.rs i y).length=15;rw [List.length_set];exact h.len
 obtain⟨T,hb⟩:=h.blk
 rw [bO,Nat.zero_add,Nat.mul_one]
 have ex:enc x= [.int .u32 x.v]:=rfl
 have ey:enc y= [.int .u32 y.v]:=rfl
 rw [ex,ey]at hy
 have On:∀j,j≤19→j≤(⟨s.cells⟩:Array Value).size:=fun j hj=>hj
 have same:x=y→s.Be i y=s:=fun e=>by
  subst e
  have:s.rs.set i x=s.rs:=by
   apply List.ext_getElem?
   intro j
   rw [List.getElem?_set]
   split
   ·rename_i e;subst e;rw [if_pos (by rw [h.len];exact hi),hx]
   ·rfl
  unfold Fl.Be;rw [this]
 match vs,o,ho with
 | [v],0,_=>
  simp at hy
  subst hy
  exact(FlP.st h (i:=i) (by omega) hlen (Fl.EL h.len hi y) fun w' h' q=>hK w' ⟨hX,h'⟩ (q.mono fun k hk=>(hX k).1 hk))
 | [],0,_=>
  simp at hy
  refine⟨g,i,_,T,rfl,hb,by simpa using On i (by omega),fun w2 st=>hK w2 ⟨hX,by rw [same (by cases x;cases y;simp at hy;rw [hy])];exact⟨h.len,T,st.blk⟩⟩ (st.ch.mono fun k hk=>(hX k).1 hk)⟩
 | [],1,_=>
  simp at hy
  refine⟨g,i+1,_,T,rfl,hb,by simpa using On (i+1) (by omega),fun w2 st=>hK w2 ⟨hX,by rw [same (by cases x;cases y;simp at hy;rw [hy])];exact⟨h.len,T,st.blk⟩⟩ (st.ch.mono fun k hk=>(hX k).1 hk)⟩
theorem FlP.all(h:FlP w g s) {s':Fl}(h2:s'.Ok)(hK:∀w',FlP w' g s'→Ch (fun k=>k=g) w w'→K w'):aA w ⟨g,0,none⟩ s'.cells K:=by
 obtain⟨T,hb⟩:=h.blk
 exact bH hb rfl fun w2 st=>hK w2 ⟨h2,T,st.blk.cast (by simp)⟩ st.ch
end
def yX:List Value→Option Fl
 | [.int .u32 a0,.int .u32 a1,.int .u32 a2,.int .u32 a3,.int .u32 a4,.int .u32 a5,.int .u32 a6,.int .u32 a7,.int .u32 a8,.int .u32 a9,.int .u32 b0,.int .u32 b1,.int .u32 b2,.int .u32 b3,.int .u32 b4,.int .u32 pc,.bool z,.bool n,.bool l]=>
  some ⟨[⟨a0⟩,⟨a1⟩,⟨a2⟩,⟨a3⟩,⟨a4⟩,⟨a5⟩,⟨a6⟩,⟨a7⟩,⟨a8⟩,⟨a9⟩,⟨b0⟩,⟨b1⟩,⟨b2⟩,⟨b3⟩,⟨b4⟩],pc,z,n,l⟩
 | _=>none
theorem oY {cs:List Value} {s:Fl}(h:yX cs=some s):cs=s.cells∧s.Ok:=by
 unfold yX at h
 split at h
 ·injection h with h
  subst h
  exact⟨rfl,rfl⟩
 ·cases h
end
section
structure Pd where
 n:Nat
 aF:Int
 ent:Nat→Ent
namespace Pd
def on(E:Pd)(m:Mem):DB:=⟨m,E.aF,E.ent⟩
def aJ(E:Pd):List Ent:=(List.range E.n).map E.ent
def set(E:Pd)(i:Nat)(e:Ent):Pd:= {E with ent:=fun q=>if q=i then e else E.ent q}
def gk(E:Pd)(x:Int):Pd:= {E with aF:=x}
structure Ok(E:Pd):Prop where
 ent:∀p,p<E.n→(E.ent p).ok=true∧(E.ent p).owner<E.n
 aF:0≤E.aF∧E.aF≤64
 er:E.n≤64
@[simp] theorem dQ(E:Pd):E.aJ.length=E.n:=by simp [aJ]
theorem yQ {E:Pd} {i:Nat}(h:i<E.n):E.aJ[i]? =some (E.ent i):=by simp [aJ,h]
theorem cT {E:Pd} {p:Int} {d:Ent}(h:0≤p∧p<((E.n:Nat):Int)):E.aJ.getD p.toNat d=E.ent p.toNat:=by
 rw [List.getD_eq_getElem?_getD,yQ (by omega)];rfl
theorem yP(E:Pd)(i:Nat)(e:Ent):(E.set i e).aJ=E.aJ.set i e:=by
 apply List.ext_getElem?
 intro j
 show((List.range E.n).map (E.set i e).ent)[j]? =_
 rw [List.getElem?_set,List.getElem?_map]
 by_cases hj:j<E.n
 ·rw [List.getElem?_range hj]
  simp only [Option.map_some,set,dQ,yQ hj]
  by_cases OS:i=j
  ·subst OS;simp [hj]
  ·rw [if_neg (fun h=>OS h.symm),if_neg OS]
 ·rw [List.getElem?_eq_none (by simp;omega),List.getElem?_eq_none (l:=E.aJ) (by simp;omega)]
  simp
  intro h1
  omega
end Pd
def DB.pd(D:DB):Pd:=⟨D.S,D.aF,D.ent⟩
theorem Pd.bk(E:Pd)(m:Mem)(h:E.n=m.S):(E.on m).pd=E:=by
 cases E;simp only [on]at *;simp [DB.pd,DB.S,← h]
theorem Pd.jd(E:Pd)(m:Mem):(E.on m).mem=m:=rfl
theorem Pd.Bn(E:Pd)(m:Mem)(h:E.n=m.S):(E.on m).S=E.n:=h.symm
theorem Pd.kz(E:Pd)(m:Mem)(p:Int)(h:E.n=m.S):(E.on m).has p=decide (0≤p∧p<((E.n:Nat):Int)):=by unfold DB.has;rw [Bn E m h]
theorem Pd.nS(E:Pd)(m:Mem)(p:Int):(E.on m).at_ p=E.ent p.toNat:=rfl
theorem Pd.fJ(E:Pd)(m:Mem)(p:Int)(e:Ent):(E.on m).set p e=(E.set p.toNat e).on m:=rfl
theorem Pd.jW(E:Pd)(m:Mem)(f:Mem→Mem):(E.on m).cp f=E.on (f m):=rfl
theorem Pd.rV(E:Pd)(m m':Mem):(E.on m).bf m'=E.on m':=rfl
theorem Pd.yv(E:Pd)(m:Mem)(b:Int):(E.on m).gk b=(E.gk b).on m:=rfl
theorem Pd.I7(E:Pd)(b:Int):(E.gk b).n=E.n:=rfl
theorem Pd.u5(E:Pd)(m:Mem):(E.on m).aF=E.aF:=rfl
theorem Pd.nH(E:Pd)(i:Nat)(e:Ent):(E.set i e).n=E.n:=rfl
theorem Pd.iI(E:Pd)(i j:Nat)(e:Ent):(E.set i e).ent j=if j=i then e else E.ent j:=rfl
theorem Pd.Bd(E:Pd)(i:Nat)(e:Ent):(E.set i e).aF=E.aF:=rfl
structure PdP(w:World)(g a mg:Nat)(E:Pd):Prop where
 hd:∃T,Blk w g #[.pointer (some (Addr.mk mg 0 none)),.int .i64 E.aF,.slice (some (Addr.mk a 0 none)) (2*E.n) (2*E.n)] T
 ws:∃T cs,Blk w a cs T∧cs.size=2*E.n∧∀p,p<E.n→cs[2*p]? =some (.int .u32 (E.ent p).w0)∧cs[2*p+1]? =some (.int .u32 (E.ent p).w1)
 ok:E.Ok
 ne:a≠g
structure oo(w:World)(g mg e c:Nat)(E:Pd):Prop where
 hd:∃T,Blk w g #[.pointer (some (Addr.mk mg 0 none)),.slice (some (Addr.mk e 0 none)) E.n c,.int .i64 E.aF] T
 es:Own w (fun k=>k=e) 96 (some (Addr.mk e 0 none)) E.n c E.aJ
 ok:E.Ok
 ne:e≠g
 pos:1≤E.n
section
variable {w w':World} {g a mg e c:Nat} {E:Pd} {Y:Nat→Prop}
theorem PdP.ch(h:PdP w g a mg E)(q:Ch Y w w')(hg:¬Y g)(ha:¬Y a):PdP w' g a mg E:=by
 obtain⟨T,hd⟩:=h.hd
 obtain⟨T2,cs,hr,h2⟩:=h.ws
 exact⟨⟨T,q.blk hd hg⟩,⟨T2,cs,q.blk hr ha,h2⟩,h.ok,h.ne⟩
theorem oo.ch(h:oo w g mg e c E)(q:Ch Y w w')(hg:¬Y g)(he:¬Y e):oo w' g mg e c E:=by
 obtain⟨T,hd⟩:=h.hd
 exact⟨⟨T,q.blk hd hg⟩,h.es.ch q fun k hk=>hk▸he,h.ok,h.ne,h.pos⟩
theorem PdP.lt(h:PdP w g a mg E):g<w.heap.size∧a<w.heap.size:=by
 obtain⟨T,hd⟩:=h.hd
 obtain⟨T2,cs,hr,h2⟩:=h.ws
 exact⟨hd.lt,hr.lt⟩
theorem oo.lt(h:oo w g mg e c E):g<w.heap.size∧e<w.heap.size:=by
 obtain⟨T,hd⟩:=h.hd
 obtain⟨g',hA,hZ,hl⟩:=h.es.lt h.pos
 have:g'=e:=hZ
 exact⟨hd.lt,by omega⟩
theorem PdP.db {L:eW} {m:Mem}(h:PdP w g a L.g E)(hm:cv w L m)(hn:E.n=m.S)(hx:¬L.X g∧¬L.X a):DBP w ⟨g,a,L⟩ (E.on m):=by
 have hS:(E.on m).S=E.n:=hn.symm
 refine⟨?_,?_,hm,⟨fun p hp=>?_,h.ok.aF⟩,h.ne,hx.1,hx.2⟩
 ·show ∃T,Blk w g #[_,_,.slice _ (2*m.S) (2*m.S)] T
  rw [← hn];exact h.hd
 ·show ∃T cs,Blk w a cs T∧cs.size=2*m.S∧∀p,p<m.S→_
  rw [← hn];exact h.ws
 ·rw [hS]at hp ⊢
  exact h.ok.ent p hp
theorem DBP.pd {L:gj} {D:DB}(h:DBP w L D):PdP w L.g L.a L.M.g D.pd:=⟨h.hd,h.ws,⟨h.ok.ent,h.ok.aF,h.mem.er.1⟩,h.dis.1⟩
theorem PdP.Ea(h:PdP w g a mg E) {x:Int}(hx:0≤x∧x≤64) {K:World→Prop}(hK:∀w',PdP w' g a mg (E.gk x)→Ch (fun k=>k=g) w w'→K w'):aA w ⟨g,1,none⟩ [.int .i64 x] K:=by
 obtain⟨T,hd⟩:=h.hd
 obtain⟨T2,cs,hr,h2⟩:=h.ws
 exact ja hd (by simp) fun w2 s=>hK w2 ⟨⟨T,s.blk⟩,⟨T2,cs,s.old hr h.ne,h2⟩,⟨h.ok.ent,hx,h.ok.er⟩,h.ne⟩ s.ch
theorem oo.Ea(h:oo w g mg e c E) {x:Int}(hx:0≤x∧x≤64) {K:World→Prop}(hK:∀w',oo w' g mg e c (E.gk x)→Ch (fun k=>k=g) w w'→K w'):aA w ⟨g,2,none⟩ [.int .i64 x] K:=by
 obtain⟨T,hd⟩:=h.hd
 exact ja hd (by simp) fun w2 s=>hK w2 ⟨⟨T,s.blk⟩,h.es.ch s.ch fun k hk e2=>h.ne (by rw [← hk,e2]),⟨h.ok.ent,hx,h.ok.er⟩,h.ne,h.pos⟩ s.ch
theorem oo.Lb(h:oo w g mg e c E) {i:Nat} {x y:Ent}(hx:E.aJ[i]? =some x) {o:Nat} {vs:List Value}(ho:o+vs.length≤5)(hy:enc y=(enc x).take o++vs++(enc x).drop (o+vs.length))(OZ:y.ok=true∧y.owner<(E.n:Int)) {K:World→Prop}
 (hK:∀w',oo w' g mg e c (E.set i y)→Ch (fun k=>k=e) w w'→K w'):aA w (((Addr.mk e 0 none).add (i*5)).add o) vs K:=by
 have hi:i<E.n:=by
  have:=(List.getElem?_eq_some_iff.1 hx).1
  simpa using this
 obtain⟨T,hd⟩:=h.hd
 refine h.es.st rfl hi hx ho hy fun w2 Rq hc=>hK w2 ⟨⟨T,hc.blk hd fun e=>h.ne e.symm⟩,by rw [Pd.yP];exact Rq,⟨fun p hp=>?_,h.ok.aF,h.ok.er⟩,h.ne,h.pos⟩ hc
 show(if p=i then y else E.ent p).ok=true∧_
 split
 ·rename_i XV
  refine⟨OZ.1,?_⟩
  show(if p=i then y else E.ent p).owner<_
  rw [if_pos XV];exact OZ.2
 ·rename_i XV
  refine⟨(h.ok.ent p hp).1,?_⟩
  show(if p=i then y else E.ent p).owner<_
  rw [if_neg XV];exact(h.ok.ent p hp).2
end
def Dg.sv(d:Dg):List Value:=aN (fun j=>.int .u32 (d.save.getD j 0)) (upN 0 26)
def Dg.svL(d:Dg):List U32:=aN (fun j=>U32.mk (d.save.getD j 0)) (upN 0 26)
def zu(w:World)(g:Nat)(s:List U32):Prop:=∃T,Blk w g (aY (s.map U32.v)) T
def yV:List Value→Option (List U32)
 | []=>some []
 | .int .u32 x::r=>(match yV r with
  | some l=>some (U32.mk x::l)
  | none=>none)
 | _=>none
theorem n8:∀ {cs:List Value} {l:List U32},yV cs=some l→cs=(l.map U32.v).map (Value.int .u32)
 | [],l,h=>by simp only [yV,Option.some.injEq]at h;subst h;rfl
 | v::r,l,h=>by
  unfold yV at h
  split at h
  ·rename_i e;cases e
  ·rename_i x r' e
   injection e with e1 e2
   subst e1;subst e2
   split at h
   ·rename_i l' hl
    injection h with h
    subst h
    rw [n8 hl];rfl
   ·cases h
  ·cases h
theorem Le {w:World} {g mg e c:Nat} {E:Pd} {X:Nat→Prop}(hX:∀k,(k=g∨k=e)↔X k)(h:oo w g mg e c E):Rd w X (some (Addr.mk e 0 none)) E.aJ.length c E.aJ:=by
 rw [Pd.dQ]
 exact h.es.rd.mono (fun k hk=>(hX k).1 (.inr hk.1)) fun k hk=>by rcases(hX k).2 hk with rfl | rfl;exact h.lt.1;exact h.lt.2
theorem Lf {w:World} {g mg e c:Nat} {E:Pd}(h:oo w g mg e c E):w.cell? ⟨g,0,none⟩=some (.pointer (some ⟨mg,0,none⟩))∧w.cell? ⟨g,1,none⟩=some (.slice (some ⟨e,0,none⟩) E.aJ.length c)∧w.cell? ⟨g,2,none⟩=some (.int .i64 E.aF):=by
 obtain⟨T,hd⟩:=h.hd
 rw [Pd.dQ]
 exact⟨hd.cell rfl,hd.cell rfl,hd.cell rfl⟩
theorem Mq {w:World} {g a mg:Nat} {E:Pd}(h:PdP w g a mg E):w.cell? ⟨g,0,none⟩=some (.pointer (some ⟨mg,0,none⟩))∧w.cell? ⟨g,1,none⟩=some (.int .i64 E.aF):=by
 obtain⟨T,hd⟩:=h.hd
 exact⟨hd.cell rfl,hd.cell rfl⟩
theorem C9 {w:World} {g:Nat} {s:List U32} {X:Nat→Prop}(hX:∀k,k=g↔X k)(h:zu w g s):Rd w X (some (Addr.mk g 0 none)) s.length s.length s:=by
 obtain⟨T,hb⟩:=h
 refine⟨rfl,Nat.le_refl _,fun k hk=>by rw [(hX k).2 hk];exact hb.lt,fun i x hi=>⟨_,rfl,(hX _).1 rfl,fun j hj=>?_⟩⟩
 have hj:j=0:=by have:Enc.size U32=1:=rfl;omega
 subst hj
 have hl:i<s.length:=(List.getElem?_eq_some_iff.1 hi).1
 rw [bO,Nat.zero_add,show Enc.size U32=1 from rfl,Nat.mul_one]
 show w.cell? ⟨g,i,none⟩=some (.int .u32 x.v)
 refine hb.cell ?_
 rw [eo (by simpa using hl),List.getD_eq_getElem?_getD,List.getElem?_map,hi];rfl
theorem Jh {w:World} {g i:Nat} {s:List U32} {X:Nat→Prop}(hX:∀k,k=g↔X k)(h:zu w g s) {x y:U32}(hx:s[i]? =some x) {o:Nat} {vs:List Value}(ho:o+vs.length≤1)(hy:enc y=(enc x).take o++vs++(enc x).drop (o+vs.length)) {K:World→Prop}(hK:∀w',(∀k,k=g↔X k)∧zu w' g (s.set i y)→Ch X w w'→K w'):
 aA w (((Addr.mk g 0 none).add (i*1)).add o) vs K:=by
 obtain⟨T,hb⟩:=h
 have hl:i<s.length:=(List.getElem?_eq_some_iff.1 hx).1
 have hc:∀w2,bF w g (aY ((s.set i y).map U32.v)) T w2→K w2:=fun w2 st=>hK w2 ⟨hX,T,st.blk⟩ (st.ch.mono fun k hk=>(hX k).1 hk)
 rw [bO,Nat.zero_add,Nat.mul_one]
 have ex:enc x= [.int .u32 x.v]:=rfl
 have ey:enc y= [.int .u32 y.v]:=rfl
 rw [ex,ey]at hy
 match vs,o,ho with
 | [v],0,_=>
  simp at hy
  subst hy
  refine⟨g,i,_,T,rfl,hb,by simp;omega,fun w2 st=>hc w2 ?_⟩
  rw [List.map_set,← rH];exact st
 | [],0,_=>
  simp at hy
  refine⟨g,i,_,T,rfl,hb,by simp;omega,fun w2 st=>hc w2 ?_⟩
  have:s.set i y=s:=by
   have:y=x:=by cases x;cases y;simp at hy;rw [hy]
   rw [this];exact List.ext_getElem? fun j=>by rw [List.getElem?_set];split;(rename_i e;subst e;(try rw [if_pos hl]);rw [hx]);rfl
  rw [this];exact st
 | [],1,_=>
  simp at hy
  refine⟨g,i+1,_,T,rfl,hb,by simp;omega,fun w2 st=>hc w2 ?_⟩
  have:s.set i y=s:=by
   have:y=x:=by cases x;cases y;simp at hy;rw [hy]
   rw [this];exact List.ext_getElem? fun j=>by rw [List.getElem?_set];split;(rename_i e;subst e;(try rw [if_pos hl]);rw [hx]);rfl
  rw [this];exact st
theorem Jg {w:World} {g n:Nat} {s:List U32} {X:Nat→Prop}(hX:∀k,k=g↔X k)(h:zu w g s)(hn:s.length=n):X g∧∀j u,(aN (fun j=>Value.int .u32 (s.getD j (U32.mk 0)).v) (upN 0 n))[j]? =some u→w.cell? ⟨g,0+j,none⟩=some u:=by
 obtain⟨T,hb⟩:=h
 refine⟨(hX _).1 rfl,fun j u hj=>?_⟩
 rw [← aQ,bp]at hj
 cases R1:nth (upN 0 n) j with
 | none=>rw [R1]at hj;cases hj
 | some i=>
  rw [R1]at hj
  have OS:i=j:=by have:=jC R1;omega
  have Ow:=aX R1
  rw [gL]at Ow
  subst OS
  injection hj with hj
  rw [← hj,Nat.zero_add]
  refine hb.cell ?_
  rw [eo (by simp;omega),List.getD_eq_getElem?_getD,List.getElem?_map]
  show _=some (Value.int .u32 (s.getD i (U32.mk 0)).v)
  rw [List.getD_eq_getElem?_getD]
  cases s[i]? <;>rfl
theorem Jf {w:World} {g:Nat} {s l:List U32} {vs:List Value} {X:Nat→Prop}(hX:∀k,k=g↔X k)(h:zu w g s)(hl:yV vs=some l)(hn:s.length=l.length) {K:World→Prop}(hK:∀w',(∀k,k=g↔X k)∧zu w' g l→Ch X w w'→K w'):aA w ⟨g,0,none⟩ vs K:=by
 obtain⟨T,hb⟩:=h
 have e:=n8 hl
 have e2:vs=(aY (l.map U32.v)).toList:=by rw [e];simp [aY]
 rw [e2]
 exact mj hb (by simp;omega) fun w2 st=>hK w2 ⟨hX,T,st.blk⟩ (st.ch.mono fun k hk=>(hX k).1 hk)
def Mem.Wf(m:Mem):Prop:=(∀s i o,0≤m.pg s i o∧m.pg s i o<4294967296)∧m.S≤64∧m.I≤64
end
end Go.Proofs.YtinhphjfnedhgaaGreatDoor
namespace Go.Proofs.YtinhphjfnedhgaaGreatDoor.V
open Go Go.RowKit
open Go.IntKind (i64 u32 u64)
open Enc (enc)
structure Els where
 el:Nat→Type
 en:(t:Nat)→Enc (el t)
 df:(t:Nat)→el t
 dec:(t:Nat)→List Value→Option (el t)
 iy:∀ {t:Nat} {cs:List Value} {x:el t},dec t cs=some x→(en t).enc x=cs
structure Kind(E:Els) where
 ty:Type
 pred:(Nat→Nat)→ty→(Nat→Prop)→World→Prop
 ch:∀ {r:Nat→Nat} {s:ty} {X Y:Nat→Prop} {w w':World},pred r s X w→Ch Y w w'→(∀k,X k→¬Y k)→pred r s X w'
 lt:∀ {r:Nat→Nat} {s:ty} {X:Nat→Prop} {w:World},pred r s X w→∀k,X k→k<w.heap.size
 li:(Nat→Nat)→ty→Nat→Option (Ls E.el):=fun _ _ _=>none
 pN:∀ {r:Nat→Nat} {s:ty} {X:Nat→Prop} {w:World} {i:Nat} {L:Ls E.el},pred r s X w→li r s i=some L→ @Rd (E.el L.t) (E.en L.t) w X L.A L.l.length L.c L.l:=by intro _ _ _ _ _ _ _ h;cases h
 fs:(Nat→Nat)→ty→Nat→Nat→Value→Option (Prop×ty):=fun _ _ _ _ _=>none
 sd:∀ {r:Nat→Nat} {s s':ty} {X:Nat→Prop} {w:World} {path off:Nat} {v:Value} {c:Prop},pred r s X w→fs r s path off v=some (c,s')→c→∀ {K:World→Prop},(∀w',pred r s' X w'→Ch X w w'→K w')→aA w ⟨r path,off,none⟩ [v] K:=by intro _ _ _ _ _ _ _ _ _ _ h;cases h
 st:(Nat→Nat)→ty→Nat→Nat→(tt:Nat)→E.el tt→Option (Prop×ty):=fun _ _ _ _ _ _=>none
 rn:∀ {r:Nat→Nat} {s s':ty} {X:Nat→Prop} {w:World} {j i:Nat} {L:Ls E.el} {x y:E.el L.t} {off:Nat} {vs:List Value} {c:Prop},pred r s X w→li r s j=some L→L.l[i]? =some x→off+vs.length≤(E.en L.t).size→(E.en L.t).enc y=((E.en L.t).enc x).take off++vs++((E.en L.t).enc x).drop (off+vs.length)→st r s j i L.t y=some (c,s')→c→∀ {K:World→Prop},(∀w',pred r s' X w'→Ch X w w'→K w')→aA w (((L.A.getD ⟨0,0,none⟩).add (i*(E.en L.t).size)).add off) vs K:=by intro _ _ _ _ _ _ _ _ _ _ _ _ _ _ _ _ _ _ h;cases h
 iv:Bool:=false
 inv:ty→Prop:=fun _=>True
 iu:∀ {r:Nat→Nat} {s:ty} {X:Nat→Prop} {w:World},pred r s X w→inv s:=by intros;trivial
 fo:(Nat→Nat)→ty→Nat→Nat→Option FV:=fun _ _ _ _=>none
 sf:∀ {r:Nat→Nat} {s:ty} {X:Nat→Prop} {w:World} {path off:Nat} {f:FV} {v:Value},pred r s X w→fo r s path off=some f→fvV r (li r s) f=some v→X (r path)∧w.cell? ⟨r path,off,none⟩=some v:=by intro _ _ _ _ _ _ _ _ _ h;cases h
 ix:Nat→Nat→Option Nat:=fun _ _=>none
 sa:∀ {r:Nat→Nat} {s:ty} {path off i:Nat} {L:Ls E.el},ix path off=some i→li r s i=some L→L.A=some ⟨r path,off,none⟩:=by intro _ _ _ _ _ _ h;cases h
 wl:(Nat→Nat)→ty→Nat→Nat→Nat→Option (Prop×List Value):=fun _ _ _ _ _=>none
 uO:∀ {r:Nat→Nat} {s:ty} {X:Nat→Prop} {w:World} {path off n:Nat} {c:Prop} {cs:List Value},pred r s X w→wl r s path off n=some (c,cs)→c→X (r path)∧∀j u,cs[j]? =some u→w.cell? ⟨r path,off+j,none⟩=some u:=by intro _ _ _ _ _ _ _ _ _ _ h;cases h
 ws:(Nat→Nat)→ty→Nat→Nat→List Value→Option (Prop×ty):=fun _ _ _ _ _=>none
 qU:∀ {r:Nat→Nat} {s s':ty} {X:Nat→Prop} {w:World} {path off:Nat} {vs:List Value} {c:Prop},pred r s X w→ws r s path off vs=some (c,s')→c→∀ {K:World→Prop},(∀w',pred r s' X w'→Ch X w w'→K w')→aA w ⟨r path,off,none⟩ vs K:=by intro _ _ _ _ _ _ _ _ _ _ h;cases h
def Kind.none(E:Els):Kind E where
 ty:=Unit
 pred:=fun _ _ X _=>∀k,¬X k
 ch:=fun h _ _=>h
 lt:=fun h k hk=>absurd hk (h k)
def Uni.of(E:Els)(K:Nat→Kind E)(cd:TypeId→Option Nat)(mko:TypeId→List Value→Option ((t:Nat)×(K t).ty))(wk:∀ {T:TypeId} {cs:List Value} {q:(t:Nat)×(K t).ty} {w:World} {g:Nat},mko T cs=some q→Blk w g ⟨cs⟩ T→(K q.1).pred (fun _=>g) q.2 (fun k=>k=g) w):Uni where
 ty:=fun t=>(K t).ty
 pred:=fun t=>(K t).pred
 ch:=fun {t}=>(K t).ch
 lt:=fun {t}=>(K t).lt
 el:=E.el
 en:=E.en
 df:=E.df
 dec:=E.dec
 iy:=E.iy
 cd:=cd
 li:=fun t=>(K t).li
 pN:=fun {t}=>(K t).pN
 fs:=fun t=>(K t).fs
 sd:=fun {t}=>(K t).sd
 st:=fun t=>(K t).st
 rn:=fun {t}=>(K t).rn
 iv:=fun t=>(K t).iv
 inv:=fun t=>(K t).inv
 iu:=fun {t}=>(K t).iu
 fo:=fun t=>(K t).fo
 sf:=fun {t}=>(K t).sf
 mko:=mko
 wk:=wk
 ix:=fun t=>(K t).ix
 sa:=fun {t}=>(K t).sa
 wl:=fun t=>(K t).wl
 uO:=fun {t}=>(K t).uO
 ws:=fun t=>(K t).ws
 qU:=fun {t}=>(K t).qU
section
section
variable {U:Uni} {P:Program} {tbl:Tb U} {may:List Nat} {k0:Nat}
def Ext(θ θ':Th):Prop:=∀j i,cY θ j=some i→cY θ' j=some i
theorem Ext.refl(θ:Th):Ext θ θ:=fun _ _ h=>h
theorem Ext.trans {a b c:Th}(h:Ext a b)(k:Ext b c):Ext a c:=fun j i hj=>k j i (h j i hj)
theorem iZ {j id:Nat} {θ:Th} {F:Th→Prop}(h:mQ j id θ F):∃θ',F θ'∧Ext θ θ'∧cY θ' j=some id:=by
 unfold mQ at h
 split at h
 ·rename_i hn
  refine⟨_,h,fun j' i hj=>?_,?_⟩
  ·unfold cY
   split
   ·rename_i he
    rw [← Nat.eq_of_beq_eq_true he,hn]at hj
    cases hj
   ·exact hj
  ·simp [cY]
 ·rename_i i hi
  split at h
  ·rename_i he
   exact⟨θ,h,Ext.refl θ,by rw [hi,Nat.eq_of_beq_eq_true he]⟩
  ·exact h.elim
theorem mh {j i:Nat}:∀ {θ:Th},cY θ j=some i→(j,i)∈θ
 | [],h=>by cases h
 | (a,b)::r,h=>by
  unfold cY at h
  split at h
  ·rename_i he
   injection h with h
   rw [← h,Nat.eq_of_beq_eq_true he]
   exact List.mem_cons_self ..
  ·exact List.mem_cons_of_mem _ (mh h)
theorem K8 {θ:Th}(hn:oR (aN (·.2) θ)=true) {a b i:Nat}(ha:cY θ a=some i)(hb:cY θ b=some i):a=b:=by
 have h1:=mh ha
 have h2:=mh hb
 have h3:=mU hn
 rw [gY]at h3
 have key:∀(l:Th),(l.map (·.2)).Nodup→(a,i)∈l→(b,i)∈l→a=b:=by
  intro l
  induction l with
  | nil=>intro _ h;cases h
  | cons x r ih=>
   intro hd h1 h2
   rw [List.map_cons,List.nodup_cons]at hd
   rcases List.mem_cons.1 h1 with e1 | h1
   ·rcases List.mem_cons.1 h2 with e2 | h2
    ·rw [← e1]at e2;injection e2 with e2;exact e2.symm
    ·exact absurd (List.mem_map.2 ⟨(b,i),h2,by rw [← e1]⟩) hd.1
   ·rcases List.mem_cons.1 h2 with e2 | h2
    ·exact absurd (List.mem_map.2 ⟨(a,i),h1,by rw [← e2]⟩) hd.1
    ·exact ih hd.2 h1 h2
 exact key θ h3 h1 h2
theorem PK.we {f:Nat→Option Nat} {p q:PK}(h:p.ren f=some q):f p.id=some q.id:=by
 cases p<;>simp only [PK.ren,Option.map_eq_some_iff]at h<;>obtain⟨i,hi,rfl⟩:=h<;>exact hi
theorem PK.GM {f g:Nat→Option Nat}(h:∀j i,f j=some i→g j=some i) {p q:PK}(hp:p.ren f=some q):p.ren g=some q:=by
 cases p<;>simp only [PK.ren,Option.map_eq_some_iff]at hp ⊢ <;>obtain⟨i,hi,rfl⟩:=hp<;>exact⟨i,h _ _ hi,rfl⟩
def Rel(r r':Res U):Prop:=r=r'∨∃(t:Nat)(own:Bool)(T T':TypeId)(A:Option Addr)(c:Nat)(l:List (U.el t)),r= .lst t false T A c l∧r'= .lst t own T' A c l
theorem Rel.den {r r':Res U}(h:Rel r r') {f:Nat→Option Nat} {p q:PK}(hp:p.ren f=some q):cz U p (some r)=cz U q (some r'):=by
 rcases h with rfl | ⟨t,own,T,T',A,c,l,rfl,rfl⟩
 ·cases p<;>simp only [PK.ren,Option.map_eq_some_iff]at hp<;>obtain⟨i,hi,rfl⟩:=hp<;>cases r<;>rfl
 ·cases p<;>simp only [PK.ren,Option.map_eq_some_iff]at hp<;>obtain⟨i,hi,rfl⟩:=hp<;>rfl
def Emb(f:Nat→Option Nat)(L G:List (Res U)):Prop:=∀j r,nth L j=some r→∃i r',f j=some i∧nth G i=some r'∧Rel r r'
theorem Emb.dn {f:Nat→Option Nat} {L G:List (Res U)}(h:Emb f L G) {p q:PK}(hp:p.ren f=some q) {v:Value}(hd:den U L p=some v):den U G q=some v:=by
 unfold V.den at hd ⊢
 cases hn:nth L p.id with
 | none=>rw [hn]at hd;cases p<;>simp [cz]at hd
 | some r=>
  rw [hn]at hd
  obtain⟨i,r',h1,h2,h3⟩:=h _ _ hn
  rw [PK.we hp]at h1
  injection h1 with h1
  subst h1
  rw [h2,← h3.den hp]
  exact hd
theorem dW {f:Nat→Option Nat} {l:List (Option PK)} {j:Nat} {q:PK}(h:nth (aN (rS f) l) j=some (some q)):∃p,nth l j=some (some p)∧p.ren f=some q:=by
 rw [bp]at h
 cases hn:nth l j with
 | none=>rw [hn]at h;cases h
 | some o=>
  rw [hn]at h
  injection h with h
  cases o with
  | none=>cases h
  | some p=>exact⟨p,rfl,h⟩
theorem Emb.kn {f:Nat→Option Nat} {L G:List (Res U)}(h:Emb f L G) {k k':Kn}(hk:k.ren f=some k') {v:Value}(hv:jv L v k):jv G v k':=by
 cases k with
 | pan=>exact hv.elim
 | p p=>
  simp only [Kn.ren,Option.map_eq_some_iff]at hk
  obtain⟨q,hq,rfl⟩:=hk
  exact h.dn hq hv
 | t l=>
  simp only [Kn.ren,Option.some.injEq]at hk
  subst hk
  obtain⟨vs,e,hh⟩:=hv
  refine⟨vs,e,fun j q hj=>?_⟩
  obtain⟨p,hp,hq⟩:=dW hj
  obtain⟨u,hu,hd⟩:=hh j p hp
  exact⟨u,hu,h.dn hq hd⟩
 | ag l=>
  simp only [Kn.ren,Option.some.injEq]at hk
  subst hk
  obtain⟨vs,e,hh⟩:=hv
  refine⟨vs,e,fun j q hj=>?_⟩
  obtain⟨p,hp,hq⟩:=dW hj
  obtain⟨u,hu,hd⟩:=hh j p hp
  exact⟨u,hu,h.dn hq hd⟩
 | f a b=>
  simp only [Kn.ren,Option.some.injEq]at hk
  subst hk
  obtain⟨fn,fs,cs,e,hl,h1,h2⟩:=hv
  refine⟨fn,fs,cs,e,by simpa using hl,fun j q hj=>?_,fun j q hj=>?_⟩
  ·obtain⟨p,hp,hq⟩:=dW hj
   obtain⟨u,hu,hd⟩:=h1 j p hp
   exact⟨u,hu,h.dn hq hd⟩
  ·obtain⟨p,hp,hq⟩:=dW hj
   obtain⟨u,hu,hd⟩:=h2 j p hp
   exact⟨u,hu,h.dn hq hd⟩
theorem Emb.knO {f:Nat→Option Nat} {L G:List (Res U)}(h:Emb f L G) {k:Option Kn} {v:Value}(hv:KnO L v k):KnO G v (Du f k):=by
 cases k with
 | none=>exact trivial
 | some k=>
  show KnO G v (k.ren f)
  cases hk:k.ren f with
  | none=>exact trivial
  | some k'=>exact h.kn hk hv
theorem j1 {f:Nat→Option Nat} {key:Key} {k':Kn}:∀ {l:List (Key×Kn)},(key,k')∈k5 f l→∃i i' o k,((key= .c i' o∧(Key.c i o,k)∈l)∨(key= .l i' o∧(Key.l i o,k)∈l))∧f i=some i'∧k.ren f=some k'
 | [],h=>by cases h
 | (.s _,_)::r,h=>by
  obtain⟨i,i',o,k,h1,h3⟩:=j1 (l:=r) h
  exact⟨i,i',o,k,h1.imp (fun h=>⟨h.1,List.mem_cons_of_mem _ h.2⟩) (fun h=>⟨h.1,List.mem_cons_of_mem _ h.2⟩),h3⟩
 | (.c i o,k)::r,h=>by
  have tail:(key,k')∈k5 f r→∃i1 i' o1 k1,((key= .c i' o1∧(Key.c i1 o1,k1)∈(Key.c i o,k)::r)∨(key= .l i' o1∧(Key.l i1 o1,k1)∈(Key.c i o,k)::r))∧f i1=some i'∧k1.ren f=some k':=fun h=>by
   obtain⟨i,i',o,k,h1,h3⟩:=j1 (l:=r) h
   exact⟨i,i',o,k,h1.imp (fun h=>⟨h.1,List.mem_cons_of_mem _ h.2⟩) (fun h=>⟨h.1,List.mem_cons_of_mem _ h.2⟩),h3⟩
  simp only [k5]at h
  split at h
  ·rename_i i' k2 hi hk
   rcases List.mem_cons.1 h with e | h
   ·injection e with e1 e2
    subst e1;subst e2
    exact⟨i,i',o,k,.inl ⟨rfl,List.mem_cons_self ..⟩,hi,hk⟩
   ·exact tail h
  ·exact tail h
 | (.l i o,k)::r,h=>by
  have tail:(key,k')∈k5 f r→∃i1 i' o1 k1,((key= .c i' o1∧(Key.c i1 o1,k1)∈(Key.l i o,k)::r)∨(key= .l i' o1∧(Key.l i1 o1,k1)∈(Key.l i o,k)::r))∧f i1=some i'∧k1.ren f=some k':=fun h=>by
   obtain⟨i,i',o,k,h1,h3⟩:=j1 (l:=r) h
   exact⟨i,i',o,k,h1.imp (fun h=>⟨h.1,List.mem_cons_of_mem _ h.2⟩) (fun h=>⟨h.1,List.mem_cons_of_mem _ h.2⟩),h3⟩
  simp only [k5]at h
  split at h
  ·rename_i i' k2 hi hk
   rcases List.mem_cons.1 h with e | h
   ·injection e with e1 e2
    subst e1;subst e2
    exact⟨i,i',o,k,.inr ⟨rfl,List.mem_cons_self ..⟩,hi,hk⟩
   ·exact tail h
  ·exact tail h
def AvD(θ:Th)(v:Value)(k:Option PK):AV→Prop
 | .v x=>x=v
 | .k p=>∃q,k=some q∧p.ren (cY θ)=some q
theorem AvD.mono {θ θ':Th}(h:Ext θ θ') {v:Value} {k:Option PK} {a:AV}(ha:AvD θ v k a):AvD θ' v k a:=by
 cases a with
 | v x=>exact ha
 | k p=>obtain⟨q,h1,h2⟩:=ha;exact⟨q,h1,PK.GM h h2⟩
def C0(θ:Th)(vs:List Value)(kc:Nat→Option PK)(i:Nat)(az:List AV):Prop:=az.length=vs.length∧∀j a v,nth az j=some a→nth vs j=some v→AvD θ v (kc (i+j)) a
theorem C0.mono {θ θ':Th}(h:Ext θ θ') {vs:List Value} {kc:Nat→Option PK} {i:Nat} {az:List AV}(ha:C0 θ vs kc i az):C0 θ' vs kc i az:=⟨ha.1,fun j a v h1 h2=>(ha.2 j a v h1 h2).mono h⟩
theorem DJ {T:Type} {c:CP} {J:c.T T} {v:Value} {k:Option PK} {θ:Th} {F:T→Th→Prop}(h:apC c J v k θ F):∃J' θ' a,F J' θ'∧Ext θ θ'∧(∀G:T→AV→Prop,alC c J G→G J' a)∧AvD θ' v k a:=by
 cases c with
 | int kk=>
  cases v<;>simp only [apC]at h<;>skip
  rename_i k' x
  split at h
  ·rename_i he
   obtain rfl:=nY he
   exact⟨_,θ,.v (.int kk x),h,Ext.refl θ,fun G hG=>hG x,rfl⟩
  ·exact h.elim
 | bool=>
  cases v<;>simp only [apC]at h<;>skip
  exact⟨_,θ,_,h,Ext.refl θ,fun G hG=>hG _,rfl⟩
 | str=>
  cases v<;>simp only [apC]at h<;>skip
  exact⟨_,θ,_,h,Ext.refl θ,fun G hG=>hG _,rfl⟩
 | any=>exact⟨_,θ,.v v,h,Ext.refl θ,fun G hG=>hG _,rfl⟩
 | hdr=>
  cases v<;>simp only [apC]at h<;>skip
  exact⟨_,θ,_,h,Ext.refl θ,fun G hG=>hG _ _ _,rfl⟩
 | nsl=>
  simp only [apC]at h
  split at h
  ·exact⟨_,θ,_,h,Ext.refl θ,fun G hG=>hG,rfl⟩
  ·exact h.elim
 | nil=>
  simp only [apC]at h
  split at h
  ·exact⟨_,θ,_,h,Ext.refl θ,fun G hG=>hG,rfl⟩
  ·exact h.elim
 | fn f=>
  simp only [apC]at h
  split at h
  ·split at h
   ·rename_i he
    obtain rfl:=Nat.eq_of_beq_eq_true he
    exact⟨_,θ,_,h,Ext.refl θ,fun G hG=>hG,rfl⟩
   ·exact h.elim
  ·exact h.elim
 | ptr j=>
  simp only [apC]at h
  split at h
  ·rename_i id
   obtain⟨θ',h1,h2,h3⟩:=iZ h
   exact⟨_,θ',_,h1,h2,fun G hG=>hG,_,rfl,by simp [PK.ren,h3]⟩
  ·exact h.elim
 | obj j path=>
  simp only [apC]at h
  split at h
  ·rename_i id p
   split at h
   ·rename_i he
    obtain⟨θ',h1,h2,h3⟩:=iZ h
    exact⟨_,θ',_,h1,h2,fun G hG=>hG,_,rfl,by simp [PK.ren,h3,Nat.eq_of_beq_eq_true he]⟩
   ·exact h.elim
  ·exact h.elim
 | sl j=>
  simp only [apC]at h
  split at h
  ·rename_i id
   obtain⟨θ',h1,h2,h3⟩:=iZ h
   exact⟨_,θ',_,h1,h2,fun G hG=>hG,_,rfl,by simp [PK.ren,h3]⟩
  ·exact h.elim
theorem su {T:Type}:∀ {l:List CP} {J:CQ l T} {vs:List Value} {kc:Nat→Option PK} {i:Nat} {θ:Th} {F:T→Th→Prop},J6 l J vs kc i θ F→∃J' θ' az,F J' θ'∧Ext θ θ'∧(∀G:T→List AV→Prop,BT l J G→G J' az)∧C0 θ' vs kc i az
 | [],J,[],kc,i,θ,F,h=>⟨J,θ,[],h,Ext.refl θ,fun G hG=>hG,rfl,fun j a v ha=>by simp [nth]at ha⟩
 | [],_,_::_,_,_,_,_,h=>h.elim
 | c::l,J,[],_,_,_,_,h=>h.elim
 | c::l,J,v::vs,kc,i,θ,F,h=>by
  obtain⟨J1,θ1,a,h1,e1,g1,d1⟩:=DJ h
  obtain⟨J2,θ2,az,h2,e2,g2,d2⟩:=su h1
  refine⟨J2,θ2,a::az,h2,e1.trans e2,fun G hG=>g2 (fun J'' vs=>G J'' (a::vs)) (g1 (fun J' a'=>BT l J' fun J'' vs=>G J'' (a'::vs)) hG),?_,fun j b u hb hu=>?_⟩
  ·simp [d2.1]
  ·cases j with
   | zero=>
    simp only [nth,Option.some.injEq]at hb hu
    subst hb;subst hu
    exact d1.mono e2
   | succ j=>
    have:=d2.2 j b u hb hu
    rwa [show i+1+j=i+(j+1)by omega]at this
def AaD(θ:Th)(v:Value)(k:Option Kn):AA→Prop
 | .one a=>AvD θ v (jA k) a
 | .agg az=>∃cs,v= .agg cs∧C0 θ cs.toList (LR k) 0 az
theorem AaD.mono {θ θ':Th}(h:Ext θ θ') {v:Value} {k:Option Kn} {a:AA}(ha:AaD θ v k a):AaD θ' v k a:=by
 cases a with
 | one a=>exact AvD.mono h ha
 | agg az=>obtain⟨cs,e,hh⟩:=ha;exact⟨cs,e,hh.mono h⟩
theorem zg {T:Type}:∀ {l:List AP} {J:C1 U l T} {vs:List Value} {ks:List (Option Kn)} {θ:Th} {F:T→Th→Prop},zh l J vs ks θ F→∃J' θ' az,F J' θ'∧Ext θ θ'∧(∀G:T→List AA→Prop,wT l J G→G J' az)∧az.length=vs.length∧∀j a v,nth az j=some a→nth vs j=some v→∃k,nth ks j=some k∧AaD θ' v k a
 | [],J,[],ks,θ,F,h=>⟨J,θ,[],h,Ext.refl θ,fun G hG=>hG,rfl,fun j a v ha=>by simp [nth]at ha⟩
 | [],_,_::_,_,_,_,h=>by simp [zh]at h
 | _::_,_,[],_,_,_,h=>by simp [zh]at h
 | _::_,_,_::_,[],_,_,h=>by simp [zh]at h
 | a::l,J,v::vs,k::ks,θ,F,h=>by
  simp only [zh]at h
  have one:∃J' θ' x,zh l J' vs ks θ' F∧Ext θ θ'∧(∀G:C1 U l T→AA→Prop,alA a J G→G J' x)∧AaD θ' v k x:=by
   cases a with
   | one c=>
    obtain⟨J1,θ1,x,h1,e1,g1,d1⟩:=DJ (show apC c J v (jA k) θ _ from h)
    exact⟨J1,θ1,.one x,h1,e1,fun G hG=>g1 (fun J' y=>G J' (.one y)) hG,d1⟩
   | agg cs=>
    simp only [apA]at h
    split at h
    ·rename_i vs'
     obtain⟨J1,θ1,x,h1,e1,g1,d1⟩:=su h
     exact⟨J1,θ1,.agg x,h1,e1,fun G hG=>g1 (fun J' y=>G J' (.agg y)) hG,vs',rfl,d1⟩
    ·exact h.elim
   | enc tt=>
    simp only [apA]at h
    split at h
    ·rename_i cs
     split at h
     ·rename_i x hx
      have e:=U.iy hx
      refine⟨_,θ,.agg (aN .v ((U.en tt).enc x)),h,Ext.refl θ,fun G hG=>hG x,cs,rfl,?_,fun j a v ha hv=>?_⟩
      ·rw [e,gY,List.length_map]
      ·rw [e,bp,hv]at ha
       injection ha with ha
       subst ha;rfl
     ·exact h.elim
    ·exact h.elim
  obtain⟨J1,θ1,x,h1,e1,g1,d1⟩:=one
  obtain⟨J2,θ2,az,h2,e2,g2,l2,d2⟩:=zg h1
  refine⟨J2,θ2,x::az,h2,e1.trans e2,fun G hG=>g2 (fun J'' vs=>G J'' (x::vs)) (g1 (fun J' a'=>wT l J' fun J'' vs=>G J'' (a'::vs)) hG),by simp [l2],fun j b u hb hu=>?_⟩
  cases j with
  | zero=>
   simp only [nth,Option.some.injEq]at hb hu
   subst hb;subst hu
   exact⟨k,rfl,d1.mono e2⟩
  | succ j=>exact d2 j b u hb hu
def LkD(θ:Th)(kl:Nat→Option PK)(lk:List (Nat×Nat×Nat)):Prop:=∀p j q,(p,j,q)∈lk→∃i,kl p=some (.obj i q 0)∧cY θ j=some i
def PrD(θ:Th)(kc kl:Nat→Option PK):PR U→Res U→Prop
 | .ob t r s lk,x=>x= .ob t r s∧LkD θ kl lk
 | .blk g az T,x=>∃cs,x= .blk g cs T∧C0 θ cs kc 0 az
 | .lst t own T A c l,x=>∃own' T',x= .lst t own' T' A c l∧(own=true→own'=true∧T'=T)
theorem PrD.mono {θ θ':Th}(h:Ext θ θ') {kc kl:Nat→Option PK} {p:PR U} {x:Res U}(hp:PrD θ kc kl p x):PrD θ' kc kl p x:=by
 cases p with
 | ob t r s lk=>exact⟨hp.1,fun p j q hm=>by obtain⟨i,h1,h2⟩:=hp.2 p j q hm;exact⟨i,h1,h _ _ h2⟩⟩
 | blk g az T=>obtain⟨cs,e,hh⟩:=hp;exact⟨cs,e,hh.mono h⟩
 | lst t own T A c l=>exact hp
def Lg:RP→Bool
 | .lst _ own _=>!own
 | _=>false
def Ln:PR U→Bool
 | .lst _ own _ _ _ _=>!own
 | _=>false
theorem zf:∀ {l:List (Nat×Nat×Nat)} {kl:Nat→Option PK} {θ:Th} {F:Th→Prop},J5 l kl θ F→∃θ',F θ'∧Ext θ θ'∧LkD θ' kl l
 | [],kl,θ,F,h=>⟨θ,h,Ext.refl θ,fun _ _ _ hm=>by cases hm⟩
 | (p,j,q)::l,kl,θ,F,h=>by
  simp only [J5]at h
  split at h
  ·rename_i i q' hk
   split at h
   ·rename_i hq
    have hq:=Nat.eq_of_beq_eq_true hq
    subst hq
    obtain⟨θ1,h1,e1,g1⟩:=iZ h
    obtain⟨θ2,h2,e2,g2⟩:=zf h1
    refine⟨θ2,h2,e1.trans e2,fun p' j' q'' hm=>?_⟩
    rcases List.mem_cons.1 hm with e | hm
    ·injection e with ea eb
     injection eb with eb ec
     subst ea;subst eb;subst ec
     exact⟨i,hk,e2 _ _ g1⟩
    ·exact g2 _ _ _ hm
   ·exact h.elim
  ·exact h.elim
theorem J4 {T:Type} {p:RP} {J:p.T U T} {r:Option (Res U)} {kc kl:Nat→Option PK} {θ:Th} {F:T→Th→Prop}(h:apR p J r kc kl θ F):∃J' θ' x y,r=some x∧F J' θ'∧Ext θ θ'∧(∀G:T→PR U→Prop,alR p J G→G J' y)∧PrD θ' kc kl y x∧Ln y=Lg p:=by
 cases p with
 | ob t lk=>
  cases r with
  | none=>exact h.elim
  | some x=>
   cases x<;>simp only [apR]at h<;>skip
   rename_i t' r s
   split at h
   ·rename_i ht
    subst ht
    obtain⟨θ1,h1,e1,g1⟩:=zf h
    exact⟨_,θ1,_,.ob t' r s lk,rfl,h1,e1,fun G hG=>hG r s,⟨rfl,g1⟩,rfl⟩
   ·exact h.elim
 | blk l T'=>
  cases r with
  | none=>exact h.elim
  | some x=>
   cases x<;>simp only [apR]at h<;>skip
   rename_i g cs T''
   split at h
   ·rename_i ht
    obtain⟨J1,θ1,az,h1,e1,g1,d1⟩:=su h
    exact⟨J1,θ1,_,.blk g az T',rfl,h1,e1,fun G hG=>g1 (fun J' cs=>G J' (.blk g cs T')) (hG g),⟨cs,by rw [Nat.eq_of_beq_eq_true ht],d1⟩,rfl⟩
   ·exact h.elim
 | lst t own T'=>
  cases r with
  | none=>exact h.elim
  | some x=>
   cases x<;>simp only [apR]at h<;>skip
   rename_i t' own' T'' A c l
   split at h
   ·rename_i hb
    split at h
    ·rename_i ht
     subst ht
     refine⟨_,θ,_,.lst t' own T' A c l,rfl,h,Ext.refl θ,fun G hG=>hG A c l,⟨own',T'',rfl,fun ho=>?_⟩,rfl⟩
     subst ho
     simp only [Bool.not_true,Bool.false_or,Bool.and_eq_true]at hb
     exact⟨hb.1,Nat.eq_of_beq_eq_true hb.2⟩
    ·exact h.elim
   ·exact h.elim
theorem ze {T:Type} {rs:List (Res U)} {kn:List (Key×Kn)}:∀ {l:List RP} {J:EZ U l T} {j0:Nat} {θ:Th} {F:T→Th→Prop},J0 rs kn l J j0 θ F→∃J' θ' ps,F J' θ'∧Ext θ θ'∧(∀G:T→List (PR U)→Prop,wS l J G→G J' ps)∧ps.length=l.length∧
 ∀j p,nth ps j=some p→∃id x,cY θ' (j0+j)=some id∧nth rs id=some x∧PrD θ' (fun o=>jA (dw (.c id o) kn)) (fun q=>jA (dw (.l id q) kn)) p x∧∃q,nth l j=some q∧Ln p=Lg q
 | [],J,j0,θ,F,h=>⟨J,θ,[],h,Ext.refl θ,fun G hG=>hG,rfl,fun j p hp=>by simp [nth]at hp⟩
 | p::l,J,j0,θ,F,h=>by
  simp only [J0]at h
  split at h
  ·rename_i id hid
   obtain⟨J1,θ1,x,y,e0,h1,e1,g1,d1,q1⟩:=J4 h
   obtain⟨J2,θ2,ps,h2,e2,g2,l2,d2⟩:=ze h1
   refine⟨J2,θ2,y::ps,h2,e1.trans e2,fun G hG=>g2 (fun J'' xs=>G J'' (y::xs)) (g1 (fun J' y'=>wS l J' fun J'' xs=>G J'' (y'::xs)) hG),by simp [l2],fun j q hq=>?_⟩
   cases j with
   | zero=>
    simp only [nth,Option.some.injEq]at hq
    subst hq
    exact⟨id,x,e2 _ _ (e1 _ _ hid),e0,d1.mono e2,p,rfl,q1⟩
   | succ j=>
    obtain⟨id',x',h3,h4,h5,h6⟩:=d2 j q hq
    exact⟨id',x',by rw [show j0+(j+1)=j0+1+j by omega];exact h3,h4,h5,h6⟩
  ·exact h.elim
theorem vn {rs:List (Res U)}:∀ {l:List (Nat×Nat)} {θ:Th} {F:Th→Prop},DI rs l θ F→∃θ',F θ'∧Ext θ θ'
 | [],θ,F,h=>⟨θ,h,Ext.refl θ⟩
 | (j,t)::l,θ,F,h=>by
  simp only [DI]at h
  split at h
  ·obtain⟨θ1,h1,e1,_⟩:=iZ h
   obtain⟨θ2,h2,e2⟩:=vn h1
   exact⟨θ2,h2,e1.trans e2⟩
  ·exact h.elim
structure eD(w0:World)(k0:Nat)(X0:Nat→Nat→Prop)(may:List Nat)(fr:Fr)(st:St U)(X:Nat→Nat→Prop)(w:World)(st':St U)(X':Nat→Nat→Prop)(w':World)(M:List Nat):Prop where
 inv:Inv w0 k0 X0 may st'.rs X' w'
 kn:aC st'.rs fr st'.kn
 md:st'.md=M++st.md
 mlt:∀i,i∈M→i<st.rs.length
 can:∀i,i∈M→i∈may∨k0≤i
 len:st.rs.length≤st'.rs.length
 same:∀i,i<st.rs.length→i ∉ M→nth st'.rs i=nth st.rs i∧X' i=X i
 grow:∀i,i∈M→∀k,X' i k→X i k∨w.heap.size≤k
 new:∀i,st.rs.length≤i→i<st'.rs.length→∀k,X' i k→w.heap.size≤k
 ch:Ch (fun k=>∃j,j∈M∧X j k) w w'
 root:∀i a,nth st.rs i=some a→∃b,nth st'.rs i=some b∧dI a b
theorem g7 {i:Nat}(h:oe may k0 i=true):i∈may∨k0≤i:=by
 unfold oe at h
 split at h
 ·rename_i hb;exact .inr (Nat.le_of_ble_eq_true hb)
 ·exact .inl (ft.1 h)
theorem gg:∀ {M:List Nat} {us:List (Upd U)} {rs rs':List (Res U)},bx rs M us=some rs'→rs'.length=rs.length∧(∀i,i ∉ M→nth rs' i=nth rs i)∧∀i,i∈M→i<rs.length∧∀a,nth rs i=some a→∃b,nth rs' i=some b∧dI a b
 | [],[],rs,rs',h=>by
  simp only [bx,Option.some.injEq]at h
  subst h
  exact⟨rfl,fun _ _=>rfl,fun i hi=>by cases hi⟩
 | [],_::_,_,_,h=>by simp [bx]at h
 | _::_,[],_,_,h=>by simp [bx]at h
 | i::M,u::us,rs,rs',h=>by
  simp only [bx]at h
  split at h
  ·rename_i r hr
   split at h
   ·rename_i r' Oh
    obtain⟨h1,h2,h3⟩:=gg h
    have hi:=aX hr
    simp only [xZ]at h1 h3
    have e:∀j,nth (cJ rs i r') j=if j=i then some r' else nth rs j:=fun j=>by
     rw [bB]
     by_cases hj:j=i
     ·rw [if_pos ⟨hj,hi⟩,if_pos hj]
     ·rw [if_neg (fun hh=>hj hh.1),if_neg hj]
    refine⟨h1,fun j hj=>?_,fun j hj=>?_⟩
    ·rw [List.mem_cons,not_or]at hj
     rw [h2 j hj.2,e,if_neg hj.1]
    ·refine⟨?_,fun a ha=>?_⟩
     ·rcases List.mem_cons.1 hj with rfl | hj
      ·exact hi
      ·exact(h3 j hj).1
     ·by_cases O5:j=i
      ·subst O5
       rw [hr]at ha
       injection ha with ha
       subst ha
       have Vb:=zc Oh
       by_cases hm:j∈M
       ·obtain⟨b,hb,hrb⟩:=(h3 j hm).2 r' (by rw [e,if_pos rfl])
        exact⟨b,hb,Vb.trans hrb⟩
       ·exact⟨r',by rw [h2 j hm,e,if_pos rfl],Vb⟩
      ·have hm:j∈M:=(List.mem_cons.1 hj).resolve_left O5
       exact(h3 j hm).2 a (by rw [e,if_neg O5];exact ha)
   ·cases h
  ·cases h
theorem pV {f:Nat→Option Nat}(RN:∀a b i,f a=some i→f b=some i→a=b):∀ {ms M:List Nat} {us:List (Upd U)} {L L' G G':List (Res U)},jf f ms=some M→bx L ms us=some L'→bx G M us=some G'→Emb f L G→(∀j,j∈ms→∀r,nth L j=some r→∃i,f j=some i∧nth G i=some r)→
 Emb f L' G'∧∀j,j∈ms→∀r,nth L' j=some r→∃i,f j=some i∧nth G' i=some r
 | [],M,us,L,L',G,G',hM,hL,hG,hE,hR=>by
  simp only [jf,Option.some.injEq]at hM
  subst hM
  cases us with
  | cons u us=>simp [bx]at hL
  | nil=>
   simp only [bx,Option.some.injEq]at hL hG
   subst hL;subst hG
   exact⟨hE,fun j hj=>by cases hj⟩
 | m::ms,M,us,L,L',G,G',hM,hL,hG,hE,hR=>by
  simp only [jf]at hM
  split at hM
  ·rename_i i M' hi hM'
   injection hM with hM
   subst hM
   cases us with
   | nil=>simp [bx]at hL
   | cons u us=>
    simp only [bx]at hL hG
    split at hL
    ·rename_i r hr
     split at hL
     ·rename_i r1 Si
      obtain⟨i',h1,h2⟩:=hR m (List.mem_cons_self ..) r hr
      rw [hi]at h1
      injection h1 with h1
      subst h1
      rw [h2]at hG
      simp only [Si]at hG
      have hml:=aX hr
      have hil:=aX h2
      have key:∀j x,nth (cJ L m r1) j=some x→(j=m∧x=r1)∨(j≠m∧nth L j=some x):=by
       intro j x hx
       rw [bB]at hx
       by_cases hj:j=m
       ·rw [if_pos ⟨hj,hml⟩]at hx
        injection hx with hx
        exact .inl ⟨hj,hx.symm⟩
       ·rw [if_neg (fun hh=>hj hh.1)]at hx
        exact .inr ⟨hj,hx⟩
      have keyG:∀j,nth (cJ G i r1) j=if j=i then some r1 else nth G j:=fun j=>by
       rw [bB]
       by_cases hj:j=i
       ·rw [if_pos ⟨hj,hil⟩,if_pos hj]
       ·rw [if_neg (fun hh=>hj hh.1),if_neg hj]
      have r1':=pV RN hM' hL hG (fun j x hx=>by
       rcases key j x hx with⟨rfl,rfl⟩ | ⟨hj,hx⟩
       ·exact⟨i,_,hi,by rw [keyG,if_pos rfl],.inl rfl⟩
       ·obtain⟨a,b,h3,h4,h5⟩:=hE j x hx
        exact⟨a,b,h3,by rw [keyG,if_neg (by rintro rfl;exact hj (RN _ _ _ h3 hi))];exact h4,h5⟩) (fun j hj x hx=>by
       rcases key j x hx with⟨rfl,rfl⟩ | ⟨QS,hx⟩
       ·exact⟨i,hi,by rw [keyG,if_pos rfl]⟩
       ·obtain⟨a,h3,h4⟩:=hR j (List.mem_cons_of_mem _ hj) x hx
        exact⟨a,h3,by rw [keyG,if_neg (by rintro rfl;exact QS (RN _ _ _ h3 hi))];exact h4⟩)
      refine⟨r1'.1,fun j hj x hx=>?_⟩
      by_cases Wm:j∈ms
      ·exact r1'.2 j Wm x hx
      ·have aeb:j=m:=(List.mem_cons.1 hj).resolve_right Wm
       subst aeb
       have a1:=(gg hL).2.1 j Wm
       rw [hx,bB,if_pos ⟨rfl,hml⟩]at a1
       injection a1 with a1
       subst a1
       have hiM:i ∉ M':=by
        intro hh
        have:∀ {l M':List Nat},jf f l=some M'→i∈M'→∃a∈l,f a=some i:=by
         intro l
         induction l with
         | nil=>intro M' h hh;simp only [jf,Option.some.injEq]at h;subst h;cases hh
         | cons a l ih=>
          intro M' h hh
          simp only [jf]at h
          split at h
          ·rename_i b bs hb Xk
           injection h with h
           subst h
           rcases List.mem_cons.1 hh with rfl | hh
           ·exact⟨a,List.mem_cons_self ..,hb⟩
           ·obtain⟨c,hc,hfc⟩:=ih Xk hh
            exact⟨c,List.mem_cons_of_mem _ hc,hfc⟩
          ·cases h
        obtain⟨a,ha,hfa⟩:=this hM' hh
        exact Wm (RN _ _ _ hfa hi▸ha)
       refine⟨i,hi,?_⟩
       rw [(gg hG).2.1 i hiM,keyG,if_pos rfl]
     ·cases hL
    ·cases hL
  ·cases hM
theorem yA {α β:Type} {f:α→Option β}:∀ {l:List α} {r:List β},jf f l=some r→∀b,b∈r→∃a,a∈l∧f a=some b
 | [],r,h,b,hb=>by
  simp only [jf,Option.some.injEq]at h
  subst h
  cases hb
 | a::l,r,h,b,hb=>by
  simp only [jf]at h
  split at h
  ·rename_i c cs hc O0
   injection h with h
   subst h
   rcases List.mem_cons.1 hb with rfl | hb
   ·exact⟨a,List.mem_cons_self ..,hc⟩
   ·obtain⟨x,hx,hfx⟩:=yA O0 b hb
    exact⟨x,List.mem_cons_of_mem _ hx,hfx⟩
  ·cases h
theorem mr {α β:Type} {f:α→Option β}:∀ {l:List α} {r:List β},jf f l=some r→∀a,a∈l→∃b,b∈r∧f a=some b
 | [],r,h,a,ha=>by cases ha
 | a::l,r,h,x,hx=>by
  simp only [jf]at h
  split at h
  ·rename_i c cs hc O0
   injection h with h
   subst h
   rcases List.mem_cons.1 hx with rfl | hx
   ·exact⟨c,List.mem_cons_self ..,hc⟩
   ·obtain⟨b,hb,hfb⟩:=mr O0 x hx
    exact⟨b,List.mem_cons_of_mem _ hb,hfb⟩
  ·cases h
theorem j3 {ps:List (PR U)} {j:Nat}:nth (et ps) j=(nth ps j).map (PR.fin (aN PR.jR ps)):=by
 unfold et
 exact bp _ _ _
@[simp] theorem L9(ps:List (PR U)):(et ps).length=ps.length:=by unfold et;simp
theorem qM(ps:List (PR U))(p:PK):den U (et ps) p=den U (aN PR.jR ps) p:=by
 unfold den
 rw [j3,bp]
 cases nth ps p.id with
 | none=>rfl
 | some y=>cases y<;>cases p<;>rfl
theorem Ds {i:Nat} {key:Key} {k:Kn}:∀ {l:List (Nat×Nat×Nat)},(key,k)∈lkK i l→∃p j q,(p,j,q)∈l∧key= .l i p∧k= .p (.obj j q 0)
 | (p,j,q)::l,h=>by
  rcases List.mem_cons.1 h with e | h
  ·injection e with e1 e2
   exact⟨p,j,q,List.mem_cons_self ..,e1,e2⟩
  ·obtain⟨p',j',q',h1,h2⟩:=Ds (l:=l) h
   exact⟨p',j',q',List.mem_cons_of_mem _ h1,h2⟩
theorem jZ {key:Key} {k:Kn}:∀ {l:List (PR U)} {i:Nat},(key,k)∈wq i l→∃j t r s lk p j' q,nth l j=some (.ob t r s lk)∧(p,j',q)∈lk∧key= .l (i+j) p∧k= .p (.obj j' q 0)
 | [],_,h=>by cases h
 | .ob t r s lk::l,i,h=>by
  rcases List.mem_append.1 h with h | h
  ·obtain⟨p,j',q,h1,h2,h3⟩:=Ds h
   exact⟨0,t,r,s,lk,p,j',q,rfl,h1,h2,h3⟩
  ·obtain⟨j,t,r,s,lk,p,j',q,h1,h2,h3,h4⟩:=jZ (l:=l) h
   exact⟨j+1,t,r,s,lk,p,j',q,h1,h2,by rw [h3];congr 1;omega,h4⟩
 | .blk _ _ _::l,i,h=>by
  obtain⟨j,t,r,s,lk,p,j',q,h1,h2,h3,h4⟩:=jZ (l:=l) h
  exact⟨j+1,t,r,s,lk,p,j',q,h1,h2,by rw [h3];congr 1;omega,h4⟩
 | .lst _ _ _ _ _ _::l,i,h=>by
  obtain⟨j,t,r,s,lk,p,j',q,h1,h2,h3,h4⟩:=jZ (l:=l) h
  exact⟨j+1,t,r,s,lk,p,j',q,h1,h2,by rw [h3];congr 1;omega,h4⟩
theorem vf(f:Nat→Option Nat)(k:Option Kn)(v:Value):g6 (Du f k) v=g6 k v:=by
 cases k with
 | none=>rfl
 | some k=>
  cases k with
  | p p=>show g6 ((p.ren f).map .p) v=_;cases p.ren f<;>rfl
  | _=>rfl
theorem fv {rs:List (Res U)} {v:Value} {k:Option Kn}(h:KnO rs v k):Ending.returned v=g6 k v:=by
 cases k with
 | none=>rfl
 | some k=>cases k<;>first | rfl | exact h.elim
theorem vk {f:Nat} {args:List Value} {ks:List (Option Kn)} {st:St U} {K:gi U} {w0:World} {X0 X:Nat→Nat→Prop} {w:World} {fr:Fr}(Pp:∀f c,tbl.c f=some c→LV U P f c)(hI:Inv w0 k0 X0 may st.rs X w)(hk:aC st.rs fr st.kn)
 (hks:∀j v k,nth args j=some v→nth ks j=some k→KnO st.rs v k)(h:call2 U tbl may k0 f args ks st K):
 Calls P f ⟨args⟩ w fun e w'=>∃v k st' X' M,e=g6 k v∧K v k st'∧(k=some .pan∨KnO st'.rs v k)∧eD w0 k0 X0 may fr st X w st' X' w' M:=by
 unfold call2 at h
 split at h
 ·exact h.elim
 rename_i c hc
 have hlv:=Pp f c hc
 obtain⟨B1,θ1,az,h,e1,g1,la,da⟩:=zg h
 obtain⟨θ2,h,e2⟩:=vn h
 obtain⟨B2,θ,ps,h,e3,g3,lp,dp⟩:=ze h
 split at h
 case h_2=>exact h.elim
 rename_i M hb hM
 simp only [Bool.and_eq_true]at hb
 obtain⟨QE,ael,O9⟩:=hb
 split at h
 case h_2=>exact h.elim
 rename_i O6
 have RN:∀a b i,cY θ a=some i→cY θ b=some i→a=b:=fun a b i=>K8 QE
 have Ow:∀j i,cY θ j=some i→j<ps.length:=fun j i hj=>by
  have:=cC.1 ael _ (mh hj)
  rw [lp]
  simpa [Nat.blt_eq]using this
 have Ps:∀ {p q v},p.ren (cY θ)=some q→den U st.rs q=some v→den U (aN PR.jR ps) p=some v:=by
  intro p q v hp hd
  obtain⟨y,hy⟩:=cf (Ow _ _ (PK.we hp))
  obtain⟨id,x,h1,h2,h3,_⟩:=dp _ y hy
  rw [Nat.zero_add,PK.we hp]at h1
  injection h1 with h1
  subst h1
  unfold den at hd ⊢
  rw [h2]at hd
  rw [bp,hy,← hd]
  simp only [Option.map_some]
  cases y with
  | ob t r s lk=>
   cases h3.1
   cases p<;>simp only [PK.ren,Option.map_eq_some_iff]at hp<;>obtain⟨i,hi,rfl⟩:=hp<;>rfl
  | blk g as' T=>
   obtain⟨cs,rfl,_⟩:=h3
   cases p<;>simp only [PK.ren,Option.map_eq_some_iff]at hp<;>obtain⟨i,hi,rfl⟩:=hp<;>rfl
  | lst t own T A c' l=>
   obtain⟨own',T',rfl,_⟩:=h3
   cases p<;>simp only [PK.ren,Option.map_eq_some_iff]at hp<;>obtain⟨i,hi,rfl⟩:=hp<;>rfl
 have hav:∀ {v:Value} {k:Option PK} {a:AV},AvD θ v k a→(∀p,k=some p→den U st.rs p=some v)→j4 (aN PR.jR ps) a=v:=by
  intro v k a ha XZ
  cases a with
  | v x=>exact ha
  | k p=>
   obtain⟨q,hq,hr⟩:=ha
   show(den U _ p).getD undef=v
   rw [Ps hr (XZ q hq)];rfl
 have acq:∀ {vs:List Value} {kc:Nat→Option PK} {az:List AV},C0 θ vs kc 0 az→(∀j v p,nth vs j=some v→kc j=some p→den U st.rs p=some v)→aN (j4 (aN PR.jR ps)) az=vs:=by
  intro vs kc az hd XZ
  apply List.ext_getElem?
  intro j
  rw [← aQ,← aQ,bp]
  cases ha:nth az j with
  | none=>
   have:vs.length≤j:=by
    rw [← hd.1]
    apply Nat.le_of_not_lt
    intro hh
    obtain⟨x,hx⟩:=cf hh
    rw [hx]at ha;cases ha
   rw [rW this];rfl
  | some a=>
   obtain⟨v,hv⟩:=cf (l:=vs) (i:=j) (by rw [← hd.1];exact aX ha)
   rw [hv]
   have hd':=hd.2 j a v ha hv
   rw [Nat.zero_add]at hd'
   exact congrArg some (hav hd' (fun p hp=>XZ j v p hv hp))
 have QN:aN (sz (aN PR.jR ps)) az=args:=by
  apply List.ext_getElem?
  intro j
  rw [← aQ,← aQ,bp]
  cases ha:nth az j with
  | none=>
   have:args.length≤j:=by
    rw [← la]
    apply Nat.le_of_not_lt
    intro hh
    obtain⟨x,hx⟩:=cf hh
    rw [hx]at ha;cases ha
   rw [rW this];rfl
  | some a=>
   obtain⟨v,hv⟩:=cf (l:=args) (i:=j) (by rw [← la];exact aX ha)
   rw [hv]
   obtain⟨k,OQ,hd⟩:=da j a v ha hv
   have hd:=hd.mono (e2.trans e3)
   have P2:=hks j v k hv OQ
   cases a with
   | one a=>
    refine congrArg some (hav hd fun p hp=>?_)
    unfold jA at hp
    split at hp
    ·injection hp with hp;subst hp;exact P2
    ·cases hp
   | agg as'=>
    obtain⟨cs,rfl,hd2⟩:=hd
    have h9:=acq hd2 (fun j v p hv hp=>by
     unfold LR at hp
     split at hp
     ·rename_i l _
      obtain⟨cs',e,hh⟩:=P2
      injection e with e
      subst e
      split at hp
      ·rename_i o ho
       subst hp
       obtain⟨u,hu,hd⟩:=hh _ _ ho
       rw [aQ]at hv
       have:some v=some u:=by rw [← hv,← hu];simp
       injection this with this
       rw [this];exact hd
      ·cases hp
     ·cases hp)
    show some (Value.agg ⟨aN _ as'⟩)=_
    rw [h9]
 have Sn:Emb (cY θ) (et ps) st.rs:=by
  intro j r hr
  rw [j3]at hr
  cases hy:nth ps j with
  | none=>rw [hy]at hr;cases hr
  | some y=>
   rw [hy]at hr
   injection hr with hr
   obtain⟨id,x,h1,h2,h3,_⟩:=dp _ y hy
   rw [Nat.zero_add]at h1
   refine⟨id,x,h1,h2,?_⟩
   cases y with
   | ob t r' s lk=>exact .inl (by rw [← hr,h3.1];rfl)
   | blk g as' T=>
    obtain⟨cs,rfl,hd⟩:=h3
    left
    rw [← hr]
    show Res.blk g (aN _ as') T=_
    rw [acq hd fun o v p hv hp=>?_]
    unfold jA at hp
    split at hp
    ·rename_i q hq
     injection hp with hp
     subst hp
     obtain⟨g',cs',T',u,e4,e5,e6⟩:=hk.get hq
     rw [h2]at e4
     injection e4 with e4
     injection e4 with _ e4 _
     subst e4
     rw [hv]at e5
     injection e5 with e5
     subst e5
     exact e6
    ·cases hp
   | lst t own T A c' l=>
    obtain⟨own',T',rfl,ho⟩:=h3
    cases own with
    | false=>exact .inr ⟨t,own',T,T',A,c',l,hr.symm,rfl⟩
    | true=>
     obtain⟨ho1,Rq⟩:=ho rfl
     left
     rw [← hr,ho1,Rq];rfl
 have ad4:∀j,j∈c.bn→∀r,nth (et ps) j=some r→∃i,cY θ j=some i∧nth st.rs i=some r:=by
  intro j hj r hr
  obtain⟨i,r',h1,h2,h3⟩:=Sn j r hr
  refine⟨i,h1,?_⟩
  rcases h3 with rfl | ⟨t,own,T,T',A,c',l,rfl,rfl⟩
  ·exact h2
  ·exfalso
   have hm:=cC.1 O9 j hj
   rw [j3]at hr
   cases hy:nth ps j with
   | none=>rw [hy]at hr;cases hr
   | some y=>
    rw [hy]at hr
    injection hr with hr
    obtain⟨_,_,_,_,_,q,hq,hqr⟩:=dp j y hy
    rw [hq]at hm
    have hy1:Ln y=true:=by
     cases y<;>simp only [PR.fin,reduceCtorEq]at hr
     injection hr with e1 e2
     subst e2;rfl
    rw [hy1]at hqr
    cases q<;>simp [Lg]at hqr
    subst hqr
    simp at hm
 have Tm:∀j i,cY θ j=some i→X ((cY θ j).getD 0)=X i:=fun j i hj=>by simp [hj]
 have hsat:Sat (et ps) (fun j=>X ((cY θ j).getD 0)) w:=by
  refine⟨fun j r hr=>?_,fun i j hi hj OS k O4=>?_⟩
  ·obtain⟨i,r',h1,h2,h3⟩:=Sn j r hr
   rw [Tm j i h1]
   have:=hI.sat.res i r' h2
   rcases h3 with rfl | ⟨t,own,T,T',A,c',l,rfl,rfl⟩
   ·exact this
   ·exact this.rd
  ·obtain⟨x,hx⟩:=cf hi
   obtain⟨y,hy⟩:=cf hj
   obtain⟨a,_,h1,h2,_⟩:=Sn i x hx
   obtain⟨b,_,h3,h4,_⟩:=Sn j y hy
   rw [Tm i a h1]at O4
   rw [Tm j b h3]
   exact hI.sat.dis a b (aX h2) (aX h4) (fun e=>OS (RN i j a h1 (e▸h3))) k O4
 have Wo:=g3 _ (g1 _ hlv)
 have Xc:aC (et ps) fr0 (wq 0 ps):=by
  intro key k hm
  obtain⟨j,t,r,s,lk,p,j',q,e1,e2,rfl,rfl⟩:=jZ hm
  rw [Nat.zero_add]
  obtain⟨id,x,h1,h2,h3,_⟩:=dp _ _ e1
  rw [Nat.zero_add]at h1
  obtain⟨h3,h4⟩:=h3
  obtain⟨i,h5,h6⟩:=h4 _ _ _ e2
  refine⟨t,r,s,by rw [j3,e1];rfl,?_⟩
  dsimp only at h5
  unfold jA at h5
  split at h5
  ·rename_i k' Rr
   injection h5 with h5
   subst h5
   obtain⟨t',r',s',g1,g2⟩:=hk.get Rr
   rw [h2,h3]at g1
   injection g1 with g1
   cases g1
   show den U (et ps) (.obj j' q 0)=_
   rw [qM]
   exact Ps (p:= .obj j' q 0) (q:= .obj i q 0) (by simp [PK.ren,h6]) g2
  ·cases h5
 have QZ:=Wo _ h _ w hsat Xc
 rw [QN]at QZ
 refine QZ.mono fun e w' hp=>?_
 obtain⟨out,rsl,Xl,rfl,hQ,Oo,Qd⟩:=hp
 split at hQ
 case h_2=>exact hQ.elim
 rename_i rs' UJ
 obtain⟨aej,ab2⟩:=pV RN hM Oo UJ Sn ad4
 obtain⟨u1,u2,u3⟩:=gg UJ
 obtain⟨v1,v2,v3⟩:=gg Oo
 have VM:∀i,i∈M→i<st.rs.length:=fun i hi=>(u3 i hi).1
 have hkl:c.res.length=ps.length:=lp.symm
 have R0:rsl.length=ps.length:=by rw [v1];simp
 have RO:Emb (C6 θ c.res.length st.rs.length) (rsl++out.news) (rs'++out.news):=by
  intro j r hr
  rw [bm]at hr
  unfold C6
  by_cases hj:j<rsl.length
  ·rw [if_pos hj]at hr
   obtain⟨i,r',h1,h2,h3⟩:=aej j r hr
   have hb:Nat.blt j c.res.length=true:=by rw [Nat.blt_eq];omega
   rw [hb]
   exact⟨i,r',h1,by rw [bm,if_pos (aX h2)];exact h2,h3⟩
  ·rw [if_neg hj]at hr
   have hb:Nat.blt j c.res.length=false:=by
    cases hb:Nat.blt j c.res.length
    ·rfl
    ·rw [Nat.blt_eq]at hb;omega
   rw [hb]
   refine⟨_,r,rfl,?_,.inl rfl⟩
   rw [bm,if_neg (by omega),u1]
   rw [show st.rs.length+(j - c.res.length) - st.rs.length=j - rsl.length by omega]
   exact hr
 let X':Nat→Nat→Prop:=fun i=>open Classical in if h:∃j,j∈c.bn∧cY θ j=some i then Xl h.choose else if i<st.rs.length then X i else Xl (c.res.length+(i - st.rs.length))
 have hXM:∀j i,j∈c.bn→cY θ j=some i→X' i=Xl j:=by
  intro j i hj hi
  have hex:∃j,j∈c.bn∧cY θ j=some i:=⟨j,hj,hi⟩
  show(open Classical in if h:_ then _ else _)=_
  rw [dif_pos hex,RN _ _ _ hex.choose_spec.2 hi]
 have hMj:∀i,i∈M→∃j,j∈c.bn∧cY θ j=some i:=fun i hi=>yA hM i hi
 have hjM:∀j i,j∈c.bn→cY θ j=some i→i∈M:=by
  intro j i hj hi
  obtain⟨b,hb,Tl⟩:=mr hM j hj
  rw [hi]at Tl
  injection Tl with Tl
  exact Tl▸hb
 have hXs:∀i,i<st.rs.length→i ∉ M→X' i=X i:=by
  intro i hi hm
  show(open Classical in if h:_ then _ else _)=_
  rw [dif_neg (fun⟨j,hj,O5⟩=>hm (hjM j i hj O5)),if_pos hi]
 have hXn:∀i,st.rs.length≤i→X' i=Xl (c.res.length+(i - st.rs.length)):=by
  intro i hi
  show(open Classical in if h:_ then _ else _)=_
  rw [dif_neg (fun⟨j,hj,O5⟩=>by have:=VM i (hjM j i hj O5);omega),if_neg (by omega)]
 have VG:∀j,j∈c.bn→j<ps.length:=by
  intro j hj
  obtain⟨b,_,hb⟩:=mr hM j hj
  exact Ow j b hb
 have ad5:∀j r,j∈c.bn→nth rsl j=some r→nth (rsl++out.news) j=some r:=fun j r hj hr=>by rw [bm,if_pos (aX hr)];exact hr
 have adQ:∀j i r,j∈c.bn→cY θ j=some i→nth rs' i=some r→nth rsl j=some r:=by
  intro j i r hj hi hr
  obtain⟨r0,VF⟩:=cf (l:=rsl) (i:=j) (by rw [R0];exact VG j hj)
  obtain⟨i',h1,h2⟩:=ab2 j hj r0 VF
  rw [hi]at h1
  injection h1 with h1
  subst h1
  rw [hr]at h2
  injection h2 with h2
  rw [VF,h2]
 have hq:Ch (fun k=>∃j,j∈M∧X j k) w w':=Qd.ch.mono fun k ⟨j,hj,hk⟩=>by
  obtain⟨b,hb,Tl⟩:=mr hM j hj
  exact⟨b,hb,by rw [Tm j b Tl]at hk;exact hk⟩
 have Wn:∀i,i∈M→∀k,X' i k→X i k∨w.heap.size≤k:=by
  intro i hi k hk
  obtain⟨j,hj,O5⟩:=hMj i hi
  rw [hXM j i hj O5]at hk
  have:=Qd.grow j hj k hk
  rwa [Tm j i O5]at this
 have hnlen:(rs'++out.news).length=st.rs.length+out.news.length:=by rw [List.length_append,u1]
 have W8:∀i,st.rs.length≤i→i<(rs'++out.news).length→∀k,X' i k→w.heap.size≤k:=by
  intro i h1 h2 k hk
  rw [hXn i h1]at hk
  exact Qd.new _ (by simp;omega) (by simp;omega) k hk
 have PV:∀i,i<st.rs.length→i ∉ M→nth (rs'++out.news) i=nth st.rs i∧X' i=X i:=fun i hi hm=>⟨by rw [bm,if_pos (by omega)];exact u2 i hm,hXs i hi hm⟩
 have hinv:Inv w0 k0 X0 may (rs'++out.news) X' w':=by
  refine hI.step M hq (fun j hj=>⟨VM j hj,g7 (cC.1 O6 j hj)⟩) (by omega) PV ?_ Wn W8 ?_
  ·intro i hi r hr
   by_cases Xe:i∈M
   ·obtain⟨j,hj,O5⟩:=hMj i Xe
    rw [bm,if_pos (by have:=VM i Xe;omega)]at hr
    have h1:=adQ j i r hj O5 hr
    rw [hXM j i hj O5]
    exact Qd.sat.res j r (ad5 j r hj h1)
   ·have hi:=hi.resolve_left Xe
    rw [bm,if_neg (by omega)]at hr
    rw [hXn i hi]
    refine Qd.sat.res _ r ?_
    rw [bm,if_neg (by omega)]
    rw [show c.res.length+(i - st.rs.length) - rsl.length=i - rs'.length by omega]
    exact hr
  ·intro i j hi hj OS h1 h2 k hk
   have key:∀i,(i∈M∨st.rs.length≤i)→i<(rs'++out.news).length→∃a,X' i=Xl a∧a<(rsl++out.news).length∧((i∈M∧a∈c.bn∧cY θ a=some i)∨(st.rs.length≤i∧a=c.res.length+(i - st.rs.length))):=by
    intro i hi hil
    by_cases Xe:i∈M
    ·obtain⟨a,ha,hai⟩:=hMj i Xe
     exact⟨a,hXM a i ha hai,by have:=VG a ha;simp;omega,.inl ⟨Xe,ha,hai⟩⟩
    ·have hi:=hi.resolve_left Xe
     exact⟨_,hXn i hi,by simp;omega,.inr ⟨hi,rfl⟩⟩
   obtain⟨a,ea,la',ca⟩:=key i hi h1
   obtain⟨b,eb,lb,cb⟩:=key j hj h2
   rw [ea]at hk
   rw [eb]
   refine Qd.sat.dis a b la' lb (fun hab=>?_) k hk
   subst hab
   rcases ca with⟨m1,m2,m3⟩ | ⟨m1,m2⟩<;>rcases cb with⟨n1,n2,n3⟩ | ⟨n1,n2⟩
   ·rw [m3]at n3;injection n3 with n3;exact OS n3
   ·have:=VG a m2;omega
   ·have:=VG a n2;omega
   ·omega
 have hQ:=mq (fun i r hr=>⟨_,_,hinv.sat.res i r hr⟩) hQ
 refine⟨out.res,_,_,X',M,(vf ..).symm,hQ,Qd.kr.imp (fun e=>by rw [e];rfl) RO.knO,hinv,?_,rfl,VM,fun i hi=>g7 (cC.1 O6 i hi),by simp only [];omega,PV,Wn,W8,hq,fun i a ha=>by
  by_cases hi:i∈M
  ·obtain⟨b,hb,hr⟩:=(u3 i hi).2 a ha
   exact⟨b,by rw [bm,if_pos (aX hb)];exact hb,hr⟩
  ·exact⟨a,by rw [(PV i (aX ha) hi).1];exact ha,dI.refl a⟩⟩
 refine aC.app ?_ (aC.gm hk (fun i hi hm=>(PV i hi hm).1) fun i hi a ha=>?_)
 ·intro key k' Oz
  obtain⟨i,i',o,k,⟨rfl,h1⟩ | ⟨rfl,h1⟩,h2,h3⟩:=j1 Oz
  ·obtain⟨g,cs,T,v,e1,e2,e3⟩:=Qd.kc _ k h1 (fun _ e=>by cases e)
   obtain⟨i2,r',f1,f2,f3⟩:=RO i _ e1
   rw [h2]at f1
   injection f1 with f1
   subst f1
   rcases f3 with rfl | ⟨_,_,_,_,_,_,_,hh,_⟩
   ·exact⟨g,cs,T,v,f2,e2,RO.kn h3 e3⟩
   ·cases hh
  ·obtain⟨t,r,s,e1,e2⟩:=Qd.kc _ k h1 (fun _ e=>by cases e)
   obtain⟨i2,r',f1,f2,f3⟩:=RO i _ e1
   rw [h2]at f1
   injection f1 with f1
   subst f1
   rcases f3 with rfl | ⟨_,_,_,_,_,_,_,hh,_⟩
   ·exact⟨t,r,s,f2,RO.kn h3 e2⟩
   ·cases hh
 ·obtain⟨b,hb,hr⟩:=(u3 i hi).2 a ha
  exact⟨b,by rw [bm,if_pos (aX hb)];exact hb,hr⟩
end
end
end Go.Proofs.YtinhphjfnedhgaaGreatDoor.V
