/- Chapter 17, BuildValid: behind every call of every script the state is valid. -/
import Derived.Test.YtinhphjfnedhgaaGreatDoorK1
import Derived.Test.YtinhphjfnedhgaaGreatDoorProg
import Derived.KernelRfl
import Derived.Great.BuildSlice
set_option linter.unusedVariables false
set_option linter.unusedSimpArgs false
namespace Go.Proofs.YtinhphjfnedhgaaGreatDoor.V
open Go Go.RowKit
open Go.IntKind (i64 u32 u64)
open Enc (enc)
section
section
variable {U:Uni} {P:Program} {tbl:Tb U} {may:List Nat} {k0:Nat}
theorem gM {α β:Type}(f:α→β):∀l,aG f l=l.map f
 | []=>rfl
 | a::l=>by simp [aG,gM f l]
theorem bk {α β:Type}(f:α→β):∀(l:List α)(i:Nat),nth (aG f l) i=(nth l i).map f
 | [],_=>rfl
 | _::_,0=>rfl
 | _::l,i+1=>bk f l i
@[simp] theorem GO {α β:Type}(f:α→β):∀l:List α,(aG f l).length=l.length
 | []=>rfl
 | _::l=>by simp [aG,GO f l]
theorem fk {x:Nat}:∀ {l:List Nat},lJ x l=true↔x∈l
 | []=>by simp [lJ]
 | y::r=>by
  unfold lJ
  split
  ·rename_i h
   have:=Nat.eq_of_beq_eq_true h
   simp [this]
  ·rename_i h
   have h':¬x=y:=by rintro rfl;simp at h
   rw [fk]
   simp [h']
theorem nk:∀ {l:List Nat},pQ l=true→l.Nodup
 | [],_=>List.nodup_nil
 | x::r,h=>by
  unfold pQ at h
  split at h
  ·cases h
  ·rename_i hm
   refine List.nodup_cons.2 ⟨fun hx=>?_,nk h⟩
   rw [fk.2 hx]at hm
   cases hm
theorem cD {α:Type} {f:α→Bool}:∀ {l:List α},iu f l=true↔∀x∈l,f x=true
 | []=>by simp [iu]
 | a::r=>by
  unfold iu
  split
  ·rename_i h
   rw [cD]
   simp [h]
  ·rename_i h
   simp [h]
theorem zl {α:Type} {f:α→Bool}:∀ {l:List α},mQ f l=true↔∃x∈l,f x=true
 | []=>by simp [mQ]
 | a::r=>by
  unfold mQ
  split
  ·rename_i h
   simp [h]
  ·rename_i h
   rw [zl]
   simp [h]
theorem sH {α β:Type} {f:α→Option β}:∀ {l:List α} {r:List β},iS f l=some r→r.length=l.length∧∀i a,nth l i=some a→∃b,f a=some b∧nth r i=some b
 | [],r,h=>by
  simp only [iS,Option.some.injEq]at h
  subst h
  exact⟨rfl,fun i a hi=>by simp [nth]at hi⟩
 | a::l,r,h=>by
  unfold iS at h
  split at h
  ·rename_i b bs hb VI
   injection h with h
   subst h
   obtain⟨h1,h2⟩:=sH VI
   refine⟨by simp [h1],fun i x hx=>?_⟩
   cases i with
   | zero=>simp [nth]at hx;subst hx;exact⟨b,hb,rfl⟩
   | succ i=>exact h2 i x hx
  ·cases h
theorem fv {α:Type}:∀(n:Nat)(l:List α),jK n l=l.take n
 | 0,_=>by simp [jK]
 | n+1,[]=>by simp [jK]
 | n+1,a::l=>by simp [jK,fv n l]
theorem gp {α:Type}:∀(n:Nat)(l:List α),mW n l=l.drop n
 | 0,_=>by simp [mW]
 | n+1,[]=>by simp [mW]
 | n+1,a::l=>by simp [mW,gp n l]
theorem se {α:Type}:∀(l:List α)(i:Nat)(x:α),cK l i x=l.set i x
 | [],_,_=>by simp [cK]
 | _::_,0,_=>rfl
 | _::l,i+1,x=>by simp [cK,se l i x]
theorem qs:∀(vs:List Value)(cs:List Value)(o:Nat),setAt ⟨cs⟩ o vs=⟨hO cs o vs⟩
 | [],_,_=>rfl
 | v::r,cs,o=>by
  have e:(Array.mk cs).setIfInBounds o v=⟨cK cs o v⟩:=by apply Array.ext';simp [se]
  simp only [setAt,hO,e]
  exact qs r _ _
@[simp] theorem DX {α:Type}:∀(vs:List α)(cs:List α)(o:Nat),(hO cs o vs).length=cs.length
 | [],_,_=>rfl
 | v::r,cs,o=>by simp [hO,DX r]
theorem mE {α:Type}:∀(vs:List α)(cs:List α)(o i:Nat),o+vs.length≤cs.length→nth (hO cs o vs) i=if o≤i∧i<o+vs.length then nth vs (i - o)else nth cs i
 | [],cs,o,i,h=>by
  simp only [hO,List.length_nil,Nat.add_zero]
  rw [if_neg (by omega)]
 | v::r,cs,o,i,h=>by
  simp only [List.length_cons]at h
  simp only [hO,List.length_cons]
  rw [mE r _ _ _ (by simp;omega),bA]
  by_cases h1:o+1≤i∧i<o+1+r.length
  ·rw [if_pos h1,if_pos (by omega)]
   have:i - o=(i - (o+1))+1:=by omega
   rw [this];rfl
  ·rw [if_neg h1]
   by_cases h2:i=o
   ·subst h2
    rw [if_pos ⟨rfl,by omega⟩,if_pos (by omega)];simp [nth]
   ·rw [if_neg (by omega),if_neg (by omega)]
theorem dF {f:Key→Kn→Bool} {key:Key} {k:Kn}:∀ {l:List (Key×Kn)},(key,k)∈fe f l→(key,k)∈l∧f key k=true
 | [],h=>by cases h
 | (a,q)::r,h=>by
  unfold fe at h
  split at h
  ·rename_i hf
   rcases List.mem_cons.1 h with e | h
   ·injection e with e1 e2;subst e1;subst e2;exact⟨List.mem_cons_self ..,hf⟩
   ·have:=dF h;exact⟨List.mem_cons_of_mem _ this.1,this.2⟩
  ·have:=dF h;exact⟨List.mem_cons_of_mem _ this.1,this.2⟩
theorem Key.nw:∀ {a b:Key},a.eq b=true→a=b
 | .s a,.s b,h=>by rw [Nat.eq_of_beq_eq_true h]
 | .c a b,.c x y,h=>by
  simp only [Key.eq,Bool.and_eq_true]at h
  rw [Nat.eq_of_beq_eq_true h.1,Nat.eq_of_beq_eq_true h.2]
 | .l a b,.l x y,h=>by
  simp only [Key.eq,Bool.and_eq_true]at h
  rw [Nat.eq_of_beq_eq_true h.1,Nat.eq_of_beq_eq_true h.2]
 | .s _,.l _ _,h=>by cases h
 | .l _ _,.s _,h=>by cases h
 | .c _ _,.l _ _,h=>by cases h
 | .l _ _,.c _ _,h=>by cases h
 | .s _,.c _ _,h=>by cases h
 | .c _ _,.s _,h=>by cases h
theorem uW {key:Key} {k:Kn}:∀ {l:List (Key×Kn)},dm key l=some k→(key,k)∈l
 | [],h=>by cases h
 | (a,q)::r,h=>by
  unfold dm at h
  split at h
  ·rename_i he
   injection h with h
   subst h
   rw [Key.nw he]
   exact List.mem_cons_self ..
  ·exact List.mem_cons_of_mem _ (uW h)
theorem PK.nw:∀ {a b:PK},a.eq b=true→a=b
 | .loc a b,.loc x y,h=>by
  simp only [PK.eq,Bool.and_eq_true]at h
  rw [Nat.eq_of_beq_eq_true h.1,Nat.eq_of_beq_eq_true h.2]
 | .obj a b c,.obj x y z,h=>by
  simp only [PK.eq,Bool.and_eq_true]at h
  rw [Nat.eq_of_beq_eq_true h.1,Nat.eq_of_beq_eq_true h.2.1,Nat.eq_of_beq_eq_true h.2.2]
 | .sl a b,.sl x y,h=>by
  simp only [PK.eq,Bool.and_eq_true]at h
  rw [Nat.eq_of_beq_eq_true h.1,Nat.eq_of_beq_eq_true h.2]
 | .loc ..,.obj ..,h | .loc ..,.sl ..,h | .loc ..,.el ..,h | .obj ..,.loc ..,h | .obj ..,.sl ..,h | .obj ..,.el ..,h | .sl ..,.loc ..,h | .sl ..,.obj ..,h | .sl ..,.el ..,h | .el ..,.loc ..,h | .el ..,.obj ..,h | .el ..,.sl ..,h | .el ..,.el ..,h=>by cases h
theorem Kn.nw {a b:Kn}(h:a.eq b=true):a=b∧∃p,a= .p p:=by
 cases a<;>cases b<;>simp only [Kn.eq]at h<;>first | cases h | skip
 rename_i p q
 exact⟨by rw [PK.nw h],p,rfl⟩
def Kn.has(p:PK):Kn→Prop
 | .p k=>k=p
 | .t l=>∃j,nth l j=some (some p)
 | .ag l=>∃j,nth l j=some (some p)
 | .f a b=>(∃j,nth a j=some (some p))∨∃j,nth b j=some (some p)
 | .pan=>False
theorem ja.mono {rs rs':List (Res U)} {v:Value} {k:Kn}(h:ja rs v k)(hd:∀p,k.has p→∀u,den U rs p=some u→den U rs' p=some u):ja rs' v k:=by
 cases k with
 | pan=>exact h
 | p k=>exact hd k rfl _ h
 | t l=>
  obtain⟨vs,h1,h2⟩:=h
  exact⟨vs,h1,fun j k hj=>by obtain⟨u,hu,Sw⟩:=h2 j k hj;exact⟨u,hu,hd k ⟨j,hj⟩ _ Sw⟩⟩
 | ag l=>
  obtain⟨vs,h1,h2⟩:=h
  exact⟨vs,h1,fun j k hj=>by obtain⟨u,hu,Sw⟩:=h2 j k hj;exact⟨u,hu,hd k ⟨j,hj⟩ _ Sw⟩⟩
 | f a b=>
  obtain⟨f,fs,cs,h1,hl,h2,h3⟩:=h
  exact⟨f,fs,cs,h1,hl,fun j k hj=>by obtain⟨u,hu,Sw⟩:=h2 j k hj;exact⟨u,hu,hd k (.inl ⟨j,hj⟩) _ Sw⟩,fun j k hj=>by obtain⟨u,hu,Sw⟩:=h3 j k hj;exact⟨u,hu,hd k (.inr ⟨j,hj⟩) _ Sw⟩⟩
theorem ik {α:Type}:∀ {l:List α} {i:Nat} {x:α},nth l i=some x→x∈l
 | a::l,0,x,h=>by simp [nth]at h;subst h;exact List.mem_cons_self ..
 | a::l,i+1,x,h=>List.mem_cons_of_mem _ (ik (l:=l) h)
theorem Kn.Bt {k:Kn} {i:Nat}(h:k.ofList i=false) {p:PK}(hp:k.has p):p.ofList i=false:=by
 have key:∀ {l:List (Option PK)},mQ (uO i) l=false→∀j,nth l j=some (some p)→p.ofList i=false:=by
  intro l hl j hj
  cases he:p.ofList i
  ·rfl
  ·have:mQ (uO i) l=true:=zl.2 ⟨some p,ik hj,he⟩
   rw [hl]at this
   cases this
 cases k with
 | pan=>exact hp.elim
 | p k=>cases hp;exact h
 | t l=>obtain⟨j,hj⟩:=hp;exact key h j hj
 | ag l=>obtain⟨j,hj⟩:=hp;exact key h j hj
 | f a b=>
  simp only [Kn.ofList]at h
  split at h
  ·cases h
  ·rename_i ha
   rcases hp with⟨j,hj⟩ | ⟨j,hj⟩
   ·exact key ha j hj
   ·exact key h j hj
inductive dK:Res U→Res U→Prop
 | blk (g:Nat)(cs cs':List Value)(T:TypeId):cs.length=cs'.length→dK (.blk g cs T) (.blk g cs' T)
 | ob (t:Nat)(r:Nat→Nat)(s s':U.ty t):dK (.ob t r s) (.ob t r s')
 | lst (t:Nat)(own:Bool)(T:TypeId)(A A':Option Addr)(c c':Nat)(l l':List (U.el t)):dK (.lst t own T A c l) (.lst t own T A' c' l')
theorem dK.refl:∀a:Res U,dK a a
 | .blk g cs T=>.blk g cs cs T rfl
 | .ob t r s=>.ob t r s s
 | .lst t own T A c l=>.lst t own T A A c c l l
theorem dK.den {a b:Res U}(h:dK a b) {p:PK} {v:Value}(hp:p.ofList p.id=false∨a=b)(hd:cA U p (some a)=some v):cA U p (some b)=some v:=by
 rcases hp with hp | rfl
 ·cases h<;>cases p<;>simp only [cA,PK.ofList,PK.id,reduceCtorEq]at hd hp ⊢ <;>first | exact hd | (simp at hp)
 ·exact hd
theorem zf {r r':Res U} {u:Upd U}(h:dI r u=some r'):dK r r':=by
 cases r<;>cases u<;>simp only [dI]at h<;>first | cases h | skip
 ·split at h
  ·rename_i hb
   injection h with h;subst h
   exact .blk _ _ _ _ (Nat.eq_of_beq_eq_true hb).symm
  ·cases h
 ·split at h
  ·rename_i t r s t' s' ht
   subst ht
   injection h with h;subst h
   exact .ob _ _ _ _
  ·cases h
 ·split at h
  ·rename_i t own T A c l t' A' c' l' ht
   subst ht
   injection h with h;subst h
   exact .lst _ _ _ _ _ _ _ _ _
  ·cases h
theorem dK.trans {a b c:Res U}(h:dK a b)(k:dK b c):dK a c:=by
 cases h<;>cases k
 ·rename_i h1 _ h2;exact .blk _ _ _ _ (h1.trans h2)
 ·exact .ob _ _ _ _
 ·exact .lst _ _ _ _ _ _ _ _ _
theorem oD {rs rs':List (Res U)} {M:List Nat}(hs:∀i,i<rs.length→i ∉ M→nth rs' i=nth rs i)(hr:∀i,i∈M→∀a,nth rs i=some a→∃b,nth rs' i=some b∧dK a b)
 {p:PK}(hp:p.id ∉ M∨p.ofList p.id=false) {v:Value}(hd:den U rs p=some v):den U rs' p=some v:=by
 unfold den at hd ⊢
 cases hn:nth rs p.id with
 | none=>rw [hn]at hd;cases p<;>simp [cA]at hd
 | some a=>
  rw [hn]at hd
  by_cases hm:p.id∈M
  ·obtain⟨b,hb,Ty⟩:=hr _ hm a hn
   rw [hb]
   exact Ty.den (.inl (hp.elim (fun h=>absurd hm h) id)) hd
  ·rw [hs _ (aX hn) hm,hn];exact hd
theorem fX.Ng {rs:List (Res U)} {fr fr':Fr}(h:∀i,lk fr'.g i fr'.e=lk fr.g i fr.e) {key:Key} {k:Kn}(hp:fX rs fr key k):fX rs fr' key k:=by
 cases key with
 | s i=>show ja rs (lk fr'.g i fr'.e) k;rw [h];exact hp
 | c id off=>exact hp
 | l id path=>exact hp
theorem ax.same {rs:List (Res U)} {fr fr':Fr} {kn:List (Key×Kn)}(h:ax rs fr kn)(he:∀i,lk fr'.g i fr'.e=lk fr.g i fr.e):ax rs fr' kn:=fun key k hk=>(h key k hk).Ng he
theorem ax.app {rs:List (Res U)} {fr:Fr} {a b:List (Key×Kn)}(h:ax rs fr a)(k:ax rs fr b):ax rs fr (a++b):=fun key q hq=>(List.mem_append.1 hq).elim (h key q) (k key q)
theorem ax.nil {rs:List (Res U)} {fr:Fr}:ax rs fr []:=fun _ _ h=>by cases h
theorem ax.get {rs:List (Res U)} {fr:Fr} {kn:List (Key×Kn)}(h:ax rs fr kn) {key:Key} {k:Kn}(hk:dm key kn=some k):fX rs fr key k:=h _ _ (uW hk)
theorem ax.kf {rs:List (Res U)} {fr:Fr} {kn:List (Key×Kn)}(h:ax rs fr kn)(x:Operand):KnO rs (ev fr x) (V.kf kn x):=by
 cases x with
 | tmp t=>
  show KnO rs (lk fr.g t fr.e) (dm (.s t) kn)
  cases hg:dm (.s t) kn with
  | none=>exact trivial
  | some k=>exact h.get hg
 | const v=>exact trivial
 | global g=>exact trivial
 | func f=>exact trivial
theorem ax.eW {rs rs':List (Res U)} {fr:Fr} {kn:List (Key×Kn)} {M:List Nat}(h:ax rs fr kn)(hs:∀i,i<rs.length→i ∉ M→nth rs' i=nth rs i)(hr:∀i,i∈M→∀a,nth rs i=some a→∃b,nth rs' i=some b∧dK a b)
 {kn':List (Key×Kn)}(hk:∀key k,(key,k)∈kn'→(key,k)∈kn∧(∀p,k.has p→p.id ∉ M∨p.ofList p.id=false)∧∀id off,key= .c id off→id ∉ M∨∃g cs cs' T,nth rs id=some (.blk g cs T)∧nth rs' id=some (.blk g cs' T)∧nth cs' off=nth cs off):ax rs' fr kn':=by
 intro key k hm
 obtain⟨h1,h2,h3⟩:=hk key k hm
 have h0:=h key k h1
 have hd:∀p,k.has p→∀u,den U rs p=some u→den U rs' p=some u:=fun p hp u hu=>oD hs hr (h2 p hp) hu
 cases key with
 | s i=>exact ja.mono h0 hd
 | c id off=>
  obtain⟨g,cs,T,v,e1,e2,e3⟩:=h0
  rcases h3 id off rfl with h3 | ⟨g',cs1,Z6,T',e4,e5,e6⟩
  ·exact⟨g,cs,T,v,by rw [hs _ (aX e1) h3];exact e1,e2,e3.mono hd⟩
  ·rw [e1]at e4
   injection e4 with e4
   injection e4 with e4 e7 e8
   subst e4;subst e7;subst e8
   exact⟨g,Z6,T,v,e5,by rw [e6];exact e2,e3.mono hd⟩
 | l id path=>
  obtain⟨t,r,s,e1,e2⟩:=h0
  by_cases hm:id∈M
  ·obtain⟨b,hb,Ty⟩:=hr id hm _ e1
   cases Ty
   exact⟨t,r,_,hb,e2.mono hd⟩
  ·exact⟨t,r,s,by rw [hs _ (aX e1) hm];exact e1,e2.mono hd⟩
theorem uL {key:Key} {k:Kn}:∀ {M:List Nat} {kn:List (Key×Kn)},(key,k)∈fM M kn→(key,k)∈kn∧∀i∈M,k.ofList i=false∧∀off,key≠ .c i off
 | [],kn,h=>⟨h,fun i hi=>by cases hi⟩
 | i::r,kn,h=>by
  unfold fM at h
  obtain⟨h1,h2⟩:=uL h
  obtain⟨h3,h4⟩:=dF h1
  simp only [Bool.and_eq_true,Bool.not_eq_true']at h4
  refine⟨h3,fun j hj=>?_⟩
  rcases List.mem_cons.1 hj with rfl | hj
  ·refine⟨h4.1,fun off e=>?_⟩
   subst e
   simp at h4
  ·exact h2 j hj
theorem ax.fM {rs rs':List (Res U)} {fr:Fr} {kn:List (Key×Kn)} {M:List Nat}(h:ax rs fr kn)(hs:∀i,i<rs.length→i ∉ M→nth rs' i=nth rs i)(hr:∀i,i∈M→∀a,nth rs i=some a→∃b,nth rs' i=some b∧dK a b):ax rs' fr (V.fM M kn):=by
 refine h.eW hs hr fun key k hk=>?_
 obtain⟨h1,h2⟩:=uL hk
 refine⟨h1,fun p hp=>?_,fun id off e=>?_⟩
 ·by_cases hm:p.id∈M
  ·exact .inr (Kn.Bt (h2 _ hm).1 hp)
  ·exact .inl hm
 ·by_cases hm:id∈M
  ·exact absurd e ((h2 id hm).2 off)
  ·exact .inl hm
theorem GU {rs:List (Res U)} {fr fr':Fr} {kn:List (Key×Kn)} {d:Nat} {v:Value} {k:Option Kn}(h:ax rs fr kn)(hv:KnO rs v k)(h1:lk fr'.g d fr'.e=v)(h2:∀i,i≠d→lk fr'.g i fr'.e=lk fr.g i fr.e):ax rs fr' (yz (.s d) k kn):=by
 have key:ax rs fr' (fe (fun a _=>!(a.eq (.s d))) kn):=by
  intro a q hq
  obtain⟨hm,hf⟩:=dF hq
  have h0:=h a q hm
  cases a with
  | s i=>
   have OG:i≠d:=by rintro rfl;simp [Key.eq]at hf
   show ja rs (lk fr'.g i fr'.e) q
   rw [h2 i OG];exact h0
  | c id off=>exact h0
  | l id path=>exact h0
 unfold yz
 split
 ·exact key
 ·rename_i q
  intro a z hz
  rcases List.mem_cons.1 hz with e | hz
  ·injection e with e1 e2
   subst e1;subst e2
   show ja rs (lk fr'.g d fr'.e) z
   rw [h1];exact hv
  ·exact key a z hz
theorem we(g:Nat→Value)(d i:Nat)(v:Value)(e:List (Nat×Value)):lk g i ((d,v)::e)=if i=d then v else lk g i e:=by
 simp only [lk]
 split
 ·rename_i h;rw [if_pos (Nat.eq_of_beq_eq_true h)]
 ·rename_i h;rw [if_neg (by rintro rfl;simp at h)]
theorem jQ {n:Nat} {N:List Nat} {fr:Fr} {dst:Option Tmp} {v:Value} {k:Option Kn} {st:St U} {F:Fr→St U→Prop}(h:yb U n N fr dst v k st F)(hk:ax st.rs fr st.kn)(hv:KnO st.rs v k):
 jD n N fr dst v fun fr'=>∃st',st'.rs=st.rs∧st'.md=st.md∧ax st.rs fr' st'.kn∧fr'.ds=fr.ds∧F fr' st':=by
 unfold yb at h
 unfold jD at h ⊢
 cases dst with
 | none=>exact⟨st,rfl,rfl,hk,rfl,h⟩
 | some d=>
  dsimp only at h ⊢
  split at h
  ·rename_i hb
   have fin:∀u,u=v→F ⟨(d,u)::fr.e,fr.g,fr.ds⟩ {st with kn:=yz (.s d) k st.kn}→∃st':St U,st'.rs=st.rs∧st'.md=st.md∧ax st.rs ⟨(d,u)::fr.e,fr.g,fr.ds⟩ st'.kn∧fr.ds=fr.ds∧F ⟨(d,u)::fr.e,fr.g,fr.ds⟩ st':=by
    intro u hu hF
    subst hu
    exact⟨{st with kn:=yz (.s d) k st.kn},rfl,rfl,GU hk hv (by rw [we,if_pos rfl]) (fun i hi=>by rw [we,if_neg hi]),rfl,hF⟩
   split at h
   ·rename_i hN
    cases v with
    | int kk x=>intro z hz;exact fin _ (by rw [hz]) (h z hz)
    | bool x=>intro z hz;exact fin _ (by rw [hz]) (h z hz)
    | _=>exact fin _ rfl h
   ·exact fin _ rfl h
  ·exact h.elim
theorem lM {ops:Array Oper} {o:Oper} {fr:Fr} {yes no yes' no':Fr→Prop}(h:g6 ops o fr yes no)(hy:∀fr',(∀i,lk fr'.g i fr'.e=lk fr.g i fr.e)→fr'.ds=fr.ds→yes fr'→yes' fr')(hn:∀fr',(∀i,lk fr'.g i fr'.e=lk fr.g i fr.e)→fr'.ds=fr.ds→no fr'→no' fr'):g6 ops o fr yes' no':=by
 unfold g6 at h ⊢
 split at h
 ·exact hy fr (fun _=>rfl) rfl h
 ·rename_i j want hg
  split at h
  ·rename_i d hd
   split at h
   ·rename_i b hb
    have hl:∀b',lk fr.g d fr.e= .bool b'→∀i,lk fr.g i ((d,.bool b')::fr.e)=lk fr.g i fr.e:=by
     intro b' Qz i
     rw [we]
     split
     ·rename_i e;rw [e,Qz]
     ·rfl
    rcases fA h with⟨rfl,h2⟩ | ⟨rfl,h2⟩
    ·refine ab (fun _=>?_) (fun e=>by cases e)
     cases want
     ·exact hn _ (hl _ hb) rfl h2
     ·exact hy _ (hl _ hb) rfl h2
    ·refine ab (fun e=>by cases e) (fun _=>?_)
     cases want
     ·exact hy _ (hl _ hb) rfl h2
     ·exact hn _ (hl _ hb) rfl h2
   ·exact hn fr (fun _=>rfl) rfl h
   ·exact h.elim
  ·exact h.elim
theorem D5 {o:Oper} {ρ:Operand→Value} {F:Value→Prop}(hc:∀v,ρ (.const v)=v)(hl:∀t x,o.op≠ .load t x)(h:qv P o ρ F)(w:World):∃v,F v∧∀w',w'.os=w.os→w'.tape=w.tape→w'.output=w.output→(execOp ρ o).run P w'= .ok (.value v) w':=by
 have hw:qu P none o ρ {w with heap:= #[]} F False:=by
  unfold qv qu at h
  unfold qu
  generalize o.op=op at h hl ⊢
  cases op<;>first | exact h | exact absurd rfl (hl _ _)
 rcases pK hc hw with⟨v,hv,hr⟩ | hh
 ·exact⟨v,hv,fun w' h1 h2 h3=>hr w' ⟨h1,h2,h3,Nat.zero_le _,fun k hk=>absurd hk (Nat.not_lt_zero _)⟩⟩
 ·exact hh.elim
def rdX(o:Oper)(kn:List (Key×Kn))(X:Nat→Nat→Prop):Nat→Prop:=
 match o.op with
 | .load _ x=>(match V.kf kn x with
  | some (.p k)=>X k.id
  | _=>fun _=>False)
 | _=>fun _=>False
theorem BH {s:TypeId} {x:Value} {f:Nat} {F:Value→Prop}(h:kG P s x f F):∃fields fd p,P.underlying s=some (.struct fields)∧fields[f]? =some fd∧x= .pointer (some p)∧F (.pointer (some (p.add fd.offset)))∧∀w,(Instr.fieldAt s x f).run P w= .ok (.pointer (some (p.add fd.offset))) w:=by
 have key:∀fields fd p,P.underlying s=some (.struct fields)→fields[f]? =some fd→x= .pointer (some p)→∀w,(Instr.fieldAt s x f).run P w= .ok (.pointer (some (p.add fd.offset))) w:=by
  intro fields fd p h1 h2 h3 w
  have h':kG P s x f fun v=>v= .pointer (some (p.add fd.offset)):=by
   unfold kG at h ⊢
   subst h3
   rw [h1]at h ⊢
   simp only at h ⊢
   rw [h2]at h ⊢
   simp only at h ⊢
   split at h
   ·rename_i i hi
    split at h
    ·exact ao p rfl rfl
    ·exact h.elim
   ·exact h.elim
  obtain⟨v,hv,hr⟩:=sY h'
  rw [hr w,hv]
 have h0:=h
 unfold kG at h
 split at h
 ·rename_i fields hs
  split at h
  ·rename_i fd hf
   split at h
   ·split at h
    ·split at h
     ·obtain⟨p,hp,hF⟩:=cV h
      exact⟨fields,fd,p,hs,hf,by rw [hp],hF,key fields fd p hs hf (by rw [hp])⟩
     ·exact h.elim
    ·exact h.elim
   ·exact h.elim
  ·exact h.elim
 ·exact h.elim
theorem G2 {t:TypeId} {p:Addr} {i:Value} {F:Value→Prop}(h:qT P t (.pointer (some p)) i F):∃n e k ix,P.underlying t=some (.array n e)∧i= .int k ix∧F (.pointer (some (p.add (ix.toNat *bz P e))))∧∀w,(Instr.indexAt t (.pointer (some p)) i).run P w= .ok (.pointer (some (p.add (ix.toNat *bz P e)))) w:=by
 unfold qT at h
 cases hu:P.underlying t with
 | none=>rw [hu]at h;exact h.elim
 | some d=>
  rw [hu]at h
  cases d<;>first | exact h.elim | skip
  rename_i n e
  cases i<;>first | exact h.elim | skip
  rename_i k ix
  simp only at h
  split at h
  ·rename_i he
   obtain⟨hb,h⟩:=h
   obtain⟨q,hq,hF⟩:=cV h
   injection hq with hq
   subst hq
   refine⟨n,e,k,ix,rfl,rfl,hF,fun w=>?_⟩
   have h':qT P t (.pointer (some p)) (.int k ix) fun v=>v= .pointer (some (p.add (ix.toNat *bz P e))):=by
    unfold qT
    rw [hu]
    simp only [he]
    exact⟨hb,ao p rfl rfl⟩
   obtain⟨v,hv,hr⟩:=oy h'
   rw [hr w,hv]
  ·exact h.elim
theorem Jw {t e:TypeId} {A:Option Addr} {n c:Nat} {k:IntKind} {ix:Int} {p:Addr}(ht:P.underlying t=some (.slice e))(he:hasType P e=true)(hb:0≤ix∧ix<n)(hA:A=some p)(w:World):(Instr.indexAt t (.slice A n c) (.int k ix)).run P w= .ok (.pointer (some (p.add (ix.toNat *bz P e)))) w:=by
 have h':qT P t (.slice A n c) (.int k ix) fun v=>v= .pointer (some (p.add (ix.toNat *bz P e))):=by
  unfold qT
  rw [ht]
  simp only [he]
  exact⟨hb,ao p hA rfl⟩
 obtain⟨v,hv,hr⟩:=oy h'
 rw [hr w,hv]
theorem RS.rd {X:Nat→Prop} {w:World} {t:Nat} {own:Bool} {T:TypeId} {A:Option Addr} {c:Nat} {l:List (U.el t)}(h:RS X w (.lst t own T A c l)):Rd w X A l.length c l:=by
 cases own
 ·exact h
 ·have h1:Rd w (fun k=>X k∧k<w.heap.size) A l.length c l:=h.1.rd
  exact h1.mono (fun k hk=>hk.1) h.2
theorem RS.ls {X:Nat→Prop} {w:World} {r:Res U} {li:Nat} {L:Ls U.el}(h:RS X w r)(hl:jT r li=some L):Rd w X L.A L.l.length L.c L.l:=by
 unfold jT at hl
 split at hl
 ·injection hl with hl
  subst hl
  exact RS.rd h
 ·exact U.qy h hl
 ·cases hl
theorem dA {α:Type} {o:Option α} {F:α→Prop}(h:gC o F):∃a,o=some a∧F a:=by
 cases o with
 | none=>exact h.elim
 | some a=>exact⟨a,rfl,h⟩
theorem jU {t:TypeId} {cs:List Value} {off:Nat} {v:Value}(h:kZ P t cs off=some v) {w:World} {p:Addr}(hp:∀j u,j<bz P t→nth cs (off+j)=some u→w.cell? (p.add j)=some u):(Instr.loadAt t (.pointer (some p))).run P w= .ok v w:=by
 unfold kZ at h
 split at h
 ·rename_i hb
  simp only [Bool.and_eq_true]at hb
  obtain⟨h1,h2,h3,h4⟩:=hb
  have h4:off+bz P t≤cs.length:=Nat.le_of_ble_eq_true h4
  have Wk:gX (dS P t)=bz P t:=Nat.eq_of_beq_eq_true h3
  refine lv (s:=dS P t) h1 h2 h3 ?_
  have hd:∀j,nth (cs.drop off) j=nth cs (off+j):=fun j=>by rw [aI,aI,List.getElem?_drop]
  split at h
  ·rename_i s hs
   have:=hp 0 v (by rw [← Wk,hs];simp [gX]) (by simpa using h)
   rw [hs]
   simpa [il,Addr.add]using this
  ·rename_i l hs
   injection h with h
   subst h
   rw [hs]at Wk ⊢
   simp only [gX]at Wk
   have hlen:(cs.drop off |>.take l.length).length=l.length:=by simp;omega
   simp only [il,fv,gp,hlen,Nat.beq_refl]
   have key:∀(vs:List Value)(i:Nat),(∀j u,vs[j]? =some u→w.cell? (p.add (i+j))=some u)→jt w p i vs:=by
    intro vs
    induction vs with
    | nil=>intro _ _;exact trivial
    | cons x r ih=>
     intro i hh
     have h0:=hh 0 x rfl
     have h1:=ih (i+1) fun j u hu=>by rw [show i+1+j=i+(j+1)by omega];exact hh (j+1) u (by simpa using hu)
     cases r with
     | nil=>exact h0
     | cons y r=>exact⟨h0,h1⟩
   refine key _ 0 fun j u hu=>?_
   rw [Nat.zero_add]
   have hj:j<l.length:=by have:=(List.getElem?_eq_some_iff.1 hu).1;omega
   refine hp j u (by omega) ?_
   rw [aI,← List.getElem?_drop,← hu,List.getElem?_take,if_pos hj]
  ·rename_i n hs
   injection h with h
   subst h
   rw [hs]at Wk ⊢
   simp only [gX]at Wk
   refine⟨by simp [fv,gp];omega,fun j u hu=>?_⟩
   simp only [fv,gp]at hu
   have hj:j<n:=by
    have:=(Array.getElem?_eq_some_iff.1 hu).1
    simp at this
    omega
   refine hp j u (by omega) ?_
   rw [aI,← List.getElem?_drop]
   have:((cs.drop off).take n)[j]? =some u:=by simpa using hu
   rwa [List.getElem?_take,if_pos hj]at this
 ·cases h
theorem Kept.y9 {B:Nat→Prop} {w w':World}(k:Kept B w w') {p:Addr}(hp:B p.block) {v:Value}(h:w.cell? p=some v):w'.cell? p=some v:=(k.cell hp).trans h
theorem jl:∀ {n k j i:Nat},nth (upN n k) j=some i→i=n+j
 | n,0,j,i,h=>by simp [upN,nth]at h
 | n,k+1,0,i,h=>by simp [upN,nth]at h;omega
 | n,k+1,j+1,i,h=>by have:=jl (n:=n+1) (k:=k) (j:=j) h;omega
theorem gA:∀(n k:Nat),(upN n k).length=k
 | _,0=>rfl
 | n,k+1=>by simp [upN,gA (n+1) k]
theorem D6 {o:Option Kn} {p:PK}(h:jh o=some p):o=some (.p p):=by
 unfold jh at h
 split at h
 ·injection h with h;rw [h]
 ·cases h
theorem Ez {st:St U} {fr:Fr} {id off:Nat} {g:Nat} {cs:List Value} {T t:TypeId} {v:Value}(hk:ax st.rs fr st.kn)(hn:nth st.rs id=some (.blk g cs T))(hv:kZ P t cs off=some v)(hs:n9 P t=false):KnO st.rs v (BM id off st.kn v):=by
 unfold BM
 split
 ·rename_i v2 Z6
  split
  ·refine⟨Z6,rfl,fun j p hj=>?_⟩
   rw [bk]at hj
   cases hu:nth (upN 0 Z6.toList.length) j with
   | none=>rw [hu]at hj;cases hj
   | some i=>
    rw [hu]at hj
    have OH:i=j:=by have:=jl hu;omega
    subst OH
    have Od:=aX hu
    rw [gA]at Od
    injection hj with hj
    obtain⟨g',cs',T',u,e1,e2,e3⟩:=hk.get (D6 hj)
    rw [hn]at e1
    injection e1 with e1
    injection e1 with _ e1 _
    subst e1
    refine⟨u,?_,e3⟩
    have key:∀m,i<(jK m (mW off cs)).length→(jK m (mW off cs))[i]? =some u:=fun m hm=>by
     rw [fv,gp]at hm ⊢
     rw [List.getElem?_take,if_pos (by simp at hm;omega),List.getElem?_drop,← aI]
     exact e2
    unfold kZ at hv
    unfold n9 at hs
    split at hv
    ·split at hv
     ·rename_i h2;rw [h2]at hs;cases hs
     ·injection hv with hv;injection hv with hv
      subst hv
      simpa using key _ Od
     ·injection hv with hv;injection hv with hv
      subst hv
      simpa using key _ Od
    ·cases hv
  ·trivial
 ·trivial
theorem uT {t:TypeId} {x:Value} {k:Option Kn} {st:St U} {X:Nat→Nat→Prop} {w:World} {K:Value→Option Kn→Prop}(hS:Sat st.rs X w) {fr:Fr}(hk:ax st.rs fr st.kn)(hx:KnO st.rs x k)(h:uU U P t k st K):
 ∃v kv,K v kv∧KnO st.rs v kv∧∀w',Kept (match k with | some (.p k)=>X k.id | _=>fun _=>False) w w'→(Instr.loadAt t x).run P w'= .ok v w':=by
 unfold uU at h
 split at h
 ·rename_i id off
  split at h
  ·rename_i g cs T hn
   obtain⟨v,hv,hK⟩:=dA h
   have hd:den U st.rs (.loc id off)=some x:=hx
   simp only [den,PK.id,hn,cA,Option.some.injEq]at hd
   subst hd
   obtain⟨hg,hX,hb⟩:=hS.res id _ hn
   refine⟨v,_,hK,?_,fun w' hw=>jU hv fun j u hj hu=>?_⟩
   ·cases hs:n9 P t
    ·exact Ez hk hn hv hs
    ·simp only
     cases hq:dm (.c id off) st.kn with
     | none=>exact trivial
     | some q=>
      obtain⟨g',cs',T',u,e1,e2,e3⟩:=hk.get hq
      rw [hn]at e1
      injection e1 with e1
      injection e1 with _ e1 _
      subst e1
      have:v=u:=by
       unfold kZ at hv
       unfold n9 at hs
       split at hv
       ·split at hv
        ·rw [e2]at hv;injection hv with hv;exact hv.symm
        ·rename_i Tz;rw [Tz]at hs;cases hs
        ·rename_i Tz;rw [Tz]at hs;cases hs
       ·cases hv
      rw [this];exact e3
   ·refine Kept.y9 hw (by rw [block_add];exact hg) ?_
    rw [bK]
    exact hb.cell (by rw [aI]at hu;simpa using hu)
  ·exact h.elim
 ·rename_i id path off
  split at h
  ·rename_i tt r s hn
   split at h
   rotate_left
   ·split at h
    ·rename_i c cs Su
     obtain⟨hc,h⟩:=h
     obtain⟨v,hv,hK⟩:=dA h
     have hd:den U st.rs (.obj id path off)=some x:=hx
     simp only [den,PK.id,hn,cA,Option.some.injEq]at hd
     subst hd
     obtain⟨hX,OP⟩:=U.uA (hS.res id _ hn) Su hc
     refine⟨v,_,hK,trivial,fun w' hw=>jU hv fun j u hj hu=>?_⟩
     refine Kept.y9 hw (by rw [block_add];exact hX) ?_
     rw [Nat.zero_add,aI]at hu
     rw [bK]
     exact OP j u hu
    ·exact h.elim
   ·rename_i f hf
    obtain⟨u,hu,h⟩:=dA h
    obtain⟨v,hv,hK⟩:=dA h
    have hd:den U st.rs (.obj id path off)=some x:=hx
    simp only [den,PK.id,hn,cA,Option.some.injEq]at hd
    subst hd
    obtain⟨hX,hc⟩:=U.sU (hS.res id _ hn) hf hu
    refine⟨v,_,hK,?_,fun w' hw=>jU hv fun j y hj hy=>?_⟩
    ·cases hs:n9 P t
     ·exact trivial
     ·have huv:u=v:=by
       unfold kZ at hv
       unfold n9 at hs
       split at hv
       ·split at hv
        ·injection hv
        ·rename_i Tz;rw [Tz]at hs;cases hs
        ·rename_i Tz;rw [Tz]at hs;cases hs
       ·cases hv
      subst huv
      cases f with
      | v y=>exact trivial
      | o p o=>
       have Uz:den U st.rs (.obj id p o)=some u:=by
        simp only [den,PK.id,hn,cA]
        exact hu
       cases o with
       | succ o=>exact Uz
       | zero=>
        show KnO st.rs u (match dm (.l id p) st.kn with
         | some k=>some k
         | none=>some (.p (.obj id p 0)))
        cases hl:dm (.l id p) st.kn with
        | none=>exact Uz
        | some k=>
         obtain⟨t',r',s',e1,e2⟩:=hk.get hl
         rw [hn]at e1
         injection e1 with e1
         cases e1
         simp only [fvV,Option.some.injEq]at hu
         rw [← hu]
         exact e2
      | l i=>
       show den U st.rs (.sl id i)=_
       simp only [den,PK.id,hn,cA]
       simp only [fvV]at hu
       simp only [jT]
       cases hL:U.li tt r s i with
       | none=>rw [hL]at hu;cases hu
       | some L=>simp only [hL]at hu ⊢;exact hu
    ·cases j with
     | zero=>
      simp only [Nat.zero_add,nth,Option.some.injEq]at hy
      subst hy
      exact Kept.y9 hw (by rw [block_add];exact hX) hc
     | succ j=>simp [nth]at hy
  ·exact h.elim
 ·rename_i id li i off
  split at h
  ·rename_i r hn
   split at h
   ·rename_i L hL
    have hd:den U st.rs (.el id li i off)=some x:=hx
    simp only [den,PK.id,hn,cA,hL]at hd
    split at hd
    ·rename_i hb
     injection hd with hd
     subst hd
     have hr:=(hS.res id _ hn).ls hL
     obtain⟨p,y,hA,hy,hZ,hc⟩:=hr.ld hb.1 hb.2
     split at h
     ·rename_i _ ho
      have ho:off=0:=Nat.eq_of_beq_eq_true ho
      subst ho
      split at h
      ·rename_i h1
       have h1:(U.en L.t).size=1:=Nat.eq_of_beq_eq_true h1
       obtain⟨hle,h⟩:=h
       obtain⟨v,hv,hK⟩:=dA h
       refine⟨v,_,hK,trivial,fun w' hw=>jU hv fun j u hj hu=>?_⟩
       rw [Nat.zero_add,Hj,bk]at hu
       cases Sw:nth (upN 0 (bz P t)) j with
       | none=>rw [Sw]at hu;cases hu
       | some j'=>
        rw [Sw]at hu
        have OH:j'=j:=by have:=jl Sw;omega
        subst OH
        have Od:=aX Sw
        rw [gA]at Od
        injection hu with hu
        have hx2:=List.getElem?_eq_getElem (l:=L.l) (i:=i.toNat+j') (by omega)
        obtain⟨p',Rw,hZ',VH⟩:=hr.cell _ _ hx2
        rw [hA]at Rw
        injection Rw with Rw
        subst Rw
        have h0:=VH 0 (by show 0<(U.en L.t).size;omega)
        have e1:elA U L.t L.A i 0=p.add i.toNat:=by unfold elA;rw [hA,h1];simp [Addr.add]
        rw [e1]
        refine Kept.y9 hw (by rw [block_add,block_add];exact hZ) ?_
        have e2:(p.add ((i.toNat+j')*Enc.size (U.el L.t))).add 0=(p.add i.toNat).add j':=by
         rw [show Enc.size (U.el L.t)=1 from h1,add_add,add_add,Nat.mul_one,Nat.add_zero]
        rw [e2]at h0
        have hu:hd1 (enc (L.l.getD (i.toNat+j') (U.df L.t)))=u:=hu
        rw [h0,← hu,List.getD_eq_getElem?_getD,hx2]
        show(enc L.l[i.toNat+j'])[0]? =some (hd1 (enc L.l[i.toNat+j']))
        have hl:(enc L.l[i.toNat+j']).length=1:=by rw [cw];exact h1
        match he:enc L.l[i.toNat+j'],hl with
        | [a],_=>rfl
      ·exact h.elim
     obtain⟨v,hv,hK⟩:=dA h
     refine⟨v,_,hK,trivial,fun w' hw=>jU hv fun j u hj hu=>?_⟩
     have hg:L.l.getD i.toNat (U.df L.t)=y:=by rw [List.getD_eq_getElem?_getD,hy];rfl
     rw [hg]at hu
     have hjs:off+j<Enc.size (U.el L.t):=by have:=aX hu;rw [← cw y];exact this
     have h2:=hc (off+j) hjs
     refine Kept.y9 hw ?_ ?_
     ·unfold elA
      rw [hA]
      simp only [Option.getD_some,block_add]
      exact hZ
     ·unfold elA
      rw [hA]
      simp only [Option.getD_some]
      rw [add_add]
      rw [aI]at hu
      exact h2.trans hu
    ·cases hd
   ·exact h.elim
  ·exact h.elim
 ·exact h.elim
theorem yu(ρ:Operand→Value)(a:Array Operand):(⟨aG ρ a.toList⟩:Array Value)=a.map ρ:=by
 apply Array.ext'
 simp [gM]
theorem yM {rs:List (Res U)} {cs:List Value}:∀ {l:List (Nat×PK)} {F:Prop},LA rs cs l F→F∧∀o p,(o,p)∈l→den U rs p=nth cs o
 | [],F,h=>⟨h,fun _ _ h=>by cases h⟩
 | (a,b)::l,F,h=>by
  obtain⟨h1,h2⟩:=yM h.2
  refine⟨h1,fun o p hm=>?_⟩
  rcases List.mem_cons.1 hm with e | hm
  ·injection e with e1 e2;subst e1;subst e2;exact h.1
  ·exact h2 o p hm
theorem tp {j:Nat} {p:PK}:∀ {l:List (Nat×PK)},wL j l=some p→(j,p)∈l
 | (a,b)::l,h=>by
  unfold wL at h
  split at h
  ·rename_i he
   injection h with h
   subst h
   rw [← Nat.eq_of_beq_eq_true he];exact List.mem_cons_self ..
  ·exact List.mem_cons_of_mem _ (tp h)
theorem uR {o:Oper} {fr:Fr} {st:St U} {X:Nat→Nat→Prop} {w:World} {K:Value→Option Kn→Prop}(hS:Sat st.rs X w)(hk:ax st.rs fr st.kn)(h:ot U P o (ev fr) st K):
 ∃v k,K v k∧KnO st.rs v k∧∀w',Kept (rdX o st.kn X) w w'→(execOp (ev fr) o).run P w'= .ok (.value v) w':=by
 have hc:∀v,ev fr (.const v)=v:=fun _=>rfl
 have hp:∀F:Value→Prop,(∀t x,o.op≠ .load t x)→qv P o (ev fr) F→∃v,F v∧∀w',Kept (rdX o st.kn X) w w'→(execOp (ev fr) o).run P w'= .ok (.value v) w':=fun F hl hF=>by
  obtain⟨v,h1,h2⟩:=D5 hc hl hF w
  exact⟨v,h1,fun w' hw=>h2 w' hw.os hw.tape hw.output⟩
 have Vp:(∀t x,o.op≠ .load t x)→qv P o (ev fr) (fun v=>K v none)→∃v k,K v k∧KnO st.rs v k∧∀w',Kept (rdX o st.kn X) w w'→(execOp (ev fr) o).run P w'= .ok (.value v) w':=fun hl hF=>by
  obtain⟨v,h1,h2⟩:=hp _ hl hF
  exact⟨v,none,h1,trivial,h2⟩
 obtain⟨dst,op,ty,pos,after,guard⟩:=o
 cases op<;>first
  | exact Vp (fun _ _ e=>by cases e) h
  | skip
 case move x=>exact⟨_,_,h,hk.kf x,fun _ _=>rfl⟩
 case assign x=>exact⟨_,_,h,hk.kf x,fun _ _=>rfl⟩
 case build t ps=>
  obtain⟨v,h1,h2⟩:=hp _ (fun _ _ e=>by cases e) h
  unfold Ho at h1
  split at h1
  ·exact⟨v,none,h1,trivial,h2⟩
  ·split at h1
   ·rename_i cs
    obtain⟨h1,h3⟩:=yM h1
    refine⟨_,_,h1,⟨cs,rfl,fun j k hj=>?_⟩,h2⟩
    rw [bk]at hj
    cases hn:nth (upN 0 cs.toList.length) j with
    | none=>rw [hn]at hj;cases hj
    | some i=>
     rw [hn]at hj
     have OH:i=j:=by have:=jl hn;omega
     subst OH
     injection hj with hj
     have:=h3 _ _ (tp hj)
     have Od:=aX hn
     rw [gA]at Od
     obtain⟨u,hu⟩:=cr (l:=cs.toList) (i:=i) Od
     exact⟨u,by rw [aI]at hu;simpa using hu,by rw [this,hu]⟩
   ·exact h1.elim
 case load t x=>
  obtain⟨v,kv,h1,h2,h3⟩:=uT hS hk (hk.kf x) h
  refine⟨v,kv,h1,h2,fun w' hw=>?_⟩
  have:=h3 w' hw
  simp [execOp,this]
 case nilCheck x=>
  simp only [ot]at h
  split at h
  ·rename_i p hx
   refine⟨_,_,h,by rw [← hx];exact hk.kf x,fun w' _=>?_⟩
   simp [execOp,hx]
  ·exact h.elim
 case fieldAddr s x f=>
  have h:kG P s (ev fr x) f (fun v=>K v (wm P s f (V.kf st.kn x))):=h
  obtain⟨fields,fd,p,h1,h2,h3,h4,h5⟩:=BH h
  refine⟨_,_,h4,?_,fun w' _=>by simp [execOp,h5]⟩
  have hx:=hk.kf x
  rw [h3]at hx
  unfold wm
  split
  ·rename_i k PG
   rw [PG]at hx
   rw [h1]
   simp only [h2]
   have hx:den U st.rs k=some (.pointer (some p)):=hx
   cases k with
   | loc id off=>
    show den U st.rs _=_
    unfold den at hx ⊢
    simp only [PK.id]at hx ⊢
    cases hn:nth st.rs id with
    | none=>rw [hn]at hx;simp [cA]at hx
    | some r=>
     rw [hn]at hx
     cases r<;>simp only [cA,reduceCtorEq,Option.some.injEq,Value.pointer.injEq]at hx ⊢
     rw [← hx,bK]
   | el id li i off=>
    show den U st.rs _=_
    unfold den at hx ⊢
    simp only [PK.id]at hx ⊢
    cases hn:nth st.rs id with
    | none=>rw [hn]at hx;simp [cA]at hx
    | some r=>
     rw [hn]at hx
     simp only [cA]at hx ⊢
     cases hL:jT r li with
     | none=>rw [hL]at hx;cases hx
     | some L=>
      simp only [hL]at hx ⊢
      split at hx
      ·rename_i hb
       rw [if_pos hb]
       injection hx with hx
       injection hx with hx
       injection hx with hx
       rw [← hx]
       unfold elA
       rw [← add_add]
      ·cases hx
   | obj id path off=>
    show den U st.rs _=_
    unfold den at hx ⊢
    simp only [PK.id]at hx ⊢
    cases hn:nth st.rs id with
    | none=>rw [hn]at hx;simp [cA]at hx
    | some r=>
     rw [hn]at hx
     cases r<;>simp only [cA,reduceCtorEq,Option.some.injEq,Value.pointer.injEq]at hx ⊢
     rw [← hx,bK]
   | sl _ _=>exact trivial
  ·exact trivial
 case sliceToArrayPointer arr x=>
  simp only [ot]at h
  have hx:=hk.kf x
  split at h
  ·rename_i id li PG
   rw [PG]at hx
   have hx:den U st.rs (.sl id li)=some (ev fr x):=hx
   split at h
   ·rename_i r n e hn ht
    split at h
    ·rename_i L hL
     simp only [den,PK.id,hn,cA,hL,Option.some.injEq]at hx
     obtain⟨⟨h0,hle⟩,hK⟩:=h
     obtain⟨p,y,hA,_⟩:=((hS.res id _ hn).ls hL).ld (i:=0) (by omega) (by omega)
     have e1:elA U L.t L.A 0 0=p:=by unfold elA;rw [hA];simp [Addr.add]
     obtain⟨v,hv,Pa⟩:=hp (fun v=>v= .pointer (some p)) (fun _ _ e=>by cases e) (by
      show(match P.underlying arr,ev fr x with
       | some (.array n _),.slice a len _=>n≤len∧Value.pointer a= .pointer (some p)
       | _,_=>False)
      rw [ht,← hx,hA]
      exact⟨hle,rfl⟩)
     subst hv
     rw [e1]at hK
     refine⟨_,_,hK,?_,Pa⟩
     show den U st.rs (.el id li 0 0)=_
     simp only [den,PK.id,hn,cA,hL]
     rw [if_pos (by omega),e1]
    ·exact h.elim
   ·exact h.elim
  ·exact h.elim
 case indexAddr t x i=>
  simp only [ot]at h
  have hx:=hk.kf x
  split at h
  ·rename_i id li k ix PG hi
   rw [PG]at hx
   have hx:den U st.rs (.sl id li)=some (ev fr x):=hx
   split at h
   ·rename_i r e hn ht
    split at h
    ·rename_i L hL
     simp only [den,PK.id,hn,cA,hL,Option.some.injEq]at hx
     split at h
     ·rename_i he
      simp only [Bool.and_eq_true]at he
      have Of:bz P e=(U.en L.t).size:=Nat.eq_of_beq_eq_true he.2
      obtain⟨hb,hK⟩:=h
      obtain⟨p,y,hA,_⟩:=((hS.res id _ hn).ls hL).ld hb.1 hb.2
      have hv:elA U L.t L.A ix 0=p.add (ix.toNat *bz P e):=by
       unfold elA
       rw [hA,Of]
       simp [Addr.add]
      refine⟨_,_,hK,?_,fun w' _=>?_⟩
      ·show den U st.rs (.el id li ix 0)=_
       simp only [den,PK.id,hn,cA,hL]
       rw [if_pos hb]
      ·have:=Jw (P:=P) (c:=L.c) (k:=k) ht he.1 hb hA w'
       rw [hv]
       simp [execOp,← hx,hi,this]
     ·exact h.elim
    ·exact h.elim
   ·exact h.elim
  ·rename_i id path off k ix PG hi
   rw [PG]at hx
   have hx:den U st.rs (.obj id path off)=some (ev fr x):=hx
   split at h
   ·rename_i tt r s li n e hn Sz ht
    split at h
    ·rename_i L hL
     simp only [den,PK.id,hn,cA,Option.some.injEq]at hx
     split at h
     ·rename_i he
      simp only [Bool.and_eq_true]at he
      have Of:bz P e=(U.en L.t).size:=Nat.eq_of_beq_eq_true he.2
      obtain⟨⟨hb,TD⟩,hK⟩:=h
      unfold Uni.ix1 at Sz
      rw [hn]at Sz
      have hA:=U.sO Sz hL
      have hM:qT P t (ev fr x) (ev fr i) (fun v=>v= .pointer (some ((Addr.mk (r path) off none).add (ix.toNat *bz P e)))):=by
       unfold qT
       rw [ht,← hx,hi]
       simp only [he.1]
       exact⟨⟨hb.1,TD⟩,ao _ rfl rfl⟩
      obtain⟨v,hv,Pa⟩:=oy hM
      have hvE:elA U L.t L.A ix 0=(Addr.mk (r path) off none).add (ix.toNat *bz P e):=by
       unfold elA
       rw [hA,Of]
       simp [Addr.add]
      refine⟨_,_,hK,?_,fun w' _=>?_⟩
      ·show den U st.rs (.el id li ix 0)=_
       simp only [den,PK.id,hn,cA,jT,hL]
       rw [if_pos hb]
      ·rw [hvE,← hv]
       simp [execOp,Pa]
     ·exact h.elim
    ·exact h.elim
   ·exact h.elim
  ·rename_i id off k ix PG hi
   rw [PG]at hx
   have hx:den U st.rs (.loc id off)=some (ev fr x):=hx
   unfold den at hx
   simp only [PK.id]at hx
   cases hn:nth st.rs id with
   | none=>rw [hn]at hx;simp [cA]at hx
   | some r=>
    rw [hn]at hx
    cases r<;>simp only [cA,reduceCtorEq,Option.some.injEq]at hx
    rename_i g cs T
    rw [← hx]at h
    obtain⟨n,e,k',ix',h1,h2,h3,h4⟩:=G2 h
    rw [hi]at h2
    injection h2 with h2 h2'
    subst h2;subst h2'
    refine⟨_,_,h3,?_,fun w' _=>by simp [execOp,← hx,h4]⟩
    show den U st.rs _=_
    simp only [den,PK.id,hn,cA,G8,h1]
    rw [bK]
  ·exact h.elim
 case extract x i=>
  simp only [ot]at h
  split at h
  ·rename_i vs hx
   obtain⟨v,hv,hK⟩:=dA h
   have QW:vs[i]? =some v:=by rw [aI]at hv;simpa using hv
   refine⟨v,_,hK,?_,fun w' _=>?_⟩
   ·unfold GV
    split
    ·rename_i l PG
     split
     ·rename_i p hl
      have:=hk.kf x
      rw [PG,hx]at this
      obtain⟨vs',e,hh⟩:=this
      injection e with e
      subst e
      obtain⟨u,hu,hd⟩:=hh i p hl
      rw [QW]at hu
      injection hu with hu
      subst hu
      exact hd
     ·exact trivial
    ·exact trivial
   ·simp [execOp,Instr.extract,hx,QW]
  ·exact h.elim
 case makeFunc f first cap=>
  refine⟨_,_,h,?_,fun w' _=>by rw [yu,yu];rfl⟩
  have key:∀(a:Array Operand)(j:Nat)(k:PK),nth (aG (fun x=>jh (V.kf st.kn x)) a.toList) j=some (some k)→∃u,(⟨aG (ev fr) a.toList⟩:Array Value)[j]? =some u∧den U st.rs k=some u:=by
   intro a j k hj
   rw [bk]at hj
   cases hn:nth a.toList j with
   | none=>rw [hn]at hj;cases hj
   | some x=>
    rw [hn]at hj
    injection hj with hj
    refine⟨ev fr x,?_,?_⟩
    ·rw [aI]at hn
     simp [gM,hn]
    ·have:=hk.kf x
     unfold jh at hj
     dsimp only at hj
     split at hj
     ·rename_i q hq
      injection hj with hj
      subst hj
      rw [hq]at this
      exact this
     ·cases hj
  exact⟨_,_,_,rfl,by simp,key first,key cap⟩
 case binOp op t x y ty'=>
  simp only [ot]at h
  split at h
  ·exact h.elim
  ·exact Vp (fun _ _ e=>by cases e) h
 case slice t x lo hi mx=>
  cases lo with
  | some _=>exact h.elim
  | none=>cases hi with
   | some _=>exact h.elim
   | none=>cases mx with
    | some _=>exact h.elim
    | none=>
     simp only [ot]at h
     have hx:=hk.kf x
     split at h
     ·rename_i id path off PG
      rw [PG]at hx
      have hx:den U st.rs (.obj id path off)=some (ev fr x):=hx
      split at h
      ·rename_i tt r s li n e hn Sz ht
       split at h
       ·rename_i L hL
        simp only [den,PK.id,hn,cA,Option.some.injEq]at hx
        split at h
        ·rename_i he
         obtain⟨⟨⟨hl,hc⟩,hn0⟩,hK⟩:=h
         unfold Uni.ix1 at Sz
         rw [hn]at Sz
         have hA:=U.sO Sz hL
         have hM:r8 P t (ev fr x) none none none (fun v=>v= .slice L.A L.l.length L.c) False:=by
          unfold r8
          rw [ht,← hx]
          simp only [he,Option.isNone_none,Bool.true_or,Bool.and_self]
          refine ao _ rfl ?_
          unfold nD qH th
          intro a' ha' n' RD c' VH
          subst ha' RD VH
          rw [if_neg (by omega),hA,hl,hc]
          simp [Addr.add]
         rcases r7 hM with⟨v,hv,Pa⟩ | h
         ·refine⟨_,_,hK,?_,fun w' _=>?_⟩
          ·show den U st.rs (.sl id li)=_
           simp only [den,PK.id,hn,cA,jT,hL]
          ·rw [← hv]
           simp [execOp,Pa]
         ·exact h.elim
        ·exact h.elim
       ·exact h.elim
      ·exact h.elim
     ·exact h.elim
end
end
end Go.Proofs.YtinhphjfnedhgaaGreatDoor.V
namespace Go.Proofs.YtinhphjfnedhgaaGreatDoor
open Go.Proofs.Tryz (prog)
open Go Go.RowKit V
open Go.IntKind (i64 u32 u64)
def br(a b:Int):Int:=u32.wrap (a+b)
def rI(a b:Int):Int:=u32.wrap (BitVec.ofInt u32.bits a ^^^ BitVec.ofInt u32.bits b).toNat
def Hx(a b:Int):Int:=u32.wrap (BitVec.ofInt u32.bits a &&& BitVec.ofInt u32.bits b).toNat
def Nl(a:Int):Int:=u32.wrap (BitVec.ofInt u32.bits (if u32.signed then -1 else u32.max) ^^^ BitVec.ofInt u32.bits a).toNat
def od(w n:Int):Int:=u32.wrap (BitVec.ofInt u32.bits (w.fdiv (2 ^ (min n.toNat u32.bits))) ||| BitVec.ofInt u32.bits (u32.wrap (w*2 ^ (min (32 - n).toNat u32.bits)))).toNat
theorem Mj {k:Int}(h: -31≤k∧k≤ -1):u64.wrap (BitVec.ofInt u64.bits (u64.wrap k) &&& BitVec.ofInt u64.bits 31).toNat=32+k:=by
 have:∀j:Fin 31,u64.wrap (BitVec.ofInt u64.bits (u64.wrap (-(j.val+1:Int))) &&& BitVec.ofInt u64.bits 31).toNat=32+ -(j.val+1:Int):=by decide+kernel
 have h2:=this ⟨(-k - 1).toNat,by omega⟩
 simp only []at h2
 rwa [show(-(((-k - 1).toNat:Nat)+1:Int))=k by omega]at h2
theorem gW {x:Int}(h:0≤x∧x<18446744073709551616):u64.wrap x=x:=by rw [IntKind.wrap_u64];omega
theorem rot_eq {x k:Int}(h: -31≤k∧k≤ -1):u32.wrap (BitVec.ofInt u32.bits (u32.wrap (x*2 ^ (min (32+k).toNat u32.bits))) ||| BitVec.ofInt u32.bits (x.fdiv (2 ^ (min (u64.wrap (32 - (32+k))).toNat u32.bits)))).toNat=od x (-k):=by
 rw [gW (by omega),BitVec.or_comm,show 32 - (32+k)= -k by omega]
 unfold od
 rw [show 32 - -k=32+k by omega]
def sg0(a:Int):Int:=rI (rI (od a 7) (od a 18)) (a.fdiv (2 ^ 3))
def sg1(b:Int):Int:=rI (rI (od b 17) (od b 19)) (b.fdiv (2 ^ 10))
abbrev back(l:List Int)(t k:Int):Int:=l.getD (Int.toNat (i64.wrap (t - k))) 0
def Gh(l:List Int)(t:Int):Int:=br (br (br (back l t 16) (sg0 (back l t 15))) (back l t 7)) (sg1 (back l t 2))
def ah(b:List Int):Nat→List Int
 | 0=>b++List.replicate 48 0
 | k+1=>(ah b k).set (16+k) (Gh (ah b k) ((16+k:Nat):Int))
theorem di {b:List Int}(h:b.length=16):∀k,(ah b k).length=64
 | 0=>by simp [ah,h]
 | k+1=>by simp [ah,di h k]
theorem xV {b:List Int} {t:Int}(h:16≤t∧t<64):ah b ((i64.wrap (t+1)).toNat - 16)=(ah b (t.toNat - 16)).set t.toNat (Gh (ah b (t.toNat - 16)) t):=by
 rw [aq (by omega),show(t+1).toNat - 16=(t.toNat - 16)+1 by omega,ah,show 16+(t.toNat - 16)=t.toNat by omega,show((t.toNat:Nat):Int)=t by omega]
@[ext] structure S8 where
 (a b c d e f g h:Int)
deriving DecidableEq
def S8.T1(k w:Int)(s:S8):Int:=br (br (br (br s.h (rI (rI (od s.e 6) (od s.e 11)) (od s.e 25))) (rI (Hx s.e s.f) (Hx (Nl s.e) s.g))) k) w
def S8.T2(s:S8):Int:=br (rI (rI (od s.a 2) (od s.a 13)) (od s.a 22)) (rI (rI (Hx s.a s.b) (Hx s.a s.c)) (Hx s.b s.c))
def S8.rnd(k w:Int)(s:S8):S8:=⟨br (s.T1 k w) s.T2,s.a,s.b,s.c,br s.d (s.T1 k w),s.e,s.f,s.g⟩
def aK(K W:List Int)(s:S8):Nat→S8
 | 0=>s
 | t+1=>S8.rnd (K.getD t 0) (W.getD t 0) (aK K W s t)
theorem fC {K W:List Int} {s:S8} {t:Int}(h:0≤t∧t<64):aK K W s (i64.wrap (t+1)).toNat=S8.rnd (K.getD t.toNat 0) (W.getD t.toNat 0) (aK K W s t.toNat):=by
 rw [aq (by omega),show(t+1).toNat=t.toNat+1 by omega,aK]
def S8.add(s v:S8):S8:=⟨br v.a s.a,br v.b s.b,br v.c s.c,br v.d s.d,br v.e s.e,br v.f s.f,br v.g s.g,br v.h s.h⟩
def j5(K:List Int)(s:S8)(b:List Int):S8:=s.add (aK K (ah b 48) s 64)
def S8.first:S8:=⟨1779033703,3144134277,1013904242,2773480762,1359893119,2600822924,528734635,1541459225⟩
def S8.ok(s:S8):Prop:=(0≤s.a∧s.a<4294967296)∧(0≤s.b∧s.b<4294967296)∧(0≤s.c∧s.c<4294967296)∧(0≤s.d∧s.d<4294967296)∧(0≤s.e∧s.e<4294967296)∧(0≤s.f∧s.f<4294967296)∧(0≤s.g∧s.g<4294967296)∧(0≤s.h∧s.h<4294967296)
theorem eP(a b:Int):0≤br a b∧br a b<4294967296:=by unfold br;rw [u32_eq];omega
theorem S8.tw(s v:S8):(s.add v).ok:=⟨eP _ _,eP _ _,eP _ _,eP _ _,eP _ _,eP _ _,eP _ _,eP _ _⟩
end Go.Proofs.YtinhphjfnedhgaaGreatDoor
namespace Go.Proofs.YtinhphjfnedhgaaGreatDoor.V
open Go Go.RowKit
open Go.IntKind (i64 u32 u64)
theorem tj:u32.bits=32:=rfl
theorem Hp:u64.bits=64:=rfl
def nor(x y:Int):Int:=((x.toNat ||| y.toNat:Nat):Int)
def Jn(x y:Int):Int:=((x.toNat &&& y.toNat:Nat):Int)
theorem eJ {n:Nat} {x:Int}(h0:0≤x)(h:x<2 ^ n):(BitVec.ofInt n x).toNat=x.toNat:=by
 rw [BitVec.toNat_ofInt,Int.emod_eq_of_lt h0 (by exact_mod_cast h)]
theorem pL {x y:Int}(hx:0≤x∧x<4294967296)(hy:0≤y∧y<4294967296):u32.wrap (BitVec.ofInt u32.bits x ||| BitVec.ofInt u32.bits y).toNat=nor x y:=by
 have h:=BitVec.isLt (BitVec.ofInt 32 x ||| BitVec.ofInt 32 y)
 rw [tj,dE (by omega),BitVec.toNat_or,eJ hx.1 hx.2,eJ hy.1 hy.2];rfl
theorem rF {x y:Int}(hx:0≤x∧x<4294967296)(hy:0≤y∧y<4294967296):u32.wrap (BitVec.ofInt u32.bits x &&& BitVec.ofInt u32.bits y).toNat=Jn x y:=by
 have h:=BitVec.isLt (BitVec.ofInt 32 x &&& BitVec.ofInt 32 y)
 rw [tj,dE (by omega),BitVec.toNat_and,eJ hx.1 hx.2,eJ hy.1 hy.2];rfl
theorem gD(k:Nat) {a y:Int}(ha:0≤a)(hy:0≤y)(h:y<2 ^ k):nor (2 ^ k*a) y=2 ^ k*a+y:=by
 obtain⟨a,rfl⟩:=Int.eq_ofNat_of_zero_le ha
 obtain⟨y,rfl⟩:=Int.eq_ofNat_of_zero_le hy
 have h':y<2 ^ k:=by exact_mod_cast h
 have e:((2:Int) ^ k*(a:Int)).toNat=2 ^ k*a:=by
  rw [show(2:Int) ^ k*(a:Int)=((2 ^ k*a:Nat):Int)by push_cast;rfl,Int.toNat_natCast]
 unfold nor
 rw [e,Int.toNat_natCast,← Nat.two_pow_add_eq_or_of_lt h']
 push_cast;rfl
theorem oq(x y:Int):nor x y=nor y x:=by unfold nor;rw [Nat.or_comm]
theorem pR(k:Nat) {x:Int}(hx:0≤x):Jn x (2 ^ k - 1)=x % 2 ^ k:=by
 obtain⟨x,rfl⟩:=Int.eq_ofNat_of_zero_le hx
 have hp:0<2 ^ k:=Nat.two_pow_pos k
 have e:((2:Int) ^ k - 1).toNat=2 ^ k - 1:=by
  have:((2:Int) ^ k)=((2 ^ k:Nat):Int):=by push_cast;rfl
  omega
 unfold Jn
 rw [e,Int.toNat_natCast,Nat.and_two_pow_sub_one_eq_mod]
 push_cast;rfl
theorem lP {x:Int}(n:Nat):x.fdiv (2 ^ n)=x / 2 ^ n:=Int.fdiv_eq_ediv_of_nonneg x (Int.pow_nonneg (by omega))
end Go.Proofs.YtinhphjfnedhgaaGreatDoor.V
namespace Go.Proofs.YtinhphjfnedhgaaGreatDoor
open Go.Proofs.Tryz (prog)
open Go Go.RowKit V
open Go.IntKind (i64 u32 u64)
section
def LS(K:List Int):Nat→S8→List U32→S8×List U32
 | 0,s,l=>(s,l)
 | f+1,s,l=>if 16≤l.length then LS K f (j5 K s ((l.take 16).map U32.v)) (l.drop 16)else(s,l)
def eu(K:List Int)(s:S8)(l:List U32):S8×List U32:=LS K (l.length / 16) s l
theorem gQ {K:List Int} {s:S8} {l:List U32}(h:l.length<16):eu K s l=(s,l):=by
 unfold eu
 rw [Nat.div_eq_of_lt h];rfl
theorem ju {K:List Int} {s:S8} {l:List U32}(h:16≤l.length):eu K s l=eu K (j5 K s ((l.take 16).map U32.v)) (l.drop 16):=by
 unfold eu
 rw [show l.length / 16=(l.drop 16).length / 16+1 by rw [List.length_drop];omega,LS,if_pos h]
theorem nE {K:List Int} {p:S8→List U32→Prop}(h0:∀s l,l.length<16→p s l)(h1:∀s l,16≤l.length→p (j5 K s ((l.take 16).map U32.v)) (l.drop 16)→p s l):∀(n:Nat)(s:S8)(l:List U32),l.length=n→p s l:=by
 intro n
 induction n using Nat.strongRecOn with
 | ind n ih=>
  intro s l hl
  by_cases h:l.length<16
  ·exact h0 s l h
  ·exact h1 s l (by omega) (ih (l.drop 16).length (by rw [List.length_drop];omega) _ _ rfl)
theorem BZ(K:List Int)(s:S8)(l:List U32):(eu K s l).2.length=l.length % 16:=by
 refine nE (K:=K) (p:=fun s l=>(eu K s l).2.length=l.length % 16) (fun s l h=>?_) (fun s l h ih=>?_) _ s l rfl
 ·simp only [gQ h];rw [Nat.mod_eq_of_lt h]
 ·simp only [ju h];rw [ih,List.length_drop];omega
theorem BY(K:List Int)(s:S8)(l:List U32):∀x∈(eu K s l).2,x∈l:=by
 refine nE (K:=K) (p:=fun s l=>∀x∈(eu K s l).2,x∈l) (fun s l h=>?_) (fun s l h ih=>?_) _ s l rfl
 ·simp only [gQ h];exact fun x h=>h
 ·simp only [ju h];exact fun x hx=>List.mem_of_mem_drop (ih x hx)
theorem EG(K:List Int)(s:S8)(l:List U32):s.ok→(eu K s l).1.ok:=by
 refine nE (K:=K) (p:=fun s l=>s.ok→(eu K s l).1.ok) (fun s l h=>?_) (fun s l h ih=>?_) _ s l rfl
 ·simp only [gQ h];exact fun h=>h
 ·simp only [ju h];exact fun _=>ih (S8.tw _ _)
theorem lq {l:List U32}(h:16≤l.length):(l.take 16).map U32.v= [(l.getD 0 ⟨0⟩).v,(l.getD 1 ⟨0⟩).v,(l.getD 2 ⟨0⟩).v,(l.getD 3 ⟨0⟩).v,(l.getD 4 ⟨0⟩).v,(l.getD 5 ⟨0⟩).v,(l.getD 6 ⟨0⟩).v,(l.getD 7 ⟨0⟩).v,(l.getD 8 ⟨0⟩).v,(l.getD 9 ⟨0⟩).v,(l.getD 10 ⟨0⟩).v,(l.getD 11 ⟨0⟩).v,(l.getD 12 ⟨0⟩).v,(l.getD 13 ⟨0⟩).v,(l.getD 14 ⟨0⟩).v,(l.getD 15 ⟨0⟩).v]:=by
 rcases l with _ | ⟨a,_ | ⟨b,_ | ⟨c,_ | ⟨d,_ | ⟨e,_ | ⟨f,_ | ⟨g,_ | ⟨h,_ | ⟨i,_ | ⟨j,_ | ⟨k,_ | ⟨m,_ | ⟨n,_ | ⟨o,_ | ⟨p,_ | ⟨q,r⟩⟩⟩⟩⟩⟩⟩⟩⟩⟩⟩⟩⟩⟩⟩⟩
 all_goals first | rfl | (simp at h;done)
structure Dg where
 st:S8
 n:Int
 waits:List U32
namespace Dg
def new:Dg:=⟨S8.first,0,[]⟩
def add(K:List Int)(d:Dg)(l:List U32):Dg:=if(l.length:Int)>36028797018963968 - d.n then d else⟨(eu K d.st (d.waits++l)).1,d.n+l.length,(eu K d.st (d.waits++l)).2⟩
structure Ok(d:Dg):Prop where
 n:0≤d.n∧d.n≤36028797018963968
 len:d.waits.length=(d.n % 16).toNat
 st:d.st.ok
 words:∀x∈d.waits,0≤x.v∧x.v<4294967296
theorem nm:new.Ok:=⟨by decide,rfl,by unfold S8.ok new S8.first;decide,by simp [new]⟩
theorem tw {K:List Int} {d:Dg} {l:List U32}(h:d.Ok)(hl:∀x∈l,0≤x.v∧x.v<4294967296):(d.add K l).Ok:=by
 unfold add
 split
 ·exact h
 ·have hn:=h.n
  have hw:=h.len
  refine⟨⟨by show 0≤d.n+_;omega,by show d.n+_≤_;omega⟩,?_,EG _ _ _ h.st,fun x hx=>?_⟩
  ·show(eu K d.st (d.waits++l)).2.length=((d.n+l.length) % 16).toNat
   rw [BZ,List.length_append,hw]
   omega
  ·rcases List.mem_append.1 (BY _ _ _ x hx)with h1 | h1
   ·exact h.words x h1
   ·exact hl x h1
def save(d:Dg):List Int:= [d.st.a,d.st.b,d.st.c,d.st.d,d.st.e,d.st.f,d.st.g,d.st.h,d.n / 4294967296,d.n % 4294967296]++(d.waits.map U32.v++List.replicate (16 - d.waits.length) 0)
def kq(l:List U32):S8:=⟨(l.getD 0 ⟨0⟩).v,(l.getD 1 ⟨0⟩).v,(l.getD 2 ⟨0⟩).v,(l.getD 3 ⟨0⟩).v,(l.getD 4 ⟨0⟩).v,(l.getD 5 ⟨0⟩).v,(l.getD 6 ⟨0⟩).v,(l.getD 7 ⟨0⟩).v⟩
def nOf(l:List U32):Int:=(l.getD 8 ⟨0⟩).v*4294967296+(l.getD 9 ⟨0⟩).v
def load(l:List U32):Dg:=⟨kq l,nOf l,(l.drop 10).take (nOf l % 16).toNat⟩
theorem save_eq {d:Dg}(h:d.Ok) {x y:Int} {n:Nat}(hx:x=d.n / 4294967296)(hy:y=d.n % 4294967296)(hn:d.waits.length=n):
 jg (((jg (List.replicate 26 0) 0 (List.take (min 8 8) [d.st.a,d.st.b,d.st.c,d.st.d,d.st.e,d.st.f,d.st.g,d.st.h])).set 8 x).set 9 y) 10 ((List.map U32.v d.waits).take (min n 16))=d.save:=by
 have hl:=h.len
 have R5:=h.n
 subst hx hy hn
 rw [List.take_of_length_le (l:=List.map U32.v d.waits) (by simp;omega)]
 have e:(((jg (List.replicate 26 0) 0 (List.take (min 8 8) [d.st.a,d.st.b,d.st.c,d.st.d,d.st.e,d.st.f,d.st.g,d.st.h])).set 8 (d.n / 4294967296)).set 9 (d.n % 4294967296))= [d.st.a,d.st.b,d.st.c,d.st.d,d.st.e,d.st.f,d.st.g,d.st.h,d.n / 4294967296,d.n % 4294967296]++(List.replicate d.waits.length 0++List.replicate (16 - d.waits.length) 0):=by
  rw [List.replicate_append_replicate,show d.waits.length+(16 - d.waits.length)=16 by omega];rfl
 rw [e]
 exact sf [d.st.a,d.st.b,d.st.c,d.st.d,d.st.e,d.st.f,d.st.g,d.st.h,d.n / 4294967296,d.n % 4294967296] (d.waits.map U32.v) _ _ (by simp)
theorem K7 {n:Int}(h:0≤n∧n≤36028797018963968):u32.wrap ((u64.wrap n:Int).fdiv (2 ^ 32))=n / 4294967296:=by
 rw [gW (by omega),lP,dE (by omega)];rfl
theorem nOf_eq {l:List U32}(h:∀x∈l,0≤x.v∧x.v<4294967296)(hl:l.length=26):u64.wrap (BitVec.ofInt u64.bits (u64.wrap ((u64.wrap (l.getD 8 ⟨0⟩).v:Int)*2 ^ 32)) ||| BitVec.ofInt u64.bits (u64.wrap (l.getD 9 ⟨0⟩).v)).toNat=nOf l∧0≤nOf l∧nOf l<18446744073709551616:=by
 have h8:=h _ (List.getElem_mem (show 8<l.length by omega))
 have h9:=h _ (List.getElem_mem (show 9<l.length by omega))
 have e8:(l.getD 8 ⟨0⟩)=l[8]:=by simp [List.getD_eq_getElem?_getD,hl]
 have e9:(l.getD 9 ⟨0⟩)=l[9]:=by simp [List.getD_eq_getElem?_getD,hl]
 have hn:nOf l=l[8].v*(4294967296:Int)+l[9].v:=by unfold nOf;rw [e8,e9]
 refine⟨?_,by rw [hn];omega,by rw [hn];omega⟩
 rw [e8,e9,hn]
 generalize l[8].v=a at *
 generalize l[9].v=b at *
 rw [gW (x:=a) (by omega),gW (x:=b) (by omega),gW (x:=a*2 ^ 32) (by omega)]
 rw [Hp,BitVec.toNat_or,eJ (by omega) (by omega),eJ (by omega) (by omega)]
 have:=gD 32 (a:=a) (y:=b) (by omega) (by omega) (by omega)
 unfold nor at this
 rw [show a*2 ^ 32=2 ^ 32*a by omega,this,gW (by omega)]
 omega
def ay(l:List U32):Int:=
 if l.length≠26 then 20 else if nOf l>36028797018963968∨(nOf l<16∧kq l≠S8.first)then 20
 else if(l.drop (10+(nOf l % 16).toNat)).all (fun x=>x.v==0)then 0 else 20
def zero:Dg:=⟨⟨0,0,0,0,0,0,0,0⟩,0,[]⟩
def kZ(l:List U32):Dg:=if ay l=0 then load l else zero
theorem ou {l:List U32}(h:¬l.length=26):ay l=20:=by unfold ay;rw [if_pos h]
theorem im {l:List U32}(h:l.length=26)(hg:nOf l>36028797018963968∨(nOf l<16∧kq l≠S8.first)):ay l=20:=by unfold ay;rw [if_neg (by simpa using h),if_pos hg]
theorem nr {l:List U32}(h:l.length=26)(hg:¬(nOf l>36028797018963968∨(nOf l<16∧kq l≠S8.first)))(hz:∀(i:Nat)(x:U32),(l.drop (10+(nOf l % 16).toNat))[i]? =some x→x.v=0):ay l=0:=by
 unfold ay
 rw [if_neg (by simpa using h),if_neg hg,if_pos]
 rw [List.all_eq_true]
 intro x hx
 obtain⟨i,hi⟩:=List.getElem?_of_mem hx
 simpa using hz i x hi
theorem fF {l:List U32}(h:l.length=26)(hg:¬(nOf l>36028797018963968∨(nOf l<16∧kq l≠S8.first))) {i:Nat} {x:U32}(hx:(l.drop (10+(nOf l % 16).toNat))[i]? =some x)(h0:¬x.v=0):ay l=20:=by
 unfold ay
 rw [if_neg (by simpa using h),if_neg hg,if_neg]
 rw [List.all_eq_true]
 intro hh
 exact h0 (by simpa using hh x (List.mem_of_getElem? hx))
theorem lo_eq {l:List U32}:(i64.wrap (10+nOf l % 16)).toNat=10+(nOf l % 16).toNat:=by rw [aq (by omega)];omega
end Dg
structure DgL where
 Y:Nat→Prop
 a:Option Addr
 n:Nat
 c:Nat
def DgL.X(L:DgL)(g:Nat):Nat→Prop:=fun k=>k=g∨L.Y k
structure pj(w:World)(g:Nat)(L:DgL)(D:Dg):Prop where
 blk:∃T,Blk w g #[.int .u32 D.st.a,.int .u32 D.st.b,.int .u32 D.st.c,.int .u32 D.st.d,.int .u32 D.st.e,.int .u32 D.st.f,.int .u32 D.st.g,.int .u32 D.st.h,.int .i64 D.n,.slice L.a L.n L.c] T
 rd:Rd w L.Y L.a L.n L.c D.waits
 off:¬L.Y g
variable {w w':World} {g:Nat} {L:DgL} {D:Dg} {X:Nat→Prop}
theorem pj.lt(h:pj w g L D):∀k,L.X g k→k<w.heap.size:=by
 rintro k (rfl | hk)
 ·obtain⟨T,b⟩:=h.blk;exact b.lt
 ·exact h.rd.lt k hk
theorem pj.ch(h:pj w g L D)(hk:Ch X w w')(hx:∀k,L.X g k→¬X k):pj w' g L D:=
 ⟨h.blk.imp fun _ b=>hk.blk b (hx g (.inl rfl)),h.rd.ch hk fun k hk=>hx k (.inr hk),h.off⟩
theorem pj.pu(h:pj w g L D)(hk:Pu w w'):pj w' g L D:=h.ch hk (by simp)
end
structure Mem where
 S:Nat
 I:Nat
 pg:Bool→Nat→Nat→Int
namespace Mem
def cnt(m:Mem)(s:Bool):Nat:=match s with
 | true=>m.S
 | false=>m.I
def has(m:Mem)(s:Bool)(p:Int):Bool:=decide (0≤p∧p<(m.cnt s:Int))
def dU(o:Int):Bool:=decide (0≤o∧o<1024)
def aZ(m:Mem)(s:Bool)(p o:Int):Int:=if m.has s p && dU o then m.pg s p.toNat o.toNat else 0
def tick(m:Mem)(_:Int):Mem:=m
def fill(m:Mem)(s:Bool)(p:Nat)(f:Nat→Int):Mem:= {m with pg:=fun s' p' o'=>if s'=s∧p'=p then f o' else m.pg s' p' o'}
def put(m:Mem)(s:Bool)(p o:Nat)(v:Int):Mem:=m.fill s p fun o'=>if o'=o then v else m.pg s p o'
def err(m:Mem)(s:Bool)(p o:Int):Int:=if m.has s p then(if dU o then 0 else 70)else 5
def write(m:Mem)(s:Bool)(p o v:Int):Mem:=if m.has s p && dU o then(m.put s p.toNat o.toNat v).tick 1 else m
def ei(m:Mem)(s:Bool)(p:Int):Int:=if m.has s p then 0 else 5
def zero(m:Mem)(s:Bool)(p:Int):Mem:=if m.has s p then(m.fill s p.toNat fun _=>0).tick 1024 else m
def fresh(S I:Nat):Mem:= {S,I,pg:=fun _ _ _=>0}
@[simp] theorem MR(m:Mem)(n:Int)(s:Bool):(m.tick n).cnt s=m.cnt s:=by cases s<;>rfl
@[simp] theorem MT(m:Mem)(s':Bool)(p:Nat)(f:Nat→Int)(s:Bool):(m.fill s' p f).cnt s=m.cnt s:=by cases s<;>rfl
@[simp] theorem Nc(m:Mem)(s':Bool)(p o:Nat)(v:Int)(s:Bool):(m.put s' p o v).cnt s=m.cnt s:=by cases s<;>rfl
theorem ai {m:Mem} {s:Bool} {p:Int}(h:m.has s p=true):0≤p∧p<(m.cnt s:Int):=by simpa [has]using h
theorem dO {m:Mem} {s:Bool} {p:Int}(h:m.has s p=true):p.toNat<m.cnt s:=by have:=ai h;omega
theorem iD {o:Int}(h:dU o=true):0≤o∧o<1024:=by simpa [dU]using h
end Mem
end Go.Proofs.YtinhphjfnedhgaaGreatDoor
namespace Go.Proofs.YtinhphjfnedhgaaGreatDoor
open Go.Proofs.Tryz (prog)
open Go Go.RowKit V
open Go.IntKind (i64 u32 u64)
section
set_option maxRecDepth 100000
def aM:List Nat:= [2,3,4,5,6,7,8,9,10,11,12,13,14,15,16,17,18,19,20,21,22,23,24,25,26,27,28,29,30,31,32,33,34,35,36,37,38,39,40,41,42,43,44,45,46,47,48,49,50,51,52,53,54,55,56,57,58,59,60,61,62,63,64,65,66,67,68,69,70,71,72,73,74,75,76,77,78,79,80,81,82,83,84,85,86,87,88,89,90,91,92,93,94,95,96,97,98,99,100,101,102,103,104,105,106,107,108,109,110,111,112,113,114,115,116,117,118,119,120,121,122,123,124,125,126,127,128,129,130,131,132,133,134,135,136,137,138,139,140,141,142,143,144,145,146,147,148,149,150,151,152,153,154,155,156,157,158,159,160,161,162,163,164,165,166,167,168,169,170,171,172,173,174,175,176,177,178,179,180,181,182,183,184,185,186,187,188,189,190,191,192,193,194,195,196,197,198,199,200,201,218,219,225]
theorem aw:eA prog aM=true:=by kernel_rfl
theorem aa:prog.follows .mixedOrders=true:=by kernel_rfl
def Iw(m:Option Addr)(fa:Bool)(fb:Int)(R:aB)(w:World):Prop:=
 ∀(gv:Nat)(wv:World),gv=w.heap.size→wv=w.alloc (.cells #[(.bool fa),(.int .i64 fb)] 86)→
 aA m fun p7=>
 ∃V0:Option Addr,∃UZ:Nat,∃x9C:Nat,wv.cell? (p7.add 1)=some (.slice V0 UZ x9C)∧
 ∃Pg:Bool,wv.cell? ((Addr.mk gv 0 none).add 0)=some (.bool Pg)∧
 split Pg (
  aA m fun Y6=>
  ∃Yz:Option Addr,∃Vb:Nat,∃aaR:Nat,wv.cell? (Y6.add 0)=some (.slice Yz Vb aaR)∧
  ∃J:Bool→World→Prop,(
   ∃OY:Int,wv.cell? ((Addr.mk gv 0 none).add 1)=some (.int .i64 OY)∧
   split (decide ((OY:Int)<0)) (
    J true wv) (
    ∃Pt:Int,wv.cell? ((Addr.mk gv 0 none).add 1)=some (.int .i64 Pt)∧
    J (decide ((Pt:Int)≥((Vb:Nat):Int))) wv))∧∀(NU:Nat→Value)(Ra:Bool),∀ND,J Ra ND→
  split Ra (
   R (.pointer none) ND) (
   ∃QE:Int,ND.cell? ((Addr.mk gv 0 none).add 1)=some (.int .i64 QE)∧
   (0≤(QE:Int)∧(QE:Int)<((Vb:Nat):Int))∧
   aA Yz fun Tv=>
   ∃Om:Option Addr,ND.cell? (Tv.add (Int.toNat QE*1))=some (.pointer Om)∧
   R (.pointer Om) ND)) (
  ∃J:Bool→World→Prop,(
   ∃OY:Int,wv.cell? ((Addr.mk gv 0 none).add 1)=some (.int .i64 OY)∧
   split (decide ((OY:Int)<0)) (
    J true wv) (
    ∃Pt:Int,wv.cell? ((Addr.mk gv 0 none).add 1)=some (.int .i64 Pt)∧
    J (decide ((Pt:Int)≥((UZ:Nat):Int))) wv))∧∀(NU:Nat→Value)(Ra:Bool),∀ND,J Ra ND→
  split Ra (
   R (.pointer none) ND) (
   ∃QE:Int,ND.cell? ((Addr.mk gv 0 none).add 1)=some (.int .i64 QE)∧
   (0≤(QE:Int)∧(QE:Int)<((UZ:Nat):Int))∧
   aA V0 fun Tv=>
   ∃Om:Option Addr,ND.cell? (Tv.add (Int.toNat QE*1))=some (.pointer Om)∧
   R (.pointer Om) ND))
def L6:Ann:=(.node none .leaf (.node none .leaf (.node none .leaf (.node none (.node none (.node (some ⟨[(25,.one (.bool))],[16,17,18,19,20,21,22,23,24,25]⟩) .leaf .leaf) .leaf) .leaf))))
theorem MAt_eq(m:Option Addr)(fa:Bool)(fb:Int)(R:aB)(w:World):Iw m fa fb R w=vcF prog aM [] Tryz.f90 L6 [(.pointer m),(.agg #[(.bool fa),(.int .i64 fb)])] R none w:=by kernel_rfl
theorem Fk(m:Option Addr)(fa:Bool)(fb:Int) {R:aB} {w:World}(h:Iw m fa fb R w):Calls prog 90 #[(.pointer m),(.agg #[(.bool fa),(.int .i64 fb)])] w fun e w'=>∃v,e= .returned v∧R v w':=
 ak Tryz.func90 aw aa ((MAt_eq m fa fb R w).mp h)
def vv(m:Option Addr)(R:aB)(w:World):Prop:=
 ∃b:Nat→Nat→Prop,
 aA m fun p4=>
 b 3 ((p4.add 0).block)∧
 ∃Sq:Option Addr,∃Rz:Nat,∃SE:Nat,w.drew.cell? (p4.add 0)=some (.slice Sq Rz SE)∧
 aA m fun p9=>
 b 8 ((p9.add 1).block)∧
 ∃Sf:Option Addr,∃Sd:Nat,∃Se:Nat,w.drew.cell? (p9.add 1)=some (.slice Sf Sd Se)∧
 aA m fun Tx=>
 b 13 ((Tx.add 2).block)∧
 ∃Oy:Int,w.drew.cell? (Tx.add 2)=some (.int .i64 Oy)∧
 Calls prog 122 #[(.slice Sq Rz SE)] w.drew fun e wv=>
 ∃U1:Option Addr,∃TF:Nat,∃U0:Nat,e= .returned (.slice U1 TF U0)∧
 Kept (cg b [0,5,6,7,8,10,11,12,13]) w.drew wv∧∃b1:Nat→Nat→Prop,(∀i k,b i k→b1 i k)∧
 Calls prog 122 #[(.slice Sf Sd Se)] wv fun e ND=>
 ∃YV:Option Addr,∃YT:Nat,∃YU:Nat,e= .returned (.slice YV YT YU)∧
 Kept (cg b1 [0,1,5,10,11,12,13]) wv ND∧∃b2:Nat→Nat→Prop,(∀i k,b1 i k→b2 i k)∧
 ∀(gv:Nat)(NF:World),gv=ND.heap.size→NF=ND.alloc (.cells #[(.slice U1 TF U0),(.slice YV YT YU),(.int .i64 Oy)] 148)→
 Kept (cg b2 [0,1,2,5,6,7,10,11]) ND NF∧∃b3:Nat→Nat→Prop,(∀i k,b2 i k→b3 i k)∧
 R (.pointer (some (Addr.mk gv 0 none))) NF
def Fj:Ann:= .leaf
theorem MClone_eq(m:Option Addr)(R:aB)(w:World):vv m R w=vcF prog aM [] Tryz.f51 Fj [(.pointer m)] R none w:=by kernel_rfl
theorem xl(m:Option Addr) {R:aB} {w:World}(h:vv m R w):Calls prog 51 #[(.pointer m)] w fun e w'=>∃v,e= .returned v∧R v w':=
 ak Tryz.func51 aw aa ((MClone_eq m R w).mp h)
def Ah(m:Option Addr)(toa:Bool)(tob:Int)(froma:Bool)(fromb:Int)(R:aB)(w:World):Prop:=
 ∀(gv:Nat)(wv:World),gv=w.heap.size→wv=w.alloc (.cells #[(.bool toa),(.int .i64 tob)] 86)→
 ∀(NJ:Nat)(ND:World),NJ=wv.heap.size→ND=wv.alloc (.cells #[(.bool froma),(.int .i64 fromb)] 86)→
 ∃b:Nat→Nat→Prop,
 b 1 ((Addr.mk gv 0 none).block)∧
 ∃Qk:Bool,∃PB:Int,(ND.drew.cell? ((Addr.mk gv 0 none).add 0)=some (.bool Qk)∧ND.drew.cell? ((Addr.mk gv 0 none).add 1)=some (.int .i64 PB))∧
 b 4 ((Addr.mk NJ 0 none).block)∧
 ∃OU:Bool,∃O2:Int,(ND.drew.cell? ((Addr.mk NJ 0 none).add 0)=some (.bool OU)∧ND.drew.cell? ((Addr.mk NJ 0 none).add 1)=some (.int .i64 O2))∧
 Calls prog 90 #[(.pointer m),(.agg #[(.bool Qk),(.int .i64 PB)])] ND.drew fun e NF=>
 ∃Pg:Option Addr,e= .returned (.pointer Pg)∧
 Kept (cg b [3,4]) ND.drew NF∧∃b1:Nat→Nat→Prop,(∀i k,b i k→b1 i k)∧
 Calls prog 90 #[(.pointer m),(.agg #[(.bool OU),(.int .i64 O2)])] NF fun e NI=>
 ∃OS:Option Addr,e= .returned (.pointer OS)∧
 ∃b2:Nat→Nat→Prop,(∀i k,b1 i k→b2 i k)∧
 ∃J:Bool→World→Prop,(
  split Pg.isNone (
   J true NI) (
   J OS.isNone NI))∧∀(OJ:Nat→Value)(OT:Bool),∀NM,J OT NM→
 split OT (
  R (.int .i64 5) NM) (
  aA m fun Y5=>
  ∃RA:Int,NM.cell? (Y5.add 2)=some (.int .i64 RA)∧
  aA m fun Si=>
  aF NM (Si.add 2) [(.int .i64 (i64.wrap (RA+2048)))] fun NZ=>
  aA OS fun p30=>
  ∃SJ:Array Value,(SJ.size=1024∧∀i u,SJ[i]? =some u→NZ.cell? (p30.add i)=some u)∧
  aA Pg fun p32=>
  SJ.size=1024∧(∀v∈SJ.toList,one? v True)∧
  aF NZ p32 SJ.toList fun Ol=>
  R (.int .i64 0) Ol)
def Iv:Ann:=(.node none .leaf (.node none .leaf (.node none (.node none (.node (some ⟨[(20,.one (.bool))],[15,16,17,18,19,20]⟩) .leaf .leaf) .leaf) .leaf)))
theorem MCopy_eq(m:Option Addr)(toa:Bool)(tob:Int)(froma:Bool)(fromb:Int)(R:aB)(w:World):Ah m toa tob froma fromb R w=vcF prog aM [] Tryz.f66 Iv [(.pointer m),(.agg #[(.bool toa),(.int .i64 tob)]),(.agg #[(.bool froma),(.int .i64 fromb)])] R none w:=by kernel_rfl
theorem Ai(m:Option Addr)(toa:Bool)(tob:Int)(froma:Bool)(fromb:Int) {R:aB} {w:World}(h:Ah m toa tob froma fromb R w):Calls prog 66 #[(.pointer m),(.agg #[(.bool toa),(.int .i64 tob)]),(.agg #[(.bool froma),(.int .i64 fromb)])] w fun e w'=>∃v,e= .returned v∧R v w':=
 ak Tryz.func66 aw aa ((MCopy_eq m toa tob froma fromb R w).mp h)
def Af(lA:Option Addr)(lN:Nat)(lC:Nat)(R:aB)(w:World):Prop:=
 ∃V0:Option Addr,∃UZ:Nat,∃x9C:Nat,∃wv,(Instr.makeSlice 145 (.int .i64 ((lN:Nat):Int)) (.int .i64 ((lN:Nat):Int)):Sem Value).run prog w= .ok (.slice V0 UZ x9C) wv∧
 ∃I:Nat→Int→World→Prop,(∃m,I m 0 wv)∧∀(m:Nat)(Pw:Nat→Value)(Oz:Int),∀ND,I m Oz ND→
 split (decide ((Oz:Int)<((lN:Nat):Int))) (
  (0≤(Oz:Int)∧(Oz:Int)<((lN:Nat):Int))∧
  aA lA fun p15=>
  ∃Oy:Option Addr,ND.cell? (p15.add (Int.toNat Oz*1))=some (.pointer Oy)∧
  aA Oy fun V2=>
  ∃N6:Array Value,(N6.size=1024∧∀i u,N6[i]? =some u→ND.cell? (V2.add i)=some u)∧
  ∀(NJ:Nat)(NF:World),NJ=ND.heap.size→NF=ND.alloc (.cells (Array.replicate 1024 (.int .u32 0)) 213)→
  N6.size=1024∧(∀v∈N6.toList,one? v True)∧
  aF NF (Addr.mk NJ 0 none) N6.toList fun NI=>
  (0≤(Oz:Int)∧(Oz:Int)<((UZ:Nat):Int))∧
  aA V0 fun Y5=>
  aF NI (Y5.add (Int.toNat Oz*1)) [(.pointer (some (Addr.mk NJ 0 none)))] fun NM=>
  ∃m1,m1<m∧I m1 (i64.wrap (Oz+1)) NM) (
  R (.slice V0 UZ x9C) ND)
def Iu:Ann:=(.node none .leaf (.node none .leaf (.node none (.node none .leaf (.node none (.node (some ⟨[(12,.one (.int .i64))],[4,5,6,12,13,14,15,16,17,18,19,20,21,22,23]⟩) .leaf .leaf) .leaf)) .leaf)))
theorem MEach_eq(lA:Option Addr)(lN:Nat)(lC:Nat)(R:aB)(w:World):Af lA lN lC R w=vcF prog aM [] Tryz.f122 Iu [(.slice lA lN lC)] R none w:=by kernel_rfl
theorem Ag(lA:Option Addr)(lN:Nat)(lC:Nat) {R:aB} {w:World}(h:Af lA lN lC R w):Calls prog 122 #[(.slice lA lN lC)] w fun e w'=>∃v,e= .returned v∧R v w':=
 ak Tryz.func122 aw aa ((MEach_eq lA lN lC R w).mp h)
def DH(m:Option Addr)(fa:Bool)(fb:Int)(R:aB)(w:World):Prop:=
 ∀(gv:Nat)(wv:World),gv=w.heap.size→wv=w.alloc (.cells #[(.bool fa),(.int .i64 fb)] 86)→
 ∃x6a:Bool,∃x6b:Int,(wv.cell? ((Addr.mk gv 0 none).add 0)=some (.bool x6a)∧wv.cell? ((Addr.mk gv 0 none).add 1)=some (.int .i64 x6b))∧
 Calls prog 90 #[(.pointer m),(.agg #[(.bool x6a),(.int .i64 x6b)])] wv fun e ND=>
 ∃x7:Option Addr,e= .returned (.pointer x7)∧
 R (.bool (!x7.isNone)) ND
def Ky:Ann:= .leaf
theorem MHas_eq(m:Option Addr)(fa:Bool)(fb:Int)(R:aB)(w:World):DH m fa fb R w=vcF prog aM [] Tryz.f184 Ky [(.pointer m),(.agg #[(.bool fa),(.int .i64 fb)])] R none w:=by kernel_rfl
theorem Ci(m:Option Addr)(fa:Bool)(fb:Int) {R:aB} {w:World}(h:DH m fa fb R w):Calls prog 184 #[(.pointer m),(.agg #[(.bool fa),(.int .i64 fb)])] w fun e w'=>∃v,e= .returned v∧R v w':=
 ak Tryz.func184 aw aa ((MHas_eq m fa fb R w).mp h)
def o8(m:Option Addr)(R:aB)(w:World):Prop:=
 aA m fun p4=>
 ∃Sq:Option Addr,∃Rz:Nat,∃SE:Nat,w.cell? (p4.add 1)=some (.slice Sq Rz SE)∧
 R (.int .i64 ((Rz:Nat):Int)) w
def xj:Ann:= .leaf
theorem MInsecure_eq(m:Option Addr)(R:aB)(w:World):o8 m R w=vcF prog aM [] Tryz.f55 xj [(.pointer m)] R none w:=by kernel_rfl
theorem qW(m:Option Addr) {R:aB} {w:World}(h:o8 m R w):Calls prog 55 #[(.pointer m)] w fun e w'=>∃v,e= .returned v∧R v w':=
 ak Tryz.func55 aw aa ((MInsecure_eq m R w).mp h)
def Ac(n:Int)(R:aB)(w:World):Prop:=
 ∃Sq:Option Addr,∃Rz:Nat,∃SE:Nat,∃wv,(Instr.makeSlice 145 (.int .i64 n) (.int .i64 n):Sem Value).run prog w= .ok (.slice Sq Rz SE) wv∧
 ∃I:Nat→Int→World→Prop,(∃m,I m 0 wv)∧∀(m:Nat)(Pw:Nat→Value)(x9:Int),∀ND,I m x9 ND→
 split (decide ((x9:Int)<((Rz:Nat):Int))) (
  ∀(NJ:Nat)(NF:World),NJ=ND.heap.size→NF=ND.alloc (.cells (Array.replicate 1024 (.int .u32 0)) 213)→
  (0≤(x9:Int)∧(x9:Int)<((Rz:Nat):Int))∧
  aA Sq fun Vg=>
  aF NF (Vg.add (Int.toNat x9*1)) [(.pointer (some (Addr.mk NJ 0 none)))] fun NI=>
  ∃m1,m1<m∧I m1 (i64.wrap (x9+1)) NI) (
  R (.slice Sq Rz SE) ND)
def It:Ann:=(.node none .leaf (.node none .leaf (.node none (.node none .leaf (.node none (.node (some ⟨[(9,.one (.int .i64))],[4,9,10,11,12,13,14,15,16,17]⟩) .leaf .leaf) .leaf)) .leaf)))
theorem MMade_eq(n:Int)(R:aB)(w:World):Ac n R w=vcF prog aM [] Tryz.f76 It [(.int .i64 n)] R none w:=by kernel_rfl
theorem Ad(n:Int) {R:aB} {w:World}(h:Ac n R w):Calls prog 76 #[(.int .i64 n)] w fun e w'=>∃v,e= .returned v∧R v w':=
 ak Tryz.func76 aw aa ((MMade_eq n R w).mp h)
def DG(cF:Int)(insecure:Int)(R:aB)(w:World):Prop:=
 ∃J:Bool→World→Prop,(
  split (decide ((cF:Int)<1)) (
   J true w) (
   split (decide ((cF:Int)>64)) (
    J true w) (
    split (decide ((insecure:Int)<1)) (
     J true w) (
     J (decide ((insecure:Int)>64)) w))))∧∀(Pw:Nat→Value)(N6:Bool),∀wv,J N6 wv→
 split N6 (
  R (.tuple #[(.pointer none),(.int .i64 1)]) wv) (
  Calls prog 76 #[(.int .i64 cF)] wv fun e ND=>
  ∃Yh:Option Addr,∃Yf:Nat,∃Yg:Nat,e= .returned (.slice Yh Yf Yg)∧
  Calls prog 76 #[(.int .i64 insecure)] ND fun e NF=>
  ∃QN:Option Addr,∃QM:Nat,∃Rb:Nat,e= .returned (.slice QN QM Rb)∧
  ∀(NJ:Nat)(NI:World),NJ=NF.heap.size→NI=NF.alloc (.cells #[(.slice Yh Yf Yg),(.slice QN QM Rb),(.int .i64 0)] 148)→
  R (.tuple #[(.pointer (some (Addr.mk NJ 0 none))),(.int .i64 0)]) NI)
def Kv:Ann:=(.node none .leaf (.node none (.node none (.node (some ⟨[(19,.one (.bool))],[6,7,8,9,10,11,12,13,14,15,16,17,18,19]⟩) .leaf .leaf) .leaf) .leaf))
theorem MNew_eq(cF:Int)(insecure:Int)(R:aB)(w:World):DG cF insecure R w=vcF prog aM [] Tryz.f27 Kv [(.int .i64 cF),(.int .i64 insecure)] R none w:=by kernel_rfl
theorem tL(cF:Int)(insecure:Int) {R:aB} {w:World}(h:DG cF insecure R w):Calls prog 27 #[(.int .i64 cF),(.int .i64 insecure)] w fun e w'=>∃v,e= .returned v∧R v w':=
 ak Tryz.func27 aw aa ((MNew_eq cF insecure R w).mp h)
def Aa(m:Option Addr)(fa:Bool)(fb:Int)(R:aB)(w:World):Prop:=
 ∀(gv:Nat)(wv:World),gv=w.heap.size→wv=w.alloc (.cells #[(.bool fa),(.int .i64 fb)] 86)→
 ∃SZ:Bool,∃TR:Int,(wv.cell? ((Addr.mk gv 0 none).add 0)=some (.bool SZ)∧wv.cell? ((Addr.mk gv 0 none).add 1)=some (.int .i64 TR))∧
 Calls prog 136 #[(.pointer m),(.agg #[(.bool SZ),(.int .i64 TR)]),(.int .i64 1)] wv fun e ND=>
 ∃Rh:Option Addr,∃QT:Int,e= .returned (.tuple #[(.pointer Rh),(.int .i64 QT)])∧
 split ((QT:Int) !=0) (
  R (.tuple #[(.slice none 0 0),(.int .i64 QT)]) ND) (
  ∃QQ:Option Addr,∃QO:Nat,∃QP:Nat,∃NF,(Instr.makeSlice 62 (.int .i64 1024) (.int .i64 1024):Sem Value).run prog ND= .ok (.slice QQ QO QP) NF∧
  aA Rh fun S6=>
  ∀Ye:Option Addr,Ye=(some (if 1024=0 then S6 else S6.add (0*1)))→∀Yc:Nat,Yc=1024 - 0→∀Yd:Nat,Yd=1024 - 0→
  ∃PA:Int,∃NI,(Builtin.copy_ #[62,62] 3 #[(.slice QQ QO QP),(.slice Ye Yc Yd)]:Sem Value).run prog NF= .ok (.int .i64 PA) NI∧
  R (.tuple #[(.slice QQ QO QP),(.int .i64 0)]) NI)
def Ir:Ann:= .leaf
theorem MPage_eq(m:Option Addr)(fa:Bool)(fb:Int)(R:aB)(w:World):Aa m fa fb R w=vcF prog aM [] Tryz.f69 Ir [(.pointer m),(.agg #[(.bool fa),(.int .i64 fb)])] R none w:=by kernel_rfl
theorem Ab(m:Option Addr)(fa:Bool)(fb:Int) {R:aB} {w:World}(h:Aa m fa fb R w):Calls prog 69 #[(.pointer m),(.agg #[(.bool fa),(.int .i64 fb)])] w fun e w'=>∃v,e= .returned v∧R v w':=
 ak Tryz.func69 aw aa ((MPage_eq m fa fb R w).mp h)
def z8(m:Option Addr)(fa:Bool)(fb:Int)(off:Int)(R:aB)(w:World):Prop:=
 ∀(gv:Nat)(wv:World),gv=w.heap.size→wv=w.alloc (.cells #[(.bool fa),(.int .i64 fb)] 86)→
 ∃SD:Bool,∃SC:Int,(wv.cell? ((Addr.mk gv 0 none).add 0)=some (.bool SD)∧wv.cell? ((Addr.mk gv 0 none).add 1)=some (.int .i64 SC))∧
 Calls prog 90 #[(.pointer m),(.agg #[(.bool SD),(.int .i64 SC)])] wv fun e ND=>
 ∃NT:Option Addr,e= .returned (.pointer NT)∧
 ∃J:Bool→World→Prop,(
  split NT.isNone (
   J true ND) (
   split (decide ((off:Int)<0)) (
    J true ND) (
    J (decide ((off:Int)≥1024)) ND)))∧∀(NU:Nat→Value)(OT:Bool),∀NF,J OT NF→
 split OT (
  R (.int .u32 0) NF) (
  aA NT fun V1=>
  (0≤(off:Int)∧(off:Int)<((1024:Nat):Int))∧
  ∃Ra:Int,NF.cell? (V1.add (Int.toNat off*1))=some (.int .u32 Ra)∧
  R (.int .u32 Ra) NF)
def Iq:Ann:=(.node none .leaf (.node none .leaf (.node none (.node none (.node (some ⟨[(20,.one (.bool))],[11,12,13,14,15,16,17,18,19,20]⟩) .leaf .leaf) .leaf) .leaf)))
theorem MPeek_eq(m:Option Addr)(fa:Bool)(fb:Int)(off:Int)(R:aB)(w:World):z8 m fa fb off R w=vcF prog aM [] Tryz.f33 Iq [(.pointer m),(.agg #[(.bool fa),(.int .i64 fb)]),(.int .i64 off)] R none w:=by kernel_rfl
theorem z9(m:Option Addr)(fa:Bool)(fb:Int)(off:Int) {R:aB} {w:World}(h:z8 m fa fb off R w):Calls prog 33 #[(.pointer m),(.agg #[(.bool fa),(.int .i64 fb)]),(.int .i64 off)] w fun e w'=>∃v,e= .returned v∧R v w':=
 ak Tryz.func33 aw aa ((MPeek_eq m fa fb off R w).mp h)
def z6(m:Option Addr)(fa:Bool)(fb:Int)(off:Int)(R:aB)(w:World):Prop:=
 ∀(gv:Nat)(wv:World),gv=w.heap.size→wv=w.alloc (.cells #[(.bool fa),(.int .i64 fb)] 86)→
 ∃Rh:Bool,∃QT:Int,(wv.cell? ((Addr.mk gv 0 none).add 0)=some (.bool Rh)∧wv.cell? ((Addr.mk gv 0 none).add 1)=some (.int .i64 QT))∧
 Calls prog 114 #[(.pointer m),(.agg #[(.bool Rh),(.int .i64 QT)]),(.int .i64 off)] wv fun e ND=>
 ∃Rc:Option Addr,∃QS:Int,e= .returned (.tuple #[(.pointer Rc),(.int .i64 QS)])∧
 split ((QS:Int) !=0) (
  R (.tuple #[(.int .u32 0),(.int .i64 QS)]) ND) (
  aA Rc fun S6=>
  ∃N9:Int,ND.cell? S6=some (.int .u32 N9)∧
  R (.tuple #[(.int .u32 N9),(.int .i64 0)]) ND)
def Ip:Ann:= .leaf
theorem MRead_eq(m:Option Addr)(fa:Bool)(fb:Int)(off:Int)(R:aB)(w:World):z6 m fa fb off R w=vcF prog aM [] Tryz.f92 Ip [(.pointer m),(.agg #[(.bool fa),(.int .i64 fb)]),(.int .i64 off)] R none w:=by kernel_rfl
theorem z7(m:Option Addr)(fa:Bool)(fb:Int)(off:Int) {R:aB} {w:World}(h:z6 m fa fb off R w):Calls prog 92 #[(.pointer m),(.agg #[(.bool fa),(.int .i64 fb)]),(.int .i64 off)] w fun e w'=>∃v,e= .returned v∧R v w':=
 ak Tryz.func92 aw aa ((MRead_eq m fa fb off R w).mp h)
def tK(m:Option Addr)(R:aB)(w:World):Prop:=
 aA m fun p4=>
 ∃Sq:Option Addr,∃Rz:Nat,∃SE:Nat,w.cell? (p4.add 0)=some (.slice Sq Rz SE)∧
 R (.int .i64 ((Rz:Nat):Int)) w
def Cg:Ann:= .leaf
theorem MSecure_eq(m:Option Addr)(R:aB)(w:World):tK m R w=vcF prog aM [] Tryz.f54 Cg [(.pointer m)] R none w:=by kernel_rfl
theorem um(m:Option Addr) {R:aB} {w:World}(h:tK m R w):Calls prog 54 #[(.pointer m)] w fun e w'=>∃v,e= .returned v∧R v w':=
 ak Tryz.func54 aw aa ((MSecure_eq m R w).mp h)
def vu(m:Option Addr)(fa:Bool)(fb:Int)(times:Int)(R:aB)(w:World):Prop:=
 ∀(gv:Nat)(wv:World),gv=w.heap.size→wv=w.alloc (.cells #[(.bool fa),(.int .i64 fb)] 86)→
 ∃Qk:Bool,∃PB:Int,(wv.cell? ((Addr.mk gv 0 none).add 0)=some (.bool Qk)∧wv.cell? ((Addr.mk gv 0 none).add 1)=some (.int .i64 PB))∧
 Calls prog 90 #[(.pointer m),(.agg #[(.bool Qk),(.int .i64 PB)])] wv fun e ND=>
 ∃Pg:Option Addr,e= .returned (.pointer Pg)∧
 split Pg.isNone (
  R (.tuple #[(.pointer none),(.int .i64 5)]) ND) (
  aA m fun p15=>
  ∃OY:Int,ND.cell? (p15.add 2)=some (.int .i64 OY)∧
  aA m fun S6=>
  aF ND (S6.add 2) [(.int .i64 (i64.wrap (OY+(i64.wrap (times*1024)))))] fun NF=>
  R (.tuple #[(.pointer Pg),(.int .i64 0)]) NF)
def Fi:Ann:= .leaf
theorem MWhole_eq(m:Option Addr)(fa:Bool)(fb:Int)(times:Int)(R:aB)(w:World):vu m fa fb times R w=vcF prog aM [] Tryz.f136 Fi [(.pointer m),(.agg #[(.bool fa),(.int .i64 fb)]),(.int .i64 times)] R none w:=by kernel_rfl
theorem wZ(m:Option Addr)(fa:Bool)(fb:Int)(times:Int) {R:aB} {w:World}(h:vu m fa fb times R w):Calls prog 136 #[(.pointer m),(.agg #[(.bool fa),(.int .i64 fb)]),(.int .i64 times)] w fun e w'=>∃v,e= .returned v∧R v w':=
 ak Tryz.func136 aw aa ((MWhole_eq m fa fb times R w).mp h)
def z4(m:Option Addr)(fa:Bool)(fb:Int)(off:Int)(R:aB)(w:World):Prop:=
 ∀(gv:Nat)(wv:World),gv=w.heap.size→wv=w.alloc (.cells #[(.bool fa),(.int .i64 fb)] 86)→
 ∃Qk:Bool,∃PB:Int,(wv.cell? ((Addr.mk gv 0 none).add 0)=some (.bool Qk)∧wv.cell? ((Addr.mk gv 0 none).add 1)=some (.int .i64 PB))∧
 Calls prog 90 #[(.pointer m),(.agg #[(.bool Qk),(.int .i64 PB)])] wv fun e ND=>
 ∃Pg:Option Addr,e= .returned (.pointer Pg)∧
 split Pg.isNone (
  R (.tuple #[(.pointer none),(.int .i64 5)]) ND) (
  ∃J:Bool→World→Prop,(
   split (decide ((off:Int)<0)) (
    J true ND) (
    J (decide ((off:Int)≥1024)) ND))∧∀(NU:Nat→Value)(N6:Bool),∀NF,J N6 NF→
  split N6 (
   R (.tuple #[(.pointer none),(.int .i64 70)]) NF) (
   aA m fun S6=>
   ∃PA:Int,NF.cell? (S6.add 2)=some (.int .i64 PA)∧
   aA m fun Tw=>
   aF NF (Tw.add 2) [(.int .i64 (i64.wrap (PA+1)))] fun NI=>
   aA Pg fun Tv=>
   (0≤(off:Int)∧(off:Int)<((1024:Nat):Int))∧
   R (.tuple #[(.pointer (some (Tv.add (Int.toNat off*1)))),(.int .i64 0)]) NI))
def Im:Ann:=(.node none .leaf (.node none .leaf (.node none .leaf (.node none (.node none (.node (some ⟨[(19,.one (.bool))],[14,15,16,17,18,19]⟩) .leaf .leaf) .leaf) .leaf))))
theorem MWord_eq(m:Option Addr)(fa:Bool)(fb:Int)(off:Int)(R:aB)(w:World):z4 m fa fb off R w=vcF prog aM [] Tryz.f114 Im [(.pointer m),(.agg #[(.bool fa),(.int .i64 fb)]),(.int .i64 off)] R none w:=by kernel_rfl
theorem z5(m:Option Addr)(fa:Bool)(fb:Int)(off:Int) {R:aB} {w:World}(h:z4 m fa fb off R w):Calls prog 114 #[(.pointer m),(.agg #[(.bool fa),(.int .i64 fb)]),(.int .i64 off)] w fun e w'=>∃v,e= .returned v∧R v w':=
 ak Tryz.func114 aw aa ((MWord_eq m fa fb off R w).mp h)
def vt(m:Option Addr)(fa:Bool)(fb:Int)(off:Int)(v:Int)(R:aB)(w:World):Prop:=
 ∀(gv:Nat)(wv:World),gv=w.heap.size→wv=w.alloc (.cells #[(.bool fa),(.int .i64 fb)] 86)→
 ∃OU:Bool,∃O2:Int,(wv.cell? ((Addr.mk gv 0 none).add 0)=some (.bool OU)∧wv.cell? ((Addr.mk gv 0 none).add 1)=some (.int .i64 O2))∧
 Calls prog 114 #[(.pointer m),(.agg #[(.bool OU),(.int .i64 O2)]),(.int .i64 off)] wv fun e ND=>
 ∃SV:Option Addr,∃RG:Int,e= .returned (.tuple #[(.pointer SV),(.int .i64 RG)])∧
 split ((RG:Int)==0) (
  aA SV fun Y5=>
  aF ND Y5 [(.int .u32 v)] fun NF=>
  R (.int .i64 RG) NF) (
  R (.int .i64 RG) ND)
def Fh:Ann:= .leaf
theorem MWrite_eq(m:Option Addr)(fa:Bool)(fb:Int)(off:Int)(v:Int)(R:aB)(w:World):vt m fa fb off v R w=vcF prog aM [] Tryz.f42 Fh [(.pointer m),(.agg #[(.bool fa),(.int .i64 fb)]),(.int .i64 off),(.int .u32 v)] R none w:=by kernel_rfl
theorem wY(m:Option Addr)(fa:Bool)(fb:Int)(off:Int)(v:Int) {R:aB} {w:World}(h:vt m fa fb off v R w):Calls prog 42 #[(.pointer m),(.agg #[(.bool fa),(.int .i64 fb)]),(.int .i64 off),(.int .u32 v)] w fun e w'=>∃v,e= .returned v∧R v w':=
 ak Tryz.func42 aw aa ((MWrite_eq m fa fb off v R w).mp h)
def z2(m:Option Addr)(fa:Bool)(fb:Int)(R:aB)(w:World):Prop:=
 ∀(gv:Nat)(wv:World),gv=w.heap.size→wv=w.alloc (.cells #[(.bool fa),(.int .i64 fb)] 86)→
 ∃SD:Bool,∃SC:Int,(wv.cell? ((Addr.mk gv 0 none).add 0)=some (.bool SD)∧wv.cell? ((Addr.mk gv 0 none).add 1)=some (.int .i64 SC))∧
 Calls prog 136 #[(.pointer m),(.agg #[(.bool SD),(.int .i64 SC)]),(.int .i64 1)] wv fun e ND=>
 ∃Qk:Option Addr,∃PB:Int,e= .returned (.tuple #[(.pointer Qk),(.int .i64 PB)])∧
 split ((PB:Int)==0) (
  aA Qk fun Vg=>
  ∀Yt:Option Addr,Yt=(some (if 1024=0 then Vg else Vg.add (0*1)))→∀Yr:Nat,Yr=1024 - 0→∀Ys:Nat,Ys=1024 - 0→
  ∃NF,(Builtin.clear_ #[62] 0 #[(.slice Yt Yr Ys)]:Sem Value).run prog ND= .ok (.tuple #[]) NF∧
  R (.int .i64 PB) NF) (
  R (.int .i64 PB) ND)
def Il:Ann:= .leaf
theorem MZero_eq(m:Option Addr)(fa:Bool)(fb:Int)(R:aB)(w:World):z2 m fa fb R w=vcF prog aM [] Tryz.f77 Il [(.pointer m),(.agg #[(.bool fa),(.int .i64 fb)])] R none w:=by kernel_rfl
theorem z3(m:Option Addr)(fa:Bool)(fb:Int) {R:aB} {w:World}(h:z2 m fa fb R w):Calls prog 77 #[(.pointer m),(.agg #[(.bool fa),(.int .i64 fb)])] w fun e w'=>∃v,e= .returned v∧R v w':=
 ak Tryz.func77 aw aa ((MZero_eq m fa fb R w).mp h)
end
end Go.Proofs.YtinhphjfnedhgaaGreatDoor
namespace Go.Proofs.YtinhphjfnedhgaaGreatDoor
open Go.Proofs.Tryz (prog)
open Go Go.RowKit V
open Go.IntKind (i64 u32 u64)
section
structure eQ where
 g:Nat
 a:Nat
 b:Nat
 pg:Bool→Nat→Nat
 n:Bool→Nat
def eQ.row(L:eQ)(s:Bool):Nat:=match s with
 | true=>L.a
 | false=>L.b
def eQ.X(L:eQ):Nat→Prop:=fun k=>k=L.g∨k=L.a∨k=L.b∨∃s i,i<L.n s∧k=L.pg s i
abbrev ptr(g:Nat):Value:= .pointer (some (Addr.mk g 0 none))
abbrev fr(s:Bool)(p:Int):Value:= .agg #[.bool s,.int .i64 p]
structure cv(w:World)(L:eQ)(m:Mem):Prop where
 cnt:∀s,L.n s=m.cnt s
 hd:∃T:TypeId×Int,Blk w L.g #[.slice (some (Addr.mk L.a 0 none)) m.S m.S,.slice (some (Addr.mk L.b 0 none)) m.I m.I,.int .i64 T.2] T.1
 rows:∀s,∃T cs,Blk w (L.row s) cs T∧∀i,i<m.cnt s→cs[i]? =some (ptr (L.pg s i))
 pgs:∀s i,i<m.cnt s→∃T cs,Blk w (L.pg s i) cs T∧cs.size=1024∧∀o,o<1024→cs[o]? =some (.int .u32 (m.pg s i o))
 inj:∀s i s' i',i<m.cnt s→i'<m.cnt s'→L.pg s i=L.pg s' i'→s=s'∧i=i'
 dis:L.a≠L.g∧L.b≠L.g∧∀s i,i<m.cnt s→L.pg s i≠L.g∧L.pg s i≠L.a∧L.pg s i≠L.b
 u32:∀s i o,0≤m.pg s i o∧m.pg s i o<4294967296
 dV:m.S≤64∧m.I≤64
theorem cv.inX {w:World} {L:eQ} {m:Mem}(h:cv w L m) {s:Bool} {i:Nat}(hi:i<m.cnt s):L.X (L.pg s i):= .inr (.inr (.inr ⟨s,i,by rw [h.cnt];exact hi,rfl⟩))
theorem cv.kept {w w':World} {L:eQ} {m:Mem} {B:Nat→Prop}(h:cv w L m)(hk:Kept B w w')(hb:∀k,L.X k→B k):cv w' L m:=by
 refine⟨h.cnt,?_,fun s=>?_,fun s i hi=>?_,h.inj,h.dis,h.u32,h.dV⟩
 ·obtain⟨T,hd⟩:=h.hd
  exact⟨T,hd.kept hk (hb _ (.inl rfl))⟩
 ·obtain⟨T,cs,hr,h2⟩:=h.rows s
  exact⟨T,cs,hr.kept hk (hb _ (by cases s<;>simp [eQ.X,eQ.row])),h2⟩
 ·obtain⟨T,cs,hr,h2⟩:=h.pgs s i hi
  exact⟨T,cs,hr.kept hk (hb _ (h.inX hi)),h2⟩
theorem cv.lt {w:World} {L:eQ} {m:Mem}(h:cv w L m):∀k,L.X k→k<w.heap.size:=by
 rintro k (rfl | rfl | rfl | ⟨s,i,hi,rfl⟩)
 ·obtain⟨T,hd⟩:=h.hd;exact hd.lt
 ·obtain⟨T,cs,hr,h2⟩:=h.rows true;exact hr.lt
 ·obtain⟨T,cs,hr,h2⟩:=h.rows false;exact hr.lt
 ·obtain⟨T,cs,hr,h2⟩:=h.pgs s i (by rw [← h.cnt];exact hi);exact hr.lt
theorem cv.ch {w w':World} {L:eQ} {m:Mem} {Y:Nat→Prop}(h:cv w L m)(hk:Ch Y w w')(hb:∀k,L.X k→¬Y k):cv w' L m:=
 h.kept hk.kept fun k hx=>⟨h.lt k hx,hb k hx⟩
theorem cv.pu {w w':World} {L:eQ} {m:Mem}(h:cv w L m)(hk:Pu w w'):cv w' L m:=h.ch hk (by simp)
theorem cv.GL {w w2:World} {L:eQ} {m:Mem}(h:cv w L m) {T:TypeId} {x:Int}(hs:bG w L.g #[.slice (some (Addr.mk L.a 0 none)) m.S m.S,.slice (some (Addr.mk L.b 0 none)) m.I m.I,.int .i64 x] T w2):cv w2 L m:=by
 have hk:∀k,k≠L.g→(fun k=>k≠L.g) k:=fun _ h=>h
 refine⟨h.cnt,⟨(T,x),hs.blk⟩,fun s=>?_,fun s i hi=>?_,h.inj,h.dis,h.u32,h.dV⟩
 ·obtain⟨T,cs,hr,h2⟩:=h.rows s
  exact⟨T,cs,hs.old hr (by cases s<;>simp [eQ.row,h.dis.1,h.dis.2.1]),h2⟩
 ·obtain⟨T,cs,hr,h2⟩:=h.pgs s i hi
  exact⟨T,cs,hs.old hr (h.dis.2.2 s i hi).1,h2⟩
theorem cv.aj {w w2:World} {L:eQ} {m:Mem}(h:cv w L m) {s:Bool} {i:Nat}(hi:i<m.cnt s) {cs:Array Value} {T:TypeId} {f:Nat→Int}(hs:bG w (L.pg s i) cs T w2)(hc:cs.size=1024)(hf:∀o,o<1024→cs[o]? =some (.int .u32 (f o)))
 (hu:∀o,0≤f o∧f o<4294967296):cv w2 L (m.fill s i f):=by
 obtain⟨T0,hd⟩:=h.hd
 refine⟨fun s=>by rw [h.cnt];simp,⟨T0,hs.old hd (fun e=>(h.dis.2.2 s i hi).1 e.symm)⟩,fun s'=>?_,fun s' i' Ov=>?_,fun s1 i1 s2 i2 h1 h2=>h.inj s1 i1 s2 i2 (by simpa using h1) (by simpa using h2),⟨h.dis.1,h.dis.2.1,fun s1 i1 h1=>h.dis.2.2 s1 i1 (by simpa using h1)⟩,fun s' i' o=>?_,h.dV⟩
 ·obtain⟨T,cs,hr,h2⟩:=h.rows s'
  refine⟨T,cs,hs.old hr ?_,by simpa using h2⟩
  have:=(h.dis.2.2 s i hi).2
  cases s'<;>simp only [eQ.row]
  ·exact fun e=>this.2 e.symm
  ·exact fun e=>this.1 e.symm
 ·have Wd:i'<m.cnt s':=by simpa using Ov
  by_cases hq:s'=s∧i'=i
  ·obtain⟨rfl,rfl⟩:=hq
   exact⟨T,cs,hs.blk,hc,fun o ho=>by rw [hf o ho];simp [Mem.fill]⟩
  ·obtain⟨T,cs,hr,h2,h3⟩:=h.pgs s' i' Wd
   refine⟨T,cs,hs.old hr (fun e=>hq (h.inj _ _ _ _ Wd hi e)),h2,fun o ho=>?_⟩
   rw [h3 o ho]
   simp only [Mem.fill]
   rw [if_neg hq]
 ·simp only [Mem.fill]
  split
  ·exact hu o
  ·exact h.u32 _ _ _
theorem Lx {w:World} {g i:Nat} {cs:Array Value} {T:TypeId} {k:IntKind} {x:Int} {K:Int→Prop}(hb:Blk w g cs T)(hi:cs[i]? =some (.int k x))(hK:K x):
 aA (some (Addr.mk g 0 none)) fun p=>∃x:Int,w.cell? (p.add i)=some (.int k x)∧K x:=ao _ rfl ⟨_,hb.at hi,hK⟩
theorem Jy {w:World} {g i:Nat} {cs:Array Value} {T:TypeId} {A:Option Addr} {n c:Nat} {K:Option Addr→Nat→Nat→Prop}(hb:Blk w g cs T)(hi:cs[i]? =some (.slice A n c))(hK:K A n c):
 aA (some (Addr.mk g 0 none)) fun p=>∃(A:Option Addr)(n c:Nat),w.cell? (p.add i)=some (.slice A n c)∧K A n c:=ao _ rfl ⟨_,_,_,hb.at hi,hK⟩
section
variable {w:World} {L:eQ} {m:Mem}
theorem mAt(h:cv w L m)(s:Bool)(p:Int):
 Calls prog 90 #[ptr L.g,fr s p] w fun e w'=>∃v,e= .returned v∧v= .pointer (if m.has s p then some (Addr.mk (L.pg s p.toNat) 0 none)else none)∧Pu w w':=by
 refine Fk _ s p ?_
 intro g1 w1 hg hw
 have hM:=made hg hw
 have h1:=h.pu hM.pu
 obtain⟨T,hd⟩:=h1.hd
 refine Jy hd rfl ⟨_,hM.blk.at rfl,?_⟩
 have fin:∀(a n:Nat),n=m.cnt s→a=L.row s→
  ∃J:Bool→World→Prop,(
  ∃OY:Int,w1.cell? ((Addr.mk g1 0 none).add 1)=some (.int .i64 OY)∧
  split (decide ((OY:Int)<0)) (
   J true w1) (
   ∃Pt:Int,w1.cell? ((Addr.mk g1 0 none).add 1)=some (.int .i64 Pt)∧
   J (decide ((Pt:Int)≥((n:Nat):Int))) w1))∧∀(NU:Nat→Value)(Ra:Bool),∀ND,J Ra ND→
  split Ra (
   (∃v,v=(Value.pointer none)∧v= .pointer (if m.has s p then some (Addr.mk (L.pg s p.toNat) 0 none)else none)∧Pu w ND)) (
   ∃QE:Int,ND.cell? ((Addr.mk g1 0 none).add 1)=some (.int .i64 QE)∧
   (0≤(QE:Int)∧(QE:Int)<((n:Nat):Int))∧
   aA (some (Addr.mk a 0 none)) fun Tv=>
   ∃Om:Option Addr,ND.cell? (Tv.add (Int.toNat QE*1))=some (.pointer Om)∧
   (∃v,v=(Value.pointer Om)∧v= .pointer (if m.has s p then some (Addr.mk (L.pg s p.toNat) 0 none)else none)∧Pu w ND)):=by
  intro a n hn ha
  refine⟨fun b w'=>w1=w'∧b= !(m.has s p),⟨_,hM.blk.at rfl,ab (fun hb=>⟨rfl,?_⟩) (fun hb=>⟨_,hM.blk.at rfl,rfl,?_⟩)⟩,?_⟩
  ·simp at hb
   simp [Mem.has]
   omega
  ·simp at hb
   subst hn
   simp only [Mem.has,ge_iff_le]
   rw [Bool.eq_iff_iff]
   simp
   omega
  ·rintro _ x _ ⟨rfl,rfl⟩
   refine ab (fun hb=>⟨_,rfl,?_,hM.pu⟩) (fun hb=>?_)
   ·simp at hb;simp [hb]
   ·have Qz:m.has s p=true:=by simpa using hb
    have hp:0≤p∧p<(n:Int):=by subst hn;simpa [Mem.has]using Qz
    obtain⟨T2,cs,hr,hc⟩:=h1.rows s
    rw [← ha]at hr
    refine⟨_,hM.blk.at rfl,hp,ao _ rfl ⟨_,?_,_,rfl,by rw [if_pos Qz],hM.pu⟩⟩
    rw [Nat.mul_one]
    exact hr.at (hc _ (by omega))
 refine ab (fun hb=>?_) (fun hb=>?_)
 ·subst hb
  exact Jy hd rfl (by
   obtain⟨J,hJ⟩:=fin L.a m.S rfl rfl
   refine⟨J,hJ.1,fun g x wv hj=>?_⟩
   have:=hJ.2 g x wv hj
   simpa using this)
 ·subst hb
  obtain⟨J,hJ⟩:=fin L.b m.I rfl rfl
  refine⟨J,hJ.1,fun g x wv hj=>?_⟩
  have:=hJ.2 g x wv hj
  simpa using this
theorem No(h:cv w L m)(s:Bool)(p:Int):
 Calls prog 184 #[ptr L.g,fr s p] w fun e w'=>∃v,e= .returned v∧v= .bool (m.has s p)∧Pu w w':=by
 refine Ci _ s p ?_
 intro g1 w1 hg hw
 have hM:=made hg hw
 refine⟨_,_,⟨hM.blk.at rfl,hM.blk.at rfl⟩,(mAt (h.pu hM.pu) s p).mono ?_⟩
 rintro e w2 ⟨_,rfl,rfl,hp⟩
 refine⟨_,rfl,?_,hM.pu.trans hp⟩
 cases m.has s p<;>rfl
theorem v9(h:cv w L m):Calls prog 54 #[ptr L.g] w fun e w'=>∃v,e= .returned v∧v= .int .i64 m.S∧w'=w:=by
 obtain⟨T,hd⟩:=h.hd
 exact um _ (Jy hd rfl ⟨rfl,rfl⟩)
theorem KR(h:cv w L m)(s:Bool)(p o:Int):
 Calls prog 114 #[ptr L.g,fr s p,.int .i64 o] w fun e w'=>∃v,e= .returned v∧
  ((m.has s p && Mem.dU o)=true∧v= .tuple #[.pointer (some (Addr.mk (L.pg s p.toNat) o.toNat none)),.int .i64 0]∧cv w' L (m.tick 1)∧Ch L.X w w'∨
   (m.has s p && Mem.dU o)=false∧v= .tuple #[.pointer none,.int .i64 (m.err s p o)]∧m.err s p o≠0∧Pu w w'):=by
 refine z5 _ s p o ?_
 intro g1 w1 hg hw
 have hM:=made hg hw
 refine⟨_,_,⟨hM.blk.at rfl,hM.blk.at rfl⟩,(mAt (h.pu hM.pu) s p).mono ?_⟩
 rintro e w2 ⟨_,rfl,rfl,hp⟩
 have Oh:=hM.pu.trans hp
 refine⟨_,rfl,?_⟩
 cases hh:m.has s p with
 | false=>
  refine ab (fun _=>.inr ⟨rfl,?_,?_,Oh⟩) (fun hb=>by simp at hb)
  ·simp [Mem.err,hh]
  ·simp [Mem.err,hh]
 | true=>
  refine ab (fun hb=>by simp at hb) (fun _=>?_)
  refine⟨fun b w'=>w2=w'∧b= !(Mem.dU o),ab (fun hb=>⟨rfl,?_⟩) (fun hb=>⟨rfl,?_⟩),?_⟩
  ·simp at hb;simp [Mem.dU];omega
  ·simp at hb;simp only [Mem.dU,ge_iff_le];rw [Bool.eq_iff_iff];simp;omega
  ·rintro _ x _ ⟨rfl,rfl⟩
   refine ab (fun hb=>?_) (fun hb=>?_)
   ·have ho:Mem.dU o=false:=by simpa using hb
    exact .inr ⟨by simp [ho],by simp [Mem.err,hh,ho],by simp [Mem.err,hh,ho],Oh⟩
   ·have ho:Mem.dU o=true:=by simpa using hb
    have h2:=h.pu Oh
    obtain⟨T,hd⟩:=h2.hd
    refine Lx hd rfl (ao _ rfl (bO hd (by simp) fun w3 hs=>?_))
    have Sn:=Mem.iD ho
    refine ao _ rfl ⟨Sn,.inl ⟨by simp [ho],?_,h2.GL hs,?_⟩⟩
    ·rw [bK,Nat.zero_add,Nat.mul_one]
    ·exact(Oh.mono (by simp)).stored hs (.inl (.inl rfl))
theorem Bv(h:cv w L m)(s:Bool)(p o v:Int)(hv:0≤v∧v<4294967296):
 Calls prog 42 #[ptr L.g,fr s p,.int .i64 o,.int .u32 v] w fun e w'=>∃u,e= .returned u∧u= .int .i64 (m.err s p o)∧cv w' L (m.write s p o v)∧Ch L.X w w':=by
 refine wY _ s p o v ?_
 intro g1 w1 hg hw
 have hM:=made hg hw
 refine⟨_,_,⟨hM.blk.at rfl,hM.blk.at rfl⟩,(KR (h.pu hM.pu) s p o).mono ?_⟩
 rintro e w2 ⟨_,rfl,⟨hh,rfl,h2,hc⟩ | ⟨hh,rfl,he,hp⟩⟩
 ·refine⟨_,_,rfl,ab (fun _=>?_) (fun hb=>by simp at hb)⟩
  have SA:Ch L.X w w2:=((Ch.refl _ w).made hM).trans hc
  simp only [Bool.and_eq_true]at hh
  have hi:=Mem.dO hh.1
  have ho:=Mem.iD hh.2
  obtain⟨T,cs,hr,Of,OP⟩:=h2.pgs s p.toNat (by simpa using hi)
  refine ao _ rfl (iJ hr (by simp;omega) fun w3 hs=>⟨?_,?_,?_⟩)
  ·simp [Mem.err,hh.1,hh.2]
  ·have:=h2.aj (f:=fun o'=>if o'=o.toNat then v else m.pg s p.toNat o') (by simpa using hi) hs (by simp [setAt,Of]) (fun o' Sn=>?_) (fun o'=>?_)
   ·simp only [Mem.write,hh.1,hh.2,Bool.and_self,if_true]
    exact this
   ·simp only [uH,Array.getElem?_setIfInBounds]
    by_cases e:o.toNat=o'
    ·rw [if_pos e,if_pos (by omega),if_pos e.symm]
    ·rw [if_neg e,if_neg (fun h=>e h.symm)]
     exact OP o' Sn
   ·split
    ·exact hv
    ·exact h.u32 _ _ _
  ·exact SA.stored hs (.inl (h.inX hi))
 ·refine⟨_,_,rfl,ab (fun hb=>absurd (by simpa using hb) he) (fun _=>⟨rfl,?_,?_⟩)⟩
  ·have:=(h.pu hM.pu).pu hp
   simpa [Mem.write,hh]using this
  ·exact(hM.pu.trans hp).mono (by simp)
theorem Mx(h:cv w L m)(s:Bool)(p o:Int):
 Calls prog 33 #[ptr L.g,fr s p,.int .i64 o] w fun e w'=>∃u,e= .returned u∧u= .int .u32 (m.aZ s p o)∧Pu w w':=by
 refine z9 _ s p o ?_
 intro g1 w1 hg hw
 have hM:=made hg hw
 refine⟨_,_,⟨hM.blk.at rfl,hM.blk.at rfl⟩,(mAt (h.pu hM.pu) s p).mono ?_⟩
 rintro e w2 ⟨_,rfl,rfl,hp⟩
 have Oh:=hM.pu.trans hp
 refine⟨_,rfl,fun b w'=>w2=w'∧b= !(m.has s p && Mem.dU o),?_,?_⟩
 ·cases hh:m.has s p with
  | false=>exact ab (fun _=>⟨rfl,rfl⟩) (fun hb=>by simp at hb)
  | true=>
   refine ab (fun hb=>by simp at hb) (fun _=>ab (fun hb=>⟨rfl,?_⟩) (fun hb=>⟨rfl,?_⟩))
   ·simp at hb;simp [Mem.dU];omega
   ·simp at hb;simp only [Mem.dU,ge_iff_le];rw [Bool.eq_iff_iff];simp;omega
 ·rintro _ x _ ⟨rfl,rfl⟩
  refine ab (fun hb=>?_) (fun hb=>?_)
  ·have hh:(m.has s p && Mem.dU o)=false:=by rwa [Bool.not_eq_true']at hb
   exact⟨by simp [Mem.aZ,hh],Oh⟩
  ·have hh:(m.has s p && Mem.dU o)=true:=by simpa using hb
   have hh':=hh
   simp only [Bool.and_eq_true]at hh
   have hi:=Mem.dO hh.1
   have ho:=Mem.iD hh.2
   obtain⟨T,cs,hr,Of,OP⟩:=(h.pu Oh).pgs s p.toNat hi
   rw [if_pos hh.1]
   refine ao _ rfl ⟨ho,_,by rw [Nat.mul_one];exact hr.at (OP _ (by omega)),?_,Oh⟩
   simp only [Mem.aZ,hh',if_true]
end
end
section
theorem si:S1 prog 62 29 (.int .u32 0) 4:=S1.of (by kernel_rfl) (by kernel_rfl) rfl
theorem Gj:S1 prog 145 162 (.pointer none) 8:=S1.of (by kernel_rfl) (by kernel_rfl) rfl
def g9(w:World)(g:Nat)(f:Nat→Int):Prop:=∃T cs,Blk w g cs T∧cs.size=1024∧∀o,o<1024→cs[o]? =some (.int .u32 (f o))
structure jF(w:World)(g n k:Nat)(pg:Nat→Nat)(f:Nat→Nat→Int)(b:Nat):Prop where
 row:∃T cs,Blk w g cs T∧cs.size=n∧∀i,i<k→cs[i]? =some (ptr (pg i))
 pgs:∀i,i<k→g9 w (pg i) (f i)
 inj:∀i j,i<k→j<k→pg i=pg j→i=j
 dis:∀i,i<k→pg i≠g
 low:b≤g∧∀i,i<k→b≤pg i
theorem g9.lt {w:World} {g:Nat} {f:Nat→Int}(h:g9 w g f):g<w.heap.size:=by obtain⟨T,cs,hb,_⟩:=h;exact hb.lt
theorem g9.pu {w w':World} {g:Nat} {f:Nat→Int}(h:g9 w g f)(hk:Pu w w'):g9 w' g f:=by obtain⟨T,cs,hb,h2⟩:=h;exact⟨T,cs,hk.blk hb,h2⟩
theorem g9.old {w w':World} {g g':Nat} {f:Nat→Int} {cs:Array Value} {T:TypeId}(h:g9 w g f)(hs:bG w g' cs T w')(OG:g≠g'):g9 w' g f:=by obtain⟨T,cs,hb,h2⟩:=h;exact⟨T,cs,hs.old hb OG,h2⟩
theorem jF.pu {w w':World} {g n k b:Nat} {pg:Nat→Nat} {f:Nat→Nat→Int}(h:jF w g n k pg f b)(hk:Pu w w'):jF w' g n k pg f b:=by
 obtain⟨⟨T,cs,hr,h2⟩,h3,h4,h5,h6⟩:=h
 exact⟨⟨T,cs,hk.blk hr,h2⟩,fun i hi=>(h3 i hi).pu hk,h4,h5,h6⟩
theorem jF.more {w w1 w2:World} {g n k b p:Nat} {pg:Nat→Nat} {f:Nat→Nat→Int}(h:jF w g n k pg f b)(hk:Pu w w1)(hp:g9 w1 p (f k))(Vu:w.heap.size≤p)(PH:k<n)(hb:b≤w.heap.size):
 ∃T cs,Blk w1 g cs T∧k+1≤cs.size∧∀w2,bG w1 g (setAt cs k [ptr p]) T w2→jF w2 g n (k+1) (fun i=>if i=k then p else pg i) f b:=by
 obtain⟨⟨T,cs,hr,Of,h2⟩,h3,h4,h5,h6⟩:=h
 have hg:=hr.lt
 have hold:∀i,i<k→pg i≠p:=fun i hi=>by have:=(h3 i hi).lt;omega
 refine⟨T,cs,hk.blk hr,by omega,fun w2 hs=>⟨⟨T,_,hs.blk,by rw [gk];exact Of,fun i hi=>?_⟩,fun i hi=>?_,fun i j hi hj=>?_,fun i hi=>?_,h6.1,fun i hi=>?_⟩⟩
 ·rw [fB _ _ _ _ (by simp;omega)]
  by_cases e:i=k
  ·subst e;simp
  ·rw [if_neg (by simp;omega),if_neg e]
   exact h2 i (by omega)
 ·by_cases e:i=k
  ·subst e
   rw [if_pos rfl]
   exact hp.old hs (by omega)
  ·rw [if_neg e]
   exact((h3 i (by omega)).pu hk).old hs (h5 i (by omega))
 ·by_cases e:i=k<;>by_cases e':j=k
  ·intro _;omega
  ·rw [if_pos e,if_neg e'];intro hh;exact absurd hh.symm (hold j (by omega))
  ·rw [if_neg e,if_pos e'];intro hh;exact absurd hh (hold i (by omega))
  ·rw [if_neg e,if_neg e'];exact h4 i j (by omega) (by omega)
 ·split
  ·omega
  ·exact h5 i (by omega)
 ·split
  ·omega
  ·exact h6.2 i (by omega)
section
variable {w:World} {L:eQ} {m:Mem}
theorem KT(n:Nat)(hn:n≤64):
 Calls prog 76 #[.int .i64 n] w fun e w'=>∃v,e= .returned v∧∃g pg,v= .slice (some (Addr.mk g 0 none)) n n∧jF w' g n n pg (fun _ _=>0) w.heap.size∧Pu w w':=by
 refine Ad _ ?_
 refine jq Gj (by omega) (by omega) (by omega) fun g w1 hM=>?_
 rw [Int.toNat_natCast]at hM ⊢
 refine⟨fun k x w'=>∃i:Nat,x=(i:Int)∧i≤n∧k=n - i∧(∃pg,jF w' g n i pg (fun _ _=>0) w.heap.size)∧Pu w w',⟨n,0,rfl,by omega,by omega,⟨fun _=>0,⟨⟨_,_,hM.blk,by simp,by simp⟩,by simp,by simp,by simp,by have:=hM.num;omega,by simp⟩⟩,hM.pu⟩,?_⟩
 rintro k _ x w2 ⟨i,rfl,hi,rfl,⟨pg,hP⟩,RC⟩
 refine ab (fun hb=>?_) (fun hb=>?_)
 ·have Ov:i<n:=by simpa using hb
  intro p w3 hp Sl
  have R7:=made hp Sl
  obtain⟨T,cs,hr,Of,Tf⟩:=hP.more (w2:=w3) R7.pu ⟨_,_,R7.blk,by simp,fun o ho=>by simp [ho]⟩ (by rw [R7.num];omega) Ov RC.size
  refine⟨⟨by omega,by omega⟩,ao _ rfl ?_⟩
  rw [Nat.mul_one,Int.toNat_natCast]
  refine bO hr Of fun w4 hs=>⟨n - (i+1),by omega,i+1,?_,Ov,rfl,⟨_,Tf _ hs⟩,?_⟩
  ·rw [aq (by omega)];omega
  ·have hg:w.heap.size≤g:=hP.low.1
   exact((RC.made R7).mono (by simp):Ch (fun _=>False) w w3).stored hs (.inr hg)
 ·have:i=n:=by simp at hb;omega
  subst this
  exact⟨g,pg,rfl,hP,RC⟩
theorem Nn(s i:Int)(hs:1≤s∧s≤64)(hi:1≤i∧i≤64):
 Calls prog 27 #[.int .i64 s,.int .i64 i] w fun e w'=>∃v,e= .returned v∧∃L:eQ,v= .tuple #[ptr L.g,.int .i64 0]∧cv w' L (Mem.fresh s.toNat i.toNat)∧(∀k,L.X k→w.heap.size≤k)∧Pu w w':=by
 refine tL s i ?_
 refine⟨fun b w'=>w=w'∧b=false,?_,?_⟩
 ·refine ab (fun hb=>by simp at hb;omega) (fun _=>ab (fun hb=>by simp at hb;omega) (fun _=>ab (fun hb=>by simp at hb;omega) (fun _=>⟨rfl,by simp;omega⟩)))
 rintro _ x _ ⟨rfl,rfl⟩
 refine ab (fun hb=>by cases hb) (fun _=>?_)
 obtain⟨S,rfl⟩:=Int.eq_ofNat_of_zero_le (show 0≤s by omega)
 obtain⟨I,rfl⟩:=Int.eq_ofNat_of_zero_le (show 0≤i by omega)
 refine(KT S (by omega)).mono ?_
 rintro e w1 ⟨_,rfl,a,pa,rfl,hA,NQ⟩
 refine⟨_,_,_,rfl,(KT I (by omega)).mono ?_⟩
 rintro e w2 ⟨_,rfl,b,pb,rfl,hB,Oh⟩
 refine⟨_,_,_,rfl,?_⟩
 intro g w3 hg Sl
 have hM:=made hg Sl
 have Z3:=(hA.pu Oh).pu hM.pu
 have ZZ:=hB.pu hM.pu
 have VK:∀j,j<S→pa j<w1.heap.size:=fun j hj=>(hA.pgs j hj).lt
 have Ot:a<w1.heap.size:=by obtain⟨T,cs,hr,_⟩:=hA.row;exact hr.lt
 have VJ:∀j,j<I→pb j<w2.heap.size:=fun j hj=>(hB.pgs j hj).lt
 have hbg:b<w2.heap.size:=by obtain⟨T,cs,hr,_⟩:=hB.row;exact hr.lt
 have h12:=Oh.size
 have h01:=NQ.size
 have hgn:=hM.num
 refine⟨⟨g,a,b,fun s=>match s with | true=>pa | false=>pb,fun s=>match s with | true=>S | false=>I⟩,rfl,⟨fun s=>by cases s<;>rfl,⟨(_,_),hM.blk⟩,fun s=>?_,fun s i hi=>?_,fun s i s' i' hi Ov e=>?_,⟨by show a≠g;omega,by show b≠g;omega,fun s i hi=>?_⟩,fun _ _ _=>by simp [Mem.fresh],by simp [Mem.fresh];omega⟩,?_,(NQ.trans Oh).made hM⟩
 ·cases s
  ·obtain⟨T,cs,hr,_,h2⟩:=ZZ.row;exact⟨T,cs,hr,h2⟩
  ·obtain⟨T,cs,hr,_,h2⟩:=Z3.row;exact⟨T,cs,hr,h2⟩
 ·cases s
  ·exact ZZ.pgs i hi
  ·exact Z3.pgs i hi
 ·cases s<;>cases s'<;>simp only [Mem.cnt,Mem.fresh,Int.toNat_natCast]at hi Ov<;>simp only at e
  ·exact⟨rfl,hB.inj _ _ hi Ov e⟩
  ·have:=hB.low.2 i hi;have:=VK i' Ov;omega
  ·have:=hB.low.2 i' Ov;have:=VK i hi;omega
  ·exact⟨rfl,hA.inj _ _ hi Ov e⟩
 ·cases s<;>simp only [Mem.cnt,Mem.fresh,Int.toNat_natCast]at hi<;>simp only
  ·have:=hB.low.2 i hi;have:=VJ i hi;have:=hB.dis i hi
   refine⟨?_,?_,this⟩<;>omega
  ·have:=hA.low.2 i hi;have:=VK i hi;have h3:=hA.dis i hi;have:=hB.low.1
   refine⟨?_,h3,?_⟩<;>omega
 ·rintro k (rfl | rfl | rfl | ⟨s,i,hi,rfl⟩)
  ·omega
  ·exact hA.low.1
  ·have:=hB.low.1;omega
  ·cases s<;>simp only [Mem.cnt,Mem.fresh,Int.toNat_natCast]at hi<;>simp only
   ·have:=hB.low.2 i hi;omega
   ·exact hA.low.2 i hi
theorem GQ(h:cv w L m)(s:Bool)(p t:Int):
 Calls prog 136 #[ptr L.g,fr s p,.int .i64 t] w fun e w'=>∃v,e= .returned v∧
  (m.has s p=true∧v= .tuple #[ptr (L.pg s p.toNat),.int .i64 0]∧cv w' L (m.tick (i64.wrap (t*1024)))∧Ch L.X w w'∨
   m.has s p=false∧v= .tuple #[.pointer none,.int .i64 5]∧Pu w w'):=by
 refine wZ _ s p t ?_
 intro g1 w1 hg hw
 have hM:=made hg hw
 refine⟨_,_,⟨hM.blk.at rfl,hM.blk.at rfl⟩,(mAt (h.pu hM.pu) s p).mono ?_⟩
 rintro e w2 ⟨_,rfl,rfl,hp⟩
 have Oh:=hM.pu.trans hp
 refine⟨_,rfl,?_⟩
 cases hh:m.has s p with
 | false=>exact ab (fun _=>.inr ⟨rfl,rfl,Oh⟩) (fun hb=>by simp at hb)
 | true=>
  refine ab (fun hb=>by simp at hb) (fun _=>?_)
  have h2:=h.pu Oh
  obtain⟨T,hd⟩:=h2.hd
  refine Lx hd rfl (ao _ rfl (bO hd (by simp) fun w3 hs=>.inl ⟨rfl,rfl,h2.GL hs,?_⟩))
  exact(Oh.mono (by simp)).stored hs (.inl (.inl rfl))
theorem KQ(h:cv w L m)(s:Bool)(p:Int):
 Calls prog 77 #[ptr L.g,fr s p] w fun e w'=>∃v,e= .returned v∧v= .int .i64 (m.ei s p)∧cv w' L (m.zero s p)∧Ch L.X w w':=by
 refine z3 _ s p ?_
 intro g1 w1 hg hw
 have hM:=made hg hw
 refine⟨_,_,⟨hM.blk.at rfl,hM.blk.at rfl⟩,(GQ (h.pu hM.pu) s p 1).mono ?_⟩
 rintro e w2 ⟨_,rfl,⟨hh,rfl,h2,hc⟩ | ⟨hh,rfl,hp⟩⟩
 ·refine⟨_,_,rfl,ab (fun _=>ao _ rfl ?_) (fun hb=>by simp at hb)⟩
  rintro A rfl N rfl C rfl
  have hi:=Mem.dO hh
  obtain⟨T,cs,hr,Of,OP⟩:=h2.pgs s p.toNat (by simpa using hi)
  refine Hi (o:=0) si rfl hr (by omega) (by omega) fun w3 hs=>⟨?_,?_,?_⟩
  ·simp [Mem.ei,hh]
  ·have:=h2.aj (f:=fun _=>0) (by simpa using hi) hs (by rw [gk];exact Of) (fun o ho=>?_) (fun o=>by simp)
   ·simp only [Mem.zero,hh,if_true]
    exact this
   ·have hl:(List.replicate (1024 - 0) (Value.int .u32 0)).length=1024:=List.length_replicate ..
    rw [fB _ _ _ _ (by rw [hl];omega),if_pos (by rw [hl];omega),List.getElem?_replicate,if_pos (by omega)]
  ·exact(((Ch.refl _ w).made hM).trans hc).stored hs (.inl (h.inX hi))
 ·refine⟨_,_,rfl,ab (fun hb=>by simp at hb) (fun _=>⟨?_,?_,?_⟩)⟩
  ·simp [Mem.ei,hh]
  ·simpa [Mem.zero,hh]using (h.pu hM.pu).pu hp
  ·exact(hM.pu.trans hp).mono (by simp)
end
end
structure Ent where
 typ:Int
 owner:Int
 refs:Int
 state:Int
 bm:Bool
deriving DecidableEq
namespace Ent
abbrev free:Ent:=⟨0,0,0,0,false⟩
def ok(e:Ent):Bool:=
 decide (0≤e.typ∧e.typ≤6∧0≤e.owner∧e.owner≤63∧0≤e.refs∧e.refs≤63∧(e.typ=0→e.owner=0)∧(e.typ≠1→e.refs=0∧e.state=0)∧(e.typ=1→1≤e.state∧e.state≤3)∧(e.typ≠2→e.bm=false))
def w0(e:Ent):Int:=e.typ+16*e.state+65536*e.owner+(if e.bm then 256 else 0)
def w1(e:Ent):Int:=e.refs
def parts(a b:Int):Ent:=⟨a % 8,a / 65536 % 64,b % 64,a / 16 % 4,decide (a / 256 % 2=1)⟩
def dec(a b:Int):Ent:=if(parts a b).ok && decide ((parts a b).w0=a) && decide ((parts a b).w1=b)then parts a b else free
def fg(a b:Int):Int:=if(parts a b).ok && decide ((parts a b).w0=a) && decide ((parts a b).w1=b)then 0 else 110
theorem fP {e:Ent}(h:e.ok=true):0≤e.typ∧e.typ≤6∧0≤e.owner∧e.owner≤63∧0≤e.refs∧e.refs≤63∧(e.typ=0→e.owner=0)∧(e.typ≠1→e.refs=0∧e.state=0)∧(e.typ=1→1≤e.state∧e.state≤3)∧(e.typ≠2→e.bm=false):=by
 simpa only [ok,decide_eq_true_eq]using h
theorem lG {e:Ent}(h:e.ok=true):0≤e.state∧e.state≤3:=by
 have:=fP h
 by_cases h1:e.typ=1<;>omega
theorem D8 {e:Ent}(h:e.ok=true):parts e.w0 e.w1=e:=by
 have h1:=fP h
 have h2:=lG h
 obtain⟨t,o,r,s,n⟩:=e
 simp only at h1 h2
 cases n<;>simp only [parts,w0,w1,Ent.mk.injEq,decide_eq_true_eq,decide_eq_false_iff_not,if_true,Bool.false_eq_true,if_false]<;>omega
theorem wE {e:Ent}(h:e.ok=true):dec e.w0 e.w1=e∧fg e.w0 e.w1=0:=by
 unfold dec fg
 rw [D8 h]
 simp [h]
theorem xI {e:Ent}(h:e.ok=true):0≤e.w0∧e.w0<4294967296:=by
 have h1:=fP h
 have h2:=lG h
 unfold w0
 split<;>omega
theorem xH {e:Ent}(h:e.ok=true):0≤e.w1∧e.w1<4294967296:=by
 have h1:=fP h
 unfold w1
 omega
theorem wA:free.ok=true:=by decide
theorem g8 {a b:Int}(h:fg a b=0):(dec a b).ok=true∧(dec a b).w0=a∧(dec a b).w1=b:=by
 unfold fg at h
 unfold dec
 split at h
 ·rename_i hc
  rw [if_pos hc]
  simp only [Bool.and_eq_true,decide_eq_true_eq]at hc
  exact⟨hc.1.1,hc.1.2,hc.2⟩
 ·omega
end Ent
structure DB where
 mem:Mem
 av:Int
 ent:Nat→Ent
namespace DB
def S(d:DB):Nat:=d.mem.S
def has(d:DB)(p:Int):Bool:=decide (0≤p∧p<(d.S:Int))
def at_(d:DB)(p:Int):Ent:=d.ent p.toNat
def set(d:DB)(p:Int)(e:Ent):DB:= {d with ent:=fun q=>if q=p.toNat then e else d.ent q}
def entry(d:DB)(p:Int):Ent:=if d.has p then d.at_ p else .free
def bc(d:DB)(p:Int):Int:=if d.has p then 0 else 5
def bR(d:DB)(p:Int):Bool:=d.has p && (d.at_ p).typ==1
def aE(d:DB)(m:Mem):DB:=⟨m,d.av,d.ent⟩
def gH(d:DB)(b:Int):DB:=⟨d.mem,b,d.ent⟩
def aD(d:DB)(f:Mem→Mem):DB:=d.aE (f d.mem)
def free(d:DB):Int:=(((List.range d.S).filter fun p=>(d.ent p).typ==0).length:Int)
def aP(d:DB)(s:Int)(p:Nat):Bool:=(p:Int) !=s && (d.ent p).typ !=0 && (d.ent p).owner==s
def owned(d:DB)(s:Int):List Nat:=if d.bR s then(List.range d.S).filter (d.aP s)else []
def aR(d:DB)(s f:Int):Int:=
 if !d.has s || !d.has f then 5 else if s=f then 1 else if(d.at_ s).typ !=0 || (d.at_ f).typ !=0 then 120 else if d.av≥64 then 240 else 0
def aV(d:DB)(s f:Int):DB:=
 let d1:=(d.set s ⟨1,s,1,1,false⟩).set f ⟨3,s,0,0,false⟩
 (d1.aE (((d.mem.write true s 0 f).write true s 1 d.av).write true s 2 0)).gH (d.av+1)
def aN(d:DB)(s f:Int):DB:=if d.aR s f=0 then d.aV s f else d
def turns(t:Int):Bool:=t==4 || t==5 || t==6
def bM(d:DB)(p t s:Int):Int:=
 if !d.has p then 5 else if t !=2 && !turns t then 124 else if !d.bR s || decide ((d.at_ s).refs≥63)then 122 else if(d.at_ p).typ !=0 then 120 else 0
def more(d:DB)(s k:Int):DB:=d.set s {d.at_ s with refs:=(d.at_ s).refs+k}
def bZ(d:DB)(p t s:Int):DB:=(d.set p ⟨t,s,0,0,false⟩).more s 1
def take(d:DB)(p t s:Int):DB:=if d.bM p t s=0 then d.bZ p t s else d
def cZ(d:DB)(p:Int):Int:=
 if !d.has p then 5 else if(d.at_ p).typ=0 then 121 else if(d.at_ p).typ==1 && decide ((d.at_ p).refs>0)then 123 else 0
def aW(d:DB)(p:Int):DB:=
 let d1:=d.set p .free
 (if(d.at_ p).typ !=1 && (d1.bR (d.at_ p).owner && decide ((d1.at_ (d.at_ p).owner).refs>0))then d1.more (d.at_ p).owner (-1)else d1).aD (·.zero true p)
def dY(d:DB)(p:Int):DB:=if d.cZ p=0 then d.aW p else d
def aS(d:DB)(p s:Int):Int:=
 if !d.has p then 5 else if(d.at_ p).typ≠1 then 124 else if s !=3 && ((d.at_ p).state !=1 || s !=2)then 3 else 0
def setState(d:DB)(p s:Int):DB:=if d.aS p s=0 then d.set p {d.at_ p with state:=s}else d
def words(d:DB):List Int:=d.av::(List.range d.S).flatMap fun p=>[(d.ent p).w0,(d.ent p).w1]
structure Ok(d:DB):Prop where
 ent:∀p,p<d.S→(d.ent p).ok=true∧(d.ent p).owner<d.S
 av:0≤d.av∧d.av≤64
@[simp] theorem Ny(d:DB)(p:Int)(e:Ent):(d.set p e).S=d.S:=rfl
@[simp] theorem dB(d:DB)(p q:Int)(e:Ent):(d.set p e).has q=d.has q:=rfl
@[simp] theorem mem_set(d:DB)(p:Int)(e:Ent):(d.set p e).mem=d.mem:=rfl
@[simp] theorem LL(d:DB)(p:Int)(e:Ent):(d.set p e).av=d.av:=rfl
@[simp] theorem cB(d:DB)(m:Mem):(d.aE m).mem=m:=rfl
@[simp] theorem Hq(d:DB)(m:Mem):(d.aE m).av=d.av:=rfl
@[simp] theorem LN(d:DB)(m:Mem)(p:Int):(d.aE m).at_ p=d.at_ p:=rfl
@[simp] theorem Ma(d:DB)(m:Mem):(d.aE m).S=m.S:=rfl
@[simp] theorem Ee(d:DB)(b:Int):(d.gH b).mem=d.mem:=rfl
@[simp] theorem JL(d:DB)(b:Int):(d.gH b).av=b:=rfl
@[simp] theorem MY(d:DB)(b:Int)(p:Int):(d.gH b).at_ p=d.at_ p:=rfl
@[simp] theorem Nd(d:DB)(b:Int):(d.gH b).S=d.S:=rfl
@[simp] theorem F0(d:DB)(m m':Mem):(d.aE m).aE m'=d.aE m':=rfl
theorem oz(m:Mem)(s s':Bool)(p q:Int):(m.zero s p).has s' q=m.has s' q:=by
 unfold Mem.has Mem.zero;split<;>cases s'<;>rfl
theorem cH(m:Mem)(s s':Bool)(p o v q:Int):(m.write s p o v).has s' q=m.has s' q:=by
 unfold Mem.has Mem.write;split<;>cases s'<;>rfl
theorem fR(d:DB)(p:Int):d.mem.has true p=d.has p:=rfl
theorem ai {d:DB} {p:Int}(h:d.has p=true):0≤p∧p<(d.S:Int):=by simpa [has]using h
theorem dO {d:DB} {p:Int}(h:d.has p=true):p.toNat<d.S:=by have:=ai h;omega
theorem bD {d:DB} {p q:Int} {e:Ent}(hp:0≤p)(hq:0≤q):(d.set p e).at_ q=if q=p then e else d.at_ q:=by
 unfold at_ set
 by_cases h:q=p
 ·simp [h]
 ·simp only [h,if_false];rw [if_neg (by omega)]
theorem MZ {d:DB} {p q:Int} {e:Ent}(hp:d.has p=true)(hq:d.has q=true)(OG:¬(d.at_ p).typ=(d.at_ q).typ):(d.set p e).at_ q=d.at_ q:=by
 have h1:=ai hp
 have h2:=ai hq
 rw [bD h1.1 h2.1,if_neg (by rintro rfl;exact OG rfl)]
theorem fG {d:DB} {p:Int}(h:d.bR p=true):d.has p=true∧(d.at_ p).typ=1:=by simpa [bR]using h
theorem GD {t s:Int}(ht:t=2∨turns t=true)(hs:0≤s∧s≤63):(Ent.mk t s 0 0 false).ok=true:=by
 have:t=2∨t=4∨t=5∨t=6:=by simpa [turns,or_assoc]using ht
 simp only [Ent.ok,decide_eq_true_eq];simp;omega
theorem vY {e:Ent} {k:Int}(h:e.ok=true)(he:e.typ=1)(hk:0≤e.refs+k∧e.refs+k≤63):(Ent.mk e.typ e.owner (e.refs+k) e.state e.bm).ok=true:=by
 have h1:=Ent.fP h
 simp only [Ent.ok,decide_eq_true_eq]
 refine⟨by omega,by omega,by omega,by omega,by omega,by omega,by omega,by omega,by omega,fun _=>h1.2.2.2.2.2.2.2.2.2 (by omega)⟩
theorem KN {e:Ent} {s:Int}(h:e.ok=true)(he:e.typ=1)(hs:1≤s∧s≤3):(Ent.mk e.typ e.owner e.refs s e.bm).ok=true:=by
 have h1:=Ent.fP h
 simp only [Ent.ok,decide_eq_true_eq]
 refine⟨by omega,by omega,by omega,by omega,by omega,by omega,by omega,by omega,by omega,fun _=>h1.2.2.2.2.2.2.2.2.2 (by omega)⟩
theorem Ok.at_ {d:DB}(h:d.Ok) {p:Int}(hp:d.has p=true):(d.at_ p).ok=true∧(d.at_ p).owner<d.S∧0≤(d.at_ p).owner:=
 ⟨(h.ent _ (dO hp)).1,(h.ent _ (dO hp)).2,(Ent.fP (h.ent _ (dO hp)).1).2.2.1⟩
end DB
section
structure fh where
 g:Nat
 a:Nat
 M:eQ
def fh.X(L:fh):Nat→Prop:=fun k=>k=L.g∨k=L.a∨L.M.X k
abbrev DB.n2(D:DB):Nat:=2*D.mem.S
structure DBP(w:World)(L:fh)(D:DB):Prop where
 hd:∃T,Blk w L.g #[.pointer (some (Addr.mk L.M.g 0 none)),.int .i64 D.av,.slice (some (Addr.mk L.a 0 none)) D.n2 D.n2] T
 ws:∃T cs,Blk w L.a cs T∧cs.size=D.n2∧∀p,p<D.S→cs[2*p]? =some (.int .u32 (D.ent p).w0)∧cs[2*p+1]? =some (.int .u32 (D.ent p).w1)
 mem:cv w L.M D.mem
 ok:D.Ok
 dis:L.a≠L.g∧¬L.M.X L.g∧¬L.M.X L.a
section
variable {w w' w2:World} {L:fh} {D:DB} {Y:Nat→Prop}
theorem DBP.lt(h:DBP w L D):∀k,L.X k→k<w.heap.size:=by
 rintro k (rfl | rfl | hk)
 ·obtain⟨T,hd⟩:=h.hd;exact hd.lt
 ·obtain⟨T,cs,hr,_⟩:=h.ws;exact hr.lt
 ·exact h.mem.lt k hk
theorem DBP.ch(h:DBP w L D)(hk:Ch Y w w')(hb:∀k,L.X k→¬Y k):DBP w' L D:=by
 refine⟨?_,?_,h.mem.ch hk fun k hx=>hb k (.inr (.inr hx)),h.ok,h.dis⟩
 ·obtain⟨T,hd⟩:=h.hd;exact⟨T,hk.blk hd (hb _ (.inl rfl))⟩
 ·obtain⟨T,cs,hr,h2⟩:=h.ws;exact⟨T,cs,hk.blk hr (hb _ (.inr (.inl rfl))),h2⟩
theorem DBP.pu(h:DBP w L D)(hk:Pu w w'):DBP w' L D:=h.ch hk (by simp)
theorem DBP.S64(h:DBP w L D):D.S≤64:=h.mem.dV.1
theorem DBP.aD(h:DBP w L D) {m:Mem}(hm:cv w' L.M m)(hc:Ch L.M.X w w')(hs:m.S=D.mem.S):DBP w' L (D.aE m):=by
 refine⟨?_,?_,hm,⟨fun p hp=>?_,h.ok.av⟩,h.dis⟩
 ·obtain⟨T,hd⟩:=h.hd
  refine⟨T,?_⟩
  show Blk w' L.g #[_,_,.slice _ (2*m.S) (2*m.S)] T
  rw [hs];exact hc.blk hd h.dis.2.1
 ·obtain⟨T,cs,hr,h2⟩:=h.ws
  refine⟨T,cs,hc.blk hr h.dis.2.2,?_⟩
  show cs.size=2*m.S∧∀p,p<m.S→_
  rw [hs];exact h2
 ·have Qq:p<m.S:=hp
  rw [hs]at Qq
  have:=h.ok.ent p Qq
  refine⟨this.1,?_⟩
  show _<(m.S:Int)
  rw [hs];exact this.2
theorem DBP.DY(h:DBP w L D) {x:Int} {T:TypeId}(hs:bG w L.g #[.pointer (some (Addr.mk L.M.g 0 none)),.int .i64 x,.slice (some (Addr.mk L.a 0 none)) D.n2 D.n2] T w2)(hx:0≤x∧x≤64):DBP w2 L (D.gH x):=by
 refine⟨⟨T,hs.blk⟩,?_,h.mem.ch hs.ch fun k hk e=>h.dis.2.1 (e▸hk),⟨h.ok.ent,hx⟩,h.dis⟩
 obtain⟨T,cs,hr,h2⟩:=h.ws
 exact⟨T,cs,hs.old hr h.dis.1,h2⟩
theorem DBP.Lb(h:DBP w L D) {p:Int} {e:Ent}(hp:D.has p=true)(he:e.ok=true)(ho:e.owner<D.S) {cs:Array Value} {T:TypeId}(hb:Blk w L.a cs T)(hs:bG w L.a (setAt cs (2*p.toNat) [.int .u32 e.w0,.int .u32 e.w1]) T w2):DBP w2 L (D.set p e):=by
 obtain⟨T',cs',hr,Of,h2⟩:=h.ws
 obtain⟨rfl,rfl⟩:=hb.inj hr
 have hn:=DB.dO hp
 refine⟨?_,⟨T,_,hs.blk,by rw [gk];exact Of,fun q hq=>?_⟩,h.mem.ch hs.ch fun k hk e=>h.dis.2.2 (e▸hk),⟨fun q hq=>?_,h.ok.av⟩,h.dis⟩
 ·obtain⟨T,hd⟩:=h.hd;exact⟨T,hs.old hd h.dis.1.symm⟩
 ·have hl:2*p.toNat+ [Value.int .u32 e.w0,Value.int .u32 e.w1].length≤cs.size:=by
   have h1:D.n2=2*D.S:=rfl
   rw [Of,h1];simp only [List.length_cons,List.length_nil];omega
  rw [fB _ _ _ _ hl,fB _ _ _ _ hl]
  simp only [DB.set,List.length_cons,List.length_nil]
  by_cases Zo:q=p.toNat
  ·subst Zo
   simp
  ·rw [if_neg (by omega),if_neg (by omega:¬(2*p.toNat≤2*q+1∧2*q+1<2*p.toNat+(0+1+1)))]
   simp only [Zo,if_false]
   exact h2 q hq
 ·simp only [DB.set]
  split
  ·exact⟨he,ho⟩
  ·exact h.ok.ent q hq
theorem Mem.bh(m:Mem)(s:Bool)(p o v:Int):(m.write s p o v).S=m.S:=by unfold Mem.write;split<;>rfl
theorem Mem.qi(m:Mem)(s:Bool)(p:Int):(m.zero s p).S=m.S:=by unfold Mem.zero;split<;>rfl
theorem fh.inM(L:fh)(k:Nat)(h:L.M.X k):L.X k:= .inr (.inr h)
theorem wC(h:DBP w L D)(s:Bool)(p o v:Int)(hv:0≤v∧v<4294967296):
 Calls prog 42 #[ptr L.M.g,fr s p,.int .i64 o,.int .u32 v] w fun e w'=>∃u,e= .returned u∧u= .int .i64 (D.mem.err s p o)∧DBP w' L (D.aE (D.mem.write s p o v))∧Ch L.M.X w w':=
 (Bv h.mem s p o v hv).mono fun e w' ⟨u,he,hu,hm,hc⟩=>⟨u,he,hu,h.aD hm hc (Mem.bh ..),hc⟩
theorem Ha(h:DBP w L D)(s:Bool)(p:Int):
 Calls prog 77 #[ptr L.M.g,fr s p] w fun e w'=>∃u,e= .returned u∧u= .int .i64 (D.mem.ei s p)∧DBP w' L (D.aE (D.mem.zero s p))∧Ch L.M.X w w':=
 (KQ h.mem s p).mono fun e w' ⟨u,he,hu,hm,hc⟩=>⟨u,he,hu,h.aD hm hc (Mem.qi ..),hc⟩
theorem py(x:Int):0≤u32.wrap x∧u32.wrap x<4294967296:=by rw [u32_eq];omega
end
end
end Go.Proofs.YtinhphjfnedhgaaGreatDoor
namespace Go.Proofs.YtinhphjfnedhgaaGreatDoor
open Go.Proofs.Tryz (prog)
open Go Go.RowKit V
open Go.IntKind (i64 u32 u64)
section
set_option maxRecDepth 100000
def vy(t:Int)(R:aB)(w:World):Prop:=
 ∃J:Bool→World→Prop,(
  split ((t:Int)==4) (
   J true w) (
   split ((t:Int)==5) (
    J true w) (
    J ((t:Int)==6) w)))∧∀(Pw:Nat→Value)(x2:Bool),∀wv,J x2 wv→
 R (.bool x2) wv
def FF:Ann:=(.node none .leaf (.node none (.node (some ⟨[(2,.one (.bool))],[2,3,4,5,6,7,8,9,10,11,12]⟩) .leaf .leaf) .leaf))
theorem DTurns_eq(t:Int)(R:aB)(w:World):vy t R w=vcF prog aM [] Tryz.f128 FF [(.int .i64 t)] R none w:=by kernel_rfl
theorem xp(t:Int) {R:aB} {w:World}(h:vy t R w):Calls prog 128 #[(.int .i64 t)] w fun e w'=>∃v,e= .returned v∧R v w':=
 ak Tryz.func128 aw aa ((DTurns_eq t R w).mp h)
def tO(aj:Int)(R:aB)(w:World):Prop:=
 ∀(gv:Nat)(wv:World),gv=w.heap.size→wv=w.alloc (.cells (#[(.bool false),(.int .i64 0)]) 86)→
 aF wv (Addr.mk gv 0 none) [(.bool true),(.int .i64 aj)] fun ND=>
 ∃Rk:Bool,∃Rj:Int,(ND.cell? ((Addr.mk gv 0 none).add 0)=some (.bool Rk)∧ND.cell? ((Addr.mk gv 0 none).add 1)=some (.int .i64 Rj))∧
 R (.agg #[(.bool Rk),(.int .i64 Rj)]) ND
def Cp:Ann:= .leaf
theorem DSecure_eq(aj:Int)(R:aB)(w:World):tO aj R w=vcF prog aM [] Tryz.f78 Cp [(.int .i64 aj)] R none w:=by kernel_rfl
theorem uq(aj:Int) {R:aB} {w:World}(h:tO aj R w):Calls prog 78 #[(.int .i64 aj)] w fun e w'=>∃v,e= .returned v∧R v w':=
 ak Tryz.func78 aw aa ((DSecure_eq aj R w).mp h)
def vz(d:Option Addr)(R:aB)(w:World):Prop:=
 aA d fun p4=>
 ∃Sq:Option Addr,∃Rz:Nat,∃SE:Nat,w.cell? (p4.add 2)=some (.slice Sq Rz SE)∧
 R (.int .i64 (i64.wrap ((((Rz:Nat):Int):Int).tdiv 2))) w
def FG:Ann:= .leaf
theorem DPages_eq(d:Option Addr)(R:aB)(w:World):vz d R w=vcF prog aM [] Tryz.f120 FG [(.pointer d)] R none w:=by kernel_rfl
theorem pr(d:Option Addr) {R:aB} {w:World}(h:vz d R w):Calls prog 120 #[(.pointer d)] w fun e w'=>∃v,e= .returned v∧R v w':=
 ak Tryz.func120 aw aa ((DPages_eq d R w).mp h)
def DK(d:Option Addr)(aj:Int)(R:aB)(w:World):Prop:=
 ∃J:Bool→World→Prop,(
  split (decide ((aj:Int)≥0)) (
   Calls prog 120 #[(.pointer d)] w fun e wv=>
   ∃NT:Int,e= .returned (.int .i64 NT)∧
   J (decide ((aj:Int)<NT)) wv) (
   J false w))∧∀(Pw:Nat→Value)(x4:Bool),∀wv,J x4 wv→
 R (.bool x4) wv
def KF:Ann:=(.node none .leaf (.node none (.node (some ⟨[(4,.one (.bool))],[4,5,6,7,8,9,10,11,12]⟩) .leaf .leaf) .leaf))
theorem DHas_eq(d:Option Addr)(aj:Int)(R:aB)(w:World):DK d aj R w=vcF prog aM [] Tryz.f57 KF [(.pointer d),(.int .i64 aj)] R none w:=by kernel_rfl
theorem tU(d:Option Addr)(aj:Int) {R:aB} {w:World}(h:DK d aj R w):Calls prog 57 #[(.pointer d),(.int .i64 aj)] w fun e w'=>∃v,e= .returned v∧R v w':=
 ak Tryz.func57 aw aa ((DHas_eq d aj R w).mp h)
def IL(d:Option Addr)(aj:Int)(R:aB)(w:World):Prop:=
 ∀(gv:Nat)(wv:World),gv=w.heap.size→wv=w.alloc (.cells (#[(.int .i64 0),(.int .i64 0),(.int .i64 0),(.int .i64 0),(.bool false)]) 50)→
 aA d fun p9=>
 ∃Sf:Option Addr,∃Sd:Nat,∃Se:Nat,wv.cell? (p9.add 2)=some (.slice Sf Sd Se)∧
 (0≤(i64.wrap (2*aj):Int)∧(i64.wrap (2*aj):Int)≤((Sd:Nat):Int))∧
 ∀YM:Option Addr,YM=(if Se=(Int.toNat (i64.wrap (2*aj)))then Sf else(Sf:Option Addr).map (·.add ((Int.toNat (i64.wrap (2*aj)))*1)))→∀YL:Nat,YL=Sd - (Int.toNat (i64.wrap (2*aj)))→∀aaS:Nat,aaS=Se - (Int.toNat (i64.wrap (2*aj)))→
 2≤YL∧
 aA YM fun Vg=>
 ∃Yv:Int,∃Yu:Int,(wv.cell? (Vg.add 0)=some (.int .u32 Yv)∧wv.cell? (Vg.add 1)=some (.int .u32 Yu))∧
 Calls prog 121 #[(.agg #[(.int .u32 Yv),(.int .u32 Yu)])] wv fun e ND=>
 ∃x17aa:Int,∃x17ab:Int,∃x17ac:Int,∃x17ad:Int,∃x17ae:Bool,∃TQ:Int,e= .returned (.tuple #[(.agg #[(.int .i64 x17aa),(.int .i64 x17ab),(.int .i64 x17ac),(.int .i64 x17ad),(.bool x17ae)]),(.int .i64 TQ)])∧
 ∀(NJ:Nat)(NF:World),NJ=ND.heap.size→NF=ND.alloc (.cells (#[(.int .i64 0),(.int .i64 0),(.int .i64 0),(.int .i64 0),(.bool false)]) 50)→
 aF NF (Addr.mk NJ 0 none) [(.int .i64 x17aa),(.int .i64 x17ab),(.int .i64 x17ac),(.int .i64 x17ad),(.bool x17ae)] fun NI=>
 ∃Ym:Int,∃Yl:Int,∃Yk:Int,∃Yj:Int,∃Yi:Bool,(NI.cell? ((Addr.mk NJ 0 none).add 0)=some (.int .i64 Ym)∧NI.cell? ((Addr.mk NJ 0 none).add 1)=some (.int .i64 Yl)∧NI.cell? ((Addr.mk NJ 0 none).add 2)=some (.int .i64 Yk)∧NI.cell? ((Addr.mk NJ 0 none).add 3)=some (.int .i64 Yj)∧NI.cell? ((Addr.mk NJ 0 none).add 4)=some (.bool Yi))∧
 aF NI (Addr.mk gv 0 none) [(.int .i64 Ym),(.int .i64 Yl),(.int .i64 Yk),(.int .i64 Yj),(.bool Yi)] fun NM=>
 ∃Rk:Int,∃Rj:Int,∃R1:Int,∃R0:Int,∃RZ:Bool,(NM.cell? ((Addr.mk gv 0 none).add 0)=some (.int .i64 Rk)∧NM.cell? ((Addr.mk gv 0 none).add 1)=some (.int .i64 Rj)∧NM.cell? ((Addr.mk gv 0 none).add 2)=some (.int .i64 R1)∧NM.cell? ((Addr.mk gv 0 none).add 3)=some (.int .i64 R0)∧NM.cell? ((Addr.mk gv 0 none).add 4)=some (.bool RZ))∧
 R (.agg #[(.int .i64 Rk),(.int .i64 Rj),(.int .i64 R1),(.int .i64 R0),(.bool RZ)]) NM
def L8:Ann:= .leaf
theorem DAt_eq(d:Option Addr)(aj:Int)(R:aB)(w:World):IL d aj R w=vcF prog aM [] Tryz.f58 L8 [(.pointer d),(.int .i64 aj)] R none w:=by kernel_rfl
theorem FN(d:Option Addr)(aj:Int) {R:aB} {w:World}(h:IL d aj R w):Calls prog 58 #[(.pointer d),(.int .i64 aj)] w fun e w'=>∃v,e= .returned v∧R v w':=
 ak Tryz.func58 aw aa ((DAt_eq d aj R w).mp h)
def DI(d:Option Addr)(aj:Int)(ea:Int)(eb:Int)(ec:Int)(ed:Int)(ee:Bool)(R:aB)(w:World):Prop:=
 ∀(gv:Nat)(wv:World),gv=w.heap.size→wv=w.alloc (.cells #[(.int .i64 ea),(.int .i64 eb),(.int .i64 ec),(.int .i64 ed),(.bool ee)] 50)→
 ∃SD:Int,∃SC:Int,∃Wo:Int,∃Wn:Int,∃Wm:Bool,(wv.cell? ((Addr.mk gv 0 none).add 0)=some (.int .i64 SD)∧wv.cell? ((Addr.mk gv 0 none).add 1)=some (.int .i64 SC)∧wv.cell? ((Addr.mk gv 0 none).add 2)=some (.int .i64 Wo)∧wv.cell? ((Addr.mk gv 0 none).add 3)=some (.int .i64 Wn)∧wv.cell? ((Addr.mk gv 0 none).add 4)=some (.bool Wm))∧
 Calls prog 170 #[(.agg #[(.int .i64 SD),(.int .i64 SC),(.int .i64 Wo),(.int .i64 Wn),(.bool Wm)])] wv fun e ND=>
 ∃x10aa:Int,∃x10ab:Int,∃PB:Int,e= .returned (.tuple #[(.agg #[(.int .u32 x10aa),(.int .u32 x10ab)]),(.int .i64 PB)])∧
 ∀(NJ:Nat)(NF:World),NJ=ND.heap.size→NF=ND.alloc (.cells (#[(.int .u32 0),(.int .u32 0)]) 197)→
 aF NF (Addr.mk NJ 0 none) [(.int .u32 x10aa),(.int .u32 x10ab)] fun NI=>
 ∃b:Nat→Nat→Prop,
 aA d fun Tx=>
 b 3 ((Tx.add 2).block)∧
 ∃SU:Option Addr,∃QR:Nat,∃SS:Nat,NI.drew.cell? (Tx.add 2)=some (.slice SU QR SS)∧
 (0≤(i64.wrap (2*aj):Int)∧(i64.wrap (2*aj):Int)≤((QR:Nat):Int))∧
 ∀SR:Option Addr,SR=(if SS=(Int.toNat (i64.wrap (2*aj)))then SU else(SU:Option Addr).map (·.add ((Int.toNat (i64.wrap (2*aj)))*1)))→∀SP:Nat,SP=QR - (Int.toNat (i64.wrap (2*aj)))→∀SQ:Nat,SQ=SS - (Int.toNat (i64.wrap (2*aj)))→
 ∀SO:Option Addr,SO=(some (if 2=0 then Addr.mk NJ 0 none else(Addr.mk NJ 0 none).add (0*1)))→∀SL:Nat,SL=2 - 0→∀SM:Nat,SM=2 - 0→
 ∃Pt:Int,∃NM,(Builtin.copy_ #[62,62] 3 #[(.slice SR SP SQ),(.slice SO SL SM)]:Sem Value).run prog NI.drew= .ok (.int .i64 Pt) NM∧
 Kept (cg b [0,1]) NI.drew NM∧∃b1:Nat→Nat→Prop,(∀i k,b i k→b1 i k)∧
 R (.tuple #[]) NM
def KD:Ann:= .leaf
theorem DSet_eq(d:Option Addr)(aj:Int)(ea:Int)(eb:Int)(ec:Int)(ed:Int)(ee:Bool)(R:aB)(w:World):DI d aj ea eb ec ed ee R w=vcF prog aM [] Tryz.f115 KD [(.pointer d),(.int .i64 aj),(.agg #[(.int .i64 ea),(.int .i64 eb),(.int .i64 ec),(.int .i64 ed),(.bool ee)])] R none w:=by kernel_rfl
theorem Co(d:Option Addr)(aj:Int)(ea:Int)(eb:Int)(ec:Int)(ed:Int)(ee:Bool) {R:aB} {w:World}(h:DI d aj ea eb ec ed ee R w):Calls prog 115 #[(.pointer d),(.int .i64 aj),(.agg #[(.int .i64 ea),(.int .i64 eb),(.int .i64 ec),(.int .i64 ed),(.bool ee)])] w fun e w'=>∃v,e= .returned v∧R v w':=
 ak Tryz.func115 aw aa ((DSet_eq d aj ea eb ec ed ee R w).mp h)
def vB(d:Option Addr)(aj:Int)(R:aB)(w:World):Prop:=
 ∀(gv:Nat)(wv:World),gv=w.heap.size→wv=w.alloc (.cells (#[(.int .i64 0),(.int .i64 0),(.int .i64 0),(.int .i64 0),(.bool false)]) 50)→
 Calls prog 57 #[(.pointer d),(.int .i64 aj)] wv fun e ND=>
 ∃x8:Bool,e= .returned (.bool x8)∧
 split (!x8) (
  aF ND (Addr.mk gv 0 none) [(.int .i64 0),(.int .i64 0),(.int .i64 0),(.int .i64 0),(.bool false)] fun NF=>
  ∃Rk:Int,∃Rj:Int,∃R1:Int,∃R0:Int,∃RZ:Bool,(NF.cell? ((Addr.mk gv 0 none).add 0)=some (.int .i64 Rk)∧NF.cell? ((Addr.mk gv 0 none).add 1)=some (.int .i64 Rj)∧NF.cell? ((Addr.mk gv 0 none).add 2)=some (.int .i64 R1)∧NF.cell? ((Addr.mk gv 0 none).add 3)=some (.int .i64 R0)∧NF.cell? ((Addr.mk gv 0 none).add 4)=some (.bool RZ))∧
  R (.tuple #[(.agg #[(.int .i64 Rk),(.int .i64 Rj),(.int .i64 R1),(.int .i64 R0),(.bool RZ)]),(.int .i64 5)]) NF) (
  Calls prog 58 #[(.pointer d),(.int .i64 aj)] ND fun e NF=>
  ∃OU:Int,∃O2:Int,∃Rg:Int,∃Rf:Int,∃Re:Bool,e= .returned (.agg #[(.int .i64 OU),(.int .i64 O2),(.int .i64 Rg),(.int .i64 Rf),(.bool Re)])∧
  aF NF (Addr.mk gv 0 none) [(.int .i64 OU),(.int .i64 O2),(.int .i64 Rg),(.int .i64 Rf),(.bool Re)] fun NI=>
  ∃Rk:Int,∃Rj:Int,∃R1:Int,∃R0:Int,∃RZ:Bool,(NI.cell? ((Addr.mk gv 0 none).add 0)=some (.int .i64 Rk)∧NI.cell? ((Addr.mk gv 0 none).add 1)=some (.int .i64 Rj)∧NI.cell? ((Addr.mk gv 0 none).add 2)=some (.int .i64 R1)∧NI.cell? ((Addr.mk gv 0 none).add 3)=some (.int .i64 R0)∧NI.cell? ((Addr.mk gv 0 none).add 4)=some (.bool RZ))∧
  R (.tuple #[(.agg #[(.int .i64 Rk),(.int .i64 Rj),(.int .i64 R1),(.int .i64 R0),(.bool RZ)]),(.int .i64 0)]) NI)
def FI:Ann:= .leaf
theorem DEntry_eq(d:Option Addr)(aj:Int)(R:aB)(w:World):vB d aj R w=vcF prog aM [] Tryz.f18 FI [(.pointer d),(.int .i64 aj)] R none w:=by kernel_rfl
theorem xw(d:Option Addr)(aj:Int) {R:aB} {w:World}(h:vB d aj R w):Calls prog 18 #[(.pointer d),(.int .i64 aj)] w fun e w'=>∃v,e= .returned v∧R v w':=
 ak Tryz.func18 aw aa ((DEntry_eq d aj R w).mp h)
def qM(d:Option Addr)(aj:Int)(R:aB)(w:World):Prop:=
 ∃J:Bool→World→Prop,(
  Calls prog 57 #[(.pointer d),(.int .i64 aj)] w fun e wv=>
  ∃x7:Bool,e= .returned (.bool x7)∧
  split x7 (
   Calls prog 58 #[(.pointer d),(.int .i64 aj)] wv fun e ND=>
   ∃SZ:Int,∃TR:Int,∃aaV:Int,∃aaU:Int,∃aaT:Bool,e= .returned (.agg #[(.int .i64 SZ),(.int .i64 TR),(.int .i64 aaV),(.int .i64 aaU),(.bool aaT)])∧
   J ((SZ:Int)==1) ND) (
   J false wv))∧∀(Pw:Nat→Value)(x4:Bool),∀wv,J x4 wv→
 R (.bool x4) wv
def AQ:Ann:=(.node none .leaf (.node none (.node (some ⟨[(4,.one (.bool))],[4,5,6,7,8,9,10,11,12,13,14]⟩) .leaf .leaf) .leaf))
theorem DIsSpace_eq(d:Option Addr)(aj:Int)(R:aB)(w:World):qM d aj R w=vcF prog aM [] Tryz.f116 AQ [(.pointer d),(.int .i64 aj)] R none w:=by kernel_rfl
theorem tT(d:Option Addr)(aj:Int) {R:aB} {w:World}(h:qM d aj R w):Calls prog 116 #[(.pointer d),(.int .i64 aj)] w fun e w'=>∃v,e= .returned v∧R v w':=
 ak Tryz.func116 aw aa ((DIsSpace_eq d aj R w).mp h)
def AL(d:Option Addr)(space:Int)(more:Int)(R:aB)(w:World):Prop:=
 Calls prog 58 #[(.pointer d),(.int .i64 space)] w fun e wv=>
 ∃SD:Int,∃SC:Int,∃Wo:Int,∃Wn:Int,∃Wm:Bool,e= .returned (.agg #[(.int .i64 SD),(.int .i64 SC),(.int .i64 Wo),(.int .i64 Wn),(.bool Wm)])∧
 ∀(gv:Nat)(ND:World),gv=wv.heap.size→ND=wv.alloc (.cells (#[(.int .i64 0),(.int .i64 0),(.int .i64 0),(.int .i64 0),(.bool false)]) 50)→
 aF ND (Addr.mk gv 0 none) [(.int .i64 SD),(.int .i64 SC),(.int .i64 Wo),(.int .i64 Wn),(.bool Wm)] fun NF=>
 ∃Pg:Int,NF.cell? ((Addr.mk gv 0 none).add 2)=some (.int .i64 Pg)∧
 aF NF ((Addr.mk gv 0 none).add 2) [(.int .i64 (i64.wrap (Pg+more)))] fun NI=>
 ∃Yq:Int,∃TQ:Int,∃Yp:Int,∃Yo:Int,∃Yn:Bool,(NI.cell? ((Addr.mk gv 0 none).add 0)=some (.int .i64 Yq)∧NI.cell? ((Addr.mk gv 0 none).add 1)=some (.int .i64 TQ)∧NI.cell? ((Addr.mk gv 0 none).add 2)=some (.int .i64 Yp)∧NI.cell? ((Addr.mk gv 0 none).add 3)=some (.int .i64 Yo)∧NI.cell? ((Addr.mk gv 0 none).add 4)=some (.bool Yn))∧
 Calls prog 115 #[(.pointer d),(.int .i64 space),(.agg #[(.int .i64 Yq),(.int .i64 TQ),(.int .i64 Yp),(.int .i64 Yo),(.bool Yn)])] NI fun e NM=>
 e= .returned (.tuple #[])∧
 R (.tuple #[]) NM
def IF:Ann:= .leaf
theorem DRefs_eq(d:Option Addr)(space:Int)(more:Int)(R:aB)(w:World):AL d space more R w=vcF prog aM [] Tryz.f117 IF [(.pointer d),(.int .i64 space),(.int .i64 more)] R none w:=by kernel_rfl
theorem AM(d:Option Addr)(space:Int)(more:Int) {R:aB} {w:World}(h:AL d space more R w):Calls prog 117 #[(.pointer d),(.int .i64 space),(.int .i64 more)] w fun e w'=>∃v,e= .returned v∧R v w':=
 ak Tryz.func117 aw aa ((DRefs_eq d space more R w).mp h)
def AI(d:Option Addr)(aj:Int)(t:Int)(space:Int)(R:aB)(w:World):Prop:=
 Calls prog 57 #[(.pointer d),(.int .i64 aj)] w fun e wv=>
 ∃Oz:Bool,e= .returned (.bool Oz)∧
 ∀x9:Bool,x9=(!Oz)→
 split x9 (
  R (.int .i64 5) wv) (
  ∃J:Bool→World→Prop,(
   split ((t:Int) !=2) (
    Calls prog 128 #[(.int .i64 t)] wv fun e ND=>
    ∃N6:Bool,e= .returned (.bool N6)∧
    ∀OS:Bool,OS=(!N6)→
    J OS ND) (
    ∀OS:Bool,OS=false→
    J OS wv))∧∀(Pw:Nat→Value)(OS:Bool),∀ND,J OS ND→
  split OS (
   R (.int .i64 124) ND) (
   ∃J1:Bool→World→Prop,(
    Calls prog 116 #[(.pointer d),(.int .i64 space)] ND fun e NF=>
    ∃Ra:Bool,e= .returned (.bool Ra)∧
    split (!Ra) (
     ∀N9:Bool,N9=true→
     J1 N9 NF) (
     Calls prog 58 #[(.pointer d),(.int .i64 space)] NF fun e NI=>
     ∃aaN:Int,∃aaM:Int,∃X4:Int,∃aaL:Int,∃aaK:Bool,e= .returned (.agg #[(.int .i64 aaN),(.int .i64 aaM),(.int .i64 X4),(.int .i64 aaL),(.bool aaK)])∧
     ∀N9:Bool,N9=(decide ((X4:Int)≥63))→
     J1 N9 NI))∧∀(NU:Nat→Value)(N9:Bool),∀NF,J1 N9 NF→
   split N9 (
    R (.int .i64 122) NF) (
    Calls prog 58 #[(.pointer d),(.int .i64 aj)] NF fun e NI=>
    ∃XL:Int,∃aaF:Int,∃aaE:Int,∃aaD:Int,∃aaC:Bool,e= .returned (.agg #[(.int .i64 XL),(.int .i64 aaF),(.int .i64 aaE),(.int .i64 aaD),(.bool aaC)])∧
    ∀XV:Bool,XV=((XL:Int) !=0)→
    split XV (
     R (.int .i64 120) NI) (
     Calls prog 115 #[(.pointer d),(.int .i64 aj),(.agg #[(.int .i64 t),(.int .i64 space),(.int .i64 0),(.int .i64 0),(.bool false)])] NI fun e NM=>
     e= .returned (.tuple #[])∧
     Calls prog 117 #[(.pointer d),(.int .i64 space),(.int .i64 1)] NM fun e NZ=>
     e= .returned (.tuple #[])∧
     R (.int .i64 0) NZ))))
def IE:Ann:=(.node none .leaf (.node none (.node none (.node none .leaf (.node none .leaf (.node none (.node (some ⟨[(14,.one (.bool))],[14,15,16,17,18,19,20,21]⟩) .leaf .leaf) (.node none .leaf (.node none (.node (some ⟨[(22,.one (.bool))],[22,23,24,25,26,27,28,29,30,31,32,33]⟩) .leaf .leaf) .leaf))))) .leaf) .leaf))
theorem DTake_eq(d:Option Addr)(aj:Int)(t:Int)(space:Int)(R:aB)(w:World):AI d aj t space R w=vcF prog aM [9,14,22,34] Tryz.f64 IE [(.pointer d),(.int .i64 aj),(.int .i64 t),(.int .i64 space)] R none w:=by kernel_rfl
theorem AJ(d:Option Addr)(aj:Int)(t:Int)(space:Int) {R:aB} {w:World}(h:AI d aj t space R w):Calls prog 64 #[(.pointer d),(.int .i64 aj),(.int .i64 t),(.int .i64 space)] w fun e w'=>∃v,e= .returned v∧R v w':=
 ak Tryz.func64 aw aa ((DTake_eq d aj t space R w).mp h)
def pq(d:Option Addr)(space:Int)(s:Int)(R:aB)(w:World):Prop:=
 Calls prog 57 #[(.pointer d),(.int .i64 space)] w fun e wv=>
 ∃NT:Bool,e= .returned (.bool NT)∧
 split (!NT) (
  R (.int .i64 5) wv) (
  Calls prog 58 #[(.pointer d),(.int .i64 space)] wv fun e ND=>
  ∃Rc:Int,∃QS:Int,∃SY:Int,∃SX:Int,∃SW:Bool,e= .returned (.agg #[(.int .i64 Rc),(.int .i64 QS),(.int .i64 SY),(.int .i64 SX),(.bool SW)])∧
  ∀(gv:Nat)(NF:World),gv=ND.heap.size→NF=ND.alloc (.cells (#[(.int .i64 0),(.int .i64 0),(.int .i64 0),(.int .i64 0),(.bool false)]) 50)→
  aF NF (Addr.mk gv 0 none) [(.int .i64 Rc),(.int .i64 QS),(.int .i64 SY),(.int .i64 SX),(.bool SW)] fun NI=>
  ∃OY:Int,NI.cell? ((Addr.mk gv 0 none).add 0)=some (.int .i64 OY)∧
  ∀Oi:Bool,Oi=((OY:Int) !=1)→
  split Oi (
   R (.int .i64 124) NI) (
   ∃J:Bool→World→Prop,(
    split ((s:Int) !=3) (
     ∃RA:Int,NI.cell? ((Addr.mk gv 0 none).add 3)=some (.int .i64 RA)∧
     split ((RA:Int) !=1) (
      ∀N6:Bool,N6=true→
      J N6 NI) (
      ∀N6:Bool,N6=((s:Int) !=2)→
      J N6 NI)) (
     ∀N6:Bool,N6=false→
     J N6 NI))∧∀(NU:Nat→Value)(N6:Bool),∀NM,J N6 NM→
   split N6 (
    R (.int .i64 3) NM) (
    aF NM ((Addr.mk gv 0 none).add 3) [(.int .i64 s)] fun NZ=>
    ∃XR:Int,∃XQ:Int,∃XP:Int,∃XO:Int,∃XN:Bool,(NZ.cell? ((Addr.mk gv 0 none).add 0)=some (.int .i64 XR)∧NZ.cell? ((Addr.mk gv 0 none).add 1)=some (.int .i64 XQ)∧NZ.cell? ((Addr.mk gv 0 none).add 2)=some (.int .i64 XP)∧NZ.cell? ((Addr.mk gv 0 none).add 3)=some (.int .i64 XO)∧NZ.cell? ((Addr.mk gv 0 none).add 4)=some (.bool XN))∧
    Calls prog 115 #[(.pointer d),(.int .i64 space),(.agg #[(.int .i64 XR),(.int .i64 XQ),(.int .i64 XP),(.int .i64 XO),(.bool XN)])] NZ fun e Ol=>
    e= .returned (.tuple #[])∧
    R (.int .i64 0) Ol)))
def xt:Ann:=(.node none .leaf (.node none .leaf (.node none .leaf (.node none (.node none (.node none .leaf (.node none .leaf (.node none (.node (some ⟨[(19,.one (.bool))],[19,20,21,22,23,24,25,26,27,28,29,30]⟩) .leaf .leaf) .leaf))) .leaf) .leaf))))
theorem DSetState_eq(d:Option Addr)(space:Int)(s:Int)(R:aB)(w:World):pq d space s R w=vcF prog aM [15,19] Tryz.f43 xt [(.pointer d),(.int .i64 space),(.int .i64 s)] R none w:=by kernel_rfl
theorem rh(d:Option Addr)(space:Int)(s:Int) {R:aB} {w:World}(h:pq d space s R w):Calls prog 43 #[(.pointer d),(.int .i64 space),(.int .i64 s)] w fun e w'=>∃v,e= .returned v∧R v w':=
 ak Tryz.func43 aw aa ((DSetState_eq d space s R w).mp h)
def AR(d:Option Addr)(aj:Int)(R:aB)(w:World):Prop:=
 Calls prog 57 #[(.pointer d),(.int .i64 aj)] w fun e wv=>
 ∃x8:Bool,e= .returned (.bool x8)∧
 split (!x8) (
  R (.int .i64 5) wv) (
  Calls prog 58 #[(.pointer d),(.int .i64 aj)] wv fun e ND=>
  ∃Rh:Int,∃QT:Int,∃YS:Int,∃YR:Int,∃YQ:Bool,e= .returned (.agg #[(.int .i64 Rh),(.int .i64 QT),(.int .i64 YS),(.int .i64 YR),(.bool YQ)])∧
  ∀(gv:Nat)(NF:World),gv=ND.heap.size→NF=ND.alloc (.cells (#[(.int .i64 0),(.int .i64 0),(.int .i64 0),(.int .i64 0),(.bool false)]) 50)→
  aF NF (Addr.mk gv 0 none) [(.int .i64 Rh),(.int .i64 QT),(.int .i64 YS),(.int .i64 YR),(.bool YQ)] fun NI=>
  ∃Oi:Int,NI.cell? ((Addr.mk gv 0 none).add 0)=some (.int .i64 Oi)∧
  ∀PT:Bool,PT=((Oi:Int)==0)→
  split PT (
   R (.int .i64 121) NI) (
   ∃J:Bool→World→Prop,(
    ∃N6:Int,NI.cell? ((Addr.mk gv 0 none).add 0)=some (.int .i64 N6)∧
    split ((N6:Int)==1) (
     ∃PA:Int,NI.cell? ((Addr.mk gv 0 none).add 2)=some (.int .i64 PA)∧
     ∀OY:Bool,OY=(decide ((PA:Int)>0))→
     J OY NI) (
     ∀OY:Bool,OY=false→
     J OY NI))∧∀(NU:Nat→Value)(OY:Bool),∀NM,J OY NM→
   split OY (
    R (.int .i64 123) NM) (
    Calls prog 115 #[(.pointer d),(.int .i64 aj),(.agg #[(.int .i64 0),(.int .i64 0),(.int .i64 0),(.int .i64 0),(.bool false)])] NM fun e NZ=>
    e= .returned (.tuple #[])∧
    ∃J1:Bool→World→Prop,(
     ∃SJ:Int,NZ.cell? ((Addr.mk gv 0 none).add 0)=some (.int .i64 SJ)∧
     split ((SJ:Int) !=1) (
      ∃Pr:Int,NZ.cell? ((Addr.mk gv 0 none).add 1)=some (.int .i64 Pr)∧
      Calls prog 116 #[(.pointer d),(.int .i64 Pr)] NZ fun e Ol=>
      ∃XM:Bool,e= .returned (.bool XM)∧
      split XM (
       ∃Q9:Int,Ol.cell? ((Addr.mk gv 0 none).add 1)=some (.int .i64 Q9)∧
       Calls prog 58 #[(.pointer d),(.int .i64 Q9)] Ol fun e N8=>
       ∃aaB:Int,∃aaA:Int,∃Xk:Int,∃aaz:Int,∃aay:Bool,e= .returned (.agg #[(.int .i64 aaB),(.int .i64 aaA),(.int .i64 Xk),(.int .i64 aaz),(.bool aay)])∧
       J1 (decide ((Xk:Int)>0)) N8) (
       J1 false Ol)) (
      J1 false NZ))∧∀(OJ:Nat→Value)(Xj:Bool),∀Ol,J1 Xj Ol→
    split Xj (
     ∃x49:Int,Ol.cell? ((Addr.mk gv 0 none).add 1)=some (.int .i64 x49)∧
     Calls prog 117 #[(.pointer d),(.int .i64 x49),(.int .i64 (-1))] Ol fun e N8=>
     e= .returned (.tuple #[])∧
     ∃b:Nat→Nat→Prop,
     aA d fun Uu=>
     b 3 ((Uu.add 0).block)∧
     ∃SH:Option Addr,N8.drew.cell? (Uu.add 0)=some (.pointer SH)∧
     Calls prog 78 #[(.int .i64 aj)] N8.drew fun e N5=>
     ∃Q8:Bool,∃Q7:Int,e= .returned (.agg #[(.bool Q8),(.int .i64 Q7)])∧
     Kept (cg b [0,1,2,3]) N8.drew N5∧∃b1:Nat→Nat→Prop,(∀i k,b i k→b1 i k)∧
     Calls prog 77 #[(.pointer SH),(.agg #[(.bool Q8),(.int .i64 Q7)])] N5 fun e Ph=>
     ∃WG:Int,e= .returned (.int .i64 WG)∧
     Kept (cg b1 [0]) N5 Ph∧∃b2:Nat→Nat→Prop,(∀i k,b1 i k→b2 i k)∧
     R (.int .i64 WG) Ph) (
     ∃b:Nat→Nat→Prop,
     aA d fun Uu=>
     b 3 ((Uu.add 0).block)∧
     ∃SH:Option Addr,Ol.drew.cell? (Uu.add 0)=some (.pointer SH)∧
     Calls prog 78 #[(.int .i64 aj)] Ol.drew fun e N8=>
     ∃Q8:Bool,∃Q7:Int,e= .returned (.agg #[(.bool Q8),(.int .i64 Q7)])∧
     Kept (cg b [0,1,2,3]) Ol.drew N8∧∃b1:Nat→Nat→Prop,(∀i k,b i k→b1 i k)∧
     Calls prog 77 #[(.pointer SH),(.agg #[(.bool Q8),(.int .i64 Q7)])] N8 fun e N5=>
     ∃WG:Int,e= .returned (.int .i64 WG)∧
     Kept (cg b1 [0]) N8 N5∧∃b2:Nat→Nat→Prop,(∀i k,b1 i k→b2 i k)∧
     R (.int .i64 WG) N5))))
def IK:Ann:=(.node none .leaf (.node none .leaf (.node none .leaf (.node none (.node none (.node none .leaf (.node none .leaf (.node none (.node (some ⟨[(17,.one (.bool))],[17,18,19,20,21,22,23,24,25]⟩) .leaf .leaf) .leaf))) .leaf) (.node none .leaf (.node none (.node none (.node (some ⟨[(46,.one (.bool))],[30,31,32,33,34,35,36,37,38,39,40,41,42,43,44,45,46]⟩) .leaf .leaf) .leaf) .leaf))))))
theorem DGive_eq(d:Option Addr)(aj:Int)(R:aB)(w:World):AR d aj R w=vcF prog aM [13,17] Tryz.f45 IK [(.pointer d),(.int .i64 aj)] R none w:=by kernel_rfl
theorem AS(d:Option Addr)(aj:Int) {R:aB} {w:World}(h:AR d aj R w):Calls prog 45 #[(.pointer d),(.int .i64 aj)] w fun e w'=>∃v,e= .returned v∧R v w':=
 ak Tryz.func45 aw aa ((DGive_eq d aj R w).mp h)
def nb(d:Option Addr)(space:Int)(first:Int)(R:aB)(w:World):Prop:=
 ∃J:Bool→World→Prop,(
  Calls prog 57 #[(.pointer d),(.int .i64 space)] w fun e wv=>
  ∃NT:Bool,e= .returned (.bool NT)∧
  split (!NT) (
   ∀x7:Bool,x7=true→
   J x7 wv) (
   Calls prog 57 #[(.pointer d),(.int .i64 first)] wv fun e ND=>
   ∃Oi:Bool,e= .returned (.bool Oi)∧
   ∀x7:Bool,x7=(!Oi)→
   J x7 ND))∧∀(Pw:Nat→Value)(x7:Bool),∀wv,J x7 wv→
 split x7 (
  R (.int .i64 5) wv) (
  ∀Q2:Bool,Q2=((space:Int)==first)→
  split Q2 (
   R (.int .i64 1) wv) (
   ∃J1:Bool→World→Prop,(
    Calls prog 58 #[(.pointer d),(.int .i64 space)] wv fun e ND=>
    ∃SK:Int,∃TP:Int,∃TO:Int,∃TN:Int,∃TM:Bool,e= .returned (.agg #[(.int .i64 SK),(.int .i64 TP),(.int .i64 TO),(.int .i64 TN),(.bool TM)])∧
    split ((SK:Int) !=0) (
     ∀N9:Bool,N9=true→
     J1 N9 ND) (
     Calls prog 58 #[(.pointer d),(.int .i64 first)] ND fun e NF=>
     ∃XZ:Int,∃aaJ:Int,∃aaI:Int,∃aaH:Int,∃aaG:Bool,e= .returned (.agg #[(.int .i64 XZ),(.int .i64 aaJ),(.int .i64 aaI),(.int .i64 aaH),(.bool aaG)])∧
     ∀N9:Bool,N9=((XZ:Int) !=0)→
     J1 N9 NF))∧∀(NU:Nat→Value)(N9:Bool),∀ND,J1 N9 ND→
   split N9 (
    R (.int .i64 120) ND) (
    aA d fun p37=>
    ∃OF:Int,ND.cell? (p37.add 1)=some (.int .i64 OF)∧
    ∀x35:Bool,x35=(decide ((OF:Int)≥64))→
    split x35 (
     R (.int .i64 240) ND) (
     Calls prog 115 #[(.pointer d),(.int .i64 space),(.agg #[(.int .i64 1),(.int .i64 space),(.int .i64 1),(.int .i64 1),(.bool false)])] ND fun e NF=>
     e= .returned (.tuple #[])∧
     Calls prog 115 #[(.pointer d),(.int .i64 first),(.agg #[(.int .i64 3),(.int .i64 space),(.int .i64 0),(.int .i64 0),(.bool false)])] NF fun e NI=>
     e= .returned (.tuple #[])∧
     ∃b:Nat→Nat→Prop,
     aA d fun Uu=>
     b 3 ((Uu.add 0).block)∧
     ∃SH:Option Addr,NI.drew.cell? (Uu.add 0)=some (.pointer SH)∧
     Calls prog 78 #[(.int .i64 space)] NI.drew fun e NM=>
     ∃Q8:Bool,∃Q7:Int,e= .returned (.agg #[(.bool Q8),(.int .i64 Q7)])∧
     Kept (cg b [0,1,2,3,6,7]) NI.drew NM∧∃b1:Nat→Nat→Prop,(∀i k,b i k→b1 i k)∧
     Calls prog 42 #[(.pointer SH),(.agg #[(.bool Q8),(.int .i64 Q7)]),(.int .i64 0),(.int .u32 (u32.wrap first))] NM fun e NZ=>
     ∃x59:Int,e= .returned (.int .i64 x59)∧
     Kept (cg b1 [0]) NM NZ∧∃b2:Nat→Nat→Prop,(∀i k,b1 i k→b2 i k)∧
     ∃b3:Nat→Nat→Prop,
     aA d fun p61=>
     b3 3 ((p61.add 0).block)∧
     ∃Qx:Option Addr,NZ.drew.cell? (p61.add 0)=some (.pointer Qx)∧
     aA d fun p67=>
     b3 9 ((p67.add 1).block)∧
     ∃Ww:Int,NZ.drew.cell? (p67.add 1)=some (.int .i64 Ww)∧
     Calls prog 78 #[(.int .i64 space)] NZ.drew fun e Ol=>
     ∃WB:Bool,∃WA:Int,e= .returned (.agg #[(.bool WB),(.int .i64 WA)])∧
     Kept (cg b3 [0,1,2,3,6,7,8,9,10]) NZ.drew Ol∧∃b4:Nat→Nat→Prop,(∀i k,b3 i k→b4 i k)∧
     Calls prog 42 #[(.pointer Qx),(.agg #[(.bool WB),(.int .i64 WA)]),(.int .i64 1),(.int .u32 (u32.wrap Ww))] Ol fun e N8=>
     ∃U2:Int,e= .returned (.int .i64 U2)∧
     Kept (cg b4 [0,6,7]) Ol N8∧∃b5:Nat→Nat→Prop,(∀i k,b4 i k→b5 i k)∧
     ∃b6:Nat→Nat→Prop,
     aA d fun p73=>
     b6 3 ((p73.add 0).block)∧
     ∃x75:Option Addr,N8.drew.cell? (p73.add 0)=some (.pointer x75)∧
     Calls prog 78 #[(.int .i64 space)] N8.drew fun e N5=>
     ∃Wv:Bool,∃Wu:Int,e= .returned (.agg #[(.bool Wv),(.int .i64 Wu)])∧
     Kept (cg b6 [0,1,2,3]) N8.drew N5∧∃b7:Nat→Nat→Prop,(∀i k,b6 i k→b7 i k)∧
     Calls prog 42 #[(.pointer x75),(.agg #[(.bool Wv),(.int .i64 Wu)]),(.int .i64 2),(.int .u32 0)] N5 fun e Ph=>
     ∃x78:Int,e= .returned (.int .i64 x78)∧
     Kept (cg b7 [0]) N5 Ph∧∃b8:Nat→Nat→Prop,(∀i k,b7 i k→b8 i k)∧
     aA d fun p80=>
     ∃Ws:Int,Ph.cell? (p80.add 1)=some (.int .i64 Ws)∧
     aA d fun p84=>
     aF Ph (p84.add 1) [(.int .i64 (i64.wrap (Ws+1)))] fun Ql=>
     R (.int .i64 0) Ql))))
def uo:Ann:=(.node none .leaf (.node none (.node none (.node none (.node (some ⟨[(7,.one (.bool))],[7,8,9,10,11,12,13,14,15,16,17]⟩) .leaf .leaf) (.node none .leaf (.node none .leaf (.node none .leaf (.node none (.node (some ⟨[(22,.one (.bool))],[22,23,24,25,26,27,28,29,30,31,32,33,34]⟩) .leaf .leaf) .leaf))))) .leaf) .leaf))
theorem DTakeSpace_eq(d:Option Addr)(space:Int)(first:Int)(R:aB)(w:World):nb d space first R w=vcF prog aM [7,18,22,35] Tryz.f60 uo [(.pointer d),(.int .i64 space),(.int .i64 first)] R none w:=by kernel_rfl
theorem qk(d:Option Addr)(space:Int)(first:Int) {R:aB} {w:World}(h:nb d space first R w):Calls prog 60 #[(.pointer d),(.int .i64 space),(.int .i64 first)] w fun e w'=>∃v,e= .returned v∧R v w':=
 ak Tryz.func60 aw aa ((DTakeSpace_eq d space first R w).mp h)
end
section
set_option maxRecDepth 100000
end
end Go.Proofs.YtinhphjfnedhgaaGreatDoor
namespace Go.Proofs.YtinhphjfnedhgaaGreatDoor
open Go.Proofs.Tryz (prog)
open Go Go.RowKit V
open Go.IntKind (i64 u32 u64)
section
namespace Mem
def idx(m:Mem)(s:Bool)(p:Nat):Nat:=match s with
 | true=>p
 | false=>m.S+p
def word(m:Mem)(i o:Nat):Int:=if i<m.S then m.pg true i o else m.pg false (i - m.S) o
theorem G1(m:Mem)(p:Nat):m.idx false p=m.S+p:=rfl
theorem G0(m:Mem)(p:Nat):m.idx true p=p:=rfl
theorem MU(m:Mem):m.cnt false=m.I:=rfl
theorem KW(m:Mem):m.cnt true=m.S:=rfl
theorem CG(m:Mem) {i:Nat}(h:i<m.S)(o:Nat):m.word i o=m.pg true i o:=if_pos h
theorem CH(m:Mem) {i:Nat}(h:¬i<m.S)(o:Nat):m.word i o=m.pg false (i - m.S) o:=if_neg h
theorem Lv(m:Mem) {s:Bool} {p:Nat}(hp:p<m.cnt s):m.idx s p<m.S+m.I:=by
 cases s
 ·rw [MU]at hp;rw [G1];omega
 ·rw [KW]at hp;rw [G0];omega
theorem uz(m:Mem) {s:Bool} {p:Nat}(hp:p<m.cnt s)(f:Nat→Int) {i:Nat}(o:Nat):(m.fill s p f).word i o=if i=m.idx s p then f o else m.word i o:=by
 by_cases h:i<m.S
 ·rw [CG _ (show i<(m.fill s p f).S from h),CG m h]
  cases s
  ·rw [G1,if_neg (by omega)];simp [fill]
  ·rw [G0];simp [fill]
 ·rw [CH _ (show ¬i<(m.fill s p f).S from h),CH m h]
  show(m.fill s p f).pg false (i - m.S) o=_
  cases s
  ·rw [G1]
   by_cases h2:i=m.S+p
   ·rw [if_pos h2];simp [fill,h2]
   ·rw [if_neg h2];simp only [fill];rw [if_neg (by rintro⟨_,h3⟩;omega)]
  ·rw [G0,if_neg (by rw [KW]at hp;omega)];simp [fill]
end Mem
structure kN where
 g:Nat
 a:Nat
 c:Nat
 n:Nat
 pg:Nat→Option (Nat×Nat)
def Ml:Option (Nat×Nat)→Value
 | none=>.slice none 0 0
 | some (b,c)=>.slice (some (Addr.mk b 0 none)) 1024 c
def kN.X(L:kN):Nat→Prop:=fun k=>k=L.g∨k=L.a∨∃i c,i<L.n∧L.pg i=some (k,c)
def PgB(w:World)(b:Nat)(f:Nat→Int):Prop:=∃T cs,Blk w b cs T∧1024≤cs.size∧∀o,o<1024→cs[o]? =some (.int .u32 (f o))
structure gh(w:World)(g:Nat)(L:kN)(m:Mem):Prop where
 gq:L.g=g
 n:L.n=m.S+m.I
 hd:∃T:TypeId×Int,Blk w L.g #[.slice (some (Addr.mk L.a 0 none)) L.n L.c,.int .i64 m.S,.int .i64 T.2] T.1
 row:∃T cs,Blk w L.a cs T∧L.n≤cs.size∧∀i,i<L.n→cs[i]? =some (Ml (L.pg i))
 nil:∀i,i<L.n→L.pg i=none→∀o,m.word i o=0
 pgs:∀i b c,i<L.n→L.pg i=some (b,c)→PgB w b (m.word i)
 inj:∀i j b c c',i<L.n→j<L.n→L.pg i=some (b,c)→L.pg j=some (b,c')→i=j
 dis:L.a≠L.g∧∀i b c,i<L.n→L.pg i=some (b,c)→b≠L.g∧b≠L.a
 u32:∀s i o,0≤m.pg s i o∧m.pg s i o<4294967296
 dV:m.S≤64∧m.I≤64
section
variable {w w' w2:World} {g:Nat} {L:kN} {m:Mem} {Y:Nat→Prop}
theorem PgB.lt {b:Nat} {f:Nat→Int}(h:PgB w b f):b<w.heap.size:=by obtain⟨T,cs,hb,_⟩:=h;exact hb.lt
theorem PgB.ch {b:Nat} {f:Nat→Int}(h:PgB w b f)(hk:Ch Y w w')(hb:¬Y b):PgB w' b f:=by obtain⟨T,cs,hc,h2⟩:=h;exact⟨T,cs,hk.blk hc hb,h2⟩
theorem gh.lt(h:gh w g L m):∀k,L.X k→k<w.heap.size:=by
 rintro k (rfl | rfl | ⟨i,c,hi,hp⟩)
 ·obtain⟨T,hd⟩:=h.hd;exact hd.lt
 ·obtain⟨T,cs,hr,_⟩:=h.row;exact hr.lt
 ·exact(h.pgs i k c hi hp).lt
theorem gh.ch(h:gh w g L m)(hk:Ch Y w w')(hb:∀k,L.X k→¬Y k):gh w' g L m:=by
 refine⟨h.gq,h.n,?_,?_,h.nil,fun i b c hi hp=>(h.pgs i b c hi hp).ch hk (hb _ (.inr (.inr ⟨i,c,hi,hp⟩))),h.inj,h.dis,h.u32,h.dV⟩
 ·obtain⟨T,hd⟩:=h.hd;exact⟨T,hk.blk hd (hb _ (.inl rfl))⟩
 ·obtain⟨T,cs,hr,h2⟩:=h.row;exact⟨T,cs,hk.blk hr (hb _ (.inr (.inl rfl))),h2⟩
theorem gh.pu(h:gh w g L m)(hk:Pu w w'):gh w' g L m:=h.ch hk (by simp)
theorem gh.tick(h:gh w g L m) {x:Int} {T:TypeId}(hs:bG w L.g #[.slice (some (Addr.mk L.a 0 none)) L.n L.c,.int .i64 m.S,.int .i64 x] T w2):gh w2 g L m:=by
 refine⟨h.gq,h.n,⟨(T,x),hs.blk⟩,?_,h.nil,fun i b c hi hp=>(h.pgs i b c hi hp).ch hs.ch (h.dis.2 i b c hi hp).1,h.inj,h.dis,h.u32,h.dV⟩
 obtain⟨T',cs,hr,h2⟩:=h.row
 exact⟨T',cs,hs.old hr h.dis.1,h2⟩
def kN.put(L:kN)(i:Nat)(v:Option (Nat×Nat)):kN:= {L with pg:=fun j=>if j=i then v else L.pg j}
theorem gh.lay(h:gh w g L m) {s:Bool} {p:Nat}(hp:p<m.cnt s) {v:Option (Nat×Nat)} {f:Nat→Int}(hf:∀o,0≤f o∧f o<4294967296)
 (hv:v=none→∀o,f o=0)(hb:∀b c,v=some (b,c)→PgB w b f∧¬L.X b) {cs:Array Value} {T:TypeId}(hr:Blk w L.a cs T)(hs:bG w L.a (setAt cs (m.idx s p) [Ml v]) T w2):
 gh w2 g (L.put (m.idx s p) v) (m.fill s p f):=by
 have hi:=m.Lv hp
 obtain⟨T',cs',NV,Of,h2⟩:=h.row
 obtain⟨rfl,rfl⟩:=hr.inj NV
 have hn:=h.n
 refine⟨h.gq,h.n,?_,⟨T,_,hs.blk,by rw [gk];exact Of,fun i Ov=>?_⟩,fun i Ov hq o=>?_,fun i b c Ov hq=>?_,fun i j b c c' Ov Ro h3 h4=>?_,⟨h.dis.1,fun i b c Ov hq=>?_⟩,fun s' i o=>?_,h.dV⟩
 ·obtain⟨T'',hd⟩:=h.hd;exact⟨T'',hs.old hd h.dis.1.symm⟩
 ·rw [fB _ _ _ _ (by simp;omega)]
  simp only [kN.put,List.length_cons,List.length_nil]
  by_cases e:i=m.idx s p
  ·subst e;simp
  ·rw [if_neg (by omega),if_neg e];exact h2 i Ov
 ·rw [m.uz hp]
  simp only [kN.put]at hq
  split at hq
  ·rename_i e;rw [if_pos e];exact hv hq o
  ·rename_i e;rw [if_neg e];exact h.nil i Ov hq o
 ·have e0:(m.fill s p f).word i=if i=m.idx s p then f else m.word i:=by
   funext o;rw [m.uz hp];split<;>rfl
  rw [e0]
  simp only [kN.put]at hq
  split at hq
  ·rename_i e;rw [if_pos e];exact(hb b c hq).1.ch hs.ch fun e2=>(hb b c hq).2 (.inr (.inl e2))
  ·rename_i e;rw [if_neg e];exact(h.pgs i b c Ov hq).ch hs.ch (h.dis.2 i b c Ov hq).2
 ·simp only [kN.put]at h3 h4
  split at h3<;>split at h4
  ·omega
  ·exact absurd (.inr (.inr ⟨j,c',Ro,h4⟩)) (hb b c h3).2
  ·exact absurd (.inr (.inr ⟨i,c,Ov,h3⟩)) (hb b c' h4).2
  ·exact h.inj i j b c c' Ov Ro h3 h4
 ·simp only [kN.put]at hq
  split at hq
  ·have:=(hb b c hq).2
   exact⟨fun e=>this (.inl e),fun e=>this (.inr (.inl e))⟩
  ·exact h.dis.2 i b c Ov hq
 ·simp only [Mem.fill]
  split
  ·exact hf o
  ·exact h.u32 s' i o
end
end
section
set_option maxRecDepth 10000
set_option maxHeartbeats 1000000
end
section
section
variable {w:World} {g:Nat} {L:kN} {m:Mem}
def Nb(L L1:kN)(w:World):Prop:=∀k,L1.X k→L.X k∨w.heap.size≤k
theorem Nb.refl(L:kN)(w:World):Nb L L w:=fun _ h=>.inl h
end
end
end Go.Proofs.YtinhphjfnedhgaaGreatDoor
namespace Go.Proofs.YtinhphjfnedhgaaGreatDoor
open Go.Proofs.Tryz (prog)
open Go Go.RowKit V
open Go.IntKind (i64 u32 u64)
open Enc (enc)
section
instance:Enc Ent:=⟨fun e=>[.int .i64 e.typ,.int .i64 e.owner,.int .i64 e.refs,.int .i64 e.state,.bool e.bm],5,fun _=>rfl,by simp [Value.oneCell'],by omega⟩
structure tG where
 g:Nat
 e:Nat
 c:Nat
 M:kN
def tG.X(L:tG):Nat→Prop:=fun k=>k=L.g∨k=L.e∨L.M.X k
abbrev DB.aJ(D:DB):List Ent:=(List.range D.S).map D.ent
structure ln(w:World)(g:Nat)(L:tG)(D:DB):Prop where
 gq:L.g=g
 hd:∃T,Blk w L.g #[.pointer (some (Addr.mk L.M.g 0 none)),.slice (some (Addr.mk L.e 0 none)) D.S L.c,.int .i64 D.av] T
 es:Own w (fun k=>k=L.e) 96 (some (Addr.mk L.e 0 none)) D.S L.c D.aJ
 mem:gh w L.M.g L.M D.mem
 ok:D.Ok
 pos:1≤D.S
 dis:L.e≠L.g∧¬L.M.X L.g∧¬L.M.X L.e
section
variable {w w' w2:World} {g:Nat} {L:tG} {D:DB} {Y:Nat→Prop}
theorem ln.hd'(h:ln w g L D):∃T,Blk w g #[.pointer (some (Addr.mk L.M.g 0 none)),.slice (some (Addr.mk L.e 0 none)) D.S L.c,.int .i64 D.av] T:=h.gq▸h.hd
theorem ln.lt(h:ln w g L D):∀k,L.X k→k<w.heap.size:=by
 rintro k (rfl | rfl | hk)
 ·obtain⟨T,hd⟩:=h.hd;exact hd.lt
 ·obtain⟨g',hA,hZ,hl⟩:=h.es.lt h.pos
  have:g'=L.e:=hZ
  omega
 ·exact h.mem.lt k hk
theorem ln.ch(h:ln w g L D)(hk:Ch Y w w')(hb:∀k,L.X k→¬Y k):ln w' g L D:=by
 refine⟨h.gq,?_,h.es.ch hk fun k e=>hb k (.inr (.inl e)),h.mem.ch hk fun k hx=>hb k (.inr (.inr hx)),h.ok,h.pos,h.dis⟩
 obtain⟨T,hd⟩:=h.hd;exact⟨T,hk.blk hd (hb _ (.inl rfl))⟩
theorem ln.pu(h:ln w g L D)(hk:Pu w w'):ln w' g L D:=h.ch hk (by simp)
theorem ln.S64(h:ln w g L D):D.S≤64:=h.mem.dV.1
theorem tG.inM(L:tG)(k:Nat)(h:L.M.X k):L.X k:= .inr (.inr h)
theorem ln.aD(h:ln w g L D) {m:Mem} {M:kN}(hm:gh w' L.M.g M m)(hc:Ch L.M.X w w')(hg:∀k,M.X k→L.M.X k∨w.heap.size≤k)(hs:m.S=D.mem.S):ln w' g {L with M:=M} (D.aE m)∧(∀k,tG.X {L with M:=M} k→L.X k∨w.heap.size≤k):=by
 have hn:∀k,L.X k→¬L.M.X k→¬M.X k:=fun k hk hx hm'=>(hg k hm').elim hx fun h'=>absurd (h.lt k hk) (Nat.not_lt.2 h')
 have PS:DB.aJ (D.aE m)=D.aJ:=by show List.map D.ent (List.range m.S)=List.map D.ent (List.range D.mem.S);rw [hs]
 have hS:DB.S (D.aE m)=D.S:=hs
 refine⟨⟨h.gq,?_,?_,?_,⟨fun p hp=>?_,h.ok.av⟩,by rw [hS];exact h.pos,⟨h.dis.1,hn _ (.inl rfl) h.dis.2.1,hn _ (.inr (.inl rfl)) h.dis.2.2⟩⟩,?_⟩
 ·obtain⟨T,hd⟩:=h.hd
  refine⟨T,?_⟩
  rw [hS]
  show Blk w' L.g #[.pointer (some (Addr.mk M.g 0 none)),_,_] T
  rw [hm.gq]
  exact hc.blk hd h.dis.2.1
 ·rw [PS,hS]
  exact h.es.ch hc fun k e=>e▸h.dis.2.2
 ·show gh w' M.g M m
  have:=hm.gq
  rw [this];exact hm
 ·rw [hS]at hp ⊢
  exact h.ok.ent p hp
 ·rintro k (hk | hk | hk)
  ·exact .inl (.inl hk)
  ·exact .inl (.inr (.inl hk))
  ·exact(hg k hk).imp (fun h=>.inr (.inr h)) id
theorem ln.DY(h:ln w g L D) {x:Int} {T:TypeId}(hs:bG w g #[.pointer (some (Addr.mk L.M.g 0 none)),.slice (some (Addr.mk L.e 0 none)) D.S L.c,.int .i64 x] T w2)(hx:0≤x∧x≤64):ln w2 g L (D.gH x):=by
 have hg:=h.gq
 subst hg
 exact⟨rfl,⟨T,hs.blk⟩,h.es.ch hs.ch fun k e e2=>h.dis.1 (by rw [← e,e2]),h.mem.ch hs.ch fun k hk e=>h.dis.2.1 (e▸hk),⟨h.ok.ent,hx⟩,h.pos,h.dis⟩
theorem DB.yN(D:DB) {p:Int}(e:Ent):(D.set p e).aJ=D.aJ.set p.toNat e:=by
 apply List.ext_getElem?
 intro i
 show((List.range D.S).map (D.set p e).ent)[i]? =_
 rw [List.getElem?_set,List.getElem?_map,List.getElem?_map]
 by_cases hi:i<D.S
 ·rw [List.getElem?_range hi]
  simp only [DB.set,Option.map_some]
  by_cases h2:p.toNat=i
  ·rw [if_pos h2.symm,if_pos h2,if_pos (by simp;omega)]
  ·rw [if_neg (fun e=>h2 e.symm),if_neg h2]
 ·rw [List.getElem?_eq_none (by simp;omega)]
  simp;omega
end
end
section
structure Fl where
 rs:List U32
 pc:Int
 z:Bool
 n:Bool
 l:Bool
namespace Fl
def Ok(s:Fl):Prop:=s.rs.length=15
def Bj(s:Fl)(i:Nat)(x:U32):Fl:= {s with rs:=List.set s.rs i x}
def zero:Fl:=⟨[U32.mk 0,U32.mk 0,U32.mk 0,U32.mk 0,U32.mk 0,U32.mk 0,U32.mk 0,U32.mk 0,U32.mk 0,U32.mk 0,U32.mk 0,U32.mk 0,U32.mk 0,U32.mk 0,U32.mk 0],0,false,false,false⟩
def norm(s:Fl):Fl:= {s with rs:=aG (fun j=>U32.mk (s.rs.getD j (U32.mk 0)).v) (upN 0 15)}
theorem norm_eq {s:Fl}(h:s.Ok):s.norm=s:=by
 obtain⟨rs,pc,z,n,l⟩:=s
 match rs,h with
 | [_,_,_,_,_,_,_,_,_,_,_,_,_,_,_],_=>rfl
theorem Jj(s:Fl):s.norm.Ok:=rfl
def words(s:Fl):List Value:=aG (fun j=>.int .u32 (s.rs.getD j (U32.mk 0)).v) (upN 0 15)
def cells(s:Fl):List Value:=s.words++ [.int .u32 s.pc,.bool s.z,.bool s.n,.bool s.l]
theorem words_eq {s:Fl}(h:s.Ok):s.words=s.rs.map fun x=>.int .u32 x.v:=by
 obtain⟨rs,pc,z,n,l⟩:=s
 match rs,h with
 | [_,_,_,_,_,_,_,_,_,_,_,_,_,_,_],_=>rfl
theorem eT(s:Fl):s.words.length=15:=rfl
theorem Ey {s:Fl}(h:s.Ok) {i:Nat} {x:U32}(hx:s.rs[i]? =some x):s.cells[i]? =some (.int .u32 x.v):=by
 have hi:i<15:=by have:=(List.getElem?_eq_some_iff.1 hx).1;rw [h]at this;exact this
 rw [cells,List.getElem?_append_left (by rw [eT];exact hi),words_eq h,List.getElem?_map,hx];rfl
theorem Ex {s:Fl}(h:s.Ok) {i:Nat}(hi:i<15)(x:U32):(s.Bj i x).cells=s.cells.set i (.int .u32 x.v):=by
 have h2:(s.Bj i x).Ok:=by show(List.set s.rs i x).length=15;rw [List.length_set];exact h
 rw [cells,words_eq h2,cells,words_eq h,List.set_append_left _ _ (by rw [List.length_map,h];exact hi)]
 show(List.set s.rs i x).map _++_=_
 rw [List.map_set];rfl
end Fl
theorem sG {α β:Type} {f:α→β} {u:β}:∀ {l:List α},u∈aG f l→∃a,u=f a
 | a::l,h=>by
  rcases List.mem_cons.1 h with e | h
  ·exact⟨a,e⟩
  ·exact sG (l:=l) h
instance:Enc Fl:=⟨Fl.cells,19,fun _=>rfl,fun x u h=>by
 rcases List.mem_append.1 h with h | h
 ·obtain⟨a,rfl⟩:=sG h
  rfl
 ·simp only [List.mem_cons,List.not_mem_nil,or_false]at h
  rcases h with rfl | rfl | rfl | rfl<;>rfl,by omega⟩
structure FlP(w:World)(g:Nat)(s:Fl):Prop where
 len:s.Ok
 blk:∃T,Blk w g ⟨s.cells⟩ T
section
variable {w:World} {g:Nat} {s:Fl} {K:World→Prop}
theorem FlP.st(h:FlP w g s) {i:Nat} {v:Value} {s':Fl}(hi:i<19)(h2:s'.Ok)(hc:s'.cells=s.cells.set i v)(hK:∀w',FlP w' g s'→Ch (fun k=>k=g) w w'→K w'):aF w ⟨g,i,none⟩ [v] K:=by
 obtain⟨T,hb⟩:=h.blk
 exact iJ hb (by show i+1≤s.cells.length;show i+1≤19;omega) fun w2 st=>hK w2 ⟨h2,T,by rw [hc];exact st.blk.cast (by rw [uH];simp)⟩ st.ch
theorem FlP.li(h:FlP w g s) {X:Nat→Prop}(hX:∀k,k=g↔X k):Rd w X (some (Addr.mk g 0 none)) s.rs.length s.rs.length s.rs:=by
 obtain⟨T,hb⟩:=h.blk
 refine⟨rfl,Nat.le_refl _,fun k hk=>by rw [(hX k).2 hk];exact hb.lt,fun i x hi=>⟨_,rfl,(hX _).1 rfl,fun j hj=>?_⟩⟩
 have hj:j=0:=by have:Enc.size U32=1:=rfl;omega
 subst hj
 rw [bK,Nat.zero_add,show Enc.size U32=1 from rfl,Nat.mul_one]
 show w.cell? ⟨g,i,none⟩=some (.int .u32 x.v)
 exact hb.cell (by simpa using Fl.Ey h.len hi)
theorem FlP.stR(h:FlP w g s) {X:Nat→Prop}(hX:∀k,k=g↔X k) {i:Nat} {x y:U32}(hx:s.rs[i]? =some x) {o:Nat} {vs:List Value}(ho:o+vs.length≤1)(hy:enc y=(enc x).take o++vs++(enc x).drop (o+vs.length))(hK:∀w',(∀k,k=g↔X k)∧FlP w' g (s.Bj i y)→Ch X w w'→K w'):
 aF w (((Addr.mk g 0 none).add (i*1)).add o) vs K:=by
 have hi:i<15:=by have:=(List.getElem?_eq_some_iff.1 hx).1;rw [h.len]at this;exact this
 have hlen:(s.Bj i y).Ok:=by show(List.set s.rs i y).length=15;rw [List.length_set];exact h.len
 obtain⟨T,hb⟩:=h.blk
 rw [bK,Nat.zero_add,Nat.mul_one]
 have ex:enc x= [.int .u32 x.v]:=rfl
 have ey:enc y= [.int .u32 y.v]:=rfl
 rw [ex,ey]at hy
 have Of:∀j,j≤19→j≤(⟨s.cells⟩:Array Value).size:=fun j hj=>hj
 have same:x=y→s.Bj i y=s:=fun e=>by
  subst e
  have:s.rs.set i x=s.rs:=by
   apply List.ext_getElem?
   intro j
   rw [List.getElem?_set]
   split
   ·rename_i e;subst e;rw [if_pos (by rw [h.len];exact hi),hx]
   ·rfl
  unfold Fl.Bj;rw [this]
 match vs,o,ho with
 | [v],0,_=>
  simp at hy
  subst hy
  exact(FlP.st h (i:=i) (by omega) hlen (Fl.Ex h.len hi y) fun w' h' q=>hK w' ⟨hX,h'⟩ (q.mono fun k hk=>(hX k).1 hk))
 | [],0,_=>
  simp at hy
  refine⟨g,i,_,T,rfl,hb,by simpa using Of i (by omega),fun w2 st=>hK w2 ⟨hX,by rw [same (by cases x;cases y;simp at hy;rw [hy])];exact⟨h.len,T,st.blk⟩⟩ (st.ch.mono fun k hk=>(hX k).1 hk)⟩
 | [],1,_=>
  simp at hy
  refine⟨g,i+1,_,T,rfl,hb,by simpa using Of (i+1) (by omega),fun w2 st=>hK w2 ⟨hX,by rw [same (by cases x;cases y;simp at hy;rw [hy])];exact⟨h.len,T,st.blk⟩⟩ (st.ch.mono fun k hk=>(hX k).1 hk)⟩
theorem FlP.all(h:FlP w g s) {s':Fl}(h2:s'.Ok)(hK:∀w',FlP w' g s'→Ch (fun k=>k=g) w w'→K w'):aF w ⟨g,0,none⟩ s'.cells K:=by
 obtain⟨T,hb⟩:=h.blk
 exact gj hb rfl fun w2 st=>hK w2 ⟨h2,T,st.blk.cast (by simp)⟩ st.ch
end
theorem Fl.JA {s:Fl}(h:s.Ok)(he:bN ⟨s.cells⟩ ⟨Fl.zero.cells⟩=true):s=Fl.zero:=by
 obtain⟨rs,pc,z,n,l⟩:=s
 match rs,h with
 | [⟨a0⟩,⟨a1⟩,⟨a2⟩,⟨a3⟩,⟨a4⟩,⟨a5⟩,⟨a6⟩,⟨a7⟩,⟨a8⟩,⟨a9⟩,⟨b0⟩,⟨b1⟩,⟨b2⟩,⟨b3⟩,⟨b4⟩],_=>
  simp [bN,eqL,mT,Fl.cells,Fl.words,aG,upN,Fl.zero]at he ⊢
  simp [he]
def yU:List Value→Option Fl
 | [.int .u32 a0,.int .u32 a1,.int .u32 a2,.int .u32 a3,.int .u32 a4,.int .u32 a5,.int .u32 a6,.int .u32 a7,.int .u32 a8,.int .u32 a9,.int .u32 b0,.int .u32 b1,.int .u32 b2,.int .u32 b3,.int .u32 b4,.int .u32 pc,.bool z,.bool n,.bool l]=>
  some ⟨[⟨a0⟩,⟨a1⟩,⟨a2⟩,⟨a3⟩,⟨a4⟩,⟨a5⟩,⟨a6⟩,⟨a7⟩,⟨a8⟩,⟨a9⟩,⟨b0⟩,⟨b1⟩,⟨b2⟩,⟨b3⟩,⟨b4⟩],pc,z,n,l⟩
 | _=>none
theorem pX {cs:List Value} {s:Fl}(h:yU cs=some s):cs=s.cells∧s.Ok:=by
 unfold yU at h
 split at h
 ·injection h with h
  subst h
  exact⟨rfl,rfl⟩
 ·cases h
end
section
structure Pd where
 n:Nat
 av:Int
 ent:Nat→Ent
namespace Pd
def on(E:Pd)(m:Mem):DB:=⟨m,E.av,E.ent⟩
def aJ(E:Pd):List Ent:=(List.range E.n).map E.ent
def set(E:Pd)(i:Nat)(e:Ent):Pd:= {E with ent:=fun q=>if q=i then e else E.ent q}
def gH(E:Pd)(x:Int):Pd:= {E with av:=x}
structure Ok(E:Pd):Prop where
 ent:∀p,p<E.n→(E.ent p).ok=true∧(E.ent p).owner<E.n
 av:0≤E.av∧E.av≤64
 dV:E.n≤64
@[simp] theorem cN(E:Pd):E.aJ.length=E.n:=by simp [aJ]
theorem sZ {E:Pd} {i:Nat}(h:i<E.n):E.aJ[i]? =some (E.ent i):=by simp [aJ,h]
theorem cy {E:Pd} {p:Int} {d:Ent}(h:0≤p∧p<((E.n:Nat):Int)):E.aJ.getD p.toNat d=E.ent p.toNat:=by
 rw [List.getD_eq_getElem?_getD,sZ (by omega)];rfl
theorem yN(E:Pd)(i:Nat)(e:Ent):(E.set i e).aJ=E.aJ.set i e:=by
 apply List.ext_getElem?
 intro j
 show((List.range E.n).map (E.set i e).ent)[j]? =_
 rw [List.getElem?_set,List.getElem?_map]
 by_cases hj:j<E.n
 ·rw [List.getElem?_range hj]
  simp only [Option.map_some,set,cN,sZ hj]
  by_cases OH:i=j
  ·subst OH;simp [hj]
  ·rw [if_neg (fun h=>OH h.symm),if_neg OH]
 ·rw [List.getElem?_eq_none (by simp;omega),List.getElem?_eq_none (l:=E.aJ) (by simp;omega)]
  simp
  intro h1
  omega
end Pd
def DB.pd(D:DB):Pd:=⟨D.S,D.av,D.ent⟩
theorem Pd.cj(E:Pd)(m:Mem)(h:E.n=m.S):(E.on m).pd=E:=by
 cases E;simp only [on]at *;simp [DB.pd,DB.S,← h]
theorem Pd.fx(E:Pd)(m:Mem):(E.on m).mem=m:=rfl
theorem Pd.pP(E:Pd)(m:Mem)(h:E.n=m.S):(E.on m).S=E.n:=h.symm
theorem Pd.gm(E:Pd)(m:Mem)(p:Int)(h:E.n=m.S):(E.on m).has p=decide (0≤p∧p<((E.n:Nat):Int)):=by unfold DB.has;rw [pP E m h]
theorem Pd.ia(E:Pd)(m:Mem)(p:Int):(E.on m).at_ p=E.ent p.toNat:=rfl
theorem Pd.gl(E:Pd)(m:Mem)(p:Int)(e:Ent):(E.on m).set p e=(E.set p.toNat e).on m:=rfl
theorem Pd.lF(E:Pd)(m:Mem)(f:Mem→Mem):(E.on m).aD f=E.on (f m):=rfl
theorem Pd.Bs(E:Pd)(m m':Mem):(E.on m).aE m'=E.on m':=rfl
theorem Pd.GC(E:Pd)(m:Mem)(b:Int):(E.on m).gH b=(E.gH b).on m:=rfl
theorem Pd.IW(E:Pd)(b:Int):(E.gH b).n=E.n:=rfl
theorem Pd.pO(E:Pd)(m:Mem):(E.on m).av=E.av:=rfl
theorem Pd.jO(E:Pd)(i:Nat)(e:Ent):(E.set i e).n=E.n:=rfl
theorem Pd.eU(E:Pd)(i j:Nat)(e:Ent):(E.set i e).ent j=if j=i then e else E.ent j:=rfl
theorem Pd.Bi(E:Pd)(i:Nat)(e:Ent):(E.set i e).av=E.av:=rfl
structure PdP(w:World)(g a mg:Nat)(E:Pd):Prop where
 hd:∃T,Blk w g #[.pointer (some (Addr.mk mg 0 none)),.int .i64 E.av,.slice (some (Addr.mk a 0 none)) (2*E.n) (2*E.n)] T
 ws:∃T cs,Blk w a cs T∧cs.size=2*E.n∧∀p,p<E.n→cs[2*p]? =some (.int .u32 (E.ent p).w0)∧cs[2*p+1]? =some (.int .u32 (E.ent p).w1)
 ok:E.Ok
 ne:a≠g
structure oW(w:World)(g mg e c:Nat)(E:Pd):Prop where
 hd:∃T,Blk w g #[.pointer (some (Addr.mk mg 0 none)),.slice (some (Addr.mk e 0 none)) E.n c,.int .i64 E.av] T
 es:Own w (fun k=>k=e) 96 (some (Addr.mk e 0 none)) E.n c E.aJ
 ok:E.Ok
 ne:e≠g
 pos:1≤E.n
section
variable {w w':World} {g a mg e c:Nat} {E:Pd} {Y:Nat→Prop}
theorem PdP.ch(h:PdP w g a mg E)(q:Ch Y w w')(hg:¬Y g)(ha:¬Y a):PdP w' g a mg E:=by
 obtain⟨T,hd⟩:=h.hd
 obtain⟨T2,cs,hr,h2⟩:=h.ws
 exact⟨⟨T,q.blk hd hg⟩,⟨T2,cs,q.blk hr ha,h2⟩,h.ok,h.ne⟩
theorem oW.ch(h:oW w g mg e c E)(q:Ch Y w w')(hg:¬Y g)(he:¬Y e):oW w' g mg e c E:=by
 obtain⟨T,hd⟩:=h.hd
 exact⟨⟨T,q.blk hd hg⟩,h.es.ch q fun k hk=>hk▸he,h.ok,h.ne,h.pos⟩
theorem PdP.lt(h:PdP w g a mg E):g<w.heap.size∧a<w.heap.size:=by
 obtain⟨T,hd⟩:=h.hd
 obtain⟨T2,cs,hr,h2⟩:=h.ws
 exact⟨hd.lt,hr.lt⟩
theorem oW.lt(h:oW w g mg e c E):g<w.heap.size∧e<w.heap.size:=by
 obtain⟨T,hd⟩:=h.hd
 obtain⟨g',hA,hZ,hl⟩:=h.es.lt h.pos
 have:g'=e:=hZ
 exact⟨hd.lt,by omega⟩
theorem PdP.db {L:eQ} {m:Mem}(h:PdP w g a L.g E)(hm:cv w L m)(hn:E.n=m.S)(hx:¬L.X g∧¬L.X a):DBP w ⟨g,a,L⟩ (E.on m):=by
 have hS:(E.on m).S=E.n:=hn.symm
 refine⟨?_,?_,hm,⟨fun p hp=>?_,h.ok.av⟩,h.ne,hx.1,hx.2⟩
 ·show ∃T,Blk w g #[_,_,.slice _ (2*m.S) (2*m.S)] T
  rw [← hn];exact h.hd
 ·show ∃T cs,Blk w a cs T∧cs.size=2*m.S∧∀p,p<m.S→_
  rw [← hn];exact h.ws
 ·rw [hS]at hp ⊢
  exact h.ok.ent p hp
theorem DBP.pd {L:fh} {D:DB}(h:DBP w L D):PdP w L.g L.a L.M.g D.pd:=⟨h.hd,h.ws,⟨h.ok.ent,h.ok.av,h.mem.dV.1⟩,h.dis.1⟩
theorem PdP.DY(h:PdP w g a mg E) {x:Int}(hx:0≤x∧x≤64) {K:World→Prop}(hK:∀w',PdP w' g a mg (E.gH x)→Ch (fun k=>k=g) w w'→K w'):aF w ⟨g,1,none⟩ [.int .i64 x] K:=by
 obtain⟨T,hd⟩:=h.hd
 obtain⟨T2,cs,hr,h2⟩:=h.ws
 exact iJ hd (by simp) fun w2 s=>hK w2 ⟨⟨T,s.blk⟩,⟨T2,cs,s.old hr h.ne,h2⟩,⟨h.ok.ent,hx,h.ok.dV⟩,h.ne⟩ s.ch
theorem oW.DY(h:oW w g mg e c E) {x:Int}(hx:0≤x∧x≤64) {K:World→Prop}(hK:∀w',oW w' g mg e c (E.gH x)→Ch (fun k=>k=g) w w'→K w'):aF w ⟨g,2,none⟩ [.int .i64 x] K:=by
 obtain⟨T,hd⟩:=h.hd
 exact iJ hd (by simp) fun w2 s=>hK w2 ⟨⟨T,s.blk⟩,h.es.ch s.ch fun k hk e2=>h.ne (by rw [← hk,e2]),⟨h.ok.ent,hx,h.ok.dV⟩,h.ne,h.pos⟩ s.ch
theorem oW.Lb(h:oW w g mg e c E) {i:Nat} {x y:Ent}(hx:E.aJ[i]? =some x) {o:Nat} {vs:List Value}(ho:o+vs.length≤5)(hy:enc y=(enc x).take o++vs++(enc x).drop (o+vs.length))(Pv:y.ok=true∧y.owner<(E.n:Int)) {K:World→Prop}
 (hK:∀w',oW w' g mg e c (E.set i y)→Ch (fun k=>k=e) w w'→K w'):aF w (((Addr.mk e 0 none).add (i*5)).add o) vs K:=by
 have hi:i<E.n:=by
  have:=(List.getElem?_eq_some_iff.1 hx).1
  simpa using this
 obtain⟨T,hd⟩:=h.hd
 refine h.es.st rfl hi hx ho hy fun w2 Q4 hc=>hK w2 ⟨⟨T,hc.blk hd fun e=>h.ne e.symm⟩,by rw [Pd.yN];exact Q4,⟨fun p hp=>?_,h.ok.av,h.ok.dV⟩,h.ne,h.pos⟩ hc
 show(if p=i then y else E.ent p).ok=true∧_
 split
 ·rename_i V7
  refine⟨Pv.1,?_⟩
  show(if p=i then y else E.ent p).owner<_
  rw [if_pos V7];exact Pv.2
 ·rename_i V7
  refine⟨(h.ok.ent p hp).1,?_⟩
  show(if p=i then y else E.ent p).owner<_
  rw [if_neg V7];exact(h.ok.ent p hp).2
end
def Dg.sv(d:Dg):List Value:=aG (fun j=>.int .u32 (d.save.getD j 0)) (upN 0 26)
def Dg.svL(d:Dg):List U32:=aG (fun j=>U32.mk (d.save.getD j 0)) (upN 0 26)
def zN(w:World)(g:Nat)(s:List U32):Prop:=∃T,Blk w g (bI (s.map U32.v)) T
def yS:List Value→Option (List U32)
 | []=>some []
 | .int .u32 x::r=>(match yS r with
  | some l=>some (U32.mk x::l)
  | none=>none)
 | _=>none
theorem oE:∀ {cs:List Value} {l:List U32},yS cs=some l→cs=(l.map U32.v).map (Value.int .u32)
 | [],l,h=>by simp only [yS,Option.some.injEq]at h;subst h;rfl
 | v::r,l,h=>by
  unfold yS at h
  split at h
  ·rename_i e;cases e
  ·rename_i x r' e
   injection e with e1 e2
   subst e1;subst e2
   split at h
   ·rename_i l' hl
    injection h with h
    subst h
    rw [oE hl];rfl
   ·cases h
  ·cases h
theorem Le {w:World} {g mg e c:Nat} {E:Pd} {X:Nat→Prop}(hX:∀k,(k=g∨k=e)↔X k)(h:oW w g mg e c E):Rd w X (some (Addr.mk e 0 none)) E.aJ.length c E.aJ:=by
 rw [Pd.cN]
 exact h.es.rd.mono (fun k hk=>(hX k).1 (.inr hk.1)) fun k hk=>by rcases(hX k).2 hk with rfl | rfl;exact h.lt.1;exact h.lt.2
theorem Lf {w:World} {g mg e c:Nat} {E:Pd}(h:oW w g mg e c E):w.cell? ⟨g,0,none⟩=some (.pointer (some ⟨mg,0,none⟩))∧w.cell? ⟨g,1,none⟩=some (.slice (some ⟨e,0,none⟩) E.aJ.length c)∧w.cell? ⟨g,2,none⟩=some (.int .i64 E.av):=by
 obtain⟨T,hd⟩:=h.hd
 rw [Pd.cN]
 exact⟨hd.cell rfl,hd.cell rfl,hd.cell rfl⟩
theorem Mq {w:World} {g a mg:Nat} {E:Pd}(h:PdP w g a mg E):w.cell? ⟨g,0,none⟩=some (.pointer (some ⟨mg,0,none⟩))∧w.cell? ⟨g,1,none⟩=some (.int .i64 E.av):=by
 obtain⟨T,hd⟩:=h.hd
 exact⟨hd.cell rfl,hd.cell rfl⟩
theorem CQ {w:World} {g:Nat} {s:List U32} {X:Nat→Prop}(hX:∀k,k=g↔X k)(h:zN w g s):Rd w X (some (Addr.mk g 0 none)) s.length s.length s:=by
 obtain⟨T,hb⟩:=h
 refine⟨rfl,Nat.le_refl _,fun k hk=>by rw [(hX k).2 hk];exact hb.lt,fun i x hi=>⟨_,rfl,(hX _).1 rfl,fun j hj=>?_⟩⟩
 have hj:j=0:=by have:Enc.size U32=1:=rfl;omega
 subst hj
 have hl:i<s.length:=(List.getElem?_eq_some_iff.1 hi).1
 rw [bK,Nat.zero_add,show Enc.size U32=1 from rfl,Nat.mul_one]
 show w.cell? ⟨g,i,none⟩=some (.int .u32 x.v)
 refine hb.cell ?_
 rw [eG (by simpa using hl),List.getD_eq_getElem?_getD,List.getElem?_map,hi];rfl
theorem I7 {w:World} {g i:Nat} {s:List U32} {X:Nat→Prop}(hX:∀k,k=g↔X k)(h:zN w g s) {x y:U32}(hx:s[i]? =some x) {o:Nat} {vs:List Value}(ho:o+vs.length≤1)(hy:enc y=(enc x).take o++vs++(enc x).drop (o+vs.length)) {K:World→Prop}(hK:∀w',(∀k,k=g↔X k)∧zN w' g (s.set i y)→Ch X w w'→K w'):
 aF w (((Addr.mk g 0 none).add (i*1)).add o) vs K:=by
 obtain⟨T,hb⟩:=h
 have hl:i<s.length:=(List.getElem?_eq_some_iff.1 hx).1
 have hc:∀w2,bG w g (bI ((s.set i y).map U32.v)) T w2→K w2:=fun w2 st=>hK w2 ⟨hX,T,st.blk⟩ (st.ch.mono fun k hk=>(hX k).1 hk)
 rw [bK,Nat.zero_add,Nat.mul_one]
 have ex:enc x= [.int .u32 x.v]:=rfl
 have ey:enc y= [.int .u32 y.v]:=rfl
 rw [ex,ey]at hy
 match vs,o,ho with
 | [v],0,_=>
  simp at hy
  subst hy
  refine⟨g,i,_,T,rfl,hb,by simp;omega,fun w2 st=>hc w2 ?_⟩
  rw [List.map_set,← sr];exact st
 | [],0,_=>
  simp at hy
  refine⟨g,i,_,T,rfl,hb,by simp;omega,fun w2 st=>hc w2 ?_⟩
  have:s.set i y=s:=by
   have:y=x:=by cases x;cases y;simp at hy;rw [hy]
   rw [this];exact List.ext_getElem? fun j=>by rw [List.getElem?_set];split;(rename_i e;subst e;(try rw [if_pos hl]);rw [hx]);rfl
  rw [this];exact st
 | [],1,_=>
  simp at hy
  refine⟨g,i+1,_,T,rfl,hb,by simp;omega,fun w2 st=>hc w2 ?_⟩
  have:s.set i y=s:=by
   have:y=x:=by cases x;cases y;simp at hy;rw [hy]
   rw [this];exact List.ext_getElem? fun j=>by rw [List.getElem?_set];split;(rename_i e;subst e;(try rw [if_pos hl]);rw [hx]);rfl
  rw [this];exact st
theorem I6 {w:World} {g n:Nat} {s:List U32} {X:Nat→Prop}(hX:∀k,k=g↔X k)(h:zN w g s)(hn:s.length=n):X g∧∀j u,(aG (fun j=>Value.int .u32 (s.getD j (U32.mk 0)).v) (upN 0 n))[j]? =some u→w.cell? ⟨g,0+j,none⟩=some u:=by
 obtain⟨T,hb⟩:=h
 refine⟨(hX _).1 rfl,fun j u hj=>?_⟩
 rw [← aI,bk]at hj
 cases R5:nth (upN 0 n) j with
 | none=>rw [R5]at hj;cases hj
 | some i=>
  rw [R5]at hj
  have OH:i=j:=by have:=jl R5;omega
  have Od:=aX R5
  rw [gA]at Od
  subst OH
  injection hj with hj
  rw [← hj,Nat.zero_add]
  refine hb.cell ?_
  rw [eG (by simp;omega),List.getD_eq_getElem?_getD,List.getElem?_map]
  show _=some (Value.int .u32 (s.getD i (U32.mk 0)).v)
  rw [List.getD_eq_getElem?_getD]
  cases s[i]? <;>rfl
theorem I5 {w:World} {g:Nat} {s l:List U32} {vs:List Value} {X:Nat→Prop}(hX:∀k,k=g↔X k)(h:zN w g s)(hl:yS vs=some l)(hn:s.length=l.length) {K:World→Prop}(hK:∀w',(∀k,k=g↔X k)∧zN w' g l→Ch X w w'→K w'):aF w ⟨g,0,none⟩ vs K:=by
 obtain⟨T,hb⟩:=h
 have e:=oE hl
 have e2:vs=(bI (l.map U32.v)).toList:=by rw [e];simp [bI]
 rw [e2]
 exact pC hb (by simp;omega) fun w2 st=>hK w2 ⟨hX,T,st.blk⟩ (st.ch.mono fun k hk=>(hX k).1 hk)
def Mem.Wf(m:Mem):Prop:=(∀s i o,0≤m.pg s i o∧m.pg s i o<4294967296)∧m.S≤64∧m.I≤64
end
end Go.Proofs.YtinhphjfnedhgaaGreatDoor
namespace Go.Proofs.YtinhphjfnedhgaaGreatDoor.V
open Go Go.RowKit
open Go.IntKind (i64 u32 u64)
open Enc (enc)
structure Els where
 el:Nat→Type
 en:(t:Nat)→Enc (el t)
 df:(t:Nat)→el t
 dec:(t:Nat)→List Value→Option (el t)
 g8:∀ {t:Nat} {cs:List Value} {x:el t},dec t cs=some x→(en t).enc x=cs
structure Kind(E:Els) where
 ty:Type
 pred:(Nat→Nat)→ty→(Nat→Prop)→World→Prop
 ch:∀ {r:Nat→Nat} {s:ty} {X Y:Nat→Prop} {w w':World},pred r s X w→Ch Y w w'→(∀k,X k→¬Y k)→pred r s X w'
 lt:∀ {r:Nat→Nat} {s:ty} {X:Nat→Prop} {w:World},pred r s X w→∀k,X k→k<w.heap.size
 li:(Nat→Nat)→ty→Nat→Option (Ls E.el):=fun _ _ _=>none
 qy:∀ {r:Nat→Nat} {s:ty} {X:Nat→Prop} {w:World} {i:Nat} {L:Ls E.el},pred r s X w→li r s i=some L→ @Rd (E.el L.t) (E.en L.t) w X L.A L.l.length L.c L.l:=by intro _ _ _ _ _ _ _ h;cases h
 fs:(Nat→Nat)→ty→Nat→Nat→Value→Option (Prop×ty):=fun _ _ _ _ _=>none
 sQ:∀ {r:Nat→Nat} {s s':ty} {X:Nat→Prop} {w:World} {path off:Nat} {v:Value} {c:Prop},pred r s X w→fs r s path off v=some (c,s')→c→∀ {K:World→Prop},(∀w',pred r s' X w'→Ch X w w'→K w')→aF w ⟨r path,off,none⟩ [v] K:=by intro _ _ _ _ _ _ _ _ _ _ h;cases h
 st:(Nat→Nat)→ty→Nat→Nat→(tt:Nat)→E.el tt→Option (Prop×ty):=fun _ _ _ _ _ _=>none
 r5:∀ {r:Nat→Nat} {s s':ty} {X:Nat→Prop} {w:World} {j i:Nat} {L:Ls E.el} {x y:E.el L.t} {off:Nat} {vs:List Value} {c:Prop},pred r s X w→li r s j=some L→L.l[i]? =some x→off+vs.length≤(E.en L.t).size→(E.en L.t).enc y=((E.en L.t).enc x).take off++vs++((E.en L.t).enc x).drop (off+vs.length)→st r s j i L.t y=some (c,s')→c→∀ {K:World→Prop},(∀w',pred r s' X w'→Ch X w w'→K w')→aF w (((L.A.getD ⟨0,0,none⟩).add (i*(E.en L.t).size)).add off) vs K:=by intro _ _ _ _ _ _ _ _ _ _ _ _ _ _ _ _ _ _ h;cases h
 iv:Bool:=false
 inv:ty→Prop:=fun _=>True
 g5:∀ {r:Nat→Nat} {s:ty} {X:Nat→Prop} {w:World},pred r s X w→inv s:=by intros;trivial
 fo:(Nat→Nat)→ty→Nat→Nat→Option FV:=fun _ _ _ _=>none
 sU:∀ {r:Nat→Nat} {s:ty} {X:Nat→Prop} {w:World} {path off:Nat} {f:FV} {v:Value},pred r s X w→fo r s path off=some f→fvV r (li r s) f=some v→X (r path)∧w.cell? ⟨r path,off,none⟩=some v:=by intro _ _ _ _ _ _ _ _ _ h;cases h
 ix:Nat→Nat→Option Nat:=fun _ _=>none
 sO:∀ {r:Nat→Nat} {s:ty} {path off i:Nat} {L:Ls E.el},ix path off=some i→li r s i=some L→L.A=some ⟨r path,off,none⟩:=by intro _ _ _ _ _ _ h;cases h
 wl:(Nat→Nat)→ty→Nat→Nat→Nat→Option (Prop×List Value):=fun _ _ _ _ _=>none
 uA:∀ {r:Nat→Nat} {s:ty} {X:Nat→Prop} {w:World} {path off n:Nat} {c:Prop} {cs:List Value},pred r s X w→wl r s path off n=some (c,cs)→c→X (r path)∧∀j u,cs[j]? =some u→w.cell? ⟨r path,off+j,none⟩=some u:=by intro _ _ _ _ _ _ _ _ _ _ h;cases h
 ws:(Nat→Nat)→ty→Nat→Nat→List Value→Option (Prop×ty):=fun _ _ _ _ _=>none
 rJ:∀ {r:Nat→Nat} {s s':ty} {X:Nat→Prop} {w:World} {path off:Nat} {vs:List Value} {c:Prop},pred r s X w→ws r s path off vs=some (c,s')→c→∀ {K:World→Prop},(∀w',pred r s' X w'→Ch X w w'→K w')→aF w ⟨r path,off,none⟩ vs K:=by intro _ _ _ _ _ _ _ _ _ _ h;cases h
def Kind.none(E:Els):Kind E where
 ty:=Unit
 pred:=fun _ _ X _=>∀k,¬X k
 ch:=fun h _ _=>h
 lt:=fun h k hk=>absurd hk (h k)
def Uni.of(E:Els)(K:Nat→Kind E)(cd:TypeId→Option Nat)(mko:TypeId→List Value→Option ((t:Nat)×(K t).ty))(v7:∀ {T:TypeId} {cs:List Value} {q:(t:Nat)×(K t).ty} {w:World} {g:Nat},mko T cs=some q→Blk w g ⟨cs⟩ T→(K q.1).pred (fun _=>g) q.2 (fun k=>k=g) w):Uni where
 ty:=fun t=>(K t).ty
 pred:=fun t=>(K t).pred
 ch:=fun {t}=>(K t).ch
 lt:=fun {t}=>(K t).lt
 el:=E.el
 en:=E.en
 df:=E.df
 dec:=E.dec
 g8:=E.g8
 cd:=cd
 li:=fun t=>(K t).li
 qy:=fun {t}=>(K t).qy
 fs:=fun t=>(K t).fs
 sQ:=fun {t}=>(K t).sQ
 st:=fun t=>(K t).st
 r5:=fun {t}=>(K t).r5
 iv:=fun t=>(K t).iv
 inv:=fun t=>(K t).inv
 g5:=fun {t}=>(K t).g5
 fo:=fun t=>(K t).fo
 sU:=fun {t}=>(K t).sU
 mko:=mko
 v7:=v7
 ix:=fun t=>(K t).ix
 sO:=fun {t}=>(K t).sO
 wl:=fun t=>(K t).wl
 uA:=fun {t}=>(K t).uA
 ws:=fun t=>(K t).ws
 rJ:=fun {t}=>(K t).rJ
section
section
variable {U:Uni} {P:Program} {tbl:Tb U} {may:List Nat} {k0:Nat}
def Ext(θ θ':Th):Prop:=∀j i,cX θ j=some i→cX θ' j=some i
theorem Ext.refl(θ:Th):Ext θ θ:=fun _ _ h=>h
theorem Ext.trans {a b c:Th}(h:Ext a b)(k:Ext b c):Ext a c:=fun j i hj=>k j i (h j i hj)
theorem iI {j id:Nat} {θ:Th} {F:Th→Prop}(h:ng j id θ F):∃θ',F θ'∧Ext θ θ'∧cX θ' j=some id:=by
 unfold ng at h
 split at h
 ·rename_i hn
  refine⟨_,h,fun j' i hj=>?_,?_⟩
  ·unfold cX
   split
   ·rename_i he
    rw [← Nat.eq_of_beq_eq_true he,hn]at hj
    cases hj
   ·exact hj
  ·simp [cX]
 ·rename_i i hi
  split at h
  ·rename_i he
   exact⟨θ,h,Ext.refl θ,by rw [hi,Nat.eq_of_beq_eq_true he]⟩
  ·exact h.elim
theorem my {j i:Nat}:∀ {θ:Th},cX θ j=some i→(j,i)∈θ
 | [],h=>by cases h
 | (a,b)::r,h=>by
  unfold cX at h
  split at h
  ·rename_i he
   injection h with h
   rw [← h,Nat.eq_of_beq_eq_true he]
   exact List.mem_cons_self ..
  ·exact List.mem_cons_of_mem _ (my h)
theorem K8 {θ:Th}(hn:pQ (aG (·.2) θ)=true) {a b i:Nat}(ha:cX θ a=some i)(hb:cX θ b=some i):a=b:=by
 have h1:=my ha
 have h2:=my hb
 have h3:=nk hn
 rw [gM]at h3
 have key:∀(l:Th),(l.map (·.2)).Nodup→(a,i)∈l→(b,i)∈l→a=b:=by
  intro l
  induction l with
  | nil=>intro _ h;cases h
  | cons x r ih=>
   intro hd h1 h2
   rw [List.map_cons,List.nodup_cons]at hd
   rcases List.mem_cons.1 h1 with e1 | h1
   ·rcases List.mem_cons.1 h2 with e2 | h2
    ·rw [← e1]at e2;injection e2 with e2;exact e2.symm
    ·exact absurd (List.mem_map.2 ⟨(b,i),h2,by rw [← e1]⟩) hd.1
   ·rcases List.mem_cons.1 h2 with e2 | h2
    ·exact absurd (List.mem_map.2 ⟨(a,i),h1,by rw [← e2]⟩) hd.1
    ·exact ih hd.2 h1 h2
 exact key θ h3 h1 h2
theorem PK.vQ {f:Nat→Option Nat} {p q:PK}(h:p.ren f=some q):f p.id=some q.id:=by
 cases p<;>simp only [PK.ren,Option.map_eq_some_iff]at h<;>obtain⟨i,hi,rfl⟩:=h<;>exact hi
theorem PK.Gp {f g:Nat→Option Nat}(h:∀j i,f j=some i→g j=some i) {p q:PK}(hp:p.ren f=some q):p.ren g=some q:=by
 cases p<;>simp only [PK.ren,Option.map_eq_some_iff]at hp ⊢ <;>obtain⟨i,hi,rfl⟩:=hp<;>exact⟨i,h _ _ hi,rfl⟩
def Rel(r r':Res U):Prop:=r=r'∨∃(t:Nat)(own:Bool)(T T':TypeId)(A:Option Addr)(c:Nat)(l:List (U.el t)),r= .lst t false T A c l∧r'= .lst t own T' A c l
theorem Rel.den {r r':Res U}(h:Rel r r') {f:Nat→Option Nat} {p q:PK}(hp:p.ren f=some q):cA U p (some r)=cA U q (some r'):=by
 rcases h with rfl | ⟨t,own,T,T',A,c,l,rfl,rfl⟩
 ·cases p<;>simp only [PK.ren,Option.map_eq_some_iff]at hp<;>obtain⟨i,hi,rfl⟩:=hp<;>cases r<;>rfl
 ·cases p<;>simp only [PK.ren,Option.map_eq_some_iff]at hp<;>obtain⟨i,hi,rfl⟩:=hp<;>rfl
def Emb(f:Nat→Option Nat)(L G:List (Res U)):Prop:=∀j r,nth L j=some r→∃i r',f j=some i∧nth G i=some r'∧Rel r r'
theorem Emb.dn {f:Nat→Option Nat} {L G:List (Res U)}(h:Emb f L G) {p q:PK}(hp:p.ren f=some q) {v:Value}(hd:den U L p=some v):den U G q=some v:=by
 unfold V.den at hd ⊢
 cases hn:nth L p.id with
 | none=>rw [hn]at hd;cases p<;>simp [cA]at hd
 | some r=>
  rw [hn]at hd
  obtain⟨i,r',h1,h2,h3⟩:=h _ _ hn
  rw [PK.vQ hp]at h1
  injection h1 with h1
  subst h1
  rw [h2,← h3.den hp]
  exact hd
theorem dZ {f:Nat→Option Nat} {l:List (Option PK)} {j:Nat} {q:PK}(h:nth (aG (sz f) l) j=some (some q)):∃p,nth l j=some (some p)∧p.ren f=some q:=by
 rw [bk]at h
 cases hn:nth l j with
 | none=>rw [hn]at h;cases h
 | some o=>
  rw [hn]at h
  injection h with h
  cases o with
  | none=>cases h
  | some p=>exact⟨p,rfl,h⟩
theorem Emb.kn {f:Nat→Option Nat} {L G:List (Res U)}(h:Emb f L G) {k k':Kn}(hk:k.ren f=some k') {v:Value}(hv:ja L v k):ja G v k':=by
 cases k with
 | pan=>exact hv.elim
 | p p=>
  simp only [Kn.ren,Option.map_eq_some_iff]at hk
  obtain⟨q,hq,rfl⟩:=hk
  exact h.dn hq hv
 | t l=>
  simp only [Kn.ren,Option.some.injEq]at hk
  subst hk
  obtain⟨vs,e,hh⟩:=hv
  refine⟨vs,e,fun j q hj=>?_⟩
  obtain⟨p,hp,hq⟩:=dZ hj
  obtain⟨u,hu,hd⟩:=hh j p hp
  exact⟨u,hu,h.dn hq hd⟩
 | ag l=>
  simp only [Kn.ren,Option.some.injEq]at hk
  subst hk
  obtain⟨vs,e,hh⟩:=hv
  refine⟨vs,e,fun j q hj=>?_⟩
  obtain⟨p,hp,hq⟩:=dZ hj
  obtain⟨u,hu,hd⟩:=hh j p hp
  exact⟨u,hu,h.dn hq hd⟩
 | f a b=>
  simp only [Kn.ren,Option.some.injEq]at hk
  subst hk
  obtain⟨fn,fs,cs,e,hl,h1,h2⟩:=hv
  refine⟨fn,fs,cs,e,by simpa using hl,fun j q hj=>?_,fun j q hj=>?_⟩
  ·obtain⟨p,hp,hq⟩:=dZ hj
   obtain⟨u,hu,hd⟩:=h1 j p hp
   exact⟨u,hu,h.dn hq hd⟩
  ·obtain⟨p,hp,hq⟩:=dZ hj
   obtain⟨u,hu,hd⟩:=h2 j p hp
   exact⟨u,hu,h.dn hq hd⟩
theorem Emb.knO {f:Nat→Option Nat} {L G:List (Res U)}(h:Emb f L G) {k:Option Kn} {v:Value}(hv:KnO L v k):KnO G v (De f k):=by
 cases k with
 | none=>exact trivial
 | some k=>
  show KnO G v (k.ren f)
  cases hk:k.ren f with
  | none=>exact trivial
  | some k'=>exact h.kn hk hv
theorem jW {f:Nat→Option Nat} {key:Key} {k':Kn}:∀ {l:List (Key×Kn)},(key,k')∈lf f l→∃i i' o k,((key= .c i' o∧(Key.c i o,k)∈l)∨(key= .l i' o∧(Key.l i o,k)∈l))∧f i=some i'∧k.ren f=some k'
 | [],h=>by cases h
 | (.s _,_)::r,h=>by
  obtain⟨i,i',o,k,h1,h3⟩:=jW (l:=r) h
  exact⟨i,i',o,k,h1.imp (fun h=>⟨h.1,List.mem_cons_of_mem _ h.2⟩) (fun h=>⟨h.1,List.mem_cons_of_mem _ h.2⟩),h3⟩
 | (.c i o,k)::r,h=>by
  have tail:(key,k')∈lf f r→∃i1 i' o1 k1,((key= .c i' o1∧(Key.c i1 o1,k1)∈(Key.c i o,k)::r)∨(key= .l i' o1∧(Key.l i1 o1,k1)∈(Key.c i o,k)::r))∧f i1=some i'∧k1.ren f=some k':=fun h=>by
   obtain⟨i,i',o,k,h1,h3⟩:=jW (l:=r) h
   exact⟨i,i',o,k,h1.imp (fun h=>⟨h.1,List.mem_cons_of_mem _ h.2⟩) (fun h=>⟨h.1,List.mem_cons_of_mem _ h.2⟩),h3⟩
  simp only [lf]at h
  split at h
  ·rename_i i' k2 hi hk
   rcases List.mem_cons.1 h with e | h
   ·injection e with e1 e2
    subst e1;subst e2
    exact⟨i,i',o,k,.inl ⟨rfl,List.mem_cons_self ..⟩,hi,hk⟩
   ·exact tail h
  ·exact tail h
 | (.l i o,k)::r,h=>by
  have tail:(key,k')∈lf f r→∃i1 i' o1 k1,((key= .c i' o1∧(Key.c i1 o1,k1)∈(Key.l i o,k)::r)∨(key= .l i' o1∧(Key.l i1 o1,k1)∈(Key.l i o,k)::r))∧f i1=some i'∧k1.ren f=some k':=fun h=>by
   obtain⟨i,i',o,k,h1,h3⟩:=jW (l:=r) h
   exact⟨i,i',o,k,h1.imp (fun h=>⟨h.1,List.mem_cons_of_mem _ h.2⟩) (fun h=>⟨h.1,List.mem_cons_of_mem _ h.2⟩),h3⟩
  simp only [lf]at h
  split at h
  ·rename_i i' k2 hi hk
   rcases List.mem_cons.1 h with e | h
   ·injection e with e1 e2
    subst e1;subst e2
    exact⟨i,i',o,k,.inr ⟨rfl,List.mem_cons_self ..⟩,hi,hk⟩
   ·exact tail h
  ·exact tail h
def AvD(θ:Th)(v:Value)(k:Option PK):AV→Prop
 | .v x=>x=v
 | .k p=>∃q,k=some q∧p.ren (cX θ)=some q
theorem AvD.mono {θ θ':Th}(h:Ext θ θ') {v:Value} {k:Option PK} {a:AV}(ha:AvD θ v k a):AvD θ' v k a:=by
 cases a with
 | v x=>exact ha
 | k p=>obtain⟨q,h1,h2⟩:=ha;exact⟨q,h1,PK.Gp h h2⟩
def CD(θ:Th)(vs:List Value)(kc:Nat→Option PK)(i:Nat)(az:List AV):Prop:=az.length=vs.length∧∀j a v,nth az j=some a→nth vs j=some v→AvD θ v (kc (i+j)) a
theorem CD.mono {θ θ':Th}(h:Ext θ θ') {vs:List Value} {kc:Nat→Option PK} {i:Nat} {az:List AV}(ha:CD θ vs kc i az):CD θ' vs kc i az:=⟨ha.1,fun j a v h1 h2=>(ha.2 j a v h1 h2).mono h⟩
theorem Du {T:Type} {c:CP} {J:c.T T} {v:Value} {k:Option PK} {θ:Th} {F:T→Th→Prop}(h:apC c J v k θ F):∃J' θ' a,F J' θ'∧Ext θ θ'∧(∀G:T→AV→Prop,alC c J G→G J' a)∧AvD θ' v k a:=by
 cases c with
 | int kk=>
  cases v<;>simp only [apC]at h<;>skip
  rename_i k' x
  split at h
  ·rename_i he
   obtain rfl:=ox he
   exact⟨_,θ,.v (.int kk x),h,Ext.refl θ,fun G hG=>hG x,rfl⟩
  ·exact h.elim
 | bool=>
  cases v<;>simp only [apC]at h<;>skip
  exact⟨_,θ,_,h,Ext.refl θ,fun G hG=>hG _,rfl⟩
 | str=>
  cases v<;>simp only [apC]at h<;>skip
  exact⟨_,θ,_,h,Ext.refl θ,fun G hG=>hG _,rfl⟩
 | any=>exact⟨_,θ,.v v,h,Ext.refl θ,fun G hG=>hG _,rfl⟩
 | hdr=>
  cases v<;>simp only [apC]at h<;>skip
  exact⟨_,θ,_,h,Ext.refl θ,fun G hG=>hG _ _ _,rfl⟩
 | nsl=>
  simp only [apC]at h
  split at h
  ·exact⟨_,θ,_,h,Ext.refl θ,fun G hG=>hG,rfl⟩
  ·exact h.elim
 | nil=>
  simp only [apC]at h
  split at h
  ·exact⟨_,θ,_,h,Ext.refl θ,fun G hG=>hG,rfl⟩
  ·exact h.elim
 | fn f=>
  simp only [apC]at h
  split at h
  ·split at h
   ·rename_i he
    obtain rfl:=Nat.eq_of_beq_eq_true he
    exact⟨_,θ,_,h,Ext.refl θ,fun G hG=>hG,rfl⟩
   ·exact h.elim
  ·exact h.elim
 | ptr j=>
  simp only [apC]at h
  split at h
  ·rename_i id
   obtain⟨θ',h1,h2,h3⟩:=iI h
   exact⟨_,θ',_,h1,h2,fun G hG=>hG,_,rfl,by simp [PK.ren,h3]⟩
  ·exact h.elim
 | obj j path=>
  simp only [apC]at h
  split at h
  ·rename_i id p
   split at h
   ·rename_i he
    obtain⟨θ',h1,h2,h3⟩:=iI h
    exact⟨_,θ',_,h1,h2,fun G hG=>hG,_,rfl,by simp [PK.ren,h3,Nat.eq_of_beq_eq_true he]⟩
   ·exact h.elim
  ·exact h.elim
 | sl j=>
  simp only [apC]at h
  split at h
  ·rename_i id
   obtain⟨θ',h1,h2,h3⟩:=iI h
   exact⟨_,θ',_,h1,h2,fun G hG=>hG,_,rfl,by simp [PK.ren,h3]⟩
  ·exact h.elim
theorem tr {T:Type}:∀ {l:List CP} {J:Cu l T} {vs:List Value} {kc:Nat→Option PK} {i:Nat} {θ:Th} {F:T→Th→Prop},JR l J vs kc i θ F→∃J' θ' az,F J' θ'∧Ext θ θ'∧(∀G:T→List AV→Prop,BX l J G→G J' az)∧CD θ' vs kc i az
 | [],J,[],kc,i,θ,F,h=>⟨J,θ,[],h,Ext.refl θ,fun G hG=>hG,rfl,fun j a v ha=>by simp [nth]at ha⟩
 | [],_,_::_,_,_,_,_,h=>h.elim
 | c::l,J,[],_,_,_,_,h=>h.elim
 | c::l,J,v::vs,kc,i,θ,F,h=>by
  obtain⟨J1,θ1,a,h1,e1,g1,d1⟩:=Du h
  obtain⟨J2,θ2,az,h2,e2,g2,d2⟩:=tr h1
  refine⟨J2,θ2,a::az,h2,e1.trans e2,fun G hG=>g2 (fun J'' vs=>G J'' (a::vs)) (g1 (fun J' a'=>BX l J' fun J'' vs=>G J'' (a'::vs)) hG),?_,fun j b u hb hu=>?_⟩
  ·simp [d2.1]
  ·cases j with
   | zero=>
    simp only [nth,Option.some.injEq]at hb hu
    subst hb;subst hu
    exact d1.mono e2
   | succ j=>
    have:=d2.2 j b u hb hu
    rwa [show i+1+j=i+(j+1)by omega]at this
def AaD(θ:Th)(v:Value)(k:Option Kn):AA→Prop
 | .one a=>AvD θ v (jh k) a
 | .agg az=>∃cs,v= .agg cs∧CD θ cs.toList (LQ k) 0 az
theorem AaD.mono {θ θ':Th}(h:Ext θ θ') {v:Value} {k:Option Kn} {a:AA}(ha:AaD θ v k a):AaD θ' v k a:=by
 cases a with
 | one a=>exact AvD.mono h ha
 | agg az=>obtain⟨cs,e,hh⟩:=ha;exact⟨cs,e,hh.mono h⟩
theorem zj {T:Type}:∀ {l:List AP} {J:CE U l T} {vs:List Value} {ks:List (Option Kn)} {θ:Th} {F:T→Th→Prop},zk l J vs ks θ F→∃J' θ' az,F J' θ'∧Ext θ θ'∧(∀G:T→List AA→Prop,wP l J G→G J' az)∧az.length=vs.length∧∀j a v,nth az j=some a→nth vs j=some v→∃k,nth ks j=some k∧AaD θ' v k a
 | [],J,[],ks,θ,F,h=>⟨J,θ,[],h,Ext.refl θ,fun G hG=>hG,rfl,fun j a v ha=>by simp [nth]at ha⟩
 | [],_,_::_,_,_,_,h=>by simp [zk]at h
 | _::_,_,[],_,_,_,h=>by simp [zk]at h
 | _::_,_,_::_,[],_,_,h=>by simp [zk]at h
 | a::l,J,v::vs,k::ks,θ,F,h=>by
  simp only [zk]at h
  have one:∃J' θ' x,zk l J' vs ks θ' F∧Ext θ θ'∧(∀G:CE U l T→AA→Prop,alA a J G→G J' x)∧AaD θ' v k x:=by
   cases a with
   | one c=>
    obtain⟨J1,θ1,x,h1,e1,g1,d1⟩:=Du (show apC c J v (jh k) θ _ from h)
    exact⟨J1,θ1,.one x,h1,e1,fun G hG=>g1 (fun J' y=>G J' (.one y)) hG,d1⟩
   | agg cs=>
    simp only [apA]at h
    split at h
    ·rename_i vs'
     obtain⟨J1,θ1,x,h1,e1,g1,d1⟩:=tr h
     exact⟨J1,θ1,.agg x,h1,e1,fun G hG=>g1 (fun J' y=>G J' (.agg y)) hG,vs',rfl,d1⟩
    ·exact h.elim
   | enc tt=>
    simp only [apA]at h
    split at h
    ·rename_i cs
     split at h
     ·rename_i x hx
      have e:=U.g8 hx
      refine⟨_,θ,.agg (aG .v ((U.en tt).enc x)),h,Ext.refl θ,fun G hG=>hG x,cs,rfl,?_,fun j a v ha hv=>?_⟩
      ·rw [e,gM,List.length_map]
      ·rw [e,bk,hv]at ha
       injection ha with ha
       subst ha;rfl
     ·exact h.elim
    ·exact h.elim
  obtain⟨J1,θ1,x,h1,e1,g1,d1⟩:=one
  obtain⟨J2,θ2,az,h2,e2,g2,l2,d2⟩:=zj h1
  refine⟨J2,θ2,x::az,h2,e1.trans e2,fun G hG=>g2 (fun J'' vs=>G J'' (x::vs)) (g1 (fun J' a'=>wP l J' fun J'' vs=>G J'' (a'::vs)) hG),by simp [l2],fun j b u hb hu=>?_⟩
  cases j with
  | zero=>
   simp only [nth,Option.some.injEq]at hb hu
   subst hb;subst hu
   exact⟨k,rfl,d1.mono e2⟩
  | succ j=>exact d2 j b u hb hu
def LkD(θ:Th)(kl:Nat→Option PK)(lk:List (Nat×Nat×Nat)):Prop:=∀p j q,(p,j,q)∈lk→∃i,kl p=some (.obj i q 0)∧cX θ j=some i
def PrD(θ:Th)(kc kl:Nat→Option PK):PR U→Res U→Prop
 | .ob t r s lk,x=>x= .ob t r s∧LkD θ kl lk
 | .blk g az T,x=>∃cs,x= .blk g cs T∧CD θ cs kc 0 az
 | .lst t own T A c l,x=>∃own' T',x= .lst t own' T' A c l∧(own=true→own'=true∧T'=T)
theorem PrD.mono {θ θ':Th}(h:Ext θ θ') {kc kl:Nat→Option PK} {p:PR U} {x:Res U}(hp:PrD θ kc kl p x):PrD θ' kc kl p x:=by
 cases p with
 | ob t r s lk=>exact⟨hp.1,fun p j q hm=>by obtain⟨i,h1,h2⟩:=hp.2 p j q hm;exact⟨i,h1,h _ _ h2⟩⟩
 | blk g az T=>obtain⟨cs,e,hh⟩:=hp;exact⟨cs,e,hh.mono h⟩
 | lst t own T A c l=>exact hp
def Lg:RP→Bool
 | .lst _ own _=>!own
 | _=>false
def Lk:PR U→Bool
 | .lst _ own _ _ _ _=>!own
 | _=>false
theorem zi:∀ {l:List (Nat×Nat×Nat)} {kl:Nat→Option PK} {θ:Th} {F:Th→Prop},JQ l kl θ F→∃θ',F θ'∧Ext θ θ'∧LkD θ' kl l
 | [],kl,θ,F,h=>⟨θ,h,Ext.refl θ,fun _ _ _ hm=>by cases hm⟩
 | (p,j,q)::l,kl,θ,F,h=>by
  simp only [JQ]at h
  split at h
  ·rename_i i q' hk
   split at h
   ·rename_i hq
    have hq:=Nat.eq_of_beq_eq_true hq
    subst hq
    obtain⟨θ1,h1,e1,g1⟩:=iI h
    obtain⟨θ2,h2,e2,g2⟩:=zi h1
    refine⟨θ2,h2,e1.trans e2,fun p' j' q'' hm=>?_⟩
    rcases List.mem_cons.1 hm with e | hm
    ·injection e with ea eb
     injection eb with eb ec
     subst ea;subst eb;subst ec
     exact⟨i,hk,e2 _ _ g1⟩
    ·exact g2 _ _ _ hm
   ·exact h.elim
  ·exact h.elim
theorem JP {T:Type} {p:RP} {J:p.T U T} {r:Option (Res U)} {kc kl:Nat→Option PK} {θ:Th} {F:T→Th→Prop}(h:apR p J r kc kl θ F):∃J' θ' x y,r=some x∧F J' θ'∧Ext θ θ'∧(∀G:T→PR U→Prop,alR p J G→G J' y)∧PrD θ' kc kl y x∧Lk y=Lg p:=by
 cases p with
 | ob t lk=>
  cases r with
  | none=>exact h.elim
  | some x=>
   cases x<;>simp only [apR]at h<;>skip
   rename_i t' r s
   split at h
   ·rename_i ht
    subst ht
    obtain⟨θ1,h1,e1,g1⟩:=zi h
    exact⟨_,θ1,_,.ob t' r s lk,rfl,h1,e1,fun G hG=>hG r s,⟨rfl,g1⟩,rfl⟩
   ·exact h.elim
 | blk l T'=>
  cases r with
  | none=>exact h.elim
  | some x=>
   cases x<;>simp only [apR]at h<;>skip
   rename_i g cs T''
   split at h
   ·rename_i ht
    obtain⟨J1,θ1,az,h1,e1,g1,d1⟩:=tr h
    exact⟨J1,θ1,_,.blk g az T',rfl,h1,e1,fun G hG=>g1 (fun J' cs=>G J' (.blk g cs T')) (hG g),⟨cs,by rw [Nat.eq_of_beq_eq_true ht],d1⟩,rfl⟩
   ·exact h.elim
 | lst t own T'=>
  cases r with
  | none=>exact h.elim
  | some x=>
   cases x<;>simp only [apR]at h<;>skip
   rename_i t' own' T'' A c l
   split at h
   ·rename_i hb
    split at h
    ·rename_i ht
     subst ht
     refine⟨_,θ,_,.lst t' own T' A c l,rfl,h,Ext.refl θ,fun G hG=>hG A c l,⟨own',T'',rfl,fun ho=>?_⟩,rfl⟩
     subst ho
     simp only [Bool.not_true,Bool.false_or,Bool.and_eq_true]at hb
     exact⟨hb.1,Nat.eq_of_beq_eq_true hb.2⟩
    ·exact h.elim
   ·exact h.elim
theorem zh {T:Type} {rs:List (Res U)} {kn:List (Key×Kn)}:∀ {l:List RP} {J:E5 U l T} {j0:Nat} {θ:Th} {F:T→Th→Prop},JO rs kn l J j0 θ F→∃J' θ' ps,F J' θ'∧Ext θ θ'∧(∀G:T→List (PR U)→Prop,wO l J G→G J' ps)∧ps.length=l.length∧
 ∀j p,nth ps j=some p→∃id x,cX θ' (j0+j)=some id∧nth rs id=some x∧PrD θ' (fun o=>jh (dm (.c id o) kn)) (fun q=>jh (dm (.l id q) kn)) p x∧∃q,nth l j=some q∧Lk p=Lg q
 | [],J,j0,θ,F,h=>⟨J,θ,[],h,Ext.refl θ,fun G hG=>hG,rfl,fun j p hp=>by simp [nth]at hp⟩
 | p::l,J,j0,θ,F,h=>by
  simp only [JO]at h
  split at h
  ·rename_i id hid
   obtain⟨J1,θ1,x,y,e0,h1,e1,g1,d1,q1⟩:=JP h
   obtain⟨J2,θ2,ps,h2,e2,g2,l2,d2⟩:=zh h1
   refine⟨J2,θ2,y::ps,h2,e1.trans e2,fun G hG=>g2 (fun J'' xs=>G J'' (y::xs)) (g1 (fun J' y'=>wO l J' fun J'' xs=>G J'' (y'::xs)) hG),by simp [l2],fun j q hq=>?_⟩
   cases j with
   | zero=>
    simp only [nth,Option.some.injEq]at hq
    subst hq
    exact⟨id,x,e2 _ _ (e1 _ _ hid),e0,d1.mono e2,p,rfl,q1⟩
   | succ j=>
    obtain⟨id',x',h3,h4,h5,h6⟩:=d2 j q hq
    exact⟨id',x',by rw [show j0+(j+1)=j0+1+j by omega];exact h3,h4,h5,h6⟩
  ·exact h.elim
theorem vg {rs:List (Res U)}:∀ {l:List (Nat×Nat)} {θ:Th} {F:Th→Prop},Dt rs l θ F→∃θ',F θ'∧Ext θ θ'
 | [],θ,F,h=>⟨θ,h,Ext.refl θ⟩
 | (j,t)::l,θ,F,h=>by
  simp only [Dt]at h
  split at h
  ·obtain⟨θ1,h1,e1,_⟩:=iI h
   obtain⟨θ2,h2,e2⟩:=vg h1
   exact⟨θ2,h2,e1.trans e2⟩
  ·exact h.elim
structure eB(w0:World)(k0:Nat)(X0:Nat→Nat→Prop)(may:List Nat)(fr:Fr)(st:St U)(X:Nat→Nat→Prop)(w:World)(st':St U)(X':Nat→Nat→Prop)(w':World)(M:List Nat):Prop where
 inv:Inv w0 k0 X0 may st'.rs X' w'
 kn:ax st'.rs fr st'.kn
 md:st'.md=M++st.md
 mlt:∀i,i∈M→i<st.rs.length
 can:∀i,i∈M→i∈may∨k0≤i
 len:st.rs.length≤st'.rs.length
 same:∀i,i<st.rs.length→i ∉ M→nth st'.rs i=nth st.rs i∧X' i=X i
 grow:∀i,i∈M→∀k,X' i k→X i k∨w.heap.size≤k
 new:∀i,st.rs.length≤i→i<st'.rs.length→∀k,X' i k→w.heap.size≤k
 ch:Ch (fun k=>∃j,j∈M∧X j k) w w'
 root:∀i a,nth st.rs i=some a→∃b,nth st'.rs i=some b∧dK a b
theorem gO {i:Nat}(h:oM may k0 i=true):i∈may∨k0≤i:=by
 unfold oM at h
 split at h
 ·rename_i hb;exact .inr (Nat.le_of_ble_eq_true hb)
 ·exact .inl (fk.1 h)
theorem gP:∀ {M:List Nat} {us:List (Upd U)} {rs rs':List (Res U)},bJ rs M us=some rs'→rs'.length=rs.length∧(∀i,i ∉ M→nth rs' i=nth rs i)∧∀i,i∈M→i<rs.length∧∀a,nth rs i=some a→∃b,nth rs' i=some b∧dK a b
 | [],[],rs,rs',h=>by
  simp only [bJ,Option.some.injEq]at h
  subst h
  exact⟨rfl,fun _ _=>rfl,fun i hi=>by cases hi⟩
 | [],_::_,_,_,h=>by simp [bJ]at h
 | _::_,[],_,_,h=>by simp [bJ]at h
 | i::M,u::us,rs,rs',h=>by
  simp only [bJ]at h
  split at h
  ·rename_i r hr
   split at h
   ·rename_i r' NV
    obtain⟨h1,h2,h3⟩:=gP h
    have hi:=aX hr
    simp only [xU]at h1 h3
    have e:∀j,nth (cK rs i r') j=if j=i then some r' else nth rs j:=fun j=>by
     rw [bA]
     by_cases hj:j=i
     ·rw [if_pos ⟨hj,hi⟩,if_pos hj]
     ·rw [if_neg (fun hh=>hj hh.1),if_neg hj]
    refine⟨h1,fun j hj=>?_,fun j hj=>?_⟩
    ·rw [List.mem_cons,not_or]at hj
     rw [h2 j hj.2,e,if_neg hj.1]
    ·refine⟨?_,fun a ha=>?_⟩
     ·rcases List.mem_cons.1 hj with rfl | hj
      ·exact hi
      ·exact(h3 j hj).1
     ·by_cases OL:j=i
      ·subst OL
       rw [hr]at ha
       injection ha with ha
       subst ha
       have Ty:=zf NV
       by_cases hm:j∈M
       ·obtain⟨b,hb,hrb⟩:=(h3 j hm).2 r' (by rw [e,if_pos rfl])
        exact⟨b,hb,Ty.trans hrb⟩
       ·exact⟨r',by rw [h2 j hm,e,if_pos rfl],Ty⟩
      ·have hm:j∈M:=(List.mem_cons.1 hj).resolve_left OL
       exact(h3 j hm).2 a (by rw [e,if_neg OL];exact ha)
   ·cases h
  ·cases h
theorem qJ {f:Nat→Option Nat}(Rp:∀a b i,f a=some i→f b=some i→a=b):∀ {ms M:List Nat} {us:List (Upd U)} {L L' G G':List (Res U)},iS f ms=some M→bJ L ms us=some L'→bJ G M us=some G'→Emb f L G→(∀j,j∈ms→∀r,nth L j=some r→∃i,f j=some i∧nth G i=some r)→
 Emb f L' G'∧∀j,j∈ms→∀r,nth L' j=some r→∃i,f j=some i∧nth G' i=some r
 | [],M,us,L,L',G,G',hM,hL,hG,hE,hR=>by
  simp only [iS,Option.some.injEq]at hM
  subst hM
  cases us with
  | cons u us=>simp [bJ]at hL
  | nil=>
   simp only [bJ,Option.some.injEq]at hL hG
   subst hL;subst hG
   exact⟨hE,fun j hj=>by cases hj⟩
 | m::ms,M,us,L,L',G,G',hM,hL,hG,hE,hR=>by
  simp only [iS]at hM
  split at hM
  ·rename_i i M' hi hM'
   injection hM with hM
   subst hM
   cases us with
   | nil=>simp [bJ]at hL
   | cons u us=>
    simp only [bJ]at hL hG
    split at hL
    ·rename_i r hr
     split at hL
     ·rename_i r1 Rn
      obtain⟨i',h1,h2⟩:=hR m (List.mem_cons_self ..) r hr
      rw [hi]at h1
      injection h1 with h1
      subst h1
      rw [h2]at hG
      simp only [Rn]at hG
      have hml:=aX hr
      have hil:=aX h2
      have key:∀j x,nth (cK L m r1) j=some x→(j=m∧x=r1)∨(j≠m∧nth L j=some x):=by
       intro j x hx
       rw [bA]at hx
       by_cases hj:j=m
       ·rw [if_pos ⟨hj,hml⟩]at hx
        injection hx with hx
        exact .inl ⟨hj,hx.symm⟩
       ·rw [if_neg (fun hh=>hj hh.1)]at hx
        exact .inr ⟨hj,hx⟩
      have keyG:∀j,nth (cK G i r1) j=if j=i then some r1 else nth G j:=fun j=>by
       rw [bA]
       by_cases hj:j=i
       ·rw [if_pos ⟨hj,hil⟩,if_pos hj]
       ·rw [if_neg (fun hh=>hj hh.1),if_neg hj]
      have r1':=qJ Rp hM' hL hG (fun j x hx=>by
       rcases key j x hx with⟨rfl,rfl⟩ | ⟨hj,hx⟩
       ·exact⟨i,_,hi,by rw [keyG,if_pos rfl],.inl rfl⟩
       ·obtain⟨a,b,h3,h4,h5⟩:=hE j x hx
        exact⟨a,b,h3,by rw [keyG,if_neg (by rintro rfl;exact hj (Rp _ _ _ h3 hi))];exact h4,h5⟩) (fun j hj x hx=>by
       rcases key j x hx with⟨rfl,rfl⟩ | ⟨Ro,hx⟩
       ·exact⟨i,hi,by rw [keyG,if_pos rfl]⟩
       ·obtain⟨a,h3,h4⟩:=hR j (List.mem_cons_of_mem _ hj) x hx
        exact⟨a,h3,by rw [keyG,if_neg (by rintro rfl;exact Ro (Rp _ _ _ h3 hi))];exact h4⟩)
      refine⟨r1'.1,fun j hj x hx=>?_⟩
      by_cases UF:j∈ms
      ·exact r1'.2 j UF x hx
      ·have abu:j=m:=(List.mem_cons.1 hj).resolve_right UF
       subst abu
       have a1:=(gP hL).2.1 j UF
       rw [hx,bA,if_pos ⟨rfl,hml⟩]at a1
       injection a1 with a1
       subst a1
       have hiM:i ∉ M':=by
        intro hh
        have:∀ {l M':List Nat},iS f l=some M'→i∈M'→∃a∈l,f a=some i:=by
         intro l
         induction l with
         | nil=>intro M' h hh;simp only [iS,Option.some.injEq]at h;subst h;cases hh
         | cons a l ih=>
          intro M' h hh
          simp only [iS]at h
          split at h
          ·rename_i b bs hb VI
           injection h with h
           subst h
           rcases List.mem_cons.1 hh with rfl | hh
           ·exact⟨a,List.mem_cons_self ..,hb⟩
           ·obtain⟨c,hc,ZL⟩:=ih VI hh
            exact⟨c,List.mem_cons_of_mem _ hc,ZL⟩
          ·cases h
        obtain⟨a,ha,ZM⟩:=this hM' hh
        exact UF (Rp _ _ _ ZM hi▸ha)
       refine⟨i,hi,?_⟩
       rw [(gP hG).2.1 i hiM,keyG,if_pos rfl]
     ·cases hL
    ·cases hL
  ·cases hM
theorem yr {α β:Type} {f:α→Option β}:∀ {l:List α} {r:List β},iS f l=some r→∀b,b∈r→∃a,a∈l∧f a=some b
 | [],r,h,b,hb=>by
  simp only [iS,Option.some.injEq]at h
  subst h
  cases hb
 | a::l,r,h,b,hb=>by
  simp only [iS]at h
  split at h
  ·rename_i c cs hc OP
   injection h with h
   subst h
   rcases List.mem_cons.1 hb with rfl | hb
   ·exact⟨a,List.mem_cons_self ..,hc⟩
   ·obtain⟨x,hx,hfx⟩:=yr OP b hb
    exact⟨x,List.mem_cons_of_mem _ hx,hfx⟩
  ·cases h
theorem mH {α β:Type} {f:α→Option β}:∀ {l:List α} {r:List β},iS f l=some r→∀a,a∈l→∃b,b∈r∧f a=some b
 | [],r,h,a,ha=>by cases ha
 | a::l,r,h,x,hx=>by
  simp only [iS]at h
  split at h
  ·rename_i c cs hc OP
   injection h with h
   subst h
   rcases List.mem_cons.1 hx with rfl | hx
   ·exact⟨c,List.mem_cons_self ..,hc⟩
   ·obtain⟨b,hb,hfb⟩:=mH OP x hx
    exact⟨b,List.mem_cons_of_mem _ hb,hfb⟩
  ·cases h
theorem jZ {ps:List (PR U)} {j:Nat}:nth (eo ps) j=(nth ps j).map (PR.fin (aG PR.jN ps)):=by
 unfold eo
 exact bk _ _ _
@[simp] theorem L9(ps:List (PR U)):(eo ps).length=ps.length:=by unfold eo;simp
theorem rC(ps:List (PR U))(p:PK):den U (eo ps) p=den U (aG PR.jN ps) p:=by
 unfold den
 rw [jZ,bk]
 cases nth ps p.id with
 | none=>rfl
 | some y=>cases y<;>cases p<;>rfl
theorem Dc {i:Nat} {key:Key} {k:Kn}:∀ {l:List (Nat×Nat×Nat)},(key,k)∈lkK i l→∃p j q,(p,j,q)∈l∧key= .l i p∧k= .p (.obj j q 0)
 | (p,j,q)::l,h=>by
  rcases List.mem_cons.1 h with e | h
  ·injection e with e1 e2
   exact⟨p,j,q,List.mem_cons_self ..,e1,e2⟩
  ·obtain⟨p',j',q',h1,h2⟩:=Dc (l:=l) h
   exact⟨p',j',q',List.mem_cons_of_mem _ h1,h2⟩
theorem jV {key:Key} {k:Kn}:∀ {l:List (PR U)} {i:Nat},(key,k)∈wg i l→∃j t r s lk p j' q,nth l j=some (.ob t r s lk)∧(p,j',q)∈lk∧key= .l (i+j) p∧k= .p (.obj j' q 0)
 | [],_,h=>by cases h
 | .ob t r s lk::l,i,h=>by
  rcases List.mem_append.1 h with h | h
  ·obtain⟨p,j',q,h1,h2,h3⟩:=Dc h
   exact⟨0,t,r,s,lk,p,j',q,rfl,h1,h2,h3⟩
  ·obtain⟨j,t,r,s,lk,p,j',q,h1,h2,h3,h4⟩:=jV (l:=l) h
   exact⟨j+1,t,r,s,lk,p,j',q,h1,h2,by rw [h3];congr 1;omega,h4⟩
 | .blk _ _ _::l,i,h=>by
  obtain⟨j,t,r,s,lk,p,j',q,h1,h2,h3,h4⟩:=jV (l:=l) h
  exact⟨j+1,t,r,s,lk,p,j',q,h1,h2,by rw [h3];congr 1;omega,h4⟩
 | .lst _ _ _ _ _ _::l,i,h=>by
  obtain⟨j,t,r,s,lk,p,j',q,h1,h2,h3,h4⟩:=jV (l:=l) h
  exact⟨j+1,t,r,s,lk,p,j',q,h1,h2,by rw [h3];congr 1;omega,h4⟩
theorem uZ(f:Nat→Option Nat)(k:Option Kn)(v:Value):iU (De f k) v=iU k v:=by
 cases k with
 | none=>rfl
 | some k=>
  cases k with
  | p p=>show iU ((p.ren f).map .p) v=_;cases p.ren f<;>rfl
  | _=>rfl
theorem fU {rs:List (Res U)} {v:Value} {k:Option Kn}(h:KnO rs v k):Ending.returned v=iU k v:=by
 cases k with
 | none=>rfl
 | some k=>cases k<;>first | rfl | exact h.elim
theorem vd {f:Nat} {args:List Value} {ks:List (Option Kn)} {st:St U} {K:fI U} {w0:World} {X0 X:Nat→Nat→Prop} {w:World} {fr:Fr}(OZ:∀f c,tbl.c f=some c→LV U P f c)(hI:Inv w0 k0 X0 may st.rs X w)(hk:ax st.rs fr st.kn)
 (ZC:∀j v k,nth args j=some v→nth ks j=some k→KnO st.rs v k)(h:call2 U tbl may k0 f args ks st K):
 Calls P f ⟨args⟩ w fun e w'=>∃v k st' X' M,e=iU k v∧K v k st'∧(k=some .pan∨KnO st'.rs v k)∧eB w0 k0 X0 may fr st X w st' X' w' M:=by
 unfold call2 at h
 split at h
 ·exact h.elim
 rename_i c hc
 have hlv:=OZ f c hc
 obtain⟨B1,θ1,az,h,e1,g1,la,da⟩:=zj h
 obtain⟨θ2,h,e2⟩:=vg h
 obtain⟨B2,θ,ps,h,e3,g3,lp,dp⟩:=zh h
 split at h
 case h_2=>exact h.elim
 rename_i M hb hM
 simp only [Bool.and_eq_true]at hb
 obtain⟨Qc,abD,OO⟩:=hb
 split at h
 case h_2=>exact h.elim
 rename_i OM
 have Rp:∀a b i,cX θ a=some i→cX θ b=some i→a=b:=fun a b i=>K8 Qc
 have Od:∀j i,cX θ j=some i→j<ps.length:=fun j i hj=>by
  have:=cD.1 abD _ (my hj)
  rw [lp]
  simpa [Nat.blt_eq]using this
 have O5:∀ {p q v},p.ren (cX θ)=some q→den U st.rs q=some v→den U (aG PR.jN ps) p=some v:=by
  intro p q v hp hd
  obtain⟨y,hy⟩:=cr (Od _ _ (PK.vQ hp))
  obtain⟨id,x,h1,h2,h3,_⟩:=dp _ y hy
  rw [Nat.zero_add,PK.vQ hp]at h1
  injection h1 with h1
  subst h1
  unfold den at hd ⊢
  rw [h2]at hd
  rw [bk,hy,← hd]
  simp only [Option.map_some]
  cases y with
  | ob t r s lk=>
   cases h3.1
   cases p<;>simp only [PK.ren,Option.map_eq_some_iff]at hp<;>obtain⟨i,hi,rfl⟩:=hp<;>rfl
  | blk g as' T=>
   obtain⟨cs,rfl,_⟩:=h3
   cases p<;>simp only [PK.ren,Option.map_eq_some_iff]at hp<;>obtain⟨i,hi,rfl⟩:=hp<;>rfl
  | lst t own T A c' l=>
   obtain⟨own',T',rfl,_⟩:=h3
   cases p<;>simp only [PK.ren,Option.map_eq_some_iff]at hp<;>obtain⟨i,hi,rfl⟩:=hp<;>rfl
 have hav:∀ {v:Value} {k:Option PK} {a:AV},AvD θ v k a→(∀p,k=some p→den U st.rs p=some v)→j6 (aG PR.jN ps) a=v:=by
  intro v k a ha Wb
  cases a with
  | v x=>exact ha
  | k p=>
   obtain⟨q,hq,hr⟩:=ha
   show(den U _ p).getD undef=v
   rw [O5 hr (Wb q hq)];rfl
 have ZQ:∀ {vs:List Value} {kc:Nat→Option PK} {az:List AV},CD θ vs kc 0 az→(∀j v p,nth vs j=some v→kc j=some p→den U st.rs p=some v)→aG (j6 (aG PR.jN ps)) az=vs:=by
  intro vs kc az hd Wb
  apply List.ext_getElem?
  intro j
  rw [← aI,← aI,bk]
  cases ha:nth az j with
  | none=>
   have:vs.length≤j:=by
    rw [← hd.1]
    apply Nat.le_of_not_lt
    intro hh
    obtain⟨x,hx⟩:=cr hh
    rw [hx]at ha;cases ha
   rw [sB this];rfl
  | some a=>
   obtain⟨v,hv⟩:=cr (l:=vs) (i:=j) (by rw [← hd.1];exact aX ha)
   rw [hv]
   have hd':=hd.2 j a v ha hv
   rw [Nat.zero_add]at hd'
   exact congrArg some (hav hd' (fun p hp=>Wb j v p hv hp))
 have Qv:aG (tx (aG PR.jN ps)) az=args:=by
  apply List.ext_getElem?
  intro j
  rw [← aI,← aI,bk]
  cases ha:nth az j with
  | none=>
   have:args.length≤j:=by
    rw [← la]
    apply Nat.le_of_not_lt
    intro hh
    obtain⟨x,hx⟩:=cr hh
    rw [hx]at ha;cases ha
   rw [sB this];rfl
  | some a=>
   obtain⟨v,hv⟩:=cr (l:=args) (i:=j) (by rw [← la];exact aX ha)
   rw [hv]
   obtain⟨k,Ox,hd⟩:=da j a v ha hv
   have hd:=hd.mono (e2.trans e3)
   have PH:=ZC j v k hv Ox
   cases a with
   | one a=>
    refine congrArg some (hav hd fun p hp=>?_)
    unfold jh at hp
    split at hp
    ·injection hp with hp;subst hp;exact PH
    ·cases hp
   | agg as'=>
    obtain⟨cs,rfl,hd2⟩:=hd
    have h9:=ZQ hd2 (fun j v p hv hp=>by
     unfold LQ at hp
     split at hp
     ·rename_i l _
      obtain⟨cs',e,hh⟩:=PH
      injection e with e
      subst e
      split at hp
      ·rename_i o ho
       subst hp
       obtain⟨u,hu,hd⟩:=hh _ _ ho
       rw [aI]at hv
       have:some v=some u:=by rw [← hv,← hu];simp
       injection this with this
       rw [this];exact hd
      ·cases hp
     ·cases hp)
    show some (Value.agg ⟨aG _ as'⟩)=_
    rw [h9]
 have RM:Emb (cX θ) (eo ps) st.rs:=by
  intro j r hr
  rw [jZ]at hr
  cases hy:nth ps j with
  | none=>rw [hy]at hr;cases hr
  | some y=>
   rw [hy]at hr
   injection hr with hr
   obtain⟨id,x,h1,h2,h3,_⟩:=dp _ y hy
   rw [Nat.zero_add]at h1
   refine⟨id,x,h1,h2,?_⟩
   cases y with
   | ob t r' s lk=>exact .inl (by rw [← hr,h3.1];rfl)
   | blk g as' T=>
    obtain⟨cs,rfl,hd⟩:=h3
    left
    rw [← hr]
    show Res.blk g (aG _ as') T=_
    rw [ZQ hd fun o v p hv hp=>?_]
    unfold jh at hp
    split at hp
    ·rename_i q hq
     injection hp with hp
     subst hp
     obtain⟨g',cs',T',u,e4,e5,e6⟩:=hk.get hq
     rw [h2]at e4
     injection e4 with e4
     injection e4 with _ e4 _
     subst e4
     rw [hv]at e5
     injection e5 with e5
     subst e5
     exact e6
    ·cases hp
   | lst t own T A c' l=>
    obtain⟨own',T',rfl,ho⟩:=h3
    cases own with
    | false=>exact .inr ⟨t,own',T,T',A,c',l,hr.symm,rfl⟩
    | true=>
     obtain⟨ho1,Q4⟩:=ho rfl
     left
     rw [← hr,ho1,Q4];rfl
 have abl:∀j,j∈c.bq→∀r,nth (eo ps) j=some r→∃i,cX θ j=some i∧nth st.rs i=some r:=by
  intro j hj r hr
  obtain⟨i,r',h1,h2,h3⟩:=RM j r hr
  refine⟨i,h1,?_⟩
  rcases h3 with rfl | ⟨t,own,T,T',A,c',l,rfl,rfl⟩
  ·exact h2
  ·exfalso
   have hm:=cD.1 OO j hj
   rw [jZ]at hr
   cases hy:nth ps j with
   | none=>rw [hy]at hr;cases hr
   | some y=>
    rw [hy]at hr
    injection hr with hr
    obtain⟨_,_,_,_,_,q,hq,hqr⟩:=dp j y hy
    rw [hq]at hm
    have hy1:Lk y=true:=by
     cases y<;>simp only [PR.fin,reduceCtorEq]at hr
     injection hr with e1 e2
     subst e2;rfl
    rw [hy1]at hqr
    cases q<;>simp [Lg]at hqr
    subst hqr
    simp at hm
 have SB:∀j i,cX θ j=some i→X ((cX θ j).getD 0)=X i:=fun j i hj=>by simp [hj]
 have hsat:Sat (eo ps) (fun j=>X ((cX θ j).getD 0)) w:=by
  refine⟨fun j r hr=>?_,fun i j hi hj OH k Pb=>?_⟩
  ·obtain⟨i,r',h1,h2,h3⟩:=RM j r hr
   rw [SB j i h1]
   have:=hI.sat.res i r' h2
   rcases h3 with rfl | ⟨t,own,T,T',A,c',l,rfl,rfl⟩
   ·exact this
   ·exact this.rd
  ·obtain⟨x,hx⟩:=cr hi
   obtain⟨y,hy⟩:=cr hj
   obtain⟨a,_,h1,h2,_⟩:=RM i x hx
   obtain⟨b,_,h3,h4,_⟩:=RM j y hy
   rw [SB i a h1]at Pb
   rw [SB j b h3]
   exact hI.sat.dis a b (aX h2) (aX h4) (fun e=>OH (Rp i j a h1 (e▸h3))) k Pb
 have UI:=g3 _ (g1 _ hlv)
 have Vx:ax (eo ps) fr0 (wg 0 ps):=by
  intro key k hm
  obtain⟨j,t,r,s,lk,p,j',q,e1,e2,rfl,rfl⟩:=jV hm
  rw [Nat.zero_add]
  obtain⟨id,x,h1,h2,h3,_⟩:=dp _ _ e1
  rw [Nat.zero_add]at h1
  obtain⟨h3,h4⟩:=h3
  obtain⟨i,h5,h6⟩:=h4 _ _ _ e2
  refine⟨t,r,s,by rw [jZ,e1];rfl,?_⟩
  dsimp only at h5
  unfold jh at h5
  split at h5
  ·rename_i k' Q5
   injection h5 with h5
   subst h5
   obtain⟨t',r',s',g1,g2⟩:=hk.get Q5
   rw [h2,h3]at g1
   injection g1 with g1
   cases g1
   show den U (eo ps) (.obj j' q 0)=_
   rw [rC]
   exact O5 (p:= .obj j' q 0) (q:= .obj i q 0) (by simp [PK.ren,h6]) g2
  ·cases h5
 have QJ:=UI _ h _ w hsat Vx
 rw [Qv]at QJ
 refine QJ.mono fun e w' hp=>?_
 obtain⟨out,rsl,Xl,rfl,hQ,Oq,PQ⟩:=hp
 split at hQ
 case h_2=>exact hQ.elim
 rename_i rs' Tc
 obtain⟨abB,Zx⟩:=qJ Rp hM Oq Tc RM abl
 obtain⟨u1,u2,u3⟩:=gP Tc
 obtain⟨v1,v2,v3⟩:=gP Oq
 have Uc:∀i,i∈M→i<st.rs.length:=fun i hi=>(u3 i hi).1
 have hkl:c.res.length=ps.length:=lp.symm
 have RB:rsl.length=ps.length:=by rw [v1];simp
 have Rr:Emb (CL θ c.res.length st.rs.length) (rsl++out.news) (rs'++out.news):=by
  intro j r hr
  rw [bo]at hr
  unfold CL
  by_cases hj:j<rsl.length
  ·rw [if_pos hj]at hr
   obtain⟨i,r',h1,h2,h3⟩:=abB j r hr
   have hb:Nat.blt j c.res.length=true:=by rw [Nat.blt_eq];omega
   rw [hb]
   exact⟨i,r',h1,by rw [bo,if_pos (aX h2)];exact h2,h3⟩
  ·rw [if_neg hj]at hr
   have hb:Nat.blt j c.res.length=false:=by
    cases hb:Nat.blt j c.res.length
    ·rfl
    ·rw [Nat.blt_eq]at hb;omega
   rw [hb]
   refine⟨_,r,rfl,?_,.inl rfl⟩
   rw [bo,if_neg (by omega),u1]
   rw [show st.rs.length+(j - c.res.length) - st.rs.length=j - rsl.length by omega]
   exact hr
 let X':Nat→Nat→Prop:=fun i=>open Classical in if h:∃j,j∈c.bq∧cX θ j=some i then Xl h.choose else if i<st.rs.length then X i else Xl (c.res.length+(i - st.rs.length))
 have hXM:∀j i,j∈c.bq→cX θ j=some i→X' i=Xl j:=by
  intro j i hj hi
  have hex:∃j,j∈c.bq∧cX θ j=some i:=⟨j,hj,hi⟩
  show(open Classical in if h:_ then _ else _)=_
  rw [dif_pos hex,Rp _ _ _ hex.choose_spec.2 hi]
 have hMj:∀i,i∈M→∃j,j∈c.bq∧cX θ j=some i:=fun i hi=>yr hM i hi
 have hjM:∀j i,j∈c.bq→cX θ j=some i→i∈M:=by
  intro j i hj hi
  obtain⟨b,hb,TD⟩:=mH hM j hj
  rw [hi]at TD
  injection TD with TD
  exact TD▸hb
 have hXs:∀i,i<st.rs.length→i ∉ M→X' i=X i:=by
  intro i hi hm
  show(open Classical in if h:_ then _ else _)=_
  rw [dif_neg (fun⟨j,hj,OL⟩=>hm (hjM j i hj OL)),if_pos hi]
 have hXn:∀i,st.rs.length≤i→X' i=Xl (c.res.length+(i - st.rs.length)):=by
  intro i hi
  show(open Classical in if h:_ then _ else _)=_
  rw [dif_neg (fun⟨j,hj,OL⟩=>by have:=Uc i (hjM j i hj OL);omega),if_neg (by omega)]
 have T5:∀j,j∈c.bq→j<ps.length:=by
  intro j hj
  obtain⟨b,_,hb⟩:=mH hM j hj
  exact Od j b hb
 have abm:∀j r,j∈c.bq→nth rsl j=some r→nth (rsl++out.news) j=some r:=fun j r hj hr=>by rw [bo,if_pos (aX hr)];exact hr
 have aa8:∀j i r,j∈c.bq→cX θ j=some i→nth rs' i=some r→nth rsl j=some r:=by
  intro j i r hj hi hr
  obtain⟨r0,TZ⟩:=cr (l:=rsl) (i:=j) (by rw [RB];exact T5 j hj)
  obtain⟨i',h1,h2⟩:=Zx j hj r0 TZ
  rw [hi]at h1
  injection h1 with h1
  subst h1
  rw [hr]at h2
  injection h2 with h2
  rw [TZ,h2]
 have hq:Ch (fun k=>∃j,j∈M∧X j k) w w':=PQ.ch.mono fun k ⟨j,hj,hk⟩=>by
  obtain⟨b,hb,TD⟩:=mH hM j hj
  exact⟨b,hb,by rw [SB j b TD]at hk;exact hk⟩
 have UH:∀i,i∈M→∀k,X' i k→X i k∨w.heap.size≤k:=by
  intro i hi k hk
  obtain⟨j,hj,OL⟩:=hMj i hi
  rw [hXM j i hj OL]at hk
  have:=PQ.grow j hj k hk
  rwa [SB j i OL]at this
 have hnlen:(rs'++out.news).length=st.rs.length+out.news.length:=by rw [List.length_append,u1]
 have Vu:∀i,st.rs.length≤i→i<(rs'++out.news).length→∀k,X' i k→w.heap.size≤k:=by
  intro i h1 h2 k hk
  rw [hXn i h1]at hk
  exact PQ.new _ (by simp;omega) (by simp;omega) k hk
 have Pz:∀i,i<st.rs.length→i ∉ M→nth (rs'++out.news) i=nth st.rs i∧X' i=X i:=fun i hi hm=>⟨by rw [bo,if_pos (by omega)];exact u2 i hm,hXs i hi hm⟩
 have hinv:Inv w0 k0 X0 may (rs'++out.news) X' w':=by
  refine hI.step M hq (fun j hj=>⟨Uc j hj,gO (cD.1 OM j hj)⟩) (by omega) Pz ?_ UH Vu ?_
  ·intro i hi r hr
   by_cases VB:i∈M
   ·obtain⟨j,hj,OL⟩:=hMj i VB
    rw [bo,if_pos (by have:=Uc i VB;omega)]at hr
    have h1:=aa8 j i r hj OL hr
    rw [hXM j i hj OL]
    exact PQ.sat.res j r (abm j r hj h1)
   ·have hi:=hi.resolve_left VB
    rw [bo,if_neg (by omega)]at hr
    rw [hXn i hi]
    refine PQ.sat.res _ r ?_
    rw [bo,if_neg (by omega)]
    rw [show c.res.length+(i - st.rs.length) - rsl.length=i - rs'.length by omega]
    exact hr
  ·intro i j hi hj OH h1 h2 k hk
   have key:∀i,(i∈M∨st.rs.length≤i)→i<(rs'++out.news).length→∃a,X' i=Xl a∧a<(rsl++out.news).length∧((i∈M∧a∈c.bq∧cX θ a=some i)∨(st.rs.length≤i∧a=c.res.length+(i - st.rs.length))):=by
    intro i hi hil
    by_cases VB:i∈M
    ·obtain⟨a,ha,hai⟩:=hMj i VB
     exact⟨a,hXM a i ha hai,by have:=T5 a ha;simp;omega,.inl ⟨VB,ha,hai⟩⟩
    ·have hi:=hi.resolve_left VB
     exact⟨_,hXn i hi,by simp;omega,.inr ⟨hi,rfl⟩⟩
   obtain⟨a,ea,la',ca⟩:=key i hi h1
   obtain⟨b,eb,lb,cb⟩:=key j hj h2
   rw [ea]at hk
   rw [eb]
   refine PQ.sat.dis a b la' lb (fun Wi=>?_) k hk
   subst Wi
   rcases ca with⟨m1,m2,m3⟩ | ⟨m1,m2⟩<;>rcases cb with⟨n1,n2,n3⟩ | ⟨n1,n2⟩
   ·rw [m3]at n3;injection n3 with n3;exact OH n3
   ·have:=T5 a m2;omega
   ·have:=T5 a n2;omega
   ·omega
 have hQ:=mF (fun i r hr=>⟨_,_,hinv.sat.res i r hr⟩) hQ
 refine⟨out.res,_,_,X',M,(uZ ..).symm,hQ,PQ.kr.imp (fun e=>by rw [e];rfl) Rr.knO,hinv,?_,rfl,Uc,fun i hi=>gO (cD.1 OM i hi),by simp only [];omega,Pz,UH,Vu,hq,fun i a ha=>by
  by_cases hi:i∈M
  ·obtain⟨b,hb,hr⟩:=(u3 i hi).2 a ha
   exact⟨b,by rw [bo,if_pos (aX hb)];exact hb,hr⟩
  ·exact⟨a,by rw [(Pz i (aX ha) hi).1];exact ha,dK.refl a⟩⟩
 refine ax.app ?_ (ax.fM hk (fun i hi hm=>(Pz i hi hm).1) fun i hi a ha=>?_)
 ·intro key k' Oa
  obtain⟨i,i',o,k,⟨rfl,h1⟩ | ⟨rfl,h1⟩,h2,h3⟩:=jW Oa
  ·obtain⟨g,cs,T,v,e1,e2,e3⟩:=PQ.kc _ k h1 (fun _ e=>by cases e)
   obtain⟨i2,r',f1,f2,f3⟩:=Rr i _ e1
   rw [h2]at f1
   injection f1 with f1
   subst f1
   rcases f3 with rfl | ⟨_,_,_,_,_,_,_,hh,_⟩
   ·exact⟨g,cs,T,v,f2,e2,Rr.kn h3 e3⟩
   ·cases hh
  ·obtain⟨t,r,s,e1,e2⟩:=PQ.kc _ k h1 (fun _ e=>by cases e)
   obtain⟨i2,r',f1,f2,f3⟩:=Rr i _ e1
   rw [h2]at f1
   injection f1 with f1
   subst f1
   rcases f3 with rfl | ⟨_,_,_,_,_,_,_,hh,_⟩
   ·exact⟨t,r,s,f2,Rr.kn h3 e2⟩
   ·cases hh
 ·obtain⟨b,hb,hr⟩:=(u3 i hi).2 a ha
  exact⟨b,by rw [bo,if_pos (aX hb)];exact hb,hr⟩
end
end
section
section
variable {U:Uni} {P:Program} {tbl:Tb U} {may:List Nat} {k0:Nat}
variable {w0:World} {X0 X:Nat→Nat→Prop} {w:World} {fr:Fr} {st:St U} {Qp:Option (List PanicEntry→World→Prop)}
theorem vX:∀ {vs:List Value} {F:Prop},(∀v,v∈vs→one? v True)→F→pN vs F
 | [],_,_,h=>h
 | v::r,F,h1,h=>by
  have h2:=rn (h1 v (List.mem_cons_self ..))
  have h3:=vX (F:=F) (fun u hu=>h1 u (List.mem_cons_of_mem _ hu)) h
  unfold pN one?
  cases v<;>first | exact h3 | exact absurd rfl (h2.2.1 _) | exact absurd rfl (h2.2.2 _)
theorem n5(hI:Inv w0 k0 X0 may st.rs X w)(hk:ax st.rs fr st.kn) {i:Nat} {a b:Res U}(ha:nth st.rs i=some a)(hc:oM may k0 i=true) {w':World}(q:Ch (X i) w w')(Ty:dK a b)(hb:RS (X i) w' b) {kn':List (Key×Kn)}(PH:ax (cK st.rs i b) fr kn'):
 eB w0 k0 X0 may fr st X w ⟨cK st.rs i b,kn',i::st.md⟩ X w' [i]:=by
 have hi:=aX ha
 have hinv:=hI.set hi (gO hc) q hb (fun k hk=>.inl hk)
 have e:vI X i (X i)=X:=by
  funext j
  unfold vI
  split
  ·rename_i h;rw [h]
  ·rfl
 rw [e]at hinv
 exact⟨hinv,PH,rfl,fun j hj=>by simp at hj;subst hj;exact hi,fun j hj=>by simp at hj;subst hj;exact gO hc,by simp,fun j hj OL=>⟨by rw [bA,if_neg (fun hh=>OL (by simp [hh.1]))],rfl⟩,fun _ _ _ h=>.inl h,fun j h1 h2=>by simp at h2;omega,q.mono fun k hk=>⟨i,by simp,hk⟩,fun j c hj=>by
  by_cases OL:j=i
  ·subst OL
   rw [ha]at hj
   injection hj with hj
   subst hj
   exact⟨b,by rw [bA,if_pos ⟨rfl,hi⟩],Ty⟩
  ·exact⟨c,by rw [bA,if_neg (fun hh=>OL hh.1)];exact hj,dK.refl c⟩⟩
theorem pE(hI:Inv w0 k0 X0 may st.rs X w)(hk:ax st.rs fr st.kn) {r:Res U} {Z:Nat→Prop} {w':World}(q:Pu w w')(hr:RS Z w' r)(hz:∀k,Z k→w.heap.size≤k) {kn':List (Key×Kn)}(PH:ax (st.rs++ [r]) fr kn'):
 eB w0 k0 X0 may fr st X w ⟨st.rs++ [r],kn',st.md⟩ (vI X st.rs.length Z) w' []:=
 ⟨hI.more q hr hz,PH,rfl,fun j hj=>(by cases hj),fun j hj=>(by cases hj),by simp,fun i hi _=>⟨by rw [bo,if_pos hi],nT _ _ (by omega)⟩,fun i hi=>(by cases hi),fun i h1 h2 k hk=>by
  simp at h2
  obtain rfl:i=st.rs.length:=by omega
  rw [updX_eq]at hk
  exact hz k hk,q.mono fun k h=>h.elim,fun i a ha=>⟨a,by rw [bo,if_pos (aX ha)];exact ha,dK.refl a⟩⟩
theorem rq(hk:ax st.rs fr st.kn)(r:Res U):ax (st.rs++ [r]) fr st.kn:=
 hk.eW (M:= []) (fun i hi _=>by rw [bo,if_pos hi]) (fun i hi=>by cases hi) fun key k h=>⟨h,fun p _=>.inl (by simp),fun id off _=>.inl (by simp)⟩
theorem Blk.rs {g:Nat} {cs:Array Value} {T:TypeId} {w':World}(h:Blk w' g cs T):RS (U:=U) (fun k=>k=g) w' (.blk g cs.toList T):=⟨rfl,fun _ h=>h,h⟩
theorem qq {α:Type}(vs L:List α)(off:Nat)(h:off+vs.length≤L.length):hO L off vs=L.take off++vs++L.drop (off+vs.length):=by
 apply List.ext_getElem?
 intro j
 rw [← aI,mE _ _ _ _ h,List.append_assoc]
 by_cases h3:off≤j∧j<off+vs.length
 ·rw [if_pos h3,List.getElem?_append_right (by simp;omega),List.getElem?_append_left (by simp;omega),aI]
  congr 1
  simp
  omega
 ·rw [if_neg h3,aI]
  by_cases h4:j<off
  ·rw [List.getElem?_append_left (by simp;omega),List.getElem?_take,if_pos h4]
  ·rw [List.getElem?_append_right (by simp;omega),List.getElem?_append_right (by simp;omega),List.getElem?_drop]
   congr 1
   simp
   omega
theorem ja.cells {rs:List (Res U)} {v:Value} {k:Kn}(h:ja rs v k)(hna:∀l,k≠ .ag l):v.cells= #[v]:=by
 cases k with
 | pan=>exact h.elim
 | ag l=>exact absurd rfl (hna l)
 | p k=>
  have h:cA U k (nth rs k.id)=some v:=h
  cases hn:nth rs k.id with
  | none=>rw [hn]at h;cases k<;>simp [cA]at h
  | some r=>
   rw [hn]at h
   cases k with
   | loc _ _=>cases r<;>simp only [cA,reduceCtorEq,Option.some.injEq]at h;subst h;rfl
   | obj _ _ _=>cases r<;>simp only [cA,reduceCtorEq,Option.some.injEq]at h;subst h;rfl
   | sl _ li=>
    simp only [cA]at h
    split at h
    ·injection h with h;subst h;rfl
    ·cases h
   | el _ li _ _=>
    simp only [cA]at h
    split at h
    ·split at h
     ·injection h with h;subst h;rfl
     ·cases h
    ·cases h
 | t l=>obtain⟨vs,rfl,_⟩:=h;rfl
 | f a b=>obtain⟨f,fs,cs,rfl,_,_⟩:=h;rfl
theorem nA {id:Nat} {key:Key} {q:Kn}:∀ {l:List (Option PK)} {o:Nat},(key,q)∈wH id o l→∃j p,key= .c id (o+j)∧q= .p p∧nth l j=some (some p)
 | [],_,h=>by cases h
 | none::l,o,h=>by
  obtain⟨j,p,h1,h2,h3⟩:=nA (l:=l) (o:=o+1) h
  exact⟨j+1,p,by rw [h1];congr 1;omega,h2,h3⟩
 | some p::l,o,h=>by
  rcases List.mem_cons.1 h with e | h
  ·injection e with e1 e2
   exact⟨0,p,e1,e2,rfl⟩
  ·obtain⟨j,p,h1,h2,h3⟩:=nA (l:=l) (o:=o+1) h
   exact⟨j+1,p,by rw [h1];congr 1;omega,h2,h3⟩
theorem qE {rs:List (Res U)} {v:Value} {ky:Option Kn}(hv:KnO rs v ky) {id off:Nat} {sc:Bool} {key:Key} {q:Kn}(h:(key,q)∈cellsOf id off sc ky):∃j u,key= .c id (off+j)∧nth v.cells.toList j=some u∧ja rs u q:=by
 have one:∀ {k:Kn},ky=some k→(∀l,k≠ .ag l)→(key,q)∈(match sc with | true=>[(Key.c id off,k)] | false=>[])→∃j u,key= .c id (off+j)∧nth v.cells.toList j=some u∧ja rs u q:=by
  intro k hk hna hm
  subst hk
  split at hm
  ·simp only [List.mem_singleton,Prod.mk.injEq]at hm
   obtain⟨rfl,rfl⟩:=hm
   exact⟨0,v,rfl,by rw [ja.cells hv hna];rfl,hv⟩
  ·cases hm
 cases ky with
 | none=>cases h
 | some k=>
  cases k with
  | pan=>cases h
  | ag l=>
   obtain⟨j,p,h1,h2,h3⟩:=nA h
   obtain⟨cs,rfl,hh⟩:=hv
   obtain⟨u,hu,hd⟩:=hh j p h3
   subst h2
   exact⟨j,u,h1,by show nth cs.toList j=_;rw [aI];simpa using hu,hd⟩
  | p p=>exact one rfl (fun l e=>by cases e) h
  | t l=>exact one rfl (fun l e=>by cases e) h
  | f a b=>exact one rfl (fun l e=>by cases e) h
theorem ax.roots {rs rs':List (Res U)} {fr:Fr} {kn:List (Key×Kn)}(h:ax rs fr kn)(hr:∀i a,nth rs i=some a→∃b,nth rs' i=some b∧(a=b∨∃t own T A c l l',a= .lst t own T A c l∧b= .lst t own T A c l'∧l'.length=l.length)):ax rs' fr kn:=by
 have hd:∀p u,den U rs p=some u→den U rs' p=some u:=by
  intro p u hu
  unfold den at hu ⊢
  cases hn:nth rs p.id with
  | none=>rw [hn]at hu;cases p<;>simp [cA]at hu
  | some a=>
   rw [hn]at hu
   obtain⟨b,hb,rfl | ⟨t,own,T,A,c,l,l',rfl,rfl,hl⟩⟩:=hr _ _ hn
   ·rw [hb];exact hu
   ·rw [hb,← hu];cases p<;>simp only [cA,jT,hl]
 intro key k hk
 have h0:=h key k hk
 cases key with
 | s i=>exact ja.mono h0 fun p _=>hd p
 | c id off=>
  obtain⟨g,cs,T,v,e1,e2,e3⟩:=h0
  obtain⟨b,hb,rfl | ⟨_,_,_,_,_,_,_,hh,_⟩⟩:=hr _ _ e1
  ·exact⟨g,cs,T,v,hb,e2,e3.mono fun p _=>hd p⟩
  ·cases hh
 | l id path=>
  obtain⟨t,r,s,e1,e2⟩:=h0
  obtain⟨b,hb,rfl | ⟨_,_,_,_,_,_,_,hh,_⟩⟩:=hr _ _ e1
  ·exact⟨t,r,s,hb,e2.mono fun p _=>hd p⟩
  ·cases hh
theorem jM {t:TypeId} {x y:Operand} {p:Addr} {fr:Fr} {dst:Option Tmp} {ty:TypeId} {pos:String} {after:Array Edge} {gd:Option (Nat×Bool)} {Y:Bool} {K:aB}(hx:ev fr x= .pointer (some p))(OK:I9 P t=false)(Of:Nat.beq (ev fr y).cells.toList.length (bz P t)=true)(hT:hasType P t=true)
 (h1:∀v,v∈(ev fr y).cells.toList→one? v True)(h:aF w p (ev fr y).cells.toList fun w'=>K undef w'):opW P Y Qp ⟨dst,.store t x y,ty,pos,after,gd⟩ (ev fr) w K:=by
 refine C4 (C:= []) rfl ?_
 show(match ev fr x with
  | .pointer a=>match dS P t with
   | .row n=>(match hasType P t && Nat.beq n (bz P t),ev fr y with
    | true,.agg cs=>aA a fun p=>cs.size=n∧(∀v∈cs.toList,one? v True)∧aF w p cs.toList fun w'=>K undef w'
    | _,_=>False)
   | _=>match Nat.beq (ev fr y).cells.toList.length (bz P t) && hasType P t with
    | true=>aA a fun p=>pN (ev fr y).cells.toList (aF w p (ev fr y).cells.toList fun w'=>K undef w')
    | false=>False
  | _=>False)
 rw [hx]
 unfold I9 at OK
 cases hs:dS P t with
 | row n=>rw [hs]at OK;cases OK
 | one s=>simp only [Of,hT];exact ao p rfl (vX h1 h)
 | agg l=>simp only [Of,hT];exact ao p rfl (vX h1 h)
theorem step_done {K:fI U} {st':St U} {X':Nat→Nat→Prop} {w':World} {M l:List Nat} {v:Value} {k:Option Kn}(hs:eB w0 k0 X0 may fr st X w st' X' w' M)(hv:KnO st'.rs v k)(h:nmL st'.rs l fun Oo=>K v k ⟨Oo,st'.kn,st'.md⟩):
 ∃k st' X' M,K v k st'∧KnO st'.rs v k∧eB w0 k0 X0 may fr st X w st' X' w' M:=
 ⟨k,st',X',M,mF (F:=fun Oo=>K v k ⟨Oo,st'.kn,st'.md⟩) (fun i r hr=>⟨_,_,hs.inv.sat.res i r hr⟩) h,hv,hs⟩
theorem vZ {tt:Nat} {r:Nat→Nat} {s s':U.ty tt} {id:Nat} {K:fI U}(hI:Inv w0 k0 X0 may st.rs X w)(hk:ax st.rs fr st.kn)(hn:nth st.rs id=some (.ob tt r s))(OM:oM may k0 id=true) {w2:World}(hq:Ch (X id) w w2)(Oh:U.pred tt r s' (X id) w2)
 (hK:nmL (cK st.rs id (.ob tt r s')) [id] fun Oo=>K undef none ⟨Oo,fM [id] st.kn,id::st.md⟩):
 ∃k st' X' M,K undef k st'∧KnO st'.rs undef k∧eB w0 k0 X0 may fr st X w st' X' w2 M:=by
 refine step_done (k:=none) (st':=⟨cK st.rs id (.ob tt r s'),fM [id] st.kn,id::st.md⟩) (n5 hI hk hn OM hq (.ob tt r s s') Oh ?_) trivial hK
 refine hk.fM (M:= [id]) (fun i _ hi=>by rw [bA,if_neg (fun hh=>hi (by simp [hh.1]))]) fun i hi a ha=>?_
 simp only [List.mem_singleton]at hi
 subst hi
 rw [hn]at ha
 injection ha with ha
 subst ha
 exact⟨_,by rw [bA,if_pos ⟨rfl,aX hn⟩],.ob tt r s s'⟩
theorem Be {t:TypeId} {x y:Operand} {p:Addr} {n:Nat} {cs:Array Value} {fr:Fr} {dst:Option Tmp} {ty:TypeId} {pos:String} {after:Array Edge} {gd:Option (Nat×Bool)} {Y:Bool} {K:aB}(hx:ev fr x= .pointer (some p))(OK:dS P t= .row n)(hy:ev fr y= .agg cs)(hn:Nat.beq n (bz P t)=true)(hc:cs.size=n)(hT:hasType P t=true)
 (h1:∀v,v∈cs.toList→one? v True)(h:aF w p cs.toList fun w'=>K undef w'):opW P Y Qp ⟨dst,.store t x y,ty,pos,after,gd⟩ (ev fr) w K:=by
 refine C4 (C:= []) rfl ?_
 show(match ev fr x with
  | .pointer a=>match dS P t with
   | .row n=>(match hasType P t && Nat.beq n (bz P t),ev fr y with
    | true,.agg cs=>aA a fun p=>cs.size=n∧(∀v∈cs.toList,one? v True)∧aF w p cs.toList fun w'=>K undef w'
    | _,_=>False)
   | _=>match Nat.beq (ev fr y).cells.toList.length (bz P t) && hasType P t with
    | true=>aA a fun p=>pN (ev fr y).cells.toList (aF w p (ev fr y).cells.toList fun w'=>K undef w')
    | false=>False
  | _=>False)
 rw [hx,OK,hy]
 simp only [hT,hn,Bool.and_self]
 exact ao p rfl ⟨hc,h1,h⟩
theorem xR {t:TypeId} {x y:Operand} {K:fI U}(hI:Inv w0 k0 X0 may st.rs X w)(hk:ax st.rs fr st.kn)(h:vK U P may k0 t (kf st.kn x) (ev fr y) st K) {Y:Bool} {dst:Option Tmp} {ty:TypeId} {pos:String} {after:Array Edge} {gd:Option (Nat×Bool)}:
 opW P Y Qp ⟨dst,.store t x y,ty,pos,after,gd⟩ (ev fr) w fun v w'=>∃k st' X' M,K v k st'∧KnO st'.rs v k∧eB w0 k0 X0 may fr st X w st' X' w' M:=by
 unfold vK at h
 have PG:=hk.kf x
 split at h
 ·rename_i n id path off cs OK PH hy
  rw [PH]at PG
  split at h
  ·rename_i tt r s hb hn OM
   obtain⟨h,h1⟩:=gK h
   simp only [Bool.and_eq_true]at hb
   split at h
   ·rename_i c s' PF
    obtain⟨hc,hK⟩:=h
    have hd:den U st.rs (.obj id path off)=some (ev fr x):=PG
    simp only [den,PK.id,hn,cA,Option.some.injEq]at hd
    have hp:U.pred tt r s (X id) w:=hI.sat.res id _ hn
    exact Be (p:=⟨r path,off,none⟩) hd.symm OK hy hb.2.1 (by have:=Nat.eq_of_beq_eq_true hb.2.2;simpa using this) hb.1 h1 (U.rJ hp PF hc fun w2 Oh hq=>vZ hI hk hn OM hq Oh hK)
   ·exact h.elim
  ·exact h.elim
 ·exact h.elim
theorem Bf {t:TypeId} {x y:Operand} {K:fI U}(hI:Inv w0 k0 X0 may st.rs X w)(hk:ax st.rs fr st.kn)(h:Bg U P may k0 t (kf st.kn x) (ev fr y) (kf st.kn y) st K) {Y:Bool} {dst:Option Tmp} {ty:TypeId} {pos:String} {after:Array Edge} {gd:Option (Nat×Bool)}:
 opW P Y Qp ⟨dst,.store t x y,ty,pos,after,gd⟩ (ev fr) w fun v w'=>∃k st' X' M,K v k st'∧KnO st'.rs v k∧eB w0 k0 X0 may fr st X w st' X' w' M:=by
 unfold Bg at h
 split at h
 ·exact xR hI hk h
 split at h
 ·exact h.elim
 rename_i Pf
 simp only [Bool.and_eq_true,Bool.not_eq_true']at Pf
 obtain⟨OK,Of,hT⟩:=Pf
 have PW:(ev fr y).cells.toList.length=bz P t:=Nat.eq_of_beq_eq_true Of
 have PG:=hk.kf x
 have hky:=hk.kf y
 split at h
 ·rename_i id off PH
  rw [PH]at PG
  split at h
  ·rename_i g cs T hn OM
   split at h
   ·rename_i hb
    obtain⟨h,h1⟩:=gK h
    have hb:off+bz P t≤cs.length:=Nat.le_of_ble_eq_true hb
    have hd:den U st.rs (.loc id off)=some (ev fr x):=PG
    simp only [den,PK.id,hn,cA,Option.some.injEq]at hd
    obtain⟨hg,hX,VJ⟩:=hI.sat.res id _ hn
    refine jM hd.symm OK Of hT h1 ⟨g,off,⟨cs⟩,T,rfl,VJ,by simpa [PW]using hb,fun w2 hs=>?_⟩
    rw [qs]at hs
    have q:Ch (X id) w w2:=(bG.ch hs).mono fun k e=>e▸hg
    refine⟨none,_,X,[id],h,trivial,n5 hI hk hn OM q (.blk g cs (hO cs off (ev fr y).cells.toList) T (by simp)) (show RS (X id) w2 (.blk g (hO cs off (ev fr y).cells.toList) T)from⟨hg,hX,hs.blk⟩) ?_⟩
    have O9:∀i,i∈ [id]→∀a,nth st.rs i=some a→∃b,nth (cK st.rs id (.blk g (hO cs off (ev fr y).cells.toList) T)) i=some b∧dK a b:=by
     intro i hi a ha
     simp at hi
     subst hi
     rw [hn]at ha
     injection ha with ha
     subst ha
     exact⟨_,by rw [bA,if_pos ⟨rfl,aX hn⟩],.blk _ _ _ _ (by simp)⟩
    have Sx:∀i,i<st.rs.length→i ∉ [id]→nth (cK st.rs id (.blk g (hO cs off (ev fr y).cells.toList) T)) i=nth st.rs i:=fun i _ hi=>by rw [bA,if_neg (fun hh=>hi (by simp [hh.1]))]
    have Vs:∀ {k:Kn} {v:Value},ja st.rs v k→∀p,k.has p→p.id ∉ [id]∨p.ofList p.id=false:=by
     intro k v Q0 p hp
     by_cases V7:p.id=id
     ·right
      cases ho:p.ofList p.id
      ·rfl
      ·exfalso
       have hdd:∃u,den U st.rs p=some u:=by
        cases k with
        | pan=>exact hp.elim
        | p k=>cases hp;exact⟨_,Q0⟩
        | t l=>obtain⟨j,hj⟩:=hp;obtain⟨vs,_,h3⟩:=Q0;obtain⟨u,_,hu⟩:=h3 j p hj;exact⟨u,hu⟩
        | ag l=>obtain⟨j,hj⟩:=hp;obtain⟨vs,_,h3⟩:=Q0;obtain⟨u,_,hu⟩:=h3 j p hj;exact⟨u,hu⟩
        | f a b=>
         obtain⟨f,fs,cs,_,_,h3,h4⟩:=Q0
         rcases hp with⟨j,hj⟩ | ⟨j,hj⟩
         ·obtain⟨u,_,hu⟩:=h3 j p hj;exact⟨u,hu⟩
         ·obtain⟨u,_,hu⟩:=h4 j p hj;exact⟨u,hu⟩
       obtain⟨u,hu⟩:=hdd
       unfold den at hu
       rw [V7,hn]at hu
       cases p<;>simp_all [cA,PK.ofList,PK.id,jT]
     ·exact .inl (by simpa using V7)
    refine ax.app ?_ (hk.eW Sx O9 fun key k hm=>?_)
    ·intro key q hq
     obtain⟨j,u0,rfl,hu0,Q0⟩:=qE hky hq
     refine⟨g,_,T,u0,by rw [bA,if_pos ⟨rfl,aX hn⟩],?_,Q0.mono fun p hp u hu=>oD Sx O9 (Vs Q0 p hp) hu⟩
     have hj:=aX hu0
     rw [mE _ _ _ _ (by omega),if_pos ⟨by omega,by omega⟩,show off+j - off=j by omega,hu0]
    ·obtain⟨UC,QH⟩:=dF hm
     have h0:=hk _ _ UC
     refine⟨UC,?_,fun id' off' e=>?_⟩
     ·cases key with
      | s i=>exact Vs h0
      | c i o=>obtain⟨_,_,_,_,_,_,h0⟩:=h0;exact Vs h0
      | l i o=>obtain⟨_,_,_,_,h0⟩:=h0;exact Vs h0
     ·subst e
      by_cases hi:id'=id
      ·subst hi
       right
       obtain⟨g',cs',T',v,e1,_⟩:=h0
       rw [hn]at e1
       injection e1 with e1
       injection e1 with e1 e2 e3
       subst e1;subst e2;subst e3
       refine⟨g,cs,_,T,hn,by rw [bA,if_pos ⟨rfl,aX hn⟩],?_⟩
       rw [mE _ _ _ _ (by omega),if_neg]
       simp only [Key.Dh,Nat.beq_refl,Bool.true_and,Bool.not_eq_true',Bool.and_eq_false_iff]at QH
       rintro⟨h3,h4⟩
       rcases QH with h5 | h5
       ·rw [Nat.ble_eq_true_of_le h3]at h5;cases h5
       ·have:Nat.blt off' (off+bz P t)=true:=by rw [Nat.blt_eq];omega
        rw [this]at h5;cases h5
      ·exact .inl (by simpa using hi)
   ·exact h.elim
  ·exact h.elim
 ·rename_i id i off PH
  rw [PH]at PG
  split at h
  ·rename_i tt T A c l hn OM
   split at h
   ·rename_i hb
    obtain⟨h,h1⟩:=gK h
    have hb:off+bz P t≤(U.en tt).size:=Nat.le_of_ble_eq_true hb
    obtain⟨x',Uw,hK⟩:=dA h
    have hd:den U st.rs (.el id 0 i off)=some (ev fr x):=PG
    simp only [den,PK.id,hn,cA,jT]at hd
    split at hd
    case isFalse=>cases hd
    rename_i hr
    injection hd with hd
    obtain⟨ho,Od⟩:Own w (X id) T A l.length c l∧∀k,X id k→k<w.heap.size:=hI.sat.res id _ hn
    have V9:i.toNat<l.length:=by omega
    obtain⟨g,hA,hZ,hgl⟩:=ho.lt (by omega)
    have TA:=ho.len
    have PI:l[i.toNat]? =some (l.getD i.toNat (U.df tt)):=by rw [List.getD_eq_getElem?_getD,List.getElem?_eq_getElem (by omega)];rfl
    have VE:=U.g8 Uw
    have hel:(U.en tt).enc (l.getD i.toNat (U.df tt))=enc (l.getD i.toNat (U.df tt)):=rfl
    have hlen:(enc (l.getD i.toNat (U.df tt))).length=(U.en tt).size:=cw _
    have Vl:enc x'=(enc (l.getD i.toNat (U.df tt))).take off++(ev fr y).cells.toList++(enc (l.getD i.toNat (U.df tt))).drop (off+(ev fr y).cells.toList.length):=by
     show(U.en tt).enc x'=_
     rw [VE,hel]
     exact qq _ _ _ (by rw [hlen,PW];exact hb)
    refine jM (p:=elA U tt A i off) hd.symm OK Of hT h1 ?_
    have PF:=ho.st (p:=Addr.mk g 0 none) hA V9 PI (o:=off) (vs:=(ev fr y).cells.toList) (by rw [PW];exact hb) Vl (K:=fun w2=>∃k st' X' M,K undef k st'∧KnO st'.rs undef k∧eB w0 k0 X0 may fr st X w st' X' w2 M) (fun w2 Q4 hq=>by
     refine step_done (k:=none) (st':=⟨cK st.rs id (.lst tt true T A c (l.set i.toNat x')),st.kn,id::st.md⟩) (n5 hI hk hn OM hq (.lst tt true T A A c c l (l.set i.toNat x')) (show RS (X id) w2 (.lst tt true T A c (l.set i.toNat x'))from⟨by rw [List.length_set];exact Q4,fun k hk=>Nat.lt_of_lt_of_le (Od k hk) hq.size⟩) ?_) trivial hK
     refine hk.roots fun j a ha=>?_
     by_cases hj:j=id
     ·subst hj
      rw [hn]at ha
      injection ha with ha
      exact⟨_,by rw [bA,if_pos ⟨rfl,aX hn⟩],.inr ⟨_,_,_,_,_,_,_,ha.symm,rfl,List.length_set ..⟩⟩
     ·exact⟨a,by rw [bA,if_neg (fun hh=>hj hh.1)];exact ha,.inl rfl⟩)
    unfold elA
    rw [hA]
    exact PF
   ·exact h.elim
  ·rename_i tt r s hn OM
   split at h
   ·rename_i L hL
    split at h
    ·rename_i hb
     obtain⟨h,h1⟩:=gK h
     have hb:off+bz P t≤(U.en L.t).size:=Nat.le_of_ble_eq_true hb
     obtain⟨x',Uw,h⟩:=dA h
     split at h
     ·rename_i c s' PF
      obtain⟨hc,hK⟩:=h
      have hd:den U st.rs (.el id 0 i off)=some (ev fr x):=PG
      simp only [den,PK.id,hn,cA,jT,hL]at hd
      split at hd
      case isFalse=>cases hd
      rename_i hr
      injection hd with hd
      have hp:U.pred tt r s (X id) w:=hI.sat.res id _ hn
      have PI:L.l[i.toNat]? =some (L.l.getD i.toNat (U.df L.t)):=by rw [List.getD_eq_getElem?_getD,List.getElem?_eq_getElem (by omega)];rfl
      have VE:=U.g8 Uw
      have hlen:((U.en L.t).enc (L.l.getD i.toNat (U.df L.t))).length=(U.en L.t).size:=(U.en L.t).len _
      have Vl:(U.en L.t).enc x'=((U.en L.t).enc (L.l.getD i.toNat (U.df L.t))).take off++(ev fr y).cells.toList++((U.en L.t).enc (L.l.getD i.toNat (U.df L.t))).drop (off+(ev fr y).cells.toList.length):=by
       rw [VE]
       exact qq _ _ _ (by rw [hlen,PW];exact hb)
      refine jM (p:=elA U L.t L.A i off) hd.symm OK Of hT h1 ?_
      exact U.r5 hp hL PI (by rw [PW];exact hb) Vl PF hc fun w2 Oh hq=>vZ hI hk hn OM hq Oh hK
     ·exact h.elim
    ·exact h.elim
   ·exact h.elim
  ·exact h.elim
 ·rename_i id path off PH
  rw [PH]at PG
  split at h
  ·rename_i tt r s v hn OM OP
   obtain⟨h,h1⟩:=gK h
   split at h
   ·rename_i c s' PF
    obtain⟨hc,hK⟩:=h
    have hd:den U st.rs (.obj id path off)=some (ev fr x):=PG
    simp only [den,PK.id,hn,cA,Option.some.injEq]at hd
    have hp:U.pred tt r s (X id) w:=hI.sat.res id _ hn
    rw [OP]at PW
    refine jM (p:=⟨r path,off,none⟩) hd.symm OK Of hT (by rw [OP];exact h1) ?_
    rw [OP]
    exact U.sQ hp PF hc fun w2 Oh hq=>vZ hI hk hn OM hq Oh hK
   ·exact h.elim
  ·rename_i tt r s v v2 vs hn OM OP
   obtain⟨h,h1⟩:=gK h
   split at h
   ·rename_i c s' PF
    obtain⟨hc,hK⟩:=h
    have hd:den U st.rs (.obj id path off)=some (ev fr x):=PG
    simp only [den,PK.id,hn,cA,Option.some.injEq]at hd
    have hp:U.pred tt r s (X id) w:=hI.sat.res id _ hn
    refine jM (p:=⟨r path,off,none⟩) hd.symm OK Of hT (by rw [OP];exact h1) ?_
    rw [OP]
    exact U.rJ hp PF hc fun w2 Oh hq=>vZ hI hk hn OM hq Oh hK
   ·exact h.elim
  ·exact h.elim
 ·exact h.elim
theorem EC {t:TypeId} {z:Value}(h:(P.info? t).bind (·.zero)=some z)(w:World):(Instr.alloc t true (.tuple #[])).run P w= .ok (.pointer (some ⟨w.heap.size,0,none⟩)) (w.alloc (.cells z.cells t)):=by
 cases hi:P.info? t with
 | none=>rw [hi]at h;cases h
 | some i=>
  rw [hi]at h
  have h:i.zero=some z:=h
  have hz:(zeroValue t).run P w= .ok z w:=by
   unfold zeroValue
   rw [Sem.run_bind,run_typeInfo (w:=w) hi,Result.andThen_ok,h]
   rfl
  unfold Instr.alloc
  rw [Sem.run_bind,hz,Result.andThen_ok]
  rfl
theorem yp {cs:List Value} {T:TypeId} {ck:Option Kn} {K:fI U}(hI:Inv w0 k0 X0 may st.rs X w)(hk:ax st.rs fr st.kn) {v0:Value}(Pf:KnO st.rs v0 ck)(OP:ck=none∨v0.cells.toList=cs)(h:Jm U cs T ck st K):
 ∃k st' X' M,K (.pointer (some ⟨w.heap.size,0,none⟩)) k st'∧KnO st'.rs (.pointer (some ⟨w.heap.size,0,none⟩)) k∧eB w0 k0 X0 may fr st X w st' X' (w.alloc (.cells ⟨cs⟩ T)) M:=by
 have hm:Made w w.heap.size ⟨cs⟩ T (w.alloc (.cells ⟨cs⟩ T)):=made rfl rfl
 unfold Jm at h
 split at h
 ·rename_i t s hmk
  have QI:nth (st.rs++ [Res.ob t (fun _=>w.heap.size) s]) st.rs.length=some (.ob t (fun _=>w.heap.size) s):=by rw [bo,if_neg (by omega),Nat.sub_self];rfl
  refine step_done (pE hI hk hm.pu (Z:=fun k=>k=w.heap.size) (show RS (fun k=>k=w.heap.size) _ (.ob t (fun _=>w.heap.size) s)from U.v7 hmk hm.blk) (fun k e=>by rw [e];exact Nat.le_refl _) (rq hk _)) ?_ (h w.heap.size)
  show den U _ (.obj _ 0 0)=_
  simp only [den,PK.id,QI,cA]
 have QI:nth (st.rs++ [Res.blk w.heap.size cs T]) st.rs.length=some (.blk w.heap.size cs T):=by rw [bo,if_neg (by omega),Nat.sub_self];rfl
 refine⟨_,_,_,[],h w.heap.size,?_,pE hI hk hm.pu (Z:=fun k=>k=w.heap.size) (show RS (fun k=>k=w.heap.size) _ (.blk w.heap.size cs T)from⟨rfl,fun _ h=>h,hm.blk⟩) (fun k e=>by rw [e];exact Nat.le_refl _) (ax.app ?_ (rq hk _))⟩
 ·show den U _ (.loc _ 0)=_
  simp only [den,PK.id,QI,cA]
 ·intro key q hq
  obtain⟨j,u,rfl,hu,Q0⟩:=qE Pf hq
  rcases OP with rfl | OP
  ·cases hq
  rw [OP]at hu
  rw [Nat.zero_add]
  exact⟨_,cs,T,u,QI,hu,Q0.mono fun p hp u hu=>oD (M:= []) (fun i hi _=>by rw [bo,if_pos hi]) (fun i hi=>by cases hi) (.inl (by simp)) hu⟩
theorem yT {tt:Nat}:∀ {n:Nat} {cs:List Value} {l:List (U.el tt)},Ep U tt n cs=some l→l.length=n∧l.flatMap enc=cs
 | 0,[],l,h=>by simp only [Ep,Option.some.injEq]at h;subst h;exact⟨rfl,rfl⟩
 | 0,_::_,l,h=>by simp [Ep]at h
 | n+1,cs,l,h=>by
  simp only [Ep]at h
  split at h
  ·rename_i x r hx hr
   injection h with h
   subst h
   obtain⟨h1,h2⟩:=yT hr
   refine⟨by simp [h1],?_⟩
   have h3:enc x=jK (U.en tt).size cs:=U.g8 hx
   rw [List.flatMap_cons,h2,h3,fv,gp,List.take_append_drop]
  ·cases h
theorem r9 {t e:TypeId} {tt:Nat} {ie:TypeInfo} {z:Value}(h:Gd U P t=some (e,tt,ie,z)):SN P t e z (U.en tt).size ie.bytes∧P.info? e=some ie∧ie.zero=some z∧ie.size=(U.en tt).size∧0<ie.bytes:=by
 unfold Gd at h
 split at h
 ·rename_i e' hu
  split at h
  ·rename_i tt' ie' _ hi
   split at h
   ·rename_i z' hz
    split at h
    ·rename_i hb
     simp only [Option.some.injEq,Prod.mk.injEq]at h
     obtain⟨rfl,rfl,rfl,rfl⟩:=h
     simp only [Bool.and_eq_true]at hb
     have h1:=Nat.eq_of_beq_eq_true hb.1
     have h2:=Nat.eq_of_beq_eq_true hb.2.1
     have h3:0<ie'.bytes:=by simpa [Nat.blt_eq]using hb.2.2
     exact⟨⟨hu,⟨ie',hi,hz,h1,rfl⟩,by rw [← h1,← h2];simp,(U.en tt').pos⟩,hi,hz,h1,h3⟩
    ·cases h
   ·cases h
  ·cases h
 ·cases h
theorem Gc {tt:Nat} {x:Operand} {F:List (U.el tt)→Prop}(hS:Sat st.rs X w)(hk:ax st.rs fr st.kn)(h:K9 U tt (ev fr x) (kf st.kn x) st F):∃(l:List (U.el tt))(A:Option Addr)(c:Nat)(Y:Nat→Prop),ev fr x= .slice A l.length c∧Rd w Y A l.length c l∧F l:=by
 have PG:=hk.kf x
 unfold K9 at h
 split at h
 ·rename_i id li PH
  rw [PH]at PG
  have hd:den U st.rs (.sl id li)=some (ev fr x):=PG
  split at h
  ·rename_i r hn
   split at h
   ·rename_i L hL
    simp only [den,PK.id,hn,cA,hL,Option.some.injEq]at hd
    split at h
    ·rename_i ht
     have hr:=(hS.res id _ hn).ls hL
     obtain⟨t',A,c,l⟩:=L
     cases ht
     exact⟨l,A,c,_,hd.symm,hr,h⟩
    ·exact h.elim
   ·exact h.elim
  ·exact h.elim
 ·split at h
  ·rename_i d hx
   exact⟨[],none,d,_,hx,Rd.nil,h⟩
  ·exact h.elim
theorem yw {rs:List (Res U)} {r:Res U}:nth (rs++ [r]) rs.length=some r:=by rw [bo,if_neg (by omega),Nat.sub_self];rfl
theorem sC {tt:Nat} {T:TypeId} {A:Option Addr} {c:Nat} {l:List (U.el tt)} {K:fI U}(hI:Inv w0 k0 X0 may st.rs X w)(hk:ax st.rs fr st.kn) {w':World}(q:Pu w w') {Z:Nat→Prop}(ho:Own w' Z T A l.length c l)(hz:∀k,Z k→w.heap.size≤k) {v:Value}(hv:v= .slice A l.length c)
 (h:nmL (st.rs++ [.lst tt true T A c l]) [st.rs.length] fun Oo=>K v (some (.p (.sl st.rs.length 0))) ⟨Oo,st.kn,st.md⟩):
 ∃k st' X' M,K v k st'∧KnO st'.rs v k∧eB w0 k0 X0 may fr st X w st' X' w' M:=by
 refine step_done (st':=⟨st.rs++ [.lst tt true T A c l],st.kn,st.md⟩) (pE hI hk q (Z:=fun k=>Z k∧k<w'.heap.size) (show RS (fun k=>Z k∧k<w'.heap.size) _ (.lst tt true T A c l)from⟨ho.narrow,fun k hk=>hk.2⟩) (fun k hk=>hz k hk.1) (rq hk _)) ?_ h
 show den U _ (.sl _ 0)=_
 simp only [den,PK.id,yw,cA,jT,hv]
theorem DV(hI:Inv w0 k0 X0 may st.rs X w) {i:Nat} {a b:Res U}(ha:nth st.rs i=some a)(hc:oM may k0 i=true) {w':World}(q:Ch (X i) w w')(Ty:dK a b) {Z:Nat→Prop}(hb:RS Z w' b)(hz:∀k,Z k→X i k∨w.heap.size≤k) {kn':List (Key×Kn)}(PH:ax (cK st.rs i b) fr kn'):
 eB w0 k0 X0 may fr st X w ⟨cK st.rs i b,kn',i::st.md⟩ (vI X i Z) w' [i]:=by
 have hi:=aX ha
 exact⟨hI.set hi (gO hc) q hb hz,PH,rfl,fun j hj=>by simp at hj;subst hj;exact hi,fun j hj=>by simp at hj;subst hj;exact gO hc,by simp,fun j hj OL=>⟨by rw [bA,if_neg (fun hh=>OL (by simp [hh.1]))],nT _ _ (by simpa using OL)⟩,fun j hj k hk=>by
  simp at hj;subst hj;rw [updX_eq]at hk;exact hz k hk,fun j h1 h2=>by simp at h2;omega,q.mono fun k hk=>⟨i,by simp,hk⟩,fun j c hj=>by
  by_cases OL:j=i
  ·subst OL
   rw [ha]at hj
   injection hj with hj
   subst hj
   exact⟨b,by rw [bA,if_pos ⟨rfl,hi⟩],Ty⟩
  ·exact⟨c,by rw [bA,if_neg (fun hh=>OL hh.1)];exact hj,dK.refl c⟩⟩
theorem Bu {tt:Nat} {z:Value} {x:U.el tt}(hx:enc x=z.cells.toList)(n:Nat):(List.replicate n x).flatMap enc=(madeCells z.cells (n*(U.en tt).size)).toList:=by
 have hs:z.cells.size=(U.en tt).size:=by have:=cw x;rw [hx]at this;simpa using this
 have hp:0<Enc.size (U.el tt):=Enc.pos
 apply List.ext_getElem?
 intro j
 by_cases hj:j<n*Enc.size (U.el tt)
 ·have hq:j / Enc.size (U.el tt)<n:=(Nat.div_lt_iff_lt_mul hp).2 hj
  have hr:j % Enc.size (U.el tt)<Enc.size (U.el tt):=Nat.mod_lt _ hp
  have h4:=flat_get (List.replicate n x) (j / Enc.size (U.el tt)) (j % Enc.size (U.el tt)) x (by rw [List.getElem?_replicate,if_pos hq]) hr
  have h5:j / Enc.size (U.el tt)*Enc.size (U.el tt)+j % Enc.size (U.el tt)=j:=by rw [Nat.mul_comm];exact Nat.div_add_mod j _
  rw [h5]at h4
  rw [h4,hx]
  have Ro:j<n*(U.en tt).size:=hj
  have NV:j % (U.en tt).size<z.cells.size:=by rw [hs];exact hr
  have e1:(madeCells z.cells (n*(U.en tt).size)).toList[j]? =some (z.cells[j % z.cells.size]!):=by
   simp [madeCells,Ro]
  rw [e1,hs]
  show z.cells.toList[j % (U.en tt).size]? =_
  rw [Array.getElem?_toList,Array.getElem?_eq_getElem NV,getElem!_pos z.cells _ NV]
 ·rw [List.getElem?_eq_none (by rw [eK,List.length_replicate];omega),List.getElem?_eq_none (by rw [Array.length_toList,size_madeCells];exact Nat.le_of_not_lt hj)]
def Fc(fr:Fr)(w0:World)(k0:Nat)(X0:Nat→Nat→Prop)(may:List Nat)(st:St U)(X:Nat→Nat→Prop)(w:World)(K:fI U):Option (List PanicEntry→World→Prop):=
 some fun ch w'=>∃v st' X' M,ch= [⟨v,false,false⟩]∧K v (some .pan) st'∧eB w0 k0 X0 may fr st X w st' X' w' M
theorem GA {Y:Bool} {q:List PanicEntry→World→Prop} {o:Oper} {ρ:Operand→Value} {K:aB}(h:opW P Y (some q) o ρ w K)(hq:∀ch w',q ch w'→False):opW P Y none o ρ w K:=by
 refine⟨h.1,?_⟩
 have h2:=h.2
 generalize (execOp ρ o).run P w=r at h2 ⊢
 cases r with
 | ok nx w'=>
  cases nx<;>simp only [Out]at h2 ⊢
  case value v=>exact h2
  case skip=>exact h2
  case enter f args=>exact h2.mono fun e w'' he=>he.imp id fun⟨ch,_,h2⟩=>(hq _ _ h2).elim
  case round l f tmps assign body=>exact⟨h2.1,h2.2.mono fun e w'' he=>he.imp id fun⟨ch,_,h2⟩=>(hq _ _ h2).elim⟩
 | halt x w'=>
  cases x<;>simp only [Out]at h2 ⊢
  exact(hq _ _ h2).elim
theorem C3 {Y:Bool} {q q':List PanicEntry→World→Prop} {o:Oper} {ρ:Operand→Value} {K:aB}(h:opW P Y (some q) o ρ w K)(hq:∀ch w',q ch w'→q' ch w'):opW P Y (some q') o ρ w K:=by
 refine⟨h.1,?_⟩
 have h2:=h.2
 generalize (execOp ρ o).run P w=r at h2 ⊢
 cases r with
 | ok nx w'=>
  cases nx<;>simp only [Out]at h2 ⊢
  case value v=>exact h2
  case skip=>exact h2
  case enter f args=>exact h2.mono fun e w'' he=>he.imp id fun⟨ch,h1,h2⟩=>⟨ch,h1,hq _ _ h2⟩
  case round l f tmps assign body=>exact⟨h2.1,h2.2.mono fun e w'' he=>he.imp id fun⟨ch,h1,h2⟩=>⟨ch,h1,hq _ _ h2⟩⟩
 | halt x w'=>
  cases x<;>simp only [Out]at h2 ⊢
  exact hq _ _ h2
theorem sA {Y:Bool} {Qp:Option (List PanicEntry→World→Prop)} {o:Oper} {ρ:Operand→Value} {K K':aB}(h:opW P Y Qp o ρ w K)(hK:∀v w',K v w'→K' v w'):opW P Y Qp o ρ w K':=by
 refine⟨h.1,?_⟩
 have h2:=h.2
 generalize (execOp ρ o).run P w=r at h2 ⊢
 cases r with
 | ok nx w'=>
  cases nx<;>simp only [Out]at h2 ⊢
  case value v=>exact hK _ _ h2
  case skip=>exact hK _ _ h2
  case enter f args=>exact h2.mono fun e w'' he=>he.imp (fun⟨v,h1,h2⟩=>⟨v,h1,hK _ _ h2⟩) id
  case round l f tmps assign body=>exact⟨h2.1,h2.2.mono fun e w'' he=>he.imp (fun⟨v,h1,h2⟩=>⟨v,h1,hK _ _ h2⟩) id⟩
 | halt x w'=>
  cases x<;>simp only [Out]at h2 ⊢
  exact h2
theorem Inv.KJ {rs rs':List (Res U)}(h:Inv w0 k0 X0 may rs X w)(hl:rs'.length≤rs.length)(he:∀i,i<rs'.length→nth rs' i=nth rs i)(hk:k0≤rs'.length):Inv w0 k0 X0 may rs' X w:=
 ⟨⟨fun i r hr=>h.sat.res i r (by rw [← he i (aX hr)];exact hr),fun i j hi hj=>h.sat.dis i j (by omega) (by omega)⟩,h.ch,h.old,fun i h1 h2=>h.new i h1 (by omega),hk⟩
theorem C0 {k:Option Kn} {B:Prop}(h:Bp k False B):B:=by
 unfold Bp at h
 split at h
 ·exact h.elim
 ·exact h
theorem G6:∀ {s:Sh} {F:Value→Prop},ML s F→∃v,F v
 | .int _,_,⟨_,h⟩=>⟨_,h⟩
 | .bool,_,⟨_,h⟩=>⟨_,h⟩
 | .str,_,⟨_,h⟩=>⟨_,h⟩
 | .ptr,_,⟨_,h⟩=>⟨_,h⟩
 | .slice,_,⟨_,h⟩=>⟨_,h⟩
 | .map,_,⟨_,h⟩=>⟨_,h⟩
 | .val,_,⟨_,h⟩=>⟨_,h⟩
theorem C1 {α:Type} {F:α→Prop}:∀ {l:List α},orL F l→∃a,F a
 | [a],h=>⟨a,h⟩
 | a::b::r,h=>by
  rcases h with h | h
  ·exact⟨a,h⟩
  ·exact C1 (l:=b::r) h
theorem Ju {args:List Operand}(hk:ax st.rs fr st.kn):∀j v k,nth (aG (ev fr) args) j=some v→nth (aG (V.kf st.kn) args) j=some k→KnO st.rs v k:=by
 intro j v k h1 h2
 rw [bk]at h1 h2
 cases hn:nth args j with
 | none=>rw [hn]at h1;cases h1
 | some x=>
  rw [hn]at h1 h2
  injection h1 with h1
  injection h2 with h2
  subst h1;subst h2
  exact hk.kf x
theorem GS {rs:List (Res U)} {a1 a2:List Value} {k1 k2:List (Option Kn)}(hl:a1.length=k1.length)(h1:∀j v k,nth a1 j=some v→nth k1 j=some k→KnO rs v k)(h2:∀j v k,nth a2 j=some v→nth k2 j=some k→KnO rs v k):∀j v k,nth (a1++a2) j=some v→nth (k1++k2) j=some k→KnO rs v k:=by
 intro j v k hj Ox
 rw [bo]at hj Ox
 by_cases hc:j<a1.length
 ·rw [if_pos hc]at hj
  rw [if_pos (by omega)]at Ox
  exact h1 j v k hj Ox
 ·rw [if_neg hc]at hj
  rw [if_neg (by omega),← hl]at Ox
  exact h2 _ v k hj Ox
theorem KX {K:fI U} {Y:Bool} {dst:Option Tmp} {ty:TypeId} {pos:String} {after:Array Edge} {gd:Option (Nat×Bool)} {f:Operand} {args:Array Operand} {ats:Array TypeId} {f':Nat} {first cap:Array Value} {ks:List (Option Kn)}(OZ:∀f c,tbl.c f=some c→LV U P f c∧bT P f=true)(hI:Inv w0 k0 X0 may st.rs X w)(hk:ax st.rs fr st.kn)(hf:ev fr f= .func (.func f') first cap)
 (ZC:∀j v k,nth (first.toList++(aG (ev fr) args.toList++cap.toList)) j=some v→nth ks j=some k→KnO st.rs v k)(h:call2 U tbl may k0 f' (first.toList++(aG (ev fr) args.toList++cap.toList)) ks st K):
 opW P Y (Fc fr w0 k0 X0 may st X w K) {dst:=dst,op:= .call {callee:= .value f,args:=args,argTypes:=ats},type:=ty,pos:=pos,after:=after,guard:=gd} (ev fr) w fun v w'=>∃k st' X' M,K v k st'∧KnO st'.rs v k∧eB w0 k0 X0 may fr st X w st' X' w' M:=by
 have QJ:bT P f'=true:=by
  unfold call2 at h
  split at h
  ·exact h.elim
  ·rename_i c hc;exact(OZ f' c hc).2
 refine⟨rfl,?_⟩
 have h1:=eN (P:=P) (C:= [f']) (f:=f') (by simp [eA,QJ]) (by simp) (first++args.map (ev fr)++cap) w
 have hr:(execOp (ev fr) {dst:=dst,op:= .call {callee:= .value f,args:=args,argTypes:=ats},type:=ty,pos:=pos,after:=after,guard:=gd}).run P w= .ok (.enter f' (first++args.map (ev fr)++cap)) w:=by
  simp only [execOp,resolve,hf,Deferred.ofValue]
  rw [Sem.run_bind]
  exact h1
 rw [hr]
 have ha:(⟨first.toList++(aG (ev fr) args.toList++cap.toList)⟩:Array Value)=first++args.map (ev fr)++cap:=by
  apply Array.ext'
  simp [gM]
 have:=vd (fun f c h=>(OZ f c h).1) hI hk ZC h
 rw [ha]at this
 refine this.mono fun e w' hp=>?_
 obtain⟨v,k,st',X',M,rfl,h2,h3,h4⟩:=hp
 rcases h3 with rfl | h3
 ·exact .inr ⟨_,rfl,v,st',X',M,rfl,h2,h4⟩
 ·refine .inl ⟨v,?_,k,st',X',M,h2,h3,h4⟩
  cases k with
  | none=>rfl
  | some k=>cases k<;>first | rfl | exact h3.elim
theorem Ed {t:TypeId} {name:String} {f:FuncId} {u:Value}(h:Db P t name=some f)(w:World):(method (P.types.size+Made.depth) t u name).run P w= .ok (f,u) w:=by
 obtain⟨n,hn⟩:∃n,P.types.size+Made.depth=n+1:=⟨P.types.size+Made.depth - 1,by unfold Made.depth;omega⟩
 rw [hn]
 unfold Db at h
 split at h
 ·cases h
 ·rename_i i d hi hu hd
  split at h
  ·rename_i m hm
   split at h
   ·rename_i f' hf hp
    injection h with h
    subst h
    have hm':i.methods.find? (fun m=>m.name==name)=some m:=hm
    cases d<;>simp_all [method,typeInfo,follow,receiverAt,underlying,Place.get]
   ·cases h
  ·cases h
 ·cases h
theorem MV {K:fI U} {Y:Bool} {dst:Option Tmp} {ty:TypeId} {pos:String} {after:Array Edge} {gd:Option (Nat×Bool)} {x:Operand} {name:String} {args:Array Operand} {ats:Array TypeId} {t:TypeId} {u:Value} {f':Nat} {ks:List (Option Kn)}(OZ:∀f c,tbl.c f=some c→LV U P f c∧bT P f=true)(hI:Inv w0 k0 X0 may st.rs X w)(hk:ax st.rs fr st.kn)(hx:ev fr x= .iface t u)(hm:Db P t name=some f')
 (ZC:∀j v k,nth (u::aG (ev fr) args.toList) j=some v→nth ks j=some k→KnO st.rs v k)(h:call2 U tbl may k0 f' (u::aG (ev fr) args.toList) ks st K):
 opW P Y (Fc fr w0 k0 X0 may st X w K) {dst:=dst,op:= .call {callee:= .invoke x name,args:=args,argTypes:=ats},type:=ty,pos:=pos,after:=after,guard:=gd} (ev fr) w fun v w'=>∃k st' X' M,K v k st'∧KnO st'.rs v k∧eB w0 k0 X0 may fr st X w st' X' w' M:=by
 have QJ:bT P f'=true:=by
  unfold call2 at h
  split at h
  ·exact h.elim
  ·rename_i c hc;exact(OZ f' c hc).2
 refine⟨rfl,?_⟩
 have h1:=eN (P:=P) (C:= [f']) (f:=f') (by simp [eA,QJ]) (by simp) (#[u]++args.map (ev fr)) w
 have he:(#[ev fr x]++args.map (ev fr)).extract 1 (#[ev fr x]++args.map (ev fr)).size=args.map (ev fr):=by
  apply Array.ext'
  simp
  exact List.take_of_length_le (by simp)
 have hr:(execOp (ev fr) {dst:=dst,op:= .call {callee:= .invoke x name,args:=args,argTypes:=ats},type:=ty,pos:=pos,after:=after,guard:=gd}).run P w= .ok (.enter f' (#[u]++args.map (ev fr))) w:=by
  simp only [execOp,resolve]
  rw [Sem.run_bind]
  show(invoke (.fn (.method name) #[]) (#[ev fr x]++args.map (ev fr))).run P w=_
  have e0:(#[ev fr x]++args.map (ev fr))[0]? =some (.iface t u):=by rw [hx,Array.getElem?_append_left (by simp)];rfl
  simp only [invoke,e0,he]
  simp only [callMethod]
  rw [Sem.run_bind]
  have hp:(program:Sem Program).run P w= .ok P w:=rfl
  rw [hp]
  change Sem.run P (method (P.types.size+Made.depth) t u name>>=fun p=>callFunc p.1 (#[p.2]++Array.map (ev fr) args)) w=_
  rw [Sem.run_bind,Ed hm]
  exact h1
 rw [hr]
 have ha:(⟨u::aG (ev fr) args.toList⟩:Array Value)= #[u]++args.map (ev fr):=by
  apply Array.ext'
  simp [gM]
 have:=vd (fun f c h=>(OZ f c h).1) hI hk ZC h
 rw [ha]at this
 refine this.mono fun e w' hp=>?_
 obtain⟨v,k,st',X',M,rfl,h2,h3,h4⟩:=hp
 rcases h3 with rfl | h3
 ·exact .inr ⟨_,rfl,v,st',X',M,rfl,h2,h4⟩
 ·refine .inl ⟨v,?_,k,st',X',M,h2,h3,h4⟩
  cases k with
  | none=>rfl
  | some k=>cases k<;>first | rfl | exact h3.elim
theorem zc {K:fI U} {Y:Bool} {dst:Option Tmp} {ty:TypeId} {pos:String} {after:Array Edge} {gd:Option (Nat×Bool)} {f:Operand} {args:Array Operand} {ats:Array TypeId}(OZ:∀f c,tbl.c f=some c→LV U P f c∧bT P f=true)(hI:Inv w0 k0 X0 may st.rs X w)(hk:ax st.rs fr st.kn)
 (h:Ds U tbl may k0 (ev fr f) (aG (ev fr) args.toList) (aG (V.kf st.kn) args.toList) st K):
 opW P Y (Fc fr w0 k0 X0 may st X w K) {dst:=dst,op:= .call {callee:= .value f,args:=args,argTypes:=ats},type:=ty,pos:=pos,after:=after,guard:=gd} (ev fr) w fun v w'=>∃k st' X' M,K v k st'∧KnO st'.rs v k∧eB w0 k0 X0 may fr st X w st' X' w' M:=by
 obtain⟨r,h1,hK⟩:=G6 h
 obtain⟨⟨f',az,bs⟩,h2⟩:=C1 h1
 dsimp only at h2
 split at h2
 ·rename_i hd
  simp only [Bool.and_eq_true]at hd
  obtain⟨hf,h2⟩:=h2
  have pk:∀ {l:List PK},iu (Eo st.rs) l=true→∀j v k,nth (aG (dv st.rs) l) j=some v→nth (aG (fun p=>some (Kn.p p)) l) j=some k→KnO st.rs v k:=by
   intro l hl j v k hj Ox
   rw [bk]at hj Ox
   cases hn:nth l j with
   | none=>rw [hn]at hj;cases hj
   | some p=>
    rw [hn]at hj Ox
    injection hj with hj
    injection Ox with Ox
    subst hj;subst Ox
    have:=cD.1 hl p (ik hn)
    unfold Eo at this
    show den U st.rs p=some (dv st.rs p)
    unfold dv
    split at this
    ·rename_i u hu;rw [hu];rfl
    ·cases this
  refine sA (C3 (q':=fun ch w'=>∃v st' X' M,ch= [⟨v,false,false⟩]∧K v (some .pan) st'∧eB w0 k0 X0 may fr st X w st' X' w' M) (hq:=fun ch w' ⟨_,_,_,_,_,h,_⟩=>h.elim) (KX (K:=_) (first:=⟨aG (dv st.rs) az⟩) (cap:=⟨aG (dv st.rs) bs⟩) OZ hI hk hf (GS (by simp) (pk hd.1) (GS (by simp) (Ju hk) (pk hd.2))) h2)) fun v w' hp=>?_
  obtain⟨k,st',X',M,g1,g2,g3⟩:=hp
  have g1:=C0 g1
  split at g1
  ·rename_i hl
   subst g1
   simp only [Bool.and_eq_true]at hl
   have l1:=Nat.eq_of_beq_eq_true hl.1
   have l2:=Nat.eq_of_beq_eq_true hl.2
   have hM:M= []:=by
    have:=g3.md
    rw [this,List.length_append]at l2
    exact List.eq_nil_of_length_eq_zero (by omega)
   subst hM
   refine⟨none,st,X',[],hK,trivial,g3.inv.KJ (by omega) (fun i hi=>(g3.same i hi (by simp)).1.symm) hI.len,hk,rfl,fun i hi=>(by cases hi),fun i hi=>(by cases hi),Nat.le_refl _,fun i hi _=>⟨rfl,(g3.same i hi (by simp)).2⟩,fun i hi=>(by cases hi),fun i h1 h2=>by omega,g3.ch,fun i a ha=>⟨a,ha,dK.refl a⟩⟩
  ·exact g1.elim
 ·exact h2.elim
theorem GM {o:Oper} {K:fI U} {Y:Bool}(OZ:∀f c,tbl.c f=some c→LV U P f c∧bT P f=true)(hI:Inv w0 k0 X0 may st.rs X w)(hk:ax st.rs fr st.kn)(h:Lo U P tbl may k0 o (ev fr) st K):
 opW P Y (Fc fr w0 k0 X0 may st X w K) o (ev fr) w fun v w'=>∃k st' X' M,K v k st'∧KnO st'.rs v k∧eB w0 k0 X0 may fr st X w st' X' w' M:=by
 obtain⟨dst,op,ty,pos,after,gd⟩:=o
 cases op<;>simp only [Lo]at h<;>skip
 case panic x=>
  refine⟨rfl,?_⟩
  split at h
  ·rename_i t v hx
   have hr:(execOp (ev fr) ⟨dst,.panic x,ty,pos,after,gd⟩).run P w= .halt (.panic (.iface t v)) w:=by
    simp [execOp,hx,Instr.panic,goPanic]
   rw [hr]
   exact⟨_,st,X,[],rfl,h,hI,hk,rfl,fun i hi=>(by cases hi),fun i hi=>(by cases hi),Nat.le_refl _,fun _ _ _=>⟨rfl,rfl⟩,fun i hi=>(by cases hi),fun i h1 h2=>by omega,Ch.refl _ _,fun i a ha=>⟨a,ha,dK.refl a⟩⟩
  ·exact h.elim
 case store t x y=>exact Bf hI hk h
 case alloc t=>
  split at h
  ·rename_i z hz
   refine⟨rfl,?_⟩
   have hr:(execOp (ev fr) ⟨dst,.alloc t,ty,pos,after,gd⟩).run P w= .ok (.value (.pointer (some ⟨w.heap.size,0,none⟩))) (w.alloc (.cells z.cells t)):=by
    simp [execOp,EC hz]
   rw [hr]
   exact yp hI hk (v0:=undef) (ck:=none) trivial (.inl rfl) h
  ·exact h.elim
 case box t x=>
  refine⟨rfl,?_⟩
  have hr:(execOp (ev fr) ⟨dst,.box t x,ty,pos,after,gd⟩).run P w= .ok (.value (.pointer (some ⟨w.heap.size,0,none⟩))) (w.alloc (.cells (ev fr x).cells t)):=rfl
  rw [hr]
  exact yp hI hk (hk.kf x) (.inr rfl) h
 case call c=>
  obtain⟨cal,args,ats⟩:=c
  simp only at h
  split at h
  ·rename_i f
   split at h
   ·exact zc OZ hI hk h
   split at h
   ·rename_i f' first cap hf
    refine KX OZ hI hk hf (fun j v k hj Ox=>?_) h
    ·
     have Qv:∀j v k,nth (aG (ev fr) args.toList) j=some v→nth (aG (V.kf st.kn) args.toList) j=some k→KnO st.rs v k:=by
      intro j v k h1 h2
      rw [bk]at h1 h2
      cases hn:nth args.toList j with
      | none=>rw [hn]at h1;cases h1
      | some x=>
       rw [hn]at h1 h2
       injection h1 with h1
       injection h2 with h2
       subst h1;subst h2
       exact hk.kf x
     have hfk:=hk.kf f
     have app:∀ {a1 a2:List Value} {k1 k2:List (Option Kn)},a1.length=k1.length→(∀j v k,nth a1 j=some v→nth k1 j=some k→KnO st.rs v k)→(∀j v k,nth a2 j=some v→nth k2 j=some k→KnO st.rs v k)→∀j v k,nth (a1++a2) j=some v→nth (k1++k2) j=some k→KnO st.rs v k:=by
      intro a1 a2 k1 k2 hl h1 h2 j v k hj Ox
      rw [bo]at hj Ox
      by_cases hc:j<a1.length
      ·rw [if_pos hc]at hj
       rw [if_pos (by omega)]at Ox
       exact h1 j v k hj Ox
      ·rw [if_neg hc]at hj
       rw [if_neg (by omega),← hl]at Ox
       exact h2 _ v k hj Ox
     have pt:∀ {vs:Array Value} {l:List (Option PK)},(∀j k,nth l j=some (some k)→∃u,vs[j]? =some u∧den U st.rs k=some u)→∀j v k,nth vs.toList j=some v→nth (aG (fun o:Option PK=>o.map Kn.p) l) j=some k→KnO st.rs v k:=by
      intro vs l hh j v k hj Ox
      rw [bk]at Ox
      cases hn:nth l j with
      | none=>rw [hn]at Ox;cases Ox
      | some o=>
       rw [hn]at Ox
       injection Ox with Ox
       subst Ox
       cases o with
       | none=>exact trivial
       | some p=>
        obtain⟨u,hu,hd⟩:=hh j p hn
        rw [aI]at hj
        simp at hj
        rw [hu]at hj
        injection hj with hj
        subst hj
        exact hd
     have no:∀ {vs:List Value},∀j v k,nth vs j=some v→nth (aG (fun _:Value=>(none:Option Kn)) vs) j=some k→KnO st.rs v k:=by
      intro vs j v k hj Ox
      rw [bk,hj]at Ox
      injection Ox with Ox
      subst Ox
      exact trivial
     unfold MJ at Ox
     split at Ox
     ·rename_i a b hkf
      rw [hkf,hf]at hfk
      obtain⟨_,fs,cs,e,⟨Px,QZ⟩,h3,h4⟩:=hfk
      injection e with _ e1 e2
      subst e1;subst e2
      exact app (by simp [Px]) (pt h3) (app (by simp) Qv (pt h4)) j v k hj Ox
     ·exact app (by simp) no (app (by simp) Qv no) j v k hj Ox
   ·exact h.elim
  ·rename_i x name
   split at h
   ·rename_i t u hx
    split at h
    ·rename_i f' hm
     refine MV OZ hI hk hx hm (fun j v k hj Ox=>?_) h
     cases j with
     | zero=>
      simp only [nth,Option.some.injEq]at Ox
      subst Ox
      exact trivial
     | succ j=>
      simp only [nth]at hj Ox
      rw [bk]at hj Ox
      cases hn:nth args.toList j with
      | none=>rw [hn]at hj;cases hj
      | some y=>
       rw [hn]at hj Ox
       injection hj with hj
       injection Ox with Ox
       subst hj;subst Ox
       exact hk.kf y
    ·exact h.elim
   ·exact h.elim
  ·split at h
   ·rename_i x y t t' ha hat
    split at h
    ·rename_i e tt ie z Vm Ze
     have Ze:=Nat.eq_of_beq_eq_true Ze
     subst Ze
     obtain⟨UX,hi,hz,Of,T9⟩:=r9 Vm
     obtain⟨l2,B,d,Y2,hy,Q3,h⟩:=Gc hI.sat hk h
     have ha':args= #[x,y]:=by apply Array.ext';simpa using ha
     have hat':ats= #[t,t]:=by apply Array.ext';simpa using hat
     subst ha';subst hat'
     have key:∀ {A:Option Addr} {m c:Nat} {K':Value→World→Prop},ev fr x= .slice A m c→(∃(A':Option Addr)(n' c':Nat)(w2:World),(Builtin.append_ #[t,t] ty #[.slice A m c,.slice B l2.length d]:Sem Value).run P w= .ok (.slice A' n' c') w2∧K' (.slice A' n' c') w2)→
      opW P Y (Fc fr w0 k0 X0 may st X w K) {dst:=dst,op:= .call {callee:= .builtin .append,args:= #[x,y],argTypes:= #[t,t]},type:=ty,pos:=pos,after:=after,guard:=gd} (ev fr) w K':=by
      intro A m c K' hx hh
      obtain⟨A',n',c',w2,hr,hK⟩:=hh
      refine⟨rfl,?_⟩
      rw [rU (s:=Builtin.append_ #[t,t] ty #[.slice A m c,.slice B l2.length d]) (by simp [xJ,hx,hy]) w hr]
      exact hK
     split at h
     ·rename_i id PH
      split at h
      ·rename_i tt' T A0 c0 l hn OM
       split at h
       ·rename_i hT
        have hT:=Nat.eq_of_beq_eq_true hT
        subst hT
        split at h
        ·rename_i Ze
         subst Ze
         obtain⟨UO,h⟩:=h
         have PG:=hk.kf x
         rw [PH]at PG
         have hd:den U st.rs (.sl id 0)=some (ev fr x):=PG
         simp only [den,PK.id,hn,cA,jT,Option.some.injEq]at hd
         obtain⟨ho,Od⟩:Own w (X id) T A0 l.length c0 l∧∀k,X id k→k<w.heap.size:=hI.sat.res id _ hn
         have Rx:l.length+l2.length≤9223372036854775807:=by
          have:=Nat.le_mul_of_pos_right (l.length+l2.length) T9
          omega
         have fin:∀(A':Option Addr)(c':Nat)(w2:World)(Z:Nat→Prop),Own w2 Z T A' (l++l2).length c' (l++l2)→(∀k,Z k→X id k∨w.heap.size≤k)→Ch (X id) w w2→∃k st' X' M,K (.slice A' (l++l2).length c') k st'∧KnO st'.rs (.slice A' (l++l2).length c') k∧eB w0 k0 X0 may fr st X w st' X' w2 M:=by
          intro A' c' w2 Z Q4 V4 hq
          have O9:dK (Res.lst tt' true T A0 c0 l) (.lst tt' true T A' c' (l++l2)):= .lst _ _ _ _ _ _ _ _ _
          have hat:nth (cK st.rs id (Res.lst tt' true T A' c' (l++l2))) id=some (.lst tt' true T A' c' (l++l2)):=by rw [bA,if_pos ⟨rfl,aX hn⟩]
          refine step_done (st':=⟨cK st.rs id (.lst tt' true T A' c' (l++l2)),fM [id] st.kn,id::st.md⟩) (k:=some (.p (.sl id 0))) (DV hI hn OM hq O9 (Z:=fun k=>Z k∧k<w2.heap.size) (show RS _ w2 (.lst tt' true T A' c' (l++l2))from⟨Q4.narrow,fun k hk=>hk.2⟩) (fun k hk=>V4 k hk.1) ?_) ?_ (h A' c')
          rotate_left
          ·show den U _ (.sl id 0)=_
           simp only [den,PK.id,hat,cA,jT]
          ·refine hk.fM (M:= [id]) (fun i _ hi=>by rw [bA,if_neg (fun hh=>hi (by simp [hh.1]))]) fun i hi a ha=>?_
           simp at hi
           subst hi
           rw [hn]at ha
           injection ha with ha
           subst ha
           exact⟨_,hat,O9⟩
         refine key hd.symm ?_
         refine Own.apps (ho.mono (Y:=fun k=>X id k∨w.heap.size≤k) fun k hk=>.inl hk) UX Q3 Rx UO (.inr (Nat.le_refl _)) (fun A' c' w2 Q4 hq=>?_) (fun h0 hB=>?_)
         ·rw [← List.length_append]at Q4 ⊢
          refine fin A' c' w2 _ Q4 (fun k hk=>hk) ⟨hq.kept.mono fun k hk=>⟨hk.1,fun hh=>hh.elim hk.2 (fun hh=>absurd hk.1 (Nat.not_lt.2 hh))⟩⟩
         ·have QZ:l2= []:=List.eq_nil_of_length_eq_zero h0
          subst QZ
          refine⟨_,_,_,_,run_append_nothing w t t ty T ie UX.und hi A0 l.length c0 ho.own.Hk _ (Src.ofNil _ UX.und d),?_⟩
          have:=fin A0 c0 w (X id) (by rw [List.append_nil];exact ho) (fun k hk=>.inl hk) (Ch.refl _ _)
          rw [List.append_nil]at this
          exact this
        ·exact h.elim
       ·exact h.elim
      ·exact h.elim
     ·split at h
      ·rename_i hx
       obtain⟨UO,h⟩:=h
       have Rx:l2.length≤9223372036854775807:=by
        have:=Nat.le_mul_of_pos_right l2.length T9
        omega
       refine key hx ?_
       refine rE UX Q3 Rx UO fun A' c' w2 Q4 hq=>?_
       exact sC hI hk hq Q4 (fun k hk=>hk.1) rfl (h A' c')
      ·exact h.elim
     ·exact h.elim
    ·exact h.elim
   ·exact h.elim
  ·exact h.elim
 case buildSlice t len parts=>
  split at h
  ·rename_i e tt ie z Vm
   obtain⟨UX,hi,hz,Of,T9⟩:=r9 Vm
   split at h
   ·rename_i cells hf hb
    split at h
    ·rename_i l hl
     simp only [Bool.and_eq_true]at hb
     have h1:0<len:=by simpa [Nat.blt_eq]using hb.1
     have h2:len*ie.size≤16777216:=Nat.le_of_ble_eq_true hb.2
     have Zq:0<ie.size:=by rw [Of];exact(U.en tt).pos
     have hls:0<len*ie.size:=Nat.mul_pos h1 Zq
     obtain⟨TA,hlf⟩:=yT hl
     refine⟨rfl,?_⟩
     have hr:(execOp (ev fr) {dst:=dst,op:= .buildSlice t len parts,type:=ty,pos:=pos,after:=after,guard:=gd}).run P w= .ok (.value (.slice (some ⟨w.heap.size,0,none⟩) len len)) (w.alloc (.cells cells e)):=by
      have:=Go.run_buildSlice (P:=P) w t e len (parts.map fun(ix:Nat×Operand)=>(ix.1,ev fr ix.2)) cells ie z UX.und hi hz (by omega) (by omega) hf
      simp only [execOp]
      rw [Sem.run_bind,this]
      rfl
     rw [hr]
     have OP:cells.size=len*(U.en tt).size:=by
      rw [← Array.length_toList,← hlf,eK,TA]
     have OK:=World.ownsRow_lit (base:=0) (e:=e) (size:=(U.en tt).size) w cells len (Nat.zero_le _) (by
      have:=Nat.le_mul_of_pos_right len Zq
      simp only [maxLen];omega) OP
     refine sC hI hk (Z:=fun k=>k=w.heap.size) (show Pu w (w.alloc (.cells cells e))from(made (w2:=w.alloc (.cells cells e)) rfl rfl).pu) ⟨⟨?_,fun a ha=>by injection ha with ha;rw [← ha]⟩,rfl⟩ (fun k e=>by rw [e];exact Nat.le_refl _) (by rw [TA]) (h w.heap.size)
     rw [hlf,TA]
     exact OK
    ·exact h.elim
   ·exact h.elim
  ·exact h.elim
 case makeSlice t l c=>
  split at h
  ·rename_i a b e tt ie z hla hlb Vm
   obtain⟨UX,hi,hz,Of,T9⟩:=r9 Vm
   split at h
   ·rename_i x hx
    obtain⟨⟨rfl,h0,hb⟩,h⟩:=h
    have Rx:a≤9223372036854775807:=by
     have h9:(1:Int)*a≤(ie.bytes:Int)*a:=Int.mul_le_mul_of_nonneg_right (by omega) h0
     omega
    have hr:=run_make (P:=P) w t e ie z UX.und hi hz .i64 .i64 a a h0 (Int.le_refl _) hb Rx
    refine⟨rfl,?_⟩
    rw [rU (s:=Instr.makeSlice t (.int .i64 a) (.int .i64 a)) (by simp [xJ,hla,hlb]) w hr]
    have OX:=Bu (x:=x) (U.g8 hx) a.toNat
    have hlen:(List.replicate a.toNat x).length=a.toNat:=List.length_replicate
    rw [Of]
    have OK:=World.ownsRow_lit (base:=0) (e:=e) (size:=(U.en tt).size) w (madeCells z.cells (a.toNat *(U.en tt).size)) a.toNat (Nat.zero_le _) (by simp only [maxLen];omega) (size_madeCells _ _)
    refine sC hI hk (Z:=fun k=>k=w.heap.size) (l:=List.replicate a.toNat x) (c:=a.toNat) (T:=e) (A:=some ⟨w.heap.size,0,none⟩) ((made (w2:=w.alloc (.cells (madeCells z.cells (a.toNat *(U.en tt).size)) e)) rfl rfl).pu) ⟨⟨?_,fun a ha=>by injection ha with ha;rw [← ha]⟩,rfl⟩ (fun k e=>by rw [e];exact Nat.le_refl _) (by rw [hlen]) ?_
    ·rw [OX,hlen]
     exact OK
    ·have:=h w.heap.size
     rw [hlen]at this
     exact this
   ·exact h.elim
  ·exact h.elim
theorem C5 {o:Oper} {K:fI U} {Y:Bool}(OZ:∀f c,tbl.c f=some c→LV U P f c∧bT P f=true)(hI:Inv w0 k0 X0 may st.rs X w)(hk:ax st.rs fr st.kn)(h:op2 U P tbl may k0 o (ev fr) st K):
 opW P Y (Fc fr w0 k0 X0 may st X w K) o (ev fr) w fun v w'=>∃k st' X' M,K v k st'∧KnO st'.rs v k∧eB w0 k0 X0 may fr st X w st' X' w' M:=by
 unfold op2 at h
 split at h
 ·exact GM OZ hI hk h
 ·obtain⟨v,k,h1,h2,h3⟩:=uR hI.sat hk h
  have hr:=h3 w (Kept.refl _ _)
  refine⟨?_,?_⟩
  ·obtain⟨dst,op,ty,pos,after,gd⟩:=o
   cases op<;>first | rfl | skip
   exact absurd (show qv P _ _ _ from h) (fun hh=>hh.elim)
  ·rw [hr]
   exact⟨k,st,X,[],h1,h2,hI,hk,rfl,fun i hi=>(by cases hi),fun i hi=>(by cases hi),Nat.le_refl _,fun _ _ _=>⟨rfl,rfl⟩,fun i hi=>(by cases hi),fun i h1 h2=>by omega,Ch.refl _ _,fun i a ha=>⟨a,ha,dK.refl a⟩⟩
structure Steps(w0:World)(k0:Nat)(X0:Nat→Nat→Prop)(may:List Nat)(st:St U)(X:Nat→Nat→Prop)(st':St U)(X':Nat→Nat→Prop)(w':World):Prop where
 inv:Inv w0 k0 X0 may st'.rs X' w'
 len:st.rs.length≤st'.rs.length
 md:∃L,st'.md=L++st.md∧(∀i,i∈L→i∈may∨k0≤i)∧∀i,i<st.rs.length→i ∉ L→nth st'.rs i=nth st.rs i∧X' i=X i
 root:∀i a,nth st.rs i=some a→∃b,nth st'.rs i=some b∧dK a b
theorem Steps.refl(h:Inv w0 k0 X0 may st.rs X w):Steps w0 k0 X0 may st X st X w:=⟨h,Nat.le_refl _,⟨[],rfl,fun i hi=>(by cases hi),fun _ _ _=>⟨rfl,rfl⟩⟩,fun i a ha=>⟨a,ha,dK.refl a⟩⟩
theorem Steps.trans {RH O7:St U} {X1 X2:Nat→Nat→Prop} {w1 w2:World}(h:Steps w0 k0 X0 may st X RH X1 w1)(k:Steps w0 k0 X0 may RH X1 O7 X2 w2):Steps w0 k0 X0 may st X O7 X2 w2:=by
 obtain⟨L,hL,cL,hl⟩:=h.md
 obtain⟨M,hM,cM,hm⟩:=k.md
 exact⟨k.inv,Nat.le_trans h.len k.len,⟨M++L,by rw [hM,hL,List.append_assoc],fun i hi=>(List.mem_append.1 hi).elim (cM i) (cL i),fun i hi hn=>by
  rw [List.mem_append,not_or]at hn
  obtain⟨e1,e2⟩:=hm i (Nat.lt_of_lt_of_le hi h.len) hn.1
  obtain⟨e3,e4⟩:=hl i hi hn.2
  exact⟨e1.trans e3,e2.trans e4⟩⟩,fun i a ha=>by
  obtain⟨b,hb,hr⟩:=h.root i a ha
  obtain⟨c,hc,QY⟩:=k.root i b hb
  exact⟨c,hc,hr.trans QY⟩⟩
theorem eB.steps {st':St U} {X':Nat→Nat→Prop} {w':World} {M:List Nat}(h:eB w0 k0 X0 may fr st X w st' X' w' M):Steps w0 k0 X0 may st X st' X' w':=⟨h.inv,h.len,⟨M,h.md,h.can,fun i hi hm=>h.same i hi hm⟩,h.root⟩
theorem Steps.kn {st' O7:St U} {X':Nat→Nat→Prop} {w':World}(h:Steps w0 k0 X0 may st X st' X' w')(h1:O7.rs=st'.rs)(h2:O7.md=st'.md):Steps w0 k0 X0 may st X O7 X' w':=by
 obtain⟨a,b,c,d⟩:=h
 exact⟨by rw [h1];exact a,by rw [h1];exact b,by rw [h1,h2];exact c,by rw [h1];exact d⟩
variable {n:Nat} {N:List Nat} {ops:Array Oper}
theorem iB {dst:Option Tmp} {v:Value} {F G:Fr→Prop}(h:jD n N fr dst v F)(hF:∀fr',F fr'→G fr'):jD n N fr dst v G:=by
 unfold jD at h ⊢
 cases dst with
 | none=>exact hF _ h
 | some d=>
  simp only at h ⊢
  split at h
  ·split at h
   ·cases v with
    | int k x=>exact fun z hz=>hF _ (h z hz)
    | bool x=>exact fun z hz=>hF _ (h z hz)
    | _=>exact hF _ h
   ·exact hF _ h
  ·exact h.elim
def Aft(w0:World)(k0:Nat)(X0:Nat→Nat→Prop)(may:List Nat)(st:St U)(X:Nat→Nat→Prop)(ds:List Deferred)(K:Fr→St U→Prop)(fr':Fr)(w':World):Prop:=
 ∃st' X',Steps w0 k0 X0 may st X st' X' w'∧ax st'.rs fr' st'.kn∧fr'.ds=ds∧K fr' st'
def F5(M:Fr→Oper→World→aB→Prop)(n:Nat)(N:List Nat)(ops:Array Oper)(K:Fr→World→Prop):List Oper→Fr→World→Prop
 | [],fr,w=>K fr w
 | o::rest,fr,w=>g6 ops o fr
  (fun fr=>M fr o w (fun v w'=>jD n N fr o.dst v fun fr'=>F5 M n N ops K rest fr' w'))
  (fun fr=>jD n N fr o.dst undef fun fr'=>F5 M n N ops K rest fr' w)
def m7(n:Nat)(ws:List Nat)(a0:Act)(Q:QF):Exit→Act→World→Prop
 | .outgrown,_,_=>False
 | x,a,w=>∃fr,Rep n fr a∧Q x fr w∧Agr ws a0 a
theorem nd {Qp:Fr→List PanicEntry→World→Prop} {K:Fr→World→Prop} {ws:List Nat} {a0:Act} {r:Option Nat}:
 ∀(l:List Oper),(∀o∈l,∀d,o.dst=some d→d∈ws)→∀(fr:Fr)(a:Act)(w:World),Rep n fr a→Agr ws a0 a→F5 (fun fr o w K=>opW P true (some (Qp fr)) o (ev fr) w K) n N ops K l fr w→
  wpListIn (WF r) 0 P ops (m7 n ws a0 fun x fr w=>match x with | .normal=>K fr w | .panic ch=>Qp fr ch w | _=>False) l a w
 | [],_,fr,a,w,hr,ha,h=>⟨fr,hr,h,ha⟩
 | o::rest,hd,fr,a,w,hr,ha,h=>by
  obtain⟨fr',NV,hh⟩:=kE hr h
  simp only [wpListIn]
  rcases hh with⟨hw,hh⟩ | ⟨hw,hh⟩
  ·rw [if_pos hw]
   refine C2 (K:=fun fr' w'=>F5 (fun fr o w K=>opW P true (some (Qp fr)) o (ev fr) w K) n N ops K rest fr' w') NV ha (hd o (List.mem_cons_self ..)) hh ?_ ?_
   ·intro OQ a2 w2 h2 h3 h4
    exact nd rest (fun o' Sn=>hd o' (List.mem_cons_of_mem _ Sn)) OQ a2 w2 h2 h3 h4
   ·intro ch w' hq
    exact⟨fr',NV,hq,ha⟩
  ·rw [if_neg (by rw [hw];simp)]
   obtain⟨OQ,h2,h3⟩:=gJ NV hh
   exact⟨kK,nd rest (fun o' Sn=>hd o' (List.mem_cons_of_mem _ Sn)) OQ _ w h2 (ha.trans (Agr.put a o.dst undef (hd o (List.mem_cons_self ..)))) h3⟩
theorem Gu {k:Option Kn} {A B:Prop} {rs:List (Res U)} {v:Value}(h:Bp k A B)(hk:KnO rs v k):B:=by
 unfold Bp at h
 split at h
 ·exact hk.elim
 ·exact h
theorem rS {K:Fr→St U→Prop} {Kp:List PanicEntry→Fr→St U→Prop}(OZ:∀f c,tbl.c f=some c→LV U P f c∧bT P f=true):∀(l:List Oper)(fr:Fr)(st0 st:St U)(Xs X:Nat→Nat→Prop)(w:World)(ds:List Deferred),Steps w0 k0 X0 may st0 Xs st X w→ax st.rs fr st.kn→fr.ds=ds→DO U P tbl may k0 n N ops K Kp l fr st→
 F5 (fun fr o w K=>opW P true (some fun ch w'=>Aft w0 k0 X0 may st0 Xs ds (Kp ch) fr w') o (ev fr) w K) n N ops (Aft w0 k0 X0 may st0 Xs ds K) l fr w
 | [],fr,st0,st,Xs,X,w,ds,hS,hk,hd,h=>⟨st,X,hS,hk,hd,h⟩
 | o::rest,fr,st0,st,Xs,X,w,ds,hS,hk,hd,h=>by
  refine lM h (fun fr' hl PS h=>?_) (fun fr' hl PS h=>?_)
  ·have Q5:=hk.same hl
   refine sA (C3 (C5 OZ hS.inv Q5 h) ?_) fun v w' hp=>?_
   ·rintro ch w' ⟨v,st',X',M,rfl,h1,h3⟩
    exact⟨st',X',hS.trans h3.steps,h3.kn,by rw [PS,hd],h1⟩
   ·obtain⟨k,st',X',M,h1,h2,h3⟩:=hp
    refine iB (jQ (Gu h1 h2) h3.kn h2) fun OQ hp=>?_
    obtain⟨O7,e1,e2,h4,h5,h6⟩:=hp
    exact rS OZ rest OQ st0 O7 Xs X' w' ds ((hS.trans h3.steps).kn e1 e2) (by rw [e1];exact h4) (by rw [h5,PS,hd]) h6
  ·have Q5:=hk.same hl
   refine iB (jQ h Q5 trivial) fun OQ hp=>?_
   obtain⟨O7,e1,e2,h4,h5,h6⟩:=hp
   exact rS OZ rest OQ st0 O7 Xs X w ds (hS.kn e1 e2) (by rw [e1];exact h4) (by rw [h5,PS,hd]) h6
theorem Inv.drew(h:Inv w0 k0 X0 may st.rs X w):Inv w0 k0 X0 may st.rs X w.drew:=h.pu (Pu.bj w)
structure BOk(V:List Nat)(rd:List (Nat×List Nat))(b:Nat→Nat→Prop)(rs:List (Res U))(X:Nat→Nat→Prop)(w:World):Prop where
 has:∀i id k,id∈qt i rd→id<rs.length→X id k→b i k
 all:∀i k,i∈V→b i k
 only:∀i k,i ∉ V→b i k→k<w.heap.size∧∀j,j<rs.length→X j k→j∈qt i rd
end
end
end Go.Proofs.YtinhphjfnedhgaaGreatDoor.V
