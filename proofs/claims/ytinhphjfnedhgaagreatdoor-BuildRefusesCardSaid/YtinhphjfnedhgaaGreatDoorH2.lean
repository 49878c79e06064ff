/- Chapter 17, BuildRefuses: a call that is refused changes nothing; one that is taken does what the layers below do by hand. -/
import Derived.Test.YtinhphjfnedhgaaGreatDoorH1
import Derived.Test.YtinhphjfnedhgaaGreatDoorProg
import Derived.KernelRfl
import Derived.Great.BuildSlice
set_option linter.unusedVariables false
set_option linter.unusedSimpArgs false
namespace Go.Proofs.YtinhphjfnedhgaaGreatDoor.V
open Go Go.RowKit
open Go.IntKind (i64 u32 u64)
open Enc (enc)
section
section
variable {U:Uni} {P:Program} {tbl:Tb U} {may:List Nat} {k0:Nat}
theorem fZ {α β:Type}(f:α→β):∀l,aF f l=l.map f
 | []=>rfl
 | a::l=>by simp [aF,fZ f l]
theorem aY {α β:Type}(f:α→β):∀(l:List α)(i:Nat),nth (aF f l) i=(nth l i).map f
 | [],_=>rfl
 | _::_,0=>rfl
 | _::l,i+1=>aY f l i
@[simp] theorem Dd {α β:Type}(f:α→β):∀l:List α,(aF f l).length=l.length
 | []=>rfl
 | _::l=>by simp [aF,Dd f l]
theorem eK {x:Nat}:∀ {l:List Nat},ko x l=true↔x∈l
 | []=>by simp [ko]
 | y::r=>by
  unfold ko
  split
  ·rename_i h
   have:=Nat.eq_of_beq_eq_true h
   simp [this]
  ·rename_i h
   have h':¬x=y:=by rintro rfl;simp at h
   rw [eK]
   simp [h']
theorem lM:∀ {l:List Nat},nL l=true→l.Nodup
 | [],_=>List.nodup_nil
 | x::r,h=>by
  unfold nL at h
  split at h
  ·cases h
  ·rename_i hm
   refine List.nodup_cons.2 ⟨fun hx=>?_,lM h⟩
   rw [eK.2 hx]at hm
   cases hm
theorem cu {α:Type} {f:α→Bool}:∀ {l:List α},gK f l=true↔∀x∈l,f x=true
 | []=>by simp [gK]
 | a::r=>by
  unfold gK
  split
  ·rename_i h
   rw [cu]
   simp [h]
  ·rename_i h
   simp [h]
theorem we {α:Type} {f:α→Bool}:∀ {l:List α},lj f l=true↔∃x∈l,f x=true
 | []=>by simp [lj]
 | a::r=>by
  unfold lj
  split
  ·rename_i h
   simp [h]
  ·rename_i h
   rw [we]
   simp [h]
theorem qf {α β:Type} {f:α→Option β}:∀ {l:List α} {r:List β},g8 f l=some r→r.length=l.length∧∀i a,nth l i=some a→∃b,f a=some b∧nth r i=some b
 | [],r,h=>by
  simp only [g8,Option.some.injEq]at h
  subst h
  exact⟨rfl,fun i a hi=>by simp [nth]at hi⟩
 | a::l,r,h=>by
  unfold g8 at h
  split at h
  ·rename_i b bs hb Q3
   injection h with h
   subst h
   obtain⟨h1,h2⟩:=qf Q3
   refine⟨by simp [h1],fun i x hx=>?_⟩
   cases i with
   | zero=>simp [nth]at hx;subst hx;exact⟨b,hb,rfl⟩
   | succ i=>exact h2 i x hx
  ·cases h
theorem eN {α:Type}:∀(n:Nat)(l:List α),iU n l=l.take n
 | 0,_=>by simp [iU]
 | n+1,[]=>by simp [iU]
 | n+1,a::l=>by simp [iU,eN n l]
theorem fI {α:Type}:∀(n:Nat)(l:List α),lz n l=l.drop n
 | 0,_=>by simp [lz]
 | n+1,[]=>by simp [lz]
 | n+1,a::l=>by simp [lz,fI n l]
theorem pK {α:Type}:∀(l:List α)(i:Nat)(x:α),cy l i x=l.set i x
 | [],_,_=>by simp [cy]
 | _::_,0,_=>rfl
 | _::l,i+1,x=>by simp [cy,pK l i x]
theorem oa:∀(vs:List Value)(cs:List Value)(o:Nat),setAt ⟨cs⟩ o vs=⟨gD cs o vs⟩
 | [],_,_=>rfl
 | v::r,cs,o=>by
  have e:(Array.mk cs).setIfInBounds o v=⟨cy cs o v⟩:=by apply Array.ext';simp [pK]
  simp only [setAt,gD,e]
  exact oa r _ _
@[simp] theorem AH {α:Type}:∀(vs:List α)(cs:List α)(o:Nat),(gD cs o vs).length=cs.length
 | [],_,_=>rfl
 | v::r,cs,o=>by simp [gD,AH r]
theorem k8 {α:Type}:∀(vs:List α)(cs:List α)(o i:Nat),o+vs.length≤cs.length→nth (gD cs o vs) i=if o≤i∧i<o+vs.length then nth vs (i - o)else nth cs i
 | [],cs,o,i,h=>by
  simp only [gD,List.length_nil,Nat.add_zero]
  rw [if_neg (by omega)]
 | v::r,cs,o,i,h=>by
  simp only [List.length_cons]at h
  simp only [gD,List.length_cons]
  rw [k8 r _ _ _ (by simp;omega),br]
  by_cases h1:o+1≤i∧i<o+1+r.length
  ·rw [if_pos h1,if_pos (by omega)]
   have:i - o=(i - (o+1))+1:=by omega
   rw [this];rfl
  ·rw [if_neg h1]
   by_cases h2:i=o
   ·subst h2
    rw [if_pos ⟨rfl,by omega⟩,if_pos (by omega)];simp [nth]
   ·rw [if_neg (by omega),if_neg (by omega)]
theorem cW {f:Key→Kn→Bool} {key:Key} {k:Kn}:∀ {l:List (Key×Kn)},(key,k)∈eH f l→(key,k)∈l∧f key k=true
 | [],h=>by cases h
 | (a,q)::r,h=>by
  unfold eH at h
  split at h
  ·rename_i hf
   rcases List.mem_cons.1 h with e | h
   ·injection e with e1 e2;subst e1;subst e2;exact⟨List.mem_cons_self ..,hf⟩
   ·have:=cW h;exact⟨List.mem_cons_of_mem _ this.1,this.2⟩
  ·have:=cW h;exact⟨List.mem_cons_of_mem _ this.1,this.2⟩
theorem Key.lQ:∀ {a b:Key},a.eq b=true→a=b
 | .s a,.s b,h=>by rw [Nat.eq_of_beq_eq_true h]
 | .c a b,.c x y,h=>by
  simp only [Key.eq,Bool.and_eq_true]at h
  rw [Nat.eq_of_beq_eq_true h.1,Nat.eq_of_beq_eq_true h.2]
 | .l a b,.l x y,h=>by
  simp only [Key.eq,Bool.and_eq_true]at h
  rw [Nat.eq_of_beq_eq_true h.1,Nat.eq_of_beq_eq_true h.2]
 | .s _,.l _ _,h=>by cases h
 | .l _ _,.s _,h=>by cases h
 | .c _ _,.l _ _,h=>by cases h
 | .l _ _,.c _ _,h=>by cases h
 | .s _,.c _ _,h=>by cases h
 | .c _ _,.s _,h=>by cases h
theorem sj {key:Key} {k:Kn}:∀ {l:List (Key×Kn)},cN key l=some k→(key,k)∈l
 | [],h=>by cases h
 | (a,q)::r,h=>by
  unfold cN at h
  split at h
  ·rename_i he
   injection h with h
   subst h
   rw [Key.lQ he]
   exact List.mem_cons_self ..
  ·exact List.mem_cons_of_mem _ (sj h)
theorem PK.lQ:∀ {a b:PK},a.eq b=true→a=b
 | .loc a b,.loc x y,h=>by
  simp only [PK.eq,Bool.and_eq_true]at h
  rw [Nat.eq_of_beq_eq_true h.1,Nat.eq_of_beq_eq_true h.2]
 | .obj a b c,.obj x y z,h=>by
  simp only [PK.eq,Bool.and_eq_true]at h
  rw [Nat.eq_of_beq_eq_true h.1,Nat.eq_of_beq_eq_true h.2.1,Nat.eq_of_beq_eq_true h.2.2]
 | .sl a b,.sl x y,h=>by
  simp only [PK.eq,Bool.and_eq_true]at h
  rw [Nat.eq_of_beq_eq_true h.1,Nat.eq_of_beq_eq_true h.2]
 | .loc ..,.obj ..,h | .loc ..,.sl ..,h | .loc ..,.el ..,h | .obj ..,.loc ..,h | .obj ..,.sl ..,h | .obj ..,.el ..,h | .sl ..,.loc ..,h | .sl ..,.obj ..,h | .sl ..,.el ..,h | .el ..,.loc ..,h | .el ..,.obj ..,h | .el ..,.sl ..,h | .el ..,.el ..,h=>by cases h
theorem Kn.lQ {a b:Kn}(h:a.eq b=true):a=b∧∃p,a= .p p:=by
 cases a<;>cases b<;>simp only [Kn.eq]at h<;>first | cases h | skip
 rename_i p q
 exact⟨by rw [PK.lQ h],p,rfl⟩
def Kn.has(p:PK):Kn→Prop
 | .p k=>k=p
 | .t l=>∃j,nth l j=some (some p)
 | .ag l=>∃j,nth l j=some (some p)
 | .f a b=>(∃j,nth a j=some (some p))∨∃j,nth b j=some (some p)
 | .pan=>False
theorem im.mono {rs rs':List (Res U)} {v:Value} {k:Kn}(h:im rs v k)(hd:∀p,k.has p→∀u,den U rs p=some u→den U rs' p=some u):im rs' v k:=by
 cases k with
 | pan=>exact h
 | p k=>exact hd k rfl _ h
 | t l=>
  obtain⟨vs,h1,h2⟩:=h
  exact⟨vs,h1,fun j k hj=>by obtain⟨u,hu,NR⟩:=h2 j k hj;exact⟨u,hu,hd k ⟨j,hj⟩ _ NR⟩⟩
 | ag l=>
  obtain⟨vs,h1,h2⟩:=h
  exact⟨vs,h1,fun j k hj=>by obtain⟨u,hu,NR⟩:=h2 j k hj;exact⟨u,hu,hd k ⟨j,hj⟩ _ NR⟩⟩
 | f a b=>
  obtain⟨f,fs,cs,h1,hl,h2,h3⟩:=h
  exact⟨f,fs,cs,h1,hl,fun j k hj=>by obtain⟨u,hu,NR⟩:=h2 j k hj;exact⟨u,hu,hd k (.inl ⟨j,hj⟩) _ NR⟩,fun j k hj=>by obtain⟨u,hu,NR⟩:=h3 j k hj;exact⟨u,hu,hd k (.inr ⟨j,hj⟩) _ NR⟩⟩
theorem gH {α:Type}:∀ {l:List α} {i:Nat} {x:α},nth l i=some x→x∈l
 | a::l,0,x,h=>by simp [nth]at h;subst h;exact List.mem_cons_self ..
 | a::l,i+1,x,h=>List.mem_cons_of_mem _ (gH (l:=l) h)
theorem Kn.ym {k:Kn} {i:Nat}(h:k.ofList i=false) {p:PK}(hp:k.has p):p.ofList i=false:=by
 have key:∀ {l:List (Option PK)},lj (r8 i) l=false→∀j,nth l j=some (some p)→p.ofList i=false:=by
  intro l hl j hj
  cases he:p.ofList i
  ·rfl
  ·have:lj (r8 i) l=true:=we.2 ⟨some p,gH hj,he⟩
   rw [hl]at this
   cases this
 cases k with
 | pan=>exact hp.elim
 | p k=>cases hp;exact h
 | t l=>obtain⟨j,hj⟩:=hp;exact key h j hj
 | ag l=>obtain⟨j,hj⟩:=hp;exact key h j hj
 | f a b=>
  simp only [Kn.ofList]at h
  split at h
  ·cases h
  ·rename_i ha
   rcases hp with⟨j,hj⟩ | ⟨j,hj⟩
   ·exact key ha j hj
   ·exact key h j hj
inductive de:Res U→Res U→Prop
 | blk (g:Nat)(cs cs':List Value)(T:TypeId):cs.length=cs'.length→de (.blk g cs T) (.blk g cs' T)
 | ob (t:Nat)(r:Nat→Nat)(s s':U.ty t):de (.ob t r s) (.ob t r s')
 | lst (t:Nat)(own:Bool)(T:TypeId)(A A':Option Addr)(c c':Nat)(l l':List (U.el t)):de (.lst t own T A c l) (.lst t own T A' c' l')
theorem de.refl:∀a:Res U,de a a
 | .blk g cs T=>.blk g cs cs T rfl
 | .ob t r s=>.ob t r s s
 | .lst t own T A c l=>.lst t own T A A c c l l
theorem de.den {a b:Res U}(h:de a b) {p:PK} {v:Value}(hp:p.ofList p.id=false∨a=b)(hd:cm U p (some a)=some v):cm U p (some b)=some v:=by
 rcases hp with hp | rfl
 ·cases h<;>cases p<;>simp only [cm,PK.ofList,PK.id,reduceCtorEq]at hd hp ⊢ <;>first | exact hd | (simp at hp)
 ·exact hd
theorem vZ {r r':Res U} {u:Upd U}(h:cZ r u=some r'):de r r':=by
 cases r<;>cases u<;>simp only [cZ]at h<;>first | cases h | skip
 ·split at h
  ·rename_i hb
   injection h with h;subst h
   exact .blk _ _ _ _ (Nat.eq_of_beq_eq_true hb).symm
  ·cases h
 ·split at h
  ·rename_i t r s t' s' ht
   subst ht
   injection h with h;subst h
   exact .ob _ _ _ _
  ·cases h
 ·split at h
  ·rename_i t own T A c l t' A' c' l' ht
   subst ht
   injection h with h;subst h
   exact .lst _ _ _ _ _ _ _ _ _
  ·cases h
theorem de.trans {a b c:Res U}(h:de a b)(k:de b c):de a c:=by
 cases h<;>cases k
 ·rename_i h1 _ h2;exact .blk _ _ _ _ (h1.trans h2)
 ·exact .ob _ _ _ _
 ·exact .lst _ _ _ _ _ _ _ _ _
theorem mN {rs rs':List (Res U)} {M:List Nat}(hs:∀i,i<rs.length→i ∉ M→nth rs' i=nth rs i)(hr:∀i,i∈M→∀a,nth rs i=some a→∃b,nth rs' i=some b∧de a b)
 {p:PK}(hp:p.id ∉ M∨p.ofList p.id=false) {v:Value}(hd:den U rs p=some v):den U rs' p=some v:=by
 unfold den at hd ⊢
 cases hn:nth rs p.id with
 | none=>rw [hn]at hd;cases p<;>simp [cm]at hd
 | some a=>
  rw [hn]at hd
  by_cases hm:p.id∈M
  ·obtain⟨b,hb,OY⟩:=hr _ hm a hn
   rw [hb]
   exact OY.den (.inl (hp.elim (fun h=>absurd hm h) id)) hd
  ·rw [hs _ (aU hn) hm,hn];exact hd
theorem fw.IL {rs:List (Res U)} {fr fr':Fr}(h:∀i,lk fr'.g i fr'.e=lk fr.g i fr.e) {key:Key} {k:Kn}(hp:fw rs fr key k):fw rs fr' key k:=by
 cases key with
 | s i=>show im rs (lk fr'.g i fr'.e) k;rw [h];exact hp
 | c id off=>exact hp
 | l id path=>exact hp
theorem av.same {rs:List (Res U)} {fr fr':Fr} {kn:List (Key×Kn)}(h:av rs fr kn)(he:∀i,lk fr'.g i fr'.e=lk fr.g i fr.e):av rs fr' kn:=fun key k hk=>(h key k hk).IL he
theorem av.app {rs:List (Res U)} {fr:Fr} {a b:List (Key×Kn)}(h:av rs fr a)(k:av rs fr b):av rs fr (a++b):=fun key q hq=>(List.mem_append.1 hq).elim (h key q) (k key q)
theorem av.nil {rs:List (Res U)} {fr:Fr}:av rs fr []:=fun _ _ h=>by cases h
theorem av.get {rs:List (Res U)} {fr:Fr} {kn:List (Key×Kn)}(h:av rs fr kn) {key:Key} {k:Kn}(hk:cN key kn=some k):fw rs fr key k:=h _ _ (sj hk)
theorem av.kf {rs:List (Res U)} {fr:Fr} {kn:List (Key×Kn)}(h:av rs fr kn)(x:Operand):KnO rs (ev fr x) (V.kf kn x):=by
 cases x with
 | tmp t=>
  show KnO rs (lk fr.g t fr.e) (cN (.s t) kn)
  cases hg:cN (.s t) kn with
  | none=>exact trivial
  | some k=>exact h.get hg
 | const v=>exact trivial
 | global g=>exact trivial
 | func f=>exact trivial
theorem av.fe {rs rs':List (Res U)} {fr:Fr} {kn:List (Key×Kn)} {M:List Nat}(h:av rs fr kn)(hs:∀i,i<rs.length→i ∉ M→nth rs' i=nth rs i)(hr:∀i,i∈M→∀a,nth rs i=some a→∃b,nth rs' i=some b∧de a b)
 {kn':List (Key×Kn)}(hk:∀key k,(key,k)∈kn'→(key,k)∈kn∧(∀p,k.has p→p.id ∉ M∨p.ofList p.id=false)∧∀id off,key= .c id off→id ∉ M∨∃g cs cs' T,nth rs id=some (.blk g cs T)∧nth rs' id=some (.blk g cs' T)∧nth cs' off=nth cs off):av rs' fr kn':=by
 intro key k hm
 obtain⟨h1,h2,h3⟩:=hk key k hm
 have h0:=h key k h1
 have hd:∀p,k.has p→∀u,den U rs p=some u→den U rs' p=some u:=fun p hp u hu=>mN hs hr (h2 p hp) hu
 cases key with
 | s i=>exact im.mono h0 hd
 | c id off=>
  obtain⟨g,cs,T,v,e1,e2,e3⟩:=h0
  rcases h3 id off rfl with h3 | ⟨g',Vk,RI,T',e4,e5,e6⟩
  ·exact⟨g,cs,T,v,by rw [hs _ (aU e1) h3];exact e1,e2,e3.mono hd⟩
  ·rw [e1]at e4
   injection e4 with e4
   injection e4 with e4 e7 e8
   subst e4;subst e7;subst e8
   exact⟨g,RI,T,v,e5,by rw [e6];exact e2,e3.mono hd⟩
 | l id path=>
  obtain⟨t,r,s,e1,e2⟩:=h0
  by_cases hm:id∈M
  ·obtain⟨b,hb,OY⟩:=hr id hm _ e1
   cases OY
   exact⟨t,r,_,hb,e2.mono hd⟩
  ·exact⟨t,r,s,by rw [hs _ (aU e1) hm];exact e1,e2.mono hd⟩
theorem r4 {key:Key} {k:Kn}:∀ {M:List Nat} {kn:List (Key×Kn)},(key,k)∈fj M kn→(key,k)∈kn∧∀i∈M,k.ofList i=false∧∀off,key≠ .c i off
 | [],kn,h=>⟨h,fun i hi=>by cases hi⟩
 | i::r,kn,h=>by
  unfold fj at h
  obtain⟨h1,h2⟩:=r4 h
  obtain⟨h3,h4⟩:=cW h1
  simp only [Bool.and_eq_true,Bool.not_eq_true']at h4
  refine⟨h3,fun j hj=>?_⟩
  rcases List.mem_cons.1 hj with rfl | hj
  ·refine⟨h4.1,fun off e=>?_⟩
   subst e
   simp at h4
  ·exact h2 j hj
theorem av.fj {rs rs':List (Res U)} {fr:Fr} {kn:List (Key×Kn)} {M:List Nat}(h:av rs fr kn)(hs:∀i,i<rs.length→i ∉ M→nth rs' i=nth rs i)(hr:∀i,i∈M→∀a,nth rs i=some a→∃b,nth rs' i=some b∧de a b):av rs' fr (V.fj M kn):=by
 refine h.fe hs hr fun key k hk=>?_
 obtain⟨h1,h2⟩:=r4 hk
 refine⟨h1,fun p hp=>?_,fun id off e=>?_⟩
 ·by_cases hm:p.id∈M
  ·exact .inr (Kn.ym (h2 _ hm).1 hp)
  ·exact .inl hm
 ·by_cases hm:id∈M
  ·exact absurd e ((h2 id hm).2 off)
  ·exact .inl hm
theorem Dk {rs:List (Res U)} {fr fr':Fr} {kn:List (Key×Kn)} {d:Nat} {v:Value} {k:Option Kn}(h:av rs fr kn)(hv:KnO rs v k)(h1:lk fr'.g d fr'.e=v)(h2:∀i,i≠d→lk fr'.g i fr'.e=lk fr.g i fr.e):av rs fr' (vx (.s d) k kn):=by
 have key:av rs fr' (eH (fun a _=>!(a.eq (.s d))) kn):=by
  intro a q hq
  obtain⟨hm,hf⟩:=cW hq
  have h0:=h a q hm
  cases a with
  | s i=>
   have Ky:i≠d:=by rintro rfl;simp [Key.eq]at hf
   show im rs (lk fr'.g i fr'.e) q
   rw [h2 i Ky];exact h0
  | c id off=>exact h0
  | l id path=>exact h0
 unfold vx
 split
 ·exact key
 ·rename_i q
  intro a z hz
  rcases List.mem_cons.1 hz with e | hz
  ·injection e with e1 e2
   subst e1;subst e2
   show im rs (lk fr'.g d fr'.e) z
   rw [h1];exact hv
  ·exact key a z hz
theorem tE(g:Nat→Value)(d i:Nat)(v:Value)(e:List (Nat×Value)):lk g i ((d,v)::e)=if i=d then v else lk g i e:=by
 simp only [lk]
 split
 ·rename_i h;rw [if_pos (Nat.eq_of_beq_eq_true h)]
 ·rename_i h;rw [if_neg (by rintro rfl;simp at h)]
theorem iY {n:Nat} {N:List Nat} {fr:Fr} {dst:Option Tmp} {v:Value} {k:Option Kn} {st:St U} {F:Fr→St U→Prop}(h:vd U n N fr dst v k st F)(hk:av st.rs fr st.kn)(hv:KnO st.rs v k):
 iN n N fr dst v fun fr'=>∃st',st'.rs=st.rs∧st'.md=st.md∧av st.rs fr' st'.kn∧fr'.ds=fr.ds∧F fr' st':=by
 unfold vd at h
 unfold iN at h ⊢
 cases dst with
 | none=>exact⟨st,rfl,rfl,hk,rfl,h⟩
 | some d=>
  dsimp only at h ⊢
  split at h
  ·rename_i hb
   have fin:∀u,u=v→F ⟨(d,u)::fr.e,fr.g,fr.ds⟩ {st with kn:=vx (.s d) k st.kn}→∃st':St U,st'.rs=st.rs∧st'.md=st.md∧av st.rs ⟨(d,u)::fr.e,fr.g,fr.ds⟩ st'.kn∧fr.ds=fr.ds∧F ⟨(d,u)::fr.e,fr.g,fr.ds⟩ st':=by
    intro u hu hF
    subst hu
    exact⟨{st with kn:=vx (.s d) k st.kn},rfl,rfl,Dk hk hv (by rw [tE,if_pos rfl]) (fun i hi=>by rw [tE,if_neg hi]),rfl,hF⟩
   split at h
   ·rename_i hN
    cases v with
    | int kk x=>intro z hz;exact fin _ (by rw [hz]) (h z hz)
    | bool x=>intro z hz;exact fin _ (by rw [hz]) (h z hz)
    | _=>exact fin _ rfl h
   ·exact fin _ rfl h
  ·exact h.elim
theorem kq {ops:Array Oper} {o:Oper} {fr:Fr} {yes no yes' no':Fr→Prop}(h:gy ops o fr yes no)(hy:∀fr',(∀i,lk fr'.g i fr'.e=lk fr.g i fr.e)→fr'.ds=fr.ds→yes fr'→yes' fr')(hn:∀fr',(∀i,lk fr'.g i fr'.e=lk fr.g i fr.e)→fr'.ds=fr.ds→no fr'→no' fr'):gy ops o fr yes' no':=by
 unfold gy at h ⊢
 split at h
 ·exact hy fr (fun _=>rfl) rfl h
 ·rename_i j want hg
  split at h
  ·rename_i d hd
   split at h
   ·rename_i b hb
    have hl:∀b',lk fr.g d fr.e= .bool b'→∀i,lk fr.g i ((d,.bool b')::fr.e)=lk fr.g i fr.e:=by
     intro b' LS i
     rw [tE]
     split
     ·rename_i e;rw [e,LS]
     ·rfl
    rcases eR h with⟨rfl,h2⟩ | ⟨rfl,h2⟩
    ·refine ae (fun _=>?_) (fun e=>by cases e)
     cases want
     ·exact hn _ (hl _ hb) rfl h2
     ·exact hy _ (hl _ hb) rfl h2
    ·refine ae (fun e=>by cases e) (fun _=>?_)
     cases want
     ·exact hy _ (hl _ hb) rfl h2
     ·exact hn _ (hl _ hb) rfl h2
   ·exact hn fr (fun _=>rfl) rfl h
   ·exact h.elim
  ·exact h.elim
theorem AO {o:Oper} {ρ:Operand→Value} {F:Value→Prop}(hc:∀v,ρ (.const v)=v)(hl:∀t x,o.op≠ .load t x)(h:oe P o ρ F)(w:World):∃v,F v∧∀w',w'.os=w.os→w'.tape=w.tape→w'.output=w.output→(execOp ρ o).run P w'= .ok (.value v) w':=by
 have hw:od P none o ρ {w with heap:= #[]} F False:=by
  unfold oe od at h
  unfold od
  generalize o.op=op at h hl ⊢
  cases op<;>first | exact h | exact absurd rfl (hl _ _)
 rcases nI hc hw with⟨v,hv,hr⟩ | hh
 ·exact⟨v,hv,fun w' h1 h2 h3=>hr w' ⟨h1,h2,h3,Nat.zero_le _,fun k hk=>absurd hk (Nat.not_lt_zero _)⟩⟩
 ·exact hh.elim
def rdX(o:Oper)(kn:List (Key×Kn))(X:Nat→Nat→Prop):Nat→Prop:=
 match o.op with
 | .load _ x=>(match V.kf kn x with
  | some (.p k)=>X k.id
  | _=>fun _=>False)
 | _=>fun _=>False
theorem yC {s:TypeId} {x:Value} {f:Nat} {F:Value→Prop}(h:jH P s x f F):∃fields fd p,P.underlying s=some (.struct fields)∧fields[f]? =some fd∧x= .pointer (some p)∧F (.pointer (some (p.add fd.offset)))∧∀w,(Instr.fieldAt s x f).run P w= .ok (.pointer (some (p.add fd.offset))) w:=by
 have key:∀fields fd p,P.underlying s=some (.struct fields)→fields[f]? =some fd→x= .pointer (some p)→∀w,(Instr.fieldAt s x f).run P w= .ok (.pointer (some (p.add fd.offset))) w:=by
  intro fields fd p h1 h2 h3 w
  have h':jH P s x f fun v=>v= .pointer (some (p.add fd.offset)):=by
   unfold jH at h ⊢
   subst h3
   rw [h1]at h ⊢
   simp only at h ⊢
   rw [h2]at h ⊢
   simp only at h ⊢
   split at h
   ·rename_i i hi
    split at h
    ·exact ai p rfl rfl
    ·exact h.elim
   ·exact h.elim
  obtain⟨v,hv,hr⟩:=qs h'
  rw [hr w,hv]
 have h0:=h
 unfold jH at h
 split at h
 ·rename_i fields hs
  split at h
  ·rename_i fd hf
   split at h
   ·split at h
    ·split at h
     ·obtain⟨p,hp,hF⟩:=cF h
      exact⟨fields,fd,p,hs,hf,by rw [hp],hF,key fields fd p hs hf (by rw [hp])⟩
     ·exact h.elim
    ·exact h.elim
   ·exact h.elim
  ·exact h.elim
 ·exact h.elim
theorem Du {t:TypeId} {p:Addr} {i:Value} {F:Value→Prop}(h:oI P t (.pointer (some p)) i F):∃n e k ix,P.underlying t=some (.array n e)∧i= .int k ix∧F (.pointer (some (p.add (ix.toNat *bq P e))))∧∀w,(Instr.indexAt t (.pointer (some p)) i).run P w= .ok (.pointer (some (p.add (ix.toNat *bq P e)))) w:=by
 unfold oI at h
 cases hu:P.underlying t with
 | none=>rw [hu]at h;exact h.elim
 | some d=>
  rw [hu]at h
  cases d<;>first | exact h.elim | skip
  rename_i n e
  cases i<;>first | exact h.elim | skip
  rename_i k ix
  simp only at h
  split at h
  ·rename_i he
   obtain⟨hb,h⟩:=h
   obtain⟨q,hq,hF⟩:=cF h
   injection hq with hq
   subst hq
   refine⟨n,e,k,ix,rfl,rfl,hF,fun w=>?_⟩
   have h':oI P t (.pointer (some p)) (.int k ix) fun v=>v= .pointer (some (p.add (ix.toNat *bq P e))):=by
    unfold oI
    rw [hu]
    simp only [he]
    exact⟨hb,ai p rfl rfl⟩
   obtain⟨v,hv,hr⟩:=mK h'
   rw [hr w,hv]
  ·exact h.elim
theorem Fu {t e:TypeId} {A:Option Addr} {n c:Nat} {k:IntKind} {ix:Int} {p:Addr}(ht:P.underlying t=some (.slice e))(he:hasType P e=true)(hb:0≤ix∧ix<n)(hA:A=some p)(w:World):(Instr.indexAt t (.slice A n c) (.int k ix)).run P w= .ok (.pointer (some (p.add (ix.toNat *bq P e)))) w:=by
 have h':oI P t (.slice A n c) (.int k ix) fun v=>v= .pointer (some (p.add (ix.toNat *bq P e))):=by
  unfold oI
  rw [ht]
  simp only [he]
  exact⟨hb,ai p hA rfl⟩
 obtain⟨v,hv,hr⟩:=mK h'
 rw [hr w,hv]
theorem RS.rd {X:Nat→Prop} {w:World} {t:Nat} {own:Bool} {T:TypeId} {A:Option Addr} {c:Nat} {l:List (U.el t)}(h:RS X w (.lst t own T A c l)):Rd w X A l.length c l:=by
 cases own
 ·exact h
 ·have h1:Rd w (fun k=>X k∧k<w.heap.size) A l.length c l:=h.1.rd
  exact h1.mono (fun k hk=>hk.1) h.2
theorem RS.ls {X:Nat→Prop} {w:World} {r:Res U} {li:Nat} {L:Ls U.el}(h:RS X w r)(hl:jb r li=some L):Rd w X L.A L.l.length L.c L.l:=by
 unfold jb at hl
 split at hl
 ·injection hl with hl
  subst hl
  exact RS.rd h
 ·exact U.oo h hl
 ·cases hl
theorem cS {α:Type} {o:Option α} {F:α→Prop}(h:fP o F):∃a,o=some a∧F a:=by
 cases o with
 | none=>exact h.elim
 | some a=>exact⟨a,rfl,h⟩
theorem jc {t:TypeId} {cs:List Value} {off:Nat} {v:Value}(h:j1 P t cs off=some v) {w:World} {p:Addr}(hp:∀j u,j<bq P t→nth cs (off+j)=some u→w.cell? (p.add j)=some u):(Instr.loadAt t (.pointer (some p))).run P w= .ok v w:=by
 unfold j1 at h
 split at h
 ·rename_i hb
  simp only [Bool.and_eq_true]at hb
  obtain⟨h1,h2,h3,h4⟩:=hb
  have h4:off+bq P t≤cs.length:=Nat.le_of_ble_eq_true h4
  have RH:gr (di P t)=bq P t:=Nat.eq_of_beq_eq_true h3
  refine ka (s:=di P t) h1 h2 h3 ?_
  have hd:∀j,nth (cs.drop off) j=nth cs (off+j):=fun j=>by rw [aH,aH,List.getElem?_drop]
  split at h
  ·rename_i s hs
   have:=hp 0 v (by rw [← RH,hs];simp [gr]) (by simpa using h)
   rw [hs]
   simpa [gI,Addr.add]using this
  ·rename_i l hs
   injection h with h
   subst h
   rw [hs]at RH ⊢
   simp only [gr]at RH
   have hlen:(cs.drop off |>.take l.length).length=l.length:=by simp;omega
   simp only [gI,eN,fI,hlen,Nat.beq_refl]
   have key:∀(vs:List Value)(i:Nat),(∀j u,vs[j]? =some u→w.cell? (p.add (i+j))=some u)→iJ w p i vs:=by
    intro vs
    induction vs with
    | nil=>intro _ _;exact trivial
    | cons x r ih=>
     intro i hh
     have h0:=hh 0 x rfl
     have h1:=ih (i+1) fun j u hu=>by rw [show i+1+j=i+(j+1)by omega];exact hh (j+1) u (by simpa using hu)
     cases r with
     | nil=>exact h0
     | cons y r=>exact⟨h0,h1⟩
   refine key _ 0 fun j u hu=>?_
   rw [Nat.zero_add]
   have hj:j<l.length:=by have:=(List.getElem?_eq_some_iff.1 hu).1;omega
   refine hp j u (by omega) ?_
   rw [aH,← List.getElem?_drop,← hu,List.getElem?_take,if_pos hj]
  ·rename_i n hs
   injection h with h
   subst h
   rw [hs]at RH ⊢
   simp only [gr]at RH
   refine⟨by simp [eN,fI];omega,fun j u hu=>?_⟩
   simp only [eN,fI]at hu
   have hj:j<n:=by
    have:=(Array.getElem?_eq_some_iff.1 hu).1
    simp at this
    omega
   refine hp j u (by omega) ?_
   rw [aH,← List.getElem?_drop]
   have:((cs.drop off).take n)[j]? =some u:=by simpa using hu
   rwa [List.getElem?_take,if_pos hj]at this
 ·cases h
theorem Kept.vU {B:Nat→Prop} {w w':World}(k:Kept B w w') {p:Addr}(hp:B p.block) {v:Value}(h:w.cell? p=some v):w'.cell? p=some v:=(k.cell hp).trans h
theorem iA:∀ {n k j i:Nat},nth (upN n k) j=some i→i=n+j
 | n,0,j,i,h=>by simp [upN,nth]at h
 | n,k+1,0,i,h=>by simp [upN,nth]at h;omega
 | n,k+1,j+1,i,h=>by have:=iA (n:=n+1) (k:=k) (j:=j) h;omega
theorem fN:∀(n k:Nat),(upN n k).length=k
 | _,0=>rfl
 | n,k+1=>by simp [upN,fN (n+1) k]
theorem AQ {o:Option Kn} {p:PK}(h:iw o=some p):o=some (.p p):=by
 unfold iw at h
 split at h
 ·injection h with h;rw [h]
 ·cases h
theorem Bn {st:St U} {fr:Fr} {id off:Nat} {g:Nat} {cs:List Value} {T t:TypeId} {v:Value}(hk:av st.rs fr st.kn)(hn:nth st.rs id=some (.blk g cs T))(hv:j1 P t cs off=some v)(hs:mo P t=false):KnO st.rs v (yG id off st.kn v):=by
 unfold yG
 split
 ·rename_i v2 RI
  split
  ·refine⟨RI,rfl,fun j p hj=>?_⟩
   rw [aY]at hj
   cases hu:nth (upN 0 RI.toList.length) j with
   | none=>rw [hu]at hj;cases hj
   | some i=>
    rw [hu]at hj
    have Kh:i=j:=by have:=iA hu;omega
    subst Kh
    have JM:=aU hu
    rw [fN]at JM
    injection hj with hj
    obtain⟨g',cs',T',u,e1,e2,e3⟩:=hk.get (AQ hj)
    rw [hn]at e1
    injection e1 with e1
    injection e1 with _ e1 _
    subst e1
    refine⟨u,?_,e3⟩
    have key:∀m,i<(iU m (lz off cs)).length→(iU m (lz off cs))[i]? =some u:=fun m hm=>by
     rw [eN,fI]at hm ⊢
     rw [List.getElem?_take,if_pos (by simp at hm;omega),List.getElem?_drop,← aH]
     exact e2
    unfold j1 at hv
    unfold mo at hs
    split at hv
    ·split at hv
     ·rename_i h2;rw [h2]at hs;cases hs
     ·injection hv with hv;injection hv with hv
      subst hv
      simpa using key _ JM
     ·injection hv with hv;injection hv with hv
      subst hv
      simpa using key _ JM
    ·cases hv
  ·trivial
 ·trivial
theorem sf {t:TypeId} {x:Value} {k:Option Kn} {st:St U} {X:Nat→Nat→Prop} {w:World} {K:Value→Option Kn→Prop}(hS:Sat st.rs X w) {fr:Fr}(hk:av st.rs fr st.kn)(hx:KnO st.rs x k)(h:sg U P t k st K):
 ∃v kv,K v kv∧KnO st.rs v kv∧∀w',Kept (match k with | some (.p k)=>X k.id | _=>fun _=>False) w w'→(Instr.loadAt t x).run P w'= .ok v w':=by
 unfold sg at h
 split at h
 ·rename_i id off
  split at h
  ·rename_i g cs T hn
   obtain⟨v,hv,hK⟩:=cS h
   have hd:den U st.rs (.loc id off)=some x:=hx
   simp only [den,PK.id,hn,cm,Option.some.injEq]at hd
   subst hd
   obtain⟨hg,hX,hb⟩:=hS.res id _ hn
   refine⟨v,_,hK,?_,fun w' hw=>jc hv fun j u hj hu=>?_⟩
   ·cases hs:mo P t
    ·exact Bn hk hn hv hs
    ·simp only
     cases hq:cN (.c id off) st.kn with
     | none=>exact trivial
     | some q=>
      obtain⟨g',cs',T',u,e1,e2,e3⟩:=hk.get hq
      rw [hn]at e1
      injection e1 with e1
      injection e1 with _ e1 _
      subst e1
      have:v=u:=by
       unfold j1 at hv
       unfold mo at hs
       split at hv
       ·split at hv
        ·rw [e2]at hv;injection hv with hv;exact hv.symm
        ·rename_i OZ;rw [OZ]at hs;cases hs
        ·rename_i OZ;rw [OZ]at hs;cases hs
       ·cases hv
      rw [this];exact e3
   ·refine Kept.vU hw (by rw [block_add];exact hg) ?_
    rw [bG]
    exact hb.cell (by rw [aH]at hu;simpa using hu)
  ·exact h.elim
 ·rename_i id path off
  split at h
  ·rename_i tt r s hn
   split at h
   rotate_left
   ·split at h
    ·rename_i c cs NH
     obtain⟨hc,h⟩:=h
     obtain⟨v,hv,hK⟩:=cS h
     have hd:den U st.rs (.obj id path off)=some x:=hx
     simp only [den,PK.id,hn,cm,Option.some.injEq]at hd
     subst hd
     obtain⟨hX,Kq⟩:=U.rU (hS.res id _ hn) NH hc
     refine⟨v,_,hK,trivial,fun w' hw=>jc hv fun j u hj hu=>?_⟩
     refine Kept.vU hw (by rw [block_add];exact hX) ?_
     rw [Nat.zero_add,aH]at hu
     rw [bG]
     exact Kq j u hu
    ·exact h.elim
   ·rename_i f hf
    obtain⟨u,hu,h⟩:=cS h
    obtain⟨v,hv,hK⟩:=cS h
    have hd:den U st.rs (.obj id path off)=some x:=hx
    simp only [den,PK.id,hn,cm,Option.some.injEq]at hd
    subst hd
    obtain⟨hX,hc⟩:=U.qo (hS.res id _ hn) hf hu
    refine⟨v,_,hK,?_,fun w' hw=>jc hv fun j y hj hy=>?_⟩
    ·cases hs:mo P t
     ·exact trivial
     ·have huv:u=v:=by
       unfold j1 at hv
       unfold mo at hs
       split at hv
       ·split at hv
        ·injection hv
        ·rename_i OZ;rw [OZ]at hs;cases hs
        ·rename_i OZ;rw [OZ]at hs;cases hs
       ·cases hv
      subst huv
      cases f with
      | v y=>exact trivial
      | o p o=>
       have P1:den U st.rs (.obj id p o)=some u:=by
        simp only [den,PK.id,hn,cm]
        exact hu
       cases o with
       | succ o=>exact P1
       | zero=>
        show KnO st.rs u (match cN (.l id p) st.kn with
         | some k=>some k
         | none=>some (.p (.obj id p 0)))
        cases hl:cN (.l id p) st.kn with
        | none=>exact P1
        | some k=>
         obtain⟨t',r',s',e1,e2⟩:=hk.get hl
         rw [hn]at e1
         injection e1 with e1
         cases e1
         simp only [fvV,Option.some.injEq]at hu
         rw [← hu]
         exact e2
      | l i=>
       show den U st.rs (.sl id i)=_
       simp only [den,PK.id,hn,cm]
       simp only [fvV]at hu
       simp only [jb]
       cases hL:U.li tt r s i with
       | none=>rw [hL]at hu;cases hu
       | some L=>simp only [hL]at hu ⊢;exact hu
    ·cases j with
     | zero=>
      simp only [Nat.zero_add,nth,Option.some.injEq]at hy
      subst hy
      exact Kept.vU hw (by rw [block_add];exact hX) hc
     | succ j=>simp [nth]at hy
  ·exact h.elim
 ·rename_i id li i off
  split at h
  ·rename_i r hn
   split at h
   ·rename_i L hL
    have hd:den U st.rs (.el id li i off)=some x:=hx
    simp only [den,PK.id,hn,cm,hL]at hd
    split at hd
    ·rename_i hb
     injection hd with hd
     subst hd
     have hr:=(hS.res id _ hn).ls hL
     obtain⟨p,y,hA,hy,hZ,hc⟩:=hr.ld hb.1 hb.2
     split at h
     ·rename_i _ ho
      have ho:off=0:=Nat.eq_of_beq_eq_true ho
      subst ho
      split at h
      ·rename_i h1
       have h1:(U.en L.t).size=1:=Nat.eq_of_beq_eq_true h1
       obtain⟨hle,h⟩:=h
       obtain⟨v,hv,hK⟩:=cS h
       refine⟨v,_,hK,trivial,fun w' hw=>jc hv fun j u hj hu=>?_⟩
       rw [Nat.zero_add,DK,aY]at hu
       cases NR:nth (upN 0 (bq P t)) j with
       | none=>rw [NR]at hu;cases hu
       | some j'=>
        rw [NR]at hu
        have Kh:j'=j:=by have:=iA NR;omega
        subst Kh
        have JM:=aU NR
        rw [fN]at JM
        injection hu with hu
        have hx2:=List.getElem?_eq_getElem (l:=L.l) (i:=i.toNat+j') (by omega)
        obtain⟨p',ML,hZ',Q2⟩:=hr.cell _ _ hx2
        rw [hA]at ML
        injection ML with ML
        subst ML
        have h0:=Q2 0 (by show 0<(U.en L.t).size;omega)
        have e1:elA U L.t L.A i 0=p.add i.toNat:=by unfold elA;rw [hA,h1];simp [Addr.add]
        rw [e1]
        refine Kept.vU hw (by rw [block_add,block_add];exact hZ) ?_
        have e2:(p.add ((i.toNat+j')*Enc.size (U.el L.t))).add 0=(p.add i.toNat).add j':=by
         rw [show Enc.size (U.el L.t)=1 from h1,add_add,add_add,Nat.mul_one,Nat.add_zero]
        rw [e2]at h0
        have hu:hd1 (enc (L.l.getD (i.toNat+j') (U.df L.t)))=u:=hu
        rw [h0,← hu,List.getD_eq_getElem?_getD,hx2]
        show(enc L.l[i.toNat+j'])[0]? =some (hd1 (enc L.l[i.toNat+j']))
        have hl:(enc L.l[i.toNat+j']).length=1:=by rw [cg];exact h1
        match he:enc L.l[i.toNat+j'],hl with
        | [a],_=>rfl
      ·exact h.elim
     obtain⟨v,hv,hK⟩:=cS h
     refine⟨v,_,hK,trivial,fun w' hw=>jc hv fun j u hj hu=>?_⟩
     have hg:L.l.getD i.toNat (U.df L.t)=y:=by rw [List.getD_eq_getElem?_getD,hy];rfl
     rw [hg]at hu
     have hjs:off+j<Enc.size (U.el L.t):=by have:=aU hu;rw [← cg y];exact this
     have h2:=hc (off+j) hjs
     refine Kept.vU hw ?_ ?_
     ·unfold elA
      rw [hA]
      simp only [Option.getD_some,block_add]
      exact hZ
     ·unfold elA
      rw [hA]
      simp only [Option.getD_some]
      rw [add_add]
      rw [aH]at hu
      exact h2.trans hu
    ·cases hd
   ·exact h.elim
  ·exact h.elim
 ·exact h.elim
theorem vr(ρ:Operand→Value)(a:Array Operand):(⟨aF ρ a.toList⟩:Array Value)=a.map ρ:=by
 apply Array.ext'
 simp [fZ]
theorem vI {rs:List (Res U)} {cs:List Value}:∀ {l:List (Nat×PK)} {F:Prop},He rs cs l F→F∧∀o p,(o,p)∈l→den U rs p=nth cs o
 | [],F,h=>⟨h,fun _ _ h=>by cases h⟩
 | (a,b)::l,F,h=>by
  obtain⟨h1,h2⟩:=vI h.2
  refine⟨h1,fun o p hm=>?_⟩
  rcases List.mem_cons.1 hm with e | hm
  ·injection e with e1 e2;subst e1;subst e2;exact h.1
  ·exact h2 o p hm
theorem qz {j:Nat} {p:PK}:∀ {l:List (Nat×PK)},tV j l=some p→(j,p)∈l
 | (a,b)::l,h=>by
  unfold tV at h
  split at h
  ·rename_i he
   injection h with h
   subst h
   rw [← Nat.eq_of_beq_eq_true he];exact List.mem_cons_self ..
  ·exact List.mem_cons_of_mem _ (qz h)
theorem sd {o:Oper} {fr:Fr} {st:St U} {X:Nat→Nat→Prop} {w:World} {K:Value→Option Kn→Prop}(hS:Sat st.rs X w)(hk:av st.rs fr st.kn)(h:mE U P o (ev fr) st K):
 ∃v k,K v k∧KnO st.rs v k∧∀w',Kept (rdX o st.kn X) w w'→(execOp (ev fr) o).run P w'= .ok (.value v) w':=by
 have hc:∀v,ev fr (.const v)=v:=fun _=>rfl
 have hp:∀F:Value→Prop,(∀t x,o.op≠ .load t x)→oe P o (ev fr) F→∃v,F v∧∀w',Kept (rdX o st.kn X) w w'→(execOp (ev fr) o).run P w'= .ok (.value v) w':=fun F hl hF=>by
  obtain⟨v,h1,h2⟩:=AO hc hl hF w
  exact⟨v,h1,fun w' hw=>h2 w' hw.os hw.tape hw.output⟩
 have Vv:(∀t x,o.op≠ .load t x)→oe P o (ev fr) (fun v=>K v none)→∃v k,K v k∧KnO st.rs v k∧∀w',Kept (rdX o st.kn X) w w'→(execOp (ev fr) o).run P w'= .ok (.value v) w':=fun hl hF=>by
  obtain⟨v,h1,h2⟩:=hp _ hl hF
  exact⟨v,none,h1,trivial,h2⟩
 obtain⟨dst,op,ty,pos,after,guard⟩:=o
 cases op<;>first
  | exact Vv (fun _ _ e=>by cases e) h
  | skip
 case move x=>exact⟨_,_,h,hk.kf x,fun _ _=>rfl⟩
 case assign x=>exact⟨_,_,h,hk.kf x,fun _ _=>rfl⟩
 case build t ps=>
  obtain⟨v,h1,h2⟩:=hp _ (fun _ _ e=>by cases e) h
  unfold DO at h1
  split at h1
  ·exact⟨v,none,h1,trivial,h2⟩
  ·split at h1
   ·rename_i cs
    obtain⟨h1,h3⟩:=vI h1
    refine⟨_,_,h1,⟨cs,rfl,fun j k hj=>?_⟩,h2⟩
    rw [aY]at hj
    cases hn:nth (upN 0 cs.toList.length) j with
    | none=>rw [hn]at hj;cases hj
    | some i=>
     rw [hn]at hj
     have Kh:i=j:=by have:=iA hn;omega
     subst Kh
     injection hj with hj
     have:=h3 _ _ (qz hj)
     have JM:=aU hn
     rw [fN]at JM
     obtain⟨u,hu⟩:=bV (l:=cs.toList) (i:=i) JM
     exact⟨u,by rw [aH]at hu;simpa using hu,by rw [this,hu]⟩
   ·exact h1.elim
 case load t x=>
  obtain⟨v,kv,h1,h2,h3⟩:=sf hS hk (hk.kf x) h
  refine⟨v,kv,h1,h2,fun w' hw=>?_⟩
  have:=h3 w' hw
  simp [execOp,this]
 case nilCheck x=>
  simp only [mE]at h
  split at h
  ·rename_i p hx
   refine⟨_,_,h,by rw [← hx];exact hk.kf x,fun w' _=>?_⟩
   simp [execOp,hx]
  ·exact h.elim
 case fieldAddr s x f=>
  have h:jH P s (ev fr x) f (fun v=>K v (tH P s f (V.kf st.kn x))):=h
  obtain⟨fields,fd,p,h1,h2,h3,h4,h5⟩:=yC h
  refine⟨_,_,h4,?_,fun w' _=>by simp [execOp,h5]⟩
  have hx:=hk.kf x
  rw [h3]at hx
  unfold tH
  split
  ·rename_i k K1
   rw [K1]at hx
   rw [h1]
   simp only [h2]
   have hx:den U st.rs k=some (.pointer (some p)):=hx
   cases k with
   | loc id off=>
    show den U st.rs _=_
    unfold den at hx ⊢
    simp only [PK.id]at hx ⊢
    cases hn:nth st.rs id with
    | none=>rw [hn]at hx;simp [cm]at hx
    | some r=>
     rw [hn]at hx
     cases r<;>simp only [cm,reduceCtorEq,Option.some.injEq,Value.pointer.injEq]at hx ⊢
     rw [← hx,bG]
   | el id li i off=>
    show den U st.rs _=_
    unfold den at hx ⊢
    simp only [PK.id]at hx ⊢
    cases hn:nth st.rs id with
    | none=>rw [hn]at hx;simp [cm]at hx
    | some r=>
     rw [hn]at hx
     simp only [cm]at hx ⊢
     cases hL:jb r li with
     | none=>rw [hL]at hx;cases hx
     | some L=>
      simp only [hL]at hx ⊢
      split at hx
      ·rename_i hb
       rw [if_pos hb]
       injection hx with hx
       injection hx with hx
       injection hx with hx
       rw [← hx]
       unfold elA
       rw [← add_add]
      ·cases hx
   | obj id path off=>
    show den U st.rs _=_
    unfold den at hx ⊢
    simp only [PK.id]at hx ⊢
    cases hn:nth st.rs id with
    | none=>rw [hn]at hx;simp [cm]at hx
    | some r=>
     rw [hn]at hx
     cases r<;>simp only [cm,reduceCtorEq,Option.some.injEq,Value.pointer.injEq]at hx ⊢
     rw [← hx,bG]
   | sl _ _=>exact trivial
  ·exact trivial
 case sliceToArrayPointer arr x=>
  simp only [mE]at h
  have hx:=hk.kf x
  split at h
  ·rename_i id li K1
   rw [K1]at hx
   have hx:den U st.rs (.sl id li)=some (ev fr x):=hx
   split at h
   ·rename_i r n e hn ht
    split at h
    ·rename_i L hL
     simp only [den,PK.id,hn,cm,hL,Option.some.injEq]at hx
     obtain⟨⟨h0,hle⟩,hK⟩:=h
     obtain⟨p,y,hA,_⟩:=((hS.res id _ hn).ls hL).ld (i:=0) (by omega) (by omega)
     have e1:elA U L.t L.A 0 0=p:=by unfold elA;rw [hA];simp [Addr.add]
     obtain⟨v,hv,KK⟩:=hp (fun v=>v= .pointer (some p)) (fun _ _ e=>by cases e) (by
      show(match P.underlying arr,ev fr x with
       | some (.array n _),.slice a len _=>n≤len∧Value.pointer a= .pointer (some p)
       | _,_=>False)
      rw [ht,← hx,hA]
      exact⟨hle,rfl⟩)
     subst hv
     rw [e1]at hK
     refine⟨_,_,hK,?_,KK⟩
     show den U st.rs (.el id li 0 0)=_
     simp only [den,PK.id,hn,cm,hL]
     rw [if_pos (by omega),e1]
    ·exact h.elim
   ·exact h.elim
  ·exact h.elim
 case indexAddr t x i=>
  simp only [mE]at h
  have hx:=hk.kf x
  split at h
  ·rename_i id li k ix K1 hi
   rw [K1]at hx
   have hx:den U st.rs (.sl id li)=some (ev fr x):=hx
   split at h
   ·rename_i r e hn ht
    split at h
    ·rename_i L hL
     simp only [den,PK.id,hn,cm,hL,Option.some.injEq]at hx
     split at h
     ·rename_i he
      simp only [Bool.and_eq_true]at he
      have JR:bq P e=(U.en L.t).size:=Nat.eq_of_beq_eq_true he.2
      obtain⟨hb,hK⟩:=h
      obtain⟨p,y,hA,_⟩:=((hS.res id _ hn).ls hL).ld hb.1 hb.2
      have hv:elA U L.t L.A ix 0=p.add (ix.toNat *bq P e):=by
       unfold elA
       rw [hA,JR]
       simp [Addr.add]
      refine⟨_,_,hK,?_,fun w' _=>?_⟩
      ·show den U st.rs (.el id li ix 0)=_
       simp only [den,PK.id,hn,cm,hL]
       rw [if_pos hb]
      ·have:=Fu (P:=P) (c:=L.c) (k:=k) ht he.1 hb hA w'
       rw [hv]
       simp [execOp,← hx,hi,this]
     ·exact h.elim
    ·exact h.elim
   ·exact h.elim
  ·rename_i id path off k ix K1 hi
   rw [K1]at hx
   have hx:den U st.rs (.obj id path off)=some (ev fr x):=hx
   split at h
   ·rename_i tt r s li n e hn Ps ht
    split at h
    ·rename_i L hL
     simp only [den,PK.id,hn,cm,Option.some.injEq]at hx
     split at h
     ·rename_i he
      simp only [Bool.and_eq_true]at he
      have JR:bq P e=(U.en L.t).size:=Nat.eq_of_beq_eq_true he.2
      obtain⟨⟨hb,O3⟩,hK⟩:=h
      unfold Uni.ix1 at Ps
      rw [hn]at Ps
      have hA:=U.ql Ps hL
      have hM:oI P t (ev fr x) (ev fr i) (fun v=>v= .pointer (some ((Addr.mk (r path) off none).add (ix.toNat *bq P e)))):=by
       unfold oI
       rw [ht,← hx,hi]
       simp only [he.1]
       exact⟨⟨hb.1,O3⟩,ai _ rfl rfl⟩
      obtain⟨v,hv,KK⟩:=mK hM
      have hvE:elA U L.t L.A ix 0=(Addr.mk (r path) off none).add (ix.toNat *bq P e):=by
       unfold elA
       rw [hA,JR]
       simp [Addr.add]
      refine⟨_,_,hK,?_,fun w' _=>?_⟩
      ·show den U st.rs (.el id li ix 0)=_
       simp only [den,PK.id,hn,cm,jb,hL]
       rw [if_pos hb]
      ·rw [hvE,← hv]
       simp [execOp,KK]
     ·exact h.elim
    ·exact h.elim
   ·exact h.elim
  ·rename_i id off k ix K1 hi
   rw [K1]at hx
   have hx:den U st.rs (.loc id off)=some (ev fr x):=hx
   unfold den at hx
   simp only [PK.id]at hx
   cases hn:nth st.rs id with
   | none=>rw [hn]at hx;simp [cm]at hx
   | some r=>
    rw [hn]at hx
    cases r<;>simp only [cm,reduceCtorEq,Option.some.injEq]at hx
    rename_i g cs T
    rw [← hx]at h
    obtain⟨n,e,k',ix',h1,h2,h3,h4⟩:=Du h
    rw [hi]at h2
    injection h2 with h2 h2'
    subst h2;subst h2'
    refine⟨_,_,h3,?_,fun w' _=>by simp [execOp,← hx,h4]⟩
    show den U st.rs _=_
    simp only [den,PK.id,hn,cm,DA,h1]
    rw [bG]
  ·exact h.elim
 case extract x i=>
  simp only [mE]at h
  split at h
  ·rename_i vs hx
   obtain⟨v,hv,hK⟩:=cS h
   have Me:vs[i]? =some v:=by rw [aH]at hv;simpa using hv
   refine⟨v,_,hK,?_,fun w' _=>?_⟩
   ·unfold Dl
    split
    ·rename_i l K1
     split
     ·rename_i p hl
      have:=hk.kf x
      rw [K1,hx]at this
      obtain⟨vs',e,hh⟩:=this
      injection e with e
      subst e
      obtain⟨u,hu,hd⟩:=hh i p hl
      rw [Me]at hu
      injection hu with hu
      subst hu
      exact hd
     ·exact trivial
    ·exact trivial
   ·simp [execOp,Instr.extract,hx,Me]
  ·exact h.elim
 case makeFunc f first cap=>
  refine⟨_,_,h,?_,fun w' _=>by rw [vr,vr];rfl⟩
  have key:∀(a:Array Operand)(j:Nat)(k:PK),nth (aF (fun x=>iw (V.kf st.kn x)) a.toList) j=some (some k)→∃u,(⟨aF (ev fr) a.toList⟩:Array Value)[j]? =some u∧den U st.rs k=some u:=by
   intro a j k hj
   rw [aY]at hj
   cases hn:nth a.toList j with
   | none=>rw [hn]at hj;cases hj
   | some x=>
    rw [hn]at hj
    injection hj with hj
    refine⟨ev fr x,?_,?_⟩
    ·rw [aH]at hn
     simp [fZ,hn]
    ·have:=hk.kf x
     unfold iw at hj
     dsimp only at hj
     split at hj
     ·rename_i q hq
      injection hj with hj
      subst hj
      rw [hq]at this
      exact this
     ·cases hj
  exact⟨_,_,_,rfl,by simp,key first,key cap⟩
 case binOp op t x y ty'=>
  simp only [mE]at h
  split at h
  ·exact h.elim
  ·exact Vv (fun _ _ e=>by cases e) h
 case slice t x lo hi mx=>
  cases lo with
  | some _=>exact h.elim
  | none=>cases hi with
   | some _=>exact h.elim
   | none=>cases mx with
    | some _=>exact h.elim
    | none=>
     simp only [mE]at h
     have hx:=hk.kf x
     split at h
     ·rename_i id path off K1
      rw [K1]at hx
      have hx:den U st.rs (.obj id path off)=some (ev fr x):=hx
      split at h
      ·rename_i tt r s li n e hn Ps ht
       split at h
       ·rename_i L hL
        simp only [den,PK.id,hn,cm,Option.some.injEq]at hx
        split at h
        ·rename_i he
         obtain⟨⟨⟨hl,hc⟩,WA⟩,hK⟩:=h
         unfold Uni.ix1 at Ps
         rw [hn]at Ps
         have hA:=U.ql Ps hL
         have hM:pG P t (ev fr x) none none none (fun v=>v= .slice L.A L.l.length L.c) False:=by
          unfold pG
          rw [ht,← hx]
          simp only [he,Option.isNone_none,Bool.true_or,Bool.and_self]
          refine ai _ rfl ?_
          unfold lV oz qw
          intro a' W3 n' MT c' Q2
          subst W3 MT Q2
          rw [if_neg (by omega),hA,hl,hc]
          simp [Addr.add]
         rcases pF hM with⟨v,hv,KK⟩ | h
         ·refine⟨_,_,hK,?_,fun w' _=>?_⟩
          ·show den U st.rs (.sl id li)=_
           simp only [den,PK.id,hn,cm,jb,hL]
          ·rw [← hv]
           simp [execOp,KK]
         ·exact h.elim
        ·exact h.elim
       ·exact h.elim
      ·exact h.elim
     ·exact h.elim
end
end
end Go.Proofs.YtinhphjfnedhgaaGreatDoor.V
namespace Go.Proofs.YtinhphjfnedhgaaGreatDoor
open Go.Proofs.Tryz (prog)
open Go Go.RowKit V
open Go.IntKind (i64 u32 u64)
def bm(a b:Int):Int:=u32.wrap (a+b)
def o9(a b:Int):Int:=u32.wrap (BitVec.ofInt u32.bits a ^^^ BitVec.ofInt u32.bits b).toNat
def DX(a b:Int):Int:=u32.wrap (BitVec.ofInt u32.bits a &&& BitVec.ofInt u32.bits b).toNat
def IT(a:Int):Int:=u32.wrap (BitVec.ofInt u32.bits (if u32.signed then -1 else u32.max) ^^^ BitVec.ofInt u32.bits a).toNat
def mu(w n:Int):Int:=u32.wrap (BitVec.ofInt u32.bits (w.fdiv (2 ^ (min n.toNat u32.bits))) ||| BitVec.ofInt u32.bits (u32.wrap (w*2 ^ (min (32 - n).toNat u32.bits)))).toNat
theorem HR {k:Int}(h: -31≤k∧k≤ -1):u64.wrap (BitVec.ofInt u64.bits (u64.wrap k) &&& BitVec.ofInt u64.bits 31).toNat=32+k:=by
 have:∀j:Fin 31,u64.wrap (BitVec.ofInt u64.bits (u64.wrap (-(j.val+1:Int))) &&& BitVec.ofInt u64.bits 31).toNat=32+ -(j.val+1:Int):=by decide+kernel
 have h2:=this ⟨(-k - 1).toNat,by omega⟩
 simp only []at h2
 rwa [show(-(((-k - 1).toNat:Nat)+1:Int))=k by omega]at h2
theorem ny {x:Int}(h:0≤x∧x<18446744073709551616):u64.wrap x=x:=by rw [IntKind.wrap_u64];omega
theorem rot_eq {x k:Int}(h: -31≤k∧k≤ -1):u32.wrap (BitVec.ofInt u32.bits (u32.wrap (x*2 ^ (min (32+k).toNat u32.bits))) ||| BitVec.ofInt u32.bits (x.fdiv (2 ^ (min (u64.wrap (32 - (32+k))).toNat u32.bits)))).toNat=mu x (-k):=by
 rw [ny (by omega),BitVec.or_comm,show 32 - (32+k)= -k by omega]
 unfold mu
 rw [show 32 - -k=32+k by omega]
def sg0(a:Int):Int:=o9 (o9 (mu a 7) (mu a 18)) (a.fdiv (2 ^ 3))
def sg1(b:Int):Int:=o9 (o9 (mu b 17) (mu b 19)) (b.fdiv (2 ^ 10))
abbrev back(l:List Int)(t k:Int):Int:=l.getD (Int.toNat (i64.wrap (t - k))) 0
def CD(l:List Int)(t:Int):Int:=bm (bm (bm (back l t 16) (sg0 (back l t 15))) (back l t 7)) (sg1 (back l t 2))
def ah(b:List Int):Nat→List Int
 | 0=>b++List.replicate 48 0
 | k+1=>(ah b k).set (16+k) (CD (ah b k) ((16+k:Nat):Int))
theorem cJ {b:List Int}(h:b.length=16):∀k,(ah b k).length=64
 | 0=>by simp [ah,h]
 | k+1=>by simp [ah,cJ h k]
theorem u6 {b:List Int} {t:Int}(h:16≤t∧t<64):ah b ((i64.wrap (t+1)).toNat - 16)=(ah b (t.toNat - 16)).set t.toNat (CD (ah b (t.toNat - 16)) t):=by
 rw [ax (by omega),show(t+1).toNat - 16=(t.toNat - 16)+1 by omega,ah,show 16+(t.toNat - 16)=t.toNat by omega,show((t.toNat:Nat):Int)=t by omega]
@[ext] structure S8 where
 (a b c d e f g h:Int)
deriving DecidableEq
def S8.T1(k w:Int)(s:S8):Int:=bm (bm (bm (bm s.h (o9 (o9 (mu s.e 6) (mu s.e 11)) (mu s.e 25))) (o9 (DX s.e s.f) (DX (IT s.e) s.g))) k) w
def S8.T2(s:S8):Int:=bm (o9 (o9 (mu s.a 2) (mu s.a 13)) (mu s.a 22)) (o9 (o9 (DX s.a s.b) (DX s.a s.c)) (DX s.b s.c))
def S8.rnd(k w:Int)(s:S8):S8:=⟨bm (s.T1 k w) s.T2,s.a,s.b,s.c,bm s.d (s.T1 k w),s.e,s.f,s.g⟩
def aI(K W:List Int)(s:S8):Nat→S8
 | 0=>s
 | t+1=>S8.rnd (K.getD t 0) (W.getD t 0) (aI K W s t)
theorem eT {K W:List Int} {s:S8} {t:Int}(h:0≤t∧t<64):aI K W s (i64.wrap (t+1)).toNat=S8.rnd (K.getD t.toNat 0) (W.getD t.toNat 0) (aI K W s t.toNat):=by
 rw [ax (by omega),show(t+1).toNat=t.toNat+1 by omega,aI]
def S8.add(s v:S8):S8:=⟨bm v.a s.a,bm v.b s.b,bm v.c s.c,bm v.d s.d,bm v.e s.e,bm v.f s.f,bm v.g s.g,bm v.h s.h⟩
def ji(K:List Int)(s:S8)(b:List Int):S8:=s.add (aI K (ah b 48) s 64)
def S8.first:S8:=⟨1779033703,3144134277,1013904242,2773480762,1359893119,2600822924,528734635,1541459225⟩
def S8.ok(s:S8):Prop:=(0≤s.a∧s.a<4294967296)∧(0≤s.b∧s.b<4294967296)∧(0≤s.c∧s.c<4294967296)∧(0≤s.d∧s.d<4294967296)∧(0≤s.e∧s.e<4294967296)∧(0≤s.f∧s.f<4294967296)∧(0≤s.g∧s.g<4294967296)∧(0≤s.h∧s.h<4294967296)
theorem ep(a b:Int):0≤bm a b∧bm a b<4294967296:=by unfold bm;rw [u32_eq];omega
theorem S8.qE(s v:S8):(s.add v).ok:=⟨ep _ _,ep _ _,ep _ _,ep _ _,ep _ _,ep _ _,ep _ _,ep _ _⟩
end Go.Proofs.YtinhphjfnedhgaaGreatDoor
namespace Go.Proofs.YtinhphjfnedhgaaGreatDoor.V
open Go Go.RowKit
open Go.IntKind (i64 u32 u64)
theorem qx:u32.bits=32:=rfl
theorem DP:u64.bits=64:=rfl
def nor(x y:Int):Int:=((x.toNat ||| y.toNat:Nat):Int)
def Fj(x y:Int):Int:=((x.toNat &&& y.toNat:Nat):Int)
theorem eg {n:Nat} {x:Int}(h0:0≤x)(h:x<2 ^ n):(BitVec.ofInt n x).toNat=x.toNat:=by
 rw [BitVec.toNat_ofInt,Int.emod_eq_of_lt h0 (by exact_mod_cast h)]
theorem nJ {x y:Int}(hx:0≤x∧x<4294967296)(hy:0≤y∧y<4294967296):u32.wrap (BitVec.ofInt u32.bits x ||| BitVec.ofInt u32.bits y).toNat=nor x y:=by
 have h:=BitVec.isLt (BitVec.ofInt 32 x ||| BitVec.ofInt 32 y)
 rw [qx,dh (by omega),BitVec.toNat_or,eg hx.1 hx.2,eg hy.1 hy.2];rfl
theorem o6 {x y:Int}(hx:0≤x∧x<4294967296)(hy:0≤y∧y<4294967296):u32.wrap (BitVec.ofInt u32.bits x &&& BitVec.ofInt u32.bits y).toNat=Fj x y:=by
 have h:=BitVec.isLt (BitVec.ofInt 32 x &&& BitVec.ofInt 32 y)
 rw [qx,dh (by omega),BitVec.toNat_and,eg hx.1 hx.2,eg hy.1 hy.2];rfl
theorem fQ(k:Nat) {a y:Int}(ha:0≤a)(hy:0≤y)(h:y<2 ^ k):nor (2 ^ k*a) y=2 ^ k*a+y:=by
 obtain⟨a,rfl⟩:=Int.eq_ofNat_of_zero_le ha
 obtain⟨y,rfl⟩:=Int.eq_ofNat_of_zero_le hy
 have h':y<2 ^ k:=by exact_mod_cast h
 have e:((2:Int) ^ k*(a:Int)).toNat=2 ^ k*a:=by
  rw [show(2:Int) ^ k*(a:Int)=((2 ^ k*a:Nat):Int)by push_cast;rfl,Int.toNat_natCast]
 unfold nor
 rw [e,Int.toNat_natCast,← Nat.two_pow_add_eq_or_of_lt h']
 push_cast;rfl
theorem mD(x y:Int):nor x y=nor y x:=by unfold nor;rw [Nat.or_comm]
theorem nM(k:Nat) {x:Int}(hx:0≤x):Fj x (2 ^ k - 1)=x % 2 ^ k:=by
 obtain⟨x,rfl⟩:=Int.eq_ofNat_of_zero_le hx
 have hp:0<2 ^ k:=Nat.two_pow_pos k
 have e:((2:Int) ^ k - 1).toNat=2 ^ k - 1:=by
  have:((2:Int) ^ k)=((2 ^ k:Nat):Int):=by push_cast;rfl
  omega
 unfold Fj
 rw [e,Int.toNat_natCast,Nat.and_two_pow_sub_one_eq_mod]
 push_cast;rfl
theorem ly {x:Int}(n:Nat):x.fdiv (2 ^ n)=x / 2 ^ n:=Int.fdiv_eq_ediv_of_nonneg x (Int.pow_nonneg (by omega))
end Go.Proofs.YtinhphjfnedhgaaGreatDoor.V
namespace Go.Proofs.YtinhphjfnedhgaaGreatDoor
open Go.Proofs.Tryz (prog)
open Go Go.RowKit V
open Go.IntKind (i64 u32 u64)
section
def Hv(K:List Int):Nat→S8→List U32→S8×List U32
 | 0,s,l=>(s,l)
 | f+1,s,l=>if 16≤l.length then Hv K f (ji K s ((l.take 16).map U32.v)) (l.drop 16)else(s,l)
def dJ(K:List Int)(s:S8)(l:List U32):S8×List U32:=Hv K (l.length / 16) s l
theorem gj {K:List Int} {s:S8} {l:List U32}(h:l.length<16):dJ K s l=(s,l):=by
 unfold dJ
 rw [Nat.div_eq_of_lt h];rfl
theorem iK {K:List Int} {s:S8} {l:List U32}(h:16≤l.length):dJ K s l=dJ K (ji K s ((l.take 16).map U32.v)) (l.drop 16):=by
 unfold dJ
 rw [show l.length / 16=(l.drop 16).length / 16+1 by rw [List.length_drop];omega,Hv,if_pos h]
theorem lW {K:List Int} {p:S8→List U32→Prop}(h0:∀s l,l.length<16→p s l)(h1:∀s l,16≤l.length→p (ji K s ((l.take 16).map U32.v)) (l.drop 16)→p s l):∀(n:Nat)(s:S8)(l:List U32),l.length=n→p s l:=by
 intro n
 induction n using Nat.strongRecOn with
 | ind n ih=>
  intro s l hl
  by_cases h:l.length<16
  ·exact h0 s l h
  ·exact h1 s l (by omega) (ih (l.drop 16).length (by rw [List.length_drop];omega) _ _ rfl)
theorem yU(K:List Int)(s:S8)(l:List U32):(dJ K s l).2.length=l.length % 16:=by
 refine lW (K:=K) (p:=fun s l=>(dJ K s l).2.length=l.length % 16) (fun s l h=>?_) (fun s l h ih=>?_) _ s l rfl
 ·simp only [gj h];rw [Nat.mod_eq_of_lt h]
 ·simp only [iK h];rw [ih,List.length_drop];omega
theorem yT(K:List Int)(s:S8)(l:List U32):∀x∈(dJ K s l).2,x∈l:=by
 refine lW (K:=K) (p:=fun s l=>∀x∈(dJ K s l).2,x∈l) (fun s l h=>?_) (fun s l h ih=>?_) _ s l rfl
 ·simp only [gj h];exact fun x h=>h
 ·simp only [iK h];exact fun x hx=>List.mem_of_mem_drop (ih x hx)
theorem Bu(K:List Int)(s:S8)(l:List U32):s.ok→(dJ K s l).1.ok:=by
 refine lW (K:=K) (p:=fun s l=>s.ok→(dJ K s l).1.ok) (fun s l h=>?_) (fun s l h ih=>?_) _ s l rfl
 ·simp only [gj h];exact fun h=>h
 ·simp only [iK h];exact fun _=>ih (S8.qE _ _)
theorem j6 {l:List U32}(h:16≤l.length):(l.take 16).map U32.v= [(l.getD 0 ⟨0⟩).v,(l.getD 1 ⟨0⟩).v,(l.getD 2 ⟨0⟩).v,(l.getD 3 ⟨0⟩).v,(l.getD 4 ⟨0⟩).v,(l.getD 5 ⟨0⟩).v,(l.getD 6 ⟨0⟩).v,(l.getD 7 ⟨0⟩).v,(l.getD 8 ⟨0⟩).v,(l.getD 9 ⟨0⟩).v,(l.getD 10 ⟨0⟩).v,(l.getD 11 ⟨0⟩).v,(l.getD 12 ⟨0⟩).v,(l.getD 13 ⟨0⟩).v,(l.getD 14 ⟨0⟩).v,(l.getD 15 ⟨0⟩).v]:=by
 rcases l with _ | ⟨a,_ | ⟨b,_ | ⟨c,_ | ⟨d,_ | ⟨e,_ | ⟨f,_ | ⟨g,_ | ⟨h,_ | ⟨i,_ | ⟨j,_ | ⟨k,_ | ⟨m,_ | ⟨n,_ | ⟨o,_ | ⟨p,_ | ⟨q,r⟩⟩⟩⟩⟩⟩⟩⟩⟩⟩⟩⟩⟩⟩⟩⟩
 all_goals first | rfl | (simp at h;done)
structure Dg where
 st:S8
 n:Int
 waits:List U32
namespace Dg
def new:Dg:=⟨S8.first,0,[]⟩
def add(K:List Int)(d:Dg)(l:List U32):Dg:=if(l.length:Int)>36028797018963968 - d.n then d else⟨(dJ K d.st (d.waits++l)).1,d.n+l.length,(dJ K d.st (d.waits++l)).2⟩
structure Ok(d:Dg):Prop where
 n:0≤d.n∧d.n≤36028797018963968
 len:d.waits.length=(d.n % 16).toNat
 st:d.st.ok
 words:∀x∈d.waits,0≤x.v∧x.v<4294967296
theorem km:new.Ok:=⟨by decide,rfl,by unfold S8.ok new S8.first;decide,by simp [new]⟩
theorem qE {K:List Int} {d:Dg} {l:List U32}(h:d.Ok)(hl:∀x∈l,0≤x.v∧x.v<4294967296):(d.add K l).Ok:=by
 unfold add
 split
 ·exact h
 ·have hn:=h.n
  have hw:=h.len
  refine⟨⟨by show 0≤d.n+_;omega,by show d.n+_≤_;omega⟩,?_,Bu _ _ _ h.st,fun x hx=>?_⟩
  ·show(dJ K d.st (d.waits++l)).2.length=((d.n+l.length) % 16).toNat
   rw [yU,List.length_append,hw]
   omega
  ·rcases List.mem_append.1 (yT _ _ _ x hx)with h1 | h1
   ·exact h.words x h1
   ·exact hl x h1
def save(d:Dg):List Int:= [d.st.a,d.st.b,d.st.c,d.st.d,d.st.e,d.st.f,d.st.g,d.st.h,d.n / 4294967296,d.n % 4294967296]++(d.waits.map U32.v++List.replicate (16 - d.waits.length) 0)
def jw(l:List U32):S8:=⟨(l.getD 0 ⟨0⟩).v,(l.getD 1 ⟨0⟩).v,(l.getD 2 ⟨0⟩).v,(l.getD 3 ⟨0⟩).v,(l.getD 4 ⟨0⟩).v,(l.getD 5 ⟨0⟩).v,(l.getD 6 ⟨0⟩).v,(l.getD 7 ⟨0⟩).v⟩
def nOf(l:List U32):Int:=(l.getD 8 ⟨0⟩).v*4294967296+(l.getD 9 ⟨0⟩).v
def load(l:List U32):Dg:=⟨jw l,nOf l,(l.drop 10).take (nOf l % 16).toNat⟩
theorem save_eq {d:Dg}(h:d.Ok) {x y:Int} {n:Nat}(hx:x=d.n / 4294967296)(hy:y=d.n % 4294967296)(hn:d.waits.length=n):
 iu (((iu (List.replicate 26 0) 0 (List.take (min 8 8) [d.st.a,d.st.b,d.st.c,d.st.d,d.st.e,d.st.f,d.st.g,d.st.h])).set 8 x).set 9 y) 10 ((List.map U32.v d.waits).take (min n 16))=d.save:=by
 have hl:=h.len
 have NU:=h.n
 subst hx hy hn
 rw [List.take_of_length_le (l:=List.map U32.v d.waits) (by simp;omega)]
 have e:(((iu (List.replicate 26 0) 0 (List.take (min 8 8) [d.st.a,d.st.b,d.st.c,d.st.d,d.st.e,d.st.f,d.st.g,d.st.h])).set 8 (d.n / 4294967296)).set 9 (d.n % 4294967296))= [d.st.a,d.st.b,d.st.c,d.st.d,d.st.e,d.st.f,d.st.g,d.st.h,d.n / 4294967296,d.n % 4294967296]++(List.replicate d.waits.length 0++List.replicate (16 - d.waits.length) 0):=by
  rw [List.replicate_append_replicate,show d.waits.length+(16 - d.waits.length)=16 by omega];rfl
 rw [e]
 exact pL [d.st.a,d.st.b,d.st.c,d.st.d,d.st.e,d.st.f,d.st.g,d.st.h,d.n / 4294967296,d.n % 4294967296] (d.waits.map U32.v) _ _ (by simp)
theorem GN {n:Int}(h:0≤n∧n≤36028797018963968):u32.wrap ((u64.wrap n:Int).fdiv (2 ^ 32))=n / 4294967296:=by
 rw [ny (by omega),ly,dh (by omega)];rfl
theorem nOf_eq {l:List U32}(h:∀x∈l,0≤x.v∧x.v<4294967296)(hl:l.length=26):u64.wrap (BitVec.ofInt u64.bits (u64.wrap ((u64.wrap (l.getD 8 ⟨0⟩).v:Int)*2 ^ 32)) ||| BitVec.ofInt u64.bits (u64.wrap (l.getD 9 ⟨0⟩).v)).toNat=nOf l∧0≤nOf l∧nOf l<18446744073709551616:=by
 have h8:=h _ (List.getElem_mem (show 8<l.length by omega))
 have h9:=h _ (List.getElem_mem (show 9<l.length by omega))
 have e8:(l.getD 8 ⟨0⟩)=l[8]:=by simp [List.getD_eq_getElem?_getD,hl]
 have e9:(l.getD 9 ⟨0⟩)=l[9]:=by simp [List.getD_eq_getElem?_getD,hl]
 have hn:nOf l=l[8].v*(4294967296:Int)+l[9].v:=by unfold nOf;rw [e8,e9]
 refine⟨?_,by rw [hn];omega,by rw [hn];omega⟩
 rw [e8,e9,hn]
 generalize l[8].v=a at *
 generalize l[9].v=b at *
 rw [ny (x:=a) (by omega),ny (x:=b) (by omega),ny (x:=a*2 ^ 32) (by omega)]
 rw [DP,BitVec.toNat_or,eg (by omega) (by omega),eg (by omega) (by omega)]
 have:=fQ 32 (a:=a) (y:=b) (by omega) (by omega) (by omega)
 unfold nor at this
 rw [show a*2 ^ 32=2 ^ 32*a by omega,this,ny (by omega)]
 omega
def ao(l:List U32):Int:=
 if l.length≠26 then 20 else if nOf l>36028797018963968∨(nOf l<16∧jw l≠S8.first)then 20
 else if(l.drop (10+(nOf l % 16).toNat)).all (fun x=>x.v==0)then 0 else 20
def zero:Dg:=⟨⟨0,0,0,0,0,0,0,0⟩,0,[]⟩
def j1(l:List U32):Dg:=if ao l=0 then load l else zero
theorem mF {l:List U32}(h:¬l.length=26):ao l=20:=by unfold ao;rw [if_pos h]
theorem gJ {l:List U32}(h:l.length=26)(hg:nOf l>36028797018963968∨(nOf l<16∧jw l≠S8.first)):ao l=20:=by unfold ao;rw [if_neg (by simpa using h),if_pos hg]
theorem lO {l:List U32}(h:l.length=26)(hg:¬(nOf l>36028797018963968∨(nOf l<16∧jw l≠S8.first)))(hz:∀(i:Nat)(x:U32),(l.drop (10+(nOf l % 16).toNat))[i]? =some x→x.v=0):ao l=0:=by
 unfold ao
 rw [if_neg (by simpa using h),if_neg hg,if_pos]
 rw [List.all_eq_true]
 intro x hx
 obtain⟨i,hi⟩:=List.getElem?_of_mem hx
 simpa using hz i x hi
theorem eW {l:List U32}(h:l.length=26)(hg:¬(nOf l>36028797018963968∨(nOf l<16∧jw l≠S8.first))) {i:Nat} {x:U32}(hx:(l.drop (10+(nOf l % 16).toNat))[i]? =some x)(h0:¬x.v=0):ao l=20:=by
 unfold ao
 rw [if_neg (by simpa using h),if_neg hg,if_neg]
 rw [List.all_eq_true]
 intro hh
 exact h0 (by simpa using hh x (List.mem_of_getElem? hx))
theorem lo_eq {l:List U32}:(i64.wrap (10+nOf l % 16)).toNat=10+(nOf l % 16).toNat:=by rw [ax (by omega)];omega
end Dg
structure DgL where
 Y:Nat→Prop
 a:Option Addr
 n:Nat
 c:Nat
def DgL.X(L:DgL)(g:Nat):Nat→Prop:=fun k=>k=g∨L.Y k
structure nj(w:World)(g:Nat)(L:DgL)(D:Dg):Prop where
 blk:∃T,Blk w g #[.int .u32 D.st.a,.int .u32 D.st.b,.int .u32 D.st.c,.int .u32 D.st.d,.int .u32 D.st.e,.int .u32 D.st.f,.int .u32 D.st.g,.int .u32 D.st.h,.int .i64 D.n,.slice L.a L.n L.c] T
 rd:Rd w L.Y L.a L.n L.c D.waits
 off:¬L.Y g
variable {w w':World} {g:Nat} {L:DgL} {D:Dg} {X:Nat→Prop}
theorem nj.lt(h:nj w g L D):∀k,L.X g k→k<w.heap.size:=by
 rintro k (rfl | hk)
 ·obtain⟨T,b⟩:=h.blk;exact b.lt
 ·exact h.rd.lt k hk
theorem nj.ch(h:nj w g L D)(hk:Ch X w w')(hx:∀k,L.X g k→¬X k):nj w' g L D:=
 ⟨h.blk.imp fun _ b=>hk.blk b (hx g (.inl rfl)),h.rd.ch hk fun k hk=>hx k (.inr hk),h.off⟩
theorem nj.pu(h:nj w g L D)(hk:Pu w w'):nj w' g L D:=h.ch hk (by simp)
end
structure Mem where
 S:Nat
 I:Nat
 pg:Bool→Nat→Nat→Int
namespace Mem
def cnt(m:Mem)(s:Bool):Nat:=match s with
 | true=>m.S
 | false=>m.I
def has(m:Mem)(s:Bool)(p:Int):Bool:=decide (0≤p∧p<(m.cnt s:Int))
def dM(o:Int):Bool:=decide (0≤o∧o<1024)
def bw(m:Mem)(s:Bool)(p o:Int):Int:=if m.has s p && dM o then m.pg s p.toNat o.toNat else 0
def tick(m:Mem)(_:Int):Mem:=m
def fill(m:Mem)(s:Bool)(p:Nat)(f:Nat→Int):Mem:= {m with pg:=fun s' p' o'=>if s'=s∧p'=p then f o' else m.pg s' p' o'}
def put(m:Mem)(s:Bool)(p o:Nat)(v:Int):Mem:=m.fill s p fun o'=>if o'=o then v else m.pg s p o'
def err(m:Mem)(s:Bool)(p o:Int):Int:=if m.has s p then(if dM o then 0 else 70)else 5
def write(m:Mem)(s:Bool)(p o v:Int):Mem:=if m.has s p && dM o then(m.put s p.toNat o.toNat v).tick 1 else m
def dx(m:Mem)(s:Bool)(p:Int):Int:=if m.has s p then 0 else 5
def zero(m:Mem)(s:Bool)(p:Int):Mem:=if m.has s p then(m.fill s p.toNat fun _=>0).tick 1024 else m
def fresh(S I:Nat):Mem:= {S,I,pg:=fun _ _ _=>0}
@[simp] theorem Is(m:Mem)(n:Int)(s:Bool):(m.tick n).cnt s=m.cnt s:=by cases s<;>rfl
@[simp] theorem It(m:Mem)(s':Bool)(p:Nat)(f:Nat→Int)(s:Bool):(m.fill s' p f).cnt s=m.cnt s:=by cases s<;>rfl
@[simp] theorem IG(m:Mem)(s':Bool)(p o:Nat)(v:Int)(s:Bool):(m.put s' p o v).cnt s=m.cnt s:=by cases s<;>rfl
theorem ay {m:Mem} {s:Bool} {p:Int}(h:m.has s p=true):0≤p∧p<(m.cnt s:Int):=by simpa [has]using h
theorem dA {m:Mem} {s:Bool} {p:Int}(h:m.has s p=true):p.toNat<m.cnt s:=by have:=ay h;omega
theorem gQ {o:Int}(h:dM o=true):0≤o∧o<1024:=by simpa [dM]using h
end Mem
end Go.Proofs.YtinhphjfnedhgaaGreatDoor
namespace Go.Proofs.YtinhphjfnedhgaaGreatDoor
open Go.Proofs.Tryz (prog)
open Go Go.RowKit V
open Go.IntKind (i64 u32 u64)
section
set_option maxRecDepth 100000
def aP:List Nat:= [2,3,4,5,6,7,8,9,10,11,12,13,14,15,16,17,18,19,20,21,22,23,24,25,26,27,28,29,30,31,32,33,34,35,36,37,38,39,40,41,42,43,44,45,46,47,48,49,50,51,52,53,54,55,56,57,58,59,60,61,62,63,64,65,66,67,68,69,70,71,72,73,74,75,76,77,78,79,80,81,82,83,84,85,86,87,88,89,90,91,92,93,94,95,96,97,98,99,100,101,102,103,104,105,106,107,108,109,110,111,112,113,114,115,116,117,118,119,120,121,122,123,124,125,126,127,128,129,130,131,132,133,134,135,136,137,138,139,140,141,142,143,144,145,146,147,148,149,150,151,152,153,154,155,156,157,158,159,160,161,162,163,164,165,166,167,168,169,170,171,172,173,174,175,176,177,178,179,180,181,182,183,184,185,186,187,188,189,190,191,192,193,194,195,196,197,198,199,200,201,218,219,225]
theorem aw:dP prog aP=true:=by kernel_rfl
theorem aa:prog.follows .mixedOrders=true:=by kernel_rfl
def sS(aA:Option Addr)(aN:Nat)(aC:Nat)(bA:Option Addr)(bN:Nat)(bC:Nat)(R:aD)(w:World):Prop:=
 split ((((aN:Nat):Int):Int) !=((bN:Nat):Int)) (
  R (.bool false) w) (
  ∃I:Nat→Int→World→Prop,(∃m,I m 0 w)∧∀(m:Nat)(L5:Nat→Value)(KJ:Int),∀wv,I m KJ wv→
  split (decide ((KJ:Int)<((aN:Nat):Int))) (
   (0≤(KJ:Int)∧(KJ:Int)<((aN:Nat):Int))∧
   ar aA fun PW=>
   ∃Kl:Option Addr,wv.drew.cell? (PW.add (Int.toNat KJ*1))=some (.pointer Kl)∧
   ar Kl fun Rp=>
   ∃KL:Array Value,(KL.size=1024∧∀i u,KL[i]? =some u→wv.drew.cell? (Rp.add i)=some u)∧
   (0≤(KJ:Int)∧(KJ:Int)<((bN:Nat):Int))∧
   ar bA fun p24=>
   ∃LY:Option Addr,wv.drew.cell? (p24.add (Int.toNat KJ*1))=some (.pointer LY)∧
   ar LY fun M3=>
   ∃MO:Array Value,(MO.size=1024∧∀i u,MO[i]? =some u→wv.drew.cell? (M3.add i)=some u)∧
   cz (pV [.int .u32] 1024) (KL:Array Value).toList=true∧
   cz (pV [.int .u32] 1024) (MO:Array Value).toList=true∧
   split (!(cf KL MO)) (
    R (.bool false) wv.drew) (
    ∃m1,m1<m∧I m1 (i64.wrap (KJ+1)) wv.drew)) (
   R (.bool true) wv))
def BP:Ann:=(.node none .leaf (.node none .leaf (.node none (.node none .leaf (.node none (.node (some ⟨[(13,.one (.int .i64))],[4,5,13,14,15,16,17,18,19,20,21,22,23,24,25,26,27,28,29]⟩) .leaf .leaf) .leaf)) .leaf)))
theorem MAlike_eq(aA:Option Addr)(aN:Nat)(aC:Nat)(bA:Option Addr)(bN:Nat)(bC:Nat)(R:aD)(w:World):sS aA aN aC bA bN bC R w=vcF prog aP [] Tryz.f124 BP [(.slice aA aN aC),(.slice bA bN bC)] R none w:=by kernel_rfl
theorem ux(aA:Option Addr)(aN:Nat)(aC:Nat)(bA:Option Addr)(bN:Nat)(bC:Nat) {R:aD} {w:World}(h:sS aA aN aC bA bN bC R w):Calls prog 124 #[(.slice aA aN aC),(.slice bA bN bC)] w fun e w'=>∃v,e= .returned v∧R v w':=
 aj Tryz.func124 aw aa ((MAlike_eq aA aN aC bA bN bC R w).mp h)
def Ez(m:Option Addr)(fa:Bool)(fb:Int)(R:aD)(w:World):Prop:=
 ∀(gv:Nat)(wv:World),gv=w.heap.size→wv=w.alloc (.cells #[(.bool fa),(.int .i64 fb)] 86)→
 ar m fun p7=>
 ∃Rm:Option Addr,∃Qo:Nat,∃Vn:Nat,wv.cell? (p7.add 1)=some (.slice Rm Qo Vn)∧
 ∃Lj:Bool,wv.cell? ((Addr.mk gv 0 none).add 0)=some (.bool Lj)∧
 split Lj (
  ar m fun Ug=>
  ∃TJ:Option Addr,∃QA:Nat,∃V2:Nat,wv.cell? (Ug.add 0)=some (.slice TJ QA V2)∧
  ∃J:Bool→World→Prop,(
   ∃Ld:Int,wv.cell? ((Addr.mk gv 0 none).add 1)=some (.int .i64 Ld)∧
   split (decide ((Ld:Int)<0)) (
    J true wv) (
    ∃KL:Int,wv.cell? ((Addr.mk gv 0 none).add 1)=some (.int .i64 KL)∧
    J (decide ((KL:Int)≥((QA:Nat):Int))) wv))∧∀(Ka:Nat→Value)(LY:Bool),∀Jb,J LY Jb→
  split LY (
   R (.pointer none) Jb) (
   ∃Mr:Int,Jb.cell? ((Addr.mk gv 0 none).add 1)=some (.int .i64 Mr)∧
   (0≤(Mr:Int)∧(Mr:Int)<((QA:Nat):Int))∧
   ar TJ fun OU=>
   ∃KN:Option Addr,Jb.cell? (OU.add (Int.toNat Mr*1))=some (.pointer KN)∧
   R (.pointer KN) Jb)) (
  ∃J:Bool→World→Prop,(
   ∃Ld:Int,wv.cell? ((Addr.mk gv 0 none).add 1)=some (.int .i64 Ld)∧
   split (decide ((Ld:Int)<0)) (
    J true wv) (
    ∃KL:Int,wv.cell? ((Addr.mk gv 0 none).add 1)=some (.int .i64 KL)∧
    J (decide ((KL:Int)≥((Qo:Nat):Int))) wv))∧∀(Ka:Nat→Value)(LY:Bool),∀Jb,J LY Jb→
  split LY (
   R (.pointer none) Jb) (
   ∃Mr:Int,Jb.cell? ((Addr.mk gv 0 none).add 1)=some (.int .i64 Mr)∧
   (0≤(Mr:Int)∧(Mr:Int)<((Qo:Nat):Int))∧
   ar Rm fun OU=>
   ∃KN:Option Addr,Jb.cell? (OU.add (Int.toNat Mr*1))=some (.pointer KN)∧
   R (.pointer KN) Jb))
def HE:Ann:=(.node none .leaf (.node none .leaf (.node none .leaf (.node none (.node none (.node (some ⟨[(25,.one (.bool))],[16,17,18,19,20,21,22,23,24,25]⟩) .leaf .leaf) .leaf) .leaf))))
theorem MAt_eq(m:Option Addr)(fa:Bool)(fb:Int)(R:aD)(w:World):Ez m fa fb R w=vcF prog aP [] Tryz.f90 HE [(.pointer m),(.agg #[(.bool fa),(.int .i64 fb)])] R none w:=by kernel_rfl
theorem BO(m:Option Addr)(fa:Bool)(fb:Int) {R:aD} {w:World}(h:Ez m fa fb R w):Calls prog 90 #[(.pointer m),(.agg #[(.bool fa),(.int .i64 fb)])] w fun e w'=>∃v,e= .returned v∧R v w':=
 aj Tryz.func90 aw aa ((MAt_eq m fa fb R w).mp h)
def sQ(m:Option Addr)(R:aD)(w:World):Prop:=
 ∃b:Nat→Nat→Prop,
 ar m fun p4=>
 b 3 ((p4.add 0).block)∧
 ∃NN:Option Addr,∃MN:Nat,∃N0:Nat,w.drew.cell? (p4.add 0)=some (.slice NN MN N0)∧
 ar m fun p9=>
 b 8 ((p9.add 1).block)∧
 ∃NC:Option Addr,∃NA:Nat,∃NB:Nat,w.drew.cell? (p9.add 1)=some (.slice NC NA NB)∧
 ar m fun OX=>
 b 13 ((OX.add 2).block)∧
 ∃J6:Int,w.drew.cell? (OX.add 2)=some (.int .i64 J6)∧
 Calls prog 122 #[(.slice NN MN N0)] w.drew fun e wv=>
 ∃Qr:Option Addr,∃O4:Nat,∃Qq:Nat,e= .returned (.slice Qr O4 Qq)∧
 Kept (bM b [0,5,6,7,8,10,11,12,13]) w.drew wv∧∃b1:Nat→Nat→Prop,(∀i k,b i k→b1 i k)∧
 Calls prog 122 #[(.slice NC NA NB)] wv fun e Jb=>
 ∃Oq:Option Addr,∃On:Nat,∃Oo:Nat,e= .returned (.slice Oq On Oo)∧
 Kept (bM b1 [0,1,5,10,11,12,13]) wv Jb∧∃b2:Nat→Nat→Prop,(∀i k,b1 i k→b2 i k)∧
 ∀(gv:Nat)(Jc:World),gv=Jb.heap.size→Jc=Jb.alloc (.cells #[(.slice Qr O4 Qq),(.slice Oq On Oo),(.int .i64 J6)] 148)→
 Kept (bM b2 [0,1,2,5,6,7,10,11]) Jb Jc∧∃b3:Nat→Nat→Prop,(∀i k,b2 i k→b3 i k)∧
 R (.pointer (some (Addr.mk gv 0 none))) Jc
def BN:Ann:= .leaf
theorem MClone_eq(m:Option Addr)(R:aD)(w:World):sQ m R w=vcF prog aP [] Tryz.f51 BN [(.pointer m)] R none w:=by kernel_rfl
theorem uw(m:Option Addr) {R:aD} {w:World}(h:sQ m R w):Calls prog 51 #[(.pointer m)] w fun e w'=>∃v,e= .returned v∧R v w':=
 aj Tryz.func51 aw aa ((MClone_eq m R w).mp h)
def xb(m:Option Addr)(toa:Bool)(tob:Int)(froma:Bool)(fromb:Int)(R:aD)(w:World):Prop:=
 ∀(gv:Nat)(wv:World),gv=w.heap.size→wv=w.alloc (.cells #[(.bool toa),(.int .i64 tob)] 86)→
 ∀(Jj:Nat)(Jb:World),Jj=wv.heap.size→Jb=wv.alloc (.cells #[(.bool froma),(.int .i64 fromb)] 86)→
 ∃b:Nat→Nat→Prop,
 b 1 ((Addr.mk gv 0 none).block)∧
 ∃LI:Bool,∃KX:Int,(Jb.drew.cell? ((Addr.mk gv 0 none).add 0)=some (.bool LI)∧Jb.drew.cell? ((Addr.mk gv 0 none).add 1)=some (.int .i64 KX))∧
 b 4 ((Addr.mk Jj 0 none).block)∧
 ∃KO:Bool,∃KU:Int,(Jb.drew.cell? ((Addr.mk Jj 0 none).add 0)=some (.bool KO)∧Jb.drew.cell? ((Addr.mk Jj 0 none).add 1)=some (.int .i64 KU))∧
 Calls prog 90 #[(.pointer m),(.agg #[(.bool LI),(.int .i64 KX)])] Jb.drew fun e Jc=>
 ∃Lj:Option Addr,e= .returned (.pointer Lj)∧
 Kept (bM b [3,4]) Jb.drew Jc∧∃b1:Nat→Nat→Prop,(∀i k,b i k→b1 i k)∧
 Calls prog 90 #[(.pointer m),(.agg #[(.bool KO),(.int .i64 KU)])] Jc fun e Ji=>
 ∃Li:Option Addr,e= .returned (.pointer Li)∧
 ∃b2:Nat→Nat→Prop,(∀i k,b1 i k→b2 i k)∧
 ∃J:Bool→World→Prop,(
  split Lj.isNone (
   J true Ji) (
   J Li.isNone Ji))∧∀(J8:Nat→Value)(KE:Bool),∀Jq,J KE Jq→
 split KE (
  R (.int .i64 5) Jq) (
  ar m fun Uf=>
  ∃MP:Int,Jq.cell? (Uf.add 2)=some (.int .i64 MP)∧
  ar m fun M3=>
  aG Jq (M3.add 2) [(.int .i64 (i64.wrap (MP+2048)))] fun JP=>
  ar Li fun p30=>
  ∃PI:Array Value,(PI.size=1024∧∀i u,PI[i]? =some u→JP.cell? (p30.add i)=some u)∧
  ar Lj fun Vq=>
  PI.size=1024∧(∀v∈PI.toList,one? v True)∧
  aG JP Vq PI.toList fun J0=>
  R (.int .i64 0) J0)
def Ey:Ann:=(.node none .leaf (.node none .leaf (.node none (.node none (.node (some ⟨[(20,.one (.bool))],[15,16,17,18,19,20]⟩) .leaf .leaf) .leaf) .leaf)))
theorem MCopy_eq(m:Option Addr)(toa:Bool)(tob:Int)(froma:Bool)(fromb:Int)(R:aD)(w:World):xb m toa tob froma fromb R w=vcF prog aP [] Tryz.f66 Ey [(.pointer m),(.agg #[(.bool toa),(.int .i64 tob)]),(.agg #[(.bool froma),(.int .i64 fromb)])] R none w:=by kernel_rfl
theorem xc(m:Option Addr)(toa:Bool)(tob:Int)(froma:Bool)(fromb:Int) {R:aD} {w:World}(h:xb m toa tob froma fromb R w):Calls prog 66 #[(.pointer m),(.agg #[(.bool toa),(.int .i64 tob)]),(.agg #[(.bool froma),(.int .i64 fromb)])] w fun e w'=>∃v,e= .returned v∧R v w':=
 aj Tryz.func66 aw aa ((MCopy_eq m toa tob froma fromb R w).mp h)
def wZ(lA:Option Addr)(lN:Nat)(lC:Nat)(R:aD)(w:World):Prop:=
 ∃Rm:Option Addr,∃Qo:Nat,∃Vn:Nat,∃wv,(Instr.makeSlice 145 (.int .i64 ((lN:Nat):Int)) (.int .i64 ((lN:Nat):Int)):Sem Value).run prog w= .ok (.slice Rm Qo Vn) wv∧
 ∃I:Nat→Int→World→Prop,(∃m,I m 0 wv)∧∀(m:Nat)(L5:Nat→Value)(K6:Int),∀Jb,I m K6 Jb→
 split (decide ((K6:Int)<((lN:Nat):Int))) (
  (0≤(K6:Int)∧(K6:Int)<((lN:Nat):Int))∧
  ar lA fun Wa=>
  ∃J6:Option Addr,Jb.cell? (Wa.add (Int.toNat K6*1))=some (.pointer J6)∧
  ar J6 fun PW=>
  ∃Kl:Array Value,(Kl.size=1024∧∀i u,Kl[i]? =some u→Jb.cell? (PW.add i)=some u)∧
  ∀(Jj:Nat)(Jc:World),Jj=Jb.heap.size→Jc=Jb.alloc (.cells (Array.replicate 1024 (.int .u32 0)) 213)→
  Kl.size=1024∧(∀v∈Kl.toList,one? v True)∧
  aG Jc (Addr.mk Jj 0 none) Kl.toList fun Ji=>
  (0≤(K6:Int)∧(K6:Int)<((Qo:Nat):Int))∧
  ar Rm fun Uf=>
  aG Ji (Uf.add (Int.toNat K6*1)) [(.pointer (some (Addr.mk Jj 0 none)))] fun Jq=>
  ∃m1,m1<m∧I m1 (i64.wrap (K6+1)) Jq) (
  R (.slice Rm Qo Vn) Jb)
def Ex:Ann:=(.node none .leaf (.node none .leaf (.node none (.node none .leaf (.node none (.node (some ⟨[(12,.one (.int .i64))],[4,5,6,12,13,14,15,16,17,18,19,20,21,22,23]⟩) .leaf .leaf) .leaf)) .leaf)))
theorem MEach_eq(lA:Option Addr)(lN:Nat)(lC:Nat)(R:aD)(w:World):wZ lA lN lC R w=vcF prog aP [] Tryz.f122 Ex [(.slice lA lN lC)] R none w:=by kernel_rfl
theorem xa(lA:Option Addr)(lN:Nat)(lC:Nat) {R:aD} {w:World}(h:wZ lA lN lC R w):Calls prog 122 #[(.slice lA lN lC)] w fun e w'=>∃v,e= .returned v∧R v w':=
 aj Tryz.func122 aw aa ((MEach_eq lA lN lC R w).mp h)
def nd(m:Option Addr)(R:aD)(w:World):Prop:=
 ar m fun p4=>
 ∃NN:Option Addr,∃MN:Nat,∃N0:Nat,w.cell? (p4.add 1)=some (.slice NN MN N0)∧
 R (.int .i64 ((MN:Nat):Int)) w
def uu:Ann:= .leaf
theorem MInsecure_eq(m:Option Addr)(R:aD)(w:World):nd m R w=vcF prog aP [] Tryz.f55 uu [(.pointer m)] R none w:=by kernel_rfl
theorem oK(m:Option Addr) {R:aD} {w:World}(h:nd m R w):Calls prog 55 #[(.pointer m)] w fun e w'=>∃v,e= .returned v∧R v w':=
 aj Tryz.func55 aw aa ((MInsecure_eq m R w).mp h)
def wX(n:Int)(R:aD)(w:World):Prop:=
 ∃NN:Option Addr,∃MN:Nat,∃N0:Nat,∃wv,(Instr.makeSlice 145 (.int .i64 n) (.int .i64 n):Sem Value).run prog w= .ok (.slice NN MN N0) wv∧
 ∃I:Nat→Int→World→Prop,(∃m,I m 0 wv)∧∀(m:Nat)(L5:Nat→Value)(x9:Int),∀Jb,I m x9 Jb→
 split (decide ((x9:Int)<((MN:Nat):Int))) (
  ∀(Jj:Nat)(Jc:World),Jj=Jb.heap.size→Jc=Jb.alloc (.cells (Array.replicate 1024 (.int .u32 0)) 213)→
  (0≤(x9:Int)∧(x9:Int)<((MN:Nat):Int))∧
  ar NN fun OW=>
  aG Jc (OW.add (Int.toNat x9*1)) [(.pointer (some (Addr.mk Jj 0 none)))] fun Ji=>
  ∃m1,m1<m∧I m1 (i64.wrap (x9+1)) Ji) (
  R (.slice NN MN N0) Jb)
def Ew:Ann:=(.node none .leaf (.node none .leaf (.node none (.node none .leaf (.node none (.node (some ⟨[(9,.one (.int .i64))],[4,9,10,11,12,13,14,15,16,17]⟩) .leaf .leaf) .leaf)) .leaf)))
theorem MMade_eq(n:Int)(R:aD)(w:World):wX n R w=vcF prog aP [] Tryz.f76 Ew [(.int .i64 n)] R none w:=by kernel_rfl
theorem wY(n:Int) {R:aD} {w:World}(h:wX n R w):Calls prog 76 #[(.int .i64 n)] w fun e w'=>∃v,e= .returned v∧R v w':=
 aj Tryz.func76 aw aa ((MMade_eq n R w).mp h)
def Ap(fG:Int)(insecure:Int)(R:aD)(w:World):Prop:=
 ∃J:Bool→World→Prop,(
  split (decide ((fG:Int)<1)) (
   J true w) (
   split (decide ((fG:Int)>64)) (
    J true w) (
    split (decide ((insecure:Int)<1)) (
     J true w) (
     J (decide ((insecure:Int)>64)) w))))∧∀(L5:Nat→Value)(Kl:Bool),∀wv,J Kl wv→
 split Kl (
  R (.tuple #[(.pointer none),(.int .i64 1)]) wv) (
  Calls prog 76 #[(.int .i64 fG)] wv fun e Jb=>
  ∃Tt:Option Addr,∃Tr:Nat,∃Ts:Nat,e= .returned (.slice Tt Tr Ts)∧
  Calls prog 76 #[(.int .i64 insecure)] Jb fun e Jc=>
  ∃L8:Option Addr,∃L7:Nat,∃Mt:Nat,e= .returned (.slice L8 L7 Mt)∧
  ∀(Jj:Nat)(Ji:World),Jj=Jc.heap.size→Ji=Jc.alloc (.cells #[(.slice Tt Tr Ts),(.slice L8 L7 Mt),(.int .i64 0)] 148)→
  R (.tuple #[(.pointer (some (Addr.mk Jj 0 none))),(.int .i64 0)]) Ji)
def Gb:Ann:=(.node none .leaf (.node none (.node none (.node (some ⟨[(19,.one (.bool))],[6,7,8,9,10,11,12,13,14,15,16,17,18,19]⟩) .leaf .leaf) .leaf) .leaf))
theorem MNew_eq(fG:Int)(insecure:Int)(R:aD)(w:World):Ap fG insecure R w=vcF prog aP [] Tryz.f27 Gb [(.int .i64 fG),(.int .i64 insecure)] R none w:=by kernel_rfl
theorem qU(fG:Int)(insecure:Int) {R:aD} {w:World}(h:Ap fG insecure R w):Calls prog 27 #[(.int .i64 fG),(.int .i64 insecure)] w fun e w'=>∃v,e= .returned v∧R v w':=
 aj Tryz.func27 aw aa ((MNew_eq fG insecure R w).mp h)
def wV(m:Option Addr)(fa:Bool)(fb:Int)(R:aD)(w:World):Prop:=
 ∀(gv:Nat)(wv:World),gv=w.heap.size→wv=w.alloc (.cells #[(.bool fa),(.int .i64 fb)] 86)→
 ∃Ot:Bool,∃Pg:Int,(wv.cell? ((Addr.mk gv 0 none).add 0)=some (.bool Ot)∧wv.cell? ((Addr.mk gv 0 none).add 1)=some (.int .i64 Pg))∧
 Calls prog 136 #[(.pointer m),(.agg #[(.bool Ot),(.int .i64 Pg)]),(.int .i64 1)] wv fun e Jb=>
 ∃Mx:Option Addr,∃Mb:Int,e= .returned (.tuple #[(.pointer Mx),(.int .i64 Mb)])∧
 split ((Mb:Int) !=0) (
  R (.tuple #[(.slice none 0 0),(.int .i64 Mb)]) Jb) (
  ∃Lp:Option Addr,∃Ln:Nat,∃Lo:Nat,∃Jc,(Instr.makeSlice 62 (.int .i64 1024) (.int .i64 1024):Sem Value).run prog Jb= .ok (.slice Lp Ln Lo) Jc∧
  ar Mx fun OA=>
  ∀N7:Option Addr,N7=(some (if 1024=0 then OA else OA.add (0*1)))→∀N5:Nat,N5=1024 - 0→∀N6:Nat,N6=1024 - 0→
  ∃Mu:Int,∃Ji,(Builtin.copy_ #[62,62] 3 #[(.slice Lp Ln Lo),(.slice N7 N5 N6)]:Sem Value).run prog Jc= .ok (.int .i64 Mu) Ji∧
  R (.tuple #[(.slice Lp Ln Lo),(.int .i64 0)]) Ji)
def Eu:Ann:= .leaf
theorem MPage_eq(m:Option Addr)(fa:Bool)(fb:Int)(R:aD)(w:World):wV m fa fb R w=vcF prog aP [] Tryz.f69 Eu [(.pointer m),(.agg #[(.bool fa),(.int .i64 fb)])] R none w:=by kernel_rfl
theorem wW(m:Option Addr)(fa:Bool)(fb:Int) {R:aD} {w:World}(h:wV m fa fb R w):Calls prog 69 #[(.pointer m),(.agg #[(.bool fa),(.int .i64 fb)])] w fun e w'=>∃v,e= .returned v∧R v w':=
 aj Tryz.func69 aw aa ((MPage_eq m fa fb R w).mp h)
def wT(m:Option Addr)(fa:Bool)(fb:Int)(off:Int)(R:aD)(w:World):Prop:=
 ∀(gv:Nat)(wv:World),gv=w.heap.size→wv=w.alloc (.cells #[(.bool fa),(.int .i64 fb)] 86)→
 ∃NZ:Bool,∃NY:Int,(wv.cell? ((Addr.mk gv 0 none).add 0)=some (.bool NZ)∧wv.cell? ((Addr.mk gv 0 none).add 1)=some (.int .i64 NY))∧
 Calls prog 90 #[(.pointer m),(.agg #[(.bool NZ),(.int .i64 NY)])] wv fun e Jb=>
 ∃Kb:Option Addr,e= .returned (.pointer Kb)∧
 ∃J:Bool→World→Prop,(
  split Kb.isNone (
   J true Jb) (
   split (decide ((off:Int)<0)) (
    J true Jb) (
    J (decide ((off:Int)≥1024)) Jb)))∧∀(Ka:Nat→Value)(KE:Bool),∀Jc,J KE Jc→
 split KE (
  R (.int .u32 0) Jc) (
  ar Kb fun Ro=>
  (0≤(off:Int)∧(off:Int)<((1024:Nat):Int))∧
  ∃LY:Int,Jc.cell? (Ro.add (Int.toNat off*1))=some (.int .u32 LY)∧
  R (.int .u32 LY) Jc)
def Et:Ann:=(.node none .leaf (.node none .leaf (.node none (.node none (.node (some ⟨[(20,.one (.bool))],[11,12,13,14,15,16,17,18,19,20]⟩) .leaf .leaf) .leaf) .leaf)))
theorem MPeek_eq(m:Option Addr)(fa:Bool)(fb:Int)(off:Int)(R:aD)(w:World):wT m fa fb off R w=vcF prog aP [] Tryz.f33 Et [(.pointer m),(.agg #[(.bool fa),(.int .i64 fb)]),(.int .i64 off)] R none w:=by kernel_rfl
theorem wU(m:Option Addr)(fa:Bool)(fb:Int)(off:Int) {R:aD} {w:World}(h:wT m fa fb off R w):Calls prog 33 #[(.pointer m),(.agg #[(.bool fa),(.int .i64 fb)]),(.int .i64 off)] w fun e w'=>∃v,e= .returned v∧R v w':=
 aj Tryz.func33 aw aa ((MPeek_eq m fa fb off R w).mp h)
def wR(m:Option Addr)(fa:Bool)(fb:Int)(off:Int)(R:aD)(w:World):Prop:=
 ∀(gv:Nat)(wv:World),gv=w.heap.size→wv=w.alloc (.cells #[(.bool fa),(.int .i64 fb)] 86)→
 ∃Mx:Bool,∃Mb:Int,(wv.cell? ((Addr.mk gv 0 none).add 0)=some (.bool Mx)∧wv.cell? ((Addr.mk gv 0 none).add 1)=some (.int .i64 Mb))∧
 Calls prog 114 #[(.pointer m),(.agg #[(.bool Mx),(.int .i64 Mb)]),(.int .i64 off)] wv fun e Jb=>
 ∃Mw:Option Addr,∃Ma:Int,e= .returned (.tuple #[(.pointer Mw),(.int .i64 Ma)])∧
 split ((Ma:Int) !=0) (
  R (.tuple #[(.int .u32 0),(.int .i64 Ma)]) Jb) (
  ar Mw fun OA=>
  ∃Kw:Int,Jb.cell? OA=some (.int .u32 Kw)∧
  R (.tuple #[(.int .u32 Kw),(.int .i64 0)]) Jb)
def Es:Ann:= .leaf
theorem MRead_eq(m:Option Addr)(fa:Bool)(fb:Int)(off:Int)(R:aD)(w:World):wR m fa fb off R w=vcF prog aP [] Tryz.f92 Es [(.pointer m),(.agg #[(.bool fa),(.int .i64 fb)]),(.int .i64 off)] R none w:=by kernel_rfl
theorem wS(m:Option Addr)(fa:Bool)(fb:Int)(off:Int) {R:aD} {w:World}(h:wR m fa fb off R w):Calls prog 92 #[(.pointer m),(.agg #[(.bool fa),(.int .i64 fb)]),(.int .i64 off)] w fun e w'=>∃v,e= .returned v∧R v w':=
 aj Tryz.func92 aw aa ((MRead_eq m fa fb off R w).mp h)
def wP(m:Option Addr)(o:Option Addr)(R:aD)(w:World):Prop:=
 ∃J:Bool→World→Prop,(
  ∃b:Nat→Nat→Prop,
  ar m fun p6=>
  b 3 ((p6.add 0).block)∧
  ∃PE:Option Addr,∃PC:Nat,∃PD:Nat,w.drew.cell? (p6.add 0)=some (.slice PE PC PD)∧
  ar o fun Uh=>
  b 7 ((Uh.add 0).block)∧
  ∃Oq:Option Addr,∃On:Nat,∃Oo:Nat,w.drew.cell? (Uh.add 0)=some (.slice Oq On Oo)∧
  Calls prog 124 #[(.slice PE PC PD),(.slice Oq On Oo)] w.drew fun e wv=>
  ∃KJ:Bool,e= .returned (.bool KJ)∧
  Kept (bM b [0,4]) w.drew wv∧∃b1:Nat→Nat→Prop,(∀i k,b i k→b1 i k)∧
  split KJ (
   ar m fun OW=>
   b1 13 ((OW.add 1).block)∧
   ∃Lp:Option Addr,∃Ln:Nat,∃Lo:Nat,wv.cell? (OW.add 1)=some (.slice Lp Ln Lo)∧
   ar o fun Rp=>
   b1 17 ((Rp.add 1).block)∧
   ∃N7:Option Addr,∃N5:Nat,∃N6:Nat,wv.cell? (Rp.add 1)=some (.slice N7 N5 N6)∧
   Calls prog 124 #[(.slice Lp Ln Lo),(.slice N7 N5 N6)] wv fun e Jb=>
   ∃Mu:Bool,e= .returned (.bool Mu)∧
   Kept (bM b1 [0,1,2,4,5,6,10,14]) wv Jb∧∃b2:Nat→Nat→Prop,(∀i k,b1 i k→b2 i k)∧
   J Mu Jb) (
   J false wv))∧∀(L5:Nat→Value)(x4:Bool),∀wv,J x4 wv→
 R (.bool x4) wv
def Er:Ann:=(.node none .leaf (.node none (.node (some ⟨[(4,.one (.bool))],[4,5,6,7,8,9,10,11,12,13,14,15,16,17,18,19,20,21,22,23,24]⟩) .leaf .leaf) .leaf))
theorem MSame_eq(m:Option Addr)(o:Option Addr)(R:aD)(w:World):wP m o R w=vcF prog aP [] Tryz.f59 Er [(.pointer m),(.pointer o)] R none w:=by kernel_rfl
theorem wQ(m:Option Addr)(o:Option Addr) {R:aD} {w:World}(h:wP m o R w):Calls prog 59 #[(.pointer m),(.pointer o)] w fun e w'=>∃v,e= .returned v∧R v w':=
 aj Tryz.func59 aw aa ((MSame_eq m o R w).mp h)
def qT(m:Option Addr)(R:aD)(w:World):Prop:=
 ar m fun p4=>
 ∃NN:Option Addr,∃MN:Nat,∃N0:Nat,w.cell? (p4.add 0)=some (.slice NN MN N0)∧
 R (.int .i64 ((MN:Nat):Int)) w
def zb:Ann:= .leaf
theorem MSecure_eq(m:Option Addr)(R:aD)(w:World):qT m R w=vcF prog aP [] Tryz.f54 zb [(.pointer m)] R none w:=by kernel_rfl
theorem rH(m:Option Addr) {R:aD} {w:World}(h:qT m R w):Calls prog 54 #[(.pointer m)] w fun e w'=>∃v,e= .returned v∧R v w':=
 aj Tryz.func54 aw aa ((MSecure_eq m R w).mp h)
def sP(m:Option Addr)(fa:Bool)(fb:Int)(times:Int)(R:aD)(w:World):Prop:=
 ∀(gv:Nat)(wv:World),gv=w.heap.size→wv=w.alloc (.cells #[(.bool fa),(.int .i64 fb)] 86)→
 ∃LI:Bool,∃KX:Int,(wv.cell? ((Addr.mk gv 0 none).add 0)=some (.bool LI)∧wv.cell? ((Addr.mk gv 0 none).add 1)=some (.int .i64 KX))∧
 Calls prog 90 #[(.pointer m),(.agg #[(.bool LI),(.int .i64 KX)])] wv fun e Jb=>
 ∃Lj:Option Addr,e= .returned (.pointer Lj)∧
 split Lj.isNone (
  R (.tuple #[(.pointer none),(.int .i64 5)]) Jb) (
  ar m fun Wa=>
  ∃Ld:Int,Jb.cell? (Wa.add 2)=some (.int .i64 Ld)∧
  ar m fun OA=>
  aG Jb (OA.add 2) [(.int .i64 (i64.wrap (Ld+(i64.wrap (times*1024)))))] fun Jc=>
  R (.tuple #[(.pointer Lj),(.int .i64 0)]) Jc)
def BM:Ann:= .leaf
theorem MWhole_eq(m:Option Addr)(fa:Bool)(fb:Int)(times:Int)(R:aD)(w:World):sP m fa fb times R w=vcF prog aP [] Tryz.f136 BM [(.pointer m),(.agg #[(.bool fa),(.int .i64 fb)]),(.int .i64 times)] R none w:=by kernel_rfl
theorem uj(m:Option Addr)(fa:Bool)(fb:Int)(times:Int) {R:aD} {w:World}(h:sP m fa fb times R w):Calls prog 136 #[(.pointer m),(.agg #[(.bool fa),(.int .i64 fb)]),(.int .i64 times)] w fun e w'=>∃v,e= .returned v∧R v w':=
 aj Tryz.func136 aw aa ((MWhole_eq m fa fb times R w).mp h)
def wN(m:Option Addr)(fa:Bool)(fb:Int)(off:Int)(R:aD)(w:World):Prop:=
 ∀(gv:Nat)(wv:World),gv=w.heap.size→wv=w.alloc (.cells #[(.bool fa),(.int .i64 fb)] 86)→
 ∃LI:Bool,∃KX:Int,(wv.cell? ((Addr.mk gv 0 none).add 0)=some (.bool LI)∧wv.cell? ((Addr.mk gv 0 none).add 1)=some (.int .i64 KX))∧
 Calls prog 90 #[(.pointer m),(.agg #[(.bool LI),(.int .i64 KX)])] wv fun e Jb=>
 ∃Lj:Option Addr,e= .returned (.pointer Lj)∧
 split Lj.isNone (
  R (.tuple #[(.pointer none),(.int .i64 5)]) Jb) (
  ∃J:Bool→World→Prop,(
   split (decide ((off:Int)<0)) (
    J true Jb) (
    J (decide ((off:Int)≥1024)) Jb))∧∀(Ka:Nat→Value)(Kl:Bool),∀Jc,J Kl Jc→
  split Kl (
   R (.tuple #[(.pointer none),(.int .i64 70)]) Jc) (
   ar m fun OA=>
   ∃Mu:Int,Jc.cell? (OA.add 2)=some (.int .i64 Mu)∧
   ar m fun OV=>
   aG Jc (OV.add 2) [(.int .i64 (i64.wrap (Mu+1)))] fun Ji=>
   ar Lj fun OU=>
   (0≤(off:Int)∧(off:Int)<((1024:Nat):Int))∧
   R (.tuple #[(.pointer (some (OU.add (Int.toNat off*1)))),(.int .i64 0)]) Ji))
def Ep:Ann:=(.node none .leaf (.node none .leaf (.node none .leaf (.node none (.node none (.node (some ⟨[(19,.one (.bool))],[14,15,16,17,18,19]⟩) .leaf .leaf) .leaf) .leaf))))
theorem MWord_eq(m:Option Addr)(fa:Bool)(fb:Int)(off:Int)(R:aD)(w:World):wN m fa fb off R w=vcF prog aP [] Tryz.f114 Ep [(.pointer m),(.agg #[(.bool fa),(.int .i64 fb)]),(.int .i64 off)] R none w:=by kernel_rfl
theorem wO(m:Option Addr)(fa:Bool)(fb:Int)(off:Int) {R:aD} {w:World}(h:wN m fa fb off R w):Calls prog 114 #[(.pointer m),(.agg #[(.bool fa),(.int .i64 fb)]),(.int .i64 off)] w fun e w'=>∃v,e= .returned v∧R v w':=
 aj Tryz.func114 aw aa ((MWord_eq m fa fb off R w).mp h)
def sO(m:Option Addr)(fa:Bool)(fb:Int)(off:Int)(v:Int)(R:aD)(w:World):Prop:=
 ∀(gv:Nat)(wv:World),gv=w.heap.size→wv=w.alloc (.cells #[(.bool fa),(.int .i64 fb)] 86)→
 ∃KO:Bool,∃KU:Int,(wv.cell? ((Addr.mk gv 0 none).add 0)=some (.bool KO)∧wv.cell? ((Addr.mk gv 0 none).add 1)=some (.int .i64 KU))∧
 Calls prog 114 #[(.pointer m),(.agg #[(.bool KO),(.int .i64 KU)]),(.int .i64 off)] wv fun e Jb=>
 ∃TI:Option Addr,∃Pf:Int,e= .returned (.tuple #[(.pointer TI),(.int .i64 Pf)])∧
 split ((Pf:Int)==0) (
  ar TI fun Uf=>
  aG Jb Uf [(.int .u32 v)] fun Jc=>
  R (.int .i64 Pf) Jc) (
  R (.int .i64 Pf) Jb)
def BL:Ann:= .leaf
theorem MWrite_eq(m:Option Addr)(fa:Bool)(fb:Int)(off:Int)(v:Int)(R:aD)(w:World):sO m fa fb off v R w=vcF prog aP [] Tryz.f42 BL [(.pointer m),(.agg #[(.bool fa),(.int .i64 fb)]),(.int .i64 off),(.int .u32 v)] R none w:=by kernel_rfl
theorem ui(m:Option Addr)(fa:Bool)(fb:Int)(off:Int)(v:Int) {R:aD} {w:World}(h:sO m fa fb off v R w):Calls prog 42 #[(.pointer m),(.agg #[(.bool fa),(.int .i64 fb)]),(.int .i64 off),(.int .u32 v)] w fun e w'=>∃v,e= .returned v∧R v w':=
 aj Tryz.func42 aw aa ((MWrite_eq m fa fb off v R w).mp h)
def wL(m:Option Addr)(fa:Bool)(fb:Int)(R:aD)(w:World):Prop:=
 ∀(gv:Nat)(wv:World),gv=w.heap.size→wv=w.alloc (.cells #[(.bool fa),(.int .i64 fb)] 86)→
 ∃NZ:Bool,∃NY:Int,(wv.cell? ((Addr.mk gv 0 none).add 0)=some (.bool NZ)∧wv.cell? ((Addr.mk gv 0 none).add 1)=some (.int .i64 NY))∧
 Calls prog 136 #[(.pointer m),(.agg #[(.bool NZ),(.int .i64 NY)]),(.int .i64 1)] wv fun e Jb=>
 ∃LI:Option Addr,∃KX:Int,e= .returned (.tuple #[(.pointer LI),(.int .i64 KX)])∧
 split ((KX:Int)==0) (
  ar LI fun OW=>
  ∀TF:Option Addr,TF=(some (if 1024=0 then OW else OW.add (0*1)))→∀TD:Nat,TD=1024 - 0→∀TE:Nat,TE=1024 - 0→
  ∃Jc,(Builtin.clear_ #[62] 0 #[(.slice TF TD TE)]:Sem Value).run prog Jb= .ok (.tuple #[]) Jc∧
  R (.int .i64 KX) Jc) (
  R (.int .i64 KX) Jb)
def Eo:Ann:= .leaf
theorem MZero_eq(m:Option Addr)(fa:Bool)(fb:Int)(R:aD)(w:World):wL m fa fb R w=vcF prog aP [] Tryz.f77 Eo [(.pointer m),(.agg #[(.bool fa),(.int .i64 fb)])] R none w:=by kernel_rfl
theorem wM(m:Option Addr)(fa:Bool)(fb:Int) {R:aD} {w:World}(h:wL m fa fb R w):Calls prog 77 #[(.pointer m),(.agg #[(.bool fa),(.int .i64 fb)])] w fun e w'=>∃v,e= .returned v∧R v w':=
 aj Tryz.func77 aw aa ((MZero_eq m fa fb R w).mp h)
end
end Go.Proofs.YtinhphjfnedhgaaGreatDoor
namespace Go.Proofs.YtinhphjfnedhgaaGreatDoor
open Go.Proofs.Tryz (prog)
open Go Go.RowKit V
open Go.IntKind (i64 u32 u64)
section
structure dR where
 g:Nat
 a:Nat
 b:Nat
 pg:Bool→Nat→Nat
 n:Bool→Nat
def dR.row(L:dR)(s:Bool):Nat:=match s with
 | true=>L.a
 | false=>L.b
def dR.X(L:dR):Nat→Prop:=fun k=>k=L.g∨k=L.a∨k=L.b∨∃s i,i<L.n s∧k=L.pg s i
abbrev ptr(g:Nat):Value:= .pointer (some (Addr.mk g 0 none))
abbrev fr(s:Bool)(p:Int):Value:= .agg #[.bool s,.int .i64 p]
structure bY(w:World)(L:dR)(m:Mem):Prop where
 cnt:∀s,L.n s=m.cnt s
 hd:∃T:TypeId×Int,Blk w L.g #[.slice (some (Addr.mk L.a 0 none)) m.S m.S,.slice (some (Addr.mk L.b 0 none)) m.I m.I,.int .i64 T.2] T.1
 rows:∀s,∃T cs,Blk w (L.row s) cs T∧∀i,i<m.cnt s→cs[i]? =some (ptr (L.pg s i))
 pgs:∀s i,i<m.cnt s→∃T cs,Blk w (L.pg s i) cs T∧cs.size=1024∧∀o,o<1024→cs[o]? =some (.int .u32 (m.pg s i o))
 inj:∀s i s' i',i<m.cnt s→i'<m.cnt s'→L.pg s i=L.pg s' i'→s=s'∧i=i'
 dis:L.a≠L.g∧L.b≠L.g∧∀s i,i<m.cnt s→L.pg s i≠L.g∧L.pg s i≠L.a∧L.pg s i≠L.b
 u32:∀s i o,0≤m.pg s i o∧m.pg s i o<4294967296
 dz:m.S≤64∧m.I≤64
theorem bY.inX {w:World} {L:dR} {m:Mem}(h:bY w L m) {s:Bool} {i:Nat}(hi:i<m.cnt s):L.X (L.pg s i):= .inr (.inr (.inr ⟨s,i,by rw [h.cnt];exact hi,rfl⟩))
theorem bY.kept {w w':World} {L:dR} {m:Mem} {B:Nat→Prop}(h:bY w L m)(hk:Kept B w w')(hb:∀k,L.X k→B k):bY w' L m:=by
 refine⟨h.cnt,?_,fun s=>?_,fun s i hi=>?_,h.inj,h.dis,h.u32,h.dz⟩
 ·obtain⟨T,hd⟩:=h.hd
  exact⟨T,hd.kept hk (hb _ (.inl rfl))⟩
 ·obtain⟨T,cs,hr,h2⟩:=h.rows s
  exact⟨T,cs,hr.kept hk (hb _ (by cases s<;>simp [dR.X,dR.row])),h2⟩
 ·obtain⟨T,cs,hr,h2⟩:=h.pgs s i hi
  exact⟨T,cs,hr.kept hk (hb _ (h.inX hi)),h2⟩
theorem bY.lt {w:World} {L:dR} {m:Mem}(h:bY w L m):∀k,L.X k→k<w.heap.size:=by
 rintro k (rfl | rfl | rfl | ⟨s,i,hi,rfl⟩)
 ·obtain⟨T,hd⟩:=h.hd;exact hd.lt
 ·obtain⟨T,cs,hr,h2⟩:=h.rows true;exact hr.lt
 ·obtain⟨T,cs,hr,h2⟩:=h.rows false;exact hr.lt
 ·obtain⟨T,cs,hr,h2⟩:=h.pgs s i (by rw [← h.cnt];exact hi);exact hr.lt
theorem bY.ch {w w':World} {L:dR} {m:Mem} {Y:Nat→Prop}(h:bY w L m)(hk:Ch Y w w')(hb:∀k,L.X k→¬Y k):bY w' L m:=
 h.kept hk.kept fun k hx=>⟨h.lt k hx,hb k hx⟩
theorem bY.pu {w w':World} {L:dR} {m:Mem}(h:bY w L m)(hk:Pu w w'):bY w' L m:=h.ch hk (by simp)
theorem bY.C9 {w w2:World} {L:dR} {m:Mem}(h:bY w L m) {T:TypeId} {x:Int}(hs:bz w L.g #[.slice (some (Addr.mk L.a 0 none)) m.S m.S,.slice (some (Addr.mk L.b 0 none)) m.I m.I,.int .i64 x] T w2):bY w2 L m:=by
 have hk:∀k,k≠L.g→(fun k=>k≠L.g) k:=fun _ h=>h
 refine⟨h.cnt,⟨(T,x),hs.blk⟩,fun s=>?_,fun s i hi=>?_,h.inj,h.dis,h.u32,h.dz⟩
 ·obtain⟨T,cs,hr,h2⟩:=h.rows s
  exact⟨T,cs,hs.old hr (by cases s<;>simp [dR.row,h.dis.1,h.dis.2.1]),h2⟩
 ·obtain⟨T,cs,hr,h2⟩:=h.pgs s i hi
  exact⟨T,cs,hs.old hr (h.dis.2.2 s i hi).1,h2⟩
theorem bY.ak {w w2:World} {L:dR} {m:Mem}(h:bY w L m) {s:Bool} {i:Nat}(hi:i<m.cnt s) {cs:Array Value} {T:TypeId} {f:Nat→Int}(hs:bz w (L.pg s i) cs T w2)(hc:cs.size=1024)(hf:∀o,o<1024→cs[o]? =some (.int .u32 (f o)))
 (hu:∀o,0≤f o∧f o<4294967296):bY w2 L (m.fill s i f):=by
 obtain⟨T0,hd⟩:=h.hd
 refine⟨fun s=>by rw [h.cnt];simp,⟨T0,hs.old hd (fun e=>(h.dis.2.2 s i hi).1 e.symm)⟩,fun s'=>?_,fun s' i' JY=>?_,fun s1 i1 s2 i2 h1 h2=>h.inj s1 i1 s2 i2 (by simpa using h1) (by simpa using h2),⟨h.dis.1,h.dis.2.1,fun s1 i1 h1=>h.dis.2.2 s1 i1 (by simpa using h1)⟩,fun s' i' o=>?_,h.dz⟩
 ·obtain⟨T,cs,hr,h2⟩:=h.rows s'
  refine⟨T,cs,hs.old hr ?_,by simpa using h2⟩
  have:=(h.dis.2.2 s i hi).2
  cases s'<;>simp only [dR.row]
  ·exact fun e=>this.2 e.symm
  ·exact fun e=>this.1 e.symm
 ·have Rz:i'<m.cnt s':=by simpa using JY
  by_cases hq:s'=s∧i'=i
  ·obtain⟨rfl,rfl⟩:=hq
   exact⟨T,cs,hs.blk,hc,fun o ho=>by rw [hf o ho];simp [Mem.fill]⟩
  ·obtain⟨T,cs,hr,h2,h3⟩:=h.pgs s' i' Rz
   refine⟨T,cs,hs.old hr (fun e=>hq (h.inj _ _ _ _ Rz hi e)),h2,fun o ho=>?_⟩
   rw [h3 o ho]
   simp only [Mem.fill]
   rw [if_neg hq]
 ·simp only [Mem.fill]
  split
  ·exact hu o
  ·exact h.u32 _ _ _
theorem Hb {w:World} {g i:Nat} {cs:Array Value} {T:TypeId} {k:IntKind} {x:Int} {K:Int→Prop}(hb:Blk w g cs T)(hi:cs[i]? =some (.int k x))(hK:K x):
 ar (some (Addr.mk g 0 none)) fun p=>∃x:Int,w.cell? (p.add i)=some (.int k x)∧K x:=ai _ rfl ⟨_,hb.at hi,hK⟩
theorem Fv {w:World} {g i:Nat} {cs:Array Value} {T:TypeId} {A:Option Addr} {n c:Nat} {K:Option Addr→Nat→Nat→Prop}(hb:Blk w g cs T)(hi:cs[i]? =some (.slice A n c))(hK:K A n c):
 ar (some (Addr.mk g 0 none)) fun p=>∃(A:Option Addr)(n c:Nat),w.cell? (p.add i)=some (.slice A n c)∧K A n c:=ai _ rfl ⟨_,_,_,hb.at hi,hK⟩
section
variable {w:World} {L:dR} {m:Mem}
theorem mAt(h:bY w L m)(s:Bool)(p:Int):
 Calls prog 90 #[ptr L.g,fr s p] w fun e w'=>∃v,e= .returned v∧v= .pointer (if m.has s p then some (Addr.mk (L.pg s p.toNat) 0 none)else none)∧Pu w w':=by
 refine BO _ s p ?_
 intro g1 w1 hg hw
 have hM:=made hg hw
 have h1:=h.pu hM.pu
 obtain⟨T,hd⟩:=h1.hd
 refine Fv hd rfl ⟨_,hM.blk.at rfl,?_⟩
 have fin:∀(a n:Nat),n=m.cnt s→a=L.row s→
  ∃J:Bool→World→Prop,(
  ∃Ld:Int,w1.cell? ((Addr.mk g1 0 none).add 1)=some (.int .i64 Ld)∧
  split (decide ((Ld:Int)<0)) (
   J true w1) (
   ∃KL:Int,w1.cell? ((Addr.mk g1 0 none).add 1)=some (.int .i64 KL)∧
   J (decide ((KL:Int)≥((n:Nat):Int))) w1))∧∀(Ka:Nat→Value)(LY:Bool),∀Jb,J LY Jb→
  split LY (
   (∃v,v=(Value.pointer none)∧v= .pointer (if m.has s p then some (Addr.mk (L.pg s p.toNat) 0 none)else none)∧Pu w Jb)) (
   ∃Mr:Int,Jb.cell? ((Addr.mk g1 0 none).add 1)=some (.int .i64 Mr)∧
   (0≤(Mr:Int)∧(Mr:Int)<((n:Nat):Int))∧
   ar (some (Addr.mk a 0 none)) fun OU=>
   ∃KN:Option Addr,Jb.cell? (OU.add (Int.toNat Mr*1))=some (.pointer KN)∧
   (∃v,v=(Value.pointer KN)∧v= .pointer (if m.has s p then some (Addr.mk (L.pg s p.toNat) 0 none)else none)∧Pu w Jb)):=by
  intro a n hn ha
  refine⟨fun b w'=>w1=w'∧b= !(m.has s p),⟨_,hM.blk.at rfl,ae (fun hb=>⟨rfl,?_⟩) (fun hb=>⟨_,hM.blk.at rfl,rfl,?_⟩)⟩,?_⟩
  ·simp at hb
   simp [Mem.has]
   omega
  ·simp at hb
   subst hn
   simp only [Mem.has,ge_iff_le]
   rw [Bool.eq_iff_iff]
   simp
   omega
  ·rintro _ x _ ⟨rfl,rfl⟩
   refine ae (fun hb=>⟨_,rfl,?_,hM.pu⟩) (fun hb=>?_)
   ·simp at hb;simp [hb]
   ·have LS:m.has s p=true:=by simpa using hb
    have hp:0≤p∧p<(n:Int):=by subst hn;simpa [Mem.has]using LS
    obtain⟨T2,cs,hr,hc⟩:=h1.rows s
    rw [← ha]at hr
    refine⟨_,hM.blk.at rfl,hp,ai _ rfl ⟨_,?_,_,rfl,by rw [if_pos LS],hM.pu⟩⟩
    rw [Nat.mul_one]
    exact hr.at (hc _ (by omega))
 refine ae (fun hb=>?_) (fun hb=>?_)
 ·subst hb
  exact Fv hd rfl (by
   obtain⟨J,hJ⟩:=fin L.a m.S rfl rfl
   refine⟨J,hJ.1,fun g x wv hj=>?_⟩
   have:=hJ.2 g x wv hj
   simpa using this)
 ·subst hb
  obtain⟨J,hJ⟩:=fin L.b m.I rfl rfl
  refine⟨J,hJ.1,fun g x wv hj=>?_⟩
  have:=hJ.2 g x wv hj
  simpa using this
theorem tC(h:bY w L m):Calls prog 54 #[ptr L.g] w fun e w'=>∃v,e= .returned v∧v= .int .i64 m.S∧w'=w:=by
 obtain⟨T,hd⟩:=h.hd
 exact rH _ (Fv hd rfl ⟨rfl,rfl⟩)
theorem Gu(h:bY w L m)(s:Bool)(p o:Int):
 Calls prog 114 #[ptr L.g,fr s p,.int .i64 o] w fun e w'=>∃v,e= .returned v∧
  ((m.has s p && Mem.dM o)=true∧v= .tuple #[.pointer (some (Addr.mk (L.pg s p.toNat) o.toNat none)),.int .i64 0]∧bY w' L (m.tick 1)∧Ch L.X w w'∨
   (m.has s p && Mem.dM o)=false∧v= .tuple #[.pointer none,.int .i64 (m.err s p o)]∧m.err s p o≠0∧Pu w w'):=by
 refine wO _ s p o ?_
 intro g1 w1 hg hw
 have hM:=made hg hw
 refine⟨_,_,⟨hM.blk.at rfl,hM.blk.at rfl⟩,(mAt (h.pu hM.pu) s p).mono ?_⟩
 rintro e w2 ⟨_,rfl,rfl,hp⟩
 have JD:=hM.pu.trans hp
 refine⟨_,rfl,?_⟩
 cases hh:m.has s p with
 | false=>
  refine ae (fun _=>.inr ⟨rfl,?_,?_,JD⟩) (fun hb=>by simp at hb)
  ·simp [Mem.err,hh]
  ·simp [Mem.err,hh]
 | true=>
  refine ae (fun hb=>by simp at hb) (fun _=>?_)
  refine⟨fun b w'=>w2=w'∧b= !(Mem.dM o),ae (fun hb=>⟨rfl,?_⟩) (fun hb=>⟨rfl,?_⟩),?_⟩
  ·simp at hb;simp [Mem.dM];omega
  ·simp at hb;simp only [Mem.dM,ge_iff_le];rw [Bool.eq_iff_iff];simp;omega
  ·rintro _ x _ ⟨rfl,rfl⟩
   refine ae (fun hb=>?_) (fun hb=>?_)
   ·have ho:Mem.dM o=false:=by simpa using hb
    exact .inr ⟨by simp [ho],by simp [Mem.err,hh,ho],by simp [Mem.err,hh,ho],JD⟩
   ·have ho:Mem.dM o=true:=by simpa using hb
    have h2:=h.pu JD
    obtain⟨T,hd⟩:=h2.hd
    refine Hb hd rfl (ai _ rfl (bI hd (by simp) fun w3 hs=>?_))
    have NJ:=Mem.gQ ho
    refine ai _ rfl ⟨NJ,.inl ⟨by simp [ho],?_,h2.C9 hs,?_⟩⟩
    ·rw [bG,Nat.zero_add,Nat.mul_one]
    ·exact(JD.mono (by simp)).stored hs (.inl (.inl rfl))
theorem yo(h:bY w L m)(s:Bool)(p o v:Int)(hv:0≤v∧v<4294967296):
 Calls prog 42 #[ptr L.g,fr s p,.int .i64 o,.int .u32 v] w fun e w'=>∃u,e= .returned u∧u= .int .i64 (m.err s p o)∧bY w' L (m.write s p o v)∧Ch L.X w w':=by
 refine ui _ s p o v ?_
 intro g1 w1 hg hw
 have hM:=made hg hw
 refine⟨_,_,⟨hM.blk.at rfl,hM.blk.at rfl⟩,(Gu (h.pu hM.pu) s p o).mono ?_⟩
 rintro e w2 ⟨_,rfl,⟨hh,rfl,h2,hc⟩ | ⟨hh,rfl,he,hp⟩⟩
 ·refine⟨_,_,rfl,ae (fun _=>?_) (fun hb=>by simp at hb)⟩
  have O1:Ch L.X w w2:=((Ch.refl _ w).made hM).trans hc
  simp only [Bool.and_eq_true]at hh
  have hi:=Mem.dA hh.1
  have ho:=Mem.gQ hh.2
  obtain⟨T,cs,hr,JR,Kq⟩:=h2.pgs s p.toNat (by simpa using hi)
  refine ai _ rfl (gW hr (by simp;omega) fun w3 hs=>⟨?_,?_,?_⟩)
  ·simp [Mem.err,hh.1,hh.2]
  ·have:=h2.ak (f:=fun o'=>if o'=o.toNat then v else m.pg s p.toNat o') (by simpa using hi) hs (by simp [setAt,JR]) (fun o' NJ=>?_) (fun o'=>?_)
   ·simp only [Mem.write,hh.1,hh.2,Bool.and_self,if_true]
    exact this
   ·simp only [rX,Array.getElem?_setIfInBounds]
    by_cases e:o.toNat=o'
    ·rw [if_pos e,if_pos (by omega),if_pos e.symm]
    ·rw [if_neg e,if_neg (fun h=>e h.symm)]
     exact Kq o' NJ
   ·split
    ·exact hv
    ·exact h.u32 _ _ _
  ·exact O1.stored hs (.inl (h.inX hi))
 ·refine⟨_,_,rfl,ae (fun hb=>absurd (by simpa using hb) he) (fun _=>⟨rfl,?_,?_⟩)⟩
  ·have:=(h.pu hM.pu).pu hp
   simpa [Mem.write,hh]using this
  ·exact(hM.pu.trans hp).mono (by simp)
theorem H5(h:bY w L m)(s:Bool)(p o:Int):
 Calls prog 33 #[ptr L.g,fr s p,.int .i64 o] w fun e w'=>∃u,e= .returned u∧u= .int .u32 (m.bw s p o)∧Pu w w':=by
 refine wU _ s p o ?_
 intro g1 w1 hg hw
 have hM:=made hg hw
 refine⟨_,_,⟨hM.blk.at rfl,hM.blk.at rfl⟩,(mAt (h.pu hM.pu) s p).mono ?_⟩
 rintro e w2 ⟨_,rfl,rfl,hp⟩
 have JD:=hM.pu.trans hp
 refine⟨_,rfl,fun b w'=>w2=w'∧b= !(m.has s p && Mem.dM o),?_,?_⟩
 ·cases hh:m.has s p with
  | false=>exact ae (fun _=>⟨rfl,rfl⟩) (fun hb=>by simp at hb)
  | true=>
   refine ae (fun hb=>by simp at hb) (fun _=>ae (fun hb=>⟨rfl,?_⟩) (fun hb=>⟨rfl,?_⟩))
   ·simp at hb;simp [Mem.dM];omega
   ·simp at hb;simp only [Mem.dM,ge_iff_le];rw [Bool.eq_iff_iff];simp;omega
 ·rintro _ x _ ⟨rfl,rfl⟩
  refine ae (fun hb=>?_) (fun hb=>?_)
  ·have hh:(m.has s p && Mem.dM o)=false:=by rwa [Bool.not_eq_true']at hb
   exact⟨by simp [Mem.bw,hh],JD⟩
  ·have hh:(m.has s p && Mem.dM o)=true:=by simpa using hb
   have WN:=hh
   simp only [Bool.and_eq_true]at hh
   have hi:=Mem.dA hh.1
   have ho:=Mem.gQ hh.2
   obtain⟨T,cs,hr,JR,Kq⟩:=(h.pu JD).pgs s p.toNat hi
   rw [if_pos hh.1]
   refine ai _ rfl ⟨ho,_,by rw [Nat.mul_one];exact hr.at (Kq _ (by omega)),?_,JD⟩
   simp only [Mem.bw,WN,if_true]
end
end
section
theorem pO:S1 prog 62 29 (.int .u32 0) 4:=S1.of (by kernel_rfl) (by kernel_rfl) rfl
theorem CF:S1 prog 145 162 (.pointer none) 8:=S1.of (by kernel_rfl) (by kernel_rfl) rfl
def gB(w:World)(g:Nat)(f:Nat→Int):Prop:=∃T cs,Blk w g cs T∧cs.size=1024∧∀o,o<1024→cs[o]? =some (.int .u32 (f o))
structure iP(w:World)(g n k:Nat)(pg:Nat→Nat)(f:Nat→Nat→Int)(b:Nat):Prop where
 row:∃T cs,Blk w g cs T∧cs.size=n∧∀i,i<k→cs[i]? =some (ptr (pg i))
 pgs:∀i,i<k→gB w (pg i) (f i)
 inj:∀i j,i<k→j<k→pg i=pg j→i=j
 dis:∀i,i<k→pg i≠g
 low:b≤g∧∀i,i<k→b≤pg i
theorem gB.lt {w:World} {g:Nat} {f:Nat→Int}(h:gB w g f):g<w.heap.size:=by obtain⟨T,cs,hb,_⟩:=h;exact hb.lt
theorem gB.pu {w w':World} {g:Nat} {f:Nat→Int}(h:gB w g f)(hk:Pu w w'):gB w' g f:=by obtain⟨T,cs,hb,h2⟩:=h;exact⟨T,cs,hk.blk hb,h2⟩
theorem gB.old {w w':World} {g g':Nat} {f:Nat→Int} {cs:Array Value} {T:TypeId}(h:gB w g f)(hs:bz w g' cs T w')(Ky:g≠g'):gB w' g f:=by obtain⟨T,cs,hb,h2⟩:=h;exact⟨T,cs,hs.old hb Ky,h2⟩
theorem iP.pu {w w':World} {g n k b:Nat} {pg:Nat→Nat} {f:Nat→Nat→Int}(h:iP w g n k pg f b)(hk:Pu w w'):iP w' g n k pg f b:=by
 obtain⟨⟨T,cs,hr,h2⟩,h3,h4,h5,h6⟩:=h
 exact⟨⟨T,cs,hk.blk hr,h2⟩,fun i hi=>(h3 i hi).pu hk,h4,h5,h6⟩
theorem iP.more {w w1 w2:World} {g n k b p:Nat} {pg:Nat→Nat} {f:Nat→Nat→Int}(h:iP w g n k pg f b)(hk:Pu w w1)(hp:gB w1 p (f k))(QO:w.heap.size≤p)(K2:k<n)(hb:b≤w.heap.size):
 ∃T cs,Blk w1 g cs T∧k+1≤cs.size∧∀w2,bz w1 g (setAt cs k [ptr p]) T w2→iP w2 g n (k+1) (fun i=>if i=k then p else pg i) f b:=by
 obtain⟨⟨T,cs,hr,JR,h2⟩,h3,h4,h5,h6⟩:=h
 have hg:=hr.lt
 have hold:∀i,i<k→pg i≠p:=fun i hi=>by have:=(h3 i hi).lt;omega
 refine⟨T,cs,hk.blk hr,by omega,fun w2 hs=>⟨⟨T,_,hs.blk,by rw [fF];exact JR,fun i hi=>?_⟩,fun i hi=>?_,fun i j hi hj=>?_,fun i hi=>?_,h6.1,fun i hi=>?_⟩⟩
 ·rw [eS _ _ _ _ (by simp;omega)]
  by_cases e:i=k
  ·subst e;simp
  ·rw [if_neg (by simp;omega),if_neg e]
   exact h2 i (by omega)
 ·by_cases e:i=k
  ·subst e
   rw [if_pos rfl]
   exact hp.old hs (by omega)
  ·rw [if_neg e]
   exact((h3 i (by omega)).pu hk).old hs (h5 i (by omega))
 ·by_cases e:i=k<;>by_cases e':j=k
  ·intro _;omega
  ·rw [if_pos e,if_neg e'];intro hh;exact absurd hh.symm (hold j (by omega))
  ·rw [if_neg e,if_pos e'];intro hh;exact absurd hh (hold i (by omega))
  ·rw [if_neg e,if_neg e'];exact h4 i j (by omega) (by omega)
 ·split
  ·omega
  ·exact h5 i (by omega)
 ·split
  ·omega
  ·exact h6.2 i (by omega)
section
variable {w:World} {L:dR} {m:Mem}
theorem Gw(n:Nat)(hn:n≤64):
 Calls prog 76 #[.int .i64 n] w fun e w'=>∃v,e= .returned v∧∃g pg,v= .slice (some (Addr.mk g 0 none)) n n∧iP w' g n n pg (fun _ _=>0) w.heap.size∧Pu w w':=by
 refine wY _ ?_
 refine iG CF (by omega) (by omega) (by omega) fun g w1 hM=>?_
 rw [Int.toNat_natCast]at hM ⊢
 refine⟨fun k x w'=>∃i:Nat,x=(i:Int)∧i≤n∧k=n - i∧(∃pg,iP w' g n i pg (fun _ _=>0) w.heap.size)∧Pu w w',⟨n,0,rfl,by omega,by omega,⟨fun _=>0,⟨⟨_,_,hM.blk,by simp,by simp⟩,by simp,by simp,by simp,by have:=hM.num;omega,by simp⟩⟩,hM.pu⟩,?_⟩
 rintro k _ x w2 ⟨i,rfl,hi,rfl,⟨pg,hP⟩,Mg⟩
 refine ae (fun hb=>?_) (fun hb=>?_)
 ·have JY:i<n:=by simpa using hb
  intro p w3 hp NQ
  have Ns:=made hp NQ
  obtain⟨T,cs,hr,JR,OI⟩:=hP.more (w2:=w3) Ns.pu ⟨_,_,Ns.blk,by simp,fun o ho=>by simp [ho]⟩ (by rw [Ns.num];omega) JY Mg.size
  refine⟨⟨by omega,by omega⟩,ai _ rfl ?_⟩
  rw [Nat.mul_one,Int.toNat_natCast]
  refine bI hr JR fun w4 hs=>⟨n - (i+1),by omega,i+1,?_,JY,rfl,⟨_,OI _ hs⟩,?_⟩
  ·rw [ax (by omega)];omega
  ·have hg:w.heap.size≤g:=hP.low.1
   exact((Mg.made Ns).mono (by simp):Ch (fun _=>False) w w3).stored hs (.inr hg)
 ·have:i=n:=by simp at hb;omega
  subst this
  exact⟨g,pg,rfl,hP,Mg⟩
theorem IU(s i:Int)(hs:1≤s∧s≤64)(hi:1≤i∧i≤64):
 Calls prog 27 #[.int .i64 s,.int .i64 i] w fun e w'=>∃v,e= .returned v∧∃L:dR,v= .tuple #[ptr L.g,.int .i64 0]∧bY w' L (Mem.fresh s.toNat i.toNat)∧(∀k,L.X k→w.heap.size≤k)∧Pu w w':=by
 refine qU s i ?_
 refine⟨fun b w'=>w=w'∧b=false,?_,?_⟩
 ·refine ae (fun hb=>by simp at hb;omega) (fun _=>ae (fun hb=>by simp at hb;omega) (fun _=>ae (fun hb=>by simp at hb;omega) (fun _=>⟨rfl,by simp;omega⟩)))
 rintro _ x _ ⟨rfl,rfl⟩
 refine ae (fun hb=>by cases hb) (fun _=>?_)
 obtain⟨S,rfl⟩:=Int.eq_ofNat_of_zero_le (show 0≤s by omega)
 obtain⟨I,rfl⟩:=Int.eq_ofNat_of_zero_le (show 0≤i by omega)
 refine(Gw S (by omega)).mono ?_
 rintro e w1 ⟨_,rfl,a,pa,rfl,hA,Jp⟩
 refine⟨_,_,_,rfl,(Gw I (by omega)).mono ?_⟩
 rintro e w2 ⟨_,rfl,b,pb,rfl,hB,JD⟩
 refine⟨_,_,_,rfl,?_⟩
 intro g w3 hg NQ
 have hM:=made hg NQ
 have Vh:=(hA.pu JD).pu hM.pu
 have Vg:=hB.pu hM.pu
 have Q5:∀j,j<S→pa j<w1.heap.size:=fun j hj=>(hA.pgs j hj).lt
 have JZ:a<w1.heap.size:=by obtain⟨T,cs,hr,_⟩:=hA.row;exact hr.lt
 have Q4:∀j,j<I→pb j<w2.heap.size:=fun j hj=>(hB.pgs j hj).lt
 have hbg:b<w2.heap.size:=by obtain⟨T,cs,hr,_⟩:=hB.row;exact hr.lt
 have h12:=JD.size
 have h01:=Jp.size
 have hgn:=hM.num
 refine⟨⟨g,a,b,fun s=>match s with | true=>pa | false=>pb,fun s=>match s with | true=>S | false=>I⟩,rfl,⟨fun s=>by cases s<;>rfl,⟨(_,_),hM.blk⟩,fun s=>?_,fun s i hi=>?_,fun s i s' i' hi JY e=>?_,⟨by show a≠g;omega,by show b≠g;omega,fun s i hi=>?_⟩,fun _ _ _=>by simp [Mem.fresh],by simp [Mem.fresh];omega⟩,?_,(Jp.trans JD).made hM⟩
 ·cases s
  ·obtain⟨T,cs,hr,_,h2⟩:=Vg.row;exact⟨T,cs,hr,h2⟩
  ·obtain⟨T,cs,hr,_,h2⟩:=Vh.row;exact⟨T,cs,hr,h2⟩
 ·cases s
  ·exact Vg.pgs i hi
  ·exact Vh.pgs i hi
 ·cases s<;>cases s'<;>simp only [Mem.cnt,Mem.fresh,Int.toNat_natCast]at hi JY<;>simp only at e
  ·exact⟨rfl,hB.inj _ _ hi JY e⟩
  ·have:=hB.low.2 i hi;have:=Q5 i' JY;omega
  ·have:=hB.low.2 i' JY;have:=Q5 i hi;omega
  ·exact⟨rfl,hA.inj _ _ hi JY e⟩
 ·cases s<;>simp only [Mem.cnt,Mem.fresh,Int.toNat_natCast]at hi<;>simp only
  ·have:=hB.low.2 i hi;have:=Q4 i hi;have:=hB.dis i hi
   refine⟨?_,?_,this⟩<;>omega
  ·have:=hA.low.2 i hi;have:=Q5 i hi;have h3:=hA.dis i hi;have:=hB.low.1
   refine⟨?_,h3,?_⟩<;>omega
 ·rintro k (rfl | rfl | rfl | ⟨s,i,hi,rfl⟩)
  ·omega
  ·exact hA.low.1
  ·have:=hB.low.1;omega
  ·cases s<;>simp only [Mem.cnt,Mem.fresh,Int.toNat_natCast]at hi<;>simp only
   ·have:=hB.low.2 i hi;omega
   ·exact hA.low.2 i hi
theorem Df(h:bY w L m)(s:Bool)(p t:Int):
 Calls prog 136 #[ptr L.g,fr s p,.int .i64 t] w fun e w'=>∃v,e= .returned v∧
  (m.has s p=true∧v= .tuple #[ptr (L.pg s p.toNat),.int .i64 0]∧bY w' L (m.tick (i64.wrap (t*1024)))∧Ch L.X w w'∨
   m.has s p=false∧v= .tuple #[.pointer none,.int .i64 5]∧Pu w w'):=by
 refine uj _ s p t ?_
 intro g1 w1 hg hw
 have hM:=made hg hw
 refine⟨_,_,⟨hM.blk.at rfl,hM.blk.at rfl⟩,(mAt (h.pu hM.pu) s p).mono ?_⟩
 rintro e w2 ⟨_,rfl,rfl,hp⟩
 have JD:=hM.pu.trans hp
 refine⟨_,rfl,?_⟩
 cases hh:m.has s p with
 | false=>exact ae (fun _=>.inr ⟨rfl,rfl,JD⟩) (fun hb=>by simp at hb)
 | true=>
  refine ae (fun hb=>by simp at hb) (fun _=>?_)
  have h2:=h.pu JD
  obtain⟨T,hd⟩:=h2.hd
  refine Hb hd rfl (ai _ rfl (bI hd (by simp) fun w3 hs=>.inl ⟨rfl,rfl,h2.C9 hs,?_⟩))
  exact(JD.mono (by simp)).stored hs (.inl (.inl rfl))
theorem Gt(h:bY w L m)(s:Bool)(p:Int):
 Calls prog 77 #[ptr L.g,fr s p] w fun e w'=>∃v,e= .returned v∧v= .int .i64 (m.dx s p)∧bY w' L (m.zero s p)∧Ch L.X w w':=by
 refine wM _ s p ?_
 intro g1 w1 hg hw
 have hM:=made hg hw
 refine⟨_,_,⟨hM.blk.at rfl,hM.blk.at rfl⟩,(Df (h.pu hM.pu) s p 1).mono ?_⟩
 rintro e w2 ⟨_,rfl,⟨hh,rfl,h2,hc⟩ | ⟨hh,rfl,hp⟩⟩
 ·refine⟨_,_,rfl,ae (fun _=>ai _ rfl ?_) (fun hb=>by simp at hb)⟩
  rintro A rfl N rfl C rfl
  have hi:=Mem.dA hh
  obtain⟨T,cs,hr,JR,Kq⟩:=h2.pgs s p.toNat (by simpa using hi)
  refine DJ (o:=0) pO rfl hr (by omega) (by omega) fun w3 hs=>⟨?_,?_,?_⟩
  ·simp [Mem.dx,hh]
  ·have:=h2.ak (f:=fun _=>0) (by simpa using hi) hs (by rw [fF];exact JR) (fun o ho=>?_) (fun o=>by simp)
   ·simp only [Mem.zero,hh,if_true]
    exact this
   ·have hl:(List.replicate (1024 - 0) (Value.int .u32 0)).length=1024:=List.length_replicate ..
    rw [eS _ _ _ _ (by rw [hl];omega),if_pos (by rw [hl];omega),List.getElem?_replicate,if_pos (by omega)]
  ·exact(((Ch.refl _ w).made hM).trans hc).stored hs (.inl (h.inX hi))
 ·refine⟨_,_,rfl,ae (fun hb=>by simp at hb) (fun _=>⟨?_,?_,?_⟩)⟩
  ·simp [Mem.dx,hh]
  ·simpa [Mem.zero,hh]using (h.pu hM.pu).pu hp
  ·exact(hM.pu.trans hp).mono (by simp)
end
end
structure Ent where
 typ:Int
 owner:Int
 refs:Int
 state:Int
 bS:Bool
deriving DecidableEq
namespace Ent
abbrev free:Ent:=⟨0,0,0,0,false⟩
def ok(e:Ent):Bool:=
 decide (0≤e.typ∧e.typ≤6∧0≤e.owner∧e.owner≤63∧0≤e.refs∧e.refs≤63∧(e.typ=0→e.owner=0)∧(e.typ≠1→e.refs=0∧e.state=0)∧(e.typ=1→1≤e.state∧e.state≤3)∧(e.typ≠2→e.bS=false))
def w0(e:Ent):Int:=e.typ+16*e.state+65536*e.owner+(if e.bS then 256 else 0)
def w1(e:Ent):Int:=e.refs
def parts(a b:Int):Ent:=⟨a % 8,a / 65536 % 64,b % 64,a / 16 % 4,decide (a / 256 % 2=1)⟩
def dec(a b:Int):Ent:=if(parts a b).ok && decide ((parts a b).w0=a) && decide ((parts a b).w1=b)then parts a b else free
def eI(a b:Int):Int:=if(parts a b).ok && decide ((parts a b).w0=a) && decide ((parts a b).w1=b)then 0 else 110
theorem fl {e:Ent}(h:e.ok=true):0≤e.typ∧e.typ≤6∧0≤e.owner∧e.owner≤63∧0≤e.refs∧e.refs≤63∧(e.typ=0→e.owner=0)∧(e.typ≠1→e.refs=0∧e.state=0)∧(e.typ=1→1≤e.state∧e.state≤3)∧(e.typ≠2→e.bS=false):=by
 simpa only [ok,decide_eq_true_eq]using h
theorem kj {e:Ent}(h:e.ok=true):0≤e.state∧e.state≤3:=by
 have:=fl h
 by_cases h1:e.typ=1<;>omega
theorem AU {e:Ent}(h:e.ok=true):parts e.w0 e.w1=e:=by
 have h1:=fl h
 have h2:=kj h
 obtain⟨t,o,r,s,n⟩:=e
 simp only at h1 h2
 cases n<;>simp only [parts,w0,w1,Ent.mk.injEq,decide_eq_true_eq,decide_eq_false_iff_not,if_true,Bool.false_eq_true,if_false]<;>omega
theorem tP {e:Ent}(h:e.ok=true):dec e.w0 e.w1=e∧eI e.w0 e.w1=0:=by
 unfold dec eI
 rw [AU h]
 simp [h]
theorem uT {e:Ent}(h:e.ok=true):0≤e.w0∧e.w0<4294967296:=by
 have h1:=fl h
 have h2:=kj h
 unfold w0
 split<;>omega
theorem uS {e:Ent}(h:e.ok=true):0≤e.w1∧e.w1<4294967296:=by
 have h1:=fl h
 unfold w1
 omega
theorem tK:free.ok=true:=by decide
theorem gz {a b:Int}(h:eI a b=0):(dec a b).ok=true∧(dec a b).w0=a∧(dec a b).w1=b:=by
 unfold eI at h
 unfold dec
 split at h
 ·rename_i hc
  rw [if_pos hc]
  simp only [Bool.and_eq_true,decide_eq_true_eq]at hc
  exact⟨hc.1.1,hc.1.2,hc.2⟩
 ·omega
end Ent
structure DB where
 mem:Mem
 aE:Int
 ent:Nat→Ent
namespace DB
def S(d:DB):Nat:=d.mem.S
def has(d:DB)(p:Int):Bool:=decide (0≤p∧p<(d.S:Int))
def at_(d:DB)(p:Int):Ent:=d.ent p.toNat
def set(d:DB)(p:Int)(e:Ent):DB:= {d with ent:=fun q=>if q=p.toNat then e else d.ent q}
def entry(d:DB)(p:Int):Ent:=if d.has p then d.at_ p else .free
def aS(d:DB)(p:Int):Int:=if d.has p then 0 else 5
def cD(d:DB)(p:Int):Bool:=d.has p && (d.at_ p).typ==1
def aL(d:DB)(m:Mem):DB:=⟨m,d.aE,d.ent⟩
def fU(d:DB)(b:Int):DB:=⟨d.mem,b,d.ent⟩
def aQ(d:DB)(f:Mem→Mem):DB:=d.aL (f d.mem)
def free(d:DB):Int:=(((List.range d.S).filter fun p=>(d.ent p).typ==0).length:Int)
def dy(d:DB)(s:Int)(p:Nat):Bool:=(p:Int) !=s && (d.ent p).typ !=0 && (d.ent p).owner==s
def aO(d:DB)(s f:Int):Int:=
 if !d.has s || !d.has f then 5 else if s=f then 1 else if(d.at_ s).typ !=0 || (d.at_ f).typ !=0 then 120 else if d.aE≥64 then 240 else 0
def bn(d:DB)(s f:Int):DB:=
 let d1:=(d.set s ⟨1,s,1,1,false⟩).set f ⟨3,s,0,0,false⟩
 (d1.aL (((d.mem.write true s 0 f).write true s 1 d.aE).write true s 2 0)).fU (d.aE+1)
def aM(d:DB)(s f:Int):DB:=if d.aO s f=0 then d.bn s f else d
def turns(t:Int):Bool:=t==4 || t==5 || t==6
def aZ(d:DB)(p t s:Int):Int:=
 if !d.has p then 5 else if t !=2 && !turns t then 124 else if !d.cD s || decide ((d.at_ s).refs≥63)then 122 else if(d.at_ p).typ !=0 then 120 else 0
def more(d:DB)(s k:Int):DB:=d.set s {d.at_ s with refs:=(d.at_ s).refs+k}
def bT(d:DB)(p t s:Int):DB:=(d.set p ⟨t,s,0,0,false⟩).more s 1
def take(d:DB)(p t s:Int):DB:=if d.aZ p t s=0 then d.bT p t s else d
def cO(d:DB)(p:Int):Int:=
 if !d.has p then 5 else if(d.at_ p).typ=0 then 121 else if(d.at_ p).typ==1 && decide ((d.at_ p).refs>0)then 123 else 0
def bZ(d:DB)(p:Int):DB:=
 let d1:=d.set p .free
 (if(d.at_ p).typ !=1 && (d1.cD (d.at_ p).owner && decide ((d1.at_ (d.at_ p).owner).refs>0))then d1.more (d.at_ p).owner (-1)else d1).aQ (·.zero true p)
def eC(d:DB)(p:Int):DB:=if d.cO p=0 then d.bZ p else d
def aV(d:DB)(p s:Int):Int:=
 if !d.has p then 5 else if(d.at_ p).typ≠1 then 124 else if s !=3 && ((d.at_ p).state !=1 || s !=2)then 3 else 0
def setState(d:DB)(p s:Int):DB:=if d.aV p s=0 then d.set p {d.at_ p with state:=s}else d
def words(d:DB):List Int:=d.aE::(List.range d.S).flatMap fun p=>[(d.ent p).w0,(d.ent p).w1]
structure Ok(d:DB):Prop where
 ent:∀p,p<d.S→(d.ent p).ok=true∧(d.ent p).owner<d.S
 aE:0≤d.aE∧d.aE≤64
@[simp] theorem I6(d:DB)(p:Int)(e:Ent):(d.set p e).S=d.S:=rfl
@[simp] theorem dN(d:DB)(p q:Int)(e:Ent):(d.set p e).has q=d.has q:=rfl
@[simp] theorem mem_set(d:DB)(p:Int)(e:Ent):(d.set p e).mem=d.mem:=rfl
@[simp] theorem Hn(d:DB)(p:Int)(e:Ent):(d.set p e).aE=d.aE:=rfl
@[simp] theorem cn(d:DB)(m:Mem):(d.aL m).mem=m:=rfl
@[simp] theorem DQ(d:DB)(m:Mem):(d.aL m).aE=d.aE:=rfl
@[simp] theorem Hp(d:DB)(m:Mem)(p:Int):(d.aL m).at_ p=d.at_ p:=rfl
@[simp] theorem HH(d:DB)(m:Mem):(d.aL m).S=m.S:=rfl
@[simp] theorem A3(d:DB)(b:Int):(d.fU b).mem=d.mem:=rfl
@[simp] theorem FI(d:DB)(b:Int):(d.fU b).aE=b:=rfl
@[simp] theorem Iy(d:DB)(b:Int)(p:Int):(d.fU b).at_ p=d.at_ p:=rfl
@[simp] theorem II(d:DB)(b:Int):(d.fU b).S=d.S:=rfl
@[simp] theorem Cl(d:DB)(m m':Mem):(d.aL m).aL m'=d.aL m':=rfl
theorem vz(m:Mem)(s s':Bool)(p q:Int):(m.zero s p).has s' q=m.has s' q:=by
 unfold Mem.has Mem.zero;split<;>cases s'<;>rfl
theorem cI(m:Mem)(s s':Bool)(p o v q:Int):(m.write s p o v).has s' q=m.has s' q:=by
 unfold Mem.has Mem.write;split<;>cases s'<;>rfl
theorem fp(d:DB)(p:Int):d.mem.has true p=d.has p:=rfl
theorem ay {d:DB} {p:Int}(h:d.has p=true):0≤p∧p<(d.S:Int):=by simpa [has]using h
theorem dA {d:DB} {p:Int}(h:d.has p=true):p.toNat<d.S:=by have:=ay h;omega
theorem bR {d:DB} {p q:Int} {e:Ent}(hp:0≤p)(hq:0≤q):(d.set p e).at_ q=if q=p then e else d.at_ q:=by
 unfold at_ set
 by_cases h:q=p
 ·simp [h]
 ·simp only [h,if_false];rw [if_neg (by omega)]
theorem Iz {d:DB} {p q:Int} {e:Ent}(hp:d.has p=true)(hq:d.has q=true)(Ky:¬(d.at_ p).typ=(d.at_ q).typ):(d.set p e).at_ q=d.at_ q:=by
 have h1:=ay hp
 have h2:=ay hq
 rw [bR h1.1 h2.1,if_neg (by rintro rfl;exact Ky rfl)]
theorem eX {d:DB} {p:Int}(h:d.cD p=true):d.has p=true∧(d.at_ p).typ=1:=by simpa [cD]using h
theorem C3 {t s:Int}(ht:t=2∨turns t=true)(hs:0≤s∧s≤63):(Ent.mk t s 0 0 false).ok=true:=by
 have:t=2∨t=4∨t=5∨t=6:=by simpa [turns,or_assoc]using ht
 simp only [Ent.ok,decide_eq_true_eq];simp;omega
theorem tx {e:Ent} {k:Int}(h:e.ok=true)(he:e.typ=1)(hk:0≤e.refs+k∧e.refs+k≤63):(Ent.mk e.typ e.owner (e.refs+k) e.state e.bS).ok=true:=by
 have h1:=Ent.fl h
 simp only [Ent.ok,decide_eq_true_eq]
 refine⟨by omega,by omega,by omega,by omega,by omega,by omega,by omega,by omega,by omega,fun _=>h1.2.2.2.2.2.2.2.2.2 (by omega)⟩
theorem Gq {e:Ent} {s:Int}(h:e.ok=true)(he:e.typ=1)(hs:1≤s∧s≤3):(Ent.mk e.typ e.owner e.refs s e.bS).ok=true:=by
 have h1:=Ent.fl h
 simp only [Ent.ok,decide_eq_true_eq]
 refine⟨by omega,by omega,by omega,by omega,by omega,by omega,by omega,by omega,by omega,fun _=>h1.2.2.2.2.2.2.2.2.2 (by omega)⟩
theorem Ok.at_ {d:DB}(h:d.Ok) {p:Int}(hp:d.has p=true):(d.at_ p).ok=true∧(d.at_ p).owner<d.S∧0≤(d.at_ p).owner:=
 ⟨(h.ent _ (dA hp)).1,(h.ent _ (dA hp)).2,(Ent.fl (h.ent _ (dA hp)).1).2.2.1⟩
end DB
section
structure fg where
 g:Nat
 a:Nat
 M:dR
def fg.X(L:fg):Nat→Prop:=fun k=>k=L.g∨k=L.a∨L.M.X k
abbrev DB.n2(D:DB):Nat:=2*D.mem.S
structure DBP(w:World)(L:fg)(D:DB):Prop where
 hd:∃T,Blk w L.g #[.pointer (some (Addr.mk L.M.g 0 none)),.int .i64 D.aE,.slice (some (Addr.mk L.a 0 none)) D.n2 D.n2] T
 ws:∃T cs,Blk w L.a cs T∧cs.size=D.n2∧∀p,p<D.S→cs[2*p]? =some (.int .u32 (D.ent p).w0)∧cs[2*p+1]? =some (.int .u32 (D.ent p).w1)
 mem:bY w L.M D.mem
 ok:D.Ok
 dis:L.a≠L.g∧¬L.M.X L.g∧¬L.M.X L.a
section
variable {w w' w2:World} {L:fg} {D:DB} {Y:Nat→Prop}
theorem DBP.lt(h:DBP w L D):∀k,L.X k→k<w.heap.size:=by
 rintro k (rfl | rfl | hk)
 ·obtain⟨T,hd⟩:=h.hd;exact hd.lt
 ·obtain⟨T,cs,hr,_⟩:=h.ws;exact hr.lt
 ·exact h.mem.lt k hk
theorem DBP.ch(h:DBP w L D)(hk:Ch Y w w')(hb:∀k,L.X k→¬Y k):DBP w' L D:=by
 refine⟨?_,?_,h.mem.ch hk fun k hx=>hb k (.inr (.inr hx)),h.ok,h.dis⟩
 ·obtain⟨T,hd⟩:=h.hd;exact⟨T,hk.blk hd (hb _ (.inl rfl))⟩
 ·obtain⟨T,cs,hr,h2⟩:=h.ws;exact⟨T,cs,hk.blk hr (hb _ (.inr (.inl rfl))),h2⟩
theorem DBP.pu(h:DBP w L D)(hk:Pu w w'):DBP w' L D:=h.ch hk (by simp)
theorem DBP.S64(h:DBP w L D):D.S≤64:=h.mem.dz.1
theorem DBP.aQ(h:DBP w L D) {m:Mem}(hm:bY w' L.M m)(hc:Ch L.M.X w w')(hs:m.S=D.mem.S):DBP w' L (D.aL m):=by
 refine⟨?_,?_,hm,⟨fun p hp=>?_,h.ok.aE⟩,h.dis⟩
 ·obtain⟨T,hd⟩:=h.hd
  refine⟨T,?_⟩
  show Blk w' L.g #[_,_,.slice _ (2*m.S) (2*m.S)] T
  rw [hs];exact hc.blk hd h.dis.2.1
 ·obtain⟨T,cs,hr,h2⟩:=h.ws
  refine⟨T,cs,hc.blk hr h.dis.2.2,?_⟩
  show cs.size=2*m.S∧∀p,p<m.S→_
  rw [hs];exact h2
 ·have UD:p<m.S:=hp
  rw [hs]at UD
  have:=h.ok.ent p UD
  refine⟨this.1,?_⟩
  show _<(m.S:Int)
  rw [hs];exact this.2
theorem DBP.AI(h:DBP w L D) {x:Int} {T:TypeId}(hs:bz w L.g #[.pointer (some (Addr.mk L.M.g 0 none)),.int .i64 x,.slice (some (Addr.mk L.a 0 none)) D.n2 D.n2] T w2)(hx:0≤x∧x≤64):DBP w2 L (D.fU x):=by
 refine⟨⟨T,hs.blk⟩,?_,h.mem.ch hs.ch fun k hk e=>h.dis.2.1 (e▸hk),⟨h.ok.ent,hx⟩,h.dis⟩
 obtain⟨T,cs,hr,h2⟩:=h.ws
 exact⟨T,cs,hs.old hr h.dis.1,h2⟩
theorem DBP.GQ(h:DBP w L D) {p:Int} {e:Ent}(hp:D.has p=true)(he:e.ok=true)(ho:e.owner<D.S) {cs:Array Value} {T:TypeId}(hb:Blk w L.a cs T)(hs:bz w L.a (setAt cs (2*p.toNat) [.int .u32 e.w0,.int .u32 e.w1]) T w2):DBP w2 L (D.set p e):=by
 obtain⟨T',cs',hr,JR,h2⟩:=h.ws
 obtain⟨rfl,rfl⟩:=hb.inj hr
 have hn:=DB.dA hp
 refine⟨?_,⟨T,_,hs.blk,by rw [fF];exact JR,fun q hq=>?_⟩,h.mem.ch hs.ch fun k hk e=>h.dis.2.2 (e▸hk),⟨fun q hq=>?_,h.ok.aE⟩,h.dis⟩
 ·obtain⟨T,hd⟩:=h.hd;exact⟨T,hs.old hd h.dis.1.symm⟩
 ·have hl:2*p.toNat+ [Value.int .u32 e.w0,Value.int .u32 e.w1].length≤cs.size:=by
   have h1:D.n2=2*D.S:=rfl
   rw [JR,h1];simp only [List.length_cons,List.length_nil];omega
  rw [eS _ _ _ _ hl,eS _ _ _ _ hl]
  simp only [DB.set,List.length_cons,List.length_nil]
  by_cases UA:q=p.toNat
  ·subst UA
   simp
  ·rw [if_neg (by omega),if_neg (by omega:¬(2*p.toNat≤2*q+1∧2*q+1<2*p.toNat+(0+1+1)))]
   simp only [UA,if_false]
   exact h2 q hq
 ·simp only [DB.set]
  split
  ·exact⟨he,ho⟩
  ·exact h.ok.ent q hq
theorem Mem.bB(m:Mem)(s:Bool)(p o v:Int):(m.write s p o v).S=m.S:=by unfold Mem.write;split<;>rfl
theorem Mem.qJ(m:Mem)(s:Bool)(p:Int):(m.zero s p).S=m.S:=by unfold Mem.zero;split<;>rfl
theorem fg.inM(L:fg)(k:Nat)(h:L.M.X k):L.X k:= .inr (.inr h)
theorem tM(h:DBP w L D)(s:Bool)(p o v:Int)(hv:0≤v∧v<4294967296):
 Calls prog 42 #[ptr L.M.g,fr s p,.int .i64 o,.int .u32 v] w fun e w'=>∃u,e= .returned u∧u= .int .i64 (D.mem.err s p o)∧DBP w' L (D.aL (D.mem.write s p o v))∧Ch L.M.X w w':=
 (yo h.mem s p o v hv).mono fun e w' ⟨u,he,hu,hm,hc⟩=>⟨u,he,hu,h.aQ hm hc (Mem.bB ..),hc⟩
theorem DD(h:DBP w L D)(s:Bool)(p:Int):
 Calls prog 77 #[ptr L.M.g,fr s p] w fun e w'=>∃u,e= .returned u∧u= .int .i64 (D.mem.dx s p)∧DBP w' L (D.aL (D.mem.zero s p))∧Ch L.M.X w w':=
 (Gt h.mem s p).mono fun e w' ⟨u,he,hu,hm,hc⟩=>⟨u,he,hu,h.aQ hm hc (Mem.qJ ..),hc⟩
theorem nA(x:Int):0≤u32.wrap x∧u32.wrap x<4294967296:=by rw [u32_eq];omega
end
end
end Go.Proofs.YtinhphjfnedhgaaGreatDoor
namespace Go.Proofs.YtinhphjfnedhgaaGreatDoor
open Go.Proofs.Tryz (prog)
open Go Go.RowKit V
open Go.IntKind (i64 u32 u64)
section
set_option maxRecDepth 100000
def sW(t:Int)(R:aD)(w:World):Prop:=
 ∃J:Bool→World→Prop,(
  split ((t:Int)==4) (
   J true w) (
   split ((t:Int)==5) (
    J true w) (
    J ((t:Int)==6) w)))∧∀(L5:Nat→Value)(x2:Bool),∀wv,J x2 wv→
 R (.bool x2) wv
def B4:Ann:=(.node none .leaf (.node none (.node (some ⟨[(2,.one (.bool))],[2,3,4,5,6,7,8,9,10,11,12]⟩) .leaf .leaf) .leaf))
theorem DTurns_eq(t:Int)(R:aD)(w:World):sW t R w=vcF prog aP [] Tryz.f128 B4 [(.int .i64 t)] R none w:=by kernel_rfl
theorem uH(t:Int) {R:aD} {w:World}(h:sW t R w):Calls prog 128 #[(.int .i64 t)] w fun e w'=>∃v,e= .returned v∧R v w':=
 aj Tryz.func128 aw aa ((DTurns_eq t R w).mp h)
def qZ(ak:Int)(R:aD)(w:World):Prop:=
 ∀(gv:Nat)(wv:World),gv=w.heap.size→wv=w.alloc (.cells (#[(.bool false),(.int .i64 0)]) 86)→
 aG wv (Addr.mk gv 0 none) [(.bool true),(.int .i64 ak)] fun Jb=>
 ∃MA:Bool,∃Mz:Int,(Jb.cell? ((Addr.mk gv 0 none).add 0)=some (.bool MA)∧Jb.cell? ((Addr.mk gv 0 none).add 1)=some (.int .i64 Mz))∧
 R (.agg #[(.bool MA),(.int .i64 Mz)]) Jb
def zk:Ann:= .leaf
theorem DSecure_eq(ak:Int)(R:aD)(w:World):qZ ak R w=vcF prog aP [] Tryz.f78 zk [(.int .i64 ak)] R none w:=by kernel_rfl
theorem rK(ak:Int) {R:aD} {w:World}(h:qZ ak R w):Calls prog 78 #[(.int .i64 ak)] w fun e w'=>∃v,e= .returned v∧R v w':=
 aj Tryz.func78 aw aa ((DSecure_eq ak R w).mp h)
def sX(d:Option Addr)(R:aD)(w:World):Prop:=
 ar d fun p4=>
 ∃NN:Option Addr,∃MN:Nat,∃N0:Nat,w.cell? (p4.add 2)=some (.slice NN MN N0)∧
 R (.int .i64 (i64.wrap ((((MN:Nat):Int):Int).tdiv 2))) w
def B5:Ann:= .leaf
theorem DPages_eq(d:Option Addr)(R:aD)(w:World):sX d R w=vcF prog aP [] Tryz.f120 B5 [(.pointer d)] R none w:=by kernel_rfl
theorem nr(d:Option Addr) {R:aD} {w:World}(h:sX d R w):Calls prog 120 #[(.pointer d)] w fun e w'=>∃v,e= .returned v∧R v w':=
 aj Tryz.func120 aw aa ((DPages_eq d R w).mp h)
def At(d:Option Addr)(ak:Int)(R:aD)(w:World):Prop:=
 ∃J:Bool→World→Prop,(
  split (decide ((ak:Int)≥0)) (
   Calls prog 120 #[(.pointer d)] w fun e wv=>
   ∃Kb:Int,e= .returned (.int .i64 Kb)∧
   J (decide ((ak:Int)<Kb)) wv) (
   J false w))∧∀(L5:Nat→Value)(x4:Bool),∀wv,J x4 wv→
 R (.bool x4) wv
def Gj:Ann:=(.node none .leaf (.node none (.node (some ⟨[(4,.one (.bool))],[4,5,6,7,8,9,10,11,12]⟩) .leaf .leaf) .leaf))
theorem DHas_eq(d:Option Addr)(ak:Int)(R:aD)(w:World):At d ak R w=vcF prog aP [] Tryz.f57 Gj [(.pointer d),(.int .i64 ak)] R none w:=by kernel_rfl
theorem ri(d:Option Addr)(ak:Int) {R:aD} {w:World}(h:At d ak R w):Calls prog 57 #[(.pointer d),(.int .i64 ak)] w fun e w'=>∃v,e= .returned v∧R v w':=
 aj Tryz.func57 aw aa ((DHas_eq d ak R w).mp h)
def EL(d:Option Addr)(ak:Int)(R:aD)(w:World):Prop:=
 ∀(gv:Nat)(wv:World),gv=w.heap.size→wv=w.alloc (.cells (#[(.int .i64 0),(.int .i64 0),(.int .i64 0),(.int .i64 0),(.bool false)]) 50)→
 ar d fun p9=>
 ∃NC:Option Addr,∃NA:Nat,∃NB:Nat,wv.cell? (p9.add 2)=some (.slice NC NA NB)∧
 (0≤(i64.wrap (2*ak):Int)∧(i64.wrap (2*ak):Int)≤((NA:Nat):Int))∧
 ∀TW:Option Addr,TW=(if NB=(Int.toNat (i64.wrap (2*ak)))then NC else(NC:Option Addr).map (·.add ((Int.toNat (i64.wrap (2*ak)))*1)))→∀TV:Nat,TV=NA - (Int.toNat (i64.wrap (2*ak)))→∀V3:Nat,V3=NB - (Int.toNat (i64.wrap (2*ak)))→
 2≤TV∧
 ar TW fun OW=>
 ∃TH:Int,∃TG:Int,(wv.cell? (OW.add 0)=some (.int .u32 TH)∧wv.cell? (OW.add 1)=some (.int .u32 TG))∧
 Calls prog 121 #[(.agg #[(.int .u32 TH),(.int .u32 TG)])] wv fun e Jb=>
 ∃x17aa:Int,∃x17ab:Int,∃x17ac:Int,∃x17ad:Int,∃x17ae:Bool,∃Pe:Int,e= .returned (.tuple #[(.agg #[(.int .i64 x17aa),(.int .i64 x17ab),(.int .i64 x17ac),(.int .i64 x17ad),(.bool x17ae)]),(.int .i64 Pe)])∧
 ∀(Jj:Nat)(Jc:World),Jj=Jb.heap.size→Jc=Jb.alloc (.cells (#[(.int .i64 0),(.int .i64 0),(.int .i64 0),(.int .i64 0),(.bool false)]) 50)→
 aG Jc (Addr.mk Jj 0 none) [(.int .i64 x17aa),(.int .i64 x17ab),(.int .i64 x17ac),(.int .i64 x17ad),(.bool x17ae)] fun Ji=>
 ∃Ty:Int,∃Tx:Int,∃Tw:Int,∃Tv:Int,∃Tu:Bool,(Ji.cell? ((Addr.mk Jj 0 none).add 0)=some (.int .i64 Ty)∧Ji.cell? ((Addr.mk Jj 0 none).add 1)=some (.int .i64 Tx)∧Ji.cell? ((Addr.mk Jj 0 none).add 2)=some (.int .i64 Tw)∧Ji.cell? ((Addr.mk Jj 0 none).add 3)=some (.int .i64 Tv)∧Ji.cell? ((Addr.mk Jj 0 none).add 4)=some (.bool Tu))∧
 aG Ji (Addr.mk gv 0 none) [(.int .i64 Ty),(.int .i64 Tx),(.int .i64 Tw),(.int .i64 Tv),(.bool Tu)] fun Jq=>
 ∃MA:Int,∃Mz:Int,∃No:Int,∃Nn:Int,∃Nm:Bool,(Jq.cell? ((Addr.mk gv 0 none).add 0)=some (.int .i64 MA)∧Jq.cell? ((Addr.mk gv 0 none).add 1)=some (.int .i64 Mz)∧Jq.cell? ((Addr.mk gv 0 none).add 2)=some (.int .i64 No)∧Jq.cell? ((Addr.mk gv 0 none).add 3)=some (.int .i64 Nn)∧Jq.cell? ((Addr.mk gv 0 none).add 4)=some (.bool Nm))∧
 R (.agg #[(.int .i64 MA),(.int .i64 Mz),(.int .i64 No),(.int .i64 Nn),(.bool Nm)]) Jq
def HF:Ann:= .leaf
theorem DAt_eq(d:Option Addr)(ak:Int)(R:aD)(w:World):EL d ak R w=vcF prog aP [] Tryz.f58 HF [(.pointer d),(.int .i64 ak)] R none w:=by kernel_rfl
theorem B9(d:Option Addr)(ak:Int) {R:aD} {w:World}(h:EL d ak R w):Calls prog 58 #[(.pointer d),(.int .i64 ak)] w fun e w'=>∃v,e= .returned v∧R v w':=
 aj Tryz.func58 aw aa ((DAt_eq d ak R w).mp h)
def Aq(d:Option Addr)(ak:Int)(ea:Int)(eb:Int)(ec:Int)(ed:Int)(ee:Bool)(R:aD)(w:World):Prop:=
 ∀(gv:Nat)(wv:World),gv=w.heap.size→wv=w.alloc (.cells #[(.int .i64 ea),(.int .i64 eb),(.int .i64 ec),(.int .i64 ed),(.bool ee)] 50)→
 ∃NZ:Int,∃NY:Int,∃RL:Int,∃RK:Int,∃RJ:Bool,(wv.cell? ((Addr.mk gv 0 none).add 0)=some (.int .i64 NZ)∧wv.cell? ((Addr.mk gv 0 none).add 1)=some (.int .i64 NY)∧wv.cell? ((Addr.mk gv 0 none).add 2)=some (.int .i64 RL)∧wv.cell? ((Addr.mk gv 0 none).add 3)=some (.int .i64 RK)∧wv.cell? ((Addr.mk gv 0 none).add 4)=some (.bool RJ))∧
 Calls prog 170 #[(.agg #[(.int .i64 NZ),(.int .i64 NY),(.int .i64 RL),(.int .i64 RK),(.bool RJ)])] wv fun e Jb=>
 ∃x10aa:Int,∃x10ab:Int,∃KX:Int,e= .returned (.tuple #[(.agg #[(.int .u32 x10aa),(.int .u32 x10ab)]),(.int .i64 KX)])∧
 ∀(Jj:Nat)(Jc:World),Jj=Jb.heap.size→Jc=Jb.alloc (.cells (#[(.int .u32 0),(.int .u32 0)]) 197)→
 aG Jc (Addr.mk Jj 0 none) [(.int .u32 x10aa),(.int .u32 x10ab)] fun Ji=>
 ∃b:Nat→Nat→Prop,
 ar d fun OX=>
 b 3 ((OX.add 2).block)∧
 ∃Of:Option Addr,∃L9:Nat,∃Oe:Nat,Ji.drew.cell? (OX.add 2)=some (.slice Of L9 Oe)∧
 (0≤(i64.wrap (2*ak):Int)∧(i64.wrap (2*ak):Int)≤((L9:Nat):Int))∧
 ∀Od:Option Addr,Od=(if Oe=(Int.toNat (i64.wrap (2*ak)))then Of else(Of:Option Addr).map (·.add ((Int.toNat (i64.wrap (2*ak)))*1)))→∀Ob:Nat,Ob=L9 - (Int.toNat (i64.wrap (2*ak)))→∀Oc:Nat,Oc=Oe - (Int.toNat (i64.wrap (2*ak)))→
 ∀Oa:Option Addr,Oa=(some (if 2=0 then Addr.mk Jj 0 none else(Addr.mk Jj 0 none).add (0*1)))→∀N8:Nat,N8=2 - 0→∀N9:Nat,N9=2 - 0→
 ∃KL:Int,∃Jq,(Builtin.copy_ #[62,62] 3 #[(.slice Od Ob Oc),(.slice Oa N8 N9)]:Sem Value).run prog Ji.drew= .ok (.int .i64 KL) Jq∧
 Kept (bM b [0,1]) Ji.drew Jq∧∃b1:Nat→Nat→Prop,(∀i k,b i k→b1 i k)∧
 R (.tuple #[]) Jq
def Gh:Ann:= .leaf
theorem DSet_eq(d:Option Addr)(ak:Int)(ea:Int)(eb:Int)(ec:Int)(ed:Int)(ee:Bool)(R:aD)(w:World):Aq d ak ea eb ec ed ee R w=vcF prog aP [] Tryz.f115 Gh [(.pointer d),(.int .i64 ak),(.agg #[(.int .i64 ea),(.int .i64 eb),(.int .i64 ec),(.int .i64 ed),(.bool ee)])] R none w:=by kernel_rfl
theorem zj(d:Option Addr)(ak:Int)(ea:Int)(eb:Int)(ec:Int)(ed:Int)(ee:Bool) {R:aD} {w:World}(h:Aq d ak ea eb ec ed ee R w):Calls prog 115 #[(.pointer d),(.int .i64 ak),(.agg #[(.int .i64 ea),(.int .i64 eb),(.int .i64 ec),(.int .i64 ed),(.bool ee)])] w fun e w'=>∃v,e= .returned v∧R v w':=
 aj Tryz.func115 aw aa ((DSet_eq d ak ea eb ec ed ee R w).mp h)
def sY(d:Option Addr)(ak:Int)(R:aD)(w:World):Prop:=
 ∀(gv:Nat)(wv:World),gv=w.heap.size→wv=w.alloc (.cells (#[(.int .i64 0),(.int .i64 0),(.int .i64 0),(.int .i64 0),(.bool false)]) 50)→
 Calls prog 57 #[(.pointer d),(.int .i64 ak)] wv fun e Jb=>
 ∃x8:Bool,e= .returned (.bool x8)∧
 split (!x8) (
  aG Jb (Addr.mk gv 0 none) [(.int .i64 0),(.int .i64 0),(.int .i64 0),(.int .i64 0),(.bool false)] fun Jc=>
  ∃MA:Int,∃Mz:Int,∃No:Int,∃Nn:Int,∃Nm:Bool,(Jc.cell? ((Addr.mk gv 0 none).add 0)=some (.int .i64 MA)∧Jc.cell? ((Addr.mk gv 0 none).add 1)=some (.int .i64 Mz)∧Jc.cell? ((Addr.mk gv 0 none).add 2)=some (.int .i64 No)∧Jc.cell? ((Addr.mk gv 0 none).add 3)=some (.int .i64 Nn)∧Jc.cell? ((Addr.mk gv 0 none).add 4)=some (.bool Nm))∧
  R (.tuple #[(.agg #[(.int .i64 MA),(.int .i64 Mz),(.int .i64 No),(.int .i64 Nn),(.bool Nm)]),(.int .i64 5)]) Jc) (
  Calls prog 58 #[(.pointer d),(.int .i64 ak)] Jb fun e Jc=>
  ∃KO:Int,∃KU:Int,∃Om:Int,∃Ol:Int,∃Oj:Bool,e= .returned (.agg #[(.int .i64 KO),(.int .i64 KU),(.int .i64 Om),(.int .i64 Ol),(.bool Oj)])∧
  aG Jc (Addr.mk gv 0 none) [(.int .i64 KO),(.int .i64 KU),(.int .i64 Om),(.int .i64 Ol),(.bool Oj)] fun Ji=>
  ∃MA:Int,∃Mz:Int,∃No:Int,∃Nn:Int,∃Nm:Bool,(Ji.cell? ((Addr.mk gv 0 none).add 0)=some (.int .i64 MA)∧Ji.cell? ((Addr.mk gv 0 none).add 1)=some (.int .i64 Mz)∧Ji.cell? ((Addr.mk gv 0 none).add 2)=some (.int .i64 No)∧Ji.cell? ((Addr.mk gv 0 none).add 3)=some (.int .i64 Nn)∧Ji.cell? ((Addr.mk gv 0 none).add 4)=some (.bool Nm))∧
  R (.tuple #[(.agg #[(.int .i64 MA),(.int .i64 Mz),(.int .i64 No),(.int .i64 Nn),(.bool Nm)]),(.int .i64 0)]) Ji)
def B6:Ann:= .leaf
theorem DEntry_eq(d:Option Addr)(ak:Int)(R:aD)(w:World):sY d ak R w=vcF prog aP [] Tryz.f18 B6 [(.pointer d),(.int .i64 ak)] R none w:=by kernel_rfl
theorem uK(d:Option Addr)(ak:Int) {R:aD} {w:World}(h:sY d ak R w):Calls prog 18 #[(.pointer d),(.int .i64 ak)] w fun e w'=>∃v,e= .returned v∧R v w':=
 aj Tryz.func18 aw aa ((DEntry_eq d ak R w).mp h)
def oD(d:Option Addr)(ak:Int)(R:aD)(w:World):Prop:=
 ∃J:Bool→World→Prop,(
  Calls prog 57 #[(.pointer d),(.int .i64 ak)] w fun e wv=>
  ∃x7:Bool,e= .returned (.bool x7)∧
  split x7 (
   Calls prog 58 #[(.pointer d),(.int .i64 ak)] wv fun e Jb=>
   ∃Ot:Int,∃Pg:Int,∃V6:Int,∃V5:Int,∃V4:Bool,e= .returned (.agg #[(.int .i64 Ot),(.int .i64 Pg),(.int .i64 V6),(.int .i64 V5),(.bool V4)])∧
   J ((Ot:Int)==1) Jb) (
   J false wv))∧∀(L5:Nat→Value)(x4:Bool),∀wv,J x4 wv→
 R (.bool x4) wv
def xM:Ann:=(.node none .leaf (.node none (.node (some ⟨[(4,.one (.bool))],[4,5,6,7,8,9,10,11,12,13,14]⟩) .leaf .leaf) .leaf))
theorem DIsSpace_eq(d:Option Addr)(ak:Int)(R:aD)(w:World):oD d ak R w=vcF prog aP [] Tryz.f116 xM [(.pointer d),(.int .i64 ak)] R none w:=by kernel_rfl
theorem rh(d:Option Addr)(ak:Int) {R:aD} {w:World}(h:oD d ak R w):Calls prog 116 #[(.pointer d),(.int .i64 ak)] w fun e w'=>∃v,e= .returned v∧R v w':=
 aj Tryz.func116 aw aa ((DIsSpace_eq d ak R w).mp h)
def xH(d:Option Addr)(space:Int)(more:Int)(R:aD)(w:World):Prop:=
 Calls prog 58 #[(.pointer d),(.int .i64 space)] w fun e wv=>
 ∃NZ:Int,∃NY:Int,∃RL:Int,∃RK:Int,∃RJ:Bool,e= .returned (.agg #[(.int .i64 NZ),(.int .i64 NY),(.int .i64 RL),(.int .i64 RK),(.bool RJ)])∧
 ∀(gv:Nat)(Jb:World),gv=wv.heap.size→Jb=wv.alloc (.cells (#[(.int .i64 0),(.int .i64 0),(.int .i64 0),(.int .i64 0),(.bool false)]) 50)→
 aG Jb (Addr.mk gv 0 none) [(.int .i64 NZ),(.int .i64 NY),(.int .i64 RL),(.int .i64 RK),(.bool RJ)] fun Jc=>
 ∃Lj:Int,Jc.cell? ((Addr.mk gv 0 none).add 2)=some (.int .i64 Lj)∧
 aG Jc ((Addr.mk gv 0 none).add 2) [(.int .i64 (i64.wrap (Lj+more)))] fun Ji=>
 ∃TC:Int,∃Pe:Int,∃TB:Int,∃TA:Int,∃Tz:Bool,(Ji.cell? ((Addr.mk gv 0 none).add 0)=some (.int .i64 TC)∧Ji.cell? ((Addr.mk gv 0 none).add 1)=some (.int .i64 Pe)∧Ji.cell? ((Addr.mk gv 0 none).add 2)=some (.int .i64 TB)∧Ji.cell? ((Addr.mk gv 0 none).add 3)=some (.int .i64 TA)∧Ji.cell? ((Addr.mk gv 0 none).add 4)=some (.bool Tz))∧
 Calls prog 115 #[(.pointer d),(.int .i64 space),(.agg #[(.int .i64 TC),(.int .i64 Pe),(.int .i64 TB),(.int .i64 TA),(.bool Tz)])] Ji fun e Jq=>
 e= .returned (.tuple #[])∧
 R (.tuple #[]) Jq
def EH:Ann:= .leaf
theorem DRefs_eq(d:Option Addr)(space:Int)(more:Int)(R:aD)(w:World):xH d space more R w=vcF prog aP [] Tryz.f117 EH [(.pointer d),(.int .i64 space),(.int .i64 more)] R none w:=by kernel_rfl
theorem xI(d:Option Addr)(space:Int)(more:Int) {R:aD} {w:World}(h:xH d space more R w):Calls prog 117 #[(.pointer d),(.int .i64 space),(.int .i64 more)] w fun e w'=>∃v,e= .returned v∧R v w':=
 aj Tryz.func117 aw aa ((DRefs_eq d space more R w).mp h)
def xE(d:Option Addr)(ak:Int)(t:Int)(space:Int)(R:aD)(w:World):Prop:=
 Calls prog 57 #[(.pointer d),(.int .i64 ak)] w fun e wv=>
 ∃K6:Bool,e= .returned (.bool K6)∧
 ∀x9:Bool,x9=(!K6)→
 split x9 (
  R (.int .i64 5) wv) (
  ∃J:Bool→World→Prop,(
   split ((t:Int) !=2) (
    Calls prog 128 #[(.int .i64 t)] wv fun e Jb=>
    ∃Kl:Bool,e= .returned (.bool Kl)∧
    ∀Li:Bool,Li=(!Kl)→
    J Li Jb) (
    ∀Li:Bool,Li=false→
    J Li wv))∧∀(L5:Nat→Value)(Li:Bool),∀Jb,J Li Jb→
  split Li (
   R (.int .i64 124) Jb) (
   ∃J1:Bool→World→Prop,(
    Calls prog 116 #[(.pointer d),(.int .i64 space)] Jb fun e Jc=>
    ∃LY:Bool,e= .returned (.bool LY)∧
    split (!LY) (
     ∀Kw:Bool,Kw=true→
     J1 Kw Jc) (
     Calls prog 58 #[(.pointer d),(.int .i64 space)] Jc fun e Ji=>
     ∃VY:Int,∃VX:Int,∃Tm:Int,∃VW:Int,∃VV:Bool,e= .returned (.agg #[(.int .i64 VY),(.int .i64 VX),(.int .i64 Tm),(.int .i64 VW),(.bool VV)])∧
     ∀Kw:Bool,Kw=(decide ((Tm:Int)≥63))→
     J1 Kw Ji))∧∀(Ka:Nat→Value)(Kw:Bool),∀Jc,J1 Kw Jc→
   split Kw (
    R (.int .i64 122) Jc) (
    Calls prog 58 #[(.pointer d),(.int .i64 ak)] Jc fun e Ji=>
    ∃S7:Int,∃VO:Int,∃VN:Int,∃VM:Int,∃VL:Bool,e= .returned (.agg #[(.int .i64 S7),(.int .i64 VO),(.int .i64 VN),(.int .i64 VM),(.bool VL)])∧
    ∀x34:Bool,x34=((S7:Int) !=0)→
    split x34 (
     R (.int .i64 120) Ji) (
     Calls prog 115 #[(.pointer d),(.int .i64 ak),(.agg #[(.int .i64 t),(.int .i64 space),(.int .i64 0),(.int .i64 0),(.bool false)])] Ji fun e Jq=>
     e= .returned (.tuple #[])∧
     Calls prog 117 #[(.pointer d),(.int .i64 space),(.int .i64 1)] Jq fun e JP=>
     e= .returned (.tuple #[])∧
     R (.int .i64 0) JP))))
def EG:Ann:=(.node none .leaf (.node none (.node none (.node none .leaf (.node none .leaf (.node none (.node (some ⟨[(14,.one (.bool))],[14,15,16,17,18,19,20,21]⟩) .leaf .leaf) (.node none .leaf (.node none (.node (some ⟨[(22,.one (.bool))],[22,23,24,25,26,27,28,29,30,31,32,33]⟩) .leaf .leaf) .leaf))))) .leaf) .leaf))
theorem DTake_eq(d:Option Addr)(ak:Int)(t:Int)(space:Int)(R:aD)(w:World):xE d ak t space R w=vcF prog aP [9,14,22,34] Tryz.f64 EG [(.pointer d),(.int .i64 ak),(.int .i64 t),(.int .i64 space)] R none w:=by kernel_rfl
theorem xF(d:Option Addr)(ak:Int)(t:Int)(space:Int) {R:aD} {w:World}(h:xE d ak t space R w):Calls prog 64 #[(.pointer d),(.int .i64 ak),(.int .i64 t),(.int .i64 space)] w fun e w'=>∃v,e= .returned v∧R v w':=
 aj Tryz.func64 aw aa ((DTake_eq d ak t space R w).mp h)
def np(d:Option Addr)(space:Int)(s:Int)(R:aD)(w:World):Prop:=
 Calls prog 57 #[(.pointer d),(.int .i64 space)] w fun e wv=>
 ∃Kb:Bool,e= .returned (.bool Kb)∧
 split (!Kb) (
  R (.int .i64 5) wv) (
  Calls prog 58 #[(.pointer d),(.int .i64 space)] wv fun e Jb=>
  ∃Mw:Int,∃Ma:Int,∃Oi:Int,∃Oh:Int,∃Og:Bool,e= .returned (.agg #[(.int .i64 Mw),(.int .i64 Ma),(.int .i64 Oi),(.int .i64 Oh),(.bool Og)])∧
  ∀(gv:Nat)(Jc:World),gv=Jb.heap.size→Jc=Jb.alloc (.cells (#[(.int .i64 0),(.int .i64 0),(.int .i64 0),(.int .i64 0),(.bool false)]) 50)→
  aG Jc (Addr.mk gv 0 none) [(.int .i64 Mw),(.int .i64 Ma),(.int .i64 Oi),(.int .i64 Oh),(.bool Og)] fun Ji=>
  ∃Ld:Int,Ji.cell? ((Addr.mk gv 0 none).add 0)=some (.int .i64 Ld)∧
  ∀Mv:Bool,Mv=((Ld:Int) !=1)→
  split Mv (
   R (.int .i64 124) Ji) (
   ∃J:Bool→World→Prop,(
    split ((s:Int) !=3) (
     ∃MP:Int,Ji.cell? ((Addr.mk gv 0 none).add 3)=some (.int .i64 MP)∧
     split ((MP:Int) !=1) (
      ∀Kl:Bool,Kl=true→
      J Kl Ji) (
      ∀Kl:Bool,Kl=((s:Int) !=2)→
      J Kl Ji)) (
     ∀Kl:Bool,Kl=false→
     J Kl Ji))∧∀(Ka:Nat→Value)(Kl:Bool),∀Jq,J Kl Jq→
   split Kl (
    R (.int .i64 3) Jq) (
    aG Jq ((Addr.mk gv 0 none).add 3) [(.int .i64 s)] fun JP=>
    ∃Tg:Int,∃Tf:Int,∃Te:Int,∃Td:Int,∃Tc:Bool,(JP.cell? ((Addr.mk gv 0 none).add 0)=some (.int .i64 Tg)∧JP.cell? ((Addr.mk gv 0 none).add 1)=some (.int .i64 Tf)∧JP.cell? ((Addr.mk gv 0 none).add 2)=some (.int .i64 Te)∧JP.cell? ((Addr.mk gv 0 none).add 3)=some (.int .i64 Td)∧JP.cell? ((Addr.mk gv 0 none).add 4)=some (.bool Tc))∧
    Calls prog 115 #[(.pointer d),(.int .i64 space),(.agg #[(.int .i64 Tg),(.int .i64 Tf),(.int .i64 Te),(.int .i64 Td),(.bool Tc)])] JP fun e J0=>
    e= .returned (.tuple #[])∧
    R (.int .i64 0) J0)))
def uI:Ann:=(.node none .leaf (.node none .leaf (.node none .leaf (.node none (.node none (.node none .leaf (.node none .leaf (.node none (.node (some ⟨[(19,.one (.bool))],[19,20,21,22,23,24,25,26,27,28,29,30]⟩) .leaf .leaf) .leaf))) .leaf) .leaf))))
theorem DSetState_eq(d:Option Addr)(space:Int)(s:Int)(R:aD)(w:World):np d space s R w=vcF prog aP [15,19] Tryz.f43 uI [(.pointer d),(.int .i64 space),(.int .i64 s)] R none w:=by kernel_rfl
theorem oL(d:Option Addr)(space:Int)(s:Int) {R:aD} {w:World}(h:np d space s R w):Calls prog 43 #[(.pointer d),(.int .i64 space),(.int .i64 s)] w fun e w'=>∃v,e= .returned v∧R v w':=
 aj Tryz.func43 aw aa ((DSetState_eq d space s R w).mp h)
def xO(d:Option Addr)(ak:Int)(R:aD)(w:World):Prop:=
 Calls prog 57 #[(.pointer d),(.int .i64 ak)] w fun e wv=>
 ∃x8:Bool,e= .returned (.bool x8)∧
 split (!x8) (
  R (.int .i64 5) wv) (
  Calls prog 58 #[(.pointer d),(.int .i64 ak)] wv fun e Jb=>
  ∃Mx:Int,∃Mb:Int,∃T6:Int,∃T5:Int,∃T4:Bool,e= .returned (.agg #[(.int .i64 Mx),(.int .i64 Mb),(.int .i64 T6),(.int .i64 T5),(.bool T4)])∧
  ∀(gv:Nat)(Jc:World),gv=Jb.heap.size→Jc=Jb.alloc (.cells (#[(.int .i64 0),(.int .i64 0),(.int .i64 0),(.int .i64 0),(.bool false)]) 50)→
  aG Jc (Addr.mk gv 0 none) [(.int .i64 Mx),(.int .i64 Mb),(.int .i64 T6),(.int .i64 T5),(.bool T4)] fun Ji=>
  ∃Mv:Int,Ji.cell? ((Addr.mk gv 0 none).add 0)=some (.int .i64 Mv)∧
  ∀KJ:Bool,KJ=((Mv:Int)==0)→
  split KJ (
   R (.int .i64 121) Ji) (
   ∃J:Bool→World→Prop,(
    ∃Kl:Int,Ji.cell? ((Addr.mk gv 0 none).add 0)=some (.int .i64 Kl)∧
    split ((Kl:Int)==1) (
     ∃Mu:Int,Ji.cell? ((Addr.mk gv 0 none).add 2)=some (.int .i64 Mu)∧
     ∀Ld:Bool,Ld=(decide ((Mu:Int)>0))→
     J Ld Ji) (
     ∀Ld:Bool,Ld=false→
     J Ld Ji))∧∀(Ka:Nat→Value)(Ld:Bool),∀Jq,J Ld Jq→
   split Ld (
    R (.int .i64 123) Jq) (
    Calls prog 115 #[(.pointer d),(.int .i64 ak),(.agg #[(.int .i64 0),(.int .i64 0),(.int .i64 0),(.int .i64 0),(.bool false)])] Jq fun e JP=>
    e= .returned (.tuple #[])∧
    ∃J1:Bool→World→Prop,(
     ∃PI:Int,JP.cell? ((Addr.mk gv 0 none).add 0)=some (.int .i64 PI)∧
     split ((PI:Int) !=1) (
      ∃Ta:Int,JP.cell? ((Addr.mk gv 0 none).add 1)=some (.int .i64 Ta)∧
      Calls prog 116 #[(.pointer d),(.int .i64 Ta)] JP fun e J0=>
      ∃S9:Bool,e= .returned (.bool S9)∧
      split S9 (
       ∃Nk:Int,J0.cell? ((Addr.mk gv 0 none).add 1)=some (.int .i64 Nk)∧
       Calls prog 58 #[(.pointer d),(.int .i64 Nk)] J0 fun e JU=>
       ∃VK:Int,∃VJ:Int,∃SG:Int,∃VI:Int,∃VH:Bool,e= .returned (.agg #[(.int .i64 VK),(.int .i64 VJ),(.int .i64 SG),(.int .i64 VI),(.bool VH)])∧
       J1 (decide ((SG:Int)>0)) JU) (
       J1 false J0)) (
      J1 false JP))∧∀(J8:Nat→Value)(SF:Bool),∀J0,J1 SF J0→
    split SF (
     ∃x49:Int,J0.cell? ((Addr.mk gv 0 none).add 1)=some (.int .i64 x49)∧
     Calls prog 117 #[(.pointer d),(.int .i64 x49),(.int .i64 (-1))] J0 fun e JU=>
     e= .returned (.tuple #[])∧
     ∃b:Nat→Nat→Prop,
     ar d fun PV=>
     b 3 ((PV.add 0).block)∧
     ∃Mq:Option Addr,JU.drew.cell? (PV.add 0)=some (.pointer Mq)∧
     Calls prog 78 #[(.int .i64 ak)] JU.drew fun e JN=>
     ∃Mo:Bool,∃Mn:Int,e= .returned (.agg #[(.bool Mo),(.int .i64 Mn)])∧
     Kept (bM b [0,1,2,3]) JU.drew JN∧∃b1:Nat→Nat→Prop,(∀i k,b i k→b1 i k)∧
     Calls prog 77 #[(.pointer Mq),(.agg #[(.bool Mo),(.int .i64 Mn)])] JN fun e K7=>
     ∃R0:Int,e= .returned (.int .i64 R0)∧
     Kept (bM b1 [0]) JN K7∧∃b2:Nat→Nat→Prop,(∀i k,b1 i k→b2 i k)∧
     R (.int .i64 R0) K7) (
     ∃b:Nat→Nat→Prop,
     ar d fun PV=>
     b 3 ((PV.add 0).block)∧
     ∃Mq:Option Addr,J0.drew.cell? (PV.add 0)=some (.pointer Mq)∧
     Calls prog 78 #[(.int .i64 ak)] J0.drew fun e JU=>
     ∃Mo:Bool,∃Mn:Int,e= .returned (.agg #[(.bool Mo),(.int .i64 Mn)])∧
     Kept (bM b [0,1,2,3]) J0.drew JU∧∃b1:Nat→Nat→Prop,(∀i k,b i k→b1 i k)∧
     Calls prog 77 #[(.pointer Mq),(.agg #[(.bool Mo),(.int .i64 Mn)])] JU fun e JN=>
     ∃R0:Int,e= .returned (.int .i64 R0)∧
     Kept (bM b1 [0]) JU JN∧∃b2:Nat→Nat→Prop,(∀i k,b1 i k→b2 i k)∧
     R (.int .i64 R0) JN))))
def EK:Ann:=(.node none .leaf (.node none .leaf (.node none .leaf (.node none (.node none (.node none .leaf (.node none .leaf (.node none (.node (some ⟨[(17,.one (.bool))],[17,18,19,20,21,22,23,24,25]⟩) .leaf .leaf) .leaf))) .leaf) (.node none .leaf (.node none (.node none (.node (some ⟨[(46,.one (.bool))],[30,31,32,33,34,35,36,37,38,39,40,41,42,43,44,45,46]⟩) .leaf .leaf) .leaf) .leaf))))))
theorem DGive_eq(d:Option Addr)(ak:Int)(R:aD)(w:World):xO d ak R w=vcF prog aP [13,17] Tryz.f45 EK [(.pointer d),(.int .i64 ak)] R none w:=by kernel_rfl
theorem xP(d:Option Addr)(ak:Int) {R:aD} {w:World}(h:xO d ak R w):Calls prog 45 #[(.pointer d),(.int .i64 ak)] w fun e w'=>∃v,e= .returned v∧R v w':=
 aj Tryz.func45 aw aa ((DGive_eq d ak R w).mp h)
def lF(d:Option Addr)(space:Int)(first:Int)(R:aD)(w:World):Prop:=
 ∃J:Bool→World→Prop,(
  Calls prog 57 #[(.pointer d),(.int .i64 space)] w fun e wv=>
  ∃Kb:Bool,e= .returned (.bool Kb)∧
  split (!Kb) (
   ∀x7:Bool,x7=true→
   J x7 wv) (
   Calls prog 57 #[(.pointer d),(.int .i64 first)] wv fun e Jb=>
   ∃Mv:Bool,e= .returned (.bool Mv)∧
   ∀x7:Bool,x7=(!Mv)→
   J x7 Jb))∧∀(L5:Nat→Value)(x7:Bool),∀wv,J x7 wv→
 split x7 (
  R (.int .i64 5) wv) (
  ∀NO:Bool,NO=((space:Int)==first)→
  split NO (
   R (.int .i64 1) wv) (
   ∃J1:Bool→World→Prop,(
    Calls prog 58 #[(.pointer d),(.int .i64 space)] wv fun e Jb=>
    ∃N4:Int,∃Pc:Int,∃Pb:Int,∃Pa:Int,∃O9:Bool,e= .returned (.agg #[(.int .i64 N4),(.int .i64 Pc),(.int .i64 Pb),(.int .i64 Pa),(.bool O9)])∧
    split ((N4:Int) !=0) (
     ∀Kw:Bool,Kw=true→
     J1 Kw Jb) (
     Calls prog 58 #[(.pointer d),(.int .i64 first)] Jb fun e Jc=>
     ∃Tl:Int,∃VU:Int,∃VT:Int,∃VS:Int,∃VR:Bool,e= .returned (.agg #[(.int .i64 Tl),(.int .i64 VU),(.int .i64 VT),(.int .i64 VS),(.bool VR)])∧
     ∀Kw:Bool,Kw=((Tl:Int) !=0)→
     J1 Kw Jc))∧∀(Ka:Nat→Value)(Kw:Bool),∀Jb,J1 Kw Jb→
   split Kw (
    R (.int .i64 120) Jb) (
    ar d fun p37=>
    ∃PH:Int,Jb.cell? (p37.add 1)=some (.int .i64 PH)∧
    ∀x35:Bool,x35=(decide ((PH:Int)≥64))→
    split x35 (
     R (.int .i64 240) Jb) (
     Calls prog 115 #[(.pointer d),(.int .i64 space),(.agg #[(.int .i64 1),(.int .i64 space),(.int .i64 1),(.int .i64 1),(.bool false)])] Jb fun e Jc=>
     e= .returned (.tuple #[])∧
     Calls prog 115 #[(.pointer d),(.int .i64 first),(.agg #[(.int .i64 3),(.int .i64 space),(.int .i64 0),(.int .i64 0),(.bool false)])] Jc fun e Ji=>
     e= .returned (.tuple #[])∧
     ∃b:Nat→Nat→Prop,
     ar d fun PV=>
     b 3 ((PV.add 0).block)∧
     ∃Mq:Option Addr,Ji.drew.cell? (PV.add 0)=some (.pointer Mq)∧
     Calls prog 78 #[(.int .i64 space)] Ji.drew fun e Jq=>
     ∃Mo:Bool,∃Mn:Int,e= .returned (.agg #[(.bool Mo),(.int .i64 Mn)])∧
     Kept (bM b [0,1,2,3,6,7]) Ji.drew Jq∧∃b1:Nat→Nat→Prop,(∀i k,b i k→b1 i k)∧
     Calls prog 42 #[(.pointer Mq),(.agg #[(.bool Mo),(.int .i64 Mn)]),(.int .i64 0),(.int .u32 (u32.wrap first))] Jq fun e JP=>
     ∃x59:Int,e= .returned (.int .i64 x59)∧
     Kept (bM b1 [0]) Jq JP∧∃b2:Nat→Nat→Prop,(∀i k,b1 i k→b2 i k)∧
     ∃b3:Nat→Nat→Prop,
     ar d fun p61=>
     b3 3 ((p61.add 0).block)∧
     ∃x63:Option Addr,JP.drew.cell? (p61.add 0)=some (.pointer x63)∧
     ar d fun p67=>
     b3 9 ((p67.add 1).block)∧
     ∃RQ:Int,JP.drew.cell? (p67.add 1)=some (.int .i64 RQ)∧
     Calls prog 78 #[(.int .i64 space)] JP.drew fun e J0=>
     ∃RW:Bool,∃RV:Int,e= .returned (.agg #[(.bool RW),(.int .i64 RV)])∧
     Kept (bM b3 [0,1,2,3,6,7,8,9,10]) JP.drew J0∧∃b4:Nat→Nat→Prop,(∀i k,b3 i k→b4 i k)∧
     Calls prog 42 #[(.pointer x63),(.agg #[(.bool RW),(.int .i64 RV)]),(.int .i64 1),(.int .u32 (u32.wrap RQ))] J0 fun e JU=>
     ∃Nu:Int,e= .returned (.int .i64 Nu)∧
     Kept (bM b4 [0,6,7]) J0 JU∧∃b5:Nat→Nat→Prop,(∀i k,b4 i k→b5 i k)∧
     ∃b6:Nat→Nat→Prop,
     ar d fun p73=>
     b6 3 ((p73.add 0).block)∧
     ∃x75:Option Addr,JU.drew.cell? (p73.add 0)=some (.pointer x75)∧
     Calls prog 78 #[(.int .i64 space)] JU.drew fun e JN=>
     ∃RO:Bool,∃RN:Int,e= .returned (.agg #[(.bool RO),(.int .i64 RN)])∧
     Kept (bM b6 [0,1,2,3]) JU.drew JN∧∃b7:Nat→Nat→Prop,(∀i k,b6 i k→b7 i k)∧
     Calls prog 42 #[(.pointer x75),(.agg #[(.bool RO),(.int .i64 RN)]),(.int .i64 2),(.int .u32 0)] JN fun e K7=>
     ∃x78:Int,e= .returned (.int .i64 x78)∧
     Kept (bM b7 [0]) JN K7∧∃b8:Nat→Nat→Prop,(∀i k,b7 i k→b8 i k)∧
     ar d fun p80=>
     ∃RM:Int,K7.cell? (p80.add 1)=some (.int .i64 RM)∧
     ar d fun p84=>
     aG K7 (p84.add 1) [(.int .i64 (i64.wrap (RM+1)))] fun MY=>
     R (.int .i64 0) MY))))
def rJ:Ann:=(.node none .leaf (.node none (.node none (.node none (.node (some ⟨[(7,.one (.bool))],[7,8,9,10,11,12,13,14,15,16,17]⟩) .leaf .leaf) (.node none .leaf (.node none .leaf (.node none .leaf (.node none (.node (some ⟨[(22,.one (.bool))],[22,23,24,25,26,27,28,29,30,31,32,33,34]⟩) .leaf .leaf) .leaf))))) .leaf) .leaf))
theorem DTakeSpace_eq(d:Option Addr)(space:Int)(first:Int)(R:aD)(w:World):lF d space first R w=vcF prog aP [7,18,22,35] Tryz.f60 rJ [(.pointer d),(.int .i64 space),(.int .i64 first)] R none w:=by kernel_rfl
theorem n5(d:Option Addr)(space:Int)(first:Int) {R:aD} {w:World}(h:lF d space first R w):Calls prog 60 #[(.pointer d),(.int .i64 space),(.int .i64 first)] w fun e w'=>∃v,e= .returned v∧R v w':=
 aj Tryz.func60 aw aa ((DTakeSpace_eq d space first R w).mp h)
end
section
set_option maxRecDepth 100000
end
end Go.Proofs.YtinhphjfnedhgaaGreatDoor
namespace Go.Proofs.YtinhphjfnedhgaaGreatDoor
open Go.Proofs.Tryz (prog)
open Go Go.RowKit V
open Go.IntKind (i64 u32 u64)
section
namespace Mem
def idx(m:Mem)(s:Bool)(p:Nat):Nat:=match s with
 | true=>p
 | false=>m.S+p
def word(m:Mem)(i o:Nat):Int:=if i<m.S then m.pg true i o else m.pg false (i - m.S) o
theorem Dt(m:Mem)(p:Nat):m.idx false p=m.S+p:=rfl
theorem Ds(m:Mem)(p:Nat):m.idx true p=p:=rfl
theorem Iu(m:Mem):m.cnt false=m.I:=rfl
theorem GA(m:Mem):m.cnt true=m.S:=rfl
theorem zB(m:Mem) {i:Nat}(h:i<m.S)(o:Nat):m.word i o=m.pg true i o:=if_pos h
theorem zC(m:Mem) {i:Nat}(h:¬i<m.S)(o:Nat):m.word i o=m.pg false (i - m.S) o:=if_neg h
theorem G9(m:Mem) {s:Bool} {p:Nat}(hp:p<m.cnt s):m.idx s p<m.S+m.I:=by
 cases s
 ·rw [Iu]at hp;rw [Dt];omega
 ·rw [GA]at hp;rw [Ds];omega
theorem rT(m:Mem) {s:Bool} {p:Nat}(hp:p<m.cnt s)(f:Nat→Int) {i:Nat}(o:Nat):(m.fill s p f).word i o=if i=m.idx s p then f o else m.word i o:=by
 by_cases h:i<m.S
 ·rw [zB _ (show i<(m.fill s p f).S from h),zB m h]
  cases s
  ·rw [Dt,if_neg (by omega)];simp [fill]
  ·rw [Ds];simp [fill]
 ·rw [zC _ (show ¬i<(m.fill s p f).S from h),zC m h]
  show(m.fill s p f).pg false (i - m.S) o=_
  cases s
  ·rw [Dt]
   by_cases h2:i=m.S+p
   ·rw [if_pos h2];simp [fill,h2]
   ·rw [if_neg h2];simp only [fill];rw [if_neg (by rintro⟨_,h3⟩;omega)]
  ·rw [Ds,if_neg (by rw [GA]at hp;omega)];simp [fill]
end Mem
structure jN where
 g:Nat
 a:Nat
 c:Nat
 n:Nat
 pg:Nat→Option (Nat×Nat)
def HT:Option (Nat×Nat)→Value
 | none=>.slice none 0 0
 | some (b,c)=>.slice (some (Addr.mk b 0 none)) 1024 c
def jN.X(L:jN):Nat→Prop:=fun k=>k=L.g∨k=L.a∨∃i c,i<L.n∧L.pg i=some (k,c)
def PgB(w:World)(b:Nat)(f:Nat→Int):Prop:=∃T cs,Blk w b cs T∧1024≤cs.size∧∀o,o<1024→cs[o]? =some (.int .u32 (f o))
structure fD(w:World)(g:Nat)(L:jN)(m:Mem):Prop where
 gq:L.g=g
 n:L.n=m.S+m.I
 hd:∃T:TypeId×Int,Blk w L.g #[.slice (some (Addr.mk L.a 0 none)) L.n L.c,.int .i64 m.S,.int .i64 T.2] T.1
 row:∃T cs,Blk w L.a cs T∧L.n≤cs.size∧∀i,i<L.n→cs[i]? =some (HT (L.pg i))
 nil:∀i,i<L.n→L.pg i=none→∀o,m.word i o=0
 pgs:∀i b c,i<L.n→L.pg i=some (b,c)→PgB w b (m.word i)
 inj:∀i j b c c',i<L.n→j<L.n→L.pg i=some (b,c)→L.pg j=some (b,c')→i=j
 dis:L.a≠L.g∧∀i b c,i<L.n→L.pg i=some (b,c)→b≠L.g∧b≠L.a
 u32:∀s i o,0≤m.pg s i o∧m.pg s i o<4294967296
 dz:m.S≤64∧m.I≤64
section
variable {w w' w2:World} {g:Nat} {L:jN} {m:Mem} {Y:Nat→Prop}
theorem PgB.lt {b:Nat} {f:Nat→Int}(h:PgB w b f):b<w.heap.size:=by obtain⟨T,cs,hb,_⟩:=h;exact hb.lt
theorem PgB.ch {b:Nat} {f:Nat→Int}(h:PgB w b f)(hk:Ch Y w w')(hb:¬Y b):PgB w' b f:=by obtain⟨T,cs,hc,h2⟩:=h;exact⟨T,cs,hk.blk hc hb,h2⟩
theorem fD.lt(h:fD w g L m):∀k,L.X k→k<w.heap.size:=by
 rintro k (rfl | rfl | ⟨i,c,hi,hp⟩)
 ·obtain⟨T,hd⟩:=h.hd;exact hd.lt
 ·obtain⟨T,cs,hr,_⟩:=h.row;exact hr.lt
 ·exact(h.pgs i k c hi hp).lt
theorem fD.ch(h:fD w g L m)(hk:Ch Y w w')(hb:∀k,L.X k→¬Y k):fD w' g L m:=by
 refine⟨h.gq,h.n,?_,?_,h.nil,fun i b c hi hp=>(h.pgs i b c hi hp).ch hk (hb _ (.inr (.inr ⟨i,c,hi,hp⟩))),h.inj,h.dis,h.u32,h.dz⟩
 ·obtain⟨T,hd⟩:=h.hd;exact⟨T,hk.blk hd (hb _ (.inl rfl))⟩
 ·obtain⟨T,cs,hr,h2⟩:=h.row;exact⟨T,cs,hk.blk hr (hb _ (.inr (.inl rfl))),h2⟩
theorem fD.pu(h:fD w g L m)(hk:Pu w w'):fD w' g L m:=h.ch hk (by simp)
theorem fD.tick(h:fD w g L m) {x:Int} {T:TypeId}(hs:bz w L.g #[.slice (some (Addr.mk L.a 0 none)) L.n L.c,.int .i64 m.S,.int .i64 x] T w2):fD w2 g L m:=by
 refine⟨h.gq,h.n,⟨(T,x),hs.blk⟩,?_,h.nil,fun i b c hi hp=>(h.pgs i b c hi hp).ch hs.ch (h.dis.2 i b c hi hp).1,h.inj,h.dis,h.u32,h.dz⟩
 obtain⟨T',cs,hr,h2⟩:=h.row
 exact⟨T',cs,hs.old hr h.dis.1,h2⟩
def jN.put(L:jN)(i:Nat)(v:Option (Nat×Nat)):jN:= {L with pg:=fun j=>if j=i then v else L.pg j}
theorem fD.lay(h:fD w g L m) {s:Bool} {p:Nat}(hp:p<m.cnt s) {v:Option (Nat×Nat)} {f:Nat→Int}(hf:∀o,0≤f o∧f o<4294967296)
 (hv:v=none→∀o,f o=0)(hb:∀b c,v=some (b,c)→PgB w b f∧¬L.X b) {cs:Array Value} {T:TypeId}(hr:Blk w L.a cs T)(hs:bz w L.a (setAt cs (m.idx s p) [HT v]) T w2):
 fD w2 g (L.put (m.idx s p) v) (m.fill s p f):=by
 have hi:=m.G9 hp
 obtain⟨T',cs',Jv,JR,h2⟩:=h.row
 obtain⟨rfl,rfl⟩:=hr.inj Jv
 have hn:=h.n
 refine⟨h.gq,h.n,?_,⟨T,_,hs.blk,by rw [fF];exact JR,fun i JY=>?_⟩,fun i JY hq o=>?_,fun i b c JY hq=>?_,fun i j b c c' JY MD h3 h4=>?_,⟨h.dis.1,fun i b c JY hq=>?_⟩,fun s' i o=>?_,h.dz⟩
 ·obtain⟨T'',hd⟩:=h.hd;exact⟨T'',hs.old hd h.dis.1.symm⟩
 ·rw [eS _ _ _ _ (by simp;omega)]
  simp only [jN.put,List.length_cons,List.length_nil]
  by_cases e:i=m.idx s p
  ·subst e;simp
  ·rw [if_neg (by omega),if_neg e];exact h2 i JY
 ·rw [m.rT hp]
  simp only [jN.put]at hq
  split at hq
  ·rename_i e;rw [if_pos e];exact hv hq o
  ·rename_i e;rw [if_neg e];exact h.nil i JY hq o
 ·have e0:(m.fill s p f).word i=if i=m.idx s p then f else m.word i:=by
   funext o;rw [m.rT hp];split<;>rfl
  rw [e0]
  simp only [jN.put]at hq
  split at hq
  ·rename_i e;rw [if_pos e];exact(hb b c hq).1.ch hs.ch fun e2=>(hb b c hq).2 (.inr (.inl e2))
  ·rename_i e;rw [if_neg e];exact(h.pgs i b c JY hq).ch hs.ch (h.dis.2 i b c JY hq).2
 ·simp only [jN.put]at h3 h4
  split at h3<;>split at h4
  ·omega
  ·exact absurd (.inr (.inr ⟨j,c',MD,h4⟩)) (hb b c h3).2
  ·exact absurd (.inr (.inr ⟨i,c,JY,h3⟩)) (hb b c' h4).2
  ·exact h.inj i j b c c' JY MD h3 h4
 ·simp only [jN.put]at hq
  split at hq
  ·have:=(hb b c hq).2
   exact⟨fun e=>this (.inl e),fun e=>this (.inr (.inl e))⟩
  ·exact h.dis.2 i b c JY hq
 ·simp only [Mem.fill]
  split
  ·exact hf o
  ·exact h.u32 s' i o
end
end
section
set_option maxRecDepth 10000
set_option maxHeartbeats 1000000
end
section
section
variable {w:World} {g:Nat} {L:jN} {m:Mem}
def IF(L L1:jN)(w:World):Prop:=∀k,L1.X k→L.X k∨w.heap.size≤k
theorem IF.refl(L:jN)(w:World):IF L L w:=fun _ h=>.inl h
end
end
end Go.Proofs.YtinhphjfnedhgaaGreatDoor
namespace Go.Proofs.YtinhphjfnedhgaaGreatDoor
open Go.Proofs.Tryz (prog)
open Go Go.RowKit V
open Go.IntKind (i64 u32 u64)
open Enc (enc)
section
instance:Enc Ent:=⟨fun e=>[.int .i64 e.typ,.int .i64 e.owner,.int .i64 e.refs,.int .i64 e.state,.bool e.bS],5,fun _=>rfl,by simp [Value.oneCell'],by omega⟩
structure qL where
 g:Nat
 e:Nat
 c:Nat
 M:jN
def qL.X(L:qL):Nat→Prop:=fun k=>k=L.g∨k=L.e∨L.M.X k
abbrev DB.jh(D:DB):List Ent:=(List.range D.S).map D.ent
structure j4(w:World)(g:Nat)(L:qL)(D:DB):Prop where
 gq:L.g=g
 hd:∃T,Blk w L.g #[.pointer (some (Addr.mk L.M.g 0 none)),.slice (some (Addr.mk L.e 0 none)) D.S L.c,.int .i64 D.aE] T
 es:Own w (fun k=>k=L.e) 96 (some (Addr.mk L.e 0 none)) D.S L.c D.jh
 mem:fD w L.M.g L.M D.mem
 ok:D.Ok
 pos:1≤D.S
 dis:L.e≠L.g∧¬L.M.X L.g∧¬L.M.X L.e
section
variable {w w' w2:World} {g:Nat} {L:qL} {D:DB} {Y:Nat→Prop}
theorem j4.hd'(h:j4 w g L D):∃T,Blk w g #[.pointer (some (Addr.mk L.M.g 0 none)),.slice (some (Addr.mk L.e 0 none)) D.S L.c,.int .i64 D.aE] T:=h.gq▸h.hd
theorem j4.lt(h:j4 w g L D):∀k,L.X k→k<w.heap.size:=by
 rintro k (rfl | rfl | hk)
 ·obtain⟨T,hd⟩:=h.hd;exact hd.lt
 ·obtain⟨g',hA,hZ,hl⟩:=h.es.lt h.pos
  have:g'=L.e:=hZ
  omega
 ·exact h.mem.lt k hk
theorem j4.ch(h:j4 w g L D)(hk:Ch Y w w')(hb:∀k,L.X k→¬Y k):j4 w' g L D:=by
 refine⟨h.gq,?_,h.es.ch hk fun k e=>hb k (.inr (.inl e)),h.mem.ch hk fun k hx=>hb k (.inr (.inr hx)),h.ok,h.pos,h.dis⟩
 obtain⟨T,hd⟩:=h.hd;exact⟨T,hk.blk hd (hb _ (.inl rfl))⟩
theorem j4.pu(h:j4 w g L D)(hk:Pu w w'):j4 w' g L D:=h.ch hk (by simp)
theorem j4.S64(h:j4 w g L D):D.S≤64:=h.mem.dz.1
theorem qL.inM(L:qL)(k:Nat)(h:L.M.X k):L.X k:= .inr (.inr h)
theorem j4.aQ(h:j4 w g L D) {m:Mem} {M:jN}(hm:fD w' L.M.g M m)(hc:Ch L.M.X w w')(hg:∀k,M.X k→L.M.X k∨w.heap.size≤k)(hs:m.S=D.mem.S):j4 w' g {L with M:=M} (D.aL m)∧(∀k,qL.X {L with M:=M} k→L.X k∨w.heap.size≤k):=by
 have hn:∀k,L.X k→¬L.M.X k→¬M.X k:=fun k hk hx hm'=>(hg k hm').elim hx fun h'=>absurd (h.lt k hk) (Nat.not_lt.2 h')
 have Lc:DB.jh (D.aL m)=D.jh:=by show List.map D.ent (List.range m.S)=List.map D.ent (List.range D.mem.S);rw [hs]
 have hS:DB.S (D.aL m)=D.S:=hs
 refine⟨⟨h.gq,?_,?_,?_,⟨fun p hp=>?_,h.ok.aE⟩,by rw [hS];exact h.pos,⟨h.dis.1,hn _ (.inl rfl) h.dis.2.1,hn _ (.inr (.inl rfl)) h.dis.2.2⟩⟩,?_⟩
 ·obtain⟨T,hd⟩:=h.hd
  refine⟨T,?_⟩
  rw [hS]
  show Blk w' L.g #[.pointer (some (Addr.mk M.g 0 none)),_,_] T
  rw [hm.gq]
  exact hc.blk hd h.dis.2.1
 ·rw [Lc,hS]
  exact h.es.ch hc fun k e=>e▸h.dis.2.2
 ·show fD w' M.g M m
  have:=hm.gq
  rw [this];exact hm
 ·rw [hS]at hp ⊢
  exact h.ok.ent p hp
 ·rintro k (hk | hk | hk)
  ·exact .inl (.inl hk)
  ·exact .inl (.inr (.inl hk))
  ·exact(hg k hk).imp (fun h=>.inr (.inr h)) id
theorem j4.AI(h:j4 w g L D) {x:Int} {T:TypeId}(hs:bz w g #[.pointer (some (Addr.mk L.M.g 0 none)),.slice (some (Addr.mk L.e 0 none)) D.S L.c,.int .i64 x] T w2)(hx:0≤x∧x≤64):j4 w2 g L (D.fU x):=by
 have hg:=h.gq
 subst hg
 exact⟨rfl,⟨T,hs.blk⟩,h.es.ch hs.ch fun k e e2=>h.dis.1 (by rw [← e,e2]),h.mem.ch hs.ch fun k hk e=>h.dis.2.1 (e▸hk),⟨h.ok.ent,hx⟩,h.pos,h.dis⟩
theorem DB.vK(D:DB) {p:Int}(e:Ent):(D.set p e).jh=D.jh.set p.toNat e:=by
 apply List.ext_getElem?
 intro i
 show((List.range D.S).map (D.set p e).ent)[i]? =_
 rw [List.getElem?_set,List.getElem?_map,List.getElem?_map]
 by_cases hi:i<D.S
 ·rw [List.getElem?_range hi]
  simp only [DB.set,Option.map_some]
  by_cases h2:p.toNat=i
  ·rw [if_pos h2.symm,if_pos h2,if_pos (by simp;omega)]
  ·rw [if_neg (fun e=>h2 e.symm),if_neg h2]
 ·rw [List.getElem?_eq_none (by simp;omega)]
  simp;omega
end
end
section
structure Fl where
 rs:List U32
 pc:Int
 z:Bool
 n:Bool
 l:Bool
namespace Fl
def Ok(s:Fl):Prop:=s.rs.length=15
def yg(s:Fl)(i:Nat)(x:U32):Fl:= {s with rs:=List.set s.rs i x}
def zero:Fl:=⟨[U32.mk 0,U32.mk 0,U32.mk 0,U32.mk 0,U32.mk 0,U32.mk 0,U32.mk 0,U32.mk 0,U32.mk 0,U32.mk 0,U32.mk 0,U32.mk 0,U32.mk 0,U32.mk 0,U32.mk 0],0,false,false,false⟩
def words(s:Fl):List Value:=aF (fun j=>.int .u32 (s.rs.getD j (U32.mk 0)).v) (upN 0 15)
def cells(s:Fl):List Value:=s.words++ [.int .u32 s.pc,.bool s.z,.bool s.n,.bool s.l]
theorem words_eq {s:Fl}(h:s.Ok):s.words=s.rs.map fun x=>.int .u32 x.v:=by
 obtain⟨rs,pc,z,n,l⟩:=s
 match rs,h with
 | [_,_,_,_,_,_,_,_,_,_,_,_,_,_,_],_=>rfl
theorem cC(s:Fl):s.words.length=15:=rfl
theorem Bm {s:Fl}(h:s.Ok) {i:Nat} {x:U32}(hx:s.rs[i]? =some x):s.cells[i]? =some (.int .u32 x.v):=by
 have hi:i<15:=by have:=(List.getElem?_eq_some_iff.1 hx).1;rw [h]at this;exact this
 rw [cells,List.getElem?_append_left (by rw [cC];exact hi),words_eq h,List.getElem?_map,hx];rfl
theorem Bk {s:Fl}(h:s.Ok) {i:Nat}(hi:i<15)(x:U32):(s.yg i x).cells=s.cells.set i (.int .u32 x.v):=by
 have h2:(s.yg i x).Ok:=by show(List.set s.rs i x).length=15;rw [List.length_set];exact h
 rw [cells,words_eq h2,cells,words_eq h,List.set_append_left _ _ (by rw [List.length_map,h];exact hi)]
 show(List.set s.rs i x).map _++_=_
 rw [List.map_set];rfl
end Fl
theorem qe {α β:Type} {f:α→β} {u:β}:∀ {l:List α},u∈aF f l→∃a,u=f a
 | a::l,h=>by
  rcases List.mem_cons.1 h with e | h
  ·exact⟨a,e⟩
  ·exact qe (l:=l) h
instance:Enc Fl:=⟨Fl.cells,19,fun _=>rfl,fun x u h=>by
 rcases List.mem_append.1 h with h | h
 ·obtain⟨a,rfl⟩:=qe h
  rfl
 ·simp only [List.mem_cons,List.not_mem_nil,or_false]at h
  rcases h with rfl | rfl | rfl | rfl<;>rfl,by omega⟩
structure FlP(w:World)(g:Nat)(s:Fl):Prop where
 len:s.Ok
 blk:∃T,Blk w g ⟨s.cells⟩ T
section
variable {w:World} {g:Nat} {s:Fl} {K:World→Prop}
theorem FlP.st(h:FlP w g s) {i:Nat} {v:Value} {s':Fl}(hi:i<19)(h2:s'.Ok)(hc:s'.cells=s.cells.set i v)(hK:∀w',FlP w' g s'→Ch (fun k=>k=g) w w'→K w'):aG w ⟨g,i,none⟩ [v] K:=by
 obtain⟨T,hb⟩:=h.blk
 exact gW hb (by show i+1≤s.cells.length;show i+1≤19;omega) fun w2 st=>hK w2 ⟨h2,T,by rw [hc];exact st.blk.cast (by rw [rX];simp)⟩ st.ch
theorem FlP.li(h:FlP w g s) {X:Nat→Prop}(hX:∀k,k=g↔X k):Rd w X (some (Addr.mk g 0 none)) s.rs.length s.rs.length s.rs:=by
 obtain⟨T,hb⟩:=h.blk
 refine⟨rfl,Nat.le_refl _,fun k hk=>by rw [(hX k).2 hk];exact hb.lt,fun i x hi=>⟨_,rfl,(hX _).1 rfl,fun j hj=>?_⟩⟩
 have hj:j=0:=by have:Enc.size U32=1:=rfl;omega
 subst hj
 rw [bG,Nat.zero_add,show Enc.size U32=1 from rfl,Nat.mul_one]
 show w.cell? ⟨g,i,none⟩=some (.int .u32 x.v)
 exact hb.cell (by simpa using Fl.Bm h.len hi)
theorem FlP.stR(h:FlP w g s) {X:Nat→Prop}(hX:∀k,k=g↔X k) {i:Nat} {x y:U32}(hx:s.rs[i]? =some x) {o:Nat} {vs:List Value}(ho:o+vs.length≤1)(hy:enc y=(enc x).take o++vs++(enc x).drop (o+vs.length))(hK:∀w',(∀k,k=g↔X k)∧FlP w' g (s.yg i y)→Ch X w w'→K w'):
 aG w (((Addr.mk g 0 none).add (i*1)).add o) vs K:=by
 have hi:i<15:=by have:=(List.getElem?_eq_some_iff.1 hx).1;rw [h.len]at this;exact this
 have hlen:(s.yg i y).Ok:=by show(List.set s.rs i y).length=15;rw [List.length_set];exact h.len
 obtain⟨T,hb⟩:=h.blk
 rw [bG,Nat.zero_add,Nat.mul_one]
 have ex:enc x= [.int .u32 x.v]:=rfl
 have ey:enc y= [.int .u32 y.v]:=rfl
 rw [ex,ey]at hy
 have JR:∀j,j≤19→j≤(⟨s.cells⟩:Array Value).size:=fun j hj=>hj
 have same:x=y→s.yg i y=s:=fun e=>by
  subst e
  have:s.rs.set i x=s.rs:=by
   apply List.ext_getElem?
   intro j
   rw [List.getElem?_set]
   split
   ·rename_i e;subst e;rw [if_pos (by rw [h.len];exact hi),hx]
   ·rfl
  unfold Fl.yg;rw [this]
 match vs,o,ho with
 | [v],0,_=>
  simp at hy
  subst hy
  exact(FlP.st h (i:=i) (by omega) hlen (Fl.Bk h.len hi y) fun w' h' q=>hK w' ⟨hX,h'⟩ (q.mono fun k hk=>(hX k).1 hk))
 | [],0,_=>
  simp at hy
  refine⟨g,i,_,T,rfl,hb,by simpa using JR i (by omega),fun w2 st=>hK w2 ⟨hX,by rw [same (by cases x;cases y;simp at hy;rw [hy])];exact⟨h.len,T,st.blk⟩⟩ (st.ch.mono fun k hk=>(hX k).1 hk)⟩
 | [],1,_=>
  simp at hy
  refine⟨g,i+1,_,T,rfl,hb,by simpa using JR (i+1) (by omega),fun w2 st=>hK w2 ⟨hX,by rw [same (by cases x;cases y;simp at hy;rw [hy])];exact⟨h.len,T,st.blk⟩⟩ (st.ch.mono fun k hk=>(hX k).1 hk)⟩
theorem FlP.all(h:FlP w g s) {s':Fl}(h2:s'.Ok)(hK:∀w',FlP w' g s'→Ch (fun k=>k=g) w w'→K w'):aG w ⟨g,0,none⟩ s'.cells K:=by
 obtain⟨T,hb⟩:=h.blk
 exact fE hb rfl fun w2 st=>hK w2 ⟨h2,T,st.blk.cast (by simp)⟩ st.ch
end
def vQ:List Value→Option Fl
 | [.int .u32 a0,.int .u32 a1,.int .u32 a2,.int .u32 a3,.int .u32 a4,.int .u32 a5,.int .u32 a6,.int .u32 a7,.int .u32 a8,.int .u32 a9,.int .u32 b0,.int .u32 b1,.int .u32 b2,.int .u32 b3,.int .u32 b4,.int .u32 pc,.bool z,.bool n,.bool l]=>
  some ⟨[⟨a0⟩,⟨a1⟩,⟨a2⟩,⟨a3⟩,⟨a4⟩,⟨a5⟩,⟨a6⟩,⟨a7⟩,⟨a8⟩,⟨a9⟩,⟨b0⟩,⟨b1⟩,⟨b2⟩,⟨b3⟩,⟨b4⟩],pc,z,n,l⟩
 | _=>none
theorem nQ {cs:List Value} {s:Fl}(h:vQ cs=some s):cs=s.cells∧s.Ok:=by
 unfold vQ at h
 split at h
 ·injection h with h
  subst h
  exact⟨rfl,rfl⟩
 ·cases h
end
section
structure Pd where
 n:Nat
 aE:Int
 ent:Nat→Ent
namespace Pd
def on(E:Pd)(m:Mem):DB:=⟨m,E.aE,E.ent⟩
def jh(E:Pd):List Ent:=(List.range E.n).map E.ent
def set(E:Pd)(i:Nat)(e:Ent):Pd:= {E with ent:=fun q=>if q=i then e else E.ent q}
def fU(E:Pd)(x:Int):Pd:= {E with aE:=x}
structure Ok(E:Pd):Prop where
 ent:∀p,p<E.n→(E.ent p).ok=true∧(E.ent p).owner<E.n
 aE:0≤E.aE∧E.aE≤64
 dz:E.n≤64
@[simp] theorem dF(E:Pd):E.jh.length=E.n:=by simp [jh]
theorem vL {E:Pd} {i:Nat}(h:i<E.n):E.jh[i]? =some (E.ent i):=by simp [jh,h]
theorem eD {E:Pd} {p:Int} {d:Ent}(h:0≤p∧p<((E.n:Nat):Int)):E.jh.getD p.toNat d=E.ent p.toNat:=by
 rw [List.getD_eq_getElem?_getD,vL (by omega)];rfl
theorem vK(E:Pd)(i:Nat)(e:Ent):(E.set i e).jh=E.jh.set i e:=by
 apply List.ext_getElem?
 intro j
 show((List.range E.n).map (E.set i e).ent)[j]? =_
 rw [List.getElem?_set,List.getElem?_map]
 by_cases hj:j<E.n
 ·rw [List.getElem?_range hj]
  simp only [Option.map_some,set,dF,vL hj]
  by_cases Kh:i=j
  ·subst Kh;simp [hj]
  ·rw [if_neg (fun h=>Kh h.symm),if_neg Kh]
 ·rw [List.getElem?_eq_none (by simp;omega),List.getElem?_eq_none (l:=E.jh) (by simp;omega)]
  simp
  intro h1
  omega
end Pd
def DB.pd(D:DB):Pd:=⟨D.S,D.aE,D.ent⟩
theorem Pd.bJ(E:Pd)(m:Mem)(h:E.n=m.S):(E.on m).pd=E:=by
 cases E;simp only [on]at *;simp [DB.pd,DB.S,← h]
theorem Pd.g6(E:Pd)(m:Mem):(E.on m).mem=m:=rfl
theorem Pd.ru(E:Pd)(m:Mem)(h:E.n=m.S):(E.on m).S=E.n:=h.symm
theorem Pd.jC(E:Pd)(m:Mem)(p:Int)(h:E.n=m.S):(E.on m).has p=decide (0≤p∧p<((E.n:Nat):Int)):=by unfold DB.has;rw [ru E m h]
theorem Pd.mB(E:Pd)(m:Mem)(p:Int):(E.on m).at_ p=E.ent p.toNat:=rfl
theorem Pd.jB(E:Pd)(m:Mem)(p:Int)(e:Ent):(E.on m).set p e=(E.set p.toNat e).on m:=rfl
theorem Pd.ki(E:Pd)(m:Mem)(f:Mem→Mem):(E.on m).aQ f=E.on (f m):=rfl
theorem Pd.yl(E:Pd)(m m':Mem):(E.on m).aL m'=E.on m':=rfl
theorem Pd.C2(E:Pd)(m:Mem)(b:Int):(E.on m).fU b=(E.fU b).on m:=rfl
theorem Pd.EV(E:Pd)(b:Int):(E.fU b).n=E.n:=rfl
theorem Pd.r9(E:Pd)(m:Mem):(E.on m).aE=E.aE:=rfl
theorem Pd.mm(E:Pd)(i:Nat)(e:Ent):(E.set i e).n=E.n:=rfl
theorem Pd.gG(E:Pd)(i j:Nat)(e:Ent):(E.set i e).ent j=if j=i then e else E.ent j:=rfl
theorem Pd.yf(E:Pd)(i:Nat)(e:Ent):(E.set i e).aE=E.aE:=rfl
structure PdP(w:World)(g a mg:Nat)(E:Pd):Prop where
 hd:∃T,Blk w g #[.pointer (some (Addr.mk mg 0 none)),.int .i64 E.aE,.slice (some (Addr.mk a 0 none)) (2*E.n) (2*E.n)] T
 ws:∃T cs,Blk w a cs T∧cs.size=2*E.n∧∀p,p<E.n→cs[2*p]? =some (.int .u32 (E.ent p).w0)∧cs[2*p+1]? =some (.int .u32 (E.ent p).w1)
 ok:E.Ok
 ne:a≠g
structure mZ(w:World)(g mg e c:Nat)(E:Pd):Prop where
 hd:∃T,Blk w g #[.pointer (some (Addr.mk mg 0 none)),.slice (some (Addr.mk e 0 none)) E.n c,.int .i64 E.aE] T
 es:Own w (fun k=>k=e) 96 (some (Addr.mk e 0 none)) E.n c E.jh
 ok:E.Ok
 ne:e≠g
 pos:1≤E.n
section
variable {w w':World} {g a mg e c:Nat} {E:Pd} {Y:Nat→Prop}
theorem PdP.ch(h:PdP w g a mg E)(q:Ch Y w w')(hg:¬Y g)(ha:¬Y a):PdP w' g a mg E:=by
 obtain⟨T,hd⟩:=h.hd
 obtain⟨T2,cs,hr,h2⟩:=h.ws
 exact⟨⟨T,q.blk hd hg⟩,⟨T2,cs,q.blk hr ha,h2⟩,h.ok,h.ne⟩
theorem mZ.ch(h:mZ w g mg e c E)(q:Ch Y w w')(hg:¬Y g)(he:¬Y e):mZ w' g mg e c E:=by
 obtain⟨T,hd⟩:=h.hd
 exact⟨⟨T,q.blk hd hg⟩,h.es.ch q fun k hk=>hk▸he,h.ok,h.ne,h.pos⟩
theorem PdP.lt(h:PdP w g a mg E):g<w.heap.size∧a<w.heap.size:=by
 obtain⟨T,hd⟩:=h.hd
 obtain⟨T2,cs,hr,h2⟩:=h.ws
 exact⟨hd.lt,hr.lt⟩
theorem mZ.lt(h:mZ w g mg e c E):g<w.heap.size∧e<w.heap.size:=by
 obtain⟨T,hd⟩:=h.hd
 obtain⟨g',hA,hZ,hl⟩:=h.es.lt h.pos
 have:g'=e:=hZ
 exact⟨hd.lt,by omega⟩
theorem PdP.db {L:dR} {m:Mem}(h:PdP w g a L.g E)(hm:bY w L m)(hn:E.n=m.S)(hx:¬L.X g∧¬L.X a):DBP w ⟨g,a,L⟩ (E.on m):=by
 have hS:(E.on m).S=E.n:=hn.symm
 refine⟨?_,?_,hm,⟨fun p hp=>?_,h.ok.aE⟩,h.ne,hx.1,hx.2⟩
 ·show ∃T,Blk w g #[_,_,.slice _ (2*m.S) (2*m.S)] T
  rw [← hn];exact h.hd
 ·show ∃T cs,Blk w a cs T∧cs.size=2*m.S∧∀p,p<m.S→_
  rw [← hn];exact h.ws
 ·rw [hS]at hp ⊢
  exact h.ok.ent p hp
theorem DBP.pd {L:fg} {D:DB}(h:DBP w L D):PdP w L.g L.a L.M.g D.pd:=⟨h.hd,h.ws,⟨h.ok.ent,h.ok.aE,h.mem.dz.1⟩,h.dis.1⟩
theorem PdP.AI(h:PdP w g a mg E) {x:Int}(hx:0≤x∧x≤64) {K:World→Prop}(hK:∀w',PdP w' g a mg (E.fU x)→Ch (fun k=>k=g) w w'→K w'):aG w ⟨g,1,none⟩ [.int .i64 x] K:=by
 obtain⟨T,hd⟩:=h.hd
 obtain⟨T2,cs,hr,h2⟩:=h.ws
 exact gW hd (by simp) fun w2 s=>hK w2 ⟨⟨T,s.blk⟩,⟨T2,cs,s.old hr h.ne,h2⟩,⟨h.ok.ent,hx,h.ok.dz⟩,h.ne⟩ s.ch
theorem mZ.AI(h:mZ w g mg e c E) {x:Int}(hx:0≤x∧x≤64) {K:World→Prop}(hK:∀w',mZ w' g mg e c (E.fU x)→Ch (fun k=>k=g) w w'→K w'):aG w ⟨g,2,none⟩ [.int .i64 x] K:=by
 obtain⟨T,hd⟩:=h.hd
 exact gW hd (by simp) fun w2 s=>hK w2 ⟨⟨T,s.blk⟩,h.es.ch s.ch fun k hk e2=>h.ne (by rw [← hk,e2]),⟨h.ok.ent,hx,h.ok.dz⟩,h.ne,h.pos⟩ s.ch
theorem mZ.GQ(h:mZ w g mg e c E) {i:Nat} {x y:Ent}(hx:E.jh[i]? =some x) {o:Nat} {vs:List Value}(ho:o+vs.length≤5)(hy:enc y=(enc x).take o++vs++(enc x).drop (o+vs.length))(Kg:y.ok=true∧y.owner<(E.n:Int)) {K:World→Prop}
 (hK:∀w',mZ w' g mg e c (E.set i y)→Ch (fun k=>k=e) w w'→K w'):aG w (((Addr.mk e 0 none).add (i*5)).add o) vs K:=by
 have hi:i<E.n:=by
  have:=(List.getElem?_eq_some_iff.1 hx).1
  simpa using this
 obtain⟨T,hd⟩:=h.hd
 refine h.es.st rfl hi hx ho hy fun w2 M6 hc=>hK w2 ⟨⟨T,hc.blk hd fun e=>h.ne e.symm⟩,by rw [Pd.vK];exact M6,⟨fun p hp=>?_,h.ok.aE,h.ok.dz⟩,h.ne,h.pos⟩ hc
 show(if p=i then y else E.ent p).ok=true∧_
 split
 ·rename_i Ru
  refine⟨Kg.1,?_⟩
  show(if p=i then y else E.ent p).owner<_
  rw [if_pos Ru];exact Kg.2
 ·rename_i Ru
  refine⟨(h.ok.ent p hp).1,?_⟩
  show(if p=i then y else E.ent p).owner<_
  rw [if_neg Ru];exact(h.ok.ent p hp).2
end
def Dg.sv(d:Dg):List Value:=aF (fun j=>.int .u32 (d.save.getD j 0)) (upN 0 26)
def Dg.svL(d:Dg):List U32:=aF (fun j=>U32.mk (d.save.getD j 0)) (upN 0 26)
def wz(w:World)(g:Nat)(s:List U32):Prop:=∃T,Blk w g (bu (s.map U32.v)) T
def vO:List Value→Option (List U32)
 | []=>some []
 | .int .u32 x::r=>(match vO r with
  | some l=>some (U32.mk x::l)
  | none=>none)
 | _=>none
theorem mO:∀ {cs:List Value} {l:List U32},vO cs=some l→cs=(l.map U32.v).map (Value.int .u32)
 | [],l,h=>by simp only [vO,Option.some.injEq]at h;subst h;rfl
 | v::r,l,h=>by
  unfold vO at h
  split at h
  ·rename_i e;cases e
  ·rename_i x r' e
   injection e with e1 e2
   subst e1;subst e2
   split at h
   ·rename_i l' hl
    injection h with h
    subst h
    rw [mO hl];rfl
   ·cases h
  ·cases h
theorem GS {w:World} {g mg e c:Nat} {E:Pd} {X:Nat→Prop}(hX:∀k,(k=g∨k=e)↔X k)(h:mZ w g mg e c E):Rd w X (some (Addr.mk e 0 none)) E.jh.length c E.jh:=by
 rw [Pd.dF]
 exact h.es.rd.mono (fun k hk=>(hX k).1 (.inr hk.1)) fun k hk=>by rcases(hX k).2 hk with rfl | rfl;exact h.lt.1;exact h.lt.2
theorem GU {w:World} {g mg e c:Nat} {E:Pd}(h:mZ w g mg e c E):w.cell? ⟨g,0,none⟩=some (.pointer (some ⟨mg,0,none⟩))∧w.cell? ⟨g,1,none⟩=some (.slice (some ⟨e,0,none⟩) E.jh.length c)∧w.cell? ⟨g,2,none⟩=some (.int .i64 E.aE):=by
 obtain⟨T,hd⟩:=h.hd
 rw [Pd.dF]
 exact⟨hd.cell rfl,hd.cell rfl,hd.cell rfl⟩
theorem HW {w:World} {g a mg:Nat} {E:Pd}(h:PdP w g a mg E):w.cell? ⟨g,0,none⟩=some (.pointer (some ⟨mg,0,none⟩))∧w.cell? ⟨g,1,none⟩=some (.int .i64 E.aE):=by
 obtain⟨T,hd⟩:=h.hd
 exact⟨hd.cell rfl,hd.cell rfl⟩
theorem zJ {w:World} {g:Nat} {s:List U32} {X:Nat→Prop}(hX:∀k,k=g↔X k)(h:wz w g s):Rd w X (some (Addr.mk g 0 none)) s.length s.length s:=by
 obtain⟨T,hb⟩:=h
 refine⟨rfl,Nat.le_refl _,fun k hk=>by rw [(hX k).2 hk];exact hb.lt,fun i x hi=>⟨_,rfl,(hX _).1 rfl,fun j hj=>?_⟩⟩
 have hj:j=0:=by have:Enc.size U32=1:=rfl;omega
 subst hj
 have hl:i<s.length:=(List.getElem?_eq_some_iff.1 hi).1
 rw [bG,Nat.zero_add,show Enc.size U32=1 from rfl,Nat.mul_one]
 show w.cell? ⟨g,i,none⟩=some (.int .u32 x.v)
 refine hb.cell ?_
 rw [dV (by simpa using hl),List.getD_eq_getElem?_getD,List.getElem?_map,hi];rfl
theorem E8 {w:World} {g i:Nat} {s:List U32} {X:Nat→Prop}(hX:∀k,k=g↔X k)(h:wz w g s) {x y:U32}(hx:s[i]? =some x) {o:Nat} {vs:List Value}(ho:o+vs.length≤1)(hy:enc y=(enc x).take o++vs++(enc x).drop (o+vs.length)) {K:World→Prop}(hK:∀w',(∀k,k=g↔X k)∧wz w' g (s.set i y)→Ch X w w'→K w'):
 aG w (((Addr.mk g 0 none).add (i*1)).add o) vs K:=by
 obtain⟨T,hb⟩:=h
 have hl:i<s.length:=(List.getElem?_eq_some_iff.1 hx).1
 have hc:∀w2,bz w g (bu ((s.set i y).map U32.v)) T w2→K w2:=fun w2 st=>hK w2 ⟨hX,T,st.blk⟩ (st.ch.mono fun k hk=>(hX k).1 hk)
 rw [bG,Nat.zero_add,Nat.mul_one]
 have ex:enc x= [.int .u32 x.v]:=rfl
 have ey:enc y= [.int .u32 y.v]:=rfl
 rw [ex,ey]at hy
 match vs,o,ho with
 | [v],0,_=>
  simp at hy
  subst hy
  refine⟨g,i,_,T,rfl,hb,by simp;omega,fun w2 st=>hc w2 ?_⟩
  rw [List.map_set,← pT];exact st
 | [],0,_=>
  simp at hy
  refine⟨g,i,_,T,rfl,hb,by simp;omega,fun w2 st=>hc w2 ?_⟩
  have:s.set i y=s:=by
   have:y=x:=by cases x;cases y;simp at hy;rw [hy]
   rw [this];exact List.ext_getElem? fun j=>by rw [List.getElem?_set];split;(rename_i e;subst e;(try rw [if_pos hl]);rw [hx]);rfl
  rw [this];exact st
 | [],1,_=>
  simp at hy
  refine⟨g,i+1,_,T,rfl,hb,by simp;omega,fun w2 st=>hc w2 ?_⟩
  have:s.set i y=s:=by
   have:y=x:=by cases x;cases y;simp at hy;rw [hy]
   rw [this];exact List.ext_getElem? fun j=>by rw [List.getElem?_set];split;(rename_i e;subst e;(try rw [if_pos hl]);rw [hx]);rfl
  rw [this];exact st
theorem E7 {w:World} {g n:Nat} {s:List U32} {X:Nat→Prop}(hX:∀k,k=g↔X k)(h:wz w g s)(hn:s.length=n):X g∧∀j u,(aF (fun j=>Value.int .u32 (s.getD j (U32.mk 0)).v) (upN 0 n))[j]? =some u→w.cell? ⟨g,0+j,none⟩=some u:=by
 obtain⟨T,hb⟩:=h
 refine⟨(hX _).1 rfl,fun j u hj=>?_⟩
 rw [← aH,aY]at hj
 cases NU:nth (upN 0 n) j with
 | none=>rw [NU]at hj;cases hj
 | some i=>
  rw [NU]at hj
  have Kh:i=j:=by have:=iA NU;omega
  have JM:=aU NU
  rw [fN]at JM
  subst Kh
  injection hj with hj
  rw [← hj,Nat.zero_add]
  refine hb.cell ?_
  rw [dV (by simp;omega),List.getD_eq_getElem?_getD,List.getElem?_map]
  show _=some (Value.int .u32 (s.getD i (U32.mk 0)).v)
  rw [List.getD_eq_getElem?_getD]
  cases s[i]? <;>rfl
theorem E6 {w:World} {g:Nat} {s l:List U32} {vs:List Value} {X:Nat→Prop}(hX:∀k,k=g↔X k)(h:wz w g s)(hl:vO vs=some l)(hn:s.length=l.length) {K:World→Prop}(hK:∀w',(∀k,k=g↔X k)∧wz w' g l→Ch X w w'→K w'):aG w ⟨g,0,none⟩ vs K:=by
 obtain⟨T,hb⟩:=h
 have e:=mO hl
 have e2:vs=(bu (l.map U32.v)).toList:=by rw [e];simp [bu]
 rw [e2]
 exact nC hb (by simp;omega) fun w2 st=>hK w2 ⟨hX,T,st.blk⟩ (st.ch.mono fun k hk=>(hX k).1 hk)
def Mem.Wf(m:Mem):Prop:=(∀s i o,0≤m.pg s i o∧m.pg s i o<4294967296)∧m.S≤64∧m.I≤64
end
end Go.Proofs.YtinhphjfnedhgaaGreatDoor
namespace Go.Proofs.YtinhphjfnedhgaaGreatDoor.V
open Go Go.RowKit
open Go.IntKind (i64 u32 u64)
open Enc (enc)
structure Els where
 el:Nat→Type
 en:(t:Nat)→Enc (el t)
 df:(t:Nat)→el t
 dec:(t:Nat)→List Value→Option (el t)
 gz:∀ {t:Nat} {cs:List Value} {x:el t},dec t cs=some x→(en t).enc x=cs
structure Kind(E:Els) where
 ty:Type
 pred:(Nat→Nat)→ty→(Nat→Prop)→World→Prop
 ch:∀ {r:Nat→Nat} {s:ty} {X Y:Nat→Prop} {w w':World},pred r s X w→Ch Y w w'→(∀k,X k→¬Y k)→pred r s X w'
 lt:∀ {r:Nat→Nat} {s:ty} {X:Nat→Prop} {w:World},pred r s X w→∀k,X k→k<w.heap.size
 li:(Nat→Nat)→ty→Nat→Option (Ls E.el):=fun _ _ _=>none
 oo:∀ {r:Nat→Nat} {s:ty} {X:Nat→Prop} {w:World} {i:Nat} {L:Ls E.el},pred r s X w→li r s i=some L→ @Rd (E.el L.t) (E.en L.t) w X L.A L.l.length L.c L.l:=by intro _ _ _ _ _ _ _ h;cases h
 fs:(Nat→Nat)→ty→Nat→Nat→Value→Option (Prop×ty):=fun _ _ _ _ _=>none
 qm:∀ {r:Nat→Nat} {s s':ty} {X:Nat→Prop} {w:World} {path off:Nat} {v:Value} {c:Prop},pred r s X w→fs r s path off v=some (c,s')→c→∀ {K:World→Prop},(∀w',pred r s' X w'→Ch X w w'→K w')→aG w ⟨r path,off,none⟩ [v] K:=by intro _ _ _ _ _ _ _ _ _ _ h;cases h
 st:(Nat→Nat)→ty→Nat→Nat→(tt:Nat)→E.el tt→Option (Prop×ty):=fun _ _ _ _ _ _=>none
 pC:∀ {r:Nat→Nat} {s s':ty} {X:Nat→Prop} {w:World} {j i:Nat} {L:Ls E.el} {x y:E.el L.t} {off:Nat} {vs:List Value} {c:Prop},pred r s X w→li r s j=some L→L.l[i]? =some x→off+vs.length≤(E.en L.t).size→(E.en L.t).enc y=((E.en L.t).enc x).take off++vs++((E.en L.t).enc x).drop (off+vs.length)→st r s j i L.t y=some (c,s')→c→∀ {K:World→Prop},(∀w',pred r s' X w'→Ch X w w'→K w')→aG w (((L.A.getD ⟨0,0,none⟩).add (i*(E.en L.t).size)).add off) vs K:=by intro _ _ _ _ _ _ _ _ _ _ _ _ _ _ _ _ _ _ h;cases h
 iv:Bool:=false
 inv:ty→Prop:=fun _=>True
 gx:∀ {r:Nat→Nat} {s:ty} {X:Nat→Prop} {w:World},pred r s X w→inv s:=by intros;trivial
 fo:(Nat→Nat)→ty→Nat→Nat→Option FV:=fun _ _ _ _=>none
 qo:∀ {r:Nat→Nat} {s:ty} {X:Nat→Prop} {w:World} {path off:Nat} {f:FV} {v:Value},pred r s X w→fo r s path off=some f→fvV r (li r s) f=some v→X (r path)∧w.cell? ⟨r path,off,none⟩=some v:=by intro _ _ _ _ _ _ _ _ _ h;cases h
 ix:Nat→Nat→Option Nat:=fun _ _=>none
 ql:∀ {r:Nat→Nat} {s:ty} {path off i:Nat} {L:Ls E.el},ix path off=some i→li r s i=some L→L.A=some ⟨r path,off,none⟩:=by intro _ _ _ _ _ _ h;cases h
 wl:(Nat→Nat)→ty→Nat→Nat→Nat→Option (Prop×List Value):=fun _ _ _ _ _=>none
 rU:∀ {r:Nat→Nat} {s:ty} {X:Nat→Prop} {w:World} {path off n:Nat} {c:Prop} {cs:List Value},pred r s X w→wl r s path off n=some (c,cs)→c→X (r path)∧∀j u,cs[j]? =some u→w.cell? ⟨r path,off+j,none⟩=some u:=by intro _ _ _ _ _ _ _ _ _ _ h;cases h
 ws:(Nat→Nat)→ty→Nat→Nat→List Value→Option (Prop×ty):=fun _ _ _ _ _=>none
 ph:∀ {r:Nat→Nat} {s s':ty} {X:Nat→Prop} {w:World} {path off:Nat} {vs:List Value} {c:Prop},pred r s X w→ws r s path off vs=some (c,s')→c→∀ {K:World→Prop},(∀w',pred r s' X w'→Ch X w w'→K w')→aG w ⟨r path,off,none⟩ vs K:=by intro _ _ _ _ _ _ _ _ _ _ h;cases h
def Kind.none(E:Els):Kind E where
 ty:=Unit
 pred:=fun _ _ X _=>∀k,¬X k
 ch:=fun h _ _=>h
 lt:=fun h k hk=>absurd hk (h k)
def Uni.of(E:Els)(K:Nat→Kind E)(cd:TypeId→Option Nat)(mko:TypeId→List Value→Option ((t:Nat)×(K t).ty))(tB:∀ {T:TypeId} {cs:List Value} {q:(t:Nat)×(K t).ty} {w:World} {g:Nat},mko T cs=some q→Blk w g ⟨cs⟩ T→(K q.1).pred (fun _=>g) q.2 (fun k=>k=g) w):Uni where
 ty:=fun t=>(K t).ty
 pred:=fun t=>(K t).pred
 ch:=fun {t}=>(K t).ch
 lt:=fun {t}=>(K t).lt
 el:=E.el
 en:=E.en
 df:=E.df
 dec:=E.dec
 gz:=E.gz
 cd:=cd
 li:=fun t=>(K t).li
 oo:=fun {t}=>(K t).oo
 fs:=fun t=>(K t).fs
 qm:=fun {t}=>(K t).qm
 st:=fun t=>(K t).st
 pC:=fun {t}=>(K t).pC
 iv:=fun t=>(K t).iv
 inv:=fun t=>(K t).inv
 gx:=fun {t}=>(K t).gx
 fo:=fun t=>(K t).fo
 qo:=fun {t}=>(K t).qo
 mko:=mko
 tB:=tB
 ix:=fun t=>(K t).ix
 ql:=fun {t}=>(K t).ql
 wl:=fun t=>(K t).wl
 rU:=fun {t}=>(K t).rU
 ws:=fun t=>(K t).ws
 ph:=fun {t}=>(K t).ph
section
section
variable {U:Uni} {P:Program} {tbl:Tb U} {may:List Nat} {k0:Nat}
def Ext(θ θ':Th):Prop:=∀j i,cG θ j=some i→cG θ' j=some i
theorem Ext.refl(θ:Th):Ext θ θ:=fun _ _ h=>h
theorem Ext.trans {a b c:Th}(h:Ext a b)(k:Ext b c):Ext a c:=fun j i hj=>k j i (h j i hj)
theorem gV {j id:Nat} {θ:Th} {F:Th→Prop}(h:lI j id θ F):∃θ',F θ'∧Ext θ θ'∧cG θ' j=some id:=by
 unfold lI at h
 split at h
 ·rename_i hn
  refine⟨_,h,fun j' i hj=>?_,?_⟩
  ·unfold cG
   split
   ·rename_i he
    rw [← Nat.eq_of_beq_eq_true he,hn]at hj
    cases hj
   ·exact hj
  ·simp [cG]
 ·rename_i i hi
  split at h
  ·rename_i he
   exact⟨θ,h,Ext.refl θ,by rw [hi,Nat.eq_of_beq_eq_true he]⟩
  ·exact h.elim
theorem kW {j i:Nat}:∀ {θ:Th},cG θ j=some i→(j,i)∈θ
 | [],h=>by cases h
 | (a,b)::r,h=>by
  unfold cG at h
  split at h
  ·rename_i he
   injection h with h
   rw [← h,Nat.eq_of_beq_eq_true he]
   exact List.mem_cons_self ..
  ·exact List.mem_cons_of_mem _ (kW h)
theorem GO {θ:Th}(hn:nL (aF (·.2) θ)=true) {a b i:Nat}(ha:cG θ a=some i)(hb:cG θ b=some i):a=b:=by
 have h1:=kW ha
 have h2:=kW hb
 have h3:=lM hn
 rw [fZ]at h3
 have key:∀(l:Th),(l.map (·.2)).Nodup→(a,i)∈l→(b,i)∈l→a=b:=by
  intro l
  induction l with
  | nil=>intro _ h;cases h
  | cons x r ih=>
   intro hd h1 h2
   rw [List.map_cons,List.nodup_cons]at hd
   rcases List.mem_cons.1 h1 with e1 | h1
   ·rcases List.mem_cons.1 h2 with e2 | h2
    ·rw [← e1]at e2;injection e2 with e2;exact e2.symm
    ·exact absurd (List.mem_map.2 ⟨(b,i),h2,by rw [← e1]⟩) hd.1
   ·rcases List.mem_cons.1 h2 with e2 | h2
    ·exact absurd (List.mem_map.2 ⟨(a,i),h1,by rw [← e2]⟩) hd.1
    ·exact ih hd.2 h1 h2
 exact key θ h3 h1 h2
theorem PK.tq {f:Nat→Option Nat} {p q:PK}(h:p.ren f=some q):f p.id=some q.id:=by
 cases p<;>simp only [PK.ren,Option.map_eq_some_iff]at h<;>obtain⟨i,hi,rfl⟩:=h<;>exact hi
theorem PK.CK {f g:Nat→Option Nat}(h:∀j i,f j=some i→g j=some i) {p q:PK}(hp:p.ren f=some q):p.ren g=some q:=by
 cases p<;>simp only [PK.ren,Option.map_eq_some_iff]at hp ⊢ <;>obtain⟨i,hi,rfl⟩:=hp<;>exact⟨i,h _ _ hi,rfl⟩
def Rel(r r':Res U):Prop:=r=r'∨∃(t:Nat)(own:Bool)(T T':TypeId)(A:Option Addr)(c:Nat)(l:List (U.el t)),r= .lst t false T A c l∧r'= .lst t own T' A c l
theorem Rel.den {r r':Res U}(h:Rel r r') {f:Nat→Option Nat} {p q:PK}(hp:p.ren f=some q):cm U p (some r)=cm U q (some r'):=by
 rcases h with rfl | ⟨t,own,T,T',A,c,l,rfl,rfl⟩
 ·cases p<;>simp only [PK.ren,Option.map_eq_some_iff]at hp<;>obtain⟨i,hi,rfl⟩:=hp<;>cases r<;>rfl
 ·cases p<;>simp only [PK.ren,Option.map_eq_some_iff]at hp<;>obtain⟨i,hi,rfl⟩:=hp<;>rfl
def Emb(f:Nat→Option Nat)(L G:List (Res U)):Prop:=∀j r,nth L j=some r→∃i r',f j=some i∧nth G i=some r'∧Rel r r'
theorem Emb.dn {f:Nat→Option Nat} {L G:List (Res U)}(h:Emb f L G) {p q:PK}(hp:p.ren f=some q) {v:Value}(hd:den U L p=some v):den U G q=some v:=by
 unfold V.den at hd ⊢
 cases hn:nth L p.id with
 | none=>rw [hn]at hd;cases p<;>simp [cm]at hd
 | some r=>
  rw [hn]at hd
  obtain⟨i,r',h1,h2,h3⟩:=h _ _ hn
  rw [PK.tq hp]at h1
  injection h1 with h1
  subst h1
  rw [h2,← h3.den hp]
  exact hd
theorem du {f:Nat→Option Nat} {l:List (Option PK)} {j:Nat} {q:PK}(h:nth (aF (pX f) l) j=some (some q)):∃p,nth l j=some (some p)∧p.ren f=some q:=by
 rw [aY]at h
 cases hn:nth l j with
 | none=>rw [hn]at h;cases h
 | some o=>
  rw [hn]at h
  injection h with h
  cases o with
  | none=>cases h
  | some p=>exact⟨p,rfl,h⟩
theorem Emb.kn {f:Nat→Option Nat} {L G:List (Res U)}(h:Emb f L G) {k k':Kn}(hk:k.ren f=some k') {v:Value}(hv:im L v k):im G v k':=by
 cases k with
 | pan=>exact hv.elim
 | p p=>
  simp only [Kn.ren,Option.map_eq_some_iff]at hk
  obtain⟨q,hq,rfl⟩:=hk
  exact h.dn hq hv
 | t l=>
  simp only [Kn.ren,Option.some.injEq]at hk
  subst hk
  obtain⟨vs,e,hh⟩:=hv
  refine⟨vs,e,fun j q hj=>?_⟩
  obtain⟨p,hp,hq⟩:=du hj
  obtain⟨u,hu,hd⟩:=hh j p hp
  exact⟨u,hu,h.dn hq hd⟩
 | ag l=>
  simp only [Kn.ren,Option.some.injEq]at hk
  subst hk
  obtain⟨vs,e,hh⟩:=hv
  refine⟨vs,e,fun j q hj=>?_⟩
  obtain⟨p,hp,hq⟩:=du hj
  obtain⟨u,hu,hd⟩:=hh j p hp
  exact⟨u,hu,h.dn hq hd⟩
 | f a b=>
  simp only [Kn.ren,Option.some.injEq]at hk
  subst hk
  obtain⟨fn,fs,cs,e,hl,h1,h2⟩:=hv
  refine⟨fn,fs,cs,e,by simpa using hl,fun j q hj=>?_,fun j q hj=>?_⟩
  ·obtain⟨p,hp,hq⟩:=du hj
   obtain⟨u,hu,hd⟩:=h1 j p hp
   exact⟨u,hu,h.dn hq hd⟩
  ·obtain⟨p,hp,hq⟩:=du hj
   obtain⟨u,hu,hd⟩:=h2 j p hp
   exact⟨u,hu,h.dn hq hd⟩
theorem Emb.knO {f:Nat→Option Nat} {L G:List (Res U)}(h:Emb f L G) {k:Option Kn} {v:Value}(hv:KnO L v k):KnO G v (z2 f k):=by
 cases k with
 | none=>exact trivial
 | some k=>
  show KnO G v (k.ren f)
  cases hk:k.ren f with
  | none=>exact trivial
  | some k'=>exact h.kn hk hv
theorem je {f:Nat→Option Nat} {key:Key} {k':Kn}:∀ {l:List (Key×Kn)},(key,k')∈j2 f l→∃i i' o k,((key= .c i' o∧(Key.c i o,k)∈l)∨(key= .l i' o∧(Key.l i o,k)∈l))∧f i=some i'∧k.ren f=some k'
 | [],h=>by cases h
 | (.s _,_)::r,h=>by
  obtain⟨i,i',o,k,h1,h3⟩:=je (l:=r) h
  exact⟨i,i',o,k,h1.imp (fun h=>⟨h.1,List.mem_cons_of_mem _ h.2⟩) (fun h=>⟨h.1,List.mem_cons_of_mem _ h.2⟩),h3⟩
 | (.c i o,k)::r,h=>by
  have tail:(key,k')∈j2 f r→∃i1 i' o1 k1,((key= .c i' o1∧(Key.c i1 o1,k1)∈(Key.c i o,k)::r)∨(key= .l i' o1∧(Key.l i1 o1,k1)∈(Key.c i o,k)::r))∧f i1=some i'∧k1.ren f=some k':=fun h=>by
   obtain⟨i,i',o,k,h1,h3⟩:=je (l:=r) h
   exact⟨i,i',o,k,h1.imp (fun h=>⟨h.1,List.mem_cons_of_mem _ h.2⟩) (fun h=>⟨h.1,List.mem_cons_of_mem _ h.2⟩),h3⟩
  simp only [j2]at h
  split at h
  ·rename_i i' k2 hi hk
   rcases List.mem_cons.1 h with e | h
   ·injection e with e1 e2
    subst e1;subst e2
    exact⟨i,i',o,k,.inl ⟨rfl,List.mem_cons_self ..⟩,hi,hk⟩
   ·exact tail h
  ·exact tail h
 | (.l i o,k)::r,h=>by
  have tail:(key,k')∈j2 f r→∃i1 i' o1 k1,((key= .c i' o1∧(Key.c i1 o1,k1)∈(Key.l i o,k)::r)∨(key= .l i' o1∧(Key.l i1 o1,k1)∈(Key.l i o,k)::r))∧f i1=some i'∧k1.ren f=some k':=fun h=>by
   obtain⟨i,i',o,k,h1,h3⟩:=je (l:=r) h
   exact⟨i,i',o,k,h1.imp (fun h=>⟨h.1,List.mem_cons_of_mem _ h.2⟩) (fun h=>⟨h.1,List.mem_cons_of_mem _ h.2⟩),h3⟩
  simp only [j2]at h
  split at h
  ·rename_i i' k2 hi hk
   rcases List.mem_cons.1 h with e | h
   ·injection e with e1 e2
    subst e1;subst e2
    exact⟨i,i',o,k,.inr ⟨rfl,List.mem_cons_self ..⟩,hi,hk⟩
   ·exact tail h
  ·exact tail h
def AvD(θ:Th)(v:Value)(k:Option PK):AV→Prop
 | .v x=>x=v
 | .k p=>∃q,k=some q∧p.ren (cG θ)=some q
theorem AvD.mono {θ θ':Th}(h:Ext θ θ') {v:Value} {k:Option PK} {a:AV}(ha:AvD θ v k a):AvD θ' v k a:=by
 cases a with
 | v x=>exact ha
 | k p=>obtain⟨q,h1,h2⟩:=ha;exact⟨q,h1,PK.CK h h2⟩
def zy(θ:Th)(vs:List Value)(kc:Nat→Option PK)(i:Nat)(az:List AV):Prop:=az.length=vs.length∧∀j a v,nth az j=some a→nth vs j=some v→AvD θ v (kc (i+j)) a
theorem zy.mono {θ θ':Th}(h:Ext θ θ') {vs:List Value} {kc:Nat→Option PK} {i:Nat} {az:List AV}(ha:zy θ vs kc i az):zy θ' vs kc i az:=⟨ha.1,fun j a v h1 h2=>(ha.2 j a v h1 h2).mono h⟩
theorem Ae {T:Type} {c:CP} {J:c.T T} {v:Value} {k:Option PK} {θ:Th} {F:T→Th→Prop}(h:apC c J v k θ F):∃J' θ' a,F J' θ'∧Ext θ θ'∧(∀G:T→AV→Prop,alC c J G→G J' a)∧AvD θ' v k a:=by
 cases c with
 | int kk=>
  cases v<;>simp only [apC]at h<;>skip
  rename_i k' x
  split at h
  ·rename_i he
   obtain rfl:=mI he
   exact⟨_,θ,.v (.int kk x),h,Ext.refl θ,fun G hG=>hG x,rfl⟩
  ·exact h.elim
 | bool=>
  cases v<;>simp only [apC]at h<;>skip
  exact⟨_,θ,_,h,Ext.refl θ,fun G hG=>hG _,rfl⟩
 | str=>
  cases v<;>simp only [apC]at h<;>skip
  exact⟨_,θ,_,h,Ext.refl θ,fun G hG=>hG _,rfl⟩
 | any=>exact⟨_,θ,.v v,h,Ext.refl θ,fun G hG=>hG _,rfl⟩
 | hdr=>
  cases v<;>simp only [apC]at h<;>skip
  exact⟨_,θ,_,h,Ext.refl θ,fun G hG=>hG _ _ _,rfl⟩
 | nsl=>
  simp only [apC]at h
  split at h
  ·exact⟨_,θ,_,h,Ext.refl θ,fun G hG=>hG,rfl⟩
  ·exact h.elim
 | nil=>
  simp only [apC]at h
  split at h
  ·exact⟨_,θ,_,h,Ext.refl θ,fun G hG=>hG,rfl⟩
  ·exact h.elim
 | fn f=>
  simp only [apC]at h
  split at h
  ·split at h
   ·rename_i he
    obtain rfl:=Nat.eq_of_beq_eq_true he
    exact⟨_,θ,_,h,Ext.refl θ,fun G hG=>hG,rfl⟩
   ·exact h.elim
  ·exact h.elim
 | ptr j=>
  simp only [apC]at h
  split at h
  ·rename_i id
   obtain⟨θ',h1,h2,h3⟩:=gV h
   exact⟨_,θ',_,h1,h2,fun G hG=>hG,_,rfl,by simp [PK.ren,h3]⟩
  ·exact h.elim
 | obj j path=>
  simp only [apC]at h
  split at h
  ·rename_i id p
   split at h
   ·rename_i he
    obtain⟨θ',h1,h2,h3⟩:=gV h
    exact⟨_,θ',_,h1,h2,fun G hG=>hG,_,rfl,by simp [PK.ren,h3,Nat.eq_of_beq_eq_true he]⟩
   ·exact h.elim
  ·exact h.elim
 | sl j=>
  simp only [apC]at h
  split at h
  ·rename_i id
   obtain⟨θ',h1,h2,h3⟩:=gV h
   exact⟨_,θ',_,h1,h2,fun G hG=>hG,_,rfl,by simp [PK.ren,h3]⟩
  ·exact h.elim
theorem qB {T:Type}:∀ {l:List CP} {J:zp l T} {vs:List Value} {kc:Nat→Option PK} {i:Nat} {θ:Th} {F:T→Th→Prop},FO l J vs kc i θ F→∃J' θ' az,F J' θ'∧Ext θ θ'∧(∀G:T→List AV→Prop,yS l J G→G J' az)∧zy θ' vs kc i az
 | [],J,[],kc,i,θ,F,h=>⟨J,θ,[],h,Ext.refl θ,fun G hG=>hG,rfl,fun j a v ha=>by simp [nth]at ha⟩
 | [],_,_::_,_,_,_,_,h=>h.elim
 | c::l,J,[],_,_,_,_,h=>h.elim
 | c::l,J,v::vs,kc,i,θ,F,h=>by
  obtain⟨J1,θ1,a,h1,e1,g1,d1⟩:=Ae h
  obtain⟨J2,θ2,az,h2,e2,g2,d2⟩:=qB h1
  refine⟨J2,θ2,a::az,h2,e1.trans e2,fun G hG=>g2 (fun J'' vs=>G J'' (a::vs)) (g1 (fun J' a'=>yS l J' fun J'' vs=>G J'' (a'::vs)) hG),?_,fun j b u hb hu=>?_⟩
  ·simp [d2.1]
  ·cases j with
   | zero=>
    simp only [nth,Option.some.injEq]at hb hu
    subst hb;subst hu
    exact d1.mono e2
   | succ j=>
    have:=d2.2 j b u hb hu
    rwa [show i+1+j=i+(j+1)by omega]at this
def AaD(θ:Th)(v:Value)(k:Option Kn):AA→Prop
 | .one a=>AvD θ v (iw k) a
 | .agg az=>∃cs,v= .agg cs∧zy θ cs.toList (Hs k) 0 az
theorem AaD.mono {θ θ':Th}(h:Ext θ θ') {v:Value} {k:Option Kn} {a:AA}(ha:AaD θ v k a):AaD θ' v k a:=by
 cases a with
 | one a=>exact AvD.mono h ha
 | agg az=>obtain⟨cs,e,hh⟩:=ha;exact⟨cs,e,hh.mono h⟩
theorem v9 {T:Type}:∀ {l:List AP} {J:zz U l T} {vs:List Value} {ks:List (Option Kn)} {θ:Th} {F:T→Th→Prop},wc l J vs ks θ F→∃J' θ' az,F J' θ'∧Ext θ θ'∧(∀G:T→List AA→Prop,tZ l J G→G J' az)∧az.length=vs.length∧∀j a v,nth az j=some a→nth vs j=some v→∃k,nth ks j=some k∧AaD θ' v k a
 | [],J,[],ks,θ,F,h=>⟨J,θ,[],h,Ext.refl θ,fun G hG=>hG,rfl,fun j a v ha=>by simp [nth]at ha⟩
 | [],_,_::_,_,_,_,h=>by simp [wc]at h
 | _::_,_,[],_,_,_,h=>by simp [wc]at h
 | _::_,_,_::_,[],_,_,h=>by simp [wc]at h
 | a::l,J,v::vs,k::ks,θ,F,h=>by
  simp only [wc]at h
  have one:∃J' θ' x,wc l J' vs ks θ' F∧Ext θ θ'∧(∀G:zz U l T→AA→Prop,alA a J G→G J' x)∧AaD θ' v k x:=by
   cases a with
   | one c=>
    obtain⟨J1,θ1,x,h1,e1,g1,d1⟩:=Ae (show apC c J v (iw k) θ _ from h)
    exact⟨J1,θ1,.one x,h1,e1,fun G hG=>g1 (fun J' y=>G J' (.one y)) hG,d1⟩
   | agg cs=>
    simp only [apA]at h
    split at h
    ·rename_i vs'
     obtain⟨J1,θ1,x,h1,e1,g1,d1⟩:=qB h
     exact⟨J1,θ1,.agg x,h1,e1,fun G hG=>g1 (fun J' y=>G J' (.agg y)) hG,vs',rfl,d1⟩
    ·exact h.elim
   | enc tt=>
    simp only [apA]at h
    split at h
    ·rename_i cs
     split at h
     ·rename_i x hx
      have e:=U.gz hx
      refine⟨_,θ,.agg (aF .v ((U.en tt).enc x)),h,Ext.refl θ,fun G hG=>hG x,cs,rfl,?_,fun j a v ha hv=>?_⟩
      ·rw [e,fZ,List.length_map]
      ·rw [e,aY,hv]at ha
       injection ha with ha
       subst ha;rfl
     ·exact h.elim
    ·exact h.elim
  obtain⟨J1,θ1,x,h1,e1,g1,d1⟩:=one
  obtain⟨J2,θ2,az,h2,e2,g2,l2,d2⟩:=v9 h1
  refine⟨J2,θ2,x::az,h2,e1.trans e2,fun G hG=>g2 (fun J'' vs=>G J'' (x::vs)) (g1 (fun J' a'=>tZ l J' fun J'' vs=>G J'' (a'::vs)) hG),by simp [l2],fun j b u hb hu=>?_⟩
  cases j with
  | zero=>
   simp only [nth,Option.some.injEq]at hb hu
   subst hb;subst hu
   exact⟨k,rfl,d1.mono e2⟩
  | succ j=>exact d2 j b u hb hu
def LkD(θ:Th)(kl:Nat→Option PK)(lk:List (Nat×Nat×Nat)):Prop:=∀p j q,(p,j,q)∈lk→∃i,kl p=some (.obj i q 0)∧cG θ j=some i
def PrD(θ:Th)(kc kl:Nat→Option PK):PR U→Res U→Prop
 | .ob t r s lk,x=>x= .ob t r s∧LkD θ kl lk
 | .blk g az T,x=>∃cs,x= .blk g cs T∧zy θ cs kc 0 az
 | .lst t own T A c l,x=>∃own' T',x= .lst t own' T' A c l∧(own=true→own'=true∧T'=T)
theorem PrD.mono {θ θ':Th}(h:Ext θ θ') {kc kl:Nat→Option PK} {p:PR U} {x:Res U}(hp:PrD θ kc kl p x):PrD θ' kc kl p x:=by
 cases p with
 | ob t r s lk=>exact⟨hp.1,fun p j q hm=>by obtain⟨i,h1,h2⟩:=hp.2 p j q hm;exact⟨i,h1,h _ _ h2⟩⟩
 | blk g az T=>obtain⟨cs,e,hh⟩:=hp;exact⟨cs,e,hh.mono h⟩
 | lst t own T A c l=>exact hp
def GV:RP→Bool
 | .lst _ own _=>!own
 | _=>false
def GZ:PR U→Bool
 | .lst _ own _ _ _ _=>!own
 | _=>false
theorem v8:∀ {l:List (Nat×Nat×Nat)} {kl:Nat→Option PK} {θ:Th} {F:Th→Prop},FN l kl θ F→∃θ',F θ'∧Ext θ θ'∧LkD θ' kl l
 | [],kl,θ,F,h=>⟨θ,h,Ext.refl θ,fun _ _ _ hm=>by cases hm⟩
 | (p,j,q)::l,kl,θ,F,h=>by
  simp only [FN]at h
  split at h
  ·rename_i i q' hk
   split at h
   ·rename_i hq
    have hq:=Nat.eq_of_beq_eq_true hq
    subst hq
    obtain⟨θ1,h1,e1,g1⟩:=gV h
    obtain⟨θ2,h2,e2,g2⟩:=v8 h1
    refine⟨θ2,h2,e1.trans e2,fun p' j' q'' hm=>?_⟩
    rcases List.mem_cons.1 hm with e | hm
    ·injection e with ea eb
     injection eb with eb ec
     subst ea;subst eb;subst ec
     exact⟨i,hk,e2 _ _ g1⟩
    ·exact g2 _ _ _ hm
   ·exact h.elim
  ·exact h.elim
theorem FM {T:Type} {p:RP} {J:p.T U T} {r:Option (Res U)} {kc kl:Nat→Option PK} {θ:Th} {F:T→Th→Prop}(h:apR p J r kc kl θ F):∃J' θ' x y,r=some x∧F J' θ'∧Ext θ θ'∧(∀G:T→PR U→Prop,alR p J G→G J' y)∧PrD θ' kc kl y x∧GZ y=GV p:=by
 cases p with
 | ob t lk=>
  cases r with
  | none=>exact h.elim
  | some x=>
   cases x<;>simp only [apR]at h<;>skip
   rename_i t' r s
   split at h
   ·rename_i ht
    subst ht
    obtain⟨θ1,h1,e1,g1⟩:=v8 h
    exact⟨_,θ1,_,.ob t' r s lk,rfl,h1,e1,fun G hG=>hG r s,⟨rfl,g1⟩,rfl⟩
   ·exact h.elim
 | blk l T'=>
  cases r with
  | none=>exact h.elim
  | some x=>
   cases x<;>simp only [apR]at h<;>skip
   rename_i g cs T''
   split at h
   ·rename_i ht
    obtain⟨J1,θ1,az,h1,e1,g1,d1⟩:=qB h
    exact⟨J1,θ1,_,.blk g az T',rfl,h1,e1,fun G hG=>g1 (fun J' cs=>G J' (.blk g cs T')) (hG g),⟨cs,by rw [Nat.eq_of_beq_eq_true ht],d1⟩,rfl⟩
   ·exact h.elim
 | lst t own T'=>
  cases r with
  | none=>exact h.elim
  | some x=>
   cases x<;>simp only [apR]at h<;>skip
   rename_i t' own' T'' A c l
   split at h
   ·rename_i hb
    split at h
    ·rename_i ht
     subst ht
     refine⟨_,θ,_,.lst t' own T' A c l,rfl,h,Ext.refl θ,fun G hG=>hG A c l,⟨own',T'',rfl,fun ho=>?_⟩,rfl⟩
     subst ho
     simp only [Bool.not_true,Bool.false_or,Bool.and_eq_true]at hb
     exact⟨hb.1,Nat.eq_of_beq_eq_true hb.2⟩
    ·exact h.elim
   ·exact h.elim
theorem v7 {T:Type} {rs:List (Res U)} {kn:List (Key×Kn)}:∀ {l:List RP} {J:BA U l T} {j0:Nat} {θ:Th} {F:T→Th→Prop},FL rs kn l J j0 θ F→∃J' θ' ps,F J' θ'∧Ext θ θ'∧(∀G:T→List (PR U)→Prop,tY l J G→G J' ps)∧ps.length=l.length∧
 ∀j p,nth ps j=some p→∃id x,cG θ' (j0+j)=some id∧nth rs id=some x∧PrD θ' (fun o=>iw (cN (.c id o) kn)) (fun q=>iw (cN (.l id q) kn)) p x∧∃q,nth l j=some q∧GZ p=GV q
 | [],J,j0,θ,F,h=>⟨J,θ,[],h,Ext.refl θ,fun G hG=>hG,rfl,fun j p hp=>by simp [nth]at hp⟩
 | p::l,J,j0,θ,F,h=>by
  simp only [FL]at h
  split at h
  ·rename_i id WM
   obtain⟨J1,θ1,x,y,e0,h1,e1,g1,d1,q1⟩:=FM h
   obtain⟨J2,θ2,ps,h2,e2,g2,l2,d2⟩:=v7 h1
   refine⟨J2,θ2,y::ps,h2,e1.trans e2,fun G hG=>g2 (fun J'' xs=>G J'' (y::xs)) (g1 (fun J' y'=>tY l J' fun J'' xs=>G J'' (y'::xs)) hG),by simp [l2],fun j q hq=>?_⟩
   cases j with
   | zero=>
    simp only [nth,Option.some.injEq]at hq
    subst hq
    exact⟨id,x,e2 _ _ (e1 _ _ WM),e0,d1.mono e2,p,rfl,q1⟩
   | succ j=>
    obtain⟨id',x',h3,h4,h5,h6⟩:=d2 j q hq
    exact⟨id',x',by rw [show j0+(j+1)=j0+1+j by omega];exact h3,h4,h5,h6⟩
  ·exact h.elim
theorem sB {rs:List (Res U)}:∀ {l:List (Nat×Nat)} {θ:Th} {F:Th→Prop},Ad rs l θ F→∃θ',F θ'∧Ext θ θ'
 | [],θ,F,h=>⟨θ,h,Ext.refl θ⟩
 | (j,t)::l,θ,F,h=>by
  simp only [Ad]at h
  split at h
  ·obtain⟨θ1,h1,e1,_⟩:=gV h
   obtain⟨θ2,h2,e2⟩:=sB h1
   exact⟨θ2,h2,e1.trans e2⟩
  ·exact h.elim
structure dQ(w0:World)(k0:Nat)(X0:Nat→Nat→Prop)(may:List Nat)(fr:Fr)(st:St U)(X:Nat→Nat→Prop)(w:World)(st':St U)(X':Nat→Nat→Prop)(w':World)(M:List Nat):Prop where
 inv:Inv w0 k0 X0 may st'.rs X' w'
 kn:av st'.rs fr st'.kn
 md:st'.md=M++st.md
 mlt:∀i,i∈M→i<st.rs.length
 can:∀i,i∈M→i∈may∨k0≤i
 len:st.rs.length≤st'.rs.length
 same:∀i,i<st.rs.length→i ∉ M→nth st'.rs i=nth st.rs i∧X' i=X i
 grow:∀i,i∈M→∀k,X' i k→X i k∨w.heap.size≤k
 new:∀i,st.rs.length≤i→i<st'.rs.length→∀k,X' i k→w.heap.size≤k
 ch:Ch (fun k=>∃j,j∈M∧X j k) w w'
 root:∀i a,nth st.rs i=some a→∃b,nth st'.rs i=some b∧de a b
theorem gg {i:Nat}(h:mV may k0 i=true):i∈may∨k0≤i:=by
 unfold mV at h
 split at h
 ·rename_i hb;exact .inr (Nat.le_of_ble_eq_true hb)
 ·exact .inl (eK.1 h)
theorem gi:∀ {M:List Nat} {us:List (Upd U)} {rs rs':List (Res U)},bF rs M us=some rs'→rs'.length=rs.length∧(∀i,i ∉ M→nth rs' i=nth rs i)∧∀i,i∈M→i<rs.length∧∀a,nth rs i=some a→∃b,nth rs' i=some b∧de a b
 | [],[],rs,rs',h=>by
  simp only [bF,Option.some.injEq]at h
  subst h
  exact⟨rfl,fun _ _=>rfl,fun i hi=>by cases hi⟩
 | [],_::_,_,_,h=>by simp [bF]at h
 | _::_,[],_,_,h=>by simp [bF]at h
 | i::M,u::us,rs,rs',h=>by
  simp only [bF]at h
  split at h
  ·rename_i r hr
   split at h
   ·rename_i r' Jv
    obtain⟨h1,h2,h3⟩:=gi h
    have hi:=aU hr
    simp only [u5]at h1 h3
    have e:∀j,nth (cy rs i r') j=if j=i then some r' else nth rs j:=fun j=>by
     rw [br]
     by_cases hj:j=i
     ·rw [if_pos ⟨hj,hi⟩,if_pos hj]
     ·rw [if_neg (fun hh=>hj hh.1),if_neg hj]
    refine⟨h1,fun j hj=>?_,fun j hj=>?_⟩
    ·rw [List.mem_cons,not_or]at hj
     rw [h2 j hj.2,e,if_neg hj.1]
    ·refine⟨?_,fun a ha=>?_⟩
     ·rcases List.mem_cons.1 hj with rfl | hj
      ·exact hi
      ·exact(h3 j hj).1
     ·by_cases Kj:j=i
      ·subst Kj
       rw [hr]at ha
       injection ha with ha
       subst ha
       have OY:=vZ Jv
       by_cases hm:j∈M
       ·obtain⟨b,hb,hrb⟩:=(h3 j hm).2 r' (by rw [e,if_pos rfl])
        exact⟨b,hb,OY.trans hrb⟩
       ·exact⟨r',by rw [h2 j hm,e,if_pos rfl],OY⟩
      ·have hm:j∈M:=(List.mem_cons.1 hj).resolve_left Kj
       exact(h3 j hm).2 a (by rw [e,if_neg Kj];exact ha)
   ·cases h
  ·cases h
theorem oA {f:Nat→Option Nat}(ME:∀a b i,f a=some i→f b=some i→a=b):∀ {ms M:List Nat} {us:List (Upd U)} {L L' G G':List (Res U)},g8 f ms=some M→bF L ms us=some L'→bF G M us=some G'→Emb f L G→(∀j,j∈ms→∀r,nth L j=some r→∃i,f j=some i∧nth G i=some r)→
 Emb f L' G'∧∀j,j∈ms→∀r,nth L' j=some r→∃i,f j=some i∧nth G' i=some r
 | [],M,us,L,L',G,G',hM,hL,hG,hE,hR=>by
  simp only [g8,Option.some.injEq]at hM
  subst hM
  cases us with
  | cons u us=>simp [bF]at hL
  | nil=>
   simp only [bF,Option.some.injEq]at hL hG
   subst hL;subst hG
   exact⟨hE,fun j hj=>by cases hj⟩
 | m::ms,M,us,L,L',G,G',hM,hL,hG,hE,hR=>by
  simp only [g8]at hM
  split at hM
  ·rename_i i M' hi RG
   injection hM with hM
   subst hM
   cases us with
   | nil=>simp [bF]at hL
   | cons u us=>
    simp only [bF]at hL hG
    split at hL
    ·rename_i r hr
     split at hL
     ·rename_i r1 MC
      obtain⟨i',h1,h2⟩:=hR m (List.mem_cons_self ..) r hr
      rw [hi]at h1
      injection h1 with h1
      subst h1
      rw [h2]at hG
      simp only [MC]at hG
      have Vx:=aU hr
      have Vy:=aU h2
      have key:∀j x,nth (cy L m r1) j=some x→(j=m∧x=r1)∨(j≠m∧nth L j=some x):=by
       intro j x hx
       rw [br]at hx
       by_cases hj:j=m
       ·rw [if_pos ⟨hj,Vx⟩]at hx
        injection hx with hx
        exact .inl ⟨hj,hx.symm⟩
       ·rw [if_neg (fun hh=>hj hh.1)]at hx
        exact .inr ⟨hj,hx⟩
      have keyG:∀j,nth (cy G i r1) j=if j=i then some r1 else nth G j:=fun j=>by
       rw [br]
       by_cases hj:j=i
       ·rw [if_pos ⟨hj,Vy⟩,if_pos hj]
       ·rw [if_neg (fun hh=>hj hh.1),if_neg hj]
      have r1':=oA ME RG hL hG (fun j x hx=>by
       rcases key j x hx with⟨rfl,rfl⟩ | ⟨hj,hx⟩
       ·exact⟨i,_,hi,by rw [keyG,if_pos rfl],.inl rfl⟩
       ·obtain⟨a,b,h3,h4,h5⟩:=hE j x hx
        exact⟨a,b,h3,by rw [keyG,if_neg (by rintro rfl;exact hj (ME _ _ _ h3 hi))];exact h4,h5⟩) (fun j hj x hx=>by
       rcases key j x hx with⟨rfl,rfl⟩ | ⟨MD,hx⟩
       ·exact⟨i,hi,by rw [keyG,if_pos rfl]⟩
       ·obtain⟨a,h3,h4⟩:=hR j (List.mem_cons_of_mem _ hj) x hx
        exact⟨a,h3,by rw [keyG,if_neg (by rintro rfl;exact MD (ME _ _ _ h3 hi))];exact h4⟩)
      refine⟨r1'.1,fun j hj x hx=>?_⟩
      by_cases P6:j∈ms
      ·exact r1'.2 j P6 x hx
      ·have WJ:j=m:=(List.mem_cons.1 hj).resolve_right P6
       subst WJ
       have a1:=(gi hL).2.1 j P6
       rw [hx,br,if_pos ⟨rfl,Vx⟩]at a1
       injection a1 with a1
       subst a1
       have hiM:i ∉ M':=by
        intro hh
        have:∀ {l M':List Nat},g8 f l=some M'→i∈M'→∃a∈l,f a=some i:=by
         intro l
         induction l with
         | nil=>intro M' h hh;simp only [g8,Option.some.injEq]at h;subst h;cases hh
         | cons a l ih=>
          intro M' h hh
          simp only [g8]at h
          split at h
          ·rename_i b bs hb Q3
           injection h with h
           subst h
           rcases List.mem_cons.1 hh with rfl | hh
           ·exact⟨a,List.mem_cons_self ..,hb⟩
           ·obtain⟨c,hc,U1⟩:=ih Q3 hh
            exact⟨c,List.mem_cons_of_mem _ hc,U1⟩
          ·cases h
        obtain⟨a,ha,U2⟩:=this RG hh
        exact P6 (ME _ _ _ U2 hi▸ha)
       refine⟨i,hi,?_⟩
       rw [(gi hG).2.1 i hiM,keyG,if_pos rfl]
     ·cases hL
    ·cases hL
  ·cases hM
theorem vq {α β:Type} {f:α→Option β}:∀ {l:List α} {r:List β},g8 f l=some r→∀b,b∈r→∃a,a∈l∧f a=some b
 | [],r,h,b,hb=>by
  simp only [g8,Option.some.injEq]at h
  subst h
  cases hb
 | a::l,r,h,b,hb=>by
  simp only [g8]at h
  split at h
  ·rename_i c cs hc Kq
   injection h with h
   subst h
   rcases List.mem_cons.1 hb with rfl | hb
   ·exact⟨a,List.mem_cons_self ..,hc⟩
   ·obtain⟨x,hx,hfx⟩:=vq Kq b hb
    exact⟨x,List.mem_cons_of_mem _ hx,hfx⟩
  ·cases h
theorem lf {α β:Type} {f:α→Option β}:∀ {l:List α} {r:List β},g8 f l=some r→∀a,a∈l→∃b,b∈r∧f a=some b
 | [],r,h,a,ha=>by cases ha
 | a::l,r,h,x,hx=>by
  simp only [g8]at h
  split at h
  ·rename_i c cs hc Kq
   injection h with h
   subst h
   rcases List.mem_cons.1 hx with rfl | hx
   ·exact⟨c,List.mem_cons_self ..,hc⟩
   ·obtain⟨b,hb,hfb⟩:=lf Kq x hx
    exact⟨b,List.mem_cons_of_mem _ hb,hfb⟩
  ·cases h
theorem jg {ps:List (PR U)} {j:Nat}:nth (dE ps) j=(nth ps j).map (PR.fin (aF PR.iW ps)):=by
 unfold dE
 exact aY _ _ _
@[simp] theorem HG(ps:List (PR U)):(dE ps).length=ps.length:=by unfold dE;simp
theorem oY(ps:List (PR U))(p:PK):den U (dE ps) p=den U (aF PR.iW ps) p:=by
 unfold den
 rw [jg,aY]
 cases nth ps p.id with
 | none=>rfl
 | some y=>cases y<;>cases p<;>rfl
theorem zZ {i:Nat} {key:Key} {k:Kn}:∀ {l:List (Nat×Nat×Nat)},(key,k)∈lkK i l→∃p j q,(p,j,q)∈l∧key= .l i p∧k= .p (.obj j q 0)
 | (p,j,q)::l,h=>by
  rcases List.mem_cons.1 h with e | h
  ·injection e with e1 e2
   exact⟨p,j,q,List.mem_cons_self ..,e1,e2⟩
  ·obtain⟨p',j',q',h1,h2⟩:=zZ (l:=l) h
   exact⟨p',j',q',List.mem_cons_of_mem _ h1,h2⟩
theorem jd {key:Key} {k:Kn}:∀ {l:List (PR U)} {i:Nat},(key,k)∈tF i l→∃j t r s lk p j' q,nth l j=some (.ob t r s lk)∧(p,j',q)∈lk∧key= .l (i+j) p∧k= .p (.obj j' q 0)
 | [],_,h=>by cases h
 | .ob t r s lk::l,i,h=>by
  rcases List.mem_append.1 h with h | h
  ·obtain⟨p,j',q,h1,h2,h3⟩:=zZ h
   exact⟨0,t,r,s,lk,p,j',q,rfl,h1,h2,h3⟩
  ·obtain⟨j,t,r,s,lk,p,j',q,h1,h2,h3,h4⟩:=jd (l:=l) h
   exact⟨j+1,t,r,s,lk,p,j',q,h1,h2,by rw [h3];congr 1;omega,h4⟩
 | .blk _ _ _::l,i,h=>by
  obtain⟨j,t,r,s,lk,p,j',q,h1,h2,h3,h4⟩:=jd (l:=l) h
  exact⟨j+1,t,r,s,lk,p,j',q,h1,h2,by rw [h3];congr 1;omega,h4⟩
 | .lst _ _ _ _ _ _::l,i,h=>by
  obtain⟨j,t,r,s,lk,p,j',q,h1,h2,h3,h4⟩:=jd (l:=l) h
  exact⟨j+1,t,r,s,lk,p,j',q,h1,h2,by rw [h3];congr 1;omega,h4⟩
theorem sm(f:Nat→Option Nat)(k:Option Kn)(v:Value):iH (z2 f k) v=iH k v:=by
 cases k with
 | none=>rfl
 | some k=>
  cases k with
  | p p=>show iH ((p.ren f).map .p) v=_;cases p.ren f<;>rfl
  | _=>rfl
theorem ft {rs:List (Res U)} {v:Value} {k:Option Kn}(h:KnO rs v k):Ending.returned v=iH k v:=by
 cases k with
 | none=>rfl
 | some k=>cases k<;>first | rfl | exact h.elim
theorem sy {f:Nat} {args:List Value} {ks:List (Option Kn)} {st:St U} {K:eZ U} {w0:World} {X0 X:Nat→Nat→Prop} {w:World} {fr:Fr}(Kx:∀f c,tbl.c f=some c→LV U P f c)(hI:Inv w0 k0 X0 may st.rs X w)(hk:av st.rs fr st.kn)
 (UR:∀j v k,nth args j=some v→nth ks j=some k→KnO st.rs v k)(h:call2 U tbl may k0 f args ks st K):
 Calls P f ⟨args⟩ w fun e w'=>∃v k st' X' M,e=iH k v∧K v k st'∧(k=some .pan∨KnO st'.rs v k)∧dQ w0 k0 X0 may fr st X w st' X' w' M:=by
 unfold call2 at h
 split at h
 ·exact h.elim
 rename_i c hc
 have hlv:=Kx f c hc
 obtain⟨B1,θ1,az,h,e1,g1,la,da⟩:=v9 h
 obtain⟨θ2,h,e2⟩:=sB h
 obtain⟨B2,θ,ps,h,e3,g3,lp,dp⟩:=v7 h
 split at h
 case h_2=>exact h.elim
 rename_i M hb hM
 simp only [Bool.and_eq_true]at hb
 obtain⟨Lz,WV,Ko⟩:=hb
 split at h
 case h_2=>exact h.elim
 rename_i Kk
 have ME:∀a b i,cG θ a=some i→cG θ b=some i→a=b:=fun a b i=>GO Lz
 have JM:∀j i,cG θ j=some i→j<ps.length:=fun j i hj=>by
  have:=cu.1 WV _ (kW hj)
  rw [lp]
  simpa [Nat.blt_eq]using this
 have KC:∀ {p q v},p.ren (cG θ)=some q→den U st.rs q=some v→den U (aF PR.iW ps) p=some v:=by
  intro p q v hp hd
  obtain⟨y,hy⟩:=bV (JM _ _ (PK.tq hp))
  obtain⟨id,x,h1,h2,h3,_⟩:=dp _ y hy
  rw [Nat.zero_add,PK.tq hp]at h1
  injection h1 with h1
  subst h1
  unfold den at hd ⊢
  rw [h2]at hd
  rw [aY,hy,← hd]
  simp only [Option.map_some]
  cases y with
  | ob t r s lk=>
   cases h3.1
   cases p<;>simp only [PK.ren,Option.map_eq_some_iff]at hp<;>obtain⟨i,hi,rfl⟩:=hp<;>rfl
  | blk g as' T=>
   obtain⟨cs,rfl,_⟩:=h3
   cases p<;>simp only [PK.ren,Option.map_eq_some_iff]at hp<;>obtain⟨i,hi,rfl⟩:=hp<;>rfl
  | lst t own T A c' l=>
   obtain⟨own',T',rfl,_⟩:=h3
   cases p<;>simp only [PK.ren,Option.map_eq_some_iff]at hp<;>obtain⟨i,hi,rfl⟩:=hp<;>rfl
 have hav:∀ {v:Value} {k:Option PK} {a:AV},AvD θ v k a→(∀p,k=some p→den U st.rs p=some v)→jj (aF PR.iW ps) a=v:=by
  intro v k a ha OJ
  cases a with
  | v x=>exact ha
  | k p=>
   obtain⟨q,hq,hr⟩:=ha
   show(den U _ p).getD undef=v
   rw [KC hr (OJ q hq)];rfl
 have U7:∀ {vs:List Value} {kc:Nat→Option PK} {az:List AV},zy θ vs kc 0 az→(∀j v p,nth vs j=some v→kc j=some p→den U st.rs p=some v)→aF (jj (aF PR.iW ps)) az=vs:=by
  intro vs kc az hd OJ
  apply List.ext_getElem?
  intro j
  rw [← aH,← aH,aY]
  cases ha:nth az j with
  | none=>
   have:vs.length≤j:=by
    rw [← hd.1]
    apply Nat.le_of_not_lt
    intro hh
    obtain⟨x,hx⟩:=bV hh
    rw [hx]at ha;cases ha
   rw [pZ this];rfl
  | some a=>
   obtain⟨v,hv⟩:=bV (l:=vs) (i:=j) (by rw [← hd.1];exact aU ha)
   rw [hv]
   have hd':=hd.2 j a v ha hv
   rw [Nat.zero_add]at hd'
   exact congrArg some (hav hd' (fun p hp=>OJ j v p hv hp))
 have LP:aF (qF (aF PR.iW ps)) az=args:=by
  apply List.ext_getElem?
  intro j
  rw [← aH,← aH,aY]
  cases ha:nth az j with
  | none=>
   have:args.length≤j:=by
    rw [← la]
    apply Nat.le_of_not_lt
    intro hh
    obtain⟨x,hx⟩:=bV hh
    rw [hx]at ha;cases ha
   rw [pZ this];rfl
  | some a=>
   obtain⟨v,hv⟩:=bV (l:=args) (i:=j) (by rw [← la];exact aU ha)
   rw [hv]
   obtain⟨k,J5,hd⟩:=da j a v ha hv
   have hd:=hd.mono (e2.trans e3)
   have K2:=UR j v k hv J5
   cases a with
   | one a=>
    refine congrArg some (hav hd fun p hp=>?_)
    unfold iw at hp
    split at hp
    ·injection hp with hp;subst hp;exact K2
    ·cases hp
   | agg as'=>
    obtain⟨cs,rfl,hd2⟩:=hd
    have h9:=U7 hd2 (fun j v p hv hp=>by
     unfold Hs at hp
     split at hp
     ·rename_i l _
      obtain⟨cs',e,hh⟩:=K2
      injection e with e
      subst e
      split at hp
      ·rename_i o ho
       subst hp
       obtain⟨u,hu,hd⟩:=hh _ _ ho
       rw [aH]at hv
       have:some v=some u:=by rw [← hv,← hu];simp
       injection this with this
       rw [this];exact hd
      ·cases hp
     ·cases hp)
    show some (Value.agg ⟨aF _ as'⟩)=_
    rw [h9]
 have M8:Emb (cG θ) (dE ps) st.rs:=by
  intro j r hr
  rw [jg]at hr
  cases hy:nth ps j with
  | none=>rw [hy]at hr;cases hr
  | some y=>
   rw [hy]at hr
   injection hr with hr
   obtain⟨id,x,h1,h2,h3,_⟩:=dp _ y hy
   rw [Nat.zero_add]at h1
   refine⟨id,x,h1,h2,?_⟩
   cases y with
   | ob t r' s lk=>exact .inl (by rw [← hr,h3.1];rfl)
   | blk g as' T=>
    obtain⟨cs,rfl,hd⟩:=h3
    left
    rw [← hr]
    show Res.blk g (aF _ as') T=_
    rw [U7 hd fun o v p hv hp=>?_]
    unfold iw at hp
    split at hp
    ·rename_i q hq
     injection hp with hp
     subst hp
     obtain⟨g',cs',T',u,e4,e5,e6⟩:=hk.get hq
     rw [h2]at e4
     injection e4 with e4
     injection e4 with _ e4 _
     subst e4
     rw [hv]at e5
     injection e5 with e5
     subst e5
     exact e6
    ·cases hp
   | lst t own T A c' l=>
    obtain⟨own',T',rfl,ho⟩:=h3
    cases own with
    | false=>exact .inr ⟨t,own',T,T',A,c',l,hr.symm,rfl⟩
    | true=>
     obtain⟨Ww,M6⟩:=ho rfl
     left
     rw [← hr,Ww,M6];rfl
 have WB:∀j,j∈c.bk→∀r,nth (dE ps) j=some r→∃i,cG θ j=some i∧nth st.rs i=some r:=by
  intro j hj r hr
  obtain⟨i,r',h1,h2,h3⟩:=M8 j r hr
  refine⟨i,h1,?_⟩
  rcases h3 with rfl | ⟨t,own,T,T',A,c',l,rfl,rfl⟩
  ·exact h2
  ·exfalso
   have hm:=cu.1 Ko j hj
   rw [jg]at hr
   cases hy:nth ps j with
   | none=>rw [hy]at hr;cases hr
   | some y=>
    rw [hy]at hr
    injection hr with hr
    obtain⟨_,_,_,_,_,q,hq,Wp⟩:=dp j y hy
    rw [hq]at hm
    have We:GZ y=true:=by
     cases y<;>simp only [PR.fin,reduceCtorEq]at hr
     injection hr with e1 e2
     subst e2;rfl
    rw [We]at Wp
    cases q<;>simp [GV]at Wp
    subst Wp
    simp at hm
 have NW:∀j i,cG θ j=some i→X ((cG θ j).getD 0)=X i:=fun j i hj=>by simp [hj]
 have hsat:Sat (dE ps) (fun j=>X ((cG θ j).getD 0)) w:=by
  refine⟨fun j r hr=>?_,fun i j hi hj Kh k KT=>?_⟩
  ·obtain⟨i,r',h1,h2,h3⟩:=M8 j r hr
   rw [NW j i h1]
   have:=hI.sat.res i r' h2
   rcases h3 with rfl | ⟨t,own,T,T',A,c',l,rfl,rfl⟩
   ·exact this
   ·exact this.rd
  ·obtain⟨x,hx⟩:=bV hi
   obtain⟨y,hy⟩:=bV hj
   obtain⟨a,_,h1,h2,_⟩:=M8 i x hx
   obtain⟨b,_,h3,h4,_⟩:=M8 j y hy
   rw [NW i a h1]at KT
   rw [NW j b h3]
   exact hI.sat.dis a b (aU h2) (aU h4) (fun e=>Kh (ME i j a h1 (e▸h3))) k KT
 have P8:=g3 _ (g1 _ hlv)
 have QR:av (dE ps) fr0 (tF 0 ps):=by
  intro key k hm
  obtain⟨j,t,r,s,lk,p,j',q,e1,e2,rfl,rfl⟩:=jd hm
  rw [Nat.zero_add]
  obtain⟨id,x,h1,h2,h3,_⟩:=dp _ _ e1
  rw [Nat.zero_add]at h1
  obtain⟨h3,h4⟩:=h3
  obtain⟨i,h5,h6⟩:=h4 _ _ _ e2
  refine⟨t,r,s,by rw [jg,e1];rfl,?_⟩
  dsimp only at h5
  unfold iw at h5
  split at h5
  ·rename_i k' Ml
   injection h5 with h5
   subst h5
   obtain⟨t',r',s',g1,g2⟩:=hk.get Ml
   rw [h2,h3]at g1
   injection g1 with g1
   cases g1
   show den U (dE ps) (.obj j' q 0)=_
   rw [oY]
   exact KC (p:= .obj j' q 0) (q:= .obj i q 0) (by simp [PK.ren,h6]) g2
  ·cases h5
 have L4:=P8 _ h _ w hsat QR
 rw [LP]at L4
 refine L4.mono fun e w' hp=>?_
 obtain⟨out,rsl,Xl,rfl,hQ,JS,Lb⟩:=hp
 split at hQ
 case h_2=>exact hQ.elim
 rename_i rs' OE
 obtain⟨WT,UL⟩:=oA ME hM JS OE M8 WB
 obtain⟨u1,u2,u3⟩:=gi OE
 obtain⟨v1,v2,v3⟩:=gi JS
 have Py:∀i,i∈M→i<st.rs.length:=fun i hi=>(u3 i hi).1
 have hkl:c.res.length=ps.length:=lp.symm
 have MR:rsl.length=ps.length:=by rw [v1];simp
 have MG:Emb (zF θ c.res.length st.rs.length) (rsl++out.news) (rs'++out.news):=by
  intro j r hr
  rw [bf]at hr
  unfold zF
  by_cases hj:j<rsl.length
  ·rw [if_pos hj]at hr
   obtain⟨i,r',h1,h2,h3⟩:=WT j r hr
   have hb:Nat.blt j c.res.length=true:=by rw [Nat.blt_eq];omega
   rw [hb]
   exact⟨i,r',h1,by rw [bf,if_pos (aU h2)];exact h2,h3⟩
  ·rw [if_neg hj]at hr
   have hb:Nat.blt j c.res.length=false:=by
    cases hb:Nat.blt j c.res.length
    ·rfl
    ·rw [Nat.blt_eq]at hb;omega
   rw [hb]
   refine⟨_,r,rfl,?_,.inl rfl⟩
   rw [bf,if_neg (by omega),u1]
   rw [show st.rs.length+(j - c.res.length) - st.rs.length=j - rsl.length by omega]
   exact hr
 let X':Nat→Nat→Prop:=fun i=>open Classical in if h:∃j,j∈c.bk∧cG θ j=some i then Xl h.choose else if i<st.rs.length then X i else Xl (c.res.length+(i - st.rs.length))
 have W5:∀j i,j∈c.bk→cG θ j=some i→X' i=Xl j:=by
  intro j i hj hi
  have hex:∃j,j∈c.bk∧cG θ j=some i:=⟨j,hj,hi⟩
  show(open Classical in if h:_ then _ else _)=_
  rw [dif_pos hex,ME _ _ _ hex.choose_spec.2 hi]
 have W8:∀i,i∈M→∃j,j∈c.bk∧cG θ j=some i:=fun i hi=>vq hM i hi
 have hjM:∀j i,j∈c.bk→cG θ j=some i→i∈M:=by
  intro j i hj hi
  obtain⟨b,hb,O3⟩:=lf hM j hj
  rw [hi]at O3
  injection O3 with O3
  exact O3▸hb
 have hXs:∀i,i<st.rs.length→i ∉ M→X' i=X i:=by
  intro i hi hm
  show(open Classical in if h:_ then _ else _)=_
  rw [dif_neg (fun⟨j,hj,Kj⟩=>hm (hjM j i hj Kj)),if_pos hi]
 have W4:∀i,st.rs.length≤i→X' i=Xl (c.res.length+(i - st.rs.length)):=by
  intro i hi
  show(open Classical in if h:_ then _ else _)=_
  rw [dif_neg (fun⟨j,hj,Kj⟩=>by have:=Py i (hjM j i hj Kj);omega),if_neg (by omega)]
 have Pq:∀j,j∈c.bk→j<ps.length:=by
  intro j hj
  obtain⟨b,_,hb⟩:=lf hM j hj
  exact JM j b hb
 have WC:∀j r,j∈c.bk→nth rsl j=some r→nth (rsl++out.news) j=some r:=fun j r hj hr=>by rw [bf,if_pos (aU hr)];exact hr
 have Wm:∀j i r,j∈c.bk→cG θ j=some i→nth rs' i=some r→nth rsl j=some r:=by
  intro j i r hj hi hr
  obtain⟨r0,OH⟩:=bV (l:=rsl) (i:=j) (by rw [MR];exact Pq j hj)
  obtain⟨i',h1,h2⟩:=UL j hj r0 OH
  rw [hi]at h1
  injection h1 with h1
  subst h1
  rw [hr]at h2
  injection h2 with h2
  rw [OH,h2]
 have hq:Ch (fun k=>∃j,j∈M∧X j k) w w':=Lb.ch.mono fun k ⟨j,hj,hk⟩=>by
  obtain⟨b,hb,O3⟩:=lf hM j hj
  exact⟨b,hb,by rw [NW j b O3]at hk;exact hk⟩
 have P7:∀i,i∈M→∀k,X' i k→X i k∨w.heap.size≤k:=by
  intro i hi k hk
  obtain⟨j,hj,Kj⟩:=W8 i hi
  rw [W5 j i hj Kj]at hk
  have:=Lb.grow j hj k hk
  rwa [NW j i Kj]at this
 have hnlen:(rs'++out.news).length=st.rs.length+out.news.length:=by rw [List.length_append,u1]
 have QO:∀i,st.rs.length≤i→i<(rs'++out.news).length→∀k,X' i k→w.heap.size≤k:=by
  intro i h1 h2 k hk
  rw [W4 i h1]at hk
  exact Lb.new _ (by simp;omega) (by simp;omega) k hk
 have KW:∀i,i<st.rs.length→i ∉ M→nth (rs'++out.news) i=nth st.rs i∧X' i=X i:=fun i hi hm=>⟨by rw [bf,if_pos (by omega)];exact u2 i hm,hXs i hi hm⟩
 have hinv:Inv w0 k0 X0 may (rs'++out.news) X' w':=by
  refine hI.step M hq (fun j hj=>⟨Py j hj,gg (cu.1 Kk j hj)⟩) (by omega) KW ?_ P7 QO ?_
  ·intro i hi r hr
   by_cases QV:i∈M
   ·obtain⟨j,hj,Kj⟩:=W8 i QV
    rw [bf,if_pos (by have:=Py i QV;omega)]at hr
    have h1:=Wm j i r hj Kj hr
    rw [W5 j i hj Kj]
    exact Lb.sat.res j r (WC j r hj h1)
   ·have hi:=hi.resolve_left QV
    rw [bf,if_neg (by omega)]at hr
    rw [W4 i hi]
    refine Lb.sat.res _ r ?_
    rw [bf,if_neg (by omega)]
    rw [show c.res.length+(i - st.rs.length) - rsl.length=i - rs'.length by omega]
    exact hr
  ·intro i j hi hj Kh h1 h2 k hk
   have key:∀i,(i∈M∨st.rs.length≤i)→i<(rs'++out.news).length→∃a,X' i=Xl a∧a<(rsl++out.news).length∧((i∈M∧a∈c.bk∧cG θ a=some i)∨(st.rs.length≤i∧a=c.res.length+(i - st.rs.length))):=by
    intro i hi Vy
    by_cases QV:i∈M
    ·obtain⟨a,ha,hai⟩:=W8 i QV
     exact⟨a,W5 a i ha hai,by have:=Pq a ha;simp;omega,.inl ⟨QV,ha,hai⟩⟩
    ·have hi:=hi.resolve_left QV
     exact⟨_,W4 i hi,by simp;omega,.inr ⟨hi,rfl⟩⟩
   obtain⟨a,ea,la',ca⟩:=key i hi h1
   obtain⟨b,eb,lb,cb⟩:=key j hj h2
   rw [ea]at hk
   rw [eb]
   refine Lb.sat.dis a b la' lb (fun RE=>?_) k hk
   subst RE
   rcases ca with⟨m1,m2,m3⟩ | ⟨m1,m2⟩<;>rcases cb with⟨n1,n2,n3⟩ | ⟨n1,n2⟩
   ·rw [m3]at n3;injection n3 with n3;exact Kh n3
   ·have:=Pq a m2;omega
   ·have:=Pq a n2;omega
   ·omega
 have hQ:=k9 (fun i r hr=>⟨_,_,hinv.sat.res i r hr⟩) hQ
 refine⟨out.res,_,_,X',M,(sm ..).symm,hQ,Lb.kr.imp (fun e=>by rw [e];rfl) MG.knO,hinv,?_,rfl,Py,fun i hi=>gg (cu.1 Kk i hi),by simp only [];omega,KW,P7,QO,hq,fun i a ha=>by
  by_cases hi:i∈M
  ·obtain⟨b,hb,hr⟩:=(u3 i hi).2 a ha
   exact⟨b,by rw [bf,if_pos (aU hb)];exact hb,hr⟩
  ·exact⟨a,by rw [(KW i (aU ha) hi).1];exact ha,de.refl a⟩⟩
 refine av.app ?_ (av.fj hk (fun i hi hm=>(KW i hi hm).1) fun i hi a ha=>?_)
 ·intro key k' JJ
  obtain⟨i,i',o,k,⟨rfl,h1⟩ | ⟨rfl,h1⟩,h2,h3⟩:=je JJ
  ·obtain⟨g,cs,T,v,e1,e2,e3⟩:=Lb.kc _ k h1 (fun _ e=>by cases e)
   obtain⟨i2,r',f1,f2,f3⟩:=MG i _ e1
   rw [h2]at f1
   injection f1 with f1
   subst f1
   rcases f3 with rfl | ⟨_,_,_,_,_,_,_,hh,_⟩
   ·exact⟨g,cs,T,v,f2,e2,MG.kn h3 e3⟩
   ·cases hh
  ·obtain⟨t,r,s,e1,e2⟩:=Lb.kc _ k h1 (fun _ e=>by cases e)
   obtain⟨i2,r',f1,f2,f3⟩:=MG i _ e1
   rw [h2]at f1
   injection f1 with f1
   subst f1
   rcases f3 with rfl | ⟨_,_,_,_,_,_,_,hh,_⟩
   ·exact⟨t,r,s,f2,MG.kn h3 e2⟩
   ·cases hh
 ·obtain⟨b,hb,hr⟩:=(u3 i hi).2 a ha
  exact⟨b,by rw [bf,if_pos (aU hb)];exact hb,hr⟩
end
end
section
section
variable {U:Uni} {P:Program} {tbl:Tb U} {may:List Nat} {k0:Nat}
variable {w0:World} {X0 X:Nat→Nat→Prop} {w:World} {fr:Fr} {st:St U} {Qp:Option (List PanicEntry→World→Prop)}
theorem tw:∀ {vs:List Value} {F:Prop},(∀v,v∈vs→one? v True)→F→nK vs F
 | [],_,_,h=>h
 | v::r,F,h1,h=>by
  have h2:=oP (h1 v (List.mem_cons_self ..))
  have h3:=tw (F:=F) (fun u hu=>h1 u (List.mem_cons_of_mem _ hu)) h
  unfold nK one?
  cases v<;>first | exact h3 | exact absurd rfl (h2.2.1 _) | exact absurd rfl (h2.2.2 _)
theorem ml(hI:Inv w0 k0 X0 may st.rs X w)(hk:av st.rs fr st.kn) {i:Nat} {a b:Res U}(ha:nth st.rs i=some a)(hc:mV may k0 i=true) {w':World}(q:Ch (X i) w w')(OY:de a b)(hb:RS (X i) w' b) {kn':List (Key×Kn)}(K2:av (cy st.rs i b) fr kn'):
 dQ w0 k0 X0 may fr st X w ⟨cy st.rs i b,kn',i::st.md⟩ X w' [i]:=by
 have hi:=aU ha
 have hinv:=hI.set hi (gg hc) q hb (fun k hk=>.inl hk)
 have e:tg X i (X i)=X:=by
  funext j
  unfold tg
  split
  ·rename_i h;rw [h]
  ·rfl
 rw [e]at hinv
 exact⟨hinv,K2,rfl,fun j hj=>by simp at hj;subst hj;exact hi,fun j hj=>by simp at hj;subst hj;exact gg hc,by simp,fun j hj Kj=>⟨by rw [br,if_neg (fun hh=>Kj (by simp [hh.1]))],rfl⟩,fun _ _ _ h=>.inl h,fun j h1 h2=>by simp at h2;omega,q.mono fun k hk=>⟨i,by simp,hk⟩,fun j c hj=>by
  by_cases Kj:j=i
  ·subst Kj
   rw [ha]at hj
   injection hj with hj
   subst hj
   exact⟨b,by rw [br,if_pos ⟨rfl,hi⟩],OY⟩
  ·exact⟨c,by rw [br,if_neg (fun hh=>Kj hh.1)];exact hj,de.refl c⟩⟩
theorem nD(hI:Inv w0 k0 X0 may st.rs X w)(hk:av st.rs fr st.kn) {r:Res U} {Z:Nat→Prop} {w':World}(q:Pu w w')(hr:RS Z w' r)(hz:∀k,Z k→w.heap.size≤k) {kn':List (Key×Kn)}(K2:av (st.rs++ [r]) fr kn'):
 dQ w0 k0 X0 may fr st X w ⟨st.rs++ [r],kn',st.md⟩ (tg X st.rs.length Z) w' []:=
 ⟨hI.more q hr hz,K2,rfl,fun j hj=>(by cases hj),fun j hj=>(by cases hj),by simp,fun i hi _=>⟨by rw [bf,if_pos hi],l9 _ _ (by omega)⟩,fun i hi=>(by cases hi),fun i h1 h2 k hk=>by
  simp at h2
  obtain rfl:i=st.rs.length:=by omega
  rw [updX_eq]at hk
  exact hz k hk,q.mono fun k h=>h.elim,fun i a ha=>⟨a,by rw [bf,if_pos (aU ha)];exact ha,de.refl a⟩⟩
theorem oR(hk:av st.rs fr st.kn)(r:Res U):av (st.rs++ [r]) fr st.kn:=
 hk.fe (M:= []) (fun i hi _=>by rw [bf,if_pos hi]) (fun i hi=>by cases hi) fun key k h=>⟨h,fun p _=>.inl (by simp),fun id off _=>.inl (by simp)⟩
theorem Blk.rs {g:Nat} {cs:Array Value} {T:TypeId} {w':World}(h:Blk w' g cs T):RS (U:=U) (fun k=>k=g) w' (.blk g cs.toList T):=⟨rfl,fun _ h=>h,h⟩
theorem n9 {α:Type}(vs L:List α)(off:Nat)(h:off+vs.length≤L.length):gD L off vs=L.take off++vs++L.drop (off+vs.length):=by
 apply List.ext_getElem?
 intro j
 rw [← aH,k8 _ _ _ _ h,List.append_assoc]
 by_cases h3:off≤j∧j<off+vs.length
 ·rw [if_pos h3,List.getElem?_append_right (by simp;omega),List.getElem?_append_left (by simp;omega),aH]
  congr 1
  simp
  omega
 ·rw [if_neg h3,aH]
  by_cases h4:j<off
  ·rw [List.getElem?_append_left (by simp;omega),List.getElem?_take,if_pos h4]
  ·rw [List.getElem?_append_right (by simp;omega),List.getElem?_append_right (by simp;omega),List.getElem?_drop]
   congr 1
   simp
   omega
theorem im.cells {rs:List (Res U)} {v:Value} {k:Kn}(h:im rs v k)(Wz:∀l,k≠ .ag l):v.cells= #[v]:=by
 cases k with
 | pan=>exact h.elim
 | ag l=>exact absurd rfl (Wz l)
 | p k=>
  have h:cm U k (nth rs k.id)=some v:=h
  cases hn:nth rs k.id with
  | none=>rw [hn]at h;cases k<;>simp [cm]at h
  | some r=>
   rw [hn]at h
   cases k with
   | loc _ _=>cases r<;>simp only [cm,reduceCtorEq,Option.some.injEq]at h;subst h;rfl
   | obj _ _ _=>cases r<;>simp only [cm,reduceCtorEq,Option.some.injEq]at h;subst h;rfl
   | sl _ li=>
    simp only [cm]at h
    split at h
    ·injection h with h;subst h;rfl
    ·cases h
   | el _ li _ _=>
    simp only [cm]at h
    split at h
    ·split at h
     ·injection h with h;subst h;rfl
     ·cases h
    ·cases h
 | t l=>obtain⟨vs,rfl,_⟩:=h;rfl
 | f a b=>obtain⟨f,fs,cs,rfl,_,_⟩:=h;rfl
theorem lS {id:Nat} {key:Key} {q:Kn}:∀ {l:List (Option PK)} {o:Nat},(key,q)∈tR id o l→∃j p,key= .c id (o+j)∧q= .p p∧nth l j=some (some p)
 | [],_,h=>by cases h
 | none::l,o,h=>by
  obtain⟨j,p,h1,h2,h3⟩:=lS (l:=l) (o:=o+1) h
  exact⟨j+1,p,by rw [h1];congr 1;omega,h2,h3⟩
 | some p::l,o,h=>by
  rcases List.mem_cons.1 h with e | h
  ·injection e with e1 e2
   exact⟨0,p,e1,e2,rfl⟩
  ·obtain⟨j,p,h1,h2,h3⟩:=lS (l:=l) (o:=o+1) h
   exact⟨j+1,p,by rw [h1];congr 1;omega,h2,h3⟩
theorem ox {rs:List (Res U)} {v:Value} {ky:Option Kn}(hv:KnO rs v ky) {id off:Nat} {sc:Bool} {key:Key} {q:Kn}(h:(key,q)∈cellsOf id off sc ky):∃j u,key= .c id (off+j)∧nth v.cells.toList j=some u∧im rs u q:=by
 have one:∀ {k:Kn},ky=some k→(∀l,k≠ .ag l)→(key,q)∈(match sc with | true=>[(Key.c id off,k)] | false=>[])→∃j u,key= .c id (off+j)∧nth v.cells.toList j=some u∧im rs u q:=by
  intro k hk Wz hm
  subst hk
  split at hm
  ·simp only [List.mem_singleton,Prod.mk.injEq]at hm
   obtain⟨rfl,rfl⟩:=hm
   exact⟨0,v,rfl,by rw [im.cells hv Wz];rfl,hv⟩
  ·cases hm
 cases ky with
 | none=>cases h
 | some k=>
  cases k with
  | pan=>cases h
  | ag l=>
   obtain⟨j,p,h1,h2,h3⟩:=lS h
   obtain⟨cs,rfl,hh⟩:=hv
   obtain⟨u,hu,hd⟩:=hh j p h3
   subst h2
   exact⟨j,u,h1,by show nth cs.toList j=_;rw [aH];simpa using hu,hd⟩
  | p p=>exact one rfl (fun l e=>by cases e) h
  | t l=>exact one rfl (fun l e=>by cases e) h
  | f a b=>exact one rfl (fun l e=>by cases e) h
theorem av.roots {rs rs':List (Res U)} {fr:Fr} {kn:List (Key×Kn)}(h:av rs fr kn)(hr:∀i a,nth rs i=some a→∃b,nth rs' i=some b∧(a=b∨∃t own T A c l l',a= .lst t own T A c l∧b= .lst t own T A c l'∧l'.length=l.length)):av rs' fr kn:=by
 have hd:∀p u,den U rs p=some u→den U rs' p=some u:=by
  intro p u hu
  unfold den at hu ⊢
  cases hn:nth rs p.id with
  | none=>rw [hn]at hu;cases p<;>simp [cm]at hu
  | some a=>
   rw [hn]at hu
   obtain⟨b,hb,rfl | ⟨t,own,T,A,c,l,l',rfl,rfl,hl⟩⟩:=hr _ _ hn
   ·rw [hb];exact hu
   ·rw [hb,← hu];cases p<;>simp only [cm,jb,hl]
 intro key k hk
 have h0:=h key k hk
 cases key with
 | s i=>exact im.mono h0 fun p _=>hd p
 | c id off=>
  obtain⟨g,cs,T,v,e1,e2,e3⟩:=h0
  obtain⟨b,hb,rfl | ⟨_,_,_,_,_,_,_,hh,_⟩⟩:=hr _ _ e1
  ·exact⟨g,cs,T,v,hb,e2,e3.mono fun p _=>hd p⟩
  ·cases hh
 | l id path=>
  obtain⟨t,r,s,e1,e2⟩:=h0
  obtain⟨b,hb,rfl | ⟨_,_,_,_,_,_,_,hh,_⟩⟩:=hr _ _ e1
  ·exact⟨t,r,s,hb,e2.mono fun p _=>hd p⟩
  ·cases hh
theorem iV {t:TypeId} {x y:Operand} {p:Addr} {fr:Fr} {dst:Option Tmp} {ty:TypeId} {pos:String} {after:Array Edge} {gd:Option (Nat×Bool)} {Y:Bool} {K:aD}(hx:ev fr x= .pointer (some p))(Ki:E9 P t=false)(JR:Nat.beq (ev fr y).cells.toList.length (bq P t)=true)(hT:hasType P t=true)
 (h1:∀v,v∈(ev fr y).cells.toList→one? v True)(h:aG w p (ev fr y).cells.toList fun w'=>K undef w'):opW P Y Qp ⟨dst,.store t x y,ty,pos,after,gd⟩ (ev fr) w K:=by
 refine zS (C:= []) rfl ?_
 show(match ev fr x with
  | .pointer a=>match di P t with
   | .row n=>(match hasType P t && Nat.beq n (bq P t),ev fr y with
    | true,.agg cs=>ar a fun p=>cs.size=n∧(∀v∈cs.toList,one? v True)∧aG w p cs.toList fun w'=>K undef w'
    | _,_=>False)
   | _=>match Nat.beq (ev fr y).cells.toList.length (bq P t) && hasType P t with
    | true=>ar a fun p=>nK (ev fr y).cells.toList (aG w p (ev fr y).cells.toList fun w'=>K undef w')
    | false=>False
  | _=>False)
 rw [hx]
 unfold E9 at Ki
 cases hs:di P t with
 | row n=>rw [hs]at Ki;cases Ki
 | one s=>simp only [JR,hT];exact ai p rfl (tw h1 h)
 | agg l=>simp only [JR,hT];exact ai p rfl (tw h1 h)
theorem step_done {K:eZ U} {st':St U} {X':Nat→Nat→Prop} {w':World} {M l:List Nat} {v:Value} {k:Option Kn}(hs:dQ w0 k0 X0 may fr st X w st' X' w' M)(hv:KnO st'.rs v k)(h:nmL st'.rs l fun JX=>K v k ⟨JX,st'.kn,st'.md⟩):
 ∃k st' X' M,K v k st'∧KnO st'.rs v k∧dQ w0 k0 X0 may fr st X w st' X' w' M:=
 ⟨k,st',X',M,k9 (F:=fun JX=>K v k ⟨JX,st'.kn,st'.md⟩) (fun i r hr=>⟨_,_,hs.inv.sat.res i r hr⟩) h,hv,hs⟩
theorem tz {tt:Nat} {r:Nat→Nat} {s s':U.ty tt} {id:Nat} {K:eZ U}(hI:Inv w0 k0 X0 may st.rs X w)(hk:av st.rs fr st.kn)(hn:nth st.rs id=some (.ob tt r s))(Kk:mV may k0 id=true) {w2:World}(hq:Ch (X id) w w2)(JD:U.pred tt r s' (X id) w2)
 (hK:nmL (cy st.rs id (.ob tt r s')) [id] fun JX=>K undef none ⟨JX,fj [id] st.kn,id::st.md⟩):
 ∃k st' X' M,K undef k st'∧KnO st'.rs undef k∧dQ w0 k0 X0 may fr st X w st' X' w2 M:=by
 refine step_done (k:=none) (st':=⟨cy st.rs id (.ob tt r s'),fj [id] st.kn,id::st.md⟩) (ml hI hk hn Kk hq (.ob tt r s s') JD ?_) trivial hK
 refine hk.fj (M:= [id]) (fun i _ hi=>by rw [br,if_neg (fun hh=>hi (by simp [hh.1]))]) fun i hi a ha=>?_
 simp only [List.mem_singleton]at hi
 subst hi
 rw [hn]at ha
 injection ha with ha
 subst ha
 exact⟨_,by rw [br,if_pos ⟨rfl,aU hn⟩],.ob tt r s s'⟩
theorem yb {t:TypeId} {x y:Operand} {p:Addr} {n:Nat} {cs:Array Value} {fr:Fr} {dst:Option Tmp} {ty:TypeId} {pos:String} {after:Array Edge} {gd:Option (Nat×Bool)} {Y:Bool} {K:aD}(hx:ev fr x= .pointer (some p))(Ki:di P t= .row n)(hy:ev fr y= .agg cs)(hn:Nat.beq n (bq P t)=true)(hc:cs.size=n)(hT:hasType P t=true)
 (h1:∀v,v∈cs.toList→one? v True)(h:aG w p cs.toList fun w'=>K undef w'):opW P Y Qp ⟨dst,.store t x y,ty,pos,after,gd⟩ (ev fr) w K:=by
 refine zS (C:= []) rfl ?_
 show(match ev fr x with
  | .pointer a=>match di P t with
   | .row n=>(match hasType P t && Nat.beq n (bq P t),ev fr y with
    | true,.agg cs=>ar a fun p=>cs.size=n∧(∀v∈cs.toList,one? v True)∧aG w p cs.toList fun w'=>K undef w'
    | _,_=>False)
   | _=>match Nat.beq (ev fr y).cells.toList.length (bq P t) && hasType P t with
    | true=>ar a fun p=>nK (ev fr y).cells.toList (aG w p (ev fr y).cells.toList fun w'=>K undef w')
    | false=>False
  | _=>False)
 rw [hx,Ki,hy]
 simp only [hT,hn,Bool.and_self]
 exact ai p rfl ⟨hc,h1,h⟩
theorem uY {t:TypeId} {x y:Operand} {K:eZ U}(hI:Inv w0 k0 X0 may st.rs X w)(hk:av st.rs fr st.kn)(h:tj U P may k0 t (kf st.kn x) (ev fr y) st K) {Y:Bool} {dst:Option Tmp} {ty:TypeId} {pos:String} {after:Array Edge} {gd:Option (Nat×Bool)}:
 opW P Y Qp ⟨dst,.store t x y,ty,pos,after,gd⟩ (ev fr) w fun v w'=>∃k st' X' M,K v k st'∧KnO st'.rs v k∧dQ w0 k0 X0 may fr st X w st' X' w' M:=by
 unfold tj at h
 have K1:=hk.kf x
 split at h
 ·rename_i n id path off cs Ki K2 hy
  rw [K2]at K1
  split at h
  ·rename_i tt r s hb hn Kk
   obtain⟨h,h1⟩:=fX h
   simp only [Bool.and_eq_true]at hb
   split at h
   ·rename_i c s' La
    obtain⟨hc,hK⟩:=h
    have hd:den U st.rs (.obj id path off)=some (ev fr x):=K1
    simp only [den,PK.id,hn,cm,Option.some.injEq]at hd
    have hp:U.pred tt r s (X id) w:=hI.sat.res id _ hn
    exact yb (p:=⟨r path,off,none⟩) hd.symm Ki hy hb.2.1 (by have:=Nat.eq_of_beq_eq_true hb.2.2;simpa using this) hb.1 h1 (U.ph hp La hc fun w2 JD hq=>tz hI hk hn Kk hq JD hK)
   ·exact h.elim
  ·exact h.elim
 ·exact h.elim
theorem yc {t:TypeId} {x y:Operand} {K:eZ U}(hI:Inv w0 k0 X0 may st.rs X w)(hk:av st.rs fr st.kn)(h:yd U P may k0 t (kf st.kn x) (ev fr y) (kf st.kn y) st K) {Y:Bool} {dst:Option Tmp} {ty:TypeId} {pos:String} {after:Array Edge} {gd:Option (Nat×Bool)}:
 opW P Y Qp ⟨dst,.store t x y,ty,pos,after,gd⟩ (ev fr) w fun v w'=>∃k st' X' M,K v k st'∧KnO st'.rs v k∧dQ w0 k0 X0 may fr st X w st' X' w' M:=by
 unfold yd at h
 split at h
 ·exact uY hI hk h
 split at h
 ·exact h.elim
 rename_i KM
 simp only [Bool.and_eq_true,Bool.not_eq_true']at KM
 obtain⟨Ki,JR,hT⟩:=KM
 have Lg:(ev fr y).cells.toList.length=bq P t:=Nat.eq_of_beq_eq_true JR
 have K1:=hk.kf x
 have hky:=hk.kf y
 split at h
 ·rename_i id off K2
  rw [K2]at K1
  split at h
  ·rename_i g cs T hn Kk
   split at h
   ·rename_i hb
    obtain⟨h,h1⟩:=fX h
    have hb:off+bq P t≤cs.length:=Nat.le_of_ble_eq_true hb
    have hd:den U st.rs (.loc id off)=some (ev fr x):=K1
    simp only [den,PK.id,hn,cm,Option.some.injEq]at hd
    obtain⟨hg,hX,Q4⟩:=hI.sat.res id _ hn
    refine iV hd.symm Ki JR hT h1 ⟨g,off,⟨cs⟩,T,rfl,Q4,by simpa [Lg]using hb,fun w2 hs=>?_⟩
    rw [oa]at hs
    have q:Ch (X id) w w2:=(bz.ch hs).mono fun k e=>e▸hg
    refine⟨none,_,X,[id],h,trivial,ml hI hk hn Kk q (.blk g cs (gD cs off (ev fr y).cells.toList) T (by simp)) (show RS (X id) w2 (.blk g (gD cs off (ev fr y).cells.toList) T)from⟨hg,hX,hs.blk⟩) ?_⟩
    have KI:∀i,i∈ [id]→∀a,nth st.rs i=some a→∃b,nth (cy st.rs id (.blk g (gD cs off (ev fr y).cells.toList) T)) i=some b∧de a b:=by
     intro i hi a ha
     simp at hi
     subst hi
     rw [hn]at ha
     injection ha with ha
     subst ha
     exact⟨_,by rw [br,if_pos ⟨rfl,aU hn⟩],.blk _ _ _ _ (by simp)⟩
    have NS:∀i,i<st.rs.length→i ∉ [id]→nth (cy st.rs id (.blk g (gD cs off (ev fr y).cells.toList) T)) i=nth st.rs i:=fun i _ hi=>by rw [br,if_neg (fun hh=>hi (by simp [hh.1]))]
    have QM:∀ {k:Kn} {v:Value},im st.rs v k→∀p,k.has p→p.id ∉ [id]∨p.ofList p.id=false:=by
     intro k v Mh p hp
     by_cases Ru:p.id=id
     ·right
      cases ho:p.ofList p.id
      ·rfl
      ·exfalso
       have hdd:∃u,den U st.rs p=some u:=by
        cases k with
        | pan=>exact hp.elim
        | p k=>cases hp;exact⟨_,Mh⟩
        | t l=>obtain⟨j,hj⟩:=hp;obtain⟨vs,_,h3⟩:=Mh;obtain⟨u,_,hu⟩:=h3 j p hj;exact⟨u,hu⟩
        | ag l=>obtain⟨j,hj⟩:=hp;obtain⟨vs,_,h3⟩:=Mh;obtain⟨u,_,hu⟩:=h3 j p hj;exact⟨u,hu⟩
        | f a b=>
         obtain⟨f,fs,cs,_,_,h3,h4⟩:=Mh
         rcases hp with⟨j,hj⟩ | ⟨j,hj⟩
         ·obtain⟨u,_,hu⟩:=h3 j p hj;exact⟨u,hu⟩
         ·obtain⟨u,_,hu⟩:=h4 j p hj;exact⟨u,hu⟩
       obtain⟨u,hu⟩:=hdd
       unfold den at hu
       rw [Ru,hn]at hu
       cases p<;>simp_all [cm,PK.ofList,PK.id,jb]
     ·exact .inl (by simpa using Ru)
    refine av.app ?_ (hk.fe NS KI fun key k hm=>?_)
    ·intro key q hq
     obtain⟨j,u0,rfl,hu0,Mh⟩:=ox hky hq
     refine⟨g,_,T,u0,by rw [br,if_pos ⟨rfl,aU hn⟩],?_,Mh.mono fun p hp u hu=>mN NS KI (QM Mh p hp) hu⟩
     have hj:=aU hu0
     rw [k8 _ _ _ _ (by omega),if_pos ⟨by omega,by omega⟩,show off+j - off=j by omega,hu0]
    ·obtain⟨P4,MU⟩:=cW hm
     have h0:=hk _ _ P4
     refine⟨P4,?_,fun id' off' e=>?_⟩
     ·cases key with
      | s i=>exact QM h0
      | c i o=>obtain⟨_,_,_,_,_,_,h0⟩:=h0;exact QM h0
      | l i o=>obtain⟨_,_,_,_,h0⟩:=h0;exact QM h0
     ·subst e
      by_cases hi:id'=id
      ·subst hi
       right
       obtain⟨g',cs',T',v,e1,_⟩:=h0
       rw [hn]at e1
       injection e1 with e1
       injection e1 with e1 e2 e3
       subst e1;subst e2;subst e3
       refine⟨g,cs,_,T,hn,by rw [br,if_pos ⟨rfl,aU hn⟩],?_⟩
       rw [k8 _ _ _ _ (by omega),if_neg]
       simp only [Key.z4,Nat.beq_refl,Bool.true_and,Bool.not_eq_true',Bool.and_eq_false_iff]at MU
       rintro⟨h3,h4⟩
       rcases MU with h5 | h5
       ·rw [Nat.ble_eq_true_of_le h3]at h5;cases h5
       ·have:Nat.blt off' (off+bq P t)=true:=by rw [Nat.blt_eq];omega
        rw [this]at h5;cases h5
      ·exact .inl (by simpa using hi)
   ·exact h.elim
  ·exact h.elim
 ·rename_i id i off K2
  rw [K2]at K1
  split at h
  ·rename_i tt T A c l hn Kk
   split at h
   ·rename_i hb
    obtain⟨h,h1⟩:=fX h
    have hb:off+bq P t≤(U.en tt).size:=Nat.le_of_ble_eq_true hb
    obtain⟨x',PY,hK⟩:=cS h
    have hd:den U st.rs (.el id 0 i off)=some (ev fr x):=K1
    simp only [den,PK.id,hn,cm,jb]at hd
    split at hd
    case isFalse=>cases hd
    rename_i hr
    injection hd with hd
    obtain⟨ho,JM⟩:Own w (X id) T A l.length c l∧∀k,X id k→k<w.heap.size:=hI.sat.res id _ hn
    have Rw:i.toNat<l.length:=by omega
    obtain⟨g,hA,hZ,WO⟩:=ho.lt (by omega)
    have NV:=ho.len
    have K3:l[i.toNat]? =some (l.getD i.toNat (U.df tt)):=by rw [List.getD_eq_getElem?_getD,List.getElem?_eq_getElem (by omega)];rfl
    have QX:=U.gz PY
    have WU:(U.en tt).enc (l.getD i.toNat (U.df tt))=enc (l.getD i.toNat (U.df tt)):=rfl
    have hlen:(enc (l.getD i.toNat (U.df tt))).length=(U.en tt).size:=cg _
    have QH:enc x'=(enc (l.getD i.toNat (U.df tt))).take off++(ev fr y).cells.toList++(enc (l.getD i.toNat (U.df tt))).drop (off+(ev fr y).cells.toList.length):=by
     show(U.en tt).enc x'=_
     rw [QX,WU]
     exact n9 _ _ _ (by rw [hlen,Lg];exact hb)
    refine iV (p:=elA U tt A i off) hd.symm Ki JR hT h1 ?_
    have La:=ho.st (p:=Addr.mk g 0 none) hA Rw K3 (o:=off) (vs:=(ev fr y).cells.toList) (by rw [Lg];exact hb) QH (K:=fun w2=>∃k st' X' M,K undef k st'∧KnO st'.rs undef k∧dQ w0 k0 X0 may fr st X w st' X' w2 M) (fun w2 M6 hq=>by
     refine step_done (k:=none) (st':=⟨cy st.rs id (.lst tt true T A c (l.set i.toNat x')),st.kn,id::st.md⟩) (ml hI hk hn Kk hq (.lst tt true T A A c c l (l.set i.toNat x')) (show RS (X id) w2 (.lst tt true T A c (l.set i.toNat x'))from⟨by rw [List.length_set];exact M6,fun k hk=>Nat.lt_of_lt_of_le (JM k hk) hq.size⟩) ?_) trivial hK
     refine hk.roots fun j a ha=>?_
     by_cases hj:j=id
     ·subst hj
      rw [hn]at ha
      injection ha with ha
      exact⟨_,by rw [br,if_pos ⟨rfl,aU hn⟩],.inr ⟨_,_,_,_,_,_,_,ha.symm,rfl,List.length_set ..⟩⟩
     ·exact⟨a,by rw [br,if_neg (fun hh=>hj hh.1)];exact ha,.inl rfl⟩)
    unfold elA
    rw [hA]
    exact La
   ·exact h.elim
  ·rename_i tt r s hn Kk
   split at h
   ·rename_i L hL
    split at h
    ·rename_i hb
     obtain⟨h,h1⟩:=fX h
     have hb:off+bq P t≤(U.en L.t).size:=Nat.le_of_ble_eq_true hb
     obtain⟨x',PY,h⟩:=cS h
     split at h
     ·rename_i c s' La
      obtain⟨hc,hK⟩:=h
      have hd:den U st.rs (.el id 0 i off)=some (ev fr x):=K1
      simp only [den,PK.id,hn,cm,jb,hL]at hd
      split at hd
      case isFalse=>cases hd
      rename_i hr
      injection hd with hd
      have hp:U.pred tt r s (X id) w:=hI.sat.res id _ hn
      have K3:L.l[i.toNat]? =some (L.l.getD i.toNat (U.df L.t)):=by rw [List.getD_eq_getElem?_getD,List.getElem?_eq_getElem (by omega)];rfl
      have QX:=U.gz PY
      have hlen:((U.en L.t).enc (L.l.getD i.toNat (U.df L.t))).length=(U.en L.t).size:=(U.en L.t).len _
      have QH:(U.en L.t).enc x'=((U.en L.t).enc (L.l.getD i.toNat (U.df L.t))).take off++(ev fr y).cells.toList++((U.en L.t).enc (L.l.getD i.toNat (U.df L.t))).drop (off+(ev fr y).cells.toList.length):=by
       rw [QX]
       exact n9 _ _ _ (by rw [hlen,Lg];exact hb)
      refine iV (p:=elA U L.t L.A i off) hd.symm Ki JR hT h1 ?_
      exact U.pC hp hL K3 (by rw [Lg];exact hb) QH La hc fun w2 JD hq=>tz hI hk hn Kk hq JD hK
     ·exact h.elim
    ·exact h.elim
   ·exact h.elim
  ·exact h.elim
 ·rename_i id path off K2
  rw [K2]at K1
  split at h
  ·rename_i tt r s v hn Kk Kq
   obtain⟨h,h1⟩:=fX h
   split at h
   ·rename_i c s' La
    obtain⟨hc,hK⟩:=h
    have hd:den U st.rs (.obj id path off)=some (ev fr x):=K1
    simp only [den,PK.id,hn,cm,Option.some.injEq]at hd
    have hp:U.pred tt r s (X id) w:=hI.sat.res id _ hn
    rw [Kq]at Lg
    refine iV (p:=⟨r path,off,none⟩) hd.symm Ki JR hT (by rw [Kq];exact h1) ?_
    rw [Kq]
    exact U.qm hp La hc fun w2 JD hq=>tz hI hk hn Kk hq JD hK
   ·exact h.elim
  ·rename_i tt r s v v2 vs hn Kk Kq
   obtain⟨h,h1⟩:=fX h
   split at h
   ·rename_i c s' La
    obtain⟨hc,hK⟩:=h
    have hd:den U st.rs (.obj id path off)=some (ev fr x):=K1
    simp only [den,PK.id,hn,cm,Option.some.injEq]at hd
    have hp:U.pred tt r s (X id) w:=hI.sat.res id _ hn
    refine iV (p:=⟨r path,off,none⟩) hd.symm Ki JR hT (by rw [Kq];exact h1) ?_
    rw [Kq]
    exact U.ph hp La hc fun w2 JD hq=>tz hI hk hn Kk hq JD hK
   ·exact h.elim
  ·exact h.elim
 ·exact h.elim
theorem Bq {t:TypeId} {z:Value}(h:(P.info? t).bind (·.zero)=some z)(w:World):(Instr.alloc t true (.tuple #[])).run P w= .ok (.pointer (some ⟨w.heap.size,0,none⟩)) (w.alloc (.cells z.cells t)):=by
 cases hi:P.info? t with
 | none=>rw [hi]at h;cases h
 | some i=>
  rw [hi]at h
  have h:i.zero=some z:=h
  have hz:(zeroValue t).run P w= .ok z w:=by
   unfold zeroValue
   rw [Sem.run_bind,run_typeInfo (w:=w) hi,Result.andThen_ok,h]
   rfl
  unfold Instr.alloc
  rw [Sem.run_bind,hz,Result.andThen_ok]
  rfl
theorem vp {cs:List Value} {T:TypeId} {ck:Option Kn} {K:eZ U}(hI:Inv w0 k0 X0 may st.rs X w)(hk:av st.rs fr st.kn) {v0:Value}(KM:KnO st.rs v0 ck)(Kq:ck=none∨v0.cells.toList=cs)(h:Fi U cs T ck st K):
 ∃k st' X' M,K (.pointer (some ⟨w.heap.size,0,none⟩)) k st'∧KnO st'.rs (.pointer (some ⟨w.heap.size,0,none⟩)) k∧dQ w0 k0 X0 may fr st X w st' X' (w.alloc (.cells ⟨cs⟩ T)) M:=by
 have hm:Made w w.heap.size ⟨cs⟩ T (w.alloc (.cells ⟨cs⟩ T)):=made rfl rfl
 unfold Fi at h
 split at h
 ·rename_i t s hmk
  have L0:nth (st.rs++ [Res.ob t (fun _=>w.heap.size) s]) st.rs.length=some (.ob t (fun _=>w.heap.size) s):=by rw [bf,if_neg (by omega),Nat.sub_self];rfl
  refine step_done (nD hI hk hm.pu (Z:=fun k=>k=w.heap.size) (show RS (fun k=>k=w.heap.size) _ (.ob t (fun _=>w.heap.size) s)from U.tB hmk hm.blk) (fun k e=>by rw [e];exact Nat.le_refl _) (oR hk _)) ?_ (h w.heap.size)
  show den U _ (.obj _ 0 0)=_
  simp only [den,PK.id,L0,cm]
 have L0:nth (st.rs++ [Res.blk w.heap.size cs T]) st.rs.length=some (.blk w.heap.size cs T):=by rw [bf,if_neg (by omega),Nat.sub_self];rfl
 refine⟨_,_,_,[],h w.heap.size,?_,nD hI hk hm.pu (Z:=fun k=>k=w.heap.size) (show RS (fun k=>k=w.heap.size) _ (.blk w.heap.size cs T)from⟨rfl,fun _ h=>h,hm.blk⟩) (fun k e=>by rw [e];exact Nat.le_refl _) (av.app ?_ (oR hk _))⟩
 ·show den U _ (.loc _ 0)=_
  simp only [den,PK.id,L0,cm]
 ·intro key q hq
  obtain⟨j,u,rfl,hu,Mh⟩:=ox KM hq
  rcases Kq with rfl | Kq
  ·cases hq
  rw [Kq]at hu
  rw [Nat.zero_add]
  exact⟨_,cs,T,u,L0,hu,Mh.mono fun p hp u hu=>mN (M:= []) (fun i hi _=>by rw [bf,if_pos hi]) (fun i hi=>by cases hi) (.inl (by simp)) hu⟩
theorem vP {tt:Nat}:∀ {n:Nat} {cs:List Value} {l:List (U.el tt)},Be U tt n cs=some l→l.length=n∧l.flatMap enc=cs
 | 0,[],l,h=>by simp only [Be,Option.some.injEq]at h;subst h;exact⟨rfl,rfl⟩
 | 0,_::_,l,h=>by simp [Be]at h
 | n+1,cs,l,h=>by
  simp only [Be]at h
  split at h
  ·rename_i x r hx hr
   injection h with h
   subst h
   obtain⟨h1,h2⟩:=vP hr
   refine⟨by simp [h1],?_⟩
   have h3:enc x=iU (U.en tt).size cs:=U.gz hx
   rw [List.flatMap_cons,h2,h3,eN,fI,List.take_append_drop]
  ·cases h
theorem pH {t e:TypeId} {tt:Nat} {ie:TypeInfo} {z:Value}(h:Cz U P t=some (e,tt,ie,z)):SN P t e z (U.en tt).size ie.bytes∧P.info? e=some ie∧ie.zero=some z∧ie.size=(U.en tt).size∧0<ie.bytes:=by
 unfold Cz at h
 split at h
 ·rename_i e' hu
  split at h
  ·rename_i tt' ie' _ hi
   split at h
   ·rename_i z' hz
    split at h
    ·rename_i hb
     simp only [Option.some.injEq,Prod.mk.injEq]at h
     obtain⟨rfl,rfl,rfl,rfl⟩:=h
     simp only [Bool.and_eq_true]at hb
     have h1:=Nat.eq_of_beq_eq_true hb.1
     have h2:=Nat.eq_of_beq_eq_true hb.2.1
     have h3:0<ie'.bytes:=by simpa [Nat.blt_eq]using hb.2.2
     exact⟨⟨hu,⟨ie',hi,hz,h1,rfl⟩,by rw [← h1,← h2];simp,(U.en tt').pos⟩,hi,hz,h1,h3⟩
    ·cases h
   ·cases h
  ·cases h
 ·cases h
theorem Cx {tt:Nat} {x:Operand} {F:List (U.el tt)→Prop}(hS:Sat st.rs X w)(hk:av st.rs fr st.kn)(h:GP U tt (ev fr x) (kf st.kn x) st F):∃(l:List (U.el tt))(A:Option Addr)(c:Nat)(Y:Nat→Prop),ev fr x= .slice A l.length c∧Rd w Y A l.length c l∧F l:=by
 have K1:=hk.kf x
 unfold GP at h
 split at h
 ·rename_i id li K2
  rw [K2]at K1
  have hd:den U st.rs (.sl id li)=some (ev fr x):=K1
  split at h
  ·rename_i r hn
   split at h
   ·rename_i L hL
    simp only [den,PK.id,hn,cm,hL,Option.some.injEq]at hd
    split at h
    ·rename_i ht
     have hr:=(hS.res id _ hn).ls hL
     obtain⟨t',A,c,l⟩:=L
     cases ht
     exact⟨l,A,c,_,hd.symm,hr,h⟩
    ·exact h.elim
   ·exact h.elim
  ·exact h.elim
 ·split at h
  ·rename_i d hx
   exact⟨[],none,d,_,hx,Rd.nil,h⟩
  ·exact h.elim
theorem vu {rs:List (Res U)} {r:Res U}:nth (rs++ [r]) rs.length=some r:=by rw [bf,if_neg (by omega),Nat.sub_self];rfl
theorem qa {tt:Nat} {T:TypeId} {A:Option Addr} {c:Nat} {l:List (U.el tt)} {K:eZ U}(hI:Inv w0 k0 X0 may st.rs X w)(hk:av st.rs fr st.kn) {w':World}(q:Pu w w') {Z:Nat→Prop}(ho:Own w' Z T A l.length c l)(hz:∀k,Z k→w.heap.size≤k) {v:Value}(hv:v= .slice A l.length c)
 (h:nmL (st.rs++ [.lst tt true T A c l]) [st.rs.length] fun JX=>K v (some (.p (.sl st.rs.length 0))) ⟨JX,st.kn,st.md⟩):
 ∃k st' X' M,K v k st'∧KnO st'.rs v k∧dQ w0 k0 X0 may fr st X w st' X' w' M:=by
 refine step_done (st':=⟨st.rs++ [.lst tt true T A c l],st.kn,st.md⟩) (nD hI hk q (Z:=fun k=>Z k∧k<w'.heap.size) (show RS (fun k=>Z k∧k<w'.heap.size) _ (.lst tt true T A c l)from⟨ho.narrow,fun k hk=>hk.2⟩) (fun k hk=>hz k hk.1) (oR hk _)) ?_ h
 show den U _ (.sl _ 0)=_
 simp only [den,PK.id,vu,cm,jb,hv]
theorem AG(hI:Inv w0 k0 X0 may st.rs X w) {i:Nat} {a b:Res U}(ha:nth st.rs i=some a)(hc:mV may k0 i=true) {w':World}(q:Ch (X i) w w')(OY:de a b) {Z:Nat→Prop}(hb:RS Z w' b)(hz:∀k,Z k→X i k∨w.heap.size≤k) {kn':List (Key×Kn)}(K2:av (cy st.rs i b) fr kn'):
 dQ w0 k0 X0 may fr st X w ⟨cy st.rs i b,kn',i::st.md⟩ (tg X i Z) w' [i]:=by
 have hi:=aU ha
 exact⟨hI.set hi (gg hc) q hb hz,K2,rfl,fun j hj=>by simp at hj;subst hj;exact hi,fun j hj=>by simp at hj;subst hj;exact gg hc,by simp,fun j hj Kj=>⟨by rw [br,if_neg (fun hh=>Kj (by simp [hh.1]))],l9 _ _ (by simpa using Kj)⟩,fun j hj k hk=>by
  simp at hj;subst hj;rw [updX_eq]at hk;exact hz k hk,fun j h1 h2=>by simp at h2;omega,q.mono fun k hk=>⟨i,by simp,hk⟩,fun j c hj=>by
  by_cases Kj:j=i
  ·subst Kj
   rw [ha]at hj
   injection hj with hj
   subst hj
   exact⟨b,by rw [br,if_pos ⟨rfl,hi⟩],OY⟩
  ·exact⟨c,by rw [br,if_neg (fun hh=>Kj hh.1)];exact hj,de.refl c⟩⟩
theorem yn {tt:Nat} {z:Value} {x:U.el tt}(hx:enc x=z.cells.toList)(n:Nat):(List.replicate n x).flatMap enc=(madeCells z.cells (n*(U.en tt).size)).toList:=by
 have hs:z.cells.size=(U.en tt).size:=by have:=cg x;rw [hx]at this;simpa using this
 have hp:0<Enc.size (U.el tt):=Enc.pos
 apply List.ext_getElem?
 intro j
 by_cases hj:j<n*Enc.size (U.el tt)
 ·have hq:j / Enc.size (U.el tt)<n:=(Nat.div_lt_iff_lt_mul hp).2 hj
  have hr:j % Enc.size (U.el tt)<Enc.size (U.el tt):=Nat.mod_lt _ hp
  have h4:=flat_get (List.replicate n x) (j / Enc.size (U.el tt)) (j % Enc.size (U.el tt)) x (by rw [List.getElem?_replicate,if_pos hq]) hr
  have h5:j / Enc.size (U.el tt)*Enc.size (U.el tt)+j % Enc.size (U.el tt)=j:=by rw [Nat.mul_comm];exact Nat.div_add_mod j _
  rw [h5]at h4
  rw [h4,hx]
  have MD:j<n*(U.en tt).size:=hj
  have Jv:j % (U.en tt).size<z.cells.size:=by rw [hs];exact hr
  have e1:(madeCells z.cells (n*(U.en tt).size)).toList[j]? =some (z.cells[j % z.cells.size]!):=by
   simp [madeCells,MD]
  rw [e1,hs]
  show z.cells.toList[j % (U.en tt).size]? =_
  rw [Array.getElem?_toList,Array.getElem?_eq_getElem Jv,getElem!_pos z.cells _ Jv]
 ·rw [List.getElem?_eq_none (by rw [eh,List.length_replicate];omega),List.getElem?_eq_none (by rw [Array.length_toList,size_madeCells];exact Nat.le_of_not_lt hj)]
def BH(fr:Fr)(w0:World)(k0:Nat)(X0:Nat→Nat→Prop)(may:List Nat)(st:St U)(X:Nat→Nat→Prop)(w:World)(K:eZ U):Option (List PanicEntry→World→Prop):=
 some fun ch w'=>∃v st' X' M,ch= [⟨v,false,false⟩]∧K v (some .pan) st'∧dQ w0 k0 X0 may fr st X w st' X' w' M
theorem C0 {Y:Bool} {q:List PanicEntry→World→Prop} {o:Oper} {ρ:Operand→Value} {K:aD}(h:opW P Y (some q) o ρ w K)(hq:∀ch w',q ch w'→False):opW P Y none o ρ w K:=by
 refine⟨h.1,?_⟩
 have h2:=h.2
 generalize (execOp ρ o).run P w=r at h2 ⊢
 cases r with
 | ok nx w'=>
  cases nx<;>simp only [Out]at h2 ⊢
  case value v=>exact h2
  case skip=>exact h2
  case enter f args=>exact h2.mono fun e w'' he=>he.imp id fun⟨ch,_,h2⟩=>(hq _ _ h2).elim
  case round l f tmps assign body=>exact⟨h2.1,h2.2.mono fun e w'' he=>he.imp id fun⟨ch,_,h2⟩=>(hq _ _ h2).elim⟩
 | halt x w'=>
  cases x<;>simp only [Out]at h2 ⊢
  exact(hq _ _ h2).elim
theorem zR {Y:Bool} {q q':List PanicEntry→World→Prop} {o:Oper} {ρ:Operand→Value} {K:aD}(h:opW P Y (some q) o ρ w K)(hq:∀ch w',q ch w'→q' ch w'):opW P Y (some q') o ρ w K:=by
 refine⟨h.1,?_⟩
 have h2:=h.2
 generalize (execOp ρ o).run P w=r at h2 ⊢
 cases r with
 | ok nx w'=>
  cases nx<;>simp only [Out]at h2 ⊢
  case value v=>exact h2
  case skip=>exact h2
  case enter f args=>exact h2.mono fun e w'' he=>he.imp id fun⟨ch,h1,h2⟩=>⟨ch,h1,hq _ _ h2⟩
  case round l f tmps assign body=>exact⟨h2.1,h2.2.mono fun e w'' he=>he.imp id fun⟨ch,h1,h2⟩=>⟨ch,h1,hq _ _ h2⟩⟩
 | halt x w'=>
  cases x<;>simp only [Out]at h2 ⊢
  exact hq _ _ h2
theorem pY {Y:Bool} {Qp:Option (List PanicEntry→World→Prop)} {o:Oper} {ρ:Operand→Value} {K K':aD}(h:opW P Y Qp o ρ w K)(hK:∀v w',K v w'→K' v w'):opW P Y Qp o ρ w K':=by
 refine⟨h.1,?_⟩
 have h2:=h.2
 generalize (execOp ρ o).run P w=r at h2 ⊢
 cases r with
 | ok nx w'=>
  cases nx<;>simp only [Out]at h2 ⊢
  case value v=>exact hK _ _ h2
  case skip=>exact hK _ _ h2
  case enter f args=>exact h2.mono fun e w'' he=>he.imp (fun⟨v,h1,h2⟩=>⟨v,h1,hK _ _ h2⟩) id
  case round l f tmps assign body=>exact⟨h2.1,h2.2.mono fun e w'' he=>he.imp (fun⟨v,h1,h2⟩=>⟨v,h1,hK _ _ h2⟩) id⟩
 | halt x w'=>
  cases x<;>simp only [Out]at h2 ⊢
  exact h2
theorem Inv.Gn {rs rs':List (Res U)}(h:Inv w0 k0 X0 may rs X w)(hl:rs'.length≤rs.length)(he:∀i,i<rs'.length→nth rs' i=nth rs i)(hk:k0≤rs'.length):Inv w0 k0 X0 may rs' X w:=
 ⟨⟨fun i r hr=>h.sat.res i r (by rw [← he i (aU hr)];exact hr),fun i j hi hj=>h.sat.dis i j (by omega) (by omega)⟩,h.ch,h.old,fun i h1 h2=>h.new i h1 (by omega),hk⟩
theorem zO {k:Option Kn} {B:Prop}(h:yj k False B):B:=by
 unfold yj at h
 split at h
 ·exact h.elim
 ·exact h
theorem Dy:∀ {s:Sh} {F:Value→Prop},Il s F→∃v,F v
 | .int _,_,⟨_,h⟩=>⟨_,h⟩
 | .bool,_,⟨_,h⟩=>⟨_,h⟩
 | .str,_,⟨_,h⟩=>⟨_,h⟩
 | .ptr,_,⟨_,h⟩=>⟨_,h⟩
 | .slice,_,⟨_,h⟩=>⟨_,h⟩
 | .map,_,⟨_,h⟩=>⟨_,h⟩
 | .val,_,⟨_,h⟩=>⟨_,h⟩
theorem zP {α:Type} {F:α→Prop}:∀ {l:List α},orL F l→∃a,F a
 | [a],h=>⟨a,h⟩
 | a::b::r,h=>by
  rcases h with h | h
  ·exact⟨a,h⟩
  ·exact zP (l:=b::r) h
theorem Fq {args:List Operand}(hk:av st.rs fr st.kn):∀j v k,nth (aF (ev fr) args) j=some v→nth (aF (V.kf st.kn) args) j=some k→KnO st.rs v k:=by
 intro j v k h1 h2
 rw [aY]at h1 h2
 cases hn:nth args j with
 | none=>rw [hn]at h1;cases h1
 | some x=>
  rw [hn]at h1 h2
  injection h1 with h1
  injection h2 with h2
  subst h1;subst h2
  exact hk.kf x
theorem Dj {rs:List (Res U)} {a1 a2:List Value} {k1 k2:List (Option Kn)}(hl:a1.length=k1.length)(h1:∀j v k,nth a1 j=some v→nth k1 j=some k→KnO rs v k)(h2:∀j v k,nth a2 j=some v→nth k2 j=some k→KnO rs v k):∀j v k,nth (a1++a2) j=some v→nth (k1++k2) j=some k→KnO rs v k:=by
 intro j v k hj J5
 rw [bf]at hj J5
 by_cases hc:j<a1.length
 ·rw [if_pos hc]at hj
  rw [if_pos (by omega)]at J5
  exact h1 j v k hj J5
 ·rw [if_neg hc]at hj
  rw [if_neg (by omega),← hl]at J5
  exact h2 _ v k hj J5
theorem GB {K:eZ U} {Y:Bool} {dst:Option Tmp} {ty:TypeId} {pos:String} {after:Array Edge} {gd:Option (Nat×Bool)} {f:Operand} {args:Array Operand} {ats:Array TypeId} {f':Nat} {first cap:Array Value} {ks:List (Option Kn)}(Kx:∀f c,tbl.c f=some c→LV U P f c∧bP P f=true)(hI:Inv w0 k0 X0 may st.rs X w)(hk:av st.rs fr st.kn)(hf:ev fr f= .func (.func f') first cap)
 (UR:∀j v k,nth (first.toList++(aF (ev fr) args.toList++cap.toList)) j=some v→nth ks j=some k→KnO st.rs v k)(h:call2 U tbl may k0 f' (first.toList++(aF (ev fr) args.toList++cap.toList)) ks st K):
 opW P Y (BH fr w0 k0 X0 may st X w K) {dst:=dst,op:= .call {callee:= .value f,args:=args,argTypes:=ats},type:=ty,pos:=pos,after:=after,guard:=gd} (ev fr) w fun v w'=>∃k st' X' M,K v k st'∧KnO st'.rs v k∧dQ w0 k0 X0 may fr st X w st' X' w' M:=by
 have L4:bP P f'=true:=by
  unfold call2 at h
  split at h
  ·exact h.elim
  ·rename_i c hc;exact(Kx f' c hc).2
 refine⟨rfl,?_⟩
 have h1:=ek (P:=P) (C:= [f']) (f:=f') (by simp [dP,L4]) (by simp) (first++args.map (ev fr)++cap) w
 have hr:(execOp (ev fr) {dst:=dst,op:= .call {callee:= .value f,args:=args,argTypes:=ats},type:=ty,pos:=pos,after:=after,guard:=gd}).run P w= .ok (.enter f' (first++args.map (ev fr)++cap)) w:=by
  simp only [execOp,resolve,hf,Deferred.ofValue]
  rw [Sem.run_bind]
  exact h1
 rw [hr]
 have ha:(⟨first.toList++(aF (ev fr) args.toList++cap.toList)⟩:Array Value)=first++args.map (ev fr)++cap:=by
  apply Array.ext'
  simp [fZ]
 have:=sy (fun f c h=>(Kx f c h).1) hI hk UR h
 rw [ha]at this
 refine this.mono fun e w' hp=>?_
 obtain⟨v,k,st',X',M,rfl,h2,h3,h4⟩:=hp
 rcases h3 with rfl | h3
 ·exact .inr ⟨_,rfl,v,st',X',M,rfl,h2,h4⟩
 ·refine .inl ⟨v,?_,k,st',X',M,h2,h3,h4⟩
  cases k with
  | none=>rfl
  | some k=>cases k<;>first | rfl | exact h3.elim
theorem A2 {t:TypeId} {name:String} {f:FuncId} {u:Value}(h:zY P t name=some f)(w:World):(method (P.types.size+Made.depth) t u name).run P w= .ok (f,u) w:=by
 obtain⟨n,hn⟩:∃n,P.types.size+Made.depth=n+1:=⟨P.types.size+Made.depth - 1,by unfold Made.depth;omega⟩
 rw [hn]
 unfold zY at h
 split at h
 ·cases h
 ·rename_i i d hi hu hd
  split at h
  ·rename_i m hm
   split at h
   ·rename_i f' hf hp
    injection h with h
    subst h
    have hm':i.methods.find? (fun m=>m.name==name)=some m:=hm
    cases d<;>simp_all [method,typeInfo,follow,receiverAt,underlying,Place.get]
   ·cases h
  ·cases h
 ·cases h
theorem Iv {K:eZ U} {Y:Bool} {dst:Option Tmp} {ty:TypeId} {pos:String} {after:Array Edge} {gd:Option (Nat×Bool)} {x:Operand} {name:String} {args:Array Operand} {ats:Array TypeId} {t:TypeId} {u:Value} {f':Nat} {ks:List (Option Kn)}(Kx:∀f c,tbl.c f=some c→LV U P f c∧bP P f=true)(hI:Inv w0 k0 X0 may st.rs X w)(hk:av st.rs fr st.kn)(hx:ev fr x= .iface t u)(hm:zY P t name=some f')
 (UR:∀j v k,nth (u::aF (ev fr) args.toList) j=some v→nth ks j=some k→KnO st.rs v k)(h:call2 U tbl may k0 f' (u::aF (ev fr) args.toList) ks st K):
 opW P Y (BH fr w0 k0 X0 may st X w K) {dst:=dst,op:= .call {callee:= .invoke x name,args:=args,argTypes:=ats},type:=ty,pos:=pos,after:=after,guard:=gd} (ev fr) w fun v w'=>∃k st' X' M,K v k st'∧KnO st'.rs v k∧dQ w0 k0 X0 may fr st X w st' X' w' M:=by
 have L4:bP P f'=true:=by
  unfold call2 at h
  split at h
  ·exact h.elim
  ·rename_i c hc;exact(Kx f' c hc).2
 refine⟨rfl,?_⟩
 have h1:=ek (P:=P) (C:= [f']) (f:=f') (by simp [dP,L4]) (by simp) (#[u]++args.map (ev fr)) w
 have he:(#[ev fr x]++args.map (ev fr)).extract 1 (#[ev fr x]++args.map (ev fr)).size=args.map (ev fr):=by
  apply Array.ext'
  simp
  exact List.take_of_length_le (by simp)
 have hr:(execOp (ev fr) {dst:=dst,op:= .call {callee:= .invoke x name,args:=args,argTypes:=ats},type:=ty,pos:=pos,after:=after,guard:=gd}).run P w= .ok (.enter f' (#[u]++args.map (ev fr))) w:=by
  simp only [execOp,resolve]
  rw [Sem.run_bind]
  show(invoke (.fn (.method name) #[]) (#[ev fr x]++args.map (ev fr))).run P w=_
  have e0:(#[ev fr x]++args.map (ev fr))[0]? =some (.iface t u):=by rw [hx,Array.getElem?_append_left (by simp)];rfl
  simp only [invoke,e0,he]
  simp only [callMethod]
  rw [Sem.run_bind]
  have hp:(program:Sem Program).run P w= .ok P w:=rfl
  rw [hp]
  change Sem.run P (method (P.types.size+Made.depth) t u name>>=fun p=>callFunc p.1 (#[p.2]++Array.map (ev fr) args)) w=_
  rw [Sem.run_bind,A2 hm]
  exact h1
 rw [hr]
 have ha:(⟨u::aF (ev fr) args.toList⟩:Array Value)= #[u]++args.map (ev fr):=by
  apply Array.ext'
  simp [fZ]
 have:=sy (fun f c h=>(Kx f c h).1) hI hk UR h
 rw [ha]at this
 refine this.mono fun e w' hp=>?_
 obtain⟨v,k,st',X',M,rfl,h2,h3,h4⟩:=hp
 rcases h3 with rfl | h3
 ·exact .inr ⟨_,rfl,v,st',X',M,rfl,h2,h4⟩
 ·refine .inl ⟨v,?_,k,st',X',M,h2,h3,h4⟩
  cases k with
  | none=>rfl
  | some k=>cases k<;>first | rfl | exact h3.elim
theorem vW {K:eZ U} {Y:Bool} {dst:Option Tmp} {ty:TypeId} {pos:String} {after:Array Edge} {gd:Option (Nat×Bool)} {f:Operand} {args:Array Operand} {ats:Array TypeId}(Kx:∀f c,tbl.c f=some c→LV U P f c∧bP P f=true)(hI:Inv w0 k0 X0 may st.rs X w)(hk:av st.rs fr st.kn)
 (h:Ac U tbl may k0 (ev fr f) (aF (ev fr) args.toList) (aF (V.kf st.kn) args.toList) st K):
 opW P Y (BH fr w0 k0 X0 may st X w K) {dst:=dst,op:= .call {callee:= .value f,args:=args,argTypes:=ats},type:=ty,pos:=pos,after:=after,guard:=gd} (ev fr) w fun v w'=>∃k st' X' M,K v k st'∧KnO st'.rs v k∧dQ w0 k0 X0 may fr st X w st' X' w' M:=by
 obtain⟨r,h1,hK⟩:=Dy h
 obtain⟨⟨f',az,bs⟩,h2⟩:=zP h1
 dsimp only at h2
 split at h2
 ·rename_i hd
  simp only [Bool.and_eq_true]at hd
  obtain⟨hf,h2⟩:=h2
  have pk:∀ {l:List PK},gK (Bd st.rs) l=true→∀j v k,nth (aF (dv st.rs) l) j=some v→nth (aF (fun p=>some (Kn.p p)) l) j=some k→KnO st.rs v k:=by
   intro l hl j v k hj J5
   rw [aY]at hj J5
   cases hn:nth l j with
   | none=>rw [hn]at hj;cases hj
   | some p=>
    rw [hn]at hj J5
    injection hj with hj
    injection J5 with J5
    subst hj;subst J5
    have:=cu.1 hl p (gH hn)
    unfold Bd at this
    show den U st.rs p=some (dv st.rs p)
    unfold dv
    split at this
    ·rename_i u hu;rw [hu];rfl
    ·cases this
  refine pY (zR (q':=fun ch w'=>∃v st' X' M,ch= [⟨v,false,false⟩]∧K v (some .pan) st'∧dQ w0 k0 X0 may fr st X w st' X' w' M) (hq:=fun ch w' ⟨_,_,_,_,_,h,_⟩=>h.elim) (GB (K:=_) (first:=⟨aF (dv st.rs) az⟩) (cap:=⟨aF (dv st.rs) bs⟩) Kx hI hk hf (Dj (by simp) (pk hd.1) (Dj (by simp) (Fq hk) (pk hd.2))) h2)) fun v w' hp=>?_
  obtain⟨k,st',X',M,g1,g2,g3⟩:=hp
  have g1:=zO g1
  split at g1
  ·rename_i hl
   subst g1
   simp only [Bool.and_eq_true]at hl
   have l1:=Nat.eq_of_beq_eq_true hl.1
   have l2:=Nat.eq_of_beq_eq_true hl.2
   have hM:M= []:=by
    have:=g3.md
    rw [this,List.length_append]at l2
    exact List.eq_nil_of_length_eq_zero (by omega)
   subst hM
   refine⟨none,st,X',[],hK,trivial,g3.inv.Gn (by omega) (fun i hi=>(g3.same i hi (by simp)).1.symm) hI.len,hk,rfl,fun i hi=>(by cases hi),fun i hi=>(by cases hi),Nat.le_refl _,fun i hi _=>⟨rfl,(g3.same i hi (by simp)).2⟩,fun i hi=>(by cases hi),fun i h1 h2=>by omega,g3.ch,fun i a ha=>⟨a,ha,de.refl a⟩⟩
  ·exact g1.elim
 ·exact h2.elim
theorem Db {o:Oper} {K:eZ U} {Y:Bool}(Kx:∀f c,tbl.c f=some c→LV U P f c∧bP P f=true)(hI:Inv w0 k0 X0 may st.rs X w)(hk:av st.rs fr st.kn)(h:G5 U P tbl may k0 o (ev fr) st K):
 opW P Y (BH fr w0 k0 X0 may st X w K) o (ev fr) w fun v w'=>∃k st' X' M,K v k st'∧KnO st'.rs v k∧dQ w0 k0 X0 may fr st X w st' X' w' M:=by
 obtain⟨dst,op,ty,pos,after,gd⟩:=o
 cases op<;>simp only [G5]at h<;>skip
 case panic x=>
  refine⟨rfl,?_⟩
  split at h
  ·rename_i t v hx
   have hr:(execOp (ev fr) ⟨dst,.panic x,ty,pos,after,gd⟩).run P w= .halt (.panic (.iface t v)) w:=by
    simp [execOp,hx,Instr.panic,goPanic]
   rw [hr]
   exact⟨_,st,X,[],rfl,h,hI,hk,rfl,fun i hi=>(by cases hi),fun i hi=>(by cases hi),Nat.le_refl _,fun _ _ _=>⟨rfl,rfl⟩,fun i hi=>(by cases hi),fun i h1 h2=>by omega,Ch.refl _ _,fun i a ha=>⟨a,ha,de.refl a⟩⟩
  ·exact h.elim
 case store t x y=>exact yc hI hk h
 case alloc t=>
  split at h
  ·rename_i z hz
   refine⟨rfl,?_⟩
   have hr:(execOp (ev fr) ⟨dst,.alloc t,ty,pos,after,gd⟩).run P w= .ok (.value (.pointer (some ⟨w.heap.size,0,none⟩))) (w.alloc (.cells z.cells t)):=by
    simp [execOp,Bq hz]
   rw [hr]
   exact vp hI hk (v0:=undef) (ck:=none) trivial (.inl rfl) h
  ·exact h.elim
 case box t x=>
  refine⟨rfl,?_⟩
  have hr:(execOp (ev fr) ⟨dst,.box t x,ty,pos,after,gd⟩).run P w= .ok (.value (.pointer (some ⟨w.heap.size,0,none⟩))) (w.alloc (.cells (ev fr x).cells t)):=rfl
  rw [hr]
  exact vp hI hk (hk.kf x) (.inr rfl) h
 case call c=>
  obtain⟨cal,args,ats⟩:=c
  simp only at h
  split at h
  ·rename_i f
   split at h
   ·exact vW Kx hI hk h
   split at h
   ·rename_i f' first cap hf
    refine GB Kx hI hk hf (fun j v k hj J5=>?_) h
    ·
     have LP:∀j v k,nth (aF (ev fr) args.toList) j=some v→nth (aF (V.kf st.kn) args.toList) j=some k→KnO st.rs v k:=by
      intro j v k h1 h2
      rw [aY]at h1 h2
      cases hn:nth args.toList j with
      | none=>rw [hn]at h1;cases h1
      | some x=>
       rw [hn]at h1 h2
       injection h1 with h1
       injection h2 with h2
       subst h1;subst h2
       exact hk.kf x
     have hfk:=hk.kf f
     have app:∀ {a1 a2:List Value} {k1 k2:List (Option Kn)},a1.length=k1.length→(∀j v k,nth a1 j=some v→nth k1 j=some k→KnO st.rs v k)→(∀j v k,nth a2 j=some v→nth k2 j=some k→KnO st.rs v k)→∀j v k,nth (a1++a2) j=some v→nth (k1++k2) j=some k→KnO st.rs v k:=by
      intro a1 a2 k1 k2 hl h1 h2 j v k hj J5
      rw [bf]at hj J5
      by_cases hc:j<a1.length
      ·rw [if_pos hc]at hj
       rw [if_pos (by omega)]at J5
       exact h1 j v k hj J5
      ·rw [if_neg hc]at hj
       rw [if_neg (by omega),← hl]at J5
       exact h2 _ v k hj J5
     have pt:∀ {vs:Array Value} {l:List (Option PK)},(∀j k,nth l j=some (some k)→∃u,vs[j]? =some u∧den U st.rs k=some u)→∀j v k,nth vs.toList j=some v→nth (aF (fun o:Option PK=>o.map Kn.p) l) j=some k→KnO st.rs v k:=by
      intro vs l hh j v k hj J5
      rw [aY]at J5
      cases hn:nth l j with
      | none=>rw [hn]at J5;cases J5
      | some o=>
       rw [hn]at J5
       injection J5 with J5
       subst J5
       cases o with
       | none=>exact trivial
       | some p=>
        obtain⟨u,hu,hd⟩:=hh j p hn
        rw [aH]at hj
        simp at hj
        rw [hu]at hj
        injection hj with hj
        subst hj
        exact hd
     have no:∀ {vs:List Value},∀j v k,nth vs j=some v→nth (aF (fun _:Value=>(none:Option Kn)) vs) j=some k→KnO st.rs v k:=by
      intro vs j v k hj J5
      rw [aY,hj]at J5
      injection J5 with J5
      subst J5
      exact trivial
     unfold Ij at J5
     split at J5
     ·rename_i a b hkf
      rw [hkf,hf]at hfk
      obtain⟨_,fs,cs,e,⟨Lu,NL⟩,h3,h4⟩:=hfk
      injection e with _ e1 e2
      subst e1;subst e2
      exact app (by simp [Lu]) (pt h3) (app (by simp) LP (pt h4)) j v k hj J5
     ·exact app (by simp) no (app (by simp) LP no) j v k hj J5
   ·exact h.elim
  ·rename_i x name
   split at h
   ·rename_i t u hx
    split at h
    ·rename_i f' hm
     refine Iv Kx hI hk hx hm (fun j v k hj J5=>?_) h
     cases j with
     | zero=>
      simp only [nth,Option.some.injEq]at J5
      subst J5
      exact trivial
     | succ j=>
      simp only [nth]at hj J5
      rw [aY]at hj J5
      cases hn:nth args.toList j with
      | none=>rw [hn]at hj;cases hj
      | some y=>
       rw [hn]at hj J5
       injection hj with hj
       injection J5 with J5
       subst hj;subst J5
       exact hk.kf y
    ·exact h.elim
   ·exact h.elim
  ·split at h
   ·rename_i x y t t' ha hat
    split at h
    ·rename_i e tt ie z QI Ur
     have Ur:=Nat.eq_of_beq_eq_true Ur
     subst Ur
     obtain⟨Qi,hi,hz,JR,Px⟩:=pH QI
     obtain⟨l2,B,d,Y2,hy,Mk,h⟩:=Cx hI.sat hk h
     have W3:args= #[x,y]:=by apply Array.ext';simpa using ha
     have hat':ats= #[t,t]:=by apply Array.ext';simpa using hat
     subst W3;subst hat'
     have key:∀ {A:Option Addr} {m c:Nat} {K':Value→World→Prop},ev fr x= .slice A m c→(∃(A':Option Addr)(n' c':Nat)(w2:World),(Builtin.append_ #[t,t] ty #[.slice A m c,.slice B l2.length d]:Sem Value).run P w= .ok (.slice A' n' c') w2∧K' (.slice A' n' c') w2)→
      opW P Y (BH fr w0 k0 X0 may st X w K) {dst:=dst,op:= .call {callee:= .builtin .append,args:= #[x,y],argTypes:= #[t,t]},type:=ty,pos:=pos,after:=after,guard:=gd} (ev fr) w K':=by
      intro A m c K' hx hh
      obtain⟨A',n',c',w2,hr,hK⟩:=hh
      refine⟨rfl,?_⟩
      rw [py (s:=Builtin.append_ #[t,t] ty #[.slice A m c,.slice B l2.length d]) (by simp [uU,hx,hy]) w hr]
      exact hK
     split at h
     ·rename_i id K2
      split at h
      ·rename_i tt' T A0 c0 l hn Kk
       split at h
       ·rename_i hT
        have hT:=Nat.eq_of_beq_eq_true hT
        subst hT
        split at h
        ·rename_i Ur
         subst Ur
         obtain⟨RD,h⟩:=h
         have K1:=hk.kf x
         rw [K2]at K1
         have hd:den U st.rs (.sl id 0)=some (ev fr x):=K1
         simp only [den,PK.id,hn,cm,jb,Option.some.injEq]at hd
         obtain⟨ho,JM⟩:Own w (X id) T A0 l.length c0 l∧∀k,X id k→k<w.heap.size:=hI.sat.res id _ hn
         have MM:l.length+l2.length≤9223372036854775807:=by
          have:=Nat.le_mul_of_pos_right (l.length+l2.length) Px
          omega
         have fin:∀(A':Option Addr)(c':Nat)(w2:World)(Z:Nat→Prop),Own w2 Z T A' (l++l2).length c' (l++l2)→(∀k,Z k→X id k∨w.heap.size≤k)→Ch (X id) w w2→∃k st' X' M,K (.slice A' (l++l2).length c') k st'∧KnO st'.rs (.slice A' (l++l2).length c') k∧dQ w0 k0 X0 may fr st X w st' X' w2 M:=by
          intro A' c' w2 Z M6 Rr hq
          have KI:de (Res.lst tt' true T A0 c0 l) (.lst tt' true T A' c' (l++l2)):= .lst _ _ _ _ _ _ _ _ _
          have hat:nth (cy st.rs id (Res.lst tt' true T A' c' (l++l2))) id=some (.lst tt' true T A' c' (l++l2)):=by rw [br,if_pos ⟨rfl,aU hn⟩]
          refine step_done (st':=⟨cy st.rs id (.lst tt' true T A' c' (l++l2)),fj [id] st.kn,id::st.md⟩) (k:=some (.p (.sl id 0))) (AG hI hn Kk hq KI (Z:=fun k=>Z k∧k<w2.heap.size) (show RS _ w2 (.lst tt' true T A' c' (l++l2))from⟨M6.narrow,fun k hk=>hk.2⟩) (fun k hk=>Rr k hk.1) ?_) ?_ (h A' c')
          rotate_left
          ·show den U _ (.sl id 0)=_
           simp only [den,PK.id,hat,cm,jb]
          ·refine hk.fj (M:= [id]) (fun i _ hi=>by rw [br,if_neg (fun hh=>hi (by simp [hh.1]))]) fun i hi a ha=>?_
           simp at hi
           subst hi
           rw [hn]at ha
           injection ha with ha
           subst ha
           exact⟨_,hat,KI⟩
         refine key hd.symm ?_
         refine Own.apps (ho.mono (Y:=fun k=>X id k∨w.heap.size≤k) fun k hk=>.inl hk) Qi Mk MM RD (.inr (Nat.le_refl _)) (fun A' c' w2 M6 hq=>?_) (fun h0 hB=>?_)
         ·rw [← List.length_append]at M6 ⊢
          refine fin A' c' w2 _ M6 (fun k hk=>hk) ⟨hq.kept.mono fun k hk=>⟨hk.1,fun hh=>hh.elim hk.2 (fun hh=>absurd hk.1 (Nat.not_lt.2 hh))⟩⟩
         ·have NL:l2= []:=List.eq_nil_of_length_eq_zero h0
          subst NL
          refine⟨_,_,_,_,run_append_nothing w t t ty T ie Qi.und hi A0 l.length c0 ho.own.DL _ (Src.ofNil _ Qi.und d),?_⟩
          have:=fin A0 c0 w (X id) (by rw [List.append_nil];exact ho) (fun k hk=>.inl hk) (Ch.refl _ _)
          rw [List.append_nil]at this
          exact this
        ·exact h.elim
       ·exact h.elim
      ·exact h.elim
     ·split at h
      ·rename_i hx
       obtain⟨RD,h⟩:=h
       have MM:l2.length≤9223372036854775807:=by
        have:=Nat.le_mul_of_pos_right l2.length Px
        omega
       refine key hx ?_
       refine o5 Qi Mk MM RD fun A' c' w2 M6 hq=>?_
       exact qa hI hk hq M6 (fun k hk=>hk.1) rfl (h A' c')
      ·exact h.elim
     ·exact h.elim
    ·exact h.elim
   ·exact h.elim
  ·exact h.elim
 case buildSlice t len parts=>
  split at h
  ·rename_i e tt ie z QI
   obtain⟨Qi,hi,hz,JR,Px⟩:=pH QI
   split at h
   ·rename_i cells hf hb
    split at h
    ·rename_i l hl
     simp only [Bool.and_eq_true]at hb
     have h1:0<len:=by simpa [Nat.blt_eq]using hb.1
     have h2:len*ie.size≤16777216:=Nat.le_of_ble_eq_true hb.2
     have UC:0<ie.size:=by rw [JR];exact(U.en tt).pos
     have hls:0<len*ie.size:=Nat.mul_pos h1 UC
     obtain⟨NV,hlf⟩:=vP hl
     refine⟨rfl,?_⟩
     have hr:(execOp (ev fr) {dst:=dst,op:= .buildSlice t len parts,type:=ty,pos:=pos,after:=after,guard:=gd}).run P w= .ok (.value (.slice (some ⟨w.heap.size,0,none⟩) len len)) (w.alloc (.cells cells e)):=by
      have:=Go.run_buildSlice (P:=P) w t e len (parts.map fun(ix:Nat×Operand)=>(ix.1,ev fr ix.2)) cells ie z Qi.und hi hz (by omega) (by omega) hf
      simp only [execOp]
      rw [Sem.run_bind,this]
      rfl
     rw [hr]
     have Kq:cells.size=len*(U.en tt).size:=by
      rw [← Array.length_toList,← hlf,eh,NV]
     have Ki:=World.ownsRow_lit (base:=0) (e:=e) (size:=(U.en tt).size) w cells len (Nat.zero_le _) (by
      have:=Nat.le_mul_of_pos_right len UC
      simp only [maxLen];omega) Kq
     refine qa hI hk (Z:=fun k=>k=w.heap.size) (show Pu w (w.alloc (.cells cells e))from(made (w2:=w.alloc (.cells cells e)) rfl rfl).pu) ⟨⟨?_,fun a ha=>by injection ha with ha;rw [← ha]⟩,rfl⟩ (fun k e=>by rw [e];exact Nat.le_refl _) (by rw [NV]) (h w.heap.size)
     rw [hlf,NV]
     exact Ki
    ·exact h.elim
   ·exact h.elim
  ·exact h.elim
 case makeSlice t l c=>
  split at h
  ·rename_i a b e tt ie z hla hlb QI
   obtain⟨Qi,hi,hz,JR,Px⟩:=pH QI
   split at h
   ·rename_i x hx
    obtain⟨⟨rfl,h0,hb⟩,h⟩:=h
    have MM:a≤9223372036854775807:=by
     have h9:(1:Int)*a≤(ie.bytes:Int)*a:=Int.mul_le_mul_of_nonneg_right (by omega) h0
     omega
    have hr:=run_make (P:=P) w t e ie z Qi.und hi hz .i64 .i64 a a h0 (Int.le_refl _) hb MM
    refine⟨rfl,?_⟩
    rw [py (s:=Instr.makeSlice t (.int .i64 a) (.int .i64 a)) (by simp [uU,hla,hlb]) w hr]
    have Kv:=yn (x:=x) (U.gz hx) a.toNat
    have hlen:(List.replicate a.toNat x).length=a.toNat:=List.length_replicate
    rw [JR]
    have Ki:=World.ownsRow_lit (base:=0) (e:=e) (size:=(U.en tt).size) w (madeCells z.cells (a.toNat *(U.en tt).size)) a.toNat (Nat.zero_le _) (by simp only [maxLen];omega) (size_madeCells _ _)
    refine qa hI hk (Z:=fun k=>k=w.heap.size) (l:=List.replicate a.toNat x) (c:=a.toNat) (T:=e) (A:=some ⟨w.heap.size,0,none⟩) ((made (w2:=w.alloc (.cells (madeCells z.cells (a.toNat *(U.en tt).size)) e)) rfl rfl).pu) ⟨⟨?_,fun a ha=>by injection ha with ha;rw [← ha]⟩,rfl⟩ (fun k e=>by rw [e];exact Nat.le_refl _) (by rw [hlen]) ?_
    ·rw [Kv,hlen]
     exact Ki
    ·have:=h w.heap.size
     rw [hlen]at this
     exact this
   ·exact h.elim
  ·exact h.elim
theorem zT {o:Oper} {K:eZ U} {Y:Bool}(Kx:∀f c,tbl.c f=some c→LV U P f c∧bP P f=true)(hI:Inv w0 k0 X0 may st.rs X w)(hk:av st.rs fr st.kn)(h:op2 U P tbl may k0 o (ev fr) st K):
 opW P Y (BH fr w0 k0 X0 may st X w K) o (ev fr) w fun v w'=>∃k st' X' M,K v k st'∧KnO st'.rs v k∧dQ w0 k0 X0 may fr st X w st' X' w' M:=by
 unfold op2 at h
 split at h
 ·exact Db Kx hI hk h
 ·obtain⟨v,k,h1,h2,h3⟩:=sd hI.sat hk h
  have hr:=h3 w (Kept.refl _ _)
  refine⟨?_,?_⟩
  ·obtain⟨dst,op,ty,pos,after,gd⟩:=o
   cases op<;>first | rfl | skip
   exact absurd (show oe P _ _ _ from h) (fun hh=>hh.elim)
  ·rw [hr]
   exact⟨k,st,X,[],h1,h2,hI,hk,rfl,fun i hi=>(by cases hi),fun i hi=>(by cases hi),Nat.le_refl _,fun _ _ _=>⟨rfl,rfl⟩,fun i hi=>(by cases hi),fun i h1 h2=>by omega,Ch.refl _ _,fun i a ha=>⟨a,ha,de.refl a⟩⟩
structure Steps(w0:World)(k0:Nat)(X0:Nat→Nat→Prop)(may:List Nat)(st:St U)(X:Nat→Nat→Prop)(st':St U)(X':Nat→Nat→Prop)(w':World):Prop where
 inv:Inv w0 k0 X0 may st'.rs X' w'
 len:st.rs.length≤st'.rs.length
 md:∃L,st'.md=L++st.md∧(∀i,i∈L→i∈may∨k0≤i)∧∀i,i<st.rs.length→i ∉ L→nth st'.rs i=nth st.rs i∧X' i=X i
 root:∀i a,nth st.rs i=some a→∃b,nth st'.rs i=some b∧de a b
theorem Steps.refl(h:Inv w0 k0 X0 may st.rs X w):Steps w0 k0 X0 may st X st X w:=⟨h,Nat.le_refl _,⟨[],rfl,fun i hi=>(by cases hi),fun _ _ _=>⟨rfl,rfl⟩⟩,fun i a ha=>⟨a,ha,de.refl a⟩⟩
theorem Steps.trans {MZ KF:St U} {X1 X2:Nat→Nat→Prop} {w1 w2:World}(h:Steps w0 k0 X0 may st X MZ X1 w1)(k:Steps w0 k0 X0 may MZ X1 KF X2 w2):Steps w0 k0 X0 may st X KF X2 w2:=by
 obtain⟨L,hL,cL,hl⟩:=h.md
 obtain⟨M,hM,cM,hm⟩:=k.md
 exact⟨k.inv,Nat.le_trans h.len k.len,⟨M++L,by rw [hM,hL,List.append_assoc],fun i hi=>(List.mem_append.1 hi).elim (cM i) (cL i),fun i hi hn=>by
  rw [List.mem_append,not_or]at hn
  obtain⟨e1,e2⟩:=hm i (Nat.lt_of_lt_of_le hi h.len) hn.1
  obtain⟨e3,e4⟩:=hl i hi hn.2
  exact⟨e1.trans e3,e2.trans e4⟩⟩,fun i a ha=>by
  obtain⟨b,hb,hr⟩:=h.root i a ha
  obtain⟨c,hc,LW⟩:=k.root i b hb
  exact⟨c,hc,hr.trans LW⟩⟩
theorem dQ.steps {st':St U} {X':Nat→Nat→Prop} {w':World} {M:List Nat}(h:dQ w0 k0 X0 may fr st X w st' X' w' M):Steps w0 k0 X0 may st X st' X' w':=⟨h.inv,h.len,⟨M,h.md,h.can,fun i hi hm=>h.same i hi hm⟩,h.root⟩
theorem Steps.kn {st' KF:St U} {X':Nat→Nat→Prop} {w':World}(h:Steps w0 k0 X0 may st X st' X' w')(h1:KF.rs=st'.rs)(h2:KF.md=st'.md):Steps w0 k0 X0 may st X KF X' w':=by
 obtain⟨a,b,c,d⟩:=h
 exact⟨by rw [h1];exact a,by rw [h1];exact b,by rw [h1,h2];exact c,by rw [h1];exact d⟩
variable {n:Nat} {N:List Nat} {ops:Array Oper}
theorem gP {dst:Option Tmp} {v:Value} {F G:Fr→Prop}(h:iN n N fr dst v F)(hF:∀fr',F fr'→G fr'):iN n N fr dst v G:=by
 unfold iN at h ⊢
 cases dst with
 | none=>exact hF _ h
 | some d=>
  simp only at h ⊢
  split at h
  ·split at h
   ·cases v with
    | int k x=>exact fun z hz=>hF _ (h z hz)
    | bool x=>exact fun z hz=>hF _ (h z hz)
    | _=>exact hF _ h
   ·exact hF _ h
  ·exact h.elim
def Aft(w0:World)(k0:Nat)(X0:Nat→Nat→Prop)(may:List Nat)(st:St U)(X:Nat→Nat→Prop)(ds:List Deferred)(K:Fr→St U→Prop)(fr':Fr)(w':World):Prop:=
 ∃st' X',Steps w0 k0 X0 may st X st' X' w'∧av st'.rs fr' st'.kn∧fr'.ds=ds∧K fr' st'
def Cq(M:Fr→Oper→World→aD→Prop)(n:Nat)(N:List Nat)(ops:Array Oper)(K:Fr→World→Prop):List Oper→Fr→World→Prop
 | [],fr,w=>K fr w
 | o::rest,fr,w=>gy ops o fr
  (fun fr=>M fr o w (fun v w'=>iN n N fr o.dst v fun fr'=>Cq M n N ops K rest fr' w'))
  (fun fr=>iN n N fr o.dst undef fun fr'=>Cq M n N ops K rest fr' w)
def lD(n:Nat)(ws:List Nat)(a0:Act)(Q:QF):Exit→Act→World→Prop
 | .outgrown,_,_=>False
 | x,a,w=>∃fr,Rep n fr a∧Q x fr w∧Agr ws a0 a
theorem lG {Qp:Fr→List PanicEntry→World→Prop} {K:Fr→World→Prop} {ws:List Nat} {a0:Act} {r:Option Nat}:
 ∀(l:List Oper),(∀o∈l,∀d,o.dst=some d→d∈ws)→∀(fr:Fr)(a:Act)(w:World),Rep n fr a→Agr ws a0 a→Cq (fun fr o w K=>opW P true (some (Qp fr)) o (ev fr) w K) n N ops K l fr w→
  wpListIn (WF r) 0 P ops (lD n ws a0 fun x fr w=>match x with | .normal=>K fr w | .panic ch=>Qp fr ch w | _=>False) l a w
 | [],_,fr,a,w,hr,ha,h=>⟨fr,hr,h,ha⟩
 | o::rest,hd,fr,a,w,hr,ha,h=>by
  obtain⟨fr',Jv,hh⟩:=jF hr h
  simp only [wpListIn]
  rcases hh with⟨hw,hh⟩ | ⟨hw,hh⟩
  ·rw [if_pos hw]
   refine zQ (K:=fun fr' w'=>Cq (fun fr o w K=>opW P true (some (Qp fr)) o (ev fr) w K) n N ops K rest fr' w') Jv ha (hd o (List.mem_cons_self ..)) hh ?_ ?_
   ·intro Kr a2 w2 h2 h3 h4
    exact lG rest (fun o' NJ=>hd o' (List.mem_cons_of_mem _ NJ)) Kr a2 w2 h2 h3 h4
   ·intro ch w' hq
    exact⟨fr',Jv,hq,ha⟩
  ·rw [if_neg (by rw [hw];simp)]
   obtain⟨Kr,h2,h3⟩:=fV Jv hh
   exact⟨jL,lG rest (fun o' NJ=>hd o' (List.mem_cons_of_mem _ NJ)) Kr _ w h2 (ha.trans (Agr.put a o.dst undef (hd o (List.mem_cons_self ..)))) h3⟩
theorem CV {k:Option Kn} {A B:Prop} {rs:List (Res U)} {v:Value}(h:yj k A B)(hk:KnO rs v k):B:=by
 unfold yj at h
 split at h
 ·exact hk.elim
 ·exact h
theorem pw {K:Fr→St U→Prop} {Kp:List PanicEntry→Fr→St U→Prop}(Kx:∀f c,tbl.c f=some c→LV U P f c∧bP P f=true):∀(l:List Oper)(fr:Fr)(st0 st:St U)(Xs X:Nat→Nat→Prop)(w:World)(ds:List Deferred),Steps w0 k0 X0 may st0 Xs st X w→av st.rs fr st.kn→fr.ds=ds→Ax U P tbl may k0 n N ops K Kp l fr st→
 Cq (fun fr o w K=>opW P true (some fun ch w'=>Aft w0 k0 X0 may st0 Xs ds (Kp ch) fr w') o (ev fr) w K) n N ops (Aft w0 k0 X0 may st0 Xs ds K) l fr w
 | [],fr,st0,st,Xs,X,w,ds,hS,hk,hd,h=>⟨st,X,hS,hk,hd,h⟩
 | o::rest,fr,st0,st,Xs,X,w,ds,hS,hk,hd,h=>by
  refine kq h (fun fr' hl Lc h=>?_) (fun fr' hl Lc h=>?_)
  ·have Ml:=hk.same hl
   refine pY (zR (zT Kx hS.inv Ml h) ?_) fun v w' hp=>?_
   ·rintro ch w' ⟨v,st',X',M,rfl,h1,h3⟩
    exact⟨st',X',hS.trans h3.steps,h3.kn,by rw [Lc,hd],h1⟩
   ·obtain⟨k,st',X',M,h1,h2,h3⟩:=hp
    refine gP (iY (CV h1 h2) h3.kn h2) fun Kr hp=>?_
    obtain⟨KF,e1,e2,h4,h5,h6⟩:=hp
    exact pw Kx rest Kr st0 KF Xs X' w' ds ((hS.trans h3.steps).kn e1 e2) (by rw [e1];exact h4) (by rw [h5,Lc,hd]) h6
  ·have Ml:=hk.same hl
   refine gP (iY h Ml trivial) fun Kr hp=>?_
   obtain⟨KF,e1,e2,h4,h5,h6⟩:=hp
   exact pw Kx rest Kr st0 KF Xs X w ds (hS.kn e1 e2) (by rw [e1];exact h4) (by rw [h5,Lc,hd]) h6
theorem Inv.drew(h:Inv w0 k0 X0 may st.rs X w):Inv w0 k0 X0 may st.rs X w.drew:=h.pu (Pu.aW w)
structure BOk(V:List Nat)(rd:List (Nat×List Nat))(b:Nat→Nat→Prop)(rs:List (Res U))(X:Nat→Nat→Prop)(w:World):Prop where
 has:∀i id k,id∈oc i rd→id<rs.length→X id k→b i k
 all:∀i k,i∈V→b i k
 only:∀i k,i ∉ V→b i k→k<w.heap.size∧∀j,j<rs.length→X j k→j∈oc i rd
end
end
end Go.Proofs.YtinhphjfnedhgaaGreatDoor.V
