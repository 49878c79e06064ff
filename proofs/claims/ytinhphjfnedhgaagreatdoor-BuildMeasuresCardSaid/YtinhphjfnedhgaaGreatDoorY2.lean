/- BuildMeasures returns true for every input, and each argument reads behind the call as it read before; what the listed variable reads as is tied to the program's text; no condition. -/
import Derived.Test.YtinhphjfnedhgaaGreatDoorY1
import Derived.Test.YtinhphjfnedhgaaGreatDoorProg
import Derived.KernelRfl
import Derived.Great.BuildSlice
set_option linter.unusedVariables false
set_option linter.unusedSimpArgs false
namespace Go.Proofs.YtinhphjfnedhgaaGreatDoor.V
open Go Go.RowKit
open Go.IntKind (i64 u32 u64)
open Enc (enc)
section
section
variable {U:Uni} {P:Program} {tbl:Tb U} {may:List Nat} {k0:Nat}
theorem gA {α β:Type}(f:α→β):∀l,aG f l=l.map f
 | []=>rfl
 | a::l=>by simp [aG,gA f l]
theorem br {α β:Type}(f:α→β):∀(l:List α)(i:Nat),nth (aG f l) i=(nth l i).map f
 | [],_=>rfl
 | _::_,0=>rfl
 | _::l,i+1=>br f l i
@[simp] theorem Gy {α β:Type}(f:α→β):∀l:List α,(aG f l).length=l.length
 | []=>rfl
 | _::l=>by simp [aG,Gy f l]
theorem fh {x:Nat}:∀ {l:List Nat},ly x l=true↔x∈l
 | []=>by simp [ly]
 | y::r=>by
  unfold ly
  split
  ·rename_i h
   have:=Nat.eq_of_beq_eq_true h
   simp [this]
  ·rename_i h
   have h':¬x=y:=by rintro rfl;simp at h
   rw [fh]
   simp [h']
theorem mU:∀ {l:List Nat},pI l=true→l.Nodup
 | [],_=>List.nodup_nil
 | x::r,h=>by
  unfold pI at h
  split at h
  ·cases h
  ·rename_i hm
   refine List.nodup_cons.2 ⟨fun hx=>?_,mU h⟩
   rw [fh.2 hx]at hm
   cases hm
theorem cI {α:Type} {f:α→Bool}:∀ {l:List α},hH f l=true↔∀x∈l,f x=true
 | []=>by simp [hH]
 | a::r=>by
  unfold hH
  split
  ·rename_i h
   rw [cI]
   simp [h]
  ·rename_i h
   simp [h]
theorem yZ {α:Type} {f:α→Bool}:∀ {l:List α},my f l=true↔∃x∈l,f x=true
 | []=>by simp [my]
 | a::r=>by
  unfold my
  split
  ·rename_i h
   simp [h]
  ·rename_i h
   rw [yZ]
   simp [h]
theorem sI {α β:Type} {f:α→Option β}:∀ {l:List α} {r:List β},iI f l=some r→r.length=l.length∧∀i a,nth l i=some a→∃b,f a=some b∧nth r i=some b
 | [],r,h=>by
  simp only [iI,Option.some.injEq]at h
  subst h
  exact⟨rfl,fun i a hi=>by simp [nth]at hi⟩
 | a::l,r,h=>by
  unfold iI at h
  split at h
  ·rename_i b bs hb VV
   injection h with h
   subst h
   obtain⟨h1,h2⟩:=sI VV
   refine⟨by simp [h1],fun i x hx=>?_⟩
   cases i with
   | zero=>simp [nth]at hx;subst hx;exact⟨b,hb,rfl⟩
   | succ i=>exact h2 i x hx
  ·cases h
theorem fq {α:Type}:∀(n:Nat)(l:List α),jA n l=l.take n
 | 0,_=>by simp [jA]
 | n+1,[]=>by simp [jA]
 | n+1,a::l=>by simp [jA,fq n l]
theorem gb {α:Type}:∀(n:Nat)(l:List α),mI n l=l.drop n
 | 0,_=>by simp [mI]
 | n+1,[]=>by simp [mI]
 | n+1,a::l=>by simp [mI,gb n l]
theorem rY {α:Type}:∀(l:List α)(i:Nat)(x:α),cg l i x=l.set i x
 | [],_,_=>by simp [cg]
 | _::_,0,_=>rfl
 | _::l,i+1,x=>by simp [cg,rY l i x]
theorem ql:∀(vs:List Value)(cs:List Value)(o:Nat),setAt ⟨cs⟩ o vs=⟨gR cs o vs⟩
 | [],_,_=>rfl
 | v::r,cs,o=>by
  have e:(Array.mk cs).setIfInBounds o v=⟨cg cs o v⟩:=by apply Array.ext';simp [rY]
  simp only [setAt,gR,e]
  exact ql r _ _
@[simp] theorem DT {α:Type}:∀(vs:List α)(cs:List α)(o:Nat),(gR cs o vs).length=cs.length
 | [],_,_=>rfl
 | v::r,cs,o=>by simp [gR,DT r]
theorem mq {α:Type}:∀(vs:List α)(cs:List α)(o i:Nat),o+vs.length≤cs.length→nth (gR cs o vs) i=if o≤i∧i<o+vs.length then nth vs (i - o)else nth cs i
 | [],cs,o,i,h=>by
  simp only [gR,List.length_nil,Nat.add_zero]
  rw [if_neg (by omega)]
 | v::r,cs,o,i,h=>by
  simp only [List.length_cons]at h
  simp only [gR,List.length_cons]
  rw [mq r _ _ _ (by simp;omega),bn]
  by_cases h1:o+1≤i∧i<o+1+r.length
  ·rw [if_pos h1,if_pos (by omega)]
   have:i - o=(i - (o+1))+1:=by omega
   rw [this];rfl
  ·rw [if_neg h1]
   by_cases h2:i=o
   ·subst h2
    rw [if_pos ⟨rfl,by omega⟩,if_pos (by omega)];simp [nth]
   ·rw [if_neg (by omega),if_neg (by omega)]
theorem dD {f:Key→Kn→Bool} {key:Key} {k:Kn}:∀ {l:List (Key×Kn)},(key,k)∈eK f l→(key,k)∈l∧f key k=true
 | [],h=>by cases h
 | (a,q)::r,h=>by
  unfold eK at h
  split at h
  ·rename_i hf
   rcases List.mem_cons.1 h with e | h
   ·injection e with e1 e2;subst e1;subst e2;exact⟨List.mem_cons_self ..,hf⟩
   ·have:=dD h;exact⟨List.mem_cons_of_mem _ this.1,this.2⟩
  ·have:=dD h;exact⟨List.mem_cons_of_mem _ this.1,this.2⟩
theorem Key.mZ:∀ {a b:Key},a.eq b=true→a=b
 | .s a,.s b,h=>by rw [Nat.eq_of_beq_eq_true h]
 | .c a b,.c x y,h=>by
  simp only [Key.eq,Bool.and_eq_true]at h
  rw [Nat.eq_of_beq_eq_true h.1,Nat.eq_of_beq_eq_true h.2]
 | .l a b,.l x y,h=>by
  simp only [Key.eq,Bool.and_eq_true]at h
  rw [Nat.eq_of_beq_eq_true h.1,Nat.eq_of_beq_eq_true h.2]
 | .s _,.l _ _,h=>by cases h
 | .l _ _,.s _,h=>by cases h
 | .c _ _,.l _ _,h=>by cases h
 | .l _ _,.c _ _,h=>by cases h
 | .s _,.c _ _,h=>by cases h
 | .c _ _,.s _,h=>by cases h
theorem uY {key:Key} {k:Kn}:∀ {l:List (Key×Kn)},cV key l=some k→(key,k)∈l
 | [],h=>by cases h
 | (a,q)::r,h=>by
  unfold cV at h
  split at h
  ·rename_i he
   injection h with h
   subst h
   rw [Key.mZ he]
   exact List.mem_cons_self ..
  ·exact List.mem_cons_of_mem _ (uY h)
theorem PK.mZ:∀ {a b:PK},a.eq b=true→a=b
 | .loc a b,.loc x y,h=>by
  simp only [PK.eq,Bool.and_eq_true]at h
  rw [Nat.eq_of_beq_eq_true h.1,Nat.eq_of_beq_eq_true h.2]
 | .obj a b c,.obj x y z,h=>by
  simp only [PK.eq,Bool.and_eq_true]at h
  rw [Nat.eq_of_beq_eq_true h.1,Nat.eq_of_beq_eq_true h.2.1,Nat.eq_of_beq_eq_true h.2.2]
 | .sl a b,.sl x y,h=>by
  simp only [PK.eq,Bool.and_eq_true]at h
  rw [Nat.eq_of_beq_eq_true h.1,Nat.eq_of_beq_eq_true h.2]
 | .loc ..,.obj ..,h | .loc ..,.sl ..,h | .loc ..,.el ..,h | .obj ..,.loc ..,h | .obj ..,.sl ..,h | .obj ..,.el ..,h | .sl ..,.loc ..,h | .sl ..,.obj ..,h | .sl ..,.el ..,h | .el ..,.loc ..,h | .el ..,.obj ..,h | .el ..,.sl ..,h | .el ..,.el ..,h=>by cases h
theorem Kn.mZ {a b:Kn}(h:a.eq b=true):a=b∧∃p,a= .p p:=by
 cases a<;>cases b<;>simp only [Kn.eq]at h<;>first | cases h | skip
 rename_i p q
 exact⟨by rw [PK.mZ h],p,rfl⟩
def Kn.has(p:PK):Kn→Prop
 | .p k=>k=p
 | .t l=>∃j,nth l j=some (some p)
 | .ag l=>∃j,nth l j=some (some p)
 | .f a b=>(∃j,nth a j=some (some p))∨∃j,nth b j=some (some p)
 | .pan=>False
theorem iW.mono {rs rs':List (Res U)} {v:Value} {k:Kn}(h:iW rs v k)(hd:∀p,k.has p→∀u,den U rs p=some u→den U rs' p=some u):iW rs' v k:=by
 cases k with
 | pan=>exact h
 | p k=>exact hd k rfl _ h
 | t l=>
  obtain⟨vs,h1,h2⟩:=h
  exact⟨vs,h1,fun j k hj=>by obtain⟨u,hu,Sc⟩:=h2 j k hj;exact⟨u,hu,hd k ⟨j,hj⟩ _ Sc⟩⟩
 | ag l=>
  obtain⟨vs,h1,h2⟩:=h
  exact⟨vs,h1,fun j k hj=>by obtain⟨u,hu,Sc⟩:=h2 j k hj;exact⟨u,hu,hd k ⟨j,hj⟩ _ Sc⟩⟩
 | f a b=>
  obtain⟨f,fs,cs,h1,hl,h2,h3⟩:=h
  exact⟨f,fs,cs,h1,hl,fun j k hj=>by obtain⟨u,hu,Sc⟩:=h2 j k hj;exact⟨u,hu,hd k (.inl ⟨j,hj⟩) _ Sc⟩,fun j k hj=>by obtain⟨u,hu,Sc⟩:=h3 j k hj;exact⟨u,hu,hd k (.inr ⟨j,hj⟩) _ Sc⟩⟩
theorem gX {α:Type}:∀ {l:List α} {i:Nat} {x:α},nth l i=some x→x∈l
 | a::l,0,x,h=>by simp [nth]at h;subst h;exact List.mem_cons_self ..
 | a::l,i+1,x,h=>List.mem_cons_of_mem _ (gX (l:=l) h)
theorem Kn.AU {k:Kn} {i:Nat}(h:k.ofList i=false) {p:PK}(hp:k.has p):p.ofList i=false:=by
 have key:∀ {l:List (Option PK)},my (uO i) l=false→∀j,nth l j=some (some p)→p.ofList i=false:=by
  intro l hl j hj
  cases he:p.ofList i
  ·rfl
  ·have:my (uO i) l=true:=yZ.2 ⟨some p,gX hj,he⟩
   rw [hl]at this
   cases this
 cases k with
 | pan=>exact hp.elim
 | p k=>cases hp;exact h
 | t l=>obtain⟨j,hj⟩:=hp;exact key h j hj
 | ag l=>obtain⟨j,hj⟩:=hp;exact key h j hj
 | f a b=>
  simp only [Kn.ofList]at h
  split at h
  ·cases h
  ·rename_i ha
   rcases hp with⟨j,hj⟩ | ⟨j,hj⟩
   ·exact key ha j hj
   ·exact key h j hj
inductive di:Res U→Res U→Prop
 | blk (g:Nat)(cs cs':List Value)(T:TypeId):cs.length=cs'.length→di (.blk g cs T) (.blk g cs' T)
 | ob (t:Nat)(r:Nat→Nat)(s s':U.ty t):di (.ob t r s) (.ob t r s')
 | lst (t:Nat)(own:Bool)(T:TypeId)(A A':Option Addr)(c c':Nat)(l l':List (U.el t)):di (.lst t own T A c l) (.lst t own T A' c' l')
theorem di.refl:∀a:Res U,di a a
 | .blk g cs T=>.blk g cs cs T rfl
 | .ob t r s=>.ob t r s s
 | .lst t own T A c l=>.lst t own T A A c c l l
theorem di.den {a b:Res U}(h:di a b) {p:PK} {v:Value}(hp:p.ofList p.id=false∨a=b)(hd:cz U p (some a)=some v):cz U p (some b)=some v:=by
 rcases hp with hp | rfl
 ·cases h<;>cases p<;>simp only [cz,PK.ofList,PK.id,reduceCtorEq]at hd hp ⊢ <;>first | exact hd | (simp at hp)
 ·exact hd
theorem yT {r r':Res U} {u:Upd U}(h:dh r u=some r'):di r r':=by
 cases r<;>cases u<;>simp only [dh]at h<;>first | cases h | skip
 ·split at h
  ·rename_i hb
   injection h with h;subst h
   exact .blk _ _ _ _ (Nat.eq_of_beq_eq_true hb).symm
  ·cases h
 ·split at h
  ·rename_i t r s t' s' ht
   subst ht
   injection h with h;subst h
   exact .ob _ _ _ _
  ·cases h
 ·split at h
  ·rename_i t own T A c l t' A' c' l' ht
   subst ht
   injection h with h;subst h
   exact .lst _ _ _ _ _ _ _ _ _
  ·cases h
theorem di.trans {a b c:Res U}(h:di a b)(k:di b c):di a c:=by
 cases h<;>cases k
 ·rename_i h1 _ h2;exact .blk _ _ _ _ (h1.trans h2)
 ·exact .ob _ _ _ _
 ·exact .lst _ _ _ _ _ _ _ _ _
theorem oA {rs rs':List (Res U)} {M:List Nat}(hs:∀i,i<rs.length→i ∉ M→nth rs' i=nth rs i)(hr:∀i,i∈M→∀a,nth rs i=some a→∃b,nth rs' i=some b∧di a b)
 {p:PK}(hp:p.id ∉ M∨p.ofList p.id=false) {v:Value}(hd:den U rs p=some v):den U rs' p=some v:=by
 unfold den at hd ⊢
 cases hn:nth rs p.id with
 | none=>rw [hn]at hd;cases p<;>simp [cz]at hd
 | some a=>
  rw [hn]at hd
  by_cases hm:p.id∈M
  ·obtain⟨b,hb,TG⟩:=hr _ hm a hn
   rw [hb]
   exact TG.den (.inl (hp.elim (fun h=>absurd hm h) id)) hd
  ·rw [hs _ (bc hn) hm,hn];exact hd
theorem fm.MF {rs:List (Res U)} {fr fr':Fr}(h:∀i,lk fr'.g i fr'.e=lk fr.g i fr.e) {key:Key} {k:Kn}(hp:fm rs fr key k):fm rs fr' key k:=by
 cases key with
 | s i=>show iW rs (lk fr'.g i fr'.e) k;rw [h];exact hp
 | c id off=>exact hp
 | l id path=>exact hp
theorem av.same {rs:List (Res U)} {fr fr':Fr} {kn:List (Key×Kn)}(h:av rs fr kn)(he:∀i,lk fr'.g i fr'.e=lk fr.g i fr.e):av rs fr' kn:=fun key k hk=>(h key k hk).MF he
theorem av.app {rs:List (Res U)} {fr:Fr} {a b:List (Key×Kn)}(h:av rs fr a)(k:av rs fr b):av rs fr (a++b):=fun key q hq=>(List.mem_append.1 hq).elim (h key q) (k key q)
theorem av.nil {rs:List (Res U)} {fr:Fr}:av rs fr []:=fun _ _ h=>by cases h
theorem av.get {rs:List (Res U)} {fr:Fr} {kn:List (Key×Kn)}(h:av rs fr kn) {key:Key} {k:Kn}(hk:cV key kn=some k):fm rs fr key k:=h _ _ (uY hk)
theorem av.kf {rs:List (Res U)} {fr:Fr} {kn:List (Key×Kn)}(h:av rs fr kn)(x:Operand):KnO rs (ev fr x) (V.kf kn x):=by
 cases x with
 | tmp t=>
  show KnO rs (lk fr.g t fr.e) (cV (.s t) kn)
  cases hg:cV (.s t) kn with
  | none=>exact trivial
  | some k=>exact h.get hg
 | const v=>exact trivial
 | global g=>exact trivial
 | func f=>exact trivial
theorem av.fU {rs rs':List (Res U)} {fr:Fr} {kn:List (Key×Kn)} {M:List Nat}(h:av rs fr kn)(hs:∀i,i<rs.length→i ∉ M→nth rs' i=nth rs i)(hr:∀i,i∈M→∀a,nth rs i=some a→∃b,nth rs' i=some b∧di a b)
 {kn':List (Key×Kn)}(hk:∀key k,(key,k)∈kn'→(key,k)∈kn∧(∀p,k.has p→p.id ∉ M∨p.ofList p.id=false)∧∀id off,key= .c id off→id ∉ M∨∃g cs cs' T,nth rs id=some (.blk g cs T)∧nth rs' id=some (.blk g cs' T)∧nth cs' off=nth cs off):av rs' fr kn':=by
 intro key k hm
 obtain⟨h1,h2,h3⟩:=hk key k hm
 have h0:=h key k h1
 have hd:∀p,k.has p→∀u,den U rs p=some u→den U rs' p=some u:=fun p hp u hu=>oA hs hr (h2 p hp) hu
 cases key with
 | s i=>exact iW.mono h0 hd
 | c id off=>
  obtain⟨g,cs,T,v,e1,e2,e3⟩:=h0
  rcases h3 id off rfl with h3 | ⟨g',cs1,cs2,T',e4,e5,e6⟩
  ·exact⟨g,cs,T,v,by rw [hs _ (bc e1) h3];exact e1,e2,e3.mono hd⟩
  ·rw [e1]at e4
   injection e4 with e4
   injection e4 with e4 e7 e8
   subst e4;subst e7;subst e8
   exact⟨g,cs2,T,v,e5,by rw [e6];exact e2,e3.mono hd⟩
 | l id path=>
  obtain⟨t,r,s,e1,e2⟩:=h0
  by_cases hm:id∈M
  ·obtain⟨b,hb,TG⟩:=hr id hm _ e1
   cases TG
   exact⟨t,r,_,hb,e2.mono hd⟩
  ·exact⟨t,r,s,by rw [hs _ (bc e1) hm];exact e1,e2.mono hd⟩
theorem uL {key:Key} {k:Kn}:∀ {M:List Nat} {kn:List (Key×Kn)},(key,k)∈fg M kn→(key,k)∈kn∧∀i∈M,k.ofList i=false∧∀off,key≠ .c i off
 | [],kn,h=>⟨h,fun i hi=>by cases hi⟩
 | i::r,kn,h=>by
  unfold fg at h
  obtain⟨h1,h2⟩:=uL h
  obtain⟨h3,h4⟩:=dD h1
  simp only [Bool.and_eq_true,Bool.not_eq_true']at h4
  refine⟨h3,fun j hj=>?_⟩
  rcases List.mem_cons.1 hj with rfl | hj
  ·refine⟨h4.1,fun off e=>?_⟩
   subst e
   simp at h4
  ·exact h2 j hj
theorem av.fg {rs rs':List (Res U)} {fr:Fr} {kn:List (Key×Kn)} {M:List Nat}(h:av rs fr kn)(hs:∀i,i<rs.length→i ∉ M→nth rs' i=nth rs i)(hr:∀i,i∈M→∀a,nth rs i=some a→∃b,nth rs' i=some b∧di a b):av rs' fr (V.fg M kn):=by
 refine h.fU hs hr fun key k hk=>?_
 obtain⟨h1,h2⟩:=uL hk
 refine⟨h1,fun p hp=>?_,fun id off e=>?_⟩
 ·by_cases hm:p.id∈M
  ·exact .inr (Kn.AU (h2 _ hm).1 hp)
  ·exact .inl hm
 ·by_cases hm:id∈M
  ·exact absurd e ((h2 id hm).2 off)
  ·exact .inl hm
theorem GF {rs:List (Res U)} {fr fr':Fr} {kn:List (Key×Kn)} {d:Nat} {v:Value} {k:Option Kn}(h:av rs fr kn)(hv:KnO rs v k)(h1:lk fr'.g d fr'.e=v)(h2:∀i,i≠d→lk fr'.g i fr'.e=lk fr.g i fr.e):av rs fr' (yp (.s d) k kn):=by
 have key:av rs fr' (eK (fun a _=>!(a.eq (.s d))) kn):=by
  intro a q hq
  obtain⟨hm,hf⟩:=dD hq
  have h0:=h a q hm
  cases a with
  | s i=>
   have NN:i≠d:=by rintro rfl;simp [Key.eq]at hf
   show iW rs (lk fr'.g i fr'.e) q
   rw [h2 i NN];exact h0
  | c id off=>exact h0
  | l id path=>exact h0
 unfold yp
 split
 ·exact key
 ·rename_i q
  intro a z hz
  rcases List.mem_cons.1 hz with e | hz
  ·injection e with e1 e2
   subst e1;subst e2
   show iW rs (lk fr'.g d fr'.e) z
   rw [h1];exact hv
  ·exact key a z hz
theorem v9(g:Nat→Value)(d i:Nat)(v:Value)(e:List (Nat×Value)):lk g i ((d,v)::e)=if i=d then v else lk g i e:=by
 simp only [lk]
 split
 ·rename_i h;rw [if_pos (Nat.eq_of_beq_eq_true h)]
 ·rename_i h;rw [if_neg (by rintro rfl;simp at h)]
theorem jF {n:Nat} {N:List Nat} {fr:Fr} {dst:Option Tmp} {v:Value} {k:Option Kn} {st:St U} {F:Fr→St U→Prop}(h:xR U n N fr dst v k st F)(hk:av st.rs fr st.kn)(hv:KnO st.rs v k):
 jt n N fr dst v fun fr'=>∃st',st'.rs=st.rs∧st'.md=st.md∧av st.rs fr' st'.kn∧fr'.ds=fr.ds∧F fr' st':=by
 unfold xR at h
 unfold jt at h ⊢
 cases dst with
 | none=>exact⟨st,rfl,rfl,hk,rfl,h⟩
 | some d=>
  dsimp only at h ⊢
  split at h
  ·rename_i hb
   have fin:∀u,u=v→F ⟨(d,u)::fr.e,fr.g,fr.ds⟩ {st with kn:=yp (.s d) k st.kn}→∃st':St U,st'.rs=st.rs∧st'.md=st.md∧av st.rs ⟨(d,u)::fr.e,fr.g,fr.ds⟩ st'.kn∧fr.ds=fr.ds∧F ⟨(d,u)::fr.e,fr.g,fr.ds⟩ st':=by
    intro u hu hF
    subst hu
    exact⟨{st with kn:=yp (.s d) k st.kn},rfl,rfl,GF hk hv (by rw [v9,if_pos rfl]) (fun i hi=>by rw [v9,if_neg hi]),rfl,hF⟩
   split at h
   ·rename_i hN
    cases v with
    | int kk x=>intro z hz;exact fin _ (by rw [hz]) (h z hz)
    | bool x=>intro z hz;exact fin _ (by rw [hz]) (h z hz)
    | _=>exact fin _ rfl h
   ·exact fin _ rfl h
  ·exact h.elim
theorem lD {ops:Array Oper} {o:Oper} {fr:Fr} {yes no yes' no':Fr→Prop}(h:gN ops o fr yes no)(hy:∀fr',(∀i,lk fr'.g i fr'.e=lk fr.g i fr.e)→fr'.ds=fr.ds→yes fr'→yes' fr')(hn:∀fr',(∀i,lk fr'.g i fr'.e=lk fr.g i fr.e)→fr'.ds=fr.ds→no fr'→no' fr'):gN ops o fr yes' no':=by
 unfold gN at h ⊢
 split at h
 ·exact hy fr (fun _=>rfl) rfl h
 ·rename_i j want hg
  split at h
  ·rename_i d hd
   split at h
   ·rename_i b hb
    have hl:∀b',lk fr.g d fr.e= .bool b'→∀i,lk fr.g i ((d,.bool b')::fr.e)=lk fr.g i fr.e:=by
     intro b' OQ i
     rw [v9]
     split
     ·rename_i e;rw [e,OQ]
     ·rfl
    rcases fv h with⟨rfl,h2⟩ | ⟨rfl,h2⟩
    ·refine ae (fun _=>?_) (fun e=>by cases e)
     cases want
     ·exact hn _ (hl _ hb) rfl h2
     ·exact hy _ (hl _ hb) rfl h2
    ·refine ae (fun e=>by cases e) (fun _=>?_)
     cases want
     ·exact hy _ (hl _ hb) rfl h2
     ·exact hn _ (hl _ hb) rfl h2
   ·exact hn fr (fun _=>rfl) rfl h
   ·exact h.elim
  ·exact h.elim
theorem D1 {o:Oper} {ρ:Operand→Value} {F:Value→Prop}(hc:∀v,ρ (.const v)=v)(hl:∀t x,o.op≠ .load t x)(h:qo P o ρ F)(w:World):∃v,F v∧∀w',w'.os=w.os→w'.tape=w.tape→w'.output=w.output→(execOp ρ o).run P w'= .ok (.value v) w':=by
 have hw:qn P none o ρ {w with heap:= #[]} F False:=by
  unfold qo qn at h
  unfold qn
  generalize o.op=op at h hl ⊢
  cases op<;>first | exact h | exact absurd rfl (hl _ _)
 rcases pF hc hw with⟨v,hv,hr⟩ | hh
 ·exact⟨v,hv,fun w' h1 h2 h3=>hr w' ⟨h1,h2,h3,Nat.zero_le _,fun k hk=>absurd hk (Nat.not_lt_zero _)⟩⟩
 ·exact hh.elim
def rdX(o:Oper)(kn:List (Key×Kn))(X:Nat→Nat→Prop):Nat→Prop:=
 match o.op with
 | .load _ x=>(match V.kf kn x with
  | some (.p k)=>X k.id
  | _=>fun _=>False)
 | _=>fun _=>False
theorem Bh {s:TypeId} {x:Value} {f:Nat} {F:Value→Prop}(h:kx P s x f F):∃fields fd p,P.underlying s=some (.struct fields)∧fields[f]? =some fd∧x= .pointer (some p)∧F (.pointer (some (p.add fd.offset)))∧∀w,(Instr.fieldAt s x f).run P w= .ok (.pointer (some (p.add fd.offset))) w:=by
 have key:∀fields fd p,P.underlying s=some (.struct fields)→fields[f]? =some fd→x= .pointer (some p)→∀w,(Instr.fieldAt s x f).run P w= .ok (.pointer (some (p.add fd.offset))) w:=by
  intro fields fd p h1 h2 h3 w
  have h':kx P s x f fun v=>v= .pointer (some (p.add fd.offset)):=by
   unfold kx at h ⊢
   subst h3
   rw [h1]at h ⊢
   simp only at h ⊢
   rw [h2]at h ⊢
   simp only at h ⊢
   split at h
   ·rename_i i hi
    split at h
    ·exact ah p rfl rfl
    ·exact h.elim
   ·exact h.elim
  obtain⟨v,hv,hr⟩:=sX h'
  rw [hr w,hv]
 have h0:=h
 unfold kx at h
 split at h
 ·rename_i fields hs
  split at h
  ·rename_i fd hf
   split at h
   ·split at h
    ·split at h
     ·obtain⟨p,hp,hF⟩:=cS h
      exact⟨fields,fd,p,hs,hf,by rw [hp],hF,key fields fd p hs hf (by rw [hp])⟩
     ·exact h.elim
    ·exact h.elim
   ·exact h.elim
  ·exact h.elim
 ·exact h.elim
theorem GP {t:TypeId} {p:Addr} {i:Value} {F:Value→Prop}(h:qQ P t (.pointer (some p)) i F):∃n e k ix,P.underlying t=some (.array n e)∧i= .int k ix∧F (.pointer (some (p.add (ix.toNat *bH P e))))∧∀w,(Instr.indexAt t (.pointer (some p)) i).run P w= .ok (.pointer (some (p.add (ix.toNat *bH P e)))) w:=by
 unfold qQ at h
 cases hu:P.underlying t with
 | none=>rw [hu]at h;exact h.elim
 | some d=>
  rw [hu]at h
  cases d<;>first | exact h.elim | skip
  rename_i n e
  cases i<;>first | exact h.elim | skip
  rename_i k ix
  simp only at h
  split at h
  ·rename_i he
   obtain⟨hb,h⟩:=h
   obtain⟨q,hq,hF⟩:=cS h
   injection hq with hq
   subst hq
   refine⟨n,e,k,ix,rfl,rfl,hF,fun w=>?_⟩
   have h':qQ P t (.pointer (some p)) (.int k ix) fun v=>v= .pointer (some (p.add (ix.toNat *bH P e))):=by
    unfold qQ
    rw [hu]
    simp only [he]
    exact⟨hb,ah p rfl rfl⟩
   obtain⟨v,hv,hr⟩:=ou h'
   rw [hr w,hv]
  ·exact h.elim
theorem I0 {t e:TypeId} {A:Option Addr} {n c:Nat} {k:IntKind} {ix:Int} {p:Addr}(ht:P.underlying t=some (.slice e))(he:hasType P e=true)(hb:0≤ix∧ix<n)(hA:A=some p)(w:World):(Instr.indexAt t (.slice A n c) (.int k ix)).run P w= .ok (.pointer (some (p.add (ix.toNat *bH P e)))) w:=by
 have h':qQ P t (.slice A n c) (.int k ix) fun v=>v= .pointer (some (p.add (ix.toNat *bH P e))):=by
  unfold qQ
  rw [ht]
  simp only [he]
  exact⟨hb,ah p hA rfl⟩
 obtain⟨v,hv,hr⟩:=ou h'
 rw [hr w,hv]
theorem RS.rd {X:Nat→Prop} {w:World} {t:Nat} {own:Bool} {T:TypeId} {A:Option Addr} {c:Nat} {l:List (U.el t)}(h:RS X w (.lst t own T A c l)):Rd w X A l.length c l:=by
 cases own
 ·exact h
 ·have h1:Rd w (fun k=>X k∧k<w.heap.size) A l.length c l:=h.1.rd
  exact h1.mono (fun k hk=>hk.1) h.2
theorem RS.ls {X:Nat→Prop} {w:World} {r:Res U} {li:Nat} {L:Ls U.el}(h:RS X w r)(hl:jv r li=some L):Rd w X L.A L.l.length L.c L.l:=by
 unfold jv at hl
 split at hl
 ·injection hl with hl
  subst hl
  exact RS.rd h
 ·exact U.qv h hl
 ·cases hl
theorem dz {α:Type} {o:Option α} {F:α→Prop}(h:gn o F):∃a,o=some a∧F a:=by
 cases o with
 | none=>exact h.elim
 | some a=>exact⟨a,rfl,h⟩
theorem jI {t:TypeId} {cs:List Value} {off:Nat} {v:Value}(h:kS P t cs off=some v) {w:World} {p:Addr}(hp:∀j u,j<bH P t→nth cs (off+j)=some u→w.cell? (p.add j)=some u):(Instr.loadAt t (.pointer (some p))).run P w= .ok v w:=by
 unfold kS at h
 split at h
 ·rename_i hb
  simp only [Bool.and_eq_true]at hb
  obtain⟨h1,h2,h3,h4⟩:=hb
  have h4:off+bH P t≤cs.length:=Nat.le_of_ble_eq_true h4
  have WA:gJ (dJ P t)=bH P t:=Nat.eq_of_beq_eq_true h3
  refine lf (s:=dJ P t) h1 h2 h3 ?_
  have hd:∀j,nth (cs.drop off) j=nth cs (off+j):=fun j=>by rw [aH,aH,List.getElem?_drop]
  split at h
  ·rename_i s hs
   have:=hp 0 v (by rw [← WA,hs];simp [gJ]) (by simpa using h)
   rw [hs]
   simpa [gY,Addr.add]using this
  ·rename_i l hs
   injection h with h
   subst h
   rw [hs]at WA ⊢
   simp only [gJ]at WA
   have hlen:(cs.drop off |>.take l.length).length=l.length:=by simp;omega
   simp only [gY,fq,gb,hlen,Nat.beq_refl]
   have key:∀(vs:List Value)(i:Nat),(∀j u,vs[j]? =some u→w.cell? (p.add (i+j))=some u)→jq w p i vs:=by
    intro vs
    induction vs with
    | nil=>intro _ _;exact trivial
    | cons x r ih=>
     intro i hh
     have h0:=hh 0 x rfl
     have h1:=ih (i+1) fun j u hu=>by rw [show i+1+j=i+(j+1)by omega];exact hh (j+1) u (by simpa using hu)
     cases r with
     | nil=>exact h0
     | cons y r=>exact⟨h0,h1⟩
   refine key _ 0 fun j u hu=>?_
   rw [Nat.zero_add]
   have hj:j<l.length:=by have:=(List.getElem?_eq_some_iff.1 hu).1;omega
   refine hp j u (by omega) ?_
   rw [aH,← List.getElem?_drop,← hu,List.getElem?_take,if_pos hj]
  ·rename_i n hs
   injection h with h
   subst h
   rw [hs]at WA ⊢
   simp only [gJ]at WA
   refine⟨by simp [fq,gb];omega,fun j u hu=>?_⟩
   simp only [fq,gb]at hu
   have hj:j<n:=by
    have:=(Array.getElem?_eq_some_iff.1 hu).1
    simp at this
    omega
   refine hp j u (by omega) ?_
   rw [aH,← List.getElem?_drop]
   have:((cs.drop off).take n)[j]? =some u:=by simpa using hu
   rwa [List.getElem?_take,if_pos hj]at this
 ·cases h
theorem Kept.yO {B:Nat→Prop} {w w':World}(k:Kept B w w') {p:Addr}(hp:B p.block) {v:Value}(h:w.cell? p=some v):w'.cell? p=some v:=(k.cell hp).trans h
theorem jh:∀ {n k j i:Nat},nth (upN n k) j=some i→i=n+j
 | n,0,j,i,h=>by simp [upN,nth]at h
 | n,k+1,0,i,h=>by simp [upN,nth]at h;omega
 | n,k+1,j+1,i,h=>by have:=jh (n:=n+1) (k:=k) (j:=j) h;omega
theorem gl:∀(n k:Nat),(upN n k).length=k
 | _,0=>rfl
 | n,k+1=>by simp [upN,gl (n+1) k]
theorem D3 {o:Option Kn} {p:PK}(h:jc o=some p):o=some (.p p):=by
 unfold jc at h
 split at h
 ·injection h with h;rw [h]
 ·cases h
theorem Et {st:St U} {fr:Fr} {id off:Nat} {g:Nat} {cs:List Value} {T t:TypeId} {v:Value}(hk:av st.rs fr st.kn)(hn:nth st.rs id=some (.blk g cs T))(hv:kS P t cs off=some v)(hs:nW P t=false):KnO st.rs v (Bp id off st.kn v):=by
 unfold Bp
 split
 ·rename_i v2 cs2
  split
  ·refine⟨cs2,rfl,fun j p hj=>?_⟩
   rw [br]at hj
   cases hu:nth (upN 0 cs2.toList.length) j with
   | none=>rw [hu]at hj;cases hj
   | some i=>
    rw [hu]at hj
    have NJ:i=j:=by have:=jh hu;omega
    subst NJ
    have Nu:=bc hu
    rw [gl]at Nu
    injection hj with hj
    obtain⟨g',cs',T',u,e1,e2,e3⟩:=hk.get (D3 hj)
    rw [hn]at e1
    injection e1 with e1
    injection e1 with _ e1 _
    subst e1
    refine⟨u,?_,e3⟩
    have key:∀m,i<(jA m (mI off cs)).length→(jA m (mI off cs))[i]? =some u:=fun m hm=>by
     rw [fq,gb]at hm ⊢
     rw [List.getElem?_take,if_pos (by simp at hm;omega),List.getElem?_drop,← aH]
     exact e2
    unfold kS at hv
    unfold nW at hs
    split at hv
    ·split at hv
     ·rename_i h2;rw [h2]at hs;cases hs
     ·injection hv with hv;injection hv with hv
      subst hv
      simpa using key _ Nu
     ·injection hv with hv;injection hv with hv
      subst hv
      simpa using key _ Nu
    ·cases hv
  ·trivial
 ·trivial
theorem uV {t:TypeId} {x:Value} {k:Option Kn} {st:St U} {X:Nat→Nat→Prop} {w:World} {K:Value→Option Kn→Prop}(hS:Sat st.rs X w) {fr:Fr}(hk:av st.rs fr st.kn)(hx:KnO st.rs x k)(h:uW U P t k st K):
 ∃v kv,K v kv∧KnO st.rs v kv∧∀w',Kept (match k with | some (.p k)=>X k.id | _=>fun _=>False) w w'→(Instr.loadAt t x).run P w'= .ok v w':=by
 unfold uW at h
 split at h
 ·rename_i id off
  split at h
  ·rename_i g cs T hn
   obtain⟨v,hv,hK⟩:=dz h
   have hd:den U st.rs (.loc id off)=some x:=hx
   simp only [den,PK.id,hn,cz,Option.some.injEq]at hd
   subst hd
   obtain⟨hg,hX,hb⟩:=hS.res id _ hn
   refine⟨v,_,hK,?_,fun w' hw=>jI hv fun j u hj hu=>?_⟩
   ·cases hs:nW P t
    ·exact Et hk hn hv hs
    ·simp only
     cases hq:cV (.c id off) st.kn with
     | none=>exact trivial
     | some q=>
      obtain⟨g',cs',T',u,e1,e2,e3⟩:=hk.get hq
      rw [hn]at e1
      injection e1 with e1
      injection e1 with _ e1 _
      subst e1
      have:v=u:=by
       unfold kS at hv
       unfold nW at hs
       split at hv
       ·split at hv
        ·rw [e2]at hv;injection hv with hv;exact hv.symm
        ·rename_i TH;rw [TH]at hs;cases hs
        ·rename_i TH;rw [TH]at hs;cases hs
       ·cases hv
      rw [this];exact e3
   ·refine Kept.yO hw (by rw [block_add];exact hg) ?_
    rw [bT]
    exact hb.cell (by rw [aH]at hu;simpa using hu)
  ·exact h.elim
 ·rename_i id path off
  split at h
  ·rename_i tt r s hn
   split at h
   rotate_left
   ·split at h
    ·rename_i c cs Sb
     obtain⟨hc,h⟩:=h
     obtain⟨v,hv,hK⟩:=dz h
     have hd:den U st.rs (.obj id path off)=some x:=hx
     simp only [den,PK.id,hn,cz,Option.some.injEq]at hd
     subst hd
     obtain⟨hX,Of⟩:=U.uB (hS.res id _ hn) Sb hc
     refine⟨v,_,hK,trivial,fun w' hw=>jI hv fun j u hj hu=>?_⟩
     refine Kept.yO hw (by rw [block_add];exact hX) ?_
     rw [Nat.zero_add,aH]at hu
     rw [bT]
     exact Of j u hu
    ·exact h.elim
   ·rename_i f hf
    obtain⟨u,hu,h⟩:=dz h
    obtain⟨v,hv,hK⟩:=dz h
    have hd:den U st.rs (.obj id path off)=some x:=hx
    simp only [den,PK.id,hn,cz,Option.some.injEq]at hd
    subst hd
    obtain⟨hX,hc⟩:=U.sU (hS.res id _ hn) hf hu
    refine⟨v,_,hK,?_,fun w' hw=>jI hv fun j y hj hy=>?_⟩
    ·cases hs:nW P t
     ·exact trivial
     ·have huv:u=v:=by
       unfold kS at hv
       unfold nW at hs
       split at hv
       ·split at hv
        ·injection hv
        ·rename_i TH;rw [TH]at hs;cases hs
        ·rename_i TH;rw [TH]at hs;cases hs
       ·cases hv
      subst huv
      cases f with
      | v y=>exact trivial
      | o p o=>
       have Qn:den U st.rs (.obj id p o)=some u:=by
        simp only [den,PK.id,hn,cz]
        exact hu
       cases o with
       | succ o=>exact Qn
       | zero=>
        show KnO st.rs u (match cV (.l id p) st.kn with
         | some k=>some k
         | none=>some (.p (.obj id p 0)))
        cases hl:cV (.l id p) st.kn with
        | none=>exact Qn
        | some k=>
         obtain⟨t',r',s',e1,e2⟩:=hk.get hl
         rw [hn]at e1
         injection e1 with e1
         cases e1
         simp only [fvV,Option.some.injEq]at hu
         rw [← hu]
         exact e2
      | l i=>
       show den U st.rs (.sl id i)=_
       simp only [den,PK.id,hn,cz]
       simp only [fvV]at hu
       simp only [jv]
       cases hL:U.li tt r s i with
       | none=>rw [hL]at hu;cases hu
       | some L=>simp only [hL]at hu ⊢;exact hu
    ·cases j with
     | zero=>
      simp only [Nat.zero_add,nth,Option.some.injEq]at hy
      subst hy
      exact Kept.yO hw (by rw [block_add];exact hX) hc
     | succ j=>simp [nth]at hy
  ·exact h.elim
 ·rename_i id li i off
  split at h
  ·rename_i r hn
   split at h
   ·rename_i L hL
    have hd:den U st.rs (.el id li i off)=some x:=hx
    simp only [den,PK.id,hn,cz,hL]at hd
    split at hd
    ·rename_i hb
     injection hd with hd
     subst hd
     have hr:=(hS.res id _ hn).ls hL
     obtain⟨p,y,hA,hy,hZ,hc⟩:=hr.ld hb.1 hb.2
     split at h
     ·rename_i _ ho
      have ho:off=0:=Nat.eq_of_beq_eq_true ho
      subst ho
      split at h
      ·rename_i h1
       have h1:(U.en L.t).size=1:=Nat.eq_of_beq_eq_true h1
       obtain⟨hle,h⟩:=h
       obtain⟨v,hv,hK⟩:=dz h
       refine⟨v,_,hK,trivial,fun w' hw=>jI hv fun j u hj hu=>?_⟩
       rw [Nat.zero_add,G6,br]at hu
       cases Sc:nth (upN 0 (bH P t)) j with
       | none=>rw [Sc]at hu;cases hu
       | some j'=>
        rw [Sc]at hu
        have NJ:j'=j:=by have:=jh Sc;omega
        subst NJ
        have Nu:=bc Sc
        rw [gl]at Nu
        injection hu with hu
        have ZS:=List.getElem?_eq_getElem (l:=L.l) (i:=i.toNat+j') (by omega)
        obtain⟨p',QK,hZ',Ul⟩:=hr.cell _ _ ZS
        rw [hA]at QK
        injection QK with QK
        subst QK
        have h0:=Ul 0 (by show 0<(U.en L.t).size;omega)
        have e1:elA U L.t L.A i 0=p.add i.toNat:=by unfold elA;rw [hA,h1];simp [Addr.add]
        rw [e1]
        refine Kept.yO hw (by rw [block_add,block_add];exact hZ) ?_
        have e2:(p.add ((i.toNat+j')*Enc.size (U.el L.t))).add 0=(p.add i.toNat).add j':=by
         rw [show Enc.size (U.el L.t)=1 from h1,add_add,add_add,Nat.mul_one,Nat.add_zero]
        rw [e2]at h0
        have hu:hd1 (enc (L.l.getD (i.toNat+j') (U.df L.t)))=u:=hu
        rw [h0,← hu,List.getD_eq_getElem?_getD,ZS]
        show(enc L.l[i.toNat+j'])[0]? =some (hd1 (enc L.l[i.toNat+j']))
        have hl:(enc L.l[i.toNat+j']).length=1:=by rw [cy];exact h1
        match he:enc L.l[i.toNat+j'],hl with
        | [a],_=>rfl
      ·exact h.elim
     obtain⟨v,hv,hK⟩:=dz h
     refine⟨v,_,hK,trivial,fun w' hw=>jI hv fun j u hj hu=>?_⟩
     have hg:L.l.getD i.toNat (U.df L.t)=y:=by rw [List.getD_eq_getElem?_getD,hy];rfl
     rw [hg]at hu
     have hjs:off+j<Enc.size (U.el L.t):=by have:=bc hu;rw [← cy y];exact this
     have h2:=hc (off+j) hjs
     refine Kept.yO hw ?_ ?_
     ·unfold elA
      rw [hA]
      simp only [Option.getD_some,block_add]
      exact hZ
     ·unfold elA
      rw [hA]
      simp only [Option.getD_some]
      rw [add_add]
      rw [aH]at hu
      exact h2.trans hu
    ·cases hd
   ·exact h.elim
  ·exact h.elim
 ·exact h.elim
theorem yk(ρ:Operand→Value)(a:Array Operand):(⟨aG ρ a.toList⟩:Array Value)=a.map ρ:=by
 apply Array.ext'
 simp [gA]
theorem yB {rs:List (Res U)} {cs:List Value}:∀ {l:List (Nat×PK)} {F:Prop},K0 rs cs l F→F∧∀o p,(o,p)∈l→den U rs p=nth cs o
 | [],F,h=>⟨h,fun _ _ h=>by cases h⟩
 | (a,b)::l,F,h=>by
  obtain⟨h1,h2⟩:=yB h.2
  refine⟨h1,fun o p hm=>?_⟩
  rcases List.mem_cons.1 hm with e | hm
  ·injection e with e1 e2;subst e1;subst e2;exact h.1
  ·exact h2 o p hm
theorem tp {j:Nat} {p:PK}:∀ {l:List (Nat×PK)},wI j l=some p→(j,p)∈l
 | (a,b)::l,h=>by
  unfold wI at h
  split at h
  ·rename_i he
   injection h with h
   subst h
   rw [← Nat.eq_of_beq_eq_true he];exact List.mem_cons_self ..
  ·exact List.mem_cons_of_mem _ (tp h)
theorem uT {o:Oper} {fr:Fr} {st:St U} {X:Nat→Nat→Prop} {w:World} {K:Value→Option Kn→Prop}(hS:Sat st.rs X w)(hk:av st.rs fr st.kn)(h:om U P o (ev fr) st K):
 ∃v k,K v k∧KnO st.rs v k∧∀w',Kept (rdX o st.kn X) w w'→(execOp (ev fr) o).run P w'= .ok (.value v) w':=by
 have hc:∀v,ev fr (.const v)=v:=fun _=>rfl
 have hp:∀F:Value→Prop,(∀t x,o.op≠ .load t x)→qo P o (ev fr) F→∃v,F v∧∀w',Kept (rdX o st.kn X) w w'→(execOp (ev fr) o).run P w'= .ok (.value v) w':=fun F hl hF=>by
  obtain⟨v,h1,h2⟩:=D1 hc hl hF w
  exact⟨v,h1,fun w' hw=>h2 w' hw.os hw.tape hw.output⟩
 have VB:(∀t x,o.op≠ .load t x)→qo P o (ev fr) (fun v=>K v none)→∃v k,K v k∧KnO st.rs v k∧∀w',Kept (rdX o st.kn X) w w'→(execOp (ev fr) o).run P w'= .ok (.value v) w':=fun hl hF=>by
  obtain⟨v,h1,h2⟩:=hp _ hl hF
  exact⟨v,none,h1,trivial,h2⟩
 obtain⟨dst,op,ty,pos,after,guard⟩:=o
 cases op<;>first
  | exact VB (fun _ _ e=>by cases e) h
  | skip
 case move x=>exact⟨_,_,h,hk.kf x,fun _ _=>rfl⟩
 case assign x=>exact⟨_,_,h,hk.kf x,fun _ _=>rfl⟩
 case build t ps=>
  obtain⟨v,h1,h2⟩:=hp _ (fun _ _ e=>by cases e) h
  unfold Hb at h1
  split at h1
  ·exact⟨v,none,h1,trivial,h2⟩
  ·split at h1
   ·rename_i cs
    obtain⟨h1,h3⟩:=yB h1
    refine⟨_,_,h1,⟨cs,rfl,fun j k hj=>?_⟩,h2⟩
    rw [br]at hj
    cases hn:nth (upN 0 cs.toList.length) j with
    | none=>rw [hn]at hj;cases hj
    | some i=>
     rw [hn]at hj
     have NJ:i=j:=by have:=jh hn;omega
     subst NJ
     injection hj with hj
     have:=h3 _ _ (tp hj)
     have Nu:=bc hn
     rw [gl]at Nu
     obtain⟨u,hu⟩:=cu (l:=cs.toList) (i:=i) Nu
     exact⟨u,by rw [aH]at hu;simpa using hu,by rw [this,hu]⟩
   ·exact h1.elim
 case load t x=>
  obtain⟨v,kv,h1,h2,h3⟩:=uV hS hk (hk.kf x) h
  refine⟨v,kv,h1,h2,fun w' hw=>?_⟩
  have:=h3 w' hw
  simp [execOp,this]
 case nilCheck x=>
  simp only [om]at h
  split at h
  ·rename_i p hx
   refine⟨_,_,h,by rw [← hx];exact hk.kf x,fun w' _=>?_⟩
   simp [execOp,hx]
  ·exact h.elim
 case fieldAddr s x f=>
  have h:kx P s (ev fr x) f (fun v=>K v (wg P s f (V.kf st.kn x))):=h
  obtain⟨fields,fd,p,h1,h2,h3,h4,h5⟩:=Bh h
  refine⟨_,_,h4,?_,fun w' _=>by simp [execOp,h5]⟩
  have hx:=hk.kf x
  rw [h3]at hx
  unfold wg
  split
  ·rename_i k O2
   rw [O2]at hx
   rw [h1]
   simp only [h2]
   have hx:den U st.rs k=some (.pointer (some p)):=hx
   cases k with
   | loc id off=>
    show den U st.rs _=_
    unfold den at hx ⊢
    simp only [PK.id]at hx ⊢
    cases hn:nth st.rs id with
    | none=>rw [hn]at hx;simp [cz]at hx
    | some r=>
     rw [hn]at hx
     cases r<;>simp only [cz,reduceCtorEq,Option.some.injEq,Value.pointer.injEq]at hx ⊢
     rw [← hx,bT]
   | el id li i off=>
    show den U st.rs _=_
    unfold den at hx ⊢
    simp only [PK.id]at hx ⊢
    cases hn:nth st.rs id with
    | none=>rw [hn]at hx;simp [cz]at hx
    | some r=>
     rw [hn]at hx
     simp only [cz]at hx ⊢
     cases hL:jv r li with
     | none=>rw [hL]at hx;cases hx
     | some L=>
      simp only [hL]at hx ⊢
      split at hx
      ·rename_i hb
       rw [if_pos hb]
       injection hx with hx
       injection hx with hx
       injection hx with hx
       rw [← hx]
       unfold elA
       rw [← add_add]
      ·cases hx
   | obj id path off=>
    show den U st.rs _=_
    unfold den at hx ⊢
    simp only [PK.id]at hx ⊢
    cases hn:nth st.rs id with
    | none=>rw [hn]at hx;simp [cz]at hx
    | some r=>
     rw [hn]at hx
     cases r<;>simp only [cz,reduceCtorEq,Option.some.injEq,Value.pointer.injEq]at hx ⊢
     rw [← hx,bT]
   | sl _ _=>exact trivial
  ·exact trivial
 case sliceToArrayPointer arr x=>
  simp only [om]at h
  have hx:=hk.kf x
  split at h
  ·rename_i id li O2
   rw [O2]at hx
   have hx:den U st.rs (.sl id li)=some (ev fr x):=hx
   split at h
   ·rename_i r n e hn ht
    split at h
    ·rename_i L hL
     simp only [den,PK.id,hn,cz,hL,Option.some.injEq]at hx
     obtain⟨⟨h0,hle⟩,hK⟩:=h
     obtain⟨p,y,hA,_⟩:=((hS.res id _ hn).ls hL).ld (i:=0) (by omega) (by omega)
     have e1:elA U L.t L.A 0 0=p:=by unfold elA;rw [hA];simp [Addr.add]
     obtain⟨v,hv,OG⟩:=hp (fun v=>v= .pointer (some p)) (fun _ _ e=>by cases e) (by
      show(match P.underlying arr,ev fr x with
       | some (.array n _),.slice a len _=>n≤len∧Value.pointer a= .pointer (some p)
       | _,_=>False)
      rw [ht,← hx,hA]
      exact⟨hle,rfl⟩)
     subst hv
     rw [e1]at hK
     refine⟨_,_,hK,?_,OG⟩
     show den U st.rs (.el id li 0 0)=_
     simp only [den,PK.id,hn,cz,hL]
     rw [if_pos (by omega),e1]
    ·exact h.elim
   ·exact h.elim
  ·exact h.elim
 case indexAddr t x i=>
  simp only [om]at h
  have hx:=hk.kf x
  split at h
  ·rename_i id li k ix O2 hi
   rw [O2]at hx
   have hx:den U st.rs (.sl id li)=some (ev fr x):=hx
   split at h
   ·rename_i r e hn ht
    split at h
    ·rename_i L hL
     simp only [den,PK.id,hn,cz,hL,Option.some.injEq]at hx
     split at h
     ·rename_i he
      simp only [Bool.and_eq_true]at he
      have NA:bH P e=(U.en L.t).size:=Nat.eq_of_beq_eq_true he.2
      obtain⟨hb,hK⟩:=h
      obtain⟨p,y,hA,_⟩:=((hS.res id _ hn).ls hL).ld hb.1 hb.2
      have hv:elA U L.t L.A ix 0=p.add (ix.toNat *bH P e):=by
       unfold elA
       rw [hA,NA]
       simp [Addr.add]
      refine⟨_,_,hK,?_,fun w' _=>?_⟩
      ·show den U st.rs (.el id li ix 0)=_
       simp only [den,PK.id,hn,cz,hL]
       rw [if_pos hb]
      ·have:=I0 (P:=P) (c:=L.c) (k:=k) ht he.1 hb hA w'
       rw [hv]
       simp [execOp,← hx,hi,this]
     ·exact h.elim
    ·exact h.elim
   ·exact h.elim
  ·rename_i id path off k ix O2 hi
   rw [O2]at hx
   have hx:den U st.rs (.obj id path off)=some (ev fr x):=hx
   split at h
   ·rename_i tt r s li n e hn Sf ht
    split at h
    ·rename_i L hL
     simp only [den,PK.id,hn,cz,Option.some.injEq]at hx
     split at h
     ·rename_i he
      simp only [Bool.and_eq_true]at he
      have NA:bH P e=(U.en L.t).size:=Nat.eq_of_beq_eq_true he.2
      obtain⟨⟨hb,Sg⟩,hK⟩:=h
      unfold Uni.ix1 at Sf
      rw [hn]at Sf
      have hA:=U.sO Sf hL
      have hM:qQ P t (ev fr x) (ev fr i) (fun v=>v= .pointer (some ((Addr.mk (r path) off none).add (ix.toNat *bH P e)))):=by
       unfold qQ
       rw [ht,← hx,hi]
       simp only [he.1]
       exact⟨⟨hb.1,Sg⟩,ah _ rfl rfl⟩
      obtain⟨v,hv,OG⟩:=ou hM
      have hvE:elA U L.t L.A ix 0=(Addr.mk (r path) off none).add (ix.toNat *bH P e):=by
       unfold elA
       rw [hA,NA]
       simp [Addr.add]
      refine⟨_,_,hK,?_,fun w' _=>?_⟩
      ·show den U st.rs (.el id li ix 0)=_
       simp only [den,PK.id,hn,cz,jv,hL]
       rw [if_pos hb]
      ·rw [hvE,← hv]
       simp [execOp,OG]
     ·exact h.elim
    ·exact h.elim
   ·exact h.elim
  ·rename_i id off k ix O2 hi
   rw [O2]at hx
   have hx:den U st.rs (.loc id off)=some (ev fr x):=hx
   unfold den at hx
   simp only [PK.id]at hx
   cases hn:nth st.rs id with
   | none=>rw [hn]at hx;simp [cz]at hx
   | some r=>
    rw [hn]at hx
    cases r<;>simp only [cz,reduceCtorEq,Option.some.injEq]at hx
    rename_i g cs T
    rw [← hx]at h
    obtain⟨n,e,k',ix',h1,h2,h3,h4⟩:=GP h
    rw [hi]at h2
    injection h2 with h2 h2'
    subst h2;subst h2'
    refine⟨_,_,h3,?_,fun w' _=>by simp [execOp,← hx,h4]⟩
    show den U st.rs _=_
    simp only [den,PK.id,hn,cz,GW,h1]
    rw [bT]
  ·exact h.elim
 case extract x i=>
  simp only [om]at h
  split at h
  ·rename_i vs hx
   obtain⟨v,hv,hK⟩:=dz h
   have QG:vs[i]? =some v:=by rw [aH]at hv;simpa using hv
   refine⟨v,_,hK,?_,fun w' _=>?_⟩
   ·unfold GG
    split
    ·rename_i l O2
     split
     ·rename_i p hl
      have:=hk.kf x
      rw [O2,hx]at this
      obtain⟨vs',e,hh⟩:=this
      injection e with e
      subst e
      obtain⟨u,hu,hd⟩:=hh i p hl
      rw [QG]at hu
      injection hu with hu
      subst hu
      exact hd
     ·exact trivial
    ·exact trivial
   ·simp [execOp,Instr.extract,hx,QG]
  ·exact h.elim
 case makeFunc f first cap=>
  refine⟨_,_,h,?_,fun w' _=>by rw [yk,yk];rfl⟩
  have key:∀(a:Array Operand)(j:Nat)(k:PK),nth (aG (fun x=>jc (V.kf st.kn x)) a.toList) j=some (some k)→∃u,(⟨aG (ev fr) a.toList⟩:Array Value)[j]? =some u∧den U st.rs k=some u:=by
   intro a j k hj
   rw [br]at hj
   cases hn:nth a.toList j with
   | none=>rw [hn]at hj;cases hj
   | some x=>
    rw [hn]at hj
    injection hj with hj
    refine⟨ev fr x,?_,?_⟩
    ·rw [aH]at hn
     simp [gA,hn]
    ·have:=hk.kf x
     unfold jc at hj
     dsimp only at hj
     split at hj
     ·rename_i q hq
      injection hj with hj
      subst hj
      rw [hq]at this
      exact this
     ·cases hj
  exact⟨_,_,_,rfl,by simp,key first,key cap⟩
 case binOp op t x y ty'=>
  simp only [om]at h
  split at h
  ·exact h.elim
  ·exact VB (fun _ _ e=>by cases e) h
 case slice t x lo hi mx=>
  cases lo with
  | some _=>exact h.elim
  | none=>cases hi with
   | some _=>exact h.elim
   | none=>cases mx with
    | some _=>exact h.elim
    | none=>
     simp only [om]at h
     have hx:=hk.kf x
     split at h
     ·rename_i id path off O2
      rw [O2]at hx
      have hx:den U st.rs (.obj id path off)=some (ev fr x):=hx
      split at h
      ·rename_i tt r s li n e hn Sf ht
       split at h
       ·rename_i L hL
        simp only [den,PK.id,hn,cz,Option.some.injEq]at hx
        split at h
        ·rename_i he
         obtain⟨⟨⟨hl,hc⟩,hn0⟩,hK⟩:=h
         unfold Uni.ix1 at Sf
         rw [hn]at Sf
         have hA:=U.sO Sf hL
         have hM:rU P t (ev fr x) none none none (fun v=>v= .slice L.A L.l.length L.c) False:=by
          unfold rU
          rw [ht,← hx]
          simp only [he,Option.isNone_none,Bool.true_or,Bool.and_self]
          refine ah _ rfl ?_
          unfold nd qC tf
          intro a' ha' n' Q4 c' Ul
          subst ha' Q4 Ul
          rw [if_neg (by omega),hA,hl,hc]
          simp [Addr.add]
         rcases rT hM with⟨v,hv,OG⟩ | h
         ·refine⟨_,_,hK,?_,fun w' _=>?_⟩
          ·show den U st.rs (.sl id li)=_
           simp only [den,PK.id,hn,cz,jv,hL]
          ·rw [← hv]
           simp [execOp,OG]
         ·exact h.elim
        ·exact h.elim
       ·exact h.elim
      ·exact h.elim
     ·exact h.elim
end
end
end Go.Proofs.YtinhphjfnedhgaaGreatDoor.V
namespace Go.Proofs.YtinhphjfnedhgaaGreatDoor
open Go.Proofs.Tryz (prog)
open Go Go.RowKit V
open Go.IntKind (i64 u32 u64)
def bF(a b:Int):Int:=u32.wrap (a+b)
def rB(a b:Int):Int:=u32.wrap (BitVec.ofInt u32.bits a ^^^ BitVec.ofInt u32.bits b).toNat
def Hl(a b:Int):Int:=u32.wrap (BitVec.ofInt u32.bits a &&& BitVec.ofInt u32.bits b).toNat
def MM(a:Int):Int:=u32.wrap (BitVec.ofInt u32.bits (if u32.signed then -1 else u32.max) ^^^ BitVec.ofInt u32.bits a).toNat
def n5(w n:Int):Int:=u32.wrap (BitVec.ofInt u32.bits (w.fdiv (2 ^ (min n.toNat u32.bits))) ||| BitVec.ofInt u32.bits (u32.wrap (w*2 ^ (min (32 - n).toNat u32.bits)))).toNat
theorem LG {k:Int}(h: -31≤k∧k≤ -1):u64.wrap (BitVec.ofInt u64.bits (u64.wrap k) &&& BitVec.ofInt u64.bits 31).toNat=32+k:=by
 have:∀j:Fin 31,u64.wrap (BitVec.ofInt u64.bits (u64.wrap (-(j.val+1:Int))) &&& BitVec.ofInt u64.bits 31).toNat=32+ -(j.val+1:Int):=by decide+kernel
 have h2:=this ⟨(-k - 1).toNat,by omega⟩
 simp only []at h2
 rwa [show(-(((-k - 1).toNat:Nat)+1:Int))=k by omega]at h2
theorem ph {x:Int}(h:0≤x∧x<18446744073709551616):u64.wrap x=x:=by rw [IntKind.wrap_u64];omega
theorem rot_eq {x k:Int}(h: -31≤k∧k≤ -1):u32.wrap (BitVec.ofInt u32.bits (u32.wrap (x*2 ^ (min (32+k).toNat u32.bits))) ||| BitVec.ofInt u32.bits (x.fdiv (2 ^ (min (u64.wrap (32 - (32+k))).toNat u32.bits)))).toNat=n5 x (-k):=by
 rw [ph (by omega),BitVec.or_comm,show 32 - (32+k)= -k by omega]
 unfold n5
 rw [show 32 - -k=32+k by omega]
def sg0(a:Int):Int:=rB (rB (n5 a 7) (n5 a 18)) (a.fdiv (2 ^ 3))
def sg1(b:Int):Int:=rB (rB (n5 b 17) (n5 b 19)) (b.fdiv (2 ^ 10))
abbrev back(l:List Int)(t k:Int):Int:=l.getD (Int.toNat (i64.wrap (t - k))) 0
def FZ(l:List Int)(t:Int):Int:=bF (bF (bF (back l t 16) (sg0 (back l t 15))) (back l t 7)) (sg1 (back l t 2))
def af(b:List Int):Nat→List Int
 | 0=>b++List.replicate 48 0
 | k+1=>(af b k).set (16+k) (FZ (af b k) ((16+k:Nat):Int))
theorem cZ {b:List Int}(h:b.length=16):∀k,(af b k).length=64
 | 0=>by simp [af,h]
 | k+1=>by simp [af,cZ h k]
theorem xL {b:List Int} {t:Int}(h:16≤t∧t<64):af b ((i64.wrap (t+1)).toNat - 16)=(af b (t.toNat - 16)).set t.toNat (FZ (af b (t.toNat - 16)) t):=by
 rw [aA (by omega),show(t+1).toNat - 16=(t.toNat - 16)+1 by omega,af,show 16+(t.toNat - 16)=t.toNat by omega,show((t.toNat:Nat):Int)=t by omega]
@[ext] structure S8 where
 (a b c d e f g h:Int)
deriving DecidableEq
def S8.T1(k w:Int)(s:S8):Int:=bF (bF (bF (bF s.h (rB (rB (n5 s.e 6) (n5 s.e 11)) (n5 s.e 25))) (rB (Hl s.e s.f) (Hl (MM s.e) s.g))) k) w
def S8.T2(s:S8):Int:=bF (rB (rB (n5 s.a 2) (n5 s.a 13)) (n5 s.a 22)) (rB (rB (Hl s.a s.b) (Hl s.a s.c)) (Hl s.b s.c))
def S8.rnd(k w:Int)(s:S8):S8:=⟨bF (s.T1 k w) s.T2,s.a,s.b,s.c,bF s.d (s.T1 k w),s.e,s.f,s.g⟩
def aI(K W:List Int)(s:S8):Nat→S8
 | 0=>s
 | t+1=>S8.rnd (K.getD t 0) (W.getD t 0) (aI K W s t)
theorem fy {K W:List Int} {s:S8} {t:Int}(h:0≤t∧t<64):aI K W s (i64.wrap (t+1)).toNat=S8.rnd (K.getD t.toNat 0) (W.getD t.toNat 0) (aI K W s t.toNat):=by
 rw [aA (by omega),show(t+1).toNat=t.toNat+1 by omega,aI]
def S8.add(s v:S8):S8:=⟨bF v.a s.a,bF v.b s.b,bF v.c s.c,bF v.d s.d,bF v.e s.e,bF v.f s.f,bF v.g s.g,bF v.h s.h⟩
def jd(K:List Int)(s:S8)(b:List Int):S8:=s.add (aI K (af b 48) s 64)
def S8.first:S8:=⟨1779033703,3144134277,1013904242,2773480762,1359893119,2600822924,528734635,1541459225⟩
def S8.ok(s:S8):Prop:=(0≤s.a∧s.a<4294967296)∧(0≤s.b∧s.b<4294967296)∧(0≤s.c∧s.c<4294967296)∧(0≤s.d∧s.d<4294967296)∧(0≤s.e∧s.e<4294967296)∧(0≤s.f∧s.f<4294967296)∧(0≤s.g∧s.g<4294967296)∧(0≤s.h∧s.h<4294967296)
theorem eN(a b:Int):0≤bF a b∧bF a b<4294967296:=by unfold bF;rw [u32_eq];omega
theorem S8.pZ(s v:S8):(s.add v).ok:=⟨eN _ _,eN _ _,eN _ _,eN _ _,eN _ _,eN _ _,eN _ _,eN _ _⟩
end Go.Proofs.YtinhphjfnedhgaaGreatDoor
namespace Go.Proofs.YtinhphjfnedhgaaGreatDoor.V
open Go Go.RowKit
open Go.IntKind (i64 u32 u64)
theorem tg:u32.bits=32:=rfl
theorem Hc:u64.bits=64:=rfl
def nor(x y:Int):Int:=((x.toNat ||| y.toNat:Nat):Int)
def IT(x y:Int):Int:=((x.toNat &&& y.toNat:Nat):Int)
theorem eJ {n:Nat} {x:Int}(h0:0≤x)(h:x<2 ^ n):(BitVec.ofInt n x).toNat=x.toNat:=by
 rw [BitVec.toNat_ofInt,Int.emod_eq_of_lt h0 (by exact_mod_cast h)]
theorem pG {x y:Int}(hx:0≤x∧x<4294967296)(hy:0≤y∧y<4294967296):u32.wrap (BitVec.ofInt u32.bits x ||| BitVec.ofInt u32.bits y).toNat=nor x y:=by
 have h:=BitVec.isLt (BitVec.ofInt 32 x ||| BitVec.ofInt 32 y)
 rw [tg,dI (by omega),BitVec.toNat_or,eJ hx.1 hx.2,eJ hy.1 hy.2];rfl
theorem ru {x y:Int}(hx:0≤x∧x<4294967296)(hy:0≤y∧y<4294967296):u32.wrap (BitVec.ofInt u32.bits x &&& BitVec.ofInt u32.bits y).toNat=IT x y:=by
 have h:=BitVec.isLt (BitVec.ofInt 32 x &&& BitVec.ofInt 32 y)
 rw [tg,dI (by omega),BitVec.toNat_and,eJ hx.1 hx.2,eJ hy.1 hy.2];rfl
theorem gp(k:Nat) {a y:Int}(ha:0≤a)(hy:0≤y)(h:y<2 ^ k):nor (2 ^ k*a) y=2 ^ k*a+y:=by
 obtain⟨a,rfl⟩:=Int.eq_ofNat_of_zero_le ha
 obtain⟨y,rfl⟩:=Int.eq_ofNat_of_zero_le hy
 have h':y<2 ^ k:=by exact_mod_cast h
 have e:((2:Int) ^ k*(a:Int)).toNat=2 ^ k*a:=by
  rw [show(2:Int) ^ k*(a:Int)=((2 ^ k*a:Nat):Int)by push_cast;rfl,Int.toNat_natCast]
 unfold nor
 rw [e,Int.toNat_natCast,← Nat.two_pow_add_eq_or_of_lt h']
 push_cast;rfl
theorem oh(x y:Int):nor x y=nor y x:=by unfold nor;rw [Nat.or_comm]
theorem pJ(k:Nat) {x:Int}(hx:0≤x):IT x (2 ^ k - 1)=x % 2 ^ k:=by
 obtain⟨x,rfl⟩:=Int.eq_ofNat_of_zero_le hx
 have hp:0<2 ^ k:=Nat.two_pow_pos k
 have e:((2:Int) ^ k - 1).toNat=2 ^ k - 1:=by
  have:((2:Int) ^ k)=((2 ^ k:Nat):Int):=by push_cast;rfl
  omega
 unfold IT
 rw [e,Int.toNat_natCast,Nat.and_two_pow_sub_one_eq_mod]
 push_cast;rfl
theorem mH {x:Int}(n:Nat):x.fdiv (2 ^ n)=x / 2 ^ n:=Int.fdiv_eq_ediv_of_nonneg x (Int.pow_nonneg (by omega))
end Go.Proofs.YtinhphjfnedhgaaGreatDoor.V
namespace Go.Proofs.YtinhphjfnedhgaaGreatDoor
open Go.Proofs.Tryz (prog)
open Go Go.RowKit V
open Go.IntKind (i64 u32 u64)
section
def Lh(K:List Int):Nat→S8→List U32→S8×List U32
 | 0,s,l=>(s,l)
 | f+1,s,l=>if 16≤l.length then Lh K f (jd K s ((l.take 16).map U32.v)) (l.drop 16)else(s,l)
def cw(K:List Int)(s:S8)(l:List U32):S8×List U32:=Lh K (l.length / 16) s l
theorem dS {K:List Int} {s:S8} {l:List U32}(h:l.length<16):cw K s l=(s,l):=by
 unfold cw
 rw [Nat.div_eq_of_lt h];rfl
theorem eO {K:List Int} {s:S8} {l:List U32}(h:16≤l.length):cw K s l=cw K (jd K s ((l.take 16).map U32.v)) (l.drop 16):=by
 unfold cw
 rw [show l.length / 16=(l.drop 16).length / 16+1 by rw [List.length_drop];omega,Lh,if_pos h]
theorem kB {K:List Int} {p:S8→List U32→Prop}(h0:∀s l,l.length<16→p s l)(h1:∀s l,16≤l.length→p (jd K s ((l.take 16).map U32.v)) (l.drop 16)→p s l):∀(n:Nat)(s:S8)(l:List U32),l.length=n→p s l:=by
 intro n
 induction n using Nat.strongRecOn with
 | ind n ih=>
  intro s l hl
  by_cases h:l.length<16
  ·exact h0 s l h
  ·exact h1 s l (by omega) (ih (l.drop 16).length (by rw [List.length_drop];omega) _ _ rfl)
theorem BE(K:List Int)(s:S8)(l:List U32):(cw K s l).2.length=l.length % 16:=by
 refine kB (K:=K) (p:=fun s l=>(cw K s l).2.length=l.length % 16) (fun s l h=>?_) (fun s l h ih=>?_) _ s l rfl
 ·simp only [dS h];rw [Nat.mod_eq_of_lt h]
 ·simp only [eO h];rw [ih,List.length_drop];omega
theorem BD(K:List Int)(s:S8)(l:List U32):∀x∈(cw K s l).2,x∈l:=by
 refine kB (K:=K) (p:=fun s l=>∀x∈(cw K s l).2,x∈l) (fun s l h=>?_) (fun s l h ih=>?_) _ s l rfl
 ·simp only [dS h];exact fun x h=>h
 ·simp only [eO h];exact fun x hx=>List.mem_of_mem_drop (ih x hx)
theorem EA(K:List Int)(s:S8)(l:List U32):s.ok→(cw K s l).1.ok:=by
 refine kB (K:=K) (p:=fun s l=>s.ok→(cw K s l).1.ok) (fun s l h=>?_) (fun s l h ih=>?_) _ s l rfl
 ·simp only [dS h];exact fun h=>h
 ·simp only [eO h];exact fun _=>ih (S8.pZ _ _)
theorem j9 {l:List U32}(h:16≤l.length):(l.take 16).map U32.v= [(l.getD 0 ⟨0⟩).v,(l.getD 1 ⟨0⟩).v,(l.getD 2 ⟨0⟩).v,(l.getD 3 ⟨0⟩).v,(l.getD 4 ⟨0⟩).v,(l.getD 5 ⟨0⟩).v,(l.getD 6 ⟨0⟩).v,(l.getD 7 ⟨0⟩).v,(l.getD 8 ⟨0⟩).v,(l.getD 9 ⟨0⟩).v,(l.getD 10 ⟨0⟩).v,(l.getD 11 ⟨0⟩).v,(l.getD 12 ⟨0⟩).v,(l.getD 13 ⟨0⟩).v,(l.getD 14 ⟨0⟩).v,(l.getD 15 ⟨0⟩).v]:=by
 rcases l with _ | ⟨a,_ | ⟨b,_ | ⟨c,_ | ⟨d,_ | ⟨e,_ | ⟨f,_ | ⟨g,_ | ⟨h,_ | ⟨i,_ | ⟨j,_ | ⟨k,_ | ⟨m,_ | ⟨n,_ | ⟨o,_ | ⟨p,_ | ⟨q,r⟩⟩⟩⟩⟩⟩⟩⟩⟩⟩⟩⟩⟩⟩⟩⟩
 all_goals first | rfl | (simp at h;done)
structure Dg where
 st:S8
 n:Int
 waits:List U32
namespace Dg
def new:Dg:=⟨S8.first,0,[]⟩
def add(K:List Int)(d:Dg)(l:List U32):Dg:=if(l.length:Int)>36028797018963968 - d.n then d else⟨(cw K d.st (d.waits++l)).1,d.n+l.length,(cw K d.st (d.waits++l)).2⟩
structure Ok(d:Dg):Prop where
 n:0≤d.n∧d.n≤36028797018963968
 len:d.waits.length=(d.n % 16).toNat
 st:d.st.ok
 words:∀x∈d.waits,0≤x.v∧x.v<4294967296
theorem ju:new.Ok:=⟨by decide,rfl,by unfold S8.ok new S8.first;decide,by simp [new]⟩
theorem pZ {K:List Int} {d:Dg} {l:List U32}(h:d.Ok)(hl:∀x∈l,0≤x.v∧x.v<4294967296):(d.add K l).Ok:=by
 unfold add
 split
 ·exact h
 ·have hn:=h.n
  have hw:=h.len
  refine⟨⟨by show 0≤d.n+_;omega,by show d.n+_≤_;omega⟩,?_,EA _ _ _ h.st,fun x hx=>?_⟩
  ·show(cw K d.st (d.waits++l)).2.length=((d.n+l.length) % 16).toNat
   rw [BE,List.length_append,hw]
   omega
  ·rcases List.mem_append.1 (BD _ _ _ x hx)with h1 | h1
   ·exact h.words x h1
   ·exact hl x h1
def save(d:Dg):List Int:= [d.st.a,d.st.b,d.st.c,d.st.d,d.st.e,d.st.f,d.st.g,d.st.h,d.n / 4294967296,d.n % 4294967296]++(d.waits.map U32.v++List.replicate (16 - d.waits.length) 0)
def ka(l:List U32):S8:=⟨(l.getD 0 ⟨0⟩).v,(l.getD 1 ⟨0⟩).v,(l.getD 2 ⟨0⟩).v,(l.getD 3 ⟨0⟩).v,(l.getD 4 ⟨0⟩).v,(l.getD 5 ⟨0⟩).v,(l.getD 6 ⟨0⟩).v,(l.getD 7 ⟨0⟩).v⟩
def nOf(l:List U32):Int:=(l.getD 8 ⟨0⟩).v*4294967296+(l.getD 9 ⟨0⟩).v
def load(l:List U32):Dg:=⟨ka l,nOf l,(l.drop 10).take (nOf l % 16).toNat⟩
theorem save_eq {d:Dg}(h:d.Ok) {x y:Int} {n:Nat}(hx:x=d.n / 4294967296)(hy:y=d.n % 4294967296)(hn:d.waits.length=n):
 jb (((jb (List.replicate 26 0) 0 (List.take (min 8 8) [d.st.a,d.st.b,d.st.c,d.st.d,d.st.e,d.st.f,d.st.g,d.st.h])).set 8 x).set 9 y) 10 ((List.map U32.v d.waits).take (min n 16))=d.save:=by
 have hl:=h.len
 have Se:=h.n
 subst hx hy hn
 rw [List.take_of_length_le (l:=List.map U32.v d.waits) (by simp;omega)]
 have e:(((jb (List.replicate 26 0) 0 (List.take (min 8 8) [d.st.a,d.st.b,d.st.c,d.st.d,d.st.e,d.st.f,d.st.g,d.st.h])).set 8 (d.n / 4294967296)).set 9 (d.n % 4294967296))= [d.st.a,d.st.b,d.st.c,d.st.d,d.st.e,d.st.f,d.st.g,d.st.h,d.n / 4294967296,d.n % 4294967296]++(List.replicate d.waits.length 0++List.replicate (16 - d.waits.length) 0):=by
  rw [List.replicate_append_replicate,show d.waits.length+(16 - d.waits.length)=16 by omega];rfl
 rw [e]
 exact r3 [d.st.a,d.st.b,d.st.c,d.st.d,d.st.e,d.st.f,d.st.g,d.st.h,d.n / 4294967296,d.n % 4294967296] (d.waits.map U32.v) _ _ (by simp)
theorem Ku {n:Int}(h:0≤n∧n≤36028797018963968):u32.wrap ((u64.wrap n:Int).fdiv (2 ^ 32))=n / 4294967296:=by
 rw [ph (by omega),mH,dI (by omega)];rfl
theorem nOf_eq {l:List U32}(h:∀x∈l,0≤x.v∧x.v<4294967296)(hl:l.length=26):u64.wrap (BitVec.ofInt u64.bits (u64.wrap ((u64.wrap (l.getD 8 ⟨0⟩).v:Int)*2 ^ 32)) ||| BitVec.ofInt u64.bits (u64.wrap (l.getD 9 ⟨0⟩).v)).toNat=nOf l∧0≤nOf l∧nOf l<18446744073709551616:=by
 have h8:=h _ (List.getElem_mem (show 8<l.length by omega))
 have h9:=h _ (List.getElem_mem (show 9<l.length by omega))
 have e8:(l.getD 8 ⟨0⟩)=l[8]:=by simp [List.getD_eq_getElem?_getD,hl]
 have e9:(l.getD 9 ⟨0⟩)=l[9]:=by simp [List.getD_eq_getElem?_getD,hl]
 have hn:nOf l=l[8].v*(4294967296:Int)+l[9].v:=by unfold nOf;rw [e8,e9]
 refine⟨?_,by rw [hn];omega,by rw [hn];omega⟩
 rw [e8,e9,hn]
 generalize l[8].v=a at *
 generalize l[9].v=b at *
 rw [ph (x:=a) (by omega),ph (x:=b) (by omega),ph (x:=a*2 ^ 32) (by omega)]
 rw [Hc,BitVec.toNat_or,eJ (by omega) (by omega),eJ (by omega) (by omega)]
 have:=gp 32 (a:=a) (y:=b) (by omega) (by omega) (by omega)
 unfold nor at this
 rw [show a*2 ^ 32=2 ^ 32*a by omega,this,ph (by omega)]
 omega
def aw(l:List U32):Int:=
 if l.length≠26 then 20 else if nOf l>36028797018963968∨(nOf l<16∧ka l≠S8.first)then 20
 else if(l.drop (10+(nOf l % 16).toNat)).all (fun x=>x.v==0)then 0 else 20
def zero:Dg:=⟨⟨0,0,0,0,0,0,0,0⟩,0,[]⟩
def kS(l:List U32):Dg:=if aw l=0 then load l else zero
theorem oo {l:List U32}(h:¬l.length=26):aw l=20:=by unfold aw;rw [if_pos h]
theorem gZ {l:List U32}(h:l.length=26)(hg:nOf l>36028797018963968∨(nOf l<16∧ka l≠S8.first)):aw l=20:=by unfold aw;rw [if_neg (by simpa using h),if_pos hg]
theorem mV {l:List U32}(h:l.length=26)(hg:¬(nOf l>36028797018963968∨(nOf l<16∧ka l≠S8.first)))(hz:∀(i:Nat)(x:U32),(l.drop (10+(nOf l % 16).toNat))[i]? =some x→x.v=0):aw l=0:=by
 unfold aw
 rw [if_neg (by simpa using h),if_neg hg,if_pos]
 rw [List.all_eq_true]
 intro x hx
 obtain⟨i,hi⟩:=List.getElem?_of_mem hx
 simpa using hz i x hi
theorem fB {l:List U32}(h:l.length=26)(hg:¬(nOf l>36028797018963968∨(nOf l<16∧ka l≠S8.first))) {i:Nat} {x:U32}(hx:(l.drop (10+(nOf l % 16).toNat))[i]? =some x)(h0:¬x.v=0):aw l=20:=by
 unfold aw
 rw [if_neg (by simpa using h),if_neg hg,if_neg]
 rw [List.all_eq_true]
 intro hh
 exact h0 (by simpa using hh x (List.mem_of_getElem? hx))
theorem lo_eq {l:List U32}:(i64.wrap (10+nOf l % 16)).toNat=10+(nOf l % 16).toNat:=by rw [aA (by omega)];omega
end Dg
structure DgL where
 Y:Nat→Prop
 a:Option Addr
 n:Nat
 c:Nat
def DgL.X(L:DgL)(g:Nat):Nat→Prop:=fun k=>k=g∨L.Y k
structure mA(w:World)(g:Nat)(L:DgL)(D:Dg):Prop where
 blk:∃T,Blk w g #[.int .u32 D.st.a,.int .u32 D.st.b,.int .u32 D.st.c,.int .u32 D.st.d,.int .u32 D.st.e,.int .u32 D.st.f,.int .u32 D.st.g,.int .u32 D.st.h,.int .i64 D.n,.slice L.a L.n L.c] T
 rd:Rd w L.Y L.a L.n L.c D.waits
 off:¬L.Y g
variable {w w':World} {g:Nat} {L:DgL} {D:Dg} {X:Nat→Prop}
theorem mA.lt(h:mA w g L D):∀k,L.X g k→k<w.heap.size:=by
 rintro k (rfl | hk)
 ·obtain⟨T,b⟩:=h.blk;exact b.lt
 ·exact h.rd.lt k hk
theorem mA.ch(h:mA w g L D)(hk:Ch X w w')(hx:∀k,L.X g k→¬X k):mA w' g L D:=
 ⟨h.blk.imp fun _ b=>hk.blk b (hx g (.inl rfl)),h.rd.ch hk fun k hk=>hx k (.inr hk),h.off⟩
theorem mA.pu(h:mA w g L D)(hk:Pu w w'):mA w' g L D:=h.ch hk (by simp)
end
structure Mem where
 S:Nat
 I:Nat
 pg:Bool→Nat→Nat→Int
namespace Mem
def cnt(m:Mem)(s:Bool):Nat:=match s with
 | true=>m.S
 | false=>m.I
def has(m:Mem)(s:Bool)(p:Int):Bool:=decide (0≤p∧p<(m.cnt s:Int))
def dq(o:Int):Bool:=decide (0≤o∧o<1024)
def aY(m:Mem)(s:Bool)(p o:Int):Int:=if m.has s p && dq o then m.pg s p.toNat o.toNat else 0
def tick(m:Mem)(_:Int):Mem:=m
def fill(m:Mem)(s:Bool)(p:Nat)(f:Nat→Int):Mem:= {m with pg:=fun s' p' o'=>if s'=s∧p'=p then f o' else m.pg s' p' o'}
def put(m:Mem)(s:Bool)(p o:Nat)(v:Int):Mem:=m.fill s p fun o'=>if o'=o then v else m.pg s p o'
def err(m:Mem)(s:Bool)(p o:Int):Int:=if m.has s p then(if dq o then 0 else 70)else 5
def write(m:Mem)(s:Bool)(p o v:Int):Mem:=if m.has s p && dq o then(m.put s p.toNat o.toNat v).tick 1 else m
def dU(m:Mem)(s:Bool)(p:Int):Int:=if m.has s p then 0 else 5
def zero(m:Mem)(s:Bool)(p:Int):Mem:=if m.has s p then(m.fill s p.toNat fun _=>0).tick 1024 else m
def fresh(S I:Nat):Mem:= {S,I,pg:=fun _ _ _=>0}
@[simp] theorem Mk(m:Mem)(n:Int)(s:Bool):(m.tick n).cnt s=m.cnt s:=by cases s<;>rfl
@[simp] theorem Ml(m:Mem)(s':Bool)(p:Nat)(f:Nat→Int)(s:Bool):(m.fill s' p f).cnt s=m.cnt s:=by cases s<;>rfl
@[simp] theorem MB(m:Mem)(s':Bool)(p o:Nat)(v:Int)(s:Bool):(m.put s' p o v).cnt s=m.cnt s:=by cases s<;>rfl
theorem ai {m:Mem} {s:Bool} {p:Int}(h:m.has s p=true):0≤p∧p<(m.cnt s:Int):=by simpa [has]using h
theorem dG {m:Mem} {s:Bool} {p:Int}(h:m.has s p=true):p.toNat<m.cnt s:=by have:=ai h;omega
theorem im {o:Int}(h:dq o=true):0≤o∧o<1024:=by simpa [dq]using h
end Mem
end Go.Proofs.YtinhphjfnedhgaaGreatDoor
namespace Go.Proofs.YtinhphjfnedhgaaGreatDoor
open Go.Proofs.Tryz (prog)
open Go Go.RowKit V
open Go.IntKind (i64 u32 u64)
section
set_option maxRecDepth 100000
def aL:List Nat:= [2,3,4,5,6,7,8,9,10,11,12,13,14,15,16,17,18,19,20,21,22,23,24,25,26,27,28,29,30,31,32,33,34,35,36,37,38,39,40,41,42,43,44,45,46,47,48,49,50,51,52,53,54,55,56,57,58,59,60,61,62,63,64,65,66,67,68,69,70,71,72,73,74,75,76,77,78,79,80,81,82,83,84,85,86,87,88,89,90,91,92,93,94,95,96,97,98,99,100,101,102,103,104,105,106,107,108,109,110,111,112,113,114,115,116,117,118,119,120,121,122,123,124,125,126,127,128,129,130,131,132,133,134,135,136,137,138,139,140,141,142,143,144,145,146,147,148,149,150,151,152,153,154,155,156,157,158,159,160,161,162,163,164,165,166,167,168,169,170,171,172,173,174,175,176,177,178,179,180,181,182,183,184,185,186,187,188,189,190,191,192,193,194,195,196,197,198,199,200,201,218,219,225]
theorem ar:eu prog aL=true:=by kernel_rfl
theorem aa:prog.follows .mixedOrders=true:=by kernel_rfl
def H2(m:Option Addr)(fa:Bool)(fb:Int)(R:aC)(w:World):Prop:=
 ∀(gv:Nat)(wv:World),gv=w.heap.size→wv=w.alloc (.cells #[(.bool fa),(.int .i64 fb)] 86)→
 au m fun p7=>
 ∃TN:Option Addr,∃TD:Nat,∃Ve:Nat,wv.cell? (p7.add 1)=some (.slice TN TD Ve)∧
 ∃Pq:Bool,wv.cell? ((Addr.mk gv 0 none).add 0)=some (.bool Pq)∧
 split Pq (
  au m fun ZM=>
  ∃S3:Option Addr,∃RW:Nat,∃T7:Nat,wv.cell? (ZM.add 0)=some (.slice S3 RW T7)∧
  ∃J:Bool→World→Prop,(
   ∃OY:Int,wv.cell? ((Addr.mk gv 0 none).add 1)=some (.int .i64 OY)∧
   split (decide ((OY:Int)<0)) (
    J true wv) (
    ∃OX:Int,wv.cell? ((Addr.mk gv 0 none).add 1)=some (.int .i64 OX)∧
    J (decide ((OX:Int)≥((RW:Nat):Int))) wv))∧∀(NR:Nat→Value)(QU:Bool),∀M5,J QU M5→
  split QU (
   R (.pointer none) M5) (
   ∃QT:Int,M5.cell? ((Addr.mk gv 0 none).add 1)=some (.int .i64 QT)∧
   (0≤(QT:Int)∧(QT:Int)<((RW:Nat):Int))∧
   au S3 fun TE=>
   ∃OK:Option Addr,M5.cell? (TE.add (Int.toNat QT*1))=some (.pointer OK)∧
   R (.pointer OK) M5)) (
  ∃J:Bool→World→Prop,(
   ∃OY:Int,wv.cell? ((Addr.mk gv 0 none).add 1)=some (.int .i64 OY)∧
   split (decide ((OY:Int)<0)) (
    J true wv) (
    ∃OX:Int,wv.cell? ((Addr.mk gv 0 none).add 1)=some (.int .i64 OX)∧
    J (decide ((OX:Int)≥((TD:Nat):Int))) wv))∧∀(NR:Nat→Value)(QU:Bool),∀M5,J QU M5→
  split QU (
   R (.pointer none) M5) (
   ∃QT:Int,M5.cell? ((Addr.mk gv 0 none).add 1)=some (.int .i64 QT)∧
   (0≤(QT:Int)∧(QT:Int)<((TD:Nat):Int))∧
   au TN fun TE=>
   ∃OK:Option Addr,M5.cell? (TE.add (Int.toNat QT*1))=some (.pointer OK)∧
   R (.pointer OK) M5))
def Lp:Ann:=(.node none .leaf (.node none .leaf (.node none .leaf (.node none (.node none (.node (some ⟨[(25,.one (.bool))],[16,17,18,19,20,21,22,23,24,25]⟩) .leaf .leaf) .leaf) .leaf))))
theorem MAt_eq(m:Option Addr)(fa:Bool)(fb:Int)(R:aC)(w:World):H2 m fa fb R w=vcF prog aL [] Tryz.f90 Lp [(.pointer m),(.agg #[(.bool fa),(.int .i64 fb)])] R none w:=by kernel_rfl
theorem EZ(m:Option Addr)(fa:Bool)(fb:Int) {R:aC} {w:World}(h:H2 m fa fb R w):Calls prog 90 #[(.pointer m),(.agg #[(.bool fa),(.int .i64 fb)])] w fun e w'=>∃v,e= .returned v∧R v w':=
 aj Tryz.func90 ar aa ((MAt_eq m fa fb R w).mp h)
def vw(m:Option Addr)(R:aC)(w:World):Prop:=
 ∃b:Nat→Nat→Prop,
 au m fun p4=>
 b 3 ((p4.add 0).block)∧
 ∃R8:Option Addr,∃Rc:Nat,∃Sl:Nat,w.drew.cell? (p4.add 0)=some (.slice R8 Rc Sl)∧
 au m fun p9=>
 b 8 ((p9.add 1).block)∧
 ∃QB:Option Addr,∃Qz:Nat,∃QA:Nat,w.drew.cell? (p9.add 1)=some (.slice QB Qz QA)∧
 au m fun RZ=>
 b 13 ((RZ.add 2).block)∧
 ∃NV:Int,w.drew.cell? (RZ.add 2)=some (.int .i64 NV)∧
 Calls prog 122 #[(.slice R8 Rc Sl)] w.drew fun e wv=>
 ∃Vg:Option Addr,∃TO:Nat,∃Vf:Nat,e= .returned (.slice Vg TO Vf)∧
 Kept (bW b [0,5,6,7,8,10,11,12,13]) w.drew wv∧∃b1:Nat→Nat→Prop,(∀i k,b i k→b1 i k)∧
 Calls prog 122 #[(.slice QB Qz QA)] wv fun e M5=>
 ∃Px:Option Addr,∃Qc:Nat,∃PT:Nat,e= .returned (.slice Px Qc PT)∧
 Kept (bW b1 [0,1,5,10,11,12,13]) wv M5∧∃b2:Nat→Nat→Prop,(∀i k,b1 i k→b2 i k)∧
 ∀(gv:Nat)(M8:World),gv=M5.heap.size→M8=M5.alloc (.cells #[(.slice Vg TO Vf),(.slice Px Qc PT),(.int .i64 NV)] 148)→
 Kept (bW b2 [0,1,2,5,6,7,10,11]) M5 M8∧∃b3:Nat→Nat→Prop,(∀i k,b2 i k→b3 i k)∧
 R (.pointer (some (Addr.mk gv 0 none))) M8
def EY:Ann:= .leaf
theorem MClone_eq(m:Option Addr)(R:aC)(w:World):vw m R w=vcF prog aL [] Tryz.f51 EY [(.pointer m)] R none w:=by kernel_rfl
theorem xc(m:Option Addr) {R:aC} {w:World}(h:vw m R w):Calls prog 51 #[(.pointer m)] w fun e w'=>∃v,e= .returned v∧R v w':=
 aj Tryz.func51 ar aa ((MClone_eq m R w).mp h)
def zP(m:Option Addr)(toa:Bool)(tob:Int)(froma:Bool)(fromb:Int)(R:aC)(w:World):Prop:=
 ∀(gv:Nat)(wv:World),gv=w.heap.size→wv=w.alloc (.cells #[(.bool toa),(.int .i64 tob)] 86)→
 ∀(Nc:Nat)(M5:World),Nc=wv.heap.size→M5=wv.alloc (.cells #[(.bool froma),(.int .i64 fromb)] 86)→
 ∃b:Nat→Nat→Prop,
 b 1 ((Addr.mk gv 0 none).block)∧
 ∃O9:Bool,∃OF:Int,(M5.drew.cell? ((Addr.mk gv 0 none).add 0)=some (.bool O9)∧M5.drew.cell? ((Addr.mk gv 0 none).add 1)=some (.int .i64 OF))∧
 b 4 ((Addr.mk Nc 0 none).block)∧
 ∃OL:Bool,∃OS:Int,(M5.drew.cell? ((Addr.mk Nc 0 none).add 0)=some (.bool OL)∧M5.drew.cell? ((Addr.mk Nc 0 none).add 1)=some (.int .i64 OS))∧
 Calls prog 90 #[(.pointer m),(.agg #[(.bool O9),(.int .i64 OF)])] M5.drew fun e M8=>
 ∃Pq:Option Addr,e= .returned (.pointer Pq)∧
 Kept (bW b [3,4]) M5.drew M8∧∃b1:Nat→Nat→Prop,(∀i k,b i k→b1 i k)∧
 Calls prog 90 #[(.pointer m),(.agg #[(.bool OL),(.int .i64 OS)])] M8 fun e Nb=>
 ∃Po:Option Addr,e= .returned (.pointer Po)∧
 ∃b2:Nat→Nat→Prop,(∀i k,b1 i k→b2 i k)∧
 ∃J:Bool→World→Prop,(
  split Pq.isNone (
   J true Nb) (
   J Po.isNone Nb))∧∀(Oq:Nat→Value)(NU:Bool),∀Nf,J NU Nf→
 split NU (
  R (.int .i64 5) Nf) (
  au m fun ZJ=>
  ∃Re:Int,Nf.cell? (ZJ.add 2)=some (.int .i64 Re)∧
  au m fun Rg=>
  aF Nf (Rg.add 2) [(.int .i64 (i64.wrap (Re+2048)))] fun Np=>
  au Po fun p30=>
  ∃SK:Array Value,(SK.size=1024∧∀i u,SK[i]? =some u→Np.cell? (p30.add i)=some u)∧
  au Pq fun p32=>
  SK.size=1024∧(∀v∈SK.toList,one? v True)∧
  aF Np p32 SK.toList fun NK=>
  R (.int .i64 0) NK)
def H0:Ann:=(.node none .leaf (.node none .leaf (.node none (.node none (.node (some ⟨[(20,.one (.bool))],[15,16,17,18,19,20]⟩) .leaf .leaf) .leaf) .leaf)))
theorem MCopy_eq(m:Option Addr)(toa:Bool)(tob:Int)(froma:Bool)(fromb:Int)(R:aC)(w:World):zP m toa tob froma fromb R w=vcF prog aL [] Tryz.f66 H0 [(.pointer m),(.agg #[(.bool toa),(.int .i64 tob)]),(.agg #[(.bool froma),(.int .i64 fromb)])] R none w:=by kernel_rfl
theorem zQ(m:Option Addr)(toa:Bool)(tob:Int)(froma:Bool)(fromb:Int) {R:aC} {w:World}(h:zP m toa tob froma fromb R w):Calls prog 66 #[(.pointer m),(.agg #[(.bool toa),(.int .i64 tob)]),(.agg #[(.bool froma),(.int .i64 fromb)])] w fun e w'=>∃v,e= .returned v∧R v w':=
 aj Tryz.func66 ar aa ((MCopy_eq m toa tob froma fromb R w).mp h)
def zN(lA:Option Addr)(lN:Nat)(lC:Nat)(R:aC)(w:World):Prop:=
 ∃TN:Option Addr,∃TD:Nat,∃Ve:Nat,∃wv,(Instr.makeSlice 145 (.int .i64 ((lN:Nat):Int)) (.int .i64 ((lN:Nat):Int)):Sem Value).run prog w= .ok (.slice TN TD Ve) wv∧
 ∃I:Nat→Int→World→Prop,(∃m,I m 0 wv)∧∀(m:Nat)(QQ:Nat→Value)(O5:Int),∀M5,I m O5 M5→
 split (decide ((O5:Int)<((lN:Nat):Int))) (
  (0≤(O5:Int)∧(O5:Int)<((lN:Nat):Int))∧
  au lA fun ZL=>
  ∃NV:Option Addr,M5.cell? (ZL.add (Int.toNat O5*1))=some (.pointer NV)∧
  au NV fun We=>
  ∃Om:Array Value,(Om.size=1024∧∀i u,Om[i]? =some u→M5.cell? (We.add i)=some u)∧
  ∀(Nc:Nat)(M8:World),Nc=M5.heap.size→M8=M5.alloc (.cells (Array.replicate 1024 (.int .u32 0)) 213)→
  Om.size=1024∧(∀v∈Om.toList,one? v True)∧
  aF M8 (Addr.mk Nc 0 none) Om.toList fun Nb=>
  (0≤(O5:Int)∧(O5:Int)<((TD:Nat):Int))∧
  au TN fun ZJ=>
  aF Nb (ZJ.add (Int.toNat O5*1)) [(.pointer (some (Addr.mk Nc 0 none)))] fun Nf=>
  ∃m1,m1<m∧I m1 (i64.wrap (O5+1)) Nf) (
  R (.slice TN TD Ve) M5)
def HZ:Ann:=(.node none .leaf (.node none .leaf (.node none (.node none .leaf (.node none (.node (some ⟨[(12,.one (.int .i64))],[4,5,6,12,13,14,15,16,17,18,19,20,21,22,23]⟩) .leaf .leaf) .leaf)) .leaf)))
theorem MEach_eq(lA:Option Addr)(lN:Nat)(lC:Nat)(R:aC)(w:World):zN lA lN lC R w=vcF prog aL [] Tryz.f122 HZ [(.slice lA lN lC)] R none w:=by kernel_rfl
theorem zO(lA:Option Addr)(lN:Nat)(lC:Nat) {R:aC} {w:World}(h:zN lA lN lC R w):Calls prog 122 #[(.slice lA lN lC)] w fun e w'=>∃v,e= .returned v∧R v w':=
 aj Tryz.func122 ar aa ((MEach_eq lA lN lC R w).mp h)
def oW(m:Option Addr)(R:aC)(w:World):Prop:=
 au m fun p4=>
 ∃R8:Option Addr,∃Rc:Nat,∃Sl:Nat,w.cell? (p4.add 1)=some (.slice R8 Rc Sl)∧
 R (.int .i64 ((Rc:Nat):Int)) w
def xa:Ann:= .leaf
theorem MInsecure_eq(m:Option Addr)(R:aC)(w:World):oW m R w=vcF prog aL [] Tryz.f55 xa [(.pointer m)] R none w:=by kernel_rfl
theorem qT(m:Option Addr) {R:aC} {w:World}(h:oW m R w):Calls prog 55 #[(.pointer m)] w fun e w'=>∃v,e= .returned v∧R v w':=
 aj Tryz.func55 ar aa ((MInsecure_eq m R w).mp h)
def zK(n:Int)(R:aC)(w:World):Prop:=
 ∃R8:Option Addr,∃Rc:Nat,∃Sl:Nat,∃wv,(Instr.makeSlice 145 (.int .i64 n) (.int .i64 n):Sem Value).run prog w= .ok (.slice R8 Rc Sl) wv∧
 ∃I:Nat→Int→World→Prop,(∃m,I m 0 wv)∧∀(m:Nat)(QQ:Nat→Value)(x9:Int),∀M5,I m x9 M5→
 split (decide ((x9:Int)<((Rc:Nat):Int))) (
  ∀(Nc:Nat)(M8:World),Nc=M5.heap.size→M8=M5.alloc (.cells (Array.replicate 1024 (.int .u32 0)) 213)→
  (0≤(x9:Int)∧(x9:Int)<((Rc:Nat):Int))∧
  au R8 fun Vq=>
  aF M8 (Vq.add (Int.toNat x9*1)) [(.pointer (some (Addr.mk Nc 0 none)))] fun Nb=>
  ∃m1,m1<m∧I m1 (i64.wrap (x9+1)) Nb) (
  R (.slice R8 Rc Sl) M5)
def HY:Ann:=(.node none .leaf (.node none .leaf (.node none (.node none .leaf (.node none (.node (some ⟨[(9,.one (.int .i64))],[4,9,10,11,12,13,14,15,16,17]⟩) .leaf .leaf) .leaf)) .leaf)))
theorem MMade_eq(n:Int)(R:aC)(w:World):zK n R w=vcF prog aL [] Tryz.f76 HY [(.int .i64 n)] R none w:=by kernel_rfl
theorem zL(n:Int) {R:aC} {w:World}(h:zK n R w):Calls prog 76 #[(.int .i64 n)] w fun e w'=>∃v,e= .returned v∧R v w':=
 aj Tryz.func76 ar aa ((MMade_eq n R w).mp h)
def DA(dL:Int)(insecure:Int)(R:aC)(w:World):Prop:=
 ∃J:Bool→World→Prop,(
  split (decide ((dL:Int)<1)) (
   J true w) (
   split (decide ((dL:Int)>64)) (
    J true w) (
    split (decide ((insecure:Int)<1)) (
     J true w) (
     J (decide ((insecure:Int)>64)) w))))∧∀(QQ:Nat→Value)(Om:Bool),∀wv,J Om wv→
 split Om (
  R (.tuple #[(.pointer none),(.int .i64 1)]) wv) (
  Calls prog 76 #[(.int .i64 dL)] wv fun e M5=>
  ∃T4:Option Addr,∃Qt:Nat,∃TZ:Nat,e= .returned (.slice T4 Qt TZ)∧
  Calls prog 76 #[(.int .i64 insecure)] M5 fun e M8=>
  ∃Pw:Option Addr,∃Pv:Nat,∃PS:Nat,e= .returned (.slice Pw Pv PS)∧
  ∀(Nc:Nat)(Nb:World),Nc=M8.heap.size→Nb=M8.alloc (.cells #[(.slice T4 Qt TZ),(.slice Pw Pv PS),(.int .i64 0)] 148)→
  R (.tuple #[(.pointer (some (Addr.mk Nc 0 none))),(.int .i64 0)]) Nb)
def JL:Ann:=(.node none .leaf (.node none (.node none (.node (some ⟨[(19,.one (.bool))],[6,7,8,9,10,11,12,13,14,15,16,17,18,19]⟩) .leaf .leaf) .leaf) .leaf))
theorem MNew_eq(dL:Int)(insecure:Int)(R:aC)(w:World):DA dL insecure R w=vcF prog aL [] Tryz.f27 JL [(.int .i64 dL),(.int .i64 insecure)] R none w:=by kernel_rfl
theorem tL(dL:Int)(insecure:Int) {R:aC} {w:World}(h:DA dL insecure R w):Calls prog 27 #[(.int .i64 dL),(.int .i64 insecure)] w fun e w'=>∃v,e= .returned v∧R v w':=
 aj Tryz.func27 ar aa ((MNew_eq dL insecure R w).mp h)
def zI(m:Option Addr)(fa:Bool)(fb:Int)(R:aC)(w:World):Prop:=
 ∀(gv:Nat)(wv:World),gv=w.heap.size→wv=w.alloc (.cells #[(.bool fa),(.int .i64 fb)] 86)→
 ∃Tc:Bool,∃T8:Int,(wv.cell? ((Addr.mk gv 0 none).add 0)=some (.bool Tc)∧wv.cell? ((Addr.mk gv 0 none).add 1)=some (.int .i64 T8))∧
 Calls prog 136 #[(.pointer m),(.agg #[(.bool Tc),(.int .i64 T8)]),(.int .i64 1)] wv fun e M5=>
 ∃QW:Option Addr,∃Qy:Int,e= .returned (.tuple #[(.pointer QW),(.int .i64 Qy)])∧
 split ((Qy:Int) !=0) (
  R (.tuple #[(.slice none 0 0),(.int .i64 Qy)]) M5) (
  ∃Qw:Option Addr,∃Qu:Nat,∃Qv:Nat,∃M8,(Instr.makeSlice 62 (.int .i64 1024) (.int .i64 1024):Sem Value).run prog M5= .ok (.slice Qw Qu Qv) M8∧
  au QW fun Ti=>
  ∀YX:Option Addr,YX=(some (if 1024=0 then Ti else Ti.add (0*1)))→∀YV:Nat,YV=1024 - 0→∀YW:Nat,YW=1024 - 0→
  ∃RH:Int,∃Nb,(Builtin.copy_ #[62,62] 3 #[(.slice Qw Qu Qv),(.slice YX YV YW)]:Sem Value).run prog M8= .ok (.int .i64 RH) Nb∧
  R (.tuple #[(.slice Qw Qu Qv),(.int .i64 0)]) Nb)
def HW:Ann:= .leaf
theorem MPage_eq(m:Option Addr)(fa:Bool)(fb:Int)(R:aC)(w:World):zI m fa fb R w=vcF prog aL [] Tryz.f69 HW [(.pointer m),(.agg #[(.bool fa),(.int .i64 fb)])] R none w:=by kernel_rfl
theorem zJ(m:Option Addr)(fa:Bool)(fb:Int) {R:aC} {w:World}(h:zI m fa fb R w):Calls prog 69 #[(.pointer m),(.agg #[(.bool fa),(.int .i64 fb)])] w fun e w'=>∃v,e= .returned v∧R v w':=
 aj Tryz.func69 ar aa ((MPage_eq m fa fb R w).mp h)
def zG(m:Option Addr)(fa:Bool)(fb:Int)(off:Int)(R:aC)(w:World):Prop:=
 ∀(gv:Nat)(wv:World),gv=w.heap.size→wv=w.alloc (.cells #[(.bool fa),(.int .i64 fb)] 86)→
 ∃Sk:Bool,∃Sj:Int,(wv.cell? ((Addr.mk gv 0 none).add 0)=some (.bool Sk)∧wv.cell? ((Addr.mk gv 0 none).add 1)=some (.int .i64 Sj))∧
 Calls prog 90 #[(.pointer m),(.agg #[(.bool Sk),(.int .i64 Sj)])] wv fun e M5=>
 ∃NW:Option Addr,e= .returned (.pointer NW)∧
 ∃J:Bool→World→Prop,(
  split NW.isNone (
   J true M5) (
   split (decide ((off:Int)<0)) (
    J true M5) (
    J (decide ((off:Int)≥1024)) M5)))∧∀(NR:Nat→Value)(NU:Bool),∀M8,J NU M8→
 split NU (
  R (.int .u32 0) M8) (
  au NW fun Wd=>
  (0≤(off:Int)∧(off:Int)<((1024:Nat):Int))∧
  ∃QU:Int,M8.cell? (Wd.add (Int.toNat off*1))=some (.int .u32 QU)∧
  R (.int .u32 QU) M8)
def HV:Ann:=(.node none .leaf (.node none .leaf (.node none (.node none (.node (some ⟨[(20,.one (.bool))],[11,12,13,14,15,16,17,18,19,20]⟩) .leaf .leaf) .leaf) .leaf)))
theorem MPeek_eq(m:Option Addr)(fa:Bool)(fb:Int)(off:Int)(R:aC)(w:World):zG m fa fb off R w=vcF prog aL [] Tryz.f33 HV [(.pointer m),(.agg #[(.bool fa),(.int .i64 fb)]),(.int .i64 off)] R none w:=by kernel_rfl
theorem zH(m:Option Addr)(fa:Bool)(fb:Int)(off:Int) {R:aC} {w:World}(h:zG m fa fb off R w):Calls prog 33 #[(.pointer m),(.agg #[(.bool fa),(.int .i64 fb)]),(.int .i64 off)] w fun e w'=>∃v,e= .returned v∧R v w':=
 aj Tryz.func33 ar aa ((MPeek_eq m fa fb off R w).mp h)
def zE(m:Option Addr)(fa:Bool)(fb:Int)(off:Int)(R:aC)(w:World):Prop:=
 ∀(gv:Nat)(wv:World),gv=w.heap.size→wv=w.alloc (.cells #[(.bool fa),(.int .i64 fb)] 86)→
 ∃QW:Bool,∃Qy:Int,(wv.cell? ((Addr.mk gv 0 none).add 0)=some (.bool QW)∧wv.cell? ((Addr.mk gv 0 none).add 1)=some (.int .i64 Qy))∧
 Calls prog 114 #[(.pointer m),(.agg #[(.bool QW),(.int .i64 Qy)]),(.int .i64 off)] wv fun e M5=>
 ∃QV:Option Addr,∃Qx:Int,e= .returned (.tuple #[(.pointer QV),(.int .i64 Qx)])∧
 split ((Qx:Int) !=0) (
  R (.tuple #[(.int .u32 0),(.int .i64 Qx)]) M5) (
  au QV fun Ti=>
  ∃O7:Int,M5.cell? Ti=some (.int .u32 O7)∧
  R (.tuple #[(.int .u32 O7),(.int .i64 0)]) M5)
def HU:Ann:= .leaf
theorem MRead_eq(m:Option Addr)(fa:Bool)(fb:Int)(off:Int)(R:aC)(w:World):zE m fa fb off R w=vcF prog aL [] Tryz.f92 HU [(.pointer m),(.agg #[(.bool fa),(.int .i64 fb)]),(.int .i64 off)] R none w:=by kernel_rfl
theorem zF(m:Option Addr)(fa:Bool)(fb:Int)(off:Int) {R:aC} {w:World}(h:zE m fa fb off R w):Calls prog 92 #[(.pointer m),(.agg #[(.bool fa),(.int .i64 fb)]),(.int .i64 off)] w fun e w'=>∃v,e= .returned v∧R v w':=
 aj Tryz.func92 ar aa ((MRead_eq m fa fb off R w).mp h)
def tK(m:Option Addr)(R:aC)(w:World):Prop:=
 au m fun p4=>
 ∃R8:Option Addr,∃Rc:Nat,∃Sl:Nat,w.cell? (p4.add 0)=some (.slice R8 Rc Sl)∧
 R (.int .i64 ((Rc:Nat):Int)) w
def BY:Ann:= .leaf
theorem MSecure_eq(m:Option Addr)(R:aC)(w:World):tK m R w=vcF prog aL [] Tryz.f54 BY [(.pointer m)] R none w:=by kernel_rfl
theorem uo(m:Option Addr) {R:aC} {w:World}(h:tK m R w):Calls prog 54 #[(.pointer m)] w fun e w'=>∃v,e= .returned v∧R v w':=
 aj Tryz.func54 ar aa ((MSecure_eq m R w).mp h)
def vv(m:Option Addr)(fa:Bool)(fb:Int)(times:Int)(R:aC)(w:World):Prop:=
 ∀(gv:Nat)(wv:World),gv=w.heap.size→wv=w.alloc (.cells #[(.bool fa),(.int .i64 fb)] 86)→
 ∃O9:Bool,∃OF:Int,(wv.cell? ((Addr.mk gv 0 none).add 0)=some (.bool O9)∧wv.cell? ((Addr.mk gv 0 none).add 1)=some (.int .i64 OF))∧
 Calls prog 90 #[(.pointer m),(.agg #[(.bool O9),(.int .i64 OF)])] wv fun e M5=>
 ∃Pq:Option Addr,e= .returned (.pointer Pq)∧
 split Pq.isNone (
  R (.tuple #[(.pointer none),(.int .i64 5)]) M5) (
  au m fun ZL=>
  ∃OY:Int,M5.cell? (ZL.add 2)=some (.int .i64 OY)∧
  au m fun Ti=>
  aF M5 (Ti.add 2) [(.int .i64 (i64.wrap (OY+(i64.wrap (times*1024)))))] fun M8=>
  R (.tuple #[(.pointer Pq),(.int .i64 0)]) M8)
def EX:Ann:= .leaf
theorem MWhole_eq(m:Option Addr)(fa:Bool)(fb:Int)(times:Int)(R:aC)(w:World):vv m fa fb times R w=vcF prog aL [] Tryz.f136 EX [(.pointer m),(.agg #[(.bool fa),(.int .i64 fb)]),(.int .i64 times)] R none w:=by kernel_rfl
theorem wV(m:Option Addr)(fa:Bool)(fb:Int)(times:Int) {R:aC} {w:World}(h:vv m fa fb times R w):Calls prog 136 #[(.pointer m),(.agg #[(.bool fa),(.int .i64 fb)]),(.int .i64 times)] w fun e w'=>∃v,e= .returned v∧R v w':=
 aj Tryz.func136 ar aa ((MWhole_eq m fa fb times R w).mp h)
def zC(m:Option Addr)(fa:Bool)(fb:Int)(off:Int)(R:aC)(w:World):Prop:=
 ∀(gv:Nat)(wv:World),gv=w.heap.size→wv=w.alloc (.cells #[(.bool fa),(.int .i64 fb)] 86)→
 ∃O9:Bool,∃OF:Int,(wv.cell? ((Addr.mk gv 0 none).add 0)=some (.bool O9)∧wv.cell? ((Addr.mk gv 0 none).add 1)=some (.int .i64 OF))∧
 Calls prog 90 #[(.pointer m),(.agg #[(.bool O9),(.int .i64 OF)])] wv fun e M5=>
 ∃Pq:Option Addr,e= .returned (.pointer Pq)∧
 split Pq.isNone (
  R (.tuple #[(.pointer none),(.int .i64 5)]) M5) (
  ∃J:Bool→World→Prop,(
   split (decide ((off:Int)<0)) (
    J true M5) (
    J (decide ((off:Int)≥1024)) M5))∧∀(NR:Nat→Value)(Om:Bool),∀M8,J Om M8→
  split Om (
   R (.tuple #[(.pointer none),(.int .i64 70)]) M8) (
   au m fun Ti=>
   ∃RH:Int,M8.cell? (Ti.add 2)=some (.int .i64 RH)∧
   au m fun TF=>
   aF M8 (TF.add 2) [(.int .i64 (i64.wrap (RH+1)))] fun Nb=>
   au Pq fun TE=>
   (0≤(off:Int)∧(off:Int)<((1024:Nat):Int))∧
   R (.tuple #[(.pointer (some (TE.add (Int.toNat off*1)))),(.int .i64 0)]) Nb))
def HT:Ann:=(.node none .leaf (.node none .leaf (.node none .leaf (.node none (.node none (.node (some ⟨[(19,.one (.bool))],[14,15,16,17,18,19]⟩) .leaf .leaf) .leaf) .leaf))))
theorem MWord_eq(m:Option Addr)(fa:Bool)(fb:Int)(off:Int)(R:aC)(w:World):zC m fa fb off R w=vcF prog aL [] Tryz.f114 HT [(.pointer m),(.agg #[(.bool fa),(.int .i64 fb)]),(.int .i64 off)] R none w:=by kernel_rfl
theorem zD(m:Option Addr)(fa:Bool)(fb:Int)(off:Int) {R:aC} {w:World}(h:zC m fa fb off R w):Calls prog 114 #[(.pointer m),(.agg #[(.bool fa),(.int .i64 fb)]),(.int .i64 off)] w fun e w'=>∃v,e= .returned v∧R v w':=
 aj Tryz.func114 ar aa ((MWord_eq m fa fb off R w).mp h)
def vu(m:Option Addr)(fa:Bool)(fb:Int)(off:Int)(v:Int)(R:aC)(w:World):Prop:=
 ∀(gv:Nat)(wv:World),gv=w.heap.size→wv=w.alloc (.cells #[(.bool fa),(.int .i64 fb)] 86)→
 ∃OL:Bool,∃OS:Int,(wv.cell? ((Addr.mk gv 0 none).add 0)=some (.bool OL)∧wv.cell? ((Addr.mk gv 0 none).add 1)=some (.int .i64 OS))∧
 Calls prog 114 #[(.pointer m),(.agg #[(.bool OL),(.int .i64 OS)]),(.int .i64 off)] wv fun e M5=>
 ∃Zd:Option Addr,∃T6:Int,e= .returned (.tuple #[(.pointer Zd),(.int .i64 T6)])∧
 split ((T6:Int)==0) (
  au Zd fun ZJ=>
  aF M5 ZJ [(.int .u32 v)] fun M8=>
  R (.int .i64 T6) M8) (
  R (.int .i64 T6) M5)
def EW:Ann:= .leaf
theorem MWrite_eq(m:Option Addr)(fa:Bool)(fb:Int)(off:Int)(v:Int)(R:aC)(w:World):vu m fa fb off v R w=vcF prog aL [] Tryz.f42 EW [(.pointer m),(.agg #[(.bool fa),(.int .i64 fb)]),(.int .i64 off),(.int .u32 v)] R none w:=by kernel_rfl
theorem wU(m:Option Addr)(fa:Bool)(fb:Int)(off:Int)(v:Int) {R:aC} {w:World}(h:vu m fa fb off v R w):Calls prog 42 #[(.pointer m),(.agg #[(.bool fa),(.int .i64 fb)]),(.int .i64 off),(.int .u32 v)] w fun e w'=>∃v,e= .returned v∧R v w':=
 aj Tryz.func42 ar aa ((MWrite_eq m fa fb off v R w).mp h)
def zA(m:Option Addr)(fa:Bool)(fb:Int)(R:aC)(w:World):Prop:=
 ∀(gv:Nat)(wv:World),gv=w.heap.size→wv=w.alloc (.cells #[(.bool fa),(.int .i64 fb)] 86)→
 ∃Sk:Bool,∃Sj:Int,(wv.cell? ((Addr.mk gv 0 none).add 0)=some (.bool Sk)∧wv.cell? ((Addr.mk gv 0 none).add 1)=some (.int .i64 Sj))∧
 Calls prog 136 #[(.pointer m),(.agg #[(.bool Sk),(.int .i64 Sj)]),(.int .i64 1)] wv fun e M5=>
 ∃O9:Option Addr,∃OF:Int,e= .returned (.tuple #[(.pointer O9),(.int .i64 OF)])∧
 split ((OF:Int)==0) (
  au O9 fun Vq=>
  ∀S0:Option Addr,S0=(some (if 1024=0 then Vq else Vq.add (0*1)))→∀SY:Nat,SY=1024 - 0→∀SZ:Nat,SZ=1024 - 0→
  ∃M8,(Builtin.clear_ #[62] 0 #[(.slice S0 SY SZ)]:Sem Value).run prog M5= .ok (.tuple #[]) M8∧
  R (.int .i64 OF) M8) (
  R (.int .i64 OF) M5)
def HS:Ann:= .leaf
theorem MZero_eq(m:Option Addr)(fa:Bool)(fb:Int)(R:aC)(w:World):zA m fa fb R w=vcF prog aL [] Tryz.f77 HS [(.pointer m),(.agg #[(.bool fa),(.int .i64 fb)])] R none w:=by kernel_rfl
theorem zB(m:Option Addr)(fa:Bool)(fb:Int) {R:aC} {w:World}(h:zA m fa fb R w):Calls prog 77 #[(.pointer m),(.agg #[(.bool fa),(.int .i64 fb)])] w fun e w'=>∃v,e= .returned v∧R v w':=
 aj Tryz.func77 ar aa ((MZero_eq m fa fb R w).mp h)
end
end Go.Proofs.YtinhphjfnedhgaaGreatDoor
namespace Go.Proofs.YtinhphjfnedhgaaGreatDoor
open Go.Proofs.Tryz (prog)
open Go Go.RowKit V
open Go.IntKind (i64 u32 u64)
section
structure eP where
 g:Nat
 a:Nat
 b:Nat
 pg:Bool→Nat→Nat
 n:Bool→Nat
def eP.row(L:eP)(s:Bool):Nat:=match s with
 | true=>L.a
 | false=>L.b
def eP.X(L:eP):Nat→Prop:=fun k=>k=L.g∨k=L.a∨k=L.b∨∃s i,i<L.n s∧k=L.pg s i
abbrev ptr(g:Nat):Value:= .pointer (some (Addr.mk g 0 none))
abbrev fr(s:Bool)(p:Int):Value:= .agg #[.bool s,.int .i64 p]
structure cA(w:World)(L:eP)(m:Mem):Prop where
 cnt:∀s,L.n s=m.cnt s
 hd:∃T:TypeId×Int,Blk w L.g #[.slice (some (Addr.mk L.a 0 none)) m.S m.S,.slice (some (Addr.mk L.b 0 none)) m.I m.I,.int .i64 T.2] T.1
 rows:∀s,∃T cs,Blk w (L.row s) cs T∧∀i,i<m.cnt s→cs[i]? =some (ptr (L.pg s i))
 pgs:∀s i,i<m.cnt s→∃T cs,Blk w (L.pg s i) cs T∧cs.size=1024∧∀o,o<1024→cs[o]? =some (.int .u32 (m.pg s i o))
 inj:∀s i s' i',i<m.cnt s→i'<m.cnt s'→L.pg s i=L.pg s' i'→s=s'∧i=i'
 dis:L.a≠L.g∧L.b≠L.g∧∀s i,i<m.cnt s→L.pg s i≠L.g∧L.pg s i≠L.a∧L.pg s i≠L.b
 u32:∀s i o,0≤m.pg s i o∧m.pg s i o<4294967296
 eU:m.S≤64∧m.I≤64
theorem cA.inX {w:World} {L:eP} {m:Mem}(h:cA w L m) {s:Bool} {i:Nat}(hi:i<m.cnt s):L.X (L.pg s i):= .inr (.inr (.inr ⟨s,i,by rw [h.cnt];exact hi,rfl⟩))
theorem cA.kept {w w':World} {L:eP} {m:Mem} {B:Nat→Prop}(h:cA w L m)(hk:Kept B w w')(hb:∀k,L.X k→B k):cA w' L m:=by
 refine⟨h.cnt,?_,fun s=>?_,fun s i hi=>?_,h.inj,h.dis,h.u32,h.eU⟩
 ·obtain⟨T,hd⟩:=h.hd
  exact⟨T,hd.kept hk (hb _ (.inl rfl))⟩
 ·obtain⟨T,cs,hr,h2⟩:=h.rows s
  exact⟨T,cs,hr.kept hk (hb _ (by cases s<;>simp [eP.X,eP.row])),h2⟩
 ·obtain⟨T,cs,hr,h2⟩:=h.pgs s i hi
  exact⟨T,cs,hr.kept hk (hb _ (h.inX hi)),h2⟩
theorem cA.lt {w:World} {L:eP} {m:Mem}(h:cA w L m):∀k,L.X k→k<w.heap.size:=by
 rintro k (rfl | rfl | rfl | ⟨s,i,hi,rfl⟩)
 ·obtain⟨T,hd⟩:=h.hd;exact hd.lt
 ·obtain⟨T,cs,hr,h2⟩:=h.rows true;exact hr.lt
 ·obtain⟨T,cs,hr,h2⟩:=h.rows false;exact hr.lt
 ·obtain⟨T,cs,hr,h2⟩:=h.pgs s i (by rw [← h.cnt];exact hi);exact hr.lt
theorem cA.ch {w w':World} {L:eP} {m:Mem} {Y:Nat→Prop}(h:cA w L m)(hk:Ch Y w w')(hb:∀k,L.X k→¬Y k):cA w' L m:=
 h.kept hk.kept fun k hx=>⟨h.lt k hx,hb k hx⟩
theorem cA.pu {w w':World} {L:eP} {m:Mem}(h:cA w L m)(hk:Pu w w'):cA w' L m:=h.ch hk (by simp)
theorem cA.Gv {w w2:World} {L:eP} {m:Mem}(h:cA w L m) {T:TypeId} {x:Int}(hs:bN w L.g #[.slice (some (Addr.mk L.a 0 none)) m.S m.S,.slice (some (Addr.mk L.b 0 none)) m.I m.I,.int .i64 x] T w2):cA w2 L m:=by
 have hk:∀k,k≠L.g→(fun k=>k≠L.g) k:=fun _ h=>h
 refine⟨h.cnt,⟨(T,x),hs.blk⟩,fun s=>?_,fun s i hi=>?_,h.inj,h.dis,h.u32,h.eU⟩
 ·obtain⟨T,cs,hr,h2⟩:=h.rows s
  exact⟨T,cs,hs.old hr (by cases s<;>simp [eP.row,h.dis.1,h.dis.2.1]),h2⟩
 ·obtain⟨T,cs,hr,h2⟩:=h.pgs s i hi
  exact⟨T,cs,hs.old hr (h.dis.2.2 s i hi).1,h2⟩
theorem cA.ak {w w2:World} {L:eP} {m:Mem}(h:cA w L m) {s:Bool} {i:Nat}(hi:i<m.cnt s) {cs:Array Value} {T:TypeId} {f:Nat→Int}(hs:bN w (L.pg s i) cs T w2)(hc:cs.size=1024)(hf:∀o,o<1024→cs[o]? =some (.int .u32 (f o)))
 (hu:∀o,0≤f o∧f o<4294967296):cA w2 L (m.fill s i f):=by
 obtain⟨T0,hd⟩:=h.hd
 refine⟨fun s=>by rw [h.cnt];simp,⟨T0,hs.old hd (fun e=>(h.dis.2.2 s i hi).1 e.symm)⟩,fun s'=>?_,fun s' i' NP=>?_,fun s1 i1 s2 i2 h1 h2=>h.inj s1 i1 s2 i2 (by simpa using h1) (by simpa using h2),⟨h.dis.1,h.dis.2.1,fun s1 i1 h1=>h.dis.2.2 s1 i1 (by simpa using h1)⟩,fun s' i' o=>?_,h.eU⟩
 ·obtain⟨T,cs,hr,h2⟩:=h.rows s'
  refine⟨T,cs,hs.old hr ?_,by simpa using h2⟩
  have:=(h.dis.2.2 s i hi).2
  cases s'<;>simp only [eP.row]
  ·exact fun e=>this.2 e.symm
  ·exact fun e=>this.1 e.symm
 ·have Ws:i'<m.cnt s':=by simpa using NP
  by_cases hq:s'=s∧i'=i
  ·obtain⟨rfl,rfl⟩:=hq
   exact⟨T,cs,hs.blk,hc,fun o ho=>by rw [hf o ho];simp [Mem.fill]⟩
  ·obtain⟨T,cs,hr,h2,h3⟩:=h.pgs s' i' Ws
   refine⟨T,cs,hs.old hr (fun e=>hq (h.inj _ _ _ _ Ws hi e)),h2,fun o ho=>?_⟩
   rw [h3 o ho]
   simp only [Mem.fill]
   rw [if_neg hq]
 ·simp only [Mem.fill]
  split
  ·exact hu o
  ·exact h.u32 _ _ _
theorem KX {w:World} {g i:Nat} {cs:Array Value} {T:TypeId} {k:IntKind} {x:Int} {K:Int→Prop}(hb:Blk w g cs T)(hi:cs[i]? =some (.int k x))(hK:K x):
 au (some (Addr.mk g 0 none)) fun p=>∃x:Int,w.cell? (p.add i)=some (.int k x)∧K x:=ah _ rfl ⟨_,hb.at hi,hK⟩
theorem I3 {w:World} {g i:Nat} {cs:Array Value} {T:TypeId} {A:Option Addr} {n c:Nat} {K:Option Addr→Nat→Nat→Prop}(hb:Blk w g cs T)(hi:cs[i]? =some (.slice A n c))(hK:K A n c):
 au (some (Addr.mk g 0 none)) fun p=>∃(A:Option Addr)(n c:Nat),w.cell? (p.add i)=some (.slice A n c)∧K A n c:=ah _ rfl ⟨_,_,_,hb.at hi,hK⟩
section
variable {w:World} {L:eP} {m:Mem}
theorem mAt(h:cA w L m)(s:Bool)(p:Int):
 Calls prog 90 #[ptr L.g,fr s p] w fun e w'=>∃v,e= .returned v∧v= .pointer (if m.has s p then some (Addr.mk (L.pg s p.toNat) 0 none)else none)∧Pu w w':=by
 refine EZ _ s p ?_
 intro g1 w1 hg hw
 have hM:=made hg hw
 have h1:=h.pu hM.pu
 obtain⟨T,hd⟩:=h1.hd
 refine I3 hd rfl ⟨_,hM.blk.at rfl,?_⟩
 have fin:∀(a n:Nat),n=m.cnt s→a=L.row s→
  ∃J:Bool→World→Prop,(
  ∃OY:Int,w1.cell? ((Addr.mk g1 0 none).add 1)=some (.int .i64 OY)∧
  split (decide ((OY:Int)<0)) (
   J true w1) (
   ∃OX:Int,w1.cell? ((Addr.mk g1 0 none).add 1)=some (.int .i64 OX)∧
   J (decide ((OX:Int)≥((n:Nat):Int))) w1))∧∀(NR:Nat→Value)(QU:Bool),∀M5,J QU M5→
  split QU (
   (∃v,v=(Value.pointer none)∧v= .pointer (if m.has s p then some (Addr.mk (L.pg s p.toNat) 0 none)else none)∧Pu w M5)) (
   ∃QT:Int,M5.cell? ((Addr.mk g1 0 none).add 1)=some (.int .i64 QT)∧
   (0≤(QT:Int)∧(QT:Int)<((n:Nat):Int))∧
   au (some (Addr.mk a 0 none)) fun TE=>
   ∃OK:Option Addr,M5.cell? (TE.add (Int.toNat QT*1))=some (.pointer OK)∧
   (∃v,v=(Value.pointer OK)∧v= .pointer (if m.has s p then some (Addr.mk (L.pg s p.toNat) 0 none)else none)∧Pu w M5)):=by
  intro a n hn ha
  refine⟨fun b w'=>w1=w'∧b= !(m.has s p),⟨_,hM.blk.at rfl,ae (fun hb=>⟨rfl,?_⟩) (fun hb=>⟨_,hM.blk.at rfl,rfl,?_⟩)⟩,?_⟩
  ·simp at hb
   simp [Mem.has]
   omega
  ·simp at hb
   subst hn
   simp only [Mem.has,ge_iff_le]
   rw [Bool.eq_iff_iff]
   simp
   omega
  ·rintro _ x _ ⟨rfl,rfl⟩
   refine ae (fun hb=>⟨_,rfl,?_,hM.pu⟩) (fun hb=>?_)
   ·simp at hb;simp [hb]
   ·have OQ:m.has s p=true:=by simpa using hb
    have hp:0≤p∧p<(n:Int):=by subst hn;simpa [Mem.has]using OQ
    obtain⟨T2,cs,hr,hc⟩:=h1.rows s
    rw [← ha]at hr
    refine⟨_,hM.blk.at rfl,hp,ah _ rfl ⟨_,?_,_,rfl,by rw [if_pos OQ],hM.pu⟩⟩
    rw [Nat.mul_one]
    exact hr.at (hc _ (by omega))
 refine ae (fun hb=>?_) (fun hb=>?_)
 ·subst hb
  exact I3 hd rfl (by
   obtain⟨J,hJ⟩:=fin L.a m.S rfl rfl
   refine⟨J,hJ.1,fun g x wv hj=>?_⟩
   have:=hJ.2 g x wv hj
   simpa using this)
 ·subst hb
  obtain⟨J,hJ⟩:=fin L.b m.I rfl rfl
  refine⟨J,hJ.1,fun g x wv hj=>?_⟩
  have:=hJ.2 g x wv hj
  simpa using this
theorem v7(h:cA w L m):Calls prog 54 #[ptr L.g] w fun e w'=>∃v,e= .returned v∧v= .int .i64 m.S∧w'=w:=by
 obtain⟨T,hd⟩:=h.hd
 exact uo _ (I3 hd rfl ⟨rfl,rfl⟩)
theorem Ka(h:cA w L m)(s:Bool)(p o:Int):
 Calls prog 114 #[ptr L.g,fr s p,.int .i64 o] w fun e w'=>∃v,e= .returned v∧
  ((m.has s p && Mem.dq o)=true∧v= .tuple #[.pointer (some (Addr.mk (L.pg s p.toNat) o.toNat none)),.int .i64 0]∧cA w' L (m.tick 1)∧Ch L.X w w'∨
   (m.has s p && Mem.dq o)=false∧v= .tuple #[.pointer none,.int .i64 (m.err s p o)]∧m.err s p o≠0∧Pu w w'):=by
 refine zD _ s p o ?_
 intro g1 w1 hg hw
 have hM:=made hg hw
 refine⟨_,_,⟨hM.blk.at rfl,hM.blk.at rfl⟩,(mAt (h.pu hM.pu) s p).mono ?_⟩
 rintro e w2 ⟨_,rfl,rfl,hp⟩
 have NZ:=hM.pu.trans hp
 refine⟨_,rfl,?_⟩
 cases hh:m.has s p with
 | false=>
  refine ae (fun _=>.inr ⟨rfl,?_,?_,NZ⟩) (fun hb=>by simp at hb)
  ·simp [Mem.err,hh]
  ·simp [Mem.err,hh]
 | true=>
  refine ae (fun hb=>by simp at hb) (fun _=>?_)
  refine⟨fun b w'=>w2=w'∧b= !(Mem.dq o),ae (fun hb=>⟨rfl,?_⟩) (fun hb=>⟨rfl,?_⟩),?_⟩
  ·simp at hb;simp [Mem.dq];omega
  ·simp at hb;simp only [Mem.dq,ge_iff_le];rw [Bool.eq_iff_iff];simp;omega
  ·rintro _ x _ ⟨rfl,rfl⟩
   refine ae (fun hb=>?_) (fun hb=>?_)
   ·have ho:Mem.dq o=false:=by simpa using hb
    exact .inr ⟨by simp [ho],by simp [Mem.err,hh,ho],by simp [Mem.err,hh,ho],NZ⟩
   ·have ho:Mem.dq o=true:=by simpa using hb
    have h2:=h.pu NZ
    obtain⟨T,hd⟩:=h2.hd
    refine KX hd rfl (ah _ rfl (bZ hd (by simp) fun w3 hs=>?_))
    have R3:=Mem.im ho
    refine ah _ rfl ⟨R3,.inl ⟨by simp [ho],?_,h2.Gv hs,?_⟩⟩
    ·rw [bT,Nat.zero_add,Nat.mul_one]
    ·exact(NZ.mono (by simp)).stored hs (.inl (.inl rfl))
theorem AY(h:cA w L m)(s:Bool)(p o v:Int)(hv:0≤v∧v<4294967296):
 Calls prog 42 #[ptr L.g,fr s p,.int .i64 o,.int .u32 v] w fun e w'=>∃u,e= .returned u∧u= .int .i64 (m.err s p o)∧cA w' L (m.write s p o v)∧Ch L.X w w':=by
 refine wU _ s p o v ?_
 intro g1 w1 hg hw
 have hM:=made hg hw
 refine⟨_,_,⟨hM.blk.at rfl,hM.blk.at rfl⟩,(Ka (h.pu hM.pu) s p o).mono ?_⟩
 rintro e w2 ⟨_,rfl,⟨hh,rfl,h2,hc⟩ | ⟨hh,rfl,he,hp⟩⟩
 ·refine⟨_,_,rfl,ae (fun _=>?_) (fun hb=>by simp at hb)⟩
  have Tu:Ch L.X w w2:=((Ch.refl _ w).made hM).trans hc
  simp only [Bool.and_eq_true]at hh
  have hi:=Mem.dG hh.1
  have ho:=Mem.im hh.2
  obtain⟨T,cs,hr,NA,Of⟩:=h2.pgs s p.toNat (by simpa using hi)
  refine ah _ rfl (iA hr (by simp;omega) fun w3 hs=>⟨?_,?_,?_⟩)
  ·simp [Mem.err,hh.1,hh.2]
  ·have:=h2.ak (f:=fun o'=>if o'=o.toNat then v else m.pg s p.toNat o') (by simpa using hi) hs (by simp [setAt,NA]) (fun o' R3=>?_) (fun o'=>?_)
   ·simp only [Mem.write,hh.1,hh.2,Bool.and_self,if_true]
    exact this
   ·simp only [uI,Array.getElem?_setIfInBounds]
    by_cases e:o.toNat=o'
    ·rw [if_pos e,if_pos (by omega),if_pos e.symm]
    ·rw [if_neg e,if_neg (fun h=>e h.symm)]
     exact Of o' R3
   ·split
    ·exact hv
    ·exact h.u32 _ _ _
  ·exact Tu.stored hs (.inl (h.inX hi))
 ·refine⟨_,_,rfl,ae (fun hb=>absurd (by simpa using hb) he) (fun _=>⟨rfl,?_,?_⟩)⟩
  ·have:=(h.pu hM.pu).pu hp
   simpa [Mem.write,hh]using this
  ·exact(hM.pu.trans hp).mono (by simp)
theorem LY(h:cA w L m)(s:Bool)(p o:Int):
 Calls prog 33 #[ptr L.g,fr s p,.int .i64 o] w fun e w'=>∃u,e= .returned u∧u= .int .u32 (m.aY s p o)∧Pu w w':=by
 refine zH _ s p o ?_
 intro g1 w1 hg hw
 have hM:=made hg hw
 refine⟨_,_,⟨hM.blk.at rfl,hM.blk.at rfl⟩,(mAt (h.pu hM.pu) s p).mono ?_⟩
 rintro e w2 ⟨_,rfl,rfl,hp⟩
 have NZ:=hM.pu.trans hp
 refine⟨_,rfl,fun b w'=>w2=w'∧b= !(m.has s p && Mem.dq o),?_,?_⟩
 ·cases hh:m.has s p with
  | false=>exact ae (fun _=>⟨rfl,rfl⟩) (fun hb=>by simp at hb)
  | true=>
   refine ae (fun hb=>by simp at hb) (fun _=>ae (fun hb=>⟨rfl,?_⟩) (fun hb=>⟨rfl,?_⟩))
   ·simp at hb;simp [Mem.dq];omega
   ·simp at hb;simp only [Mem.dq,ge_iff_le];rw [Bool.eq_iff_iff];simp;omega
 ·rintro _ x _ ⟨rfl,rfl⟩
  refine ae (fun hb=>?_) (fun hb=>?_)
  ·have hh:(m.has s p && Mem.dq o)=false:=by rwa [Bool.not_eq_true']at hb
   exact⟨by simp [Mem.aY,hh],NZ⟩
  ·have hh:(m.has s p && Mem.dq o)=true:=by simpa using hb
   have hh':=hh
   simp only [Bool.and_eq_true]at hh
   have hi:=Mem.dG hh.1
   have ho:=Mem.im hh.2
   obtain⟨T,cs,hr,NA,Of⟩:=(h.pu NZ).pgs s p.toNat hi
   rw [if_pos hh.1]
   refine ah _ rfl ⟨ho,_,by rw [Nat.mul_one];exact hr.at (Of _ (by omega)),?_,NZ⟩
   simp only [Mem.aY,hh',if_true]
end
end
section
theorem nX:S1 prog 62 29 (.int .u32 0) 4:=S1.of (by kernel_rfl) (by kernel_rfl) rfl
theorem F2:S1 prog 145 162 (.pointer none) 8:=S1.of (by kernel_rfl) (by kernel_rfl) rfl
def gP(w:World)(g:Nat)(f:Nat→Int):Prop:=∃T cs,Blk w g cs T∧cs.size=1024∧∀o,o<1024→cs[o]? =some (.int .u32 (f o))
structure jw(w:World)(g n k:Nat)(pg:Nat→Nat)(f:Nat→Nat→Int)(b:Nat):Prop where
 row:∃T cs,Blk w g cs T∧cs.size=n∧∀i,i<k→cs[i]? =some (ptr (pg i))
 pgs:∀i,i<k→gP w (pg i) (f i)
 inj:∀i j,i<k→j<k→pg i=pg j→i=j
 dis:∀i,i<k→pg i≠g
 low:b≤g∧∀i,i<k→b≤pg i
theorem gP.lt {w:World} {g:Nat} {f:Nat→Int}(h:gP w g f):g<w.heap.size:=by obtain⟨T,cs,hb,_⟩:=h;exact hb.lt
theorem gP.pu {w w':World} {g:Nat} {f:Nat→Int}(h:gP w g f)(hk:Pu w w'):gP w' g f:=by obtain⟨T,cs,hb,h2⟩:=h;exact⟨T,cs,hk.blk hb,h2⟩
theorem gP.old {w w':World} {g g':Nat} {f:Nat→Int} {cs:Array Value} {T:TypeId}(h:gP w g f)(hs:bN w g' cs T w')(NN:g≠g'):gP w' g f:=by obtain⟨T,cs,hb,h2⟩:=h;exact⟨T,cs,hs.old hb NN,h2⟩
theorem jw.pu {w w':World} {g n k b:Nat} {pg:Nat→Nat} {f:Nat→Nat→Int}(h:jw w g n k pg f b)(hk:Pu w w'):jw w' g n k pg f b:=by
 obtain⟨⟨T,cs,hr,h2⟩,h3,h4,h5,h6⟩:=h
 exact⟨⟨T,cs,hk.blk hr,h2⟩,fun i hi=>(h3 i hi).pu hk,h4,h5,h6⟩
theorem jw.more {w w1 w2:World} {g n k b p:Nat} {pg:Nat→Nat} {f:Nat→Nat→Int}(h:jw w g n k pg f b)(hk:Pu w w1)(hp:gP w1 p (f k))(VI:w.heap.size≤p)(OU:k<n)(hb:b≤w.heap.size):
 ∃T cs,Blk w1 g cs T∧k+1≤cs.size∧∀w2,bN w1 g (setAt cs k [ptr p]) T w2→jw w2 g n (k+1) (fun i=>if i=k then p else pg i) f b:=by
 obtain⟨⟨T,cs,hr,NA,h2⟩,h3,h4,h5,h6⟩:=h
 have hg:=hr.lt
 have hold:∀i,i<k→pg i≠p:=fun i hi=>by have:=(h3 i hi).lt;omega
 refine⟨T,cs,hk.blk hr,by omega,fun w2 hs=>⟨⟨T,_,hs.blk,by rw [fY];exact NA,fun i hi=>?_⟩,fun i hi=>?_,fun i j hi hj=>?_,fun i hi=>?_,h6.1,fun i hi=>?_⟩⟩
 ·rw [fx _ _ _ _ (by simp;omega)]
  by_cases e:i=k
  ·subst e;simp
  ·rw [if_neg (by simp;omega),if_neg e]
   exact h2 i (by omega)
 ·by_cases e:i=k
  ·subst e
   rw [if_pos rfl]
   exact hp.old hs (by omega)
  ·rw [if_neg e]
   exact((h3 i (by omega)).pu hk).old hs (h5 i (by omega))
 ·by_cases e:i=k<;>by_cases e':j=k
  ·intro _;omega
  ·rw [if_pos e,if_neg e'];intro hh;exact absurd hh.symm (hold j (by omega))
  ·rw [if_neg e,if_pos e'];intro hh;exact absurd hh (hold i (by omega))
  ·rw [if_neg e,if_neg e'];exact h4 i j (by omega) (by omega)
 ·split
  ·omega
  ·exact h5 i (by omega)
 ·split
  ·omega
  ·exact h6.2 i (by omega)
section
variable {w:World} {L:eP} {m:Mem}
theorem Kc(n:Nat)(hn:n≤64):
 Calls prog 76 #[.int .i64 n] w fun e w'=>∃v,e= .returned v∧∃g pg,v= .slice (some (Addr.mk g 0 none)) n n∧jw w' g n n pg (fun _ _=>0) w.heap.size∧Pu w w':=by
 refine zL _ ?_
 refine jj F2 (by omega) (by omega) (by omega) fun g w1 hM=>?_
 rw [Int.toNat_natCast]at hM ⊢
 refine⟨fun k x w'=>∃i:Nat,x=(i:Int)∧i≤n∧k=n - i∧(∃pg,jw w' g n i pg (fun _ _=>0) w.heap.size)∧Pu w w',⟨n,0,rfl,by omega,by omega,⟨fun _=>0,⟨⟨_,_,hM.blk,by simp,by simp⟩,by simp,by simp,by simp,by have:=hM.num;omega,by simp⟩⟩,hM.pu⟩,?_⟩
 rintro k _ x w2 ⟨i,rfl,hi,rfl,⟨pg,hP⟩,Rj⟩
 refine ae (fun hb=>?_) (fun hb=>?_)
 ·have NP:i<n:=by simpa using hb
  intro p w3 hp RM
  have RO:=made hp RM
  obtain⟨T,cs,hr,NA,Tr⟩:=hP.more (w2:=w3) RO.pu ⟨_,_,RO.blk,by simp,fun o ho=>by simp [ho]⟩ (by rw [RO.num];omega) NP Rj.size
  refine⟨⟨by omega,by omega⟩,ah _ rfl ?_⟩
  rw [Nat.mul_one,Int.toNat_natCast]
  refine bZ hr NA fun w4 hs=>⟨n - (i+1),by omega,i+1,?_,NP,rfl,⟨_,Tr _ hs⟩,?_⟩
  ·rw [aA (by omega)];omega
  ·have hg:w.heap.size≤g:=hP.low.1
   exact((Rj.made RO).mono (by simp):Ch (fun _=>False) w w3).stored hs (.inr hg)
 ·have:i=n:=by simp at hb;omega
  subst this
  exact⟨g,pg,rfl,hP,Rj⟩
theorem MO(s i:Int)(hs:1≤s∧s≤64)(hi:1≤i∧i≤64):
 Calls prog 27 #[.int .i64 s,.int .i64 i] w fun e w'=>∃v,e= .returned v∧∃L:eP,v= .tuple #[ptr L.g,.int .i64 0]∧cA w' L (Mem.fresh s.toNat i.toNat)∧(∀k,L.X k→w.heap.size≤k)∧Pu w w':=by
 refine tL s i ?_
 refine⟨fun b w'=>w=w'∧b=false,?_,?_⟩
 ·refine ae (fun hb=>by simp at hb;omega) (fun _=>ae (fun hb=>by simp at hb;omega) (fun _=>ae (fun hb=>by simp at hb;omega) (fun _=>⟨rfl,by simp;omega⟩)))
 rintro _ x _ ⟨rfl,rfl⟩
 refine ae (fun hb=>by cases hb) (fun _=>?_)
 obtain⟨S,rfl⟩:=Int.eq_ofNat_of_zero_le (show 0≤s by omega)
 obtain⟨I,rfl⟩:=Int.eq_ofNat_of_zero_le (show 0≤i by omega)
 refine(Kc S (by omega)).mono ?_
 rintro e w1 ⟨_,rfl,a,pa,rfl,hA,NI⟩
 refine⟨_,_,_,rfl,(Kc I (by omega)).mono ?_⟩
 rintro e w2 ⟨_,rfl,b,pb,rfl,hB,NZ⟩
 refine⟨_,_,_,rfl,?_⟩
 intro g w3 hg RM
 have hM:=made hg RM
 have hA3:=(hA.pu NZ).pu hM.pu
 have hB3:=hB.pu hM.pu
 have VX:∀j,j<S→pa j<w1.heap.size:=fun j hj=>(hA.pgs j hj).lt
 have NO:a<w1.heap.size:=by obtain⟨T,cs,hr,_⟩:=hA.row;exact hr.lt
 have VW:∀j,j<I→pb j<w2.heap.size:=fun j hj=>(hB.pgs j hj).lt
 have hbg:b<w2.heap.size:=by obtain⟨T,cs,hr,_⟩:=hB.row;exact hr.lt
 have h12:=NZ.size
 have h01:=NI.size
 have hgn:=hM.num
 refine⟨⟨g,a,b,fun s=>match s with | true=>pa | false=>pb,fun s=>match s with | true=>S | false=>I⟩,rfl,⟨fun s=>by cases s<;>rfl,⟨(_,_),hM.blk⟩,fun s=>?_,fun s i hi=>?_,fun s i s' i' hi NP e=>?_,⟨by show a≠g;omega,by show b≠g;omega,fun s i hi=>?_⟩,fun _ _ _=>by simp [Mem.fresh],by simp [Mem.fresh];omega⟩,?_,(NI.trans NZ).made hM⟩
 ·cases s
  ·obtain⟨T,cs,hr,_,h2⟩:=hB3.row;exact⟨T,cs,hr,h2⟩
  ·obtain⟨T,cs,hr,_,h2⟩:=hA3.row;exact⟨T,cs,hr,h2⟩
 ·cases s
  ·exact hB3.pgs i hi
  ·exact hA3.pgs i hi
 ·cases s<;>cases s'<;>simp only [Mem.cnt,Mem.fresh,Int.toNat_natCast]at hi NP<;>simp only at e
  ·exact⟨rfl,hB.inj _ _ hi NP e⟩
  ·have:=hB.low.2 i hi;have:=VX i' NP;omega
  ·have:=hB.low.2 i' NP;have:=VX i hi;omega
  ·exact⟨rfl,hA.inj _ _ hi NP e⟩
 ·cases s<;>simp only [Mem.cnt,Mem.fresh,Int.toNat_natCast]at hi<;>simp only
  ·have:=hB.low.2 i hi;have:=VW i hi;have:=hB.dis i hi
   refine⟨?_,?_,this⟩<;>omega
  ·have:=hA.low.2 i hi;have:=VX i hi;have h3:=hA.dis i hi;have:=hB.low.1
   refine⟨?_,h3,?_⟩<;>omega
 ·rintro k (rfl | rfl | rfl | ⟨s,i,hi,rfl⟩)
  ·omega
  ·exact hA.low.1
  ·have:=hB.low.1;omega
  ·cases s<;>simp only [Mem.cnt,Mem.fresh,Int.toNat_natCast]at hi<;>simp only
   ·have:=hB.low.2 i hi;omega
   ·exact hA.low.2 i hi
theorem GA(h:cA w L m)(s:Bool)(p t:Int):
 Calls prog 136 #[ptr L.g,fr s p,.int .i64 t] w fun e w'=>∃v,e= .returned v∧
  (m.has s p=true∧v= .tuple #[ptr (L.pg s p.toNat),.int .i64 0]∧cA w' L (m.tick (i64.wrap (t*1024)))∧Ch L.X w w'∨
   m.has s p=false∧v= .tuple #[.pointer none,.int .i64 5]∧Pu w w'):=by
 refine wV _ s p t ?_
 intro g1 w1 hg hw
 have hM:=made hg hw
 refine⟨_,_,⟨hM.blk.at rfl,hM.blk.at rfl⟩,(mAt (h.pu hM.pu) s p).mono ?_⟩
 rintro e w2 ⟨_,rfl,rfl,hp⟩
 have NZ:=hM.pu.trans hp
 refine⟨_,rfl,?_⟩
 cases hh:m.has s p with
 | false=>exact ae (fun _=>.inr ⟨rfl,rfl,NZ⟩) (fun hb=>by simp at hb)
 | true=>
  refine ae (fun hb=>by simp at hb) (fun _=>?_)
  have h2:=h.pu NZ
  obtain⟨T,hd⟩:=h2.hd
  refine KX hd rfl (ah _ rfl (bZ hd (by simp) fun w3 hs=>.inl ⟨rfl,rfl,h2.Gv hs,?_⟩))
  exact(NZ.mono (by simp)).stored hs (.inl (.inl rfl))
theorem J9(h:cA w L m)(s:Bool)(p:Int):
 Calls prog 77 #[ptr L.g,fr s p] w fun e w'=>∃v,e= .returned v∧v= .int .i64 (m.dU s p)∧cA w' L (m.zero s p)∧Ch L.X w w':=by
 refine zB _ s p ?_
 intro g1 w1 hg hw
 have hM:=made hg hw
 refine⟨_,_,⟨hM.blk.at rfl,hM.blk.at rfl⟩,(GA (h.pu hM.pu) s p 1).mono ?_⟩
 rintro e w2 ⟨_,rfl,⟨hh,rfl,h2,hc⟩ | ⟨hh,rfl,hp⟩⟩
 ·refine⟨_,_,rfl,ae (fun _=>ah _ rfl ?_) (fun hb=>by simp at hb)⟩
  rintro A rfl N rfl C rfl
  have hi:=Mem.dG hh
  obtain⟨T,cs,hr,NA,Of⟩:=h2.pgs s p.toNat (by simpa using hi)
  refine G5 (o:=0) nX rfl hr (by omega) (by omega) fun w3 hs=>⟨?_,?_,?_⟩
  ·simp [Mem.dU,hh]
  ·have:=h2.ak (f:=fun _=>0) (by simpa using hi) hs (by rw [fY];exact NA) (fun o ho=>?_) (fun o=>by simp)
   ·simp only [Mem.zero,hh,if_true]
    exact this
   ·have hl:(List.replicate (1024 - 0) (Value.int .u32 0)).length=1024:=List.length_replicate ..
    rw [fx _ _ _ _ (by rw [hl];omega),if_pos (by rw [hl];omega),List.getElem?_replicate,if_pos (by omega)]
  ·exact(((Ch.refl _ w).made hM).trans hc).stored hs (.inl (h.inX hi))
 ·refine⟨_,_,rfl,ae (fun hb=>by simp at hb) (fun _=>⟨?_,?_,?_⟩)⟩
  ·simp [Mem.dU,hh]
  ·simpa [Mem.zero,hh]using (h.pu hM.pu).pu hp
  ·exact(hM.pu.trans hp).mono (by simp)
end
end
structure Ent where
 typ:Int
 owner:Int
 refs:Int
 state:Int
 bB:Bool
deriving DecidableEq
namespace Ent
abbrev free:Ent:=⟨0,0,0,0,false⟩
def ok(e:Ent):Bool:=
 decide (0≤e.typ∧e.typ≤6∧0≤e.owner∧e.owner≤63∧0≤e.refs∧e.refs≤63∧(e.typ=0→e.owner=0)∧(e.typ≠1→e.refs=0∧e.state=0)∧(e.typ=1→1≤e.state∧e.state≤3)∧(e.typ≠2→e.bB=false))
def w0(e:Ent):Int:=e.typ+16*e.state+65536*e.owner+(if e.bB then 256 else 0)
def w1(e:Ent):Int:=e.refs
def parts(a b:Int):Ent:=⟨a % 8,a / 65536 % 64,b % 64,a / 16 % 4,decide (a / 256 % 2=1)⟩
def dec(a b:Int):Ent:=if(parts a b).ok && decide ((parts a b).w0=a) && decide ((parts a b).w1=b)then parts a b else free
def eZ(a b:Int):Int:=if(parts a b).ok && decide ((parts a b).w0=a) && decide ((parts a b).w1=b)then 0 else 110
theorem fI {e:Ent}(h:e.ok=true):0≤e.typ∧e.typ≤6∧0≤e.owner∧e.owner≤63∧0≤e.refs∧e.refs≤63∧(e.typ=0→e.owner=0)∧(e.typ≠1→e.refs=0∧e.state=0)∧(e.typ=1→1≤e.state∧e.state≤3)∧(e.typ≠2→e.bB=false):=by
 simpa only [ok,decide_eq_true_eq]using h
theorem lx {e:Ent}(h:e.ok=true):0≤e.state∧e.state≤3:=by
 have:=fI h
 by_cases h1:e.typ=1<;>omega
theorem D6 {e:Ent}(h:e.ok=true):parts e.w0 e.w1=e:=by
 have h1:=fI h
 have h2:=lx h
 obtain⟨t,o,r,s,n⟩:=e
 simp only at h1 h2
 cases n<;>simp only [parts,w0,w1,Ent.mk.injEq,decide_eq_true_eq,decide_eq_false_iff_not,if_true,Bool.false_eq_true,if_false]<;>omega
theorem wB {e:Ent}(h:e.ok=true):dec e.w0 e.w1=e∧eZ e.w0 e.w1=0:=by
 unfold dec eZ
 rw [D6 h]
 simp [h]
theorem xE {e:Ent}(h:e.ok=true):0≤e.w0∧e.w0<4294967296:=by
 have h1:=fI h
 have h2:=lx h
 unfold w0
 split<;>omega
theorem xD {e:Ent}(h:e.ok=true):0≤e.w1∧e.w1<4294967296:=by
 have h1:=fI h
 unfold w1
 omega
theorem wq:free.ok=true:=by decide
theorem gO {a b:Int}(h:eZ a b=0):(dec a b).ok=true∧(dec a b).w0=a∧(dec a b).w1=b:=by
 unfold eZ at h
 unfold dec
 split at h
 ·rename_i hc
  rw [if_pos hc]
  simp only [Bool.and_eq_true,decide_eq_true_eq]at hc
  exact⟨hc.1.1,hc.1.2,hc.2⟩
 ·omega
end Ent
structure DB where
 mem:Mem
 ax:Int
 ent:Nat→Ent
namespace DB
def S(d:DB):Nat:=d.mem.S
def has(d:DB)(p:Int):Bool:=decide (0≤p∧p<(d.S:Int))
def at_(d:DB)(p:Int):Ent:=d.ent p.toNat
def set(d:DB)(p:Int)(e:Ent):DB:= {d with ent:=fun q=>if q=p.toNat then e else d.ent q}
def entry(d:DB)(p:Int):Ent:=if d.has p then d.at_ p else .free
def aR(d:DB)(p:Int):Int:=if d.has p then 0 else 5
def cp(d:DB)(p:Int):Bool:=d.has p && (d.at_ p).typ==1
def aD(d:DB)(m:Mem):DB:=⟨m,d.ax,d.ent⟩
def gu(d:DB)(b:Int):DB:=⟨d.mem,b,d.ent⟩
def ay(d:DB)(f:Mem→Mem):DB:=d.aD (f d.mem)
def free(d:DB):Int:=(((List.range d.S).filter fun p=>(d.ent p).typ==0).length:Int)
def bm(d:DB)(s:Int)(p:Nat):Bool:=(p:Int) !=s && (d.ent p).typ !=0 && (d.ent p).owner==s
def owned(d:DB)(s:Int):List Nat:=if d.cp s then(List.range d.S).filter (d.bm s)else []
def aQ(d:DB)(s f:Int):Int:=
 if !d.has s || !d.has f then 5 else if s=f then 1 else if(d.at_ s).typ !=0 || (d.at_ f).typ !=0 then 120 else if d.ax≥64 then 240 else 0
def aZ(d:DB)(s f:Int):DB:=
 let d1:=(d.set s ⟨1,s,1,1,false⟩).set f ⟨3,s,0,0,false⟩
 (d1.aD (((d.mem.write true s 0 f).write true s 1 d.ax).write true s 2 0)).gu (d.ax+1)
def aJ(d:DB)(s f:Int):DB:=if d.aQ s f=0 then d.aZ s f else d
def turns(t:Int):Bool:=t==4 || t==5 || t==6
def bY(d:DB)(p t s:Int):Int:=
 if !d.has p then 5 else if t !=2 && !turns t then 124 else if !d.cp s || decide ((d.at_ s).refs≥63)then 122 else if(d.at_ p).typ !=0 then 120 else 0
def more(d:DB)(s k:Int):DB:=d.set s {d.at_ s with refs:=(d.at_ s).refs+k}
def cl(d:DB)(p t s:Int):DB:=(d.set p ⟨t,s,0,0,false⟩).more s 1
def take(d:DB)(p t s:Int):DB:=if d.bY p t s=0 then d.cl p t s else d
def cR(d:DB)(p:Int):Int:=
 if !d.has p then 5 else if(d.at_ p).typ=0 then 121 else if(d.at_ p).typ==1 && decide ((d.at_ p).refs>0)then 123 else 0
def aX(d:DB)(p:Int):DB:=
 let d1:=d.set p .free
 (if(d.at_ p).typ !=1 && (d1.cp (d.at_ p).owner && decide ((d1.at_ (d.at_ p).owner).refs>0))then d1.more (d.at_ p).owner (-1)else d1).ay (·.zero true p)
def dB(d:DB)(p:Int):DB:=if d.cR p=0 then d.aX p else d
def aT(d:DB)(p s:Int):Int:=
 if !d.has p then 5 else if(d.at_ p).typ≠1 then 124 else if s !=3 && ((d.at_ p).state !=1 || s !=2)then 3 else 0
def setState(d:DB)(p s:Int):DB:=if d.aT p s=0 then d.set p {d.at_ p with state:=s}else d
def words(d:DB):List Int:=d.ax::(List.range d.S).flatMap fun p=>[(d.ent p).w0,(d.ent p).w1]
structure Ok(d:DB):Prop where
 ent:∀p,p<d.S→(d.ent p).ok=true∧(d.ent p).owner<d.S
 ax:0≤d.ax∧d.ax≤64
@[simp] theorem M1(d:DB)(p:Int)(e:Ent):(d.set p e).S=d.S:=rfl
@[simp] theorem dA(d:DB)(p q:Int)(e:Ent):(d.set p e).has q=d.has q:=rfl
@[simp] theorem mem_set(d:DB)(p:Int)(e:Ent):(d.set p e).mem=d.mem:=rfl
@[simp] theorem La(d:DB)(p:Int)(e:Ent):(d.set p e).ax=d.ax:=rfl
@[simp] theorem cE(d:DB)(m:Mem):(d.aD m).mem=m:=rfl
@[simp] theorem Hd(d:DB)(m:Mem):(d.aD m).ax=d.ax:=rfl
@[simp] theorem Lc(d:DB)(m:Mem)(p:Int):(d.aD m).at_ p=d.at_ p:=rfl
@[simp] theorem Lu(d:DB)(m:Mem):(d.aD m).S=m.S:=rfl
@[simp] theorem D9(d:DB)(b:Int):(d.gu b).mem=d.mem:=rfl
@[simp] theorem Jd(d:DB)(b:Int):(d.gu b).ax=b:=rfl
@[simp] theorem Mr(d:DB)(b:Int)(p:Int):(d.gu b).at_ p=d.at_ p:=rfl
@[simp] theorem MC(d:DB)(b:Int):(d.gu b).S=d.S:=rfl
@[simp] theorem FD(d:DB)(m m':Mem):(d.aD m).aD m'=d.aD m':=rfl
theorem ov(m:Mem)(s s':Bool)(p q:Int):(m.zero s p).has s' q=m.has s' q:=by
 unfold Mem.has Mem.zero;split<;>cases s'<;>rfl
theorem cC(m:Mem)(s s':Bool)(p o v q:Int):(m.write s p o v).has s' q=m.has s' q:=by
 unfold Mem.has Mem.write;split<;>cases s'<;>rfl
theorem fL(d:DB)(p:Int):d.mem.has true p=d.has p:=rfl
theorem ai {d:DB} {p:Int}(h:d.has p=true):0≤p∧p<(d.S:Int):=by simpa [has]using h
theorem dG {d:DB} {p:Int}(h:d.has p=true):p.toNat<d.S:=by have:=ai h;omega
theorem bE {d:DB} {p q:Int} {e:Ent}(hp:0≤p)(hq:0≤q):(d.set p e).at_ q=if q=p then e else d.at_ q:=by
 unfold at_ set
 by_cases h:q=p
 ·simp [h]
 ·simp only [h,if_false];rw [if_neg (by omega)]
theorem Ms {d:DB} {p q:Int} {e:Ent}(hp:d.has p=true)(hq:d.has q=true)(NN:¬(d.at_ p).typ=(d.at_ q).typ):(d.set p e).at_ q=d.at_ q:=by
 have h1:=ai hp
 have h2:=ai hq
 rw [bE h1.1 h2.1,if_neg (by rintro rfl;exact NN rfl)]
theorem fC {d:DB} {p:Int}(h:d.cp p=true):d.has p=true∧(d.at_ p).typ=1:=by simpa [cp]using h
theorem Gn {t s:Int}(ht:t=2∨turns t=true)(hs:0≤s∧s≤63):(Ent.mk t s 0 0 false).ok=true:=by
 have:t=2∨t=4∨t=5∨t=6:=by simpa [turns,or_assoc]using ht
 simp only [Ent.ok,decide_eq_true_eq];simp;omega
theorem vX {e:Ent} {k:Int}(h:e.ok=true)(he:e.typ=1)(hk:0≤e.refs+k∧e.refs+k≤63):(Ent.mk e.typ e.owner (e.refs+k) e.state e.bB).ok=true:=by
 have h1:=Ent.fI h
 simp only [Ent.ok,decide_eq_true_eq]
 refine⟨by omega,by omega,by omega,by omega,by omega,by omega,by omega,by omega,by omega,fun _=>h1.2.2.2.2.2.2.2.2.2 (by omega)⟩
theorem J5 {e:Ent} {s:Int}(h:e.ok=true)(he:e.typ=1)(hs:1≤s∧s≤3):(Ent.mk e.typ e.owner e.refs s e.bB).ok=true:=by
 have h1:=Ent.fI h
 simp only [Ent.ok,decide_eq_true_eq]
 refine⟨by omega,by omega,by omega,by omega,by omega,by omega,by omega,by omega,by omega,fun _=>h1.2.2.2.2.2.2.2.2.2 (by omega)⟩
theorem Ok.at_ {d:DB}(h:d.Ok) {p:Int}(hp:d.has p=true):(d.at_ p).ok=true∧(d.at_ p).owner<d.S∧0≤(d.at_ p).owner:=
 ⟨(h.ent _ (dG hp)).1,(h.ent _ (dG hp)).2,(Ent.fI (h.ent _ (dG hp)).1).2.2.1⟩
end DB
section
structure fG where
 g:Nat
 a:Nat
 M:eP
def fG.X(L:fG):Nat→Prop:=fun k=>k=L.g∨k=L.a∨L.M.X k
abbrev DB.n2(D:DB):Nat:=2*D.mem.S
structure DBP(w:World)(L:fG)(D:DB):Prop where
 hd:∃T,Blk w L.g #[.pointer (some (Addr.mk L.M.g 0 none)),.int .i64 D.ax,.slice (some (Addr.mk L.a 0 none)) D.n2 D.n2] T
 ws:∃T cs,Blk w L.a cs T∧cs.size=D.n2∧∀p,p<D.S→cs[2*p]? =some (.int .u32 (D.ent p).w0)∧cs[2*p+1]? =some (.int .u32 (D.ent p).w1)
 mem:cA w L.M D.mem
 ok:D.Ok
 dis:L.a≠L.g∧¬L.M.X L.g∧¬L.M.X L.a
section
variable {w w' w2:World} {L:fG} {D:DB} {Y:Nat→Prop}
theorem DBP.lt(h:DBP w L D):∀k,L.X k→k<w.heap.size:=by
 rintro k (rfl | rfl | hk)
 ·obtain⟨T,hd⟩:=h.hd;exact hd.lt
 ·obtain⟨T,cs,hr,_⟩:=h.ws;exact hr.lt
 ·exact h.mem.lt k hk
theorem DBP.ch(h:DBP w L D)(hk:Ch Y w w')(hb:∀k,L.X k→¬Y k):DBP w' L D:=by
 refine⟨?_,?_,h.mem.ch hk fun k hx=>hb k (.inr (.inr hx)),h.ok,h.dis⟩
 ·obtain⟨T,hd⟩:=h.hd;exact⟨T,hk.blk hd (hb _ (.inl rfl))⟩
 ·obtain⟨T,cs,hr,h2⟩:=h.ws;exact⟨T,cs,hk.blk hr (hb _ (.inr (.inl rfl))),h2⟩
theorem DBP.pu(h:DBP w L D)(hk:Pu w w'):DBP w' L D:=h.ch hk (by simp)
theorem DBP.S64(h:DBP w L D):D.S≤64:=h.mem.eU.1
theorem DBP.ay(h:DBP w L D) {m:Mem}(hm:cA w' L.M m)(hc:Ch L.M.X w w')(hs:m.S=D.mem.S):DBP w' L (D.aD m):=by
 refine⟨?_,?_,hm,⟨fun p hp=>?_,h.ok.ax⟩,h.dis⟩
 ·obtain⟨T,hd⟩:=h.hd
  refine⟨T,?_⟩
  show Blk w' L.g #[_,_,.slice _ (2*m.S) (2*m.S)] T
  rw [hs];exact hc.blk hd h.dis.2.1
 ·obtain⟨T,cs,hr,h2⟩:=h.ws
  refine⟨T,cs,hc.blk hr h.dis.2.2,?_⟩
  show cs.size=2*m.S∧∀p,p<m.S→_
  rw [hs];exact h2
 ·have PZ:p<m.S:=hp
  rw [hs]at PZ
  have:=h.ok.ent p PZ
  refine⟨this.1,?_⟩
  show _<(m.S:Int)
  rw [hs];exact this.2
theorem DBP.DU(h:DBP w L D) {x:Int} {T:TypeId}(hs:bN w L.g #[.pointer (some (Addr.mk L.M.g 0 none)),.int .i64 x,.slice (some (Addr.mk L.a 0 none)) D.n2 D.n2] T w2)(hx:0≤x∧x≤64):DBP w2 L (D.gu x):=by
 refine⟨⟨T,hs.blk⟩,?_,h.mem.ch hs.ch fun k hk e=>h.dis.2.1 (e▸hk),⟨h.ok.ent,hx⟩,h.dis⟩
 obtain⟨T,cs,hr,h2⟩:=h.ws
 exact⟨T,cs,hs.old hr h.dis.1,h2⟩
theorem DBP.Kz(h:DBP w L D) {p:Int} {e:Ent}(hp:D.has p=true)(he:e.ok=true)(ho:e.owner<D.S) {cs:Array Value} {T:TypeId}(hb:Blk w L.a cs T)(hs:bN w L.a (setAt cs (2*p.toNat) [.int .u32 e.w0,.int .u32 e.w1]) T w2):DBP w2 L (D.set p e):=by
 obtain⟨T',cs',hr,NA,h2⟩:=h.ws
 obtain⟨rfl,rfl⟩:=hb.inj hr
 have hn:=DB.dG hp
 refine⟨?_,⟨T,_,hs.blk,by rw [fY];exact NA,fun q hq=>?_⟩,h.mem.ch hs.ch fun k hk e=>h.dis.2.2 (e▸hk),⟨fun q hq=>?_,h.ok.ax⟩,h.dis⟩
 ·obtain⟨T,hd⟩:=h.hd;exact⟨T,hs.old hd h.dis.1.symm⟩
 ·have hl:2*p.toNat+ [Value.int .u32 e.w0,Value.int .u32 e.w1].length≤cs.size:=by
   have h1:D.n2=2*D.S:=rfl
   rw [NA,h1];simp only [List.length_cons,List.length_nil];omega
  rw [fx _ _ _ _ hl,fx _ _ _ _ hl]
  simp only [DB.set,List.length_cons,List.length_nil]
  by_cases Z9:q=p.toNat
  ·subst Z9
   simp
  ·rw [if_neg (by omega),if_neg (by omega:¬(2*p.toNat≤2*q+1∧2*q+1<2*p.toNat+(0+1+1)))]
   simp only [Z9,if_false]
   exact h2 q hq
 ·simp only [DB.set]
  split
  ·exact⟨he,ho⟩
  ·exact h.ok.ent q hq
theorem Mem.aV(m:Mem)(s:Bool)(p o v:Int):(m.write s p o v).S=m.S:=by unfold Mem.write;split<;>rfl
theorem Mem.qb(m:Mem)(s:Bool)(p:Int):(m.zero s p).S=m.S:=by unfold Mem.zero;split<;>rfl
theorem fG.inM(L:fG)(k:Nat)(h:L.M.X k):L.X k:= .inr (.inr h)
theorem wx(h:DBP w L D)(s:Bool)(p o v:Int)(hv:0≤v∧v<4294967296):
 Calls prog 42 #[ptr L.M.g,fr s p,.int .i64 o,.int .u32 v] w fun e w'=>∃u,e= .returned u∧u= .int .i64 (D.mem.err s p o)∧DBP w' L (D.aD (D.mem.write s p o v))∧Ch L.M.X w w':=
 (AY h.mem s p o v hv).mono fun e w' ⟨u,he,hu,hm,hc⟩=>⟨u,he,hu,h.ay hm hc (Mem.aV ..),hc⟩
theorem GY(h:DBP w L D)(s:Bool)(p:Int):
 Calls prog 77 #[ptr L.M.g,fr s p] w fun e w'=>∃u,e= .returned u∧u= .int .i64 (D.mem.dU s p)∧DBP w' L (D.aD (D.mem.zero s p))∧Ch L.M.X w w':=
 (J9 h.mem s p).mono fun e w' ⟨u,he,hu,hm,hc⟩=>⟨u,he,hu,h.ay hm hc (Mem.qb ..),hc⟩
theorem pj(x:Int):0≤u32.wrap x∧u32.wrap x<4294967296:=by rw [u32_eq];omega
end
end
end Go.Proofs.YtinhphjfnedhgaaGreatDoor
namespace Go.Proofs.YtinhphjfnedhgaaGreatDoor
open Go.Proofs.Tryz (prog)
open Go Go.RowKit V
open Go.IntKind (i64 u32 u64)
section
set_option maxRecDepth 100000
def vA(t:Int)(R:aC)(w:World):Prop:=
 ∃J:Bool→World→Prop,(
  split ((t:Int)==4) (
   J true w) (
   split ((t:Int)==5) (
    J true w) (
    J ((t:Int)==6) w)))∧∀(QQ:Nat→Value)(x2:Bool),∀wv,J x2 wv→
 R (.bool x2) wv
def Fi:Ann:=(.node none .leaf (.node none (.node (some ⟨[(2,.one (.bool))],[2,3,4,5,6,7,8,9,10,11,12]⟩) .leaf .leaf) .leaf))
theorem DTurns_eq(t:Int)(R:aC)(w:World):vA t R w=vcF prog aL [] Tryz.f128 Fi [(.int .i64 t)] R none w:=by kernel_rfl
theorem xh(t:Int) {R:aC} {w:World}(h:vA t R w):Calls prog 128 #[(.int .i64 t)] w fun e w'=>∃v,e= .returned v∧R v w':=
 aj Tryz.func128 ar aa ((DTurns_eq t R w).mp h)
def tP(ak:Int)(R:aC)(w:World):Prop:=
 ∀(gv:Nat)(wv:World),gv=w.heap.size→wv=w.alloc (.cells (#[(.bool false),(.int .i64 0)]) 86)→
 aF wv (Addr.mk gv 0 none) [(.bool true),(.int .i64 ak)] fun M5=>
 ∃PV:Bool,∃PU:Int,(M5.cell? ((Addr.mk gv 0 none).add 0)=some (.bool PV)∧M5.cell? ((Addr.mk gv 0 none).add 1)=some (.int .i64 PU))∧
 R (.agg #[(.bool PV),(.int .i64 PU)]) M5
def Cb:Ann:= .leaf
theorem DSecure_eq(ak:Int)(R:aC)(w:World):tP ak R w=vcF prog aL [] Tryz.f78 Cb [(.int .i64 ak)] R none w:=by kernel_rfl
theorem ur(ak:Int) {R:aC} {w:World}(h:tP ak R w):Calls prog 78 #[(.int .i64 ak)] w fun e w'=>∃v,e= .returned v∧R v w':=
 aj Tryz.func78 ar aa ((DSecure_eq ak R w).mp h)
def vB(d:Option Addr)(R:aC)(w:World):Prop:=
 au d fun p4=>
 ∃R8:Option Addr,∃Rc:Nat,∃Sl:Nat,w.cell? (p4.add 2)=some (.slice R8 Rc Sl)∧
 R (.int .i64 (i64.wrap ((((Rc:Nat):Int):Int).tdiv 2))) w
def Fj:Ann:= .leaf
theorem DPages_eq(d:Option Addr)(R:aC)(w:World):vB d R w=vcF prog aL [] Tryz.f120 Fj [(.pointer d)] R none w:=by kernel_rfl
theorem oZ(d:Option Addr) {R:aC} {w:World}(h:vB d R w):Calls prog 120 #[(.pointer d)] w fun e w'=>∃v,e= .returned v∧R v w':=
 aj Tryz.func120 ar aa ((DPages_eq d R w).mp h)
def DE(d:Option Addr)(ak:Int)(R:aC)(w:World):Prop:=
 ∃J:Bool→World→Prop,(
  split (decide ((ak:Int)≥0)) (
   Calls prog 120 #[(.pointer d)] w fun e wv=>
   ∃NW:Int,e= .returned (.int .i64 NW)∧
   J (decide ((ak:Int)<NW)) wv) (
   J false w))∧∀(QQ:Nat→Value)(x4:Bool),∀wv,J x4 wv→
 R (.bool x4) wv
def JV:Ann:=(.node none .leaf (.node none (.node (some ⟨[(4,.one (.bool))],[4,5,6,7,8,9,10,11,12]⟩) .leaf .leaf) .leaf))
theorem DHas_eq(d:Option Addr)(ak:Int)(R:aC)(w:World):DE d ak R w=vcF prog aL [] Tryz.f57 JV [(.pointer d),(.int .i64 ak)] R none w:=by kernel_rfl
theorem tT(d:Option Addr)(ak:Int) {R:aC} {w:World}(h:DE d ak R w):Calls prog 57 #[(.pointer d),(.int .i64 ak)] w fun e w'=>∃v,e= .returned v∧R v w':=
 aj Tryz.func57 ar aa ((DHas_eq d ak R w).mp h)
def Ic(d:Option Addr)(ak:Int)(R:aC)(w:World):Prop:=
 ∀(gv:Nat)(wv:World),gv=w.heap.size→wv=w.alloc (.cells (#[(.int .i64 0),(.int .i64 0),(.int .i64 0),(.int .i64 0),(.bool false)]) 50)→
 au d fun p9=>
 ∃QB:Option Addr,∃Qz:Nat,∃QA:Nat,wv.cell? (p9.add 2)=some (.slice QB Qz QA)∧
 (0≤(i64.wrap (2*ak):Int)∧(i64.wrap (2*ak):Int)≤((Qz:Nat):Int))∧
 ∀Zq:Option Addr,Zq=(if QA=(Int.toNat (i64.wrap (2*ak)))then QB else(QB:Option Addr).map (·.add ((Int.toNat (i64.wrap (2*ak)))*1)))→∀Zp:Nat,Zp=Qz - (Int.toNat (i64.wrap (2*ak)))→∀abw:Nat,abw=QA - (Int.toNat (i64.wrap (2*ak)))→
 2≤Zp∧
 au Zq fun Vq=>
 ∃Zc:Int,∃Za:Int,(wv.cell? (Vq.add 0)=some (.int .u32 Zc)∧wv.cell? (Vq.add 1)=some (.int .u32 Za))∧
 Calls prog 121 #[(.agg #[(.int .u32 Zc),(.int .u32 Za)])] wv fun e M5=>
 ∃x17aa:Int,∃x17ab:Int,∃x17ac:Int,∃x17ad:Int,∃x17ae:Bool,∃T5:Int,e= .returned (.tuple #[(.agg #[(.int .i64 x17aa),(.int .i64 x17ab),(.int .i64 x17ac),(.int .i64 x17ad),(.bool x17ae)]),(.int .i64 T5)])∧
 ∀(Nc:Nat)(M8:World),Nc=M5.heap.size→M8=M5.alloc (.cells (#[(.int .i64 0),(.int .i64 0),(.int .i64 0),(.int .i64 0),(.bool false)]) 50)→
 aF M8 (Addr.mk Nc 0 none) [(.int .i64 x17aa),(.int .i64 x17ab),(.int .i64 x17ac),(.int .i64 x17ad),(.bool x17ae)] fun Nb=>
 ∃Y5:Int,∃Y4:Int,∃Y3:Int,∃Y1:Int,∃Y0:Bool,(Nb.cell? ((Addr.mk Nc 0 none).add 0)=some (.int .i64 Y5)∧Nb.cell? ((Addr.mk Nc 0 none).add 1)=some (.int .i64 Y4)∧Nb.cell? ((Addr.mk Nc 0 none).add 2)=some (.int .i64 Y3)∧Nb.cell? ((Addr.mk Nc 0 none).add 3)=some (.int .i64 Y1)∧Nb.cell? ((Addr.mk Nc 0 none).add 4)=some (.bool Y0))∧
 aF Nb (Addr.mk gv 0 none) [(.int .i64 Y5),(.int .i64 Y4),(.int .i64 Y3),(.int .i64 Y1),(.bool Y0)] fun Nf=>
 ∃PV:Int,∃PU:Int,∃Ql:Int,∃Qk:Int,∃Qj:Bool,(Nf.cell? ((Addr.mk gv 0 none).add 0)=some (.int .i64 PV)∧Nf.cell? ((Addr.mk gv 0 none).add 1)=some (.int .i64 PU)∧Nf.cell? ((Addr.mk gv 0 none).add 2)=some (.int .i64 Ql)∧Nf.cell? ((Addr.mk gv 0 none).add 3)=some (.int .i64 Qk)∧Nf.cell? ((Addr.mk gv 0 none).add 4)=some (.bool Qj))∧
 R (.agg #[(.int .i64 PV),(.int .i64 PU),(.int .i64 Ql),(.int .i64 Qk),(.bool Qj)]) Nf
def Lr:Ann:= .leaf
theorem DAt_eq(d:Option Addr)(ak:Int)(R:aC)(w:World):Ic d ak R w=vcF prog aL [] Tryz.f58 Lr [(.pointer d),(.int .i64 ak)] R none w:=by kernel_rfl
theorem Fp(d:Option Addr)(ak:Int) {R:aC} {w:World}(h:Ic d ak R w):Calls prog 58 #[(.pointer d),(.int .i64 ak)] w fun e w'=>∃v,e= .returned v∧R v w':=
 aj Tryz.func58 ar aa ((DAt_eq d ak R w).mp h)
def DC(d:Option Addr)(ak:Int)(ea:Int)(eb:Int)(ec:Int)(ed:Int)(ee:Bool)(R:aC)(w:World):Prop:=
 ∀(gv:Nat)(wv:World),gv=w.heap.size→wv=w.alloc (.cells #[(.int .i64 ea),(.int .i64 eb),(.int .i64 ec),(.int .i64 ed),(.bool ee)] 50)→
 ∃Sk:Int,∃Sj:Int,∃WE:Int,∃WD:Int,∃WC:Bool,(wv.cell? ((Addr.mk gv 0 none).add 0)=some (.int .i64 Sk)∧wv.cell? ((Addr.mk gv 0 none).add 1)=some (.int .i64 Sj)∧wv.cell? ((Addr.mk gv 0 none).add 2)=some (.int .i64 WE)∧wv.cell? ((Addr.mk gv 0 none).add 3)=some (.int .i64 WD)∧wv.cell? ((Addr.mk gv 0 none).add 4)=some (.bool WC))∧
 Calls prog 170 #[(.agg #[(.int .i64 Sk),(.int .i64 Sj),(.int .i64 WE),(.int .i64 WD),(.bool WC)])] wv fun e M5=>
 ∃x10aa:Int,∃x10ab:Int,∃OF:Int,e= .returned (.tuple #[(.agg #[(.int .u32 x10aa),(.int .u32 x10ab)]),(.int .i64 OF)])∧
 ∀(Nc:Nat)(M8:World),Nc=M5.heap.size→M8=M5.alloc (.cells (#[(.int .u32 0),(.int .u32 0)]) 197)→
 aF M8 (Addr.mk Nc 0 none) [(.int .u32 x10aa),(.int .u32 x10ab)] fun Nb=>
 ∃b:Nat→Nat→Prop,
 au d fun RZ=>
 b 3 ((RZ.add 2).block)∧
 ∃Rp:Option Addr,∃O8:Nat,∃Ro:Nat,Nb.drew.cell? (RZ.add 2)=some (.slice Rp O8 Ro)∧
 (0≤(i64.wrap (2*ak):Int)∧(i64.wrap (2*ak):Int)≤((O8:Nat):Int))∧
 ∀SX:Option Addr,SX=(if Ro=(Int.toNat (i64.wrap (2*ak)))then Rp else(Rp:Option Addr).map (·.add ((Int.toNat (i64.wrap (2*ak)))*1)))→∀SV:Nat,SV=O8 - (Int.toNat (i64.wrap (2*ak)))→∀SW:Nat,SW=Ro - (Int.toNat (i64.wrap (2*ak)))→
 ∀SU:Option Addr,SU=(some (if 2=0 then Addr.mk Nc 0 none else(Addr.mk Nc 0 none).add (0*1)))→∀SR:Nat,SR=2 - 0→∀SS:Nat,SS=2 - 0→
 ∃OX:Int,∃Nf,(Builtin.copy_ #[62,62] 3 #[(.slice SX SV SW),(.slice SU SR SS)]:Sem Value).run prog Nb.drew= .ok (.int .i64 OX) Nf∧
 Kept (bW b [0,1]) Nb.drew Nf∧∃b1:Nat→Nat→Prop,(∀i k,b i k→b1 i k)∧
 R (.tuple #[]) Nf
def JS:Ann:= .leaf
theorem DSet_eq(d:Option Addr)(ak:Int)(ea:Int)(eb:Int)(ec:Int)(ed:Int)(ee:Bool)(R:aC)(w:World):DC d ak ea eb ec ed ee R w=vcF prog aL [] Tryz.f115 JS [(.pointer d),(.int .i64 ak),(.agg #[(.int .i64 ea),(.int .i64 eb),(.int .i64 ec),(.int .i64 ed),(.bool ee)])] R none w:=by kernel_rfl
theorem Ca(d:Option Addr)(ak:Int)(ea:Int)(eb:Int)(ec:Int)(ed:Int)(ee:Bool) {R:aC} {w:World}(h:DC d ak ea eb ec ed ee R w):Calls prog 115 #[(.pointer d),(.int .i64 ak),(.agg #[(.int .i64 ea),(.int .i64 eb),(.int .i64 ec),(.int .i64 ed),(.bool ee)])] w fun e w'=>∃v,e= .returned v∧R v w':=
 aj Tryz.func115 ar aa ((DSet_eq d ak ea eb ec ed ee R w).mp h)
def vC(d:Option Addr)(ak:Int)(R:aC)(w:World):Prop:=
 ∀(gv:Nat)(wv:World),gv=w.heap.size→wv=w.alloc (.cells (#[(.int .i64 0),(.int .i64 0),(.int .i64 0),(.int .i64 0),(.bool false)]) 50)→
 Calls prog 57 #[(.pointer d),(.int .i64 ak)] wv fun e M5=>
 ∃x8:Bool,e= .returned (.bool x8)∧
 split (!x8) (
  aF M5 (Addr.mk gv 0 none) [(.int .i64 0),(.int .i64 0),(.int .i64 0),(.int .i64 0),(.bool false)] fun M8=>
  ∃PV:Int,∃PU:Int,∃Ql:Int,∃Qk:Int,∃Qj:Bool,(M8.cell? ((Addr.mk gv 0 none).add 0)=some (.int .i64 PV)∧M8.cell? ((Addr.mk gv 0 none).add 1)=some (.int .i64 PU)∧M8.cell? ((Addr.mk gv 0 none).add 2)=some (.int .i64 Ql)∧M8.cell? ((Addr.mk gv 0 none).add 3)=some (.int .i64 Qk)∧M8.cell? ((Addr.mk gv 0 none).add 4)=some (.bool Qj))∧
  R (.tuple #[(.agg #[(.int .i64 PV),(.int .i64 PU),(.int .i64 Ql),(.int .i64 Qk),(.bool Qj)]),(.int .i64 5)]) M8) (
  Calls prog 58 #[(.pointer d),(.int .i64 ak)] M5 fun e M8=>
  ∃OL:Int,∃OS:Int,∃Ta:Int,∃S9:Int,∃S7:Bool,e= .returned (.agg #[(.int .i64 OL),(.int .i64 OS),(.int .i64 Ta),(.int .i64 S9),(.bool S7)])∧
  aF M8 (Addr.mk gv 0 none) [(.int .i64 OL),(.int .i64 OS),(.int .i64 Ta),(.int .i64 S9),(.bool S7)] fun Nb=>
  ∃PV:Int,∃PU:Int,∃Ql:Int,∃Qk:Int,∃Qj:Bool,(Nb.cell? ((Addr.mk gv 0 none).add 0)=some (.int .i64 PV)∧Nb.cell? ((Addr.mk gv 0 none).add 1)=some (.int .i64 PU)∧Nb.cell? ((Addr.mk gv 0 none).add 2)=some (.int .i64 Ql)∧Nb.cell? ((Addr.mk gv 0 none).add 3)=some (.int .i64 Qk)∧Nb.cell? ((Addr.mk gv 0 none).add 4)=some (.bool Qj))∧
  R (.tuple #[(.agg #[(.int .i64 PV),(.int .i64 PU),(.int .i64 Ql),(.int .i64 Qk),(.bool Qj)]),(.int .i64 0)]) Nb)
def Fk:Ann:= .leaf
theorem DEntry_eq(d:Option Addr)(ak:Int)(R:aC)(w:World):vC d ak R w=vcF prog aL [] Tryz.f18 Fk [(.pointer d),(.int .i64 ak)] R none w:=by kernel_rfl
theorem xp(d:Option Addr)(ak:Int) {R:aC} {w:World}(h:vC d ak R w):Calls prog 18 #[(.pointer d),(.int .i64 ak)] w fun e w'=>∃v,e= .returned v∧R v w':=
 aj Tryz.func18 ar aa ((DEntry_eq d ak R w).mp h)
def qJ(d:Option Addr)(ak:Int)(R:aC)(w:World):Prop:=
 ∃J:Bool→World→Prop,(
  Calls prog 57 #[(.pointer d),(.int .i64 ak)] w fun e wv=>
  ∃x7:Bool,e= .returned (.bool x7)∧
  split x7 (
   Calls prog 58 #[(.pointer d),(.int .i64 ak)] wv fun e M5=>
   ∃Tc:Int,∃T8:Int,∃abz:Int,∃aby:Int,∃abx:Bool,e= .returned (.agg #[(.int .i64 Tc),(.int .i64 T8),(.int .i64 abz),(.int .i64 aby),(.bool abx)])∧
   J ((Tc:Int)==1) M5) (
   J false wv))∧∀(QQ:Nat→Value)(x4:Bool),∀wv,J x4 wv→
 R (.bool x4) wv
def Ap:Ann:=(.node none .leaf (.node none (.node (some ⟨[(4,.one (.bool))],[4,5,6,7,8,9,10,11,12,13,14]⟩) .leaf .leaf) .leaf))
theorem DIsSpace_eq(d:Option Addr)(ak:Int)(R:aC)(w:World):qJ d ak R w=vcF prog aL [] Tryz.f116 Ap [(.pointer d),(.int .i64 ak)] R none w:=by kernel_rfl
theorem tS(d:Option Addr)(ak:Int) {R:aC} {w:World}(h:qJ d ak R w):Calls prog 116 #[(.pointer d),(.int .i64 ak)] w fun e w'=>∃v,e= .returned v∧R v w':=
 aj Tryz.func116 ar aa ((DIsSpace_eq d ak R w).mp h)
def Aj(d:Option Addr)(space:Int)(more:Int)(R:aC)(w:World):Prop:=
 Calls prog 58 #[(.pointer d),(.int .i64 space)] w fun e wv=>
 ∃Sk:Int,∃Sj:Int,∃WE:Int,∃WD:Int,∃WC:Bool,e= .returned (.agg #[(.int .i64 Sk),(.int .i64 Sj),(.int .i64 WE),(.int .i64 WD),(.bool WC)])∧
 ∀(gv:Nat)(M5:World),gv=wv.heap.size→M5=wv.alloc (.cells (#[(.int .i64 0),(.int .i64 0),(.int .i64 0),(.int .i64 0),(.bool false)]) 50)→
 aF M5 (Addr.mk gv 0 none) [(.int .i64 Sk),(.int .i64 Sj),(.int .i64 WE),(.int .i64 WD),(.bool WC)] fun M8=>
 ∃Pq:Int,M8.cell? ((Addr.mk gv 0 none).add 2)=some (.int .i64 Pq)∧
 aF M8 ((Addr.mk gv 0 none).add 2) [(.int .i64 (i64.wrap (Pq+more)))] fun Nb=>
 ∃Y9:Int,∃T5:Int,∃Y8:Int,∃Y7:Int,∃Y6:Bool,(Nb.cell? ((Addr.mk gv 0 none).add 0)=some (.int .i64 Y9)∧Nb.cell? ((Addr.mk gv 0 none).add 1)=some (.int .i64 T5)∧Nb.cell? ((Addr.mk gv 0 none).add 2)=some (.int .i64 Y8)∧Nb.cell? ((Addr.mk gv 0 none).add 3)=some (.int .i64 Y7)∧Nb.cell? ((Addr.mk gv 0 none).add 4)=some (.bool Y6))∧
 Calls prog 115 #[(.pointer d),(.int .i64 space),(.agg #[(.int .i64 Y9),(.int .i64 T5),(.int .i64 Y8),(.int .i64 Y7),(.bool Y6)])] Nb fun e Nf=>
 e= .returned (.tuple #[])∧
 R (.tuple #[]) Nf
def H8:Ann:= .leaf
theorem DRefs_eq(d:Option Addr)(space:Int)(more:Int)(R:aC)(w:World):Aj d space more R w=vcF prog aL [] Tryz.f117 H8 [(.pointer d),(.int .i64 space),(.int .i64 more)] R none w:=by kernel_rfl
theorem Ak(d:Option Addr)(space:Int)(more:Int) {R:aC} {w:World}(h:Aj d space more R w):Calls prog 117 #[(.pointer d),(.int .i64 space),(.int .i64 more)] w fun e w'=>∃v,e= .returned v∧R v w':=
 aj Tryz.func117 ar aa ((DRefs_eq d space more R w).mp h)
def Ag(d:Option Addr)(ak:Int)(t:Int)(space:Int)(R:aC)(w:World):Prop:=
 Calls prog 57 #[(.pointer d),(.int .i64 ak)] w fun e wv=>
 ∃O5:Bool,e= .returned (.bool O5)∧
 ∀x9:Bool,x9=(!O5)→
 split x9 (
  R (.int .i64 5) wv) (
  ∃J:Bool→World→Prop,(
   split ((t:Int) !=2) (
    Calls prog 128 #[(.int .i64 t)] wv fun e M5=>
    ∃Om:Bool,e= .returned (.bool Om)∧
    ∀Po:Bool,Po=(!Om)→
    J Po M5) (
    ∀Po:Bool,Po=false→
    J Po wv))∧∀(QQ:Nat→Value)(Po:Bool),∀M5,J Po M5→
  split Po (
   R (.int .i64 124) M5) (
   ∃J1:Bool→World→Prop,(
    Calls prog 116 #[(.pointer d),(.int .i64 space)] M5 fun e M8=>
    ∃QU:Bool,e= .returned (.bool QU)∧
    split (!QU) (
     ∀O7:Bool,O7=true→
     J1 O7 M8) (
     Calls prog 58 #[(.pointer d),(.int .i64 space)] M8 fun e Nb=>
     ∃abu:Int,∃abt:Int,∃YM:Int,∃abr:Int,∃abq:Bool,e= .returned (.agg #[(.int .i64 abu),(.int .i64 abt),(.int .i64 YM),(.int .i64 abr),(.bool abq)])∧
     ∀O7:Bool,O7=(decide ((YM:Int)≥63))→
     J1 O7 Nb))∧∀(NR:Nat→Value)(O7:Bool),∀M8,J1 O7 M8→
   split O7 (
    R (.int .i64 122) M8) (
    Calls prog 58 #[(.pointer d),(.int .i64 ak)] M8 fun e Nb=>
    ∃YB:Int,∃abj:Int,∃abi:Int,∃abh:Int,∃abg:Bool,e= .returned (.agg #[(.int .i64 YB),(.int .i64 abj),(.int .i64 abi),(.int .i64 abh),(.bool abg)])∧
    ∀x34:Bool,x34=((YB:Int) !=0)→
    split x34 (
     R (.int .i64 120) Nb) (
     Calls prog 115 #[(.pointer d),(.int .i64 ak),(.agg #[(.int .i64 t),(.int .i64 space),(.int .i64 0),(.int .i64 0),(.bool false)])] Nb fun e Nf=>
     e= .returned (.tuple #[])∧
     Calls prog 117 #[(.pointer d),(.int .i64 space),(.int .i64 1)] Nf fun e Np=>
     e= .returned (.tuple #[])∧
     R (.int .i64 0) Np))))
def H7:Ann:=(.node none .leaf (.node none (.node none (.node none .leaf (.node none .leaf (.node none (.node (some ⟨[(14,.one (.bool))],[14,15,16,17,18,19,20,21]⟩) .leaf .leaf) (.node none .leaf (.node none (.node (some ⟨[(22,.one (.bool))],[22,23,24,25,26,27,28,29,30,31,32,33]⟩) .leaf .leaf) .leaf))))) .leaf) .leaf))
theorem DTake_eq(d:Option Addr)(ak:Int)(t:Int)(space:Int)(R:aC)(w:World):Ag d ak t space R w=vcF prog aL [9,14,22,34] Tryz.f64 H7 [(.pointer d),(.int .i64 ak),(.int .i64 t),(.int .i64 space)] R none w:=by kernel_rfl
theorem Ah(d:Option Addr)(ak:Int)(t:Int)(space:Int) {R:aC} {w:World}(h:Ag d ak t space R w):Calls prog 64 #[(.pointer d),(.int .i64 ak),(.int .i64 t),(.int .i64 space)] w fun e w'=>∃v,e= .returned v∧R v w':=
 aj Tryz.func64 ar aa ((DTake_eq d ak t space R w).mp h)
def oY(d:Option Addr)(space:Int)(s:Int)(R:aC)(w:World):Prop:=
 Calls prog 57 #[(.pointer d),(.int .i64 space)] w fun e wv=>
 ∃NW:Bool,e= .returned (.bool NW)∧
 split (!NW) (
  R (.int .i64 5) wv) (
  Calls prog 58 #[(.pointer d),(.int .i64 space)] wv fun e M5=>
  ∃QV:Int,∃Qx:Int,∃S6:Int,∃S5:Int,∃S4:Bool,e= .returned (.agg #[(.int .i64 QV),(.int .i64 Qx),(.int .i64 S6),(.int .i64 S5),(.bool S4)])∧
  ∀(gv:Nat)(M8:World),gv=M5.heap.size→M8=M5.alloc (.cells (#[(.int .i64 0),(.int .i64 0),(.int .i64 0),(.int .i64 0),(.bool false)]) 50)→
  aF M8 (Addr.mk gv 0 none) [(.int .i64 QV),(.int .i64 Qx),(.int .i64 S6),(.int .i64 S5),(.bool S4)] fun Nb=>
  ∃OY:Int,Nb.cell? ((Addr.mk gv 0 none).add 0)=some (.int .i64 OY)∧
  ∀Qi:Bool,Qi=((OY:Int) !=1)→
  split Qi (
   R (.int .i64 124) Nb) (
   ∃J:Bool→World→Prop,(
    split ((s:Int) !=3) (
     ∃Re:Int,Nb.cell? ((Addr.mk gv 0 none).add 3)=some (.int .i64 Re)∧
     split ((Re:Int) !=1) (
      ∀Om:Bool,Om=true→
      J Om Nb) (
      ∀Om:Bool,Om=((s:Int) !=2)→
      J Om Nb)) (
     ∀Om:Bool,Om=false→
     J Om Nb))∧∀(NR:Nat→Value)(Om:Bool),∀Nf,J Om Nf→
   split Om (
    R (.int .i64 3) Nf) (
    aF Nf ((Addr.mk gv 0 none).add 3) [(.int .i64 s)] fun Np=>
    ∃YH:Int,∃YG:Int,∃YF:Int,∃YE:Int,∃YD:Bool,(Np.cell? ((Addr.mk gv 0 none).add 0)=some (.int .i64 YH)∧Np.cell? ((Addr.mk gv 0 none).add 1)=some (.int .i64 YG)∧Np.cell? ((Addr.mk gv 0 none).add 2)=some (.int .i64 YF)∧Np.cell? ((Addr.mk gv 0 none).add 3)=some (.int .i64 YE)∧Np.cell? ((Addr.mk gv 0 none).add 4)=some (.bool YD))∧
    Calls prog 115 #[(.pointer d),(.int .i64 space),(.agg #[(.int .i64 YH),(.int .i64 YG),(.int .i64 YF),(.int .i64 YE),(.bool YD)])] Np fun e NK=>
    e= .returned (.tuple #[])∧
    R (.int .i64 0) NK)))
def xm:Ann:=(.node none .leaf (.node none .leaf (.node none .leaf (.node none (.node none (.node none .leaf (.node none .leaf (.node none (.node (some ⟨[(19,.one (.bool))],[19,20,21,22,23,24,25,26,27,28,29,30]⟩) .leaf .leaf) .leaf))) .leaf) .leaf))))
theorem DSetState_eq(d:Option Addr)(space:Int)(s:Int)(R:aC)(w:World):oY d space s R w=vcF prog aL [15,19] Tryz.f43 xm [(.pointer d),(.int .i64 space),(.int .i64 s)] R none w:=by kernel_rfl
theorem qU(d:Option Addr)(space:Int)(s:Int) {R:aC} {w:World}(h:oY d space s R w):Calls prog 43 #[(.pointer d),(.int .i64 space),(.int .i64 s)] w fun e w'=>∃v,e= .returned v∧R v w':=
 aj Tryz.func43 ar aa ((DSetState_eq d space s R w).mp h)
def Aq(d:Option Addr)(ak:Int)(R:aC)(w:World):Prop:=
 Calls prog 57 #[(.pointer d),(.int .i64 ak)] w fun e wv=>
 ∃x8:Bool,e= .returned (.bool x8)∧
 split (!x8) (
  R (.int .i64 5) wv) (
  Calls prog 58 #[(.pointer d),(.int .i64 ak)] wv fun e M5=>
  ∃QW:Int,∃Qy:Int,∃Zx:Int,∃Zw:Int,∃Zv:Bool,e= .returned (.agg #[(.int .i64 QW),(.int .i64 Qy),(.int .i64 Zx),(.int .i64 Zw),(.bool Zv)])∧
  ∀(gv:Nat)(M8:World),gv=M5.heap.size→M8=M5.alloc (.cells (#[(.int .i64 0),(.int .i64 0),(.int .i64 0),(.int .i64 0),(.bool false)]) 50)→
  aF M8 (Addr.mk gv 0 none) [(.int .i64 QW),(.int .i64 Qy),(.int .i64 Zx),(.int .i64 Zw),(.bool Zv)] fun Nb=>
  ∃Qi:Int,Nb.cell? ((Addr.mk gv 0 none).add 0)=some (.int .i64 Qi)∧
  ∀PD:Bool,PD=((Qi:Int)==0)→
  split PD (
   R (.int .i64 121) Nb) (
   ∃J:Bool→World→Prop,(
    ∃Om:Int,Nb.cell? ((Addr.mk gv 0 none).add 0)=some (.int .i64 Om)∧
    split ((Om:Int)==1) (
     ∃RH:Int,Nb.cell? ((Addr.mk gv 0 none).add 2)=some (.int .i64 RH)∧
     ∀OY:Bool,OY=(decide ((RH:Int)>0))→
     J OY Nb) (
     ∀OY:Bool,OY=false→
     J OY Nb))∧∀(NR:Nat→Value)(OY:Bool),∀Nf,J OY Nf→
   split OY (
    R (.int .i64 123) Nf) (
    Calls prog 115 #[(.pointer d),(.int .i64 ak),(.agg #[(.int .i64 0),(.int .i64 0),(.int .i64 0),(.int .i64 0),(.bool false)])] Nf fun e Np=>
    e= .returned (.tuple #[])∧
    ∃J1:Bool→World→Prop,(
     ∃SK:Int,Np.cell? ((Addr.mk gv 0 none).add 0)=some (.int .i64 SK)∧
     split ((SK:Int) !=1) (
      ∃UA:Int,Np.cell? ((Addr.mk gv 0 none).add 1)=some (.int .i64 UA)∧
      Calls prog 116 #[(.pointer d),(.int .i64 UA)] Np fun e NK=>
      ∃YC:Bool,e= .returned (.bool YC)∧
      split YC (
       ∃Uy:Int,NK.cell? ((Addr.mk gv 0 none).add 1)=some (.int .i64 Uy)∧
       Calls prog 58 #[(.pointer d),(.int .i64 Uy)] NK fun e NG=>
       ∃abf:Int,∃abe:Int,∃Ye:Int,∃abd:Int,∃abc:Bool,e= .returned (.agg #[(.int .i64 abf),(.int .i64 abe),(.int .i64 Ye),(.int .i64 abd),(.bool abc)])∧
       J1 (decide ((Ye:Int)>0)) NG) (
       J1 false NK)) (
      J1 false Np))∧∀(Oq:Nat→Value)(X5:Bool),∀NK,J1 X5 NK→
    split X5 (
     ∃x49:Int,NK.cell? ((Addr.mk gv 0 none).add 1)=some (.int .i64 x49)∧
     Calls prog 117 #[(.pointer d),(.int .i64 x49),(.int .i64 (-1))] NK fun e NG=>
     e= .returned (.tuple #[])∧
     ∃b:Nat→Nat→Prop,
     au d fun UM=>
     b 3 ((UM.add 0).block)∧
     ∃Sq:Option Addr,NG.drew.cell? (UM.add 0)=some (.pointer Sq)∧
     Calls prog 78 #[(.int .i64 ak)] NG.drew fun e Nk=>
     ∃PI:Bool,∃PH:Int,e= .returned (.agg #[(.bool PI),(.int .i64 PH)])∧
     Kept (bW b [0,1,2,3]) NG.drew Nk∧∃b1:Nat→Nat→Prop,(∀i k,b i k→b1 i k)∧
     Calls prog 77 #[(.pointer Sq),(.agg #[(.bool PI),(.int .i64 PH)])] Nk fun e Ol=>
     ∃WX:Int,e= .returned (.int .i64 WX)∧
     Kept (bW b1 [0]) Nk Ol∧∃b2:Nat→Nat→Prop,(∀i k,b1 i k→b2 i k)∧
     R (.int .i64 WX) Ol) (
     ∃b:Nat→Nat→Prop,
     au d fun UM=>
     b 3 ((UM.add 0).block)∧
     ∃Sq:Option Addr,NK.drew.cell? (UM.add 0)=some (.pointer Sq)∧
     Calls prog 78 #[(.int .i64 ak)] NK.drew fun e NG=>
     ∃PI:Bool,∃PH:Int,e= .returned (.agg #[(.bool PI),(.int .i64 PH)])∧
     Kept (bW b [0,1,2,3]) NK.drew NG∧∃b1:Nat→Nat→Prop,(∀i k,b i k→b1 i k)∧
     Calls prog 77 #[(.pointer Sq),(.agg #[(.bool PI),(.int .i64 PH)])] NG fun e Nk=>
     ∃WX:Int,e= .returned (.int .i64 WX)∧
     Kept (bW b1 [0]) NG Nk∧∃b2:Nat→Nat→Prop,(∀i k,b1 i k→b2 i k)∧
     R (.int .i64 WX) Nk))))
def Ib:Ann:=(.node none .leaf (.node none .leaf (.node none .leaf (.node none (.node none (.node none .leaf (.node none .leaf (.node none (.node (some ⟨[(17,.one (.bool))],[17,18,19,20,21,22,23,24,25]⟩) .leaf .leaf) .leaf))) .leaf) (.node none .leaf (.node none (.node none (.node (some ⟨[(46,.one (.bool))],[30,31,32,33,34,35,36,37,38,39,40,41,42,43,44,45,46]⟩) .leaf .leaf) .leaf) .leaf))))))
theorem DGive_eq(d:Option Addr)(ak:Int)(R:aC)(w:World):Aq d ak R w=vcF prog aL [13,17] Tryz.f45 Ib [(.pointer d),(.int .i64 ak)] R none w:=by kernel_rfl
theorem Ar(d:Option Addr)(ak:Int) {R:aC} {w:World}(h:Aq d ak R w):Calls prog 45 #[(.pointer d),(.int .i64 ak)] w fun e w'=>∃v,e= .returned v∧R v w':=
 aj Tryz.func45 ar aa ((DGive_eq d ak R w).mp h)
def mN(d:Option Addr)(space:Int)(first:Int)(R:aC)(w:World):Prop:=
 ∃J:Bool→World→Prop,(
  Calls prog 57 #[(.pointer d),(.int .i64 space)] w fun e wv=>
  ∃NW:Bool,e= .returned (.bool NW)∧
  split (!NW) (
   ∀x7:Bool,x7=true→
   J x7 wv) (
   Calls prog 57 #[(.pointer d),(.int .i64 first)] wv fun e M5=>
   ∃Qi:Bool,e= .returned (.bool Qi)∧
   ∀x7:Bool,x7=(!Qi)→
   J x7 M5))∧∀(QQ:Nat→Value)(x7:Bool),∀wv,J x7 wv→
 split x7 (
  R (.int .i64 5) wv) (
  ∀Qb:Bool,Qb=((space:Int)==first)→
  split Qb (
   R (.int .i64 1) wv) (
   ∃J1:Bool→World→Prop,(
    Calls prog 58 #[(.pointer d),(.int .i64 space)] wv fun e M5=>
    ∃SQ:Int,∃TX:Int,∃TW:Int,∃TV:Int,∃TU:Bool,e= .returned (.agg #[(.int .i64 SQ),(.int .i64 TX),(.int .i64 TW),(.int .i64 TV),(.bool TU)])∧
    split ((SQ:Int) !=0) (
     ∀O7:Bool,O7=true→
     J1 O7 M5) (
     Calls prog 58 #[(.pointer d),(.int .i64 first)] M5 fun e M8=>
     ∃YL:Int,∃abp:Int,∃abo:Int,∃abn:Int,∃abm:Bool,e= .returned (.agg #[(.int .i64 YL),(.int .i64 abp),(.int .i64 abo),(.int .i64 abn),(.bool abm)])∧
     ∀O7:Bool,O7=((YL:Int) !=0)→
     J1 O7 M8))∧∀(NR:Nat→Value)(O7:Bool),∀M5,J1 O7 M5→
   split O7 (
    R (.int .i64 120) M5) (
    au d fun p37=>
    ∃Uz:Int,M5.cell? (p37.add 1)=some (.int .i64 Uz)∧
    ∀x35:Bool,x35=(decide ((Uz:Int)≥64))→
    split x35 (
     R (.int .i64 240) M5) (
     Calls prog 115 #[(.pointer d),(.int .i64 space),(.agg #[(.int .i64 1),(.int .i64 space),(.int .i64 1),(.int .i64 1),(.bool false)])] M5 fun e M8=>
     e= .returned (.tuple #[])∧
     Calls prog 115 #[(.pointer d),(.int .i64 first),(.agg #[(.int .i64 3),(.int .i64 space),(.int .i64 0),(.int .i64 0),(.bool false)])] M8 fun e Nb=>
     e= .returned (.tuple #[])∧
     ∃b:Nat→Nat→Prop,
     au d fun UM=>
     b 3 ((UM.add 0).block)∧
     ∃Sq:Option Addr,Nb.drew.cell? (UM.add 0)=some (.pointer Sq)∧
     Calls prog 78 #[(.int .i64 space)] Nb.drew fun e Nf=>
     ∃PI:Bool,∃PH:Int,e= .returned (.agg #[(.bool PI),(.int .i64 PH)])∧
     Kept (bW b [0,1,2,3,6,7]) Nb.drew Nf∧∃b1:Nat→Nat→Prop,(∀i k,b i k→b1 i k)∧
     Calls prog 42 #[(.pointer Sq),(.agg #[(.bool PI),(.int .i64 PH)]),(.int .i64 0),(.int .u32 (u32.wrap first))] Nf fun e Np=>
     ∃x59:Int,e= .returned (.int .i64 x59)∧
     Kept (bW b1 [0]) Nf Np∧∃b2:Nat→Nat→Prop,(∀i k,b1 i k→b2 i k)∧
     ∃b3:Nat→Nat→Prop,
     au d fun p61=>
     b3 3 ((p61.add 0).block)∧
     ∃x63:Option Addr,Np.drew.cell? (p61.add 0)=some (.pointer x63)∧
     au d fun p67=>
     b3 9 ((p67.add 1).block)∧
     ∃WN:Int,Np.drew.cell? (p67.add 1)=some (.int .i64 WN)∧
     Calls prog 78 #[(.int .i64 space)] Np.drew fun e NK=>
     ∃WT:Bool,∃WS:Int,e= .returned (.agg #[(.bool WT),(.int .i64 WS)])∧
     Kept (bW b3 [0,1,2,3,6,7,8,9,10]) Np.drew NK∧∃b4:Nat→Nat→Prop,(∀i k,b3 i k→b4 i k)∧
     Calls prog 42 #[(.pointer x63),(.agg #[(.bool WT),(.int .i64 WS)]),(.int .i64 1),(.int .u32 (u32.wrap WN))] NK fun e NG=>
     ∃Vh:Int,e= .returned (.int .i64 Vh)∧
     Kept (bW b4 [0,6,7]) NK NG∧∃b5:Nat→Nat→Prop,(∀i k,b4 i k→b5 i k)∧
     ∃b6:Nat→Nat→Prop,
     au d fun p73=>
     b6 3 ((p73.add 0).block)∧
     ∃x75:Option Addr,NG.drew.cell? (p73.add 0)=some (.pointer x75)∧
     Calls prog 78 #[(.int .i64 space)] NG.drew fun e Nk=>
     ∃WL:Bool,∃WK:Int,e= .returned (.agg #[(.bool WL),(.int .i64 WK)])∧
     Kept (bW b6 [0,1,2,3]) NG.drew Nk∧∃b7:Nat→Nat→Prop,(∀i k,b6 i k→b7 i k)∧
     Calls prog 42 #[(.pointer x75),(.agg #[(.bool WL),(.int .i64 WK)]),(.int .i64 2),(.int .u32 0)] Nk fun e Ol=>
     ∃x78:Int,e= .returned (.int .i64 x78)∧
     Kept (bW b7 [0]) Nk Ol∧∃b8:Nat→Nat→Prop,(∀i k,b7 i k→b8 i k)∧
     au d fun p80=>
     ∃WJ:Int,Ol.cell? (p80.add 1)=some (.int .i64 WJ)∧
     au d fun p84=>
     aF Ol (p84.add 1) [(.int .i64 (i64.wrap (WJ+1)))] fun QC=>
     R (.int .i64 0) QC))))
def uq:Ann:=(.node none .leaf (.node none (.node none (.node none (.node (some ⟨[(7,.one (.bool))],[7,8,9,10,11,12,13,14,15,16,17]⟩) .leaf .leaf) (.node none .leaf (.node none .leaf (.node none .leaf (.node none (.node (some ⟨[(22,.one (.bool))],[22,23,24,25,26,27,28,29,30,31,32,33,34]⟩) .leaf .leaf) .leaf))))) .leaf) .leaf))
theorem DTakeSpace_eq(d:Option Addr)(space:Int)(first:Int)(R:aC)(w:World):mN d space first R w=vcF prog aL [7,18,22,35] Tryz.f60 uq [(.pointer d),(.int .i64 space),(.int .i64 first)] R none w:=by kernel_rfl
theorem qf(d:Option Addr)(space:Int)(first:Int) {R:aC} {w:World}(h:mN d space first R w):Calls prog 60 #[(.pointer d),(.int .i64 space),(.int .i64 first)] w fun e w'=>∃v,e= .returned v∧R v w':=
 aj Tryz.func60 ar aa ((DTakeSpace_eq d space first R w).mp h)
end
section
set_option maxRecDepth 100000
end
end Go.Proofs.YtinhphjfnedhgaaGreatDoor
namespace Go.Proofs.YtinhphjfnedhgaaGreatDoor
open Go.Proofs.Tryz (prog)
open Go Go.RowKit V
open Go.IntKind (i64 u32 u64)
section
namespace Mem
def idx(m:Mem)(s:Bool)(p:Nat):Nat:=match s with
 | true=>p
 | false=>m.S+p
def word(m:Mem)(i o:Nat):Int:=if i<m.S then m.pg true i o else m.pg false (i - m.S) o
theorem GO(m:Mem)(p:Nat):m.idx false p=m.S+p:=rfl
theorem GN(m:Mem)(p:Nat):m.idx true p=p:=rfl
theorem Mm(m:Mem):m.cnt false=m.I:=rfl
theorem Kf(m:Mem):m.cnt true=m.S:=rfl
theorem Cu(m:Mem) {i:Nat}(h:i<m.S)(o:Nat):m.word i o=m.pg true i o:=if_pos h
theorem Cv(m:Mem) {i:Nat}(h:¬i<m.S)(o:Nat):m.word i o=m.pg false (i - m.S) o:=if_neg h
theorem KV(m:Mem) {s:Bool} {p:Nat}(hp:p<m.cnt s):m.idx s p<m.S+m.I:=by
 cases s
 ·rw [Mm]at hp;rw [GO];omega
 ·rw [Kf]at hp;rw [GN];omega
theorem uA(m:Mem) {s:Bool} {p:Nat}(hp:p<m.cnt s)(f:Nat→Int) {i:Nat}(o:Nat):(m.fill s p f).word i o=if i=m.idx s p then f o else m.word i o:=by
 by_cases h:i<m.S
 ·rw [Cu _ (show i<(m.fill s p f).S from h),Cu m h]
  cases s
  ·rw [GO,if_neg (by omega)];simp [fill]
  ·rw [GN];simp [fill]
 ·rw [Cv _ (show ¬i<(m.fill s p f).S from h),Cv m h]
  show(m.fill s p f).pg false (i - m.S) o=_
  cases s
  ·rw [GO]
   by_cases h2:i=m.S+p
   ·rw [if_pos h2];simp [fill,h2]
   ·rw [if_neg h2];simp only [fill];rw [if_neg (by rintro⟨_,h3⟩;omega)]
  ·rw [GN,if_neg (by rw [Kf]at hp;omega)];simp [fill]
end Mem
structure kE where
 g:Nat
 a:Nat
 c:Nat
 n:Nat
 pg:Nat→Option (Nat×Nat)
def LM:Option (Nat×Nat)→Value
 | none=>.slice none 0 0
 | some (b,c)=>.slice (some (Addr.mk b 0 none)) 1024 c
def kE.X(L:kE):Nat→Prop:=fun k=>k=L.g∨k=L.a∨∃i c,i<L.n∧L.pg i=some (k,c)
def PgB(w:World)(b:Nat)(f:Nat→Int):Prop:=∃T cs,Blk w b cs T∧1024≤cs.size∧∀o,o<1024→cs[o]? =some (.int .u32 (f o))
structure fW(w:World)(g:Nat)(L:kE)(m:Mem):Prop where
 gq:L.g=g
 n:L.n=m.S+m.I
 hd:∃T:TypeId×Int,Blk w L.g #[.slice (some (Addr.mk L.a 0 none)) L.n L.c,.int .i64 m.S,.int .i64 T.2] T.1
 row:∃T cs,Blk w L.a cs T∧L.n≤cs.size∧∀i,i<L.n→cs[i]? =some (LM (L.pg i))
 nil:∀i,i<L.n→L.pg i=none→∀o,m.word i o=0
 pgs:∀i b c,i<L.n→L.pg i=some (b,c)→PgB w b (m.word i)
 inj:∀i j b c c',i<L.n→j<L.n→L.pg i=some (b,c)→L.pg j=some (b,c')→i=j
 dis:L.a≠L.g∧∀i b c,i<L.n→L.pg i=some (b,c)→b≠L.g∧b≠L.a
 u32:∀s i o,0≤m.pg s i o∧m.pg s i o<4294967296
 eU:m.S≤64∧m.I≤64
section
variable {w w' w2:World} {g:Nat} {L:kE} {m:Mem} {Y:Nat→Prop}
theorem PgB.lt {b:Nat} {f:Nat→Int}(h:PgB w b f):b<w.heap.size:=by obtain⟨T,cs,hb,_⟩:=h;exact hb.lt
theorem PgB.ch {b:Nat} {f:Nat→Int}(h:PgB w b f)(hk:Ch Y w w')(hb:¬Y b):PgB w' b f:=by obtain⟨T,cs,hc,h2⟩:=h;exact⟨T,cs,hk.blk hc hb,h2⟩
theorem fW.lt(h:fW w g L m):∀k,L.X k→k<w.heap.size:=by
 rintro k (rfl | rfl | ⟨i,c,hi,hp⟩)
 ·obtain⟨T,hd⟩:=h.hd;exact hd.lt
 ·obtain⟨T,cs,hr,_⟩:=h.row;exact hr.lt
 ·exact(h.pgs i k c hi hp).lt
theorem fW.ch(h:fW w g L m)(hk:Ch Y w w')(hb:∀k,L.X k→¬Y k):fW w' g L m:=by
 refine⟨h.gq,h.n,?_,?_,h.nil,fun i b c hi hp=>(h.pgs i b c hi hp).ch hk (hb _ (.inr (.inr ⟨i,c,hi,hp⟩))),h.inj,h.dis,h.u32,h.eU⟩
 ·obtain⟨T,hd⟩:=h.hd;exact⟨T,hk.blk hd (hb _ (.inl rfl))⟩
 ·obtain⟨T,cs,hr,h2⟩:=h.row;exact⟨T,cs,hk.blk hr (hb _ (.inr (.inl rfl))),h2⟩
theorem fW.pu(h:fW w g L m)(hk:Pu w w'):fW w' g L m:=h.ch hk (by simp)
theorem fW.tick(h:fW w g L m) {x:Int} {T:TypeId}(hs:bN w L.g #[.slice (some (Addr.mk L.a 0 none)) L.n L.c,.int .i64 m.S,.int .i64 x] T w2):fW w2 g L m:=by
 refine⟨h.gq,h.n,⟨(T,x),hs.blk⟩,?_,h.nil,fun i b c hi hp=>(h.pgs i b c hi hp).ch hs.ch (h.dis.2 i b c hi hp).1,h.inj,h.dis,h.u32,h.eU⟩
 obtain⟨T',cs,hr,h2⟩:=h.row
 exact⟨T',cs,hs.old hr h.dis.1,h2⟩
def kE.put(L:kE)(i:Nat)(v:Option (Nat×Nat)):kE:= {L with pg:=fun j=>if j=i then v else L.pg j}
theorem fW.lay(h:fW w g L m) {s:Bool} {p:Nat}(hp:p<m.cnt s) {v:Option (Nat×Nat)} {f:Nat→Int}(hf:∀o,0≤f o∧f o<4294967296)
 (hv:v=none→∀o,f o=0)(hb:∀b c,v=some (b,c)→PgB w b f∧¬L.X b) {cs:Array Value} {T:TypeId}(hr:Blk w L.a cs T)(hs:bN w L.a (setAt cs (m.idx s p) [LM v]) T w2):
 fW w2 g (L.put (m.idx s p) v) (m.fill s p f):=by
 have hi:=m.KV hp
 obtain⟨T',cs',Nn,NA,h2⟩:=h.row
 obtain⟨rfl,rfl⟩:=hr.inj Nn
 have hn:=h.n
 refine⟨h.gq,h.n,?_,⟨T,_,hs.blk,by rw [fY];exact NA,fun i NP=>?_⟩,fun i NP hq o=>?_,fun i b c NP hq=>?_,fun i j b c c' NP Pm h3 h4=>?_,⟨h.dis.1,fun i b c NP hq=>?_⟩,fun s' i o=>?_,h.eU⟩
 ·obtain⟨T'',hd⟩:=h.hd;exact⟨T'',hs.old hd h.dis.1.symm⟩
 ·rw [fx _ _ _ _ (by simp;omega)]
  simp only [kE.put,List.length_cons,List.length_nil]
  by_cases e:i=m.idx s p
  ·subst e;simp
  ·rw [if_neg (by omega),if_neg e];exact h2 i NP
 ·rw [m.uA hp]
  simp only [kE.put]at hq
  split at hq
  ·rename_i e;rw [if_pos e];exact hv hq o
  ·rename_i e;rw [if_neg e];exact h.nil i NP hq o
 ·have e0:(m.fill s p f).word i=if i=m.idx s p then f else m.word i:=by
   funext o;rw [m.uA hp];split<;>rfl
  rw [e0]
  simp only [kE.put]at hq
  split at hq
  ·rename_i e;rw [if_pos e];exact(hb b c hq).1.ch hs.ch fun e2=>(hb b c hq).2 (.inr (.inl e2))
  ·rename_i e;rw [if_neg e];exact(h.pgs i b c NP hq).ch hs.ch (h.dis.2 i b c NP hq).2
 ·simp only [kE.put]at h3 h4
  split at h3<;>split at h4
  ·omega
  ·exact absurd (.inr (.inr ⟨j,c',Pm,h4⟩)) (hb b c h3).2
  ·exact absurd (.inr (.inr ⟨i,c,NP,h3⟩)) (hb b c' h4).2
  ·exact h.inj i j b c c' NP Pm h3 h4
 ·simp only [kE.put]at hq
  split at hq
  ·have:=(hb b c hq).2
   exact⟨fun e=>this (.inl e),fun e=>this (.inr (.inl e))⟩
  ·exact h.dis.2 i b c NP hq
 ·simp only [Mem.fill]
  split
  ·exact hf o
  ·exact h.u32 s' i o
end
end
section
set_option maxRecDepth 10000
set_option maxHeartbeats 1000000
end
section
section
variable {w:World} {g:Nat} {L:kE} {m:Mem}
def MA(L L1:kE)(w:World):Prop:=∀k,L1.X k→L.X k∨w.heap.size≤k
theorem MA.refl(L:kE)(w:World):MA L L w:=fun _ h=>.inl h
end
end
end Go.Proofs.YtinhphjfnedhgaaGreatDoor
namespace Go.Proofs.YtinhphjfnedhgaaGreatDoor
open Go.Proofs.Tryz (prog)
open Go Go.RowKit V
open Go.IntKind (i64 u32 u64)
open Enc (enc)
section
instance:Enc Ent:=⟨fun e=>[.int .i64 e.typ,.int .i64 e.owner,.int .i64 e.refs,.int .i64 e.state,.bool e.bB],5,fun _=>rfl,by simp [Value.oneCell'],by omega⟩
structure tC where
 g:Nat
 e:Nat
 c:Nat
 M:kE
def tC.X(L:tC):Nat→Prop:=fun k=>k=L.g∨k=L.e∨L.M.X k
abbrev DB.jP(D:DB):List Ent:=(List.range D.S).map D.ent
structure kY(w:World)(g:Nat)(L:tC)(D:DB):Prop where
 gq:L.g=g
 hd:∃T,Blk w L.g #[.pointer (some (Addr.mk L.M.g 0 none)),.slice (some (Addr.mk L.e 0 none)) D.S L.c,.int .i64 D.ax] T
 es:Own w (fun k=>k=L.e) 96 (some (Addr.mk L.e 0 none)) D.S L.c D.jP
 mem:fW w L.M.g L.M D.mem
 ok:D.Ok
 pos:1≤D.S
 dis:L.e≠L.g∧¬L.M.X L.g∧¬L.M.X L.e
section
variable {w w' w2:World} {g:Nat} {L:tC} {D:DB} {Y:Nat→Prop}
theorem kY.hd'(h:kY w g L D):∃T,Blk w g #[.pointer (some (Addr.mk L.M.g 0 none)),.slice (some (Addr.mk L.e 0 none)) D.S L.c,.int .i64 D.ax] T:=h.gq▸h.hd
theorem kY.lt(h:kY w g L D):∀k,L.X k→k<w.heap.size:=by
 rintro k (rfl | rfl | hk)
 ·obtain⟨T,hd⟩:=h.hd;exact hd.lt
 ·obtain⟨g',hA,hZ,hl⟩:=h.es.lt h.pos
  have:g'=L.e:=hZ
  omega
 ·exact h.mem.lt k hk
theorem kY.ch(h:kY w g L D)(hk:Ch Y w w')(hb:∀k,L.X k→¬Y k):kY w' g L D:=by
 refine⟨h.gq,?_,h.es.ch hk fun k e=>hb k (.inr (.inl e)),h.mem.ch hk fun k hx=>hb k (.inr (.inr hx)),h.ok,h.pos,h.dis⟩
 obtain⟨T,hd⟩:=h.hd;exact⟨T,hk.blk hd (hb _ (.inl rfl))⟩
theorem kY.pu(h:kY w g L D)(hk:Pu w w'):kY w' g L D:=h.ch hk (by simp)
theorem kY.S64(h:kY w g L D):D.S≤64:=h.mem.eU.1
theorem tC.inM(L:tC)(k:Nat)(h:L.M.X k):L.X k:= .inr (.inr h)
theorem kY.ay(h:kY w g L D) {m:Mem} {M:kE}(hm:fW w' L.M.g M m)(hc:Ch L.M.X w w')(hg:∀k,M.X k→L.M.X k∨w.heap.size≤k)(hs:m.S=D.mem.S):kY w' g {L with M:=M} (D.aD m)∧(∀k,tC.X {L with M:=M} k→L.X k∨w.heap.size≤k):=by
 have hn:∀k,L.X k→¬L.M.X k→¬M.X k:=fun k hk hx hm'=>(hg k hm').elim hx fun h'=>absurd (h.lt k hk) (Nat.not_lt.2 h')
 have Pf:DB.jP (D.aD m)=D.jP:=by show List.map D.ent (List.range m.S)=List.map D.ent (List.range D.mem.S);rw [hs]
 have hS:DB.S (D.aD m)=D.S:=hs
 refine⟨⟨h.gq,?_,?_,?_,⟨fun p hp=>?_,h.ok.ax⟩,by rw [hS];exact h.pos,⟨h.dis.1,hn _ (.inl rfl) h.dis.2.1,hn _ (.inr (.inl rfl)) h.dis.2.2⟩⟩,?_⟩
 ·obtain⟨T,hd⟩:=h.hd
  refine⟨T,?_⟩
  rw [hS]
  show Blk w' L.g #[.pointer (some (Addr.mk M.g 0 none)),_,_] T
  rw [hm.gq]
  exact hc.blk hd h.dis.2.1
 ·rw [Pf,hS]
  exact h.es.ch hc fun k e=>e▸h.dis.2.2
 ·show fW w' M.g M m
  have:=hm.gq
  rw [this];exact hm
 ·rw [hS]at hp ⊢
  exact h.ok.ent p hp
 ·rintro k (hk | hk | hk)
  ·exact .inl (.inl hk)
  ·exact .inl (.inr (.inl hk))
  ·exact(hg k hk).imp (fun h=>.inr (.inr h)) id
theorem kY.DU(h:kY w g L D) {x:Int} {T:TypeId}(hs:bN w g #[.pointer (some (Addr.mk L.M.g 0 none)),.slice (some (Addr.mk L.e 0 none)) D.S L.c,.int .i64 x] T w2)(hx:0≤x∧x≤64):kY w2 g L (D.gu x):=by
 have hg:=h.gq
 subst hg
 exact⟨rfl,⟨T,hs.blk⟩,h.es.ch hs.ch fun k e e2=>h.dis.1 (by rw [← e,e2]),h.mem.ch hs.ch fun k hk e=>h.dis.2.1 (e▸hk),⟨h.ok.ent,hx⟩,h.pos,h.dis⟩
theorem DB.yC(D:DB) {p:Int}(e:Ent):(D.set p e).jP=D.jP.set p.toNat e:=by
 apply List.ext_getElem?
 intro i
 show((List.range D.S).map (D.set p e).ent)[i]? =_
 rw [List.getElem?_set,List.getElem?_map,List.getElem?_map]
 by_cases hi:i<D.S
 ·rw [List.getElem?_range hi]
  simp only [DB.set,Option.map_some]
  by_cases h2:p.toNat=i
  ·rw [if_pos h2.symm,if_pos h2,if_pos (by simp;omega)]
  ·rw [if_neg (fun e=>h2 e.symm),if_neg h2]
 ·rw [List.getElem?_eq_none (by simp;omega)]
  simp;omega
end
end
section
structure Fl where
 rs:List U32
 pc:Int
 z:Bool
 n:Bool
 l:Bool
namespace Fl
def Ok(s:Fl):Prop:=s.rs.length=15
def AM(s:Fl)(i:Nat)(x:U32):Fl:= {s with rs:=List.set s.rs i x}
def zero:Fl:=⟨[U32.mk 0,U32.mk 0,U32.mk 0,U32.mk 0,U32.mk 0,U32.mk 0,U32.mk 0,U32.mk 0,U32.mk 0,U32.mk 0,U32.mk 0,U32.mk 0,U32.mk 0,U32.mk 0,U32.mk 0],0,false,false,false⟩
def words(s:Fl):List Value:=aG (fun j=>.int .u32 (s.rs.getD j (U32.mk 0)).v) (upN 0 15)
def cells(s:Fl):List Value:=s.words++ [.int .u32 s.pc,.bool s.z,.bool s.n,.bool s.l]
theorem words_eq {s:Fl}(h:s.Ok):s.words=s.rs.map fun x=>.int .u32 x.v:=by
 obtain⟨rs,pc,z,n,l⟩:=s
 match rs,h with
 | [_,_,_,_,_,_,_,_,_,_,_,_,_,_,_],_=>rfl
theorem ei(s:Fl):s.words.length=15:=rfl
theorem Es {s:Fl}(h:s.Ok) {i:Nat} {x:U32}(hx:s.rs[i]? =some x):s.cells[i]? =some (.int .u32 x.v):=by
 have hi:i<15:=by have:=(List.getElem?_eq_some_iff.1 hx).1;rw [h]at this;exact this
 rw [cells,List.getElem?_append_left (by rw [ei];exact hi),words_eq h,List.getElem?_map,hx];rfl
theorem Er {s:Fl}(h:s.Ok) {i:Nat}(hi:i<15)(x:U32):(s.AM i x).cells=s.cells.set i (.int .u32 x.v):=by
 have h2:(s.AM i x).Ok:=by show(List.set s.rs i x).length=15;rw [List.length_set];exact h
 rw [cells,words_eq h2,cells,words_eq h,List.set_append_left _ _ (by rw [List.length_map,h];exact hi)]
 show(List.set s.rs i x).map _++_=_
 rw [List.map_set];rfl
end Fl
theorem sH {α β:Type} {f:α→β} {u:β}:∀ {l:List α},u∈aG f l→∃a,u=f a
 | a::l,h=>by
  rcases List.mem_cons.1 h with e | h
  ·exact⟨a,e⟩
  ·exact sH (l:=l) h
instance:Enc Fl:=⟨Fl.cells,19,fun _=>rfl,fun x u h=>by
 rcases List.mem_append.1 h with h | h
 ·obtain⟨a,rfl⟩:=sH h
  rfl
 ·simp only [List.mem_cons,List.not_mem_nil,or_false]at h
  rcases h with rfl | rfl | rfl | rfl<;>rfl,by omega⟩
structure FlP(w:World)(g:Nat)(s:Fl):Prop where
 len:s.Ok
 blk:∃T,Blk w g ⟨s.cells⟩ T
section
variable {w:World} {g:Nat} {s:Fl} {K:World→Prop}
theorem FlP.st(h:FlP w g s) {i:Nat} {v:Value} {s':Fl}(hi:i<19)(h2:s'.Ok)(hc:s'.cells=s.cells.set i v)(hK:∀w',FlP w' g s'→Ch (fun k=>k=g) w w'→K w'):aF w ⟨g,i,none⟩ [v] K:=by
 obtain⟨T,hb⟩:=h.blk
 exact iA hb (by show i+1≤s.cells.length;show i+1≤19;omega) fun w2 st=>hK w2 ⟨h2,T,by rw [hc];exact st.blk.cast (by rw [uI];simp)⟩ st.ch
theorem FlP.li(h:FlP w g s) {X:Nat→Prop}(hX:∀k,k=g↔X k):Rd w X (some (Addr.mk g 0 none)) s.rs.length s.rs.length s.rs:=by
 obtain⟨T,hb⟩:=h.blk
 refine⟨rfl,Nat.le_refl _,fun k hk=>by rw [(hX k).2 hk];exact hb.lt,fun i x hi=>⟨_,rfl,(hX _).1 rfl,fun j hj=>?_⟩⟩
 have hj:j=0:=by have:Enc.size U32=1:=rfl;omega
 subst hj
 rw [bT,Nat.zero_add,show Enc.size U32=1 from rfl,Nat.mul_one]
 show w.cell? ⟨g,i,none⟩=some (.int .u32 x.v)
 exact hb.cell (by simpa using Fl.Es h.len hi)
theorem FlP.stR(h:FlP w g s) {X:Nat→Prop}(hX:∀k,k=g↔X k) {i:Nat} {x y:U32}(hx:s.rs[i]? =some x) {o:Nat} {vs:List Value}(ho:o+vs.length≤1)(hy:enc y=(enc x).take o++vs++(enc x).drop (o+vs.length))(hK:∀w',(∀k,k=g↔X k)∧FlP w' g (s.AM i y)→Ch X w w'→K w'):
 aF w (((Addr.mk g 0 none).add (i*1)).add o) vs K:=by
 have hi:i<15:=by have:=(List.getElem?_eq_some_iff.1 hx).1;rw [h.len]at this;exact this
 have hlen:(s.AM i y).Ok:=by show(List.set s.rs i y).length=15;rw [List.length_set];exact h.len
 obtain⟨T,hb⟩:=h.blk
 rw [bT,Nat.zero_add,Nat.mul_one]
 have ex:enc x= [.int .u32 x.v]:=rfl
 have ey:enc y= [.int .u32 y.v]:=rfl
 rw [ex,ey]at hy
 have NA:∀j,j≤19→j≤(⟨s.cells⟩:Array Value).size:=fun j hj=>hj
 have same:x=y→s.AM i y=s:=fun e=>by
  subst e
  have:s.rs.set i x=s.rs:=by
   apply List.ext_getElem?
   intro j
   rw [List.getElem?_set]
   split
   ·rename_i e;subst e;rw [if_pos (by rw [h.len];exact hi),hx]
   ·rfl
  unfold Fl.AM;rw [this]
 match vs,o,ho with
 | [v],0,_=>
  simp at hy
  subst hy
  exact(FlP.st h (i:=i) (by omega) hlen (Fl.Er h.len hi y) fun w' h' q=>hK w' ⟨hX,h'⟩ (q.mono fun k hk=>(hX k).1 hk))
 | [],0,_=>
  simp at hy
  refine⟨g,i,_,T,rfl,hb,by simpa using NA i (by omega),fun w2 st=>hK w2 ⟨hX,by rw [same (by cases x;cases y;simp at hy;rw [hy])];exact⟨h.len,T,st.blk⟩⟩ (st.ch.mono fun k hk=>(hX k).1 hk)⟩
 | [],1,_=>
  simp at hy
  refine⟨g,i+1,_,T,rfl,hb,by simpa using NA (i+1) (by omega),fun w2 st=>hK w2 ⟨hX,by rw [same (by cases x;cases y;simp at hy;rw [hy])];exact⟨h.len,T,st.blk⟩⟩ (st.ch.mono fun k hk=>(hX k).1 hk)⟩
theorem FlP.all(h:FlP w g s) {s':Fl}(h2:s'.Ok)(hK:∀w',FlP w' g s'→Ch (fun k=>k=g) w w'→K w'):aF w ⟨g,0,none⟩ s'.cells K:=by
 obtain⟨T,hb⟩:=h.blk
 exact fX hb rfl fun w2 st=>hK w2 ⟨h2,T,st.blk.cast (by simp)⟩ st.ch
end
def yJ:List Value→Option Fl
 | [.int .u32 a0,.int .u32 a1,.int .u32 a2,.int .u32 a3,.int .u32 a4,.int .u32 a5,.int .u32 a6,.int .u32 a7,.int .u32 a8,.int .u32 a9,.int .u32 b0,.int .u32 b1,.int .u32 b2,.int .u32 b3,.int .u32 b4,.int .u32 pc,.bool z,.bool n,.bool l]=>
  some ⟨[⟨a0⟩,⟨a1⟩,⟨a2⟩,⟨a3⟩,⟨a4⟩,⟨a5⟩,⟨a6⟩,⟨a7⟩,⟨a8⟩,⟨a9⟩,⟨b0⟩,⟨b1⟩,⟨b2⟩,⟨b3⟩,⟨b4⟩],pc,z,n,l⟩
 | _=>none
theorem pQ {cs:List Value} {s:Fl}(h:yJ cs=some s):cs=s.cells∧s.Ok:=by
 unfold yJ at h
 split at h
 ·injection h with h
  subst h
  exact⟨rfl,rfl⟩
 ·cases h
end
section
structure Pd where
 n:Nat
 ax:Int
 ent:Nat→Ent
namespace Pd
def on(E:Pd)(m:Mem):DB:=⟨m,E.ax,E.ent⟩
def jP(E:Pd):List Ent:=(List.range E.n).map E.ent
def set(E:Pd)(i:Nat)(e:Ent):Pd:= {E with ent:=fun q=>if q=i then e else E.ent q}
def gu(E:Pd)(x:Int):Pd:= {E with ax:=x}
structure Ok(E:Pd):Prop where
 ent:∀p,p<E.n→(E.ent p).ok=true∧(E.ent p).owner<E.n
 ax:0≤E.ax∧E.ax≤64
 eU:E.n≤64
@[simp] theorem eh(E:Pd):E.jP.length=E.n:=by simp [jP]
theorem yD {E:Pd} {i:Nat}(h:i<E.n):E.jP[i]? =some (E.ent i):=by simp [jP,h]
theorem eV {E:Pd} {p:Int} {d:Ent}(h:0≤p∧p<((E.n:Nat):Int)):E.jP.getD p.toNat d=E.ent p.toNat:=by
 rw [List.getD_eq_getElem?_getD,yD (by omega)];rfl
theorem yC(E:Pd)(i:Nat)(e:Ent):(E.set i e).jP=E.jP.set i e:=by
 apply List.ext_getElem?
 intro j
 show((List.range E.n).map (E.set i e).ent)[j]? =_
 rw [List.getElem?_set,List.getElem?_map]
 by_cases hj:j<E.n
 ·rw [List.getElem?_range hj]
  simp only [Option.map_some,set,eh,yD hj]
  by_cases NJ:i=j
  ·subst NJ;simp [hj]
  ·rw [if_neg (fun h=>NJ h.symm),if_neg NJ]
 ·rw [List.getElem?_eq_none (by simp;omega),List.getElem?_eq_none (l:=E.jP) (by simp;omega)]
  simp
  intro h1
  omega
end Pd
def DB.pd(D:DB):Pd:=⟨D.S,D.ax,D.ent⟩
theorem Pd.cD(E:Pd)(m:Mem)(h:E.n=m.S):(E.on m).pd=E:=by
 cases E;simp only [on]at *;simp [DB.pd,DB.S,← h]
theorem Pd.iH(E:Pd)(m:Mem):(E.on m).mem=m:=rfl
theorem Pd.AT(E:Pd)(m:Mem)(h:E.n=m.S):(E.on m).S=E.n:=h.symm
theorem Pd.km(E:Pd)(m:Mem)(p:Int)(h:E.n=m.S):(E.on m).has p=decide (0≤p∧p<((E.n:Nat):Int)):=by unfold DB.has;rw [AT E m h]
theorem Pd.oe(E:Pd)(m:Mem)(p:Int):(E.on m).at_ p=E.ent p.toNat:=rfl
theorem Pd.kj(E:Pd)(m:Mem)(p:Int)(e:Ent):(E.on m).set p e=(E.set p.toNat e).on m:=rfl
theorem Pd.lv(E:Pd)(m:Mem)(f:Mem→Mem):(E.on m).ay f=E.on (f m):=rfl
theorem Pd.AS(E:Pd)(m m':Mem):(E.on m).aD m'=E.on m':=rfl
theorem Pd.Gm(E:Pd)(m:Mem)(b:Int):(E.on m).gu b=(E.gu b).on m:=rfl
theorem Pd.Ip(E:Pd)(b:Int):(E.gu b).n=E.n:=rfl
theorem Pd.uQ(E:Pd)(m:Mem):(E.on m).ax=E.ax:=rfl
theorem Pd.nU(E:Pd)(i:Nat)(e:Ent):(E.set i e).n=E.n:=rfl
theorem Pd.gV(E:Pd)(i j:Nat)(e:Ent):(E.set i e).ent j=if j=i then e else E.ent j:=rfl
theorem Pd.AL(E:Pd)(i:Nat)(e:Ent):(E.set i e).ax=E.ax:=rfl
structure PdP(w:World)(g a mg:Nat)(E:Pd):Prop where
 hd:∃T,Blk w g #[.pointer (some (Addr.mk mg 0 none)),.int .i64 E.ax,.slice (some (Addr.mk a 0 none)) (2*E.n) (2*E.n)] T
 ws:∃T cs,Blk w a cs T∧cs.size=2*E.n∧∀p,p<E.n→cs[2*p]? =some (.int .u32 (E.ent p).w0)∧cs[2*p+1]? =some (.int .u32 (E.ent p).w1)
 ok:E.Ok
 ne:a≠g
structure oP(w:World)(g mg e c:Nat)(E:Pd):Prop where
 hd:∃T,Blk w g #[.pointer (some (Addr.mk mg 0 none)),.slice (some (Addr.mk e 0 none)) E.n c,.int .i64 E.ax] T
 es:Own w (fun k=>k=e) 96 (some (Addr.mk e 0 none)) E.n c E.jP
 ok:E.Ok
 ne:e≠g
 pos:1≤E.n
section
variable {w w':World} {g a mg e c:Nat} {E:Pd} {Y:Nat→Prop}
theorem PdP.ch(h:PdP w g a mg E)(q:Ch Y w w')(hg:¬Y g)(ha:¬Y a):PdP w' g a mg E:=by
 obtain⟨T,hd⟩:=h.hd
 obtain⟨T2,cs,hr,h2⟩:=h.ws
 exact⟨⟨T,q.blk hd hg⟩,⟨T2,cs,q.blk hr ha,h2⟩,h.ok,h.ne⟩
theorem oP.ch(h:oP w g mg e c E)(q:Ch Y w w')(hg:¬Y g)(he:¬Y e):oP w' g mg e c E:=by
 obtain⟨T,hd⟩:=h.hd
 exact⟨⟨T,q.blk hd hg⟩,h.es.ch q fun k hk=>hk▸he,h.ok,h.ne,h.pos⟩
theorem PdP.lt(h:PdP w g a mg E):g<w.heap.size∧a<w.heap.size:=by
 obtain⟨T,hd⟩:=h.hd
 obtain⟨T2,cs,hr,h2⟩:=h.ws
 exact⟨hd.lt,hr.lt⟩
theorem oP.lt(h:oP w g mg e c E):g<w.heap.size∧e<w.heap.size:=by
 obtain⟨T,hd⟩:=h.hd
 obtain⟨g',hA,hZ,hl⟩:=h.es.lt h.pos
 have:g'=e:=hZ
 exact⟨hd.lt,by omega⟩
theorem PdP.db {L:eP} {m:Mem}(h:PdP w g a L.g E)(hm:cA w L m)(hn:E.n=m.S)(hx:¬L.X g∧¬L.X a):DBP w ⟨g,a,L⟩ (E.on m):=by
 have hS:(E.on m).S=E.n:=hn.symm
 refine⟨?_,?_,hm,⟨fun p hp=>?_,h.ok.ax⟩,h.ne,hx.1,hx.2⟩
 ·show ∃T,Blk w g #[_,_,.slice _ (2*m.S) (2*m.S)] T
  rw [← hn];exact h.hd
 ·show ∃T cs,Blk w a cs T∧cs.size=2*m.S∧∀p,p<m.S→_
  rw [← hn];exact h.ws
 ·rw [hS]at hp ⊢
  exact h.ok.ent p hp
theorem DBP.pd {L:fG} {D:DB}(h:DBP w L D):PdP w L.g L.a L.M.g D.pd:=⟨h.hd,h.ws,⟨h.ok.ent,h.ok.ax,h.mem.eU.1⟩,h.dis.1⟩
theorem PdP.DU(h:PdP w g a mg E) {x:Int}(hx:0≤x∧x≤64) {K:World→Prop}(hK:∀w',PdP w' g a mg (E.gu x)→Ch (fun k=>k=g) w w'→K w'):aF w ⟨g,1,none⟩ [.int .i64 x] K:=by
 obtain⟨T,hd⟩:=h.hd
 obtain⟨T2,cs,hr,h2⟩:=h.ws
 exact iA hd (by simp) fun w2 s=>hK w2 ⟨⟨T,s.blk⟩,⟨T2,cs,s.old hr h.ne,h2⟩,⟨h.ok.ent,hx,h.ok.eU⟩,h.ne⟩ s.ch
theorem oP.DU(h:oP w g mg e c E) {x:Int}(hx:0≤x∧x≤64) {K:World→Prop}(hK:∀w',oP w' g mg e c (E.gu x)→Ch (fun k=>k=g) w w'→K w'):aF w ⟨g,2,none⟩ [.int .i64 x] K:=by
 obtain⟨T,hd⟩:=h.hd
 exact iA hd (by simp) fun w2 s=>hK w2 ⟨⟨T,s.blk⟩,h.es.ch s.ch fun k hk e2=>h.ne (by rw [← hk,e2]),⟨h.ok.ent,hx,h.ok.eU⟩,h.ne,h.pos⟩ s.ch
theorem oP.Kz(h:oP w g mg e c E) {i:Nat} {x y:Ent}(hx:E.jP[i]? =some x) {o:Nat} {vs:List Value}(ho:o+vs.length≤5)(hy:enc y=(enc x).take o++vs++(enc x).drop (o+vs.length))(Oz:y.ok=true∧y.owner<(E.n:Int)) {K:World→Prop}
 (hK:∀w',oP w' g mg e c (E.set i y)→Ch (fun k=>k=e) w w'→K w'):aF w (((Addr.mk e 0 none).add (i*5)).add o) vs K:=by
 have hi:i<E.n:=by
  have:=(List.getElem?_eq_some_iff.1 hx).1
  simpa using this
 obtain⟨T,hd⟩:=h.hd
 refine h.es.st rfl hi hx ho hy fun w2 P9 hc=>hK w2 ⟨⟨T,hc.blk hd fun e=>h.ne e.symm⟩,by rw [Pd.yC];exact P9,⟨fun p hp=>?_,h.ok.ax,h.ok.eU⟩,h.ne,h.pos⟩ hc
 show(if p=i then y else E.ent p).ok=true∧_
 split
 ·rename_i Wl
  refine⟨Oz.1,?_⟩
  show(if p=i then y else E.ent p).owner<_
  rw [if_pos Wl];exact Oz.2
 ·rename_i Wl
  refine⟨(h.ok.ent p hp).1,?_⟩
  show(if p=i then y else E.ent p).owner<_
  rw [if_neg Wl];exact(h.ok.ent p hp).2
end
def Dg.sv(d:Dg):List Value:=aG (fun j=>.int .u32 (d.save.getD j 0)) (upN 0 26)
def Dg.svL(d:Dg):List U32:=aG (fun j=>U32.mk (d.save.getD j 0)) (upN 0 26)
def zj(w:World)(g:Nat)(s:List U32):Prop:=∃T,Blk w g (bR (s.map U32.v)) T
def yH:List Value→Option (List U32)
 | []=>some []
 | .int .u32 x::r=>(match yH r with
  | some l=>some (U32.mk x::l)
  | none=>none)
 | _=>none
theorem oB:∀ {cs:List Value} {l:List U32},yH cs=some l→cs=(l.map U32.v).map (Value.int .u32)
 | [],l,h=>by simp only [yH,Option.some.injEq]at h;subst h;rfl
 | v::r,l,h=>by
  unfold yH at h
  split at h
  ·rename_i e;cases e
  ·rename_i x r' e
   injection e with e1 e2
   subst e1;subst e2
   split at h
   ·rename_i l' hl
    injection h with h
    subst h
    rw [oB hl];rfl
   ·cases h
  ·cases h
theorem KA {w:World} {g mg e c:Nat} {E:Pd} {X:Nat→Prop}(hX:∀k,(k=g∨k=e)↔X k)(h:oP w g mg e c E):Rd w X (some (Addr.mk e 0 none)) E.jP.length c E.jP:=by
 rw [Pd.eh]
 exact h.es.rd.mono (fun k hk=>(hX k).1 (.inr hk.1)) fun k hk=>by rcases(hX k).2 hk with rfl | rfl;exact h.lt.1;exact h.lt.2
theorem KB {w:World} {g mg e c:Nat} {E:Pd}(h:oP w g mg e c E):w.cell? ⟨g,0,none⟩=some (.pointer (some ⟨mg,0,none⟩))∧w.cell? ⟨g,1,none⟩=some (.slice (some ⟨e,0,none⟩) E.jP.length c)∧w.cell? ⟨g,2,none⟩=some (.int .i64 E.ax):=by
 obtain⟨T,hd⟩:=h.hd
 rw [Pd.eh]
 exact⟨hd.cell rfl,hd.cell rfl,hd.cell rfl⟩
theorem LP {w:World} {g a mg:Nat} {E:Pd}(h:PdP w g a mg E):w.cell? ⟨g,0,none⟩=some (.pointer (some ⟨mg,0,none⟩))∧w.cell? ⟨g,1,none⟩=some (.int .i64 E.ax):=by
 obtain⟨T,hd⟩:=h.hd
 exact⟨hd.cell rfl,hd.cell rfl⟩
theorem CE {w:World} {g:Nat} {s:List U32} {X:Nat→Prop}(hX:∀k,k=g↔X k)(h:zj w g s):Rd w X (some (Addr.mk g 0 none)) s.length s.length s:=by
 obtain⟨T,hb⟩:=h
 refine⟨rfl,Nat.le_refl _,fun k hk=>by rw [(hX k).2 hk];exact hb.lt,fun i x hi=>⟨_,rfl,(hX _).1 rfl,fun j hj=>?_⟩⟩
 have hj:j=0:=by have:Enc.size U32=1:=rfl;omega
 subst hj
 have hl:i<s.length:=(List.getElem?_eq_some_iff.1 hi).1
 rw [bT,Nat.zero_add,show Enc.size U32=1 from rfl,Nat.mul_one]
 show w.cell? ⟨g,i,none⟩=some (.int .u32 x.v)
 refine hb.cell ?_
 rw [eF (by simpa using hl),List.getD_eq_getElem?_getD,List.getElem?_map,hi];rfl
theorem Iy {w:World} {g i:Nat} {s:List U32} {X:Nat→Prop}(hX:∀k,k=g↔X k)(h:zj w g s) {x y:U32}(hx:s[i]? =some x) {o:Nat} {vs:List Value}(ho:o+vs.length≤1)(hy:enc y=(enc x).take o++vs++(enc x).drop (o+vs.length)) {K:World→Prop}(hK:∀w',(∀k,k=g↔X k)∧zj w' g (s.set i y)→Ch X w w'→K w'):
 aF w (((Addr.mk g 0 none).add (i*1)).add o) vs K:=by
 obtain⟨T,hb⟩:=h
 have hl:i<s.length:=(List.getElem?_eq_some_iff.1 hx).1
 have hc:∀w2,bN w g (bR ((s.set i y).map U32.v)) T w2→K w2:=fun w2 st=>hK w2 ⟨hX,T,st.blk⟩ (st.ch.mono fun k hk=>(hX k).1 hk)
 rw [bT,Nat.zero_add,Nat.mul_one]
 have ex:enc x= [.int .u32 x.v]:=rfl
 have ey:enc y= [.int .u32 y.v]:=rfl
 rw [ex,ey]at hy
 match vs,o,ho with
 | [v],0,_=>
  simp at hy
  subst hy
  refine⟨g,i,_,T,rfl,hb,by simp;omega,fun w2 st=>hc w2 ?_⟩
  rw [List.map_set,← sk];exact st
 | [],0,_=>
  simp at hy
  refine⟨g,i,_,T,rfl,hb,by simp;omega,fun w2 st=>hc w2 ?_⟩
  have:s.set i y=s:=by
   have:y=x:=by cases x;cases y;simp at hy;rw [hy]
   rw [this];exact List.ext_getElem? fun j=>by rw [List.getElem?_set];split;(rename_i e;subst e;(try rw [if_pos hl]);rw [hx]);rfl
  rw [this];exact st
 | [],1,_=>
  simp at hy
  refine⟨g,i+1,_,T,rfl,hb,by simp;omega,fun w2 st=>hc w2 ?_⟩
  have:s.set i y=s:=by
   have:y=x:=by cases x;cases y;simp at hy;rw [hy]
   rw [this];exact List.ext_getElem? fun j=>by rw [List.getElem?_set];split;(rename_i e;subst e;(try rw [if_pos hl]);rw [hx]);rfl
  rw [this];exact st
theorem Ix {w:World} {g n:Nat} {s:List U32} {X:Nat→Prop}(hX:∀k,k=g↔X k)(h:zj w g s)(hn:s.length=n):X g∧∀j u,(aG (fun j=>Value.int .u32 (s.getD j (U32.mk 0)).v) (upN 0 n))[j]? =some u→w.cell? ⟨g,0+j,none⟩=some u:=by
 obtain⟨T,hb⟩:=h
 refine⟨(hX _).1 rfl,fun j u hj=>?_⟩
 rw [← aH,br]at hj
 cases Se:nth (upN 0 n) j with
 | none=>rw [Se]at hj;cases hj
 | some i=>
  rw [Se]at hj
  have NJ:i=j:=by have:=jh Se;omega
  have Nu:=bc Se
  rw [gl]at Nu
  subst NJ
  injection hj with hj
  rw [← hj,Nat.zero_add]
  refine hb.cell ?_
  rw [eF (by simp;omega),List.getD_eq_getElem?_getD,List.getElem?_map]
  show _=some (Value.int .u32 (s.getD i (U32.mk 0)).v)
  rw [List.getD_eq_getElem?_getD]
  cases s[i]? <;>rfl
theorem Iw {w:World} {g:Nat} {s l:List U32} {vs:List Value} {X:Nat→Prop}(hX:∀k,k=g↔X k)(h:zj w g s)(hl:yH vs=some l)(hn:s.length=l.length) {K:World→Prop}(hK:∀w',(∀k,k=g↔X k)∧zj w' g l→Ch X w w'→K w'):aF w ⟨g,0,none⟩ vs K:=by
 obtain⟨T,hb⟩:=h
 have e:=oB hl
 have e2:vs=(bR (l.map U32.v)).toList:=by rw [e];simp [bR]
 rw [e2]
 exact pw hb (by simp;omega) fun w2 st=>hK w2 ⟨hX,T,st.blk⟩ (st.ch.mono fun k hk=>(hX k).1 hk)
def Mem.Wf(m:Mem):Prop:=(∀s i o,0≤m.pg s i o∧m.pg s i o<4294967296)∧m.S≤64∧m.I≤64
end
end Go.Proofs.YtinhphjfnedhgaaGreatDoor
namespace Go.Proofs.YtinhphjfnedhgaaGreatDoor.V
open Go Go.RowKit
open Go.IntKind (i64 u32 u64)
open Enc (enc)
structure Els where
 el:Nat→Type
 en:(t:Nat)→Enc (el t)
 df:(t:Nat)→el t
 dec:(t:Nat)→List Value→Option (el t)
 gO:∀ {t:Nat} {cs:List Value} {x:el t},dec t cs=some x→(en t).enc x=cs
structure Kind(E:Els) where
 ty:Type
 pred:(Nat→Nat)→ty→(Nat→Prop)→World→Prop
 ch:∀ {r:Nat→Nat} {s:ty} {X Y:Nat→Prop} {w w':World},pred r s X w→Ch Y w w'→(∀k,X k→¬Y k)→pred r s X w'
 lt:∀ {r:Nat→Nat} {s:ty} {X:Nat→Prop} {w:World},pred r s X w→∀k,X k→k<w.heap.size
 li:(Nat→Nat)→ty→Nat→Option (Ls E.el):=fun _ _ _=>none
 qv:∀ {r:Nat→Nat} {s:ty} {X:Nat→Prop} {w:World} {i:Nat} {L:Ls E.el},pred r s X w→li r s i=some L→ @Rd (E.el L.t) (E.en L.t) w X L.A L.l.length L.c L.l:=by intro _ _ _ _ _ _ _ h;cases h
 fs:(Nat→Nat)→ty→Nat→Nat→Value→Option (Prop×ty):=fun _ _ _ _ _=>none
 sQ:∀ {r:Nat→Nat} {s s':ty} {X:Nat→Prop} {w:World} {path off:Nat} {v:Value} {c:Prop},pred r s X w→fs r s path off v=some (c,s')→c→∀ {K:World→Prop},(∀w',pred r s' X w'→Ch X w w'→K w')→aF w ⟨r path,off,none⟩ [v] K:=by intro _ _ _ _ _ _ _ _ _ _ h;cases h
 st:(Nat→Nat)→ty→Nat→Nat→(tt:Nat)→E.el tt→Option (Prop×ty):=fun _ _ _ _ _ _=>none
 rR:∀ {r:Nat→Nat} {s s':ty} {X:Nat→Prop} {w:World} {j i:Nat} {L:Ls E.el} {x y:E.el L.t} {off:Nat} {vs:List Value} {c:Prop},pred r s X w→li r s j=some L→L.l[i]? =some x→off+vs.length≤(E.en L.t).size→(E.en L.t).enc y=((E.en L.t).enc x).take off++vs++((E.en L.t).enc x).drop (off+vs.length)→st r s j i L.t y=some (c,s')→c→∀ {K:World→Prop},(∀w',pred r s' X w'→Ch X w w'→K w')→aF w (((L.A.getD ⟨0,0,none⟩).add (i*(E.en L.t).size)).add off) vs K:=by intro _ _ _ _ _ _ _ _ _ _ _ _ _ _ _ _ _ _ h;cases h
 iv:Bool:=false
 inv:ty→Prop:=fun _=>True
 gM:∀ {r:Nat→Nat} {s:ty} {X:Nat→Prop} {w:World},pred r s X w→inv s:=by intros;trivial
 fo:(Nat→Nat)→ty→Nat→Nat→Option FV:=fun _ _ _ _=>none
 sU:∀ {r:Nat→Nat} {s:ty} {X:Nat→Prop} {w:World} {path off:Nat} {f:FV} {v:Value},pred r s X w→fo r s path off=some f→fvV r (li r s) f=some v→X (r path)∧w.cell? ⟨r path,off,none⟩=some v:=by intro _ _ _ _ _ _ _ _ _ h;cases h
 ix:Nat→Nat→Option Nat:=fun _ _=>none
 sO:∀ {r:Nat→Nat} {s:ty} {path off i:Nat} {L:Ls E.el},ix path off=some i→li r s i=some L→L.A=some ⟨r path,off,none⟩:=by intro _ _ _ _ _ _ h;cases h
 wl:(Nat→Nat)→ty→Nat→Nat→Nat→Option (Prop×List Value):=fun _ _ _ _ _=>none
 uB:∀ {r:Nat→Nat} {s:ty} {X:Nat→Prop} {w:World} {path off n:Nat} {c:Prop} {cs:List Value},pred r s X w→wl r s path off n=some (c,cs)→c→X (r path)∧∀j u,cs[j]? =some u→w.cell? ⟨r path,off+j,none⟩=some u:=by intro _ _ _ _ _ _ _ _ _ _ h;cases h
 ws:(Nat→Nat)→ty→Nat→Nat→List Value→Option (Prop×ty):=fun _ _ _ _ _=>none
 rC:∀ {r:Nat→Nat} {s s':ty} {X:Nat→Prop} {w:World} {path off:Nat} {vs:List Value} {c:Prop},pred r s X w→ws r s path off vs=some (c,s')→c→∀ {K:World→Prop},(∀w',pred r s' X w'→Ch X w w'→K w')→aF w ⟨r path,off,none⟩ vs K:=by intro _ _ _ _ _ _ _ _ _ _ h;cases h
def Kind.none(E:Els):Kind E where
 ty:=Unit
 pred:=fun _ _ X _=>∀k,¬X k
 ch:=fun h _ _=>h
 lt:=fun h k hk=>absurd hk (h k)
def Uni.of(E:Els)(K:Nat→Kind E)(cd:TypeId→Option Nat)(mko:TypeId→List Value→Option ((t:Nat)×(K t).ty))(v5:∀ {T:TypeId} {cs:List Value} {q:(t:Nat)×(K t).ty} {w:World} {g:Nat},mko T cs=some q→Blk w g ⟨cs⟩ T→(K q.1).pred (fun _=>g) q.2 (fun k=>k=g) w):Uni where
 ty:=fun t=>(K t).ty
 pred:=fun t=>(K t).pred
 ch:=fun {t}=>(K t).ch
 lt:=fun {t}=>(K t).lt
 el:=E.el
 en:=E.en
 df:=E.df
 dec:=E.dec
 gO:=E.gO
 cd:=cd
 li:=fun t=>(K t).li
 qv:=fun {t}=>(K t).qv
 fs:=fun t=>(K t).fs
 sQ:=fun {t}=>(K t).sQ
 st:=fun t=>(K t).st
 rR:=fun {t}=>(K t).rR
 iv:=fun t=>(K t).iv
 inv:=fun t=>(K t).inv
 gM:=fun {t}=>(K t).gM
 fo:=fun t=>(K t).fo
 sU:=fun {t}=>(K t).sU
 mko:=mko
 v5:=v5
 ix:=fun t=>(K t).ix
 sO:=fun {t}=>(K t).sO
 wl:=fun t=>(K t).wl
 uB:=fun {t}=>(K t).uB
 ws:=fun t=>(K t).ws
 rC:=fun {t}=>(K t).rC
section
section
variable {U:Uni} {P:Program} {tbl:Tb U} {may:List Nat} {k0:Nat}
def Ext(θ θ':Th):Prop:=∀j i,cU θ j=some i→cU θ' j=some i
theorem Ext.refl(θ:Th):Ext θ θ:=fun _ _ h=>h
theorem Ext.trans {a b c:Th}(h:Ext a b)(k:Ext b c):Ext a c:=fun j i hj=>k j i (h j i hj)
theorem iz {j id:Nat} {θ:Th} {F:Th→Prop}(h:mQ j id θ F):∃θ',F θ'∧Ext θ θ'∧cU θ' j=some id:=by
 unfold mQ at h
 split at h
 ·rename_i hn
  refine⟨_,h,fun j' i hj=>?_,?_⟩
  ·unfold cU
   split
   ·rename_i he
    rw [← Nat.eq_of_beq_eq_true he,hn]at hj
    cases hj
   ·exact hj
  ·simp [cU]
 ·rename_i i hi
  split at h
  ·rename_i he
   exact⟨θ,h,Ext.refl θ,by rw [hi,Nat.eq_of_beq_eq_true he]⟩
  ·exact h.elim
theorem mf {j i:Nat}:∀ {θ:Th},cU θ j=some i→(j,i)∈θ
 | [],h=>by cases h
 | (a,b)::r,h=>by
  unfold cU at h
  split at h
  ·rename_i he
   injection h with h
   rw [← h,Nat.eq_of_beq_eq_true he]
   exact List.mem_cons_self ..
  ·exact List.mem_cons_of_mem _ (mf h)
theorem Kv {θ:Th}(hn:pI (aG (·.2) θ)=true) {a b i:Nat}(ha:cU θ a=some i)(hb:cU θ b=some i):a=b:=by
 have h1:=mf ha
 have h2:=mf hb
 have h3:=mU hn
 rw [gA]at h3
 have key:∀(l:Th),(l.map (·.2)).Nodup→(a,i)∈l→(b,i)∈l→a=b:=by
  intro l
  induction l with
  | nil=>intro _ h;cases h
  | cons x r ih=>
   intro hd h1 h2
   rw [List.map_cons,List.nodup_cons]at hd
   rcases List.mem_cons.1 h1 with e1 | h1
   ·rcases List.mem_cons.1 h2 with e2 | h2
    ·rw [← e1]at e2;injection e2 with e2;exact e2.symm
    ·exact absurd (List.mem_map.2 ⟨(b,i),h2,by rw [← e1]⟩) hd.1
   ·rcases List.mem_cons.1 h2 with e2 | h2
    ·exact absurd (List.mem_map.2 ⟨(a,i),h1,by rw [← e2]⟩) hd.1
    ·exact ih hd.2 h1 h2
 exact key θ h3 h1 h2
theorem PK.vP {f:Nat→Option Nat} {p q:PK}(h:p.ren f=some q):f p.id=some q.id:=by
 cases p<;>simp only [PK.ren,Option.map_eq_some_iff]at h<;>obtain⟨i,hi,rfl⟩:=h<;>exact hi
theorem PK.F7 {f g:Nat→Option Nat}(h:∀j i,f j=some i→g j=some i) {p q:PK}(hp:p.ren f=some q):p.ren g=some q:=by
 cases p<;>simp only [PK.ren,Option.map_eq_some_iff]at hp ⊢ <;>obtain⟨i,hi,rfl⟩:=hp<;>exact⟨i,h _ _ hi,rfl⟩
def Rel(r r':Res U):Prop:=r=r'∨∃(t:Nat)(own:Bool)(T T':TypeId)(A:Option Addr)(c:Nat)(l:List (U.el t)),r= .lst t false T A c l∧r'= .lst t own T' A c l
theorem Rel.den {r r':Res U}(h:Rel r r') {f:Nat→Option Nat} {p q:PK}(hp:p.ren f=some q):cz U p (some r)=cz U q (some r'):=by
 rcases h with rfl | ⟨t,own,T,T',A,c,l,rfl,rfl⟩
 ·cases p<;>simp only [PK.ren,Option.map_eq_some_iff]at hp<;>obtain⟨i,hi,rfl⟩:=hp<;>cases r<;>rfl
 ·cases p<;>simp only [PK.ren,Option.map_eq_some_iff]at hp<;>obtain⟨i,hi,rfl⟩:=hp<;>rfl
def Emb(f:Nat→Option Nat)(L G:List (Res U)):Prop:=∀j r,nth L j=some r→∃i r',f j=some i∧nth G i=some r'∧Rel r r'
theorem Emb.dn {f:Nat→Option Nat} {L G:List (Res U)}(h:Emb f L G) {p q:PK}(hp:p.ren f=some q) {v:Value}(hd:den U L p=some v):den U G q=some v:=by
 unfold V.den at hd ⊢
 cases hn:nth L p.id with
 | none=>rw [hn]at hd;cases p<;>simp [cz]at hd
 | some r=>
  rw [hn]at hd
  obtain⟨i,r',h1,h2,h3⟩:=h _ _ hn
  rw [PK.vP hp]at h1
  injection h1 with h1
  subst h1
  rw [h2,← h3.den hp]
  exact hd
theorem dQ {f:Nat→Option Nat} {l:List (Option PK)} {j:Nat} {q:PK}(h:nth (aG (sx f) l) j=some (some q)):∃p,nth l j=some (some p)∧p.ren f=some q:=by
 rw [br]at h
 cases hn:nth l j with
 | none=>rw [hn]at h;cases h
 | some o=>
  rw [hn]at h
  injection h with h
  cases o with
  | none=>cases h
  | some p=>exact⟨p,rfl,h⟩
theorem Emb.kn {f:Nat→Option Nat} {L G:List (Res U)}(h:Emb f L G) {k k':Kn}(hk:k.ren f=some k') {v:Value}(hv:iW L v k):iW G v k':=by
 cases k with
 | pan=>exact hv.elim
 | p p=>
  simp only [Kn.ren,Option.map_eq_some_iff]at hk
  obtain⟨q,hq,rfl⟩:=hk
  exact h.dn hq hv
 | t l=>
  simp only [Kn.ren,Option.some.injEq]at hk
  subst hk
  obtain⟨vs,e,hh⟩:=hv
  refine⟨vs,e,fun j q hj=>?_⟩
  obtain⟨p,hp,hq⟩:=dQ hj
  obtain⟨u,hu,hd⟩:=hh j p hp
  exact⟨u,hu,h.dn hq hd⟩
 | ag l=>
  simp only [Kn.ren,Option.some.injEq]at hk
  subst hk
  obtain⟨vs,e,hh⟩:=hv
  refine⟨vs,e,fun j q hj=>?_⟩
  obtain⟨p,hp,hq⟩:=dQ hj
  obtain⟨u,hu,hd⟩:=hh j p hp
  exact⟨u,hu,h.dn hq hd⟩
 | f a b=>
  simp only [Kn.ren,Option.some.injEq]at hk
  subst hk
  obtain⟨fn,fs,cs,e,hl,h1,h2⟩:=hv
  refine⟨fn,fs,cs,e,by simpa using hl,fun j q hj=>?_,fun j q hj=>?_⟩
  ·obtain⟨p,hp,hq⟩:=dQ hj
   obtain⟨u,hu,hd⟩:=h1 j p hp
   exact⟨u,hu,h.dn hq hd⟩
  ·obtain⟨p,hp,hq⟩:=dQ hj
   obtain⟨u,hu,hd⟩:=h2 j p hp
   exact⟨u,hu,h.dn hq hd⟩
theorem Emb.knO {f:Nat→Option Nat} {L G:List (Res U)}(h:Emb f L G) {k:Option Kn} {v:Value}(hv:KnO L v k):KnO G v (C0 f k):=by
 cases k with
 | none=>exact trivial
 | some k=>
  show KnO G v (k.ren f)
  cases hk:k.ren f with
  | none=>exact trivial
  | some k'=>exact h.kn hk hv
theorem jK {f:Nat→Option Nat} {key:Key} {k':Kn}:∀ {l:List (Key×Kn)},(key,k')∈kT f l→∃i i' o k,((key= .c i' o∧(Key.c i o,k)∈l)∨(key= .l i' o∧(Key.l i o,k)∈l))∧f i=some i'∧k.ren f=some k'
 | [],h=>by cases h
 | (.s _,_)::r,h=>by
  obtain⟨i,i',o,k,h1,h3⟩:=jK (l:=r) h
  exact⟨i,i',o,k,h1.imp (fun h=>⟨h.1,List.mem_cons_of_mem _ h.2⟩) (fun h=>⟨h.1,List.mem_cons_of_mem _ h.2⟩),h3⟩
 | (.c i o,k)::r,h=>by
  have tail:(key,k')∈kT f r→∃i1 i' o1 k1,((key= .c i' o1∧(Key.c i1 o1,k1)∈(Key.c i o,k)::r)∨(key= .l i' o1∧(Key.l i1 o1,k1)∈(Key.c i o,k)::r))∧f i1=some i'∧k1.ren f=some k':=fun h=>by
   obtain⟨i,i',o,k,h1,h3⟩:=jK (l:=r) h
   exact⟨i,i',o,k,h1.imp (fun h=>⟨h.1,List.mem_cons_of_mem _ h.2⟩) (fun h=>⟨h.1,List.mem_cons_of_mem _ h.2⟩),h3⟩
  simp only [kT]at h
  split at h
  ·rename_i i' k2 hi hk
   rcases List.mem_cons.1 h with e | h
   ·injection e with e1 e2
    subst e1;subst e2
    exact⟨i,i',o,k,.inl ⟨rfl,List.mem_cons_self ..⟩,hi,hk⟩
   ·exact tail h
  ·exact tail h
 | (.l i o,k)::r,h=>by
  have tail:(key,k')∈kT f r→∃i1 i' o1 k1,((key= .c i' o1∧(Key.c i1 o1,k1)∈(Key.l i o,k)::r)∨(key= .l i' o1∧(Key.l i1 o1,k1)∈(Key.l i o,k)::r))∧f i1=some i'∧k1.ren f=some k':=fun h=>by
   obtain⟨i,i',o,k,h1,h3⟩:=jK (l:=r) h
   exact⟨i,i',o,k,h1.imp (fun h=>⟨h.1,List.mem_cons_of_mem _ h.2⟩) (fun h=>⟨h.1,List.mem_cons_of_mem _ h.2⟩),h3⟩
  simp only [kT]at h
  split at h
  ·rename_i i' k2 hi hk
   rcases List.mem_cons.1 h with e | h
   ·injection e with e1 e2
    subst e1;subst e2
    exact⟨i,i',o,k,.inr ⟨rfl,List.mem_cons_self ..⟩,hi,hk⟩
   ·exact tail h
  ·exact tail h
def AvD(θ:Th)(v:Value)(k:Option PK):AV→Prop
 | .v x=>x=v
 | .k p=>∃q,k=some q∧p.ren (cU θ)=some q
theorem AvD.mono {θ θ':Th}(h:Ext θ θ') {v:Value} {k:Option PK} {a:AV}(ha:AvD θ v k a):AvD θ' v k a:=by
 cases a with
 | v x=>exact ha
 | k p=>obtain⟨q,h1,h2⟩:=ha;exact⟨q,h1,PK.F7 h h2⟩
def Cq(θ:Th)(vs:List Value)(kc:Nat→Option PK)(i:Nat)(az:List AV):Prop:=az.length=vs.length∧∀j a v,nth az j=some a→nth vs j=some v→AvD θ v (kc (i+j)) a
theorem Cq.mono {θ θ':Th}(h:Ext θ θ') {vs:List Value} {kc:Nat→Option PK} {i:Nat} {az:List AV}(ha:Cq θ vs kc i az):Cq θ' vs kc i az:=⟨ha.1,fun j a v h1 h2=>(ha.2 j a v h1 h2).mono h⟩
theorem Dp {T:Type} {c:CP} {J:c.T T} {v:Value} {k:Option PK} {θ:Th} {F:T→Th→Prop}(h:apC c J v k θ F):∃J' θ' a,F J' θ'∧Ext θ θ'∧(∀G:T→AV→Prop,alC c J G→G J' a)∧AvD θ' v k a:=by
 cases c with
 | int kk=>
  cases v<;>simp only [apC]at h<;>skip
  rename_i k' x
  split at h
  ·rename_i he
   obtain rfl:=ot he
   exact⟨_,θ,.v (.int kk x),h,Ext.refl θ,fun G hG=>hG x,rfl⟩
  ·exact h.elim
 | bool=>
  cases v<;>simp only [apC]at h<;>skip
  exact⟨_,θ,_,h,Ext.refl θ,fun G hG=>hG _,rfl⟩
 | str=>
  cases v<;>simp only [apC]at h<;>skip
  exact⟨_,θ,_,h,Ext.refl θ,fun G hG=>hG _,rfl⟩
 | any=>exact⟨_,θ,.v v,h,Ext.refl θ,fun G hG=>hG _,rfl⟩
 | hdr=>
  cases v<;>simp only [apC]at h<;>skip
  exact⟨_,θ,_,h,Ext.refl θ,fun G hG=>hG _ _ _,rfl⟩
 | nsl=>
  simp only [apC]at h
  split at h
  ·exact⟨_,θ,_,h,Ext.refl θ,fun G hG=>hG,rfl⟩
  ·exact h.elim
 | nil=>
  simp only [apC]at h
  split at h
  ·exact⟨_,θ,_,h,Ext.refl θ,fun G hG=>hG,rfl⟩
  ·exact h.elim
 | fn f=>
  simp only [apC]at h
  split at h
  ·split at h
   ·rename_i he
    obtain rfl:=Nat.eq_of_beq_eq_true he
    exact⟨_,θ,_,h,Ext.refl θ,fun G hG=>hG,rfl⟩
   ·exact h.elim
  ·exact h.elim
 | ptr j=>
  simp only [apC]at h
  split at h
  ·rename_i id
   obtain⟨θ',h1,h2,h3⟩:=iz h
   exact⟨_,θ',_,h1,h2,fun G hG=>hG,_,rfl,by simp [PK.ren,h3]⟩
  ·exact h.elim
 | obj j path=>
  simp only [apC]at h
  split at h
  ·rename_i id p
   split at h
   ·rename_i he
    obtain⟨θ',h1,h2,h3⟩:=iz h
    exact⟨_,θ',_,h1,h2,fun G hG=>hG,_,rfl,by simp [PK.ren,h3,Nat.eq_of_beq_eq_true he]⟩
   ·exact h.elim
  ·exact h.elim
 | sl j=>
  simp only [apC]at h
  split at h
  ·rename_i id
   obtain⟨θ',h1,h2,h3⟩:=iz h
   exact⟨_,θ',_,h1,h2,fun G hG=>hG,_,rfl,by simp [PK.ren,h3]⟩
  ·exact h.elim
theorem tq {T:Type}:∀ {l:List CP} {J:Cg l T} {vs:List Value} {kc:Nat→Option PK} {i:Nat} {θ:Th} {F:T→Th→Prop},Jk l J vs kc i θ F→∃J' θ' az,F J' θ'∧Ext θ θ'∧(∀G:T→List AV→Prop,BB l J G→G J' az)∧Cq θ' vs kc i az
 | [],J,[],kc,i,θ,F,h=>⟨J,θ,[],h,Ext.refl θ,fun G hG=>hG,rfl,fun j a v ha=>by simp [nth]at ha⟩
 | [],_,_::_,_,_,_,_,h=>h.elim
 | c::l,J,[],_,_,_,_,h=>h.elim
 | c::l,J,v::vs,kc,i,θ,F,h=>by
  obtain⟨J1,θ1,a,h1,e1,g1,d1⟩:=Dp h
  obtain⟨J2,θ2,az,h2,e2,g2,d2⟩:=tq h1
  refine⟨J2,θ2,a::az,h2,e1.trans e2,fun G hG=>g2 (fun J'' vs=>G J'' (a::vs)) (g1 (fun J' a'=>BB l J' fun J'' vs=>G J'' (a'::vs)) hG),?_,fun j b u hb hu=>?_⟩
  ·simp [d2.1]
  ·cases j with
   | zero=>
    simp only [nth,Option.some.injEq]at hb hu
    subst hb;subst hu
    exact d1.mono e2
   | succ j=>
    have:=d2.2 j b u hb hu
    rwa [show i+1+j=i+(j+1)by omega]at this
def AaD(θ:Th)(v:Value)(k:Option Kn):AA→Prop
 | .one a=>AvD θ v (jc k) a
 | .agg az=>∃cs,v= .agg cs∧Cq θ cs.toList (Lf k) 0 az
theorem AaD.mono {θ θ':Th}(h:Ext θ θ') {v:Value} {k:Option Kn} {a:AA}(ha:AaD θ v k a):AaD θ' v k a:=by
 cases a with
 | one a=>exact AvD.mono h ha
 | agg az=>obtain⟨cs,e,hh⟩:=ha;exact⟨cs,e,hh.mono h⟩
theorem yX {T:Type}:∀ {l:List AP} {J:Cr U l T} {vs:List Value} {ks:List (Option Kn)} {θ:Th} {F:T→Th→Prop},yY l J vs ks θ F→∃J' θ' az,F J' θ'∧Ext θ θ'∧(∀G:T→List AA→Prop,wM l J G→G J' az)∧az.length=vs.length∧∀j a v,nth az j=some a→nth vs j=some v→∃k,nth ks j=some k∧AaD θ' v k a
 | [],J,[],ks,θ,F,h=>⟨J,θ,[],h,Ext.refl θ,fun G hG=>hG,rfl,fun j a v ha=>by simp [nth]at ha⟩
 | [],_,_::_,_,_,_,h=>by simp [yY]at h
 | _::_,_,[],_,_,_,h=>by simp [yY]at h
 | _::_,_,_::_,[],_,_,h=>by simp [yY]at h
 | a::l,J,v::vs,k::ks,θ,F,h=>by
  simp only [yY]at h
  have one:∃J' θ' x,yY l J' vs ks θ' F∧Ext θ θ'∧(∀G:Cr U l T→AA→Prop,alA a J G→G J' x)∧AaD θ' v k x:=by
   cases a with
   | one c=>
    obtain⟨J1,θ1,x,h1,e1,g1,d1⟩:=Dp (show apC c J v (jc k) θ _ from h)
    exact⟨J1,θ1,.one x,h1,e1,fun G hG=>g1 (fun J' y=>G J' (.one y)) hG,d1⟩
   | agg cs=>
    simp only [apA]at h
    split at h
    ·rename_i vs'
     obtain⟨J1,θ1,x,h1,e1,g1,d1⟩:=tq h
     exact⟨J1,θ1,.agg x,h1,e1,fun G hG=>g1 (fun J' y=>G J' (.agg y)) hG,vs',rfl,d1⟩
    ·exact h.elim
   | enc tt=>
    simp only [apA]at h
    split at h
    ·rename_i cs
     split at h
     ·rename_i x hx
      have e:=U.gO hx
      refine⟨_,θ,.agg (aG .v ((U.en tt).enc x)),h,Ext.refl θ,fun G hG=>hG x,cs,rfl,?_,fun j a v ha hv=>?_⟩
      ·rw [e,gA,List.length_map]
      ·rw [e,br,hv]at ha
       injection ha with ha
       subst ha;rfl
     ·exact h.elim
    ·exact h.elim
  obtain⟨J1,θ1,x,h1,e1,g1,d1⟩:=one
  obtain⟨J2,θ2,az,h2,e2,g2,l2,d2⟩:=yX h1
  refine⟨J2,θ2,x::az,h2,e1.trans e2,fun G hG=>g2 (fun J'' vs=>G J'' (x::vs)) (g1 (fun J' a'=>wM l J' fun J'' vs=>G J'' (a'::vs)) hG),by simp [l2],fun j b u hb hu=>?_⟩
  cases j with
  | zero=>
   simp only [nth,Option.some.injEq]at hb hu
   subst hb;subst hu
   exact⟨k,rfl,d1.mono e2⟩
  | succ j=>exact d2 j b u hb hu
def LkD(θ:Th)(kl:Nat→Option PK)(lk:List (Nat×Nat×Nat)):Prop:=∀p j q,(p,j,q)∈lk→∃i,kl p=some (.obj i q 0)∧cU θ j=some i
def PrD(θ:Th)(kc kl:Nat→Option PK):PR U→Res U→Prop
 | .ob t r s lk,x=>x= .ob t r s∧LkD θ kl lk
 | .blk g az T,x=>∃cs,x= .blk g cs T∧Cq θ cs kc 0 az
 | .lst t own T A c l,x=>∃own' T',x= .lst t own' T' A c l∧(own=true→own'=true∧T'=T)
theorem PrD.mono {θ θ':Th}(h:Ext θ θ') {kc kl:Nat→Option PK} {p:PR U} {x:Res U}(hp:PrD θ kc kl p x):PrD θ' kc kl p x:=by
 cases p with
 | ob t r s lk=>exact⟨hp.1,fun p j q hm=>by obtain⟨i,h1,h2⟩:=hp.2 p j q hm;exact⟨i,h1,h _ _ h2⟩⟩
 | blk g az T=>obtain⟨cs,e,hh⟩:=hp;exact⟨cs,e,hh.mono h⟩
 | lst t own T A c l=>exact hp
def KC:RP→Bool
 | .lst _ own _=>!own
 | _=>false
def KJ:PR U→Bool
 | .lst _ own _ _ _ _=>!own
 | _=>false
theorem yW:∀ {l:List (Nat×Nat×Nat)} {kl:Nat→Option PK} {θ:Th} {F:Th→Prop},Jj l kl θ F→∃θ',F θ'∧Ext θ θ'∧LkD θ' kl l
 | [],kl,θ,F,h=>⟨θ,h,Ext.refl θ,fun _ _ _ hm=>by cases hm⟩
 | (p,j,q)::l,kl,θ,F,h=>by
  simp only [Jj]at h
  split at h
  ·rename_i i q' hk
   split at h
   ·rename_i hq
    have hq:=Nat.eq_of_beq_eq_true hq
    subst hq
    obtain⟨θ1,h1,e1,g1⟩:=iz h
    obtain⟨θ2,h2,e2,g2⟩:=yW h1
    refine⟨θ2,h2,e1.trans e2,fun p' j' q'' hm=>?_⟩
    rcases List.mem_cons.1 hm with e | hm
    ·injection e with ea eb
     injection eb with eb ec
     subst ea;subst eb;subst ec
     exact⟨i,hk,e2 _ _ g1⟩
    ·exact g2 _ _ _ hm
   ·exact h.elim
  ·exact h.elim
theorem Ji {T:Type} {p:RP} {J:p.T U T} {r:Option (Res U)} {kc kl:Nat→Option PK} {θ:Th} {F:T→Th→Prop}(h:apR p J r kc kl θ F):∃J' θ' x y,r=some x∧F J' θ'∧Ext θ θ'∧(∀G:T→PR U→Prop,alR p J G→G J' y)∧PrD θ' kc kl y x∧KJ y=KC p:=by
 cases p with
 | ob t lk=>
  cases r with
  | none=>exact h.elim
  | some x=>
   cases x<;>simp only [apR]at h<;>skip
   rename_i t' r s
   split at h
   ·rename_i ht
    subst ht
    obtain⟨θ1,h1,e1,g1⟩:=yW h
    exact⟨_,θ1,_,.ob t' r s lk,rfl,h1,e1,fun G hG=>hG r s,⟨rfl,g1⟩,rfl⟩
   ·exact h.elim
 | blk l T'=>
  cases r with
  | none=>exact h.elim
  | some x=>
   cases x<;>simp only [apR]at h<;>skip
   rename_i g cs T''
   split at h
   ·rename_i ht
    obtain⟨J1,θ1,az,h1,e1,g1,d1⟩:=tq h
    exact⟨J1,θ1,_,.blk g az T',rfl,h1,e1,fun G hG=>g1 (fun J' cs=>G J' (.blk g cs T')) (hG g),⟨cs,by rw [Nat.eq_of_beq_eq_true ht],d1⟩,rfl⟩
   ·exact h.elim
 | lst t own T'=>
  cases r with
  | none=>exact h.elim
  | some x=>
   cases x<;>simp only [apR]at h<;>skip
   rename_i t' own' T'' A c l
   split at h
   ·rename_i hb
    split at h
    ·rename_i ht
     subst ht
     refine⟨_,θ,_,.lst t' own T' A c l,rfl,h,Ext.refl θ,fun G hG=>hG A c l,⟨own',T'',rfl,fun ho=>?_⟩,rfl⟩
     subst ho
     simp only [Bool.not_true,Bool.false_or,Bool.and_eq_true]at hb
     exact⟨hb.1,Nat.eq_of_beq_eq_true hb.2⟩
    ·exact h.elim
   ·exact h.elim
theorem yV {T:Type} {rs:List (Res U)} {kn:List (Key×Kn)}:∀ {l:List RP} {J:EG U l T} {j0:Nat} {θ:Th} {F:T→Th→Prop},Jh rs kn l J j0 θ F→∃J' θ' ps,F J' θ'∧Ext θ θ'∧(∀G:T→List (PR U)→Prop,wL l J G→G J' ps)∧ps.length=l.length∧
 ∀j p,nth ps j=some p→∃id x,cU θ' (j0+j)=some id∧nth rs id=some x∧PrD θ' (fun o=>jc (cV (.c id o) kn)) (fun q=>jc (cV (.l id q) kn)) p x∧∃q,nth l j=some q∧KJ p=KC q
 | [],J,j0,θ,F,h=>⟨J,θ,[],h,Ext.refl θ,fun G hG=>hG,rfl,fun j p hp=>by simp [nth]at hp⟩
 | p::l,J,j0,θ,F,h=>by
  simp only [Jh]at h
  split at h
  ·rename_i id hid
   obtain⟨J1,θ1,x,y,e0,h1,e1,g1,d1,q1⟩:=Ji h
   obtain⟨J2,θ2,ps,h2,e2,g2,l2,d2⟩:=yV h1
   refine⟨J2,θ2,y::ps,h2,e1.trans e2,fun G hG=>g2 (fun J'' xs=>G J'' (y::xs)) (g1 (fun J' y'=>wL l J' fun J'' xs=>G J'' (y'::xs)) hG),by simp [l2],fun j q hq=>?_⟩
   cases j with
   | zero=>
    simp only [nth,Option.some.injEq]at hq
    subst hq
    exact⟨id,x,e2 _ _ (e1 _ _ hid),e0,d1.mono e2,p,rfl,q1⟩
   | succ j=>
    obtain⟨id',x',h3,h4,h5,h6⟩:=d2 j q hq
    exact⟨id',x',by rw [show j0+(j+1)=j0+1+j by omega];exact h3,h4,h5,h6⟩
  ·exact h.elim
theorem vh {rs:List (Res U)}:∀ {l:List (Nat×Nat)} {θ:Th} {F:Th→Prop},Dn rs l θ F→∃θ',F θ'∧Ext θ θ'
 | [],θ,F,h=>⟨θ,h,Ext.refl θ⟩
 | (j,t)::l,θ,F,h=>by
  simp only [Dn]at h
  split at h
  ·obtain⟨θ1,h1,e1,_⟩:=iz h
   obtain⟨θ2,h2,e2⟩:=vh h1
   exact⟨θ2,h2,e1.trans e2⟩
  ·exact h.elim
structure eA(w0:World)(k0:Nat)(X0:Nat→Nat→Prop)(may:List Nat)(fr:Fr)(st:St U)(X:Nat→Nat→Prop)(w:World)(st':St U)(X':Nat→Nat→Prop)(w':World)(M:List Nat):Prop where
 inv:Inv w0 k0 X0 may st'.rs X' w'
 kn:av st'.rs fr st'.kn
 md:st'.md=M++st.md
 mlt:∀i,i∈M→i<st.rs.length
 can:∀i,i∈M→i∈may∨k0≤i
 len:st.rs.length≤st'.rs.length
 same:∀i,i<st.rs.length→i ∉ M→nth st'.rs i=nth st.rs i∧X' i=X i
 grow:∀i,i∈M→∀k,X' i k→X i k∨w.heap.size≤k
 new:∀i,st.rs.length≤i→i<st'.rs.length→∀k,X' i k→w.heap.size≤k
 ch:Ch (fun k=>∃j,j∈M∧X j k) w w'
 root:∀i a,nth st.rs i=some a→∃b,nth st'.rs i=some b∧di a b
theorem gD {i:Nat}(h:oI may k0 i=true):i∈may∨k0≤i:=by
 unfold oI at h
 split at h
 ·rename_i hb;exact .inr (Nat.le_of_ble_eq_true hb)
 ·exact .inl (fh.1 h)
theorem gE:∀ {M:List Nat} {us:List (Upd U)} {rs rs':List (Res U)},bO rs M us=some rs'→rs'.length=rs.length∧(∀i,i ∉ M→nth rs' i=nth rs i)∧∀i,i∈M→i<rs.length∧∀a,nth rs i=some a→∃b,nth rs' i=some b∧di a b
 | [],[],rs,rs',h=>by
  simp only [bO,Option.some.injEq]at h
  subst h
  exact⟨rfl,fun _ _=>rfl,fun i hi=>by cases hi⟩
 | [],_::_,_,_,h=>by simp [bO]at h
 | _::_,[],_,_,h=>by simp [bO]at h
 | i::M,u::us,rs,rs',h=>by
  simp only [bO]at h
  split at h
  ·rename_i r hr
   split at h
   ·rename_i r' Nn
    obtain⟨h1,h2,h3⟩:=gE h
    have hi:=bc hr
    simp only [rZ]at h1 h3
    have e:∀j,nth (cg rs i r') j=if j=i then some r' else nth rs j:=fun j=>by
     rw [bn]
     by_cases hj:j=i
     ·rw [if_pos ⟨hj,hi⟩,if_pos hj]
     ·rw [if_neg (fun hh=>hj hh.1),if_neg hj]
    refine⟨h1,fun j hj=>?_,fun j hj=>?_⟩
    ·rw [List.mem_cons,not_or]at hj
     rw [h2 j hj.2,e,if_neg hj.1]
    ·refine⟨?_,fun a ha=>?_⟩
     ·rcases List.mem_cons.1 hj with rfl | hj
      ·exact hi
      ·exact(h3 j hj).1
     ·by_cases Ob:j=i
      ·subst Ob
       rw [hr]at ha
       injection ha with ha
       subst ha
       have TG:=yT Nn
       by_cases hm:j∈M
       ·obtain⟨b,hb,hrb⟩:=(h3 j hm).2 r' (by rw [e,if_pos rfl])
        exact⟨b,hb,TG.trans hrb⟩
       ·exact⟨r',by rw [h2 j hm,e,if_pos rfl],TG⟩
      ·have hm:j∈M:=(List.mem_cons.1 hj).resolve_left Ob
       exact(h3 j hm).2 a (by rw [e,if_neg Ob];exact ha)
   ·cases h
  ·cases h
theorem qE {f:Nat→Option Nat}(Q5:∀a b i,f a=some i→f b=some i→a=b):∀ {ms M:List Nat} {us:List (Upd U)} {L L' G G':List (Res U)},iI f ms=some M→bO L ms us=some L'→bO G M us=some G'→Emb f L G→(∀j,j∈ms→∀r,nth L j=some r→∃i,f j=some i∧nth G i=some r)→
 Emb f L' G'∧∀j,j∈ms→∀r,nth L' j=some r→∃i,f j=some i∧nth G' i=some r
 | [],M,us,L,L',G,G',hM,hL,hG,hE,hR=>by
  simp only [iI,Option.some.injEq]at hM
  subst hM
  cases us with
  | cons u us=>simp [bO]at hL
  | nil=>
   simp only [bO,Option.some.injEq]at hL hG
   subst hL;subst hG
   exact⟨hE,fun j hj=>by cases hj⟩
 | m::ms,M,us,L,L',G,G',hM,hL,hG,hE,hR=>by
  simp only [iI]at hM
  split at hM
  ·rename_i i M' hi hM'
   injection hM with hM
   subst hM
   cases us with
   | nil=>simp [bO]at hL
   | cons u us=>
    simp only [bO]at hL hG
    split at hL
    ·rename_i r hr
     split at hL
     ·rename_i r1 Q2
      obtain⟨i',h1,h2⟩:=hR m (List.mem_cons_self ..) r hr
      rw [hi]at h1
      injection h1 with h1
      subst h1
      rw [h2]at hG
      simp only [Q2]at hG
      have hml:=bc hr
      have hil:=bc h2
      have key:∀j x,nth (cg L m r1) j=some x→(j=m∧x=r1)∨(j≠m∧nth L j=some x):=by
       intro j x hx
       rw [bn]at hx
       by_cases hj:j=m
       ·rw [if_pos ⟨hj,hml⟩]at hx
        injection hx with hx
        exact .inl ⟨hj,hx.symm⟩
       ·rw [if_neg (fun hh=>hj hh.1)]at hx
        exact .inr ⟨hj,hx⟩
      have keyG:∀j,nth (cg G i r1) j=if j=i then some r1 else nth G j:=fun j=>by
       rw [bn]
       by_cases hj:j=i
       ·rw [if_pos ⟨hj,hil⟩,if_pos hj]
       ·rw [if_neg (fun hh=>hj hh.1),if_neg hj]
      have r1':=qE Q5 hM' hL hG (fun j x hx=>by
       rcases key j x hx with⟨rfl,rfl⟩ | ⟨hj,hx⟩
       ·exact⟨i,_,hi,by rw [keyG,if_pos rfl],.inl rfl⟩
       ·obtain⟨a,b,h3,h4,h5⟩:=hE j x hx
        exact⟨a,b,h3,by rw [keyG,if_neg (by rintro rfl;exact hj (Q5 _ _ _ h3 hi))];exact h4,h5⟩) (fun j hj x hx=>by
       rcases key j x hx with⟨rfl,rfl⟩ | ⟨Pm,hx⟩
       ·exact⟨i,hi,by rw [keyG,if_pos rfl]⟩
       ·obtain⟨a,h3,h4⟩:=hR j (List.mem_cons_of_mem _ hj) x hx
        exact⟨a,h3,by rw [keyG,if_neg (by rintro rfl;exact Pm (Q5 _ _ _ h3 hi))];exact h4⟩)
      refine⟨r1'.1,fun j hj x hx=>?_⟩
      by_cases UW:j∈ms
      ·exact r1'.2 j UW x hx
      ·have ab9:j=m:=(List.mem_cons.1 hj).resolve_right UW
       subst ab9
       have a1:=(gE hL).2.1 j UW
       rw [hx,bn,if_pos ⟨rfl,hml⟩]at a1
       injection a1 with a1
       subst a1
       have hiM:i ∉ M':=by
        intro hh
        have:∀ {l M':List Nat},iI f l=some M'→i∈M'→∃a∈l,f a=some i:=by
         intro l
         induction l with
         | nil=>intro M' h hh;simp only [iI,Option.some.injEq]at h;subst h;cases hh
         | cons a l ih=>
          intro M' h hh
          simp only [iI]at h
          split at h
          ·rename_i b bs hb VV
           injection h with h
           subst h
           rcases List.mem_cons.1 hh with rfl | hh
           ·exact⟨a,List.mem_cons_self ..,hb⟩
           ·obtain⟨c,hc,hfc⟩:=ih VV hh
            exact⟨c,List.mem_cons_of_mem _ hc,hfc⟩
          ·cases h
        obtain⟨a,ha,hfa⟩:=this hM' hh
        exact UW (Q5 _ _ _ hfa hi▸ha)
       refine⟨i,hi,?_⟩
       rw [(gE hG).2.1 i hiM,keyG,if_pos rfl]
     ·cases hL
    ·cases hL
  ·cases hM
theorem yj {α β:Type} {f:α→Option β}:∀ {l:List α} {r:List β},iI f l=some r→∀b,b∈r→∃a,a∈l∧f a=some b
 | [],r,h,b,hb=>by
  simp only [iI,Option.some.injEq]at h
  subst h
  cases hb
 | a::l,r,h,b,hb=>by
  simp only [iI]at h
  split at h
  ·rename_i c cs hc Of
   injection h with h
   subst h
   rcases List.mem_cons.1 hb with rfl | hb
   ·exact⟨a,List.mem_cons_self ..,hc⟩
   ·obtain⟨x,hx,hfx⟩:=yj Of b hb
    exact⟨x,List.mem_cons_of_mem _ hx,hfx⟩
  ·cases h
theorem mu {α β:Type} {f:α→Option β}:∀ {l:List α} {r:List β},iI f l=some r→∀a,a∈l→∃b,b∈r∧f a=some b
 | [],r,h,a,ha=>by cases ha
 | a::l,r,h,x,hx=>by
  simp only [iI]at h
  split at h
  ·rename_i c cs hc Of
   injection h with h
   subst h
   rcases List.mem_cons.1 hx with rfl | hx
   ·exact⟨c,List.mem_cons_self ..,hc⟩
   ·obtain⟨b,hb,hfb⟩:=mu Of x hx
    exact⟨b,List.mem_cons_of_mem _ hb,hfb⟩
  ·cases h
theorem jO {ps:List (PR U)} {j:Nat}:nth (eg ps) j=(nth ps j).map (PR.fin (aG PR.jD ps)):=by
 unfold eg
 exact br _ _ _
@[simp] theorem Lt(ps:List (PR U)):(eg ps).length=ps.length:=by unfold eg;simp
theorem rn(ps:List (PR U))(p:PK):den U (eg ps) p=den U (aG PR.jD ps) p:=by
 unfold den
 rw [jO,br]
 cases nth ps p.id with
 | none=>rfl
 | some y=>cases y<;>cases p<;>rfl
theorem CX {i:Nat} {key:Key} {k:Kn}:∀ {l:List (Nat×Nat×Nat)},(key,k)∈lkK i l→∃p j q,(p,j,q)∈l∧key= .l i p∧k= .p (.obj j q 0)
 | (p,j,q)::l,h=>by
  rcases List.mem_cons.1 h with e | h
  ·injection e with e1 e2
   exact⟨p,j,q,List.mem_cons_self ..,e1,e2⟩
  ·obtain⟨p',j',q',h1,h2⟩:=CX (l:=l) h
   exact⟨p',j',q',List.mem_cons_of_mem _ h1,h2⟩
theorem jJ {key:Key} {k:Kn}:∀ {l:List (PR U)} {i:Nat},(key,k)∈wc i l→∃j t r s lk p j' q,nth l j=some (.ob t r s lk)∧(p,j',q)∈lk∧key= .l (i+j) p∧k= .p (.obj j' q 0)
 | [],_,h=>by cases h
 | .ob t r s lk::l,i,h=>by
  rcases List.mem_append.1 h with h | h
  ·obtain⟨p,j',q,h1,h2,h3⟩:=CX h
   exact⟨0,t,r,s,lk,p,j',q,rfl,h1,h2,h3⟩
  ·obtain⟨j,t,r,s,lk,p,j',q,h1,h2,h3,h4⟩:=jJ (l:=l) h
   exact⟨j+1,t,r,s,lk,p,j',q,h1,h2,by rw [h3];congr 1;omega,h4⟩
 | .blk _ _ _::l,i,h=>by
  obtain⟨j,t,r,s,lk,p,j',q,h1,h2,h3,h4⟩:=jJ (l:=l) h
  exact⟨j+1,t,r,s,lk,p,j',q,h1,h2,by rw [h3];congr 1;omega,h4⟩
 | .lst _ _ _ _ _ _::l,i,h=>by
  obtain⟨j,t,r,s,lk,p,j',q,h1,h2,h3,h4⟩:=jJ (l:=l) h
  exact⟨j+1,t,r,s,lk,p,j',q,h1,h2,by rw [h3];congr 1;omega,h4⟩
theorem uZ(f:Nat→Option Nat)(k:Option Kn)(v:Value):iL (C0 f k) v=iL k v:=by
 cases k with
 | none=>rfl
 | some k=>
  cases k with
  | p p=>show iL ((p.ren f).map .p) v=_;cases p.ren f<;>rfl
  | _=>rfl
theorem fi {rs:List (Res U)} {v:Value} {k:Option Kn}(h:KnO rs v k):Ending.returned v=iL k v:=by
 cases k with
 | none=>rfl
 | some k=>cases k<;>first | rfl | exact h.elim
theorem ve {f:Nat} {args:List Value} {ks:List (Option Kn)} {st:St U} {K:fE U} {w0:World} {X0 X:Nat→Nat→Prop} {w:World} {fr:Fr}(Ot:∀f c,tbl.c f=some c→LV U P f c)(hI:Inv w0 k0 X0 may st.rs X w)(hk:av st.rs fr st.kn)
 (hks:∀j v k,nth args j=some v→nth ks j=some k→KnO st.rs v k)(h:call2 U tbl may k0 f args ks st K):
 Calls P f ⟨args⟩ w fun e w'=>∃v k st' X' M,e=iL k v∧K v k st'∧(k=some .pan∨KnO st'.rs v k)∧eA w0 k0 X0 may fr st X w st' X' w' M:=by
 unfold call2 at h
 split at h
 ·exact h.elim
 rename_i c hc
 have hlv:=Ot f c hc
 obtain⟨B1,θ1,az,h,e1,g1,la,da⟩:=yX h
 obtain⟨θ2,h,e2⟩:=vh h
 obtain⟨B2,θ,ps,h,e3,g3,lp,dp⟩:=yV h
 split at h
 case h_2=>exact h.elim
 rename_i M hb hM
 simp only [Bool.and_eq_true]at hb
 obtain⟨PG,acj,Oe⟩:=hb
 split at h
 case h_2=>exact h.elim
 rename_i Oc
 have Q5:∀a b i,cU θ a=some i→cU θ b=some i→a=b:=fun a b i=>Kv PG
 have Nu:∀j i,cU θ j=some i→j<ps.length:=fun j i hj=>by
  have:=cI.1 acj _ (mf hj)
  rw [lp]
  simpa [Nat.blt_eq]using this
 have OB:∀ {p q v},p.ren (cU θ)=some q→den U st.rs q=some v→den U (aG PR.jD ps) p=some v:=by
  intro p q v hp hd
  obtain⟨y,hy⟩:=cu (Nu _ _ (PK.vP hp))
  obtain⟨id,x,h1,h2,h3,_⟩:=dp _ y hy
  rw [Nat.zero_add,PK.vP hp]at h1
  injection h1 with h1
  subst h1
  unfold den at hd ⊢
  rw [h2]at hd
  rw [br,hy,← hd]
  simp only [Option.map_some]
  cases y with
  | ob t r s lk=>
   cases h3.1
   cases p<;>simp only [PK.ren,Option.map_eq_some_iff]at hp<;>obtain⟨i,hi,rfl⟩:=hp<;>rfl
  | blk g as' T=>
   obtain⟨cs,rfl,_⟩:=h3
   cases p<;>simp only [PK.ren,Option.map_eq_some_iff]at hp<;>obtain⟨i,hi,rfl⟩:=hp<;>rfl
  | lst t own T A c' l=>
   obtain⟨own',T',rfl,_⟩:=h3
   cases p<;>simp only [PK.ren,Option.map_eq_some_iff]at hp<;>obtain⟨i,hi,rfl⟩:=hp<;>rfl
 have hav:∀ {v:Value} {k:Option PK} {a:AV},AvD θ v k a→(∀p,k=some p→den U st.rs p=some v)→jT (aG PR.jD ps) a=v:=by
  intro v k a ha Uh
  cases a with
  | v x=>exact ha
  | k p=>
   obtain⟨q,hq,hr⟩:=ha
   show(den U _ p).getD undef=v
   rw [OB hr (Uh q hq)];rfl
 have aaC:∀ {vs:List Value} {kc:Nat→Option PK} {az:List AV},Cq θ vs kc 0 az→(∀j v p,nth vs j=some v→kc j=some p→den U st.rs p=some v)→aG (jT (aG PR.jD ps)) az=vs:=by
  intro vs kc az hd Uh
  apply List.ext_getElem?
  intro j
  rw [← aH,← aH,br]
  cases ha:nth az j with
  | none=>
   have:vs.length≤j:=by
    rw [← hd.1]
    apply Nat.le_of_not_lt
    intro hh
    obtain⟨x,hx⟩:=cu hh
    rw [hx]at ha;cases ha
   rw [sz this];rfl
  | some a=>
   obtain⟨v,hv⟩:=cu (l:=vs) (i:=j) (by rw [← hd.1];exact bc ha)
   rw [hv]
   have hd':=hd.2 j a v ha hv
   rw [Nat.zero_add]at hd'
   exact congrArg some (hav hd' (fun p hp=>Uh j v p hv hp))
 have P7:aG (tv (aG PR.jD ps)) az=args:=by
  apply List.ext_getElem?
  intro j
  rw [← aH,← aH,br]
  cases ha:nth az j with
  | none=>
   have:args.length≤j:=by
    rw [← la]
    apply Nat.le_of_not_lt
    intro hh
    obtain⟨x,hx⟩:=cu hh
    rw [hx]at ha;cases ha
   rw [sz this];rfl
  | some a=>
   obtain⟨v,hv⟩:=cu (l:=args) (i:=j) (by rw [← la];exact bc ha)
   rw [hv]
   obtain⟨k,NS,hd⟩:=da j a v ha hv
   have hd:=hd.mono (e2.trans e3)
   have OU:=hks j v k hv NS
   cases a with
   | one a=>
    refine congrArg some (hav hd fun p hp=>?_)
    unfold jc at hp
    split at hp
    ·injection hp with hp;subst hp;exact OU
    ·cases hp
   | agg as'=>
    obtain⟨cs,rfl,hd2⟩:=hd
    have h9:=aaC hd2 (fun j v p hv hp=>by
     unfold Lf at hp
     split at hp
     ·rename_i l _
      obtain⟨cs',e,hh⟩:=OU
      injection e with e
      subst e
      split at hp
      ·rename_i o ho
       subst hp
       obtain⟨u,hu,hd⟩:=hh _ _ ho
       rw [aH]at hv
       have:some v=some u:=by rw [← hv,← hu];simp
       injection this with this
       rw [this];exact hd
      ·cases hp
     ·cases hp)
    show some (Value.agg ⟨aG _ as'⟩)=_
    rw [h9]
 have P4:Emb (cU θ) (eg ps) st.rs:=by
  intro j r hr
  rw [jO]at hr
  cases hy:nth ps j with
  | none=>rw [hy]at hr;cases hr
  | some y=>
   rw [hy]at hr
   injection hr with hr
   obtain⟨id,x,h1,h2,h3,_⟩:=dp _ y hy
   rw [Nat.zero_add]at h1
   refine⟨id,x,h1,h2,?_⟩
   cases y with
   | ob t r' s lk=>exact .inl (by rw [← hr,h3.1];rfl)
   | blk g as' T=>
    obtain⟨cs,rfl,hd⟩:=h3
    left
    rw [← hr]
    show Res.blk g (aG _ as') T=_
    rw [aaC hd fun o v p hv hp=>?_]
    unfold jc at hp
    split at hp
    ·rename_i q hq
     injection hp with hp
     subst hp
     obtain⟨g',cs',T',u,e4,e5,e6⟩:=hk.get hq
     rw [h2]at e4
     injection e4 with e4
     injection e4 with _ e4 _
     subst e4
     rw [hv]at e5
     injection e5 with e5
     subst e5
     exact e6
    ·cases hp
   | lst t own T A c' l=>
    obtain⟨own',T',rfl,ho⟩:=h3
    cases own with
    | false=>exact .inr ⟨t,own',T,T',A,c',l,hr.symm,rfl⟩
    | true=>
     obtain⟨ho1,P9⟩:=ho rfl
     left
     rw [← hr,ho1,P9];rfl
 have ab3:∀j,j∈c.bD→∀r,nth (eg ps) j=some r→∃i,cU θ j=some i∧nth st.rs i=some r:=by
  intro j hj r hr
  obtain⟨i,r',h1,h2,h3⟩:=P4 j r hr
  refine⟨i,h1,?_⟩
  rcases h3 with rfl | ⟨t,own,T,T',A,c',l,rfl,rfl⟩
  ·exact h2
  ·exfalso
   have hm:=cI.1 Oe j hj
   rw [jO]at hr
   cases hy:nth ps j with
   | none=>rw [hy]at hr;cases hr
   | some y=>
    rw [hy]at hr
    injection hr with hr
    obtain⟨_,_,_,_,_,q,hq,hqr⟩:=dp j y hy
    rw [hq]at hm
    have hy1:KJ y=true:=by
     cases y<;>simp only [PR.fin,reduceCtorEq]at hr
     injection hr with e1 e2
     subst e2;rfl
    rw [hy1]at hqr
    cases q<;>simp [KC]at hqr
    subst hqr
    simp at hm
 have Si:∀j i,cU θ j=some i→X ((cU θ j).getD 0)=X i:=fun j i hj=>by simp [hj]
 have hsat:Sat (eg ps) (fun j=>X ((cU θ j).getD 0)) w:=by
  refine⟨fun j r hr=>?_,fun i j hi hj NJ k OA=>?_⟩
  ·obtain⟨i,r',h1,h2,h3⟩:=P4 j r hr
   rw [Si j i h1]
   have:=hI.sat.res i r' h2
   rcases h3 with rfl | ⟨t,own,T,T',A,c',l,rfl,rfl⟩
   ·exact this
   ·exact this.rd
  ·obtain⟨x,hx⟩:=cu hi
   obtain⟨y,hy⟩:=cu hj
   obtain⟨a,_,h1,h2,_⟩:=P4 i x hx
   obtain⟨b,_,h3,h4,_⟩:=P4 j y hy
   rw [Si i a h1]at OA
   rw [Si j b h3]
   exact hI.sat.dis a b (bc h2) (bc h4) (fun e=>NJ (Q5 i j a h1 (e▸h3))) k OA
 have UY:=g3 _ (g1 _ hlv)
 have VL:av (eg ps) fr0 (wc 0 ps):=by
  intro key k hm
  obtain⟨j,t,r,s,lk,p,j',q,e1,e2,rfl,rfl⟩:=jJ hm
  rw [Nat.zero_add]
  obtain⟨id,x,h1,h2,h3,_⟩:=dp _ _ e1
  rw [Nat.zero_add]at h1
  obtain⟨h3,h4⟩:=h3
  obtain⟨i,h5,h6⟩:=h4 _ _ _ e2
  refine⟨t,r,s,by rw [jO,e1];rfl,?_⟩
  dsimp only at h5
  unfold jc at h5
  split at h5
  ·rename_i k' Qo
   injection h5 with h5
   subst h5
   obtain⟨t',r',s',g1,g2⟩:=hk.get Qo
   rw [h2,h3]at g1
   injection g1 with g1
   cases g1
   show den U (eg ps) (.obj j' q 0)=_
   rw [rn]
   exact OB (p:= .obj j' q 0) (q:= .obj i q 0) (by simp [PK.ren,h6]) g2
  ·cases h5
 have Qq:=UY _ h _ w hsat VL
 rw [P7]at Qq
 refine Qq.mono fun e w' hp=>?_
 obtain⟨out,rsl,Xl,rfl,hQ,NF,Pe⟩:=hp
 split at hQ
 case h_2=>exact hQ.elim
 rename_i rs' Tl
 obtain⟨ach,aah⟩:=qE Q5 hM NF Tl P4 ab3
 obtain⟨u1,u2,u3⟩:=gE Tl
 obtain⟨v1,v2,v3⟩:=gE NF
 have Up:∀i,i∈M→i<st.rs.length:=fun i hi=>(u3 i hi).1
 have hkl:c.res.length=ps.length:=lp.symm
 have Ri:rsl.length=ps.length:=by rw [v1];simp
 have Q8:Emb (Cx θ c.res.length st.rs.length) (rsl++out.news) (rs'++out.news):=by
  intro j r hr
  rw [bu]at hr
  unfold Cx
  by_cases hj:j<rsl.length
  ·rw [if_pos hj]at hr
   obtain⟨i,r',h1,h2,h3⟩:=ach j r hr
   have hb:Nat.blt j c.res.length=true:=by rw [Nat.blt_eq];omega
   rw [hb]
   exact⟨i,r',h1,by rw [bu,if_pos (bc h2)];exact h2,h3⟩
  ·rw [if_neg hj]at hr
   have hb:Nat.blt j c.res.length=false:=by
    cases hb:Nat.blt j c.res.length
    ·rfl
    ·rw [Nat.blt_eq]at hb;omega
   rw [hb]
   refine⟨_,r,rfl,?_,.inl rfl⟩
   rw [bu,if_neg (by omega),u1]
   rw [show st.rs.length+(j - c.res.length) - st.rs.length=j - rsl.length by omega]
   exact hr
 let X':Nat→Nat→Prop:=fun i=>open Classical in if h:∃j,j∈c.bD∧cU θ j=some i then Xl h.choose else if i<st.rs.length then X i else Xl (c.res.length+(i - st.rs.length))
 have hXM:∀j i,j∈c.bD→cU θ j=some i→X' i=Xl j:=by
  intro j i hj hi
  have hex:∃j,j∈c.bD∧cU θ j=some i:=⟨j,hj,hi⟩
  show(open Classical in if h:_ then _ else _)=_
  rw [dif_pos hex,Q5 _ _ _ hex.choose_spec.2 hi]
 have hMj:∀i,i∈M→∃j,j∈c.bD∧cU θ j=some i:=fun i hi=>yj hM i hi
 have hjM:∀j i,j∈c.bD→cU θ j=some i→i∈M:=by
  intro j i hj hi
  obtain⟨b,hb,Sg⟩:=mu hM j hj
  rw [hi]at Sg
  injection Sg with Sg
  exact Sg▸hb
 have hXs:∀i,i<st.rs.length→i ∉ M→X' i=X i:=by
  intro i hi hm
  show(open Classical in if h:_ then _ else _)=_
  rw [dif_neg (fun⟨j,hj,Ob⟩=>hm (hjM j i hj Ob)),if_pos hi]
 have hXn:∀i,st.rs.length≤i→X' i=Xl (c.res.length+(i - st.rs.length)):=by
  intro i hi
  show(open Classical in if h:_ then _ else _)=_
  rw [dif_neg (fun⟨j,hj,Ob⟩=>by have:=Up i (hjM j i hj Ob);omega),if_neg (by omega)]
 have Ui:∀j,j∈c.bD→j<ps.length:=by
  intro j hj
  obtain⟨b,_,hb⟩:=mu hM j hj
  exact Nu j b hb
 have ab5:∀j r,j∈c.bD→nth rsl j=some r→nth (rsl++out.news) j=some r:=fun j r hj hr=>by rw [bu,if_pos (bc hr)];exact hr
 have abR:∀j i r,j∈c.bD→cU θ j=some i→nth rs' i=some r→nth rsl j=some r:=by
  intro j i r hj hi hr
  obtain⟨r0,Uf⟩:=cu (l:=rsl) (i:=j) (by rw [Ri];exact Ui j hj)
  obtain⟨i',h1,h2⟩:=aah j hj r0 Uf
  rw [hi]at h1
  injection h1 with h1
  subst h1
  rw [hr]at h2
  injection h2 with h2
  rw [Uf,h2]
 have hq:Ch (fun k=>∃j,j∈M∧X j k) w w':=Pe.ch.mono fun k ⟨j,hj,hk⟩=>by
  obtain⟨b,hb,Sg⟩:=mu hM j hj
  exact⟨b,hb,by rw [Si j b Sg]at hk;exact hk⟩
 have UX:∀i,i∈M→∀k,X' i k→X i k∨w.heap.size≤k:=by
  intro i hi k hk
  obtain⟨j,hj,Ob⟩:=hMj i hi
  rw [hXM j i hj Ob]at hk
  have:=Pe.grow j hj k hk
  rwa [Si j i Ob]at this
 have hnlen:(rs'++out.news).length=st.rs.length+out.news.length:=by rw [List.length_append,u1]
 have VI:∀i,st.rs.length≤i→i<(rs'++out.news).length→∀k,X' i k→w.heap.size≤k:=by
  intro i h1 h2 k hk
  rw [hXn i h1]at hk
  exact Pe.new _ (by simp;omega) (by simp;omega) k hk
 have OW:∀i,i<st.rs.length→i ∉ M→nth (rs'++out.news) i=nth st.rs i∧X' i=X i:=fun i hi hm=>⟨by rw [bu,if_pos (by omega)];exact u2 i hm,hXs i hi hm⟩
 have hinv:Inv w0 k0 X0 may (rs'++out.news) X' w':=by
  refine hI.step M hq (fun j hj=>⟨Up j hj,gD (cI.1 Oc j hj)⟩) (by omega) OW ?_ UX VI ?_
  ·intro i hi r hr
   by_cases VQ:i∈M
   ·obtain⟨j,hj,Ob⟩:=hMj i VQ
    rw [bu,if_pos (by have:=Up i VQ;omega)]at hr
    have h1:=abR j i r hj Ob hr
    rw [hXM j i hj Ob]
    exact Pe.sat.res j r (ab5 j r hj h1)
   ·have hi:=hi.resolve_left VQ
    rw [bu,if_neg (by omega)]at hr
    rw [hXn i hi]
    refine Pe.sat.res _ r ?_
    rw [bu,if_neg (by omega)]
    rw [show c.res.length+(i - st.rs.length) - rsl.length=i - rs'.length by omega]
    exact hr
  ·intro i j hi hj NJ h1 h2 k hk
   have key:∀i,(i∈M∨st.rs.length≤i)→i<(rs'++out.news).length→∃a,X' i=Xl a∧a<(rsl++out.news).length∧((i∈M∧a∈c.bD∧cU θ a=some i)∨(st.rs.length≤i∧a=c.res.length+(i - st.rs.length))):=by
    intro i hi hil
    by_cases VQ:i∈M
    ·obtain⟨a,ha,hai⟩:=hMj i VQ
     exact⟨a,hXM a i ha hai,by have:=Ui a ha;simp;omega,.inl ⟨VQ,ha,hai⟩⟩
    ·have hi:=hi.resolve_left VQ
     exact⟨_,hXn i hi,by simp;omega,.inr ⟨hi,rfl⟩⟩
   obtain⟨a,ea,la',ca⟩:=key i hi h1
   obtain⟨b,eb,lb,cb⟩:=key j hj h2
   rw [ea]at hk
   rw [eb]
   refine Pe.sat.dis a b la' lb (fun Uo=>?_) k hk
   subst Uo
   rcases ca with⟨m1,m2,m3⟩ | ⟨m1,m2⟩<;>rcases cb with⟨n1,n2,n3⟩ | ⟨n1,n2⟩
   ·rw [m3]at n3;injection n3 with n3;exact NJ n3
   ·have:=Ui a m2;omega
   ·have:=Ui a n2;omega
   ·omega
 have hQ:=mr (fun i r hr=>⟨_,_,hinv.sat.res i r hr⟩) hQ
 refine⟨out.res,_,_,X',M,(uZ ..).symm,hQ,Pe.kr.imp (fun e=>by rw [e];rfl) Q8.knO,hinv,?_,rfl,Up,fun i hi=>gD (cI.1 Oc i hi),by simp only [];omega,OW,UX,VI,hq,fun i a ha=>by
  by_cases hi:i∈M
  ·obtain⟨b,hb,hr⟩:=(u3 i hi).2 a ha
   exact⟨b,by rw [bu,if_pos (bc hb)];exact hb,hr⟩
  ·exact⟨a,by rw [(OW i (bc ha) hi).1];exact ha,di.refl a⟩⟩
 refine av.app ?_ (av.fg hk (fun i hi hm=>(OW i hi hm).1) fun i hi a ha=>?_)
 ·intro key k' Nv
  obtain⟨i,i',o,k,⟨rfl,h1⟩ | ⟨rfl,h1⟩,h2,h3⟩:=jK Nv
  ·obtain⟨g,cs,T,v,e1,e2,e3⟩:=Pe.kc _ k h1 (fun _ e=>by cases e)
   obtain⟨i2,r',f1,f2,f3⟩:=Q8 i _ e1
   rw [h2]at f1
   injection f1 with f1
   subst f1
   rcases f3 with rfl | ⟨_,_,_,_,_,_,_,hh,_⟩
   ·exact⟨g,cs,T,v,f2,e2,Q8.kn h3 e3⟩
   ·cases hh
  ·obtain⟨t,r,s,e1,e2⟩:=Pe.kc _ k h1 (fun _ e=>by cases e)
   obtain⟨i2,r',f1,f2,f3⟩:=Q8 i _ e1
   rw [h2]at f1
   injection f1 with f1
   subst f1
   rcases f3 with rfl | ⟨_,_,_,_,_,_,_,hh,_⟩
   ·exact⟨t,r,s,f2,Q8.kn h3 e2⟩
   ·cases hh
 ·obtain⟨b,hb,hr⟩:=(u3 i hi).2 a ha
  exact⟨b,by rw [bu,if_pos (bc hb)];exact hb,hr⟩
end
end
section
section
variable {U:Uni} {P:Program} {tbl:Tb U} {may:List Nat} {k0:Nat}
variable {w0:World} {X0 X:Nat→Nat→Prop} {w:World} {fr:Fr} {st:St U} {Qp:Option (List PanicEntry→World→Prop)}
theorem vW:∀ {vs:List Value} {F:Prop},(∀v,v∈vs→one? v True)→F→pH vs F
 | [],_,_,h=>h
 | v::r,F,h1,h=>by
  have h2:=qY (h1 v (List.mem_cons_self ..))
  have h3:=vW (F:=F) (fun u hu=>h1 u (List.mem_cons_of_mem _ hu)) h
  unfold pH one?
  cases v<;>first | exact h3 | exact absurd rfl (h2.2.1 _) | exact absurd rfl (h2.2.2 _)
theorem nT(hI:Inv w0 k0 X0 may st.rs X w)(hk:av st.rs fr st.kn) {i:Nat} {a b:Res U}(ha:nth st.rs i=some a)(hc:oI may k0 i=true) {w':World}(q:Ch (X i) w w')(TG:di a b)(hb:RS (X i) w' b) {kn':List (Key×Kn)}(OU:av (cg st.rs i b) fr kn'):
 eA w0 k0 X0 may fr st X w ⟨cg st.rs i b,kn',i::st.md⟩ X w' [i]:=by
 have hi:=bc ha
 have hinv:=hI.set hi (gD hc) q hb (fun k hk=>.inl hk)
 have e:j7 X i (X i)=X:=by
  funext j
  unfold j7
  split
  ·rename_i h;rw [h]
  ·rfl
 rw [e]at hinv
 exact⟨hinv,OU,rfl,fun j hj=>by simp at hj;subst hj;exact hi,fun j hj=>by simp at hj;subst hj;exact gD hc,by simp,fun j hj Ob=>⟨by rw [bn,if_neg (fun hh=>Ob (by simp [hh.1]))],rfl⟩,fun _ _ _ h=>.inl h,fun j h1 h2=>by simp at h2;omega,q.mono fun k hk=>⟨i,by simp,hk⟩,fun j c hj=>by
  by_cases Ob:j=i
  ·subst Ob
   rw [ha]at hj
   injection hj with hj
   subst hj
   exact⟨b,by rw [bn,if_pos ⟨rfl,hi⟩],TG⟩
  ·exact⟨c,by rw [bn,if_neg (fun hh=>Ob hh.1)];exact hj,di.refl c⟩⟩
theorem px(hI:Inv w0 k0 X0 may st.rs X w)(hk:av st.rs fr st.kn) {r:Res U} {Z:Nat→Prop} {w':World}(q:Pu w w')(hr:RS Z w' r)(hz:∀k,Z k→w.heap.size≤k) {kn':List (Key×Kn)}(OU:av (st.rs++ [r]) fr kn'):
 eA w0 k0 X0 may fr st X w ⟨st.rs++ [r],kn',st.md⟩ (j7 X st.rs.length Z) w' []:=
 ⟨hI.more q hr hz,OU,rfl,fun j hj=>(by cases hj),fun j hj=>(by cases hj),by simp,fun i hi _=>⟨by rw [bu,if_pos hi],jg _ _ (by omega)⟩,fun i hi=>(by cases hi),fun i h1 h2 k hk=>by
  simp at h2
  obtain rfl:i=st.rs.length:=by omega
  rw [updX_eq]at hk
  exact hz k hk,q.mono fun k h=>h.elim,fun i a ha=>⟨a,by rw [bu,if_pos (bc ha)];exact ha,di.refl a⟩⟩
theorem rb(hk:av st.rs fr st.kn)(r:Res U):av (st.rs++ [r]) fr st.kn:=
 hk.fU (M:= []) (fun i hi _=>by rw [bu,if_pos hi]) (fun i hi=>by cases hi) fun key k h=>⟨h,fun p _=>.inl (by simp),fun id off _=>.inl (by simp)⟩
theorem Blk.rs {g:Nat} {cs:Array Value} {T:TypeId} {w':World}(h:Blk w' g cs T):RS (U:=U) (fun k=>k=g) w' (.blk g cs.toList T):=⟨rfl,fun _ h=>h,h⟩
theorem qk {α:Type}(vs L:List α)(off:Nat)(h:off+vs.length≤L.length):gR L off vs=L.take off++vs++L.drop (off+vs.length):=by
 apply List.ext_getElem?
 intro j
 rw [← aH,mq _ _ _ _ h,List.append_assoc]
 by_cases h3:off≤j∧j<off+vs.length
 ·rw [if_pos h3,List.getElem?_append_right (by simp;omega),List.getElem?_append_left (by simp;omega),aH]
  congr 1
  simp
  omega
 ·rw [if_neg h3,aH]
  by_cases h4:j<off
  ·rw [List.getElem?_append_left (by simp;omega),List.getElem?_take,if_pos h4]
  ·rw [List.getElem?_append_right (by simp;omega),List.getElem?_append_right (by simp;omega),List.getElem?_drop]
   congr 1
   simp
   omega
theorem iW.cells {rs:List (Res U)} {v:Value} {k:Kn}(h:iW rs v k)(hna:∀l,k≠ .ag l):v.cells= #[v]:=by
 cases k with
 | pan=>exact h.elim
 | ag l=>exact absurd rfl (hna l)
 | p k=>
  have h:cz U k (nth rs k.id)=some v:=h
  cases hn:nth rs k.id with
  | none=>rw [hn]at h;cases k<;>simp [cz]at h
  | some r=>
   rw [hn]at h
   cases k with
   | loc _ _=>cases r<;>simp only [cz,reduceCtorEq,Option.some.injEq]at h;subst h;rfl
   | obj _ _ _=>cases r<;>simp only [cz,reduceCtorEq,Option.some.injEq]at h;subst h;rfl
   | sl _ li=>
    simp only [cz]at h
    split at h
    ·injection h with h;subst h;rfl
    ·cases h
   | el _ li _ _=>
    simp only [cz]at h
    split at h
    ·split at h
     ·injection h with h;subst h;rfl
     ·cases h
    ·cases h
 | t l=>obtain⟨vs,rfl,_⟩:=h;rfl
 | f a b=>obtain⟨f,fs,cs,rfl,_,_⟩:=h;rfl
theorem m9 {id:Nat} {key:Key} {q:Kn}:∀ {l:List (Option PK)} {o:Nat},(key,q)∈wE id o l→∃j p,key= .c id (o+j)∧q= .p p∧nth l j=some (some p)
 | [],_,h=>by cases h
 | none::l,o,h=>by
  obtain⟨j,p,h1,h2,h3⟩:=m9 (l:=l) (o:=o+1) h
  exact⟨j+1,p,by rw [h1];congr 1;omega,h2,h3⟩
 | some p::l,o,h=>by
  rcases List.mem_cons.1 h with e | h
  ·injection e with e1 e2
   exact⟨0,p,e1,e2,rfl⟩
  ·obtain⟨j,p,h1,h2,h3⟩:=m9 (l:=l) (o:=o+1) h
   exact⟨j+1,p,by rw [h1];congr 1;omega,h2,h3⟩
theorem qA {rs:List (Res U)} {v:Value} {ky:Option Kn}(hv:KnO rs v ky) {id off:Nat} {sc:Bool} {key:Key} {q:Kn}(h:(key,q)∈cellsOf id off sc ky):∃j u,key= .c id (off+j)∧nth v.cells.toList j=some u∧iW rs u q:=by
 have one:∀ {k:Kn},ky=some k→(∀l,k≠ .ag l)→(key,q)∈(match sc with | true=>[(Key.c id off,k)] | false=>[])→∃j u,key= .c id (off+j)∧nth v.cells.toList j=some u∧iW rs u q:=by
  intro k hk hna hm
  subst hk
  split at hm
  ·simp only [List.mem_singleton,Prod.mk.injEq]at hm
   obtain⟨rfl,rfl⟩:=hm
   exact⟨0,v,rfl,by rw [iW.cells hv hna];rfl,hv⟩
  ·cases hm
 cases ky with
 | none=>cases h
 | some k=>
  cases k with
  | pan=>cases h
  | ag l=>
   obtain⟨j,p,h1,h2,h3⟩:=m9 h
   obtain⟨cs,rfl,hh⟩:=hv
   obtain⟨u,hu,hd⟩:=hh j p h3
   subst h2
   exact⟨j,u,h1,by show nth cs.toList j=_;rw [aH];simpa using hu,hd⟩
  | p p=>exact one rfl (fun l e=>by cases e) h
  | t l=>exact one rfl (fun l e=>by cases e) h
  | f a b=>exact one rfl (fun l e=>by cases e) h
theorem av.roots {rs rs':List (Res U)} {fr:Fr} {kn:List (Key×Kn)}(h:av rs fr kn)(hr:∀i a,nth rs i=some a→∃b,nth rs' i=some b∧(a=b∨∃t own T A c l l',a= .lst t own T A c l∧b= .lst t own T A c l'∧l'.length=l.length)):av rs' fr kn:=by
 have hd:∀p u,den U rs p=some u→den U rs' p=some u:=by
  intro p u hu
  unfold den at hu ⊢
  cases hn:nth rs p.id with
  | none=>rw [hn]at hu;cases p<;>simp [cz]at hu
  | some a=>
   rw [hn]at hu
   obtain⟨b,hb,rfl | ⟨t,own,T,A,c,l,l',rfl,rfl,hl⟩⟩:=hr _ _ hn
   ·rw [hb];exact hu
   ·rw [hb,← hu];cases p<;>simp only [cz,jv,hl]
 intro key k hk
 have h0:=h key k hk
 cases key with
 | s i=>exact iW.mono h0 fun p _=>hd p
 | c id off=>
  obtain⟨g,cs,T,v,e1,e2,e3⟩:=h0
  obtain⟨b,hb,rfl | ⟨_,_,_,_,_,_,_,hh,_⟩⟩:=hr _ _ e1
  ·exact⟨g,cs,T,v,hb,e2,e3.mono fun p _=>hd p⟩
  ·cases hh
 | l id path=>
  obtain⟨t,r,s,e1,e2⟩:=h0
  obtain⟨b,hb,rfl | ⟨_,_,_,_,_,_,_,hh,_⟩⟩:=hr _ _ e1
  ·exact⟨t,r,s,hb,e2.mono fun p _=>hd p⟩
  ·cases hh
theorem jB {t:TypeId} {x y:Operand} {p:Addr} {fr:Fr} {dst:Option Tmp} {ty:TypeId} {pos:String} {after:Array Edge} {gd:Option (Nat×Bool)} {Y:Bool} {K:aC}(hx:ev fr x= .pointer (some p))(Oa:Iz P t=false)(NA:Nat.beq (ev fr y).cells.toList.length (bH P t)=true)(hT:hasType P t=true)
 (h1:∀v,v∈(ev fr y).cells.toList→one? v True)(h:aF w p (ev fr y).cells.toList fun w'=>K undef w'):opW P Y Qp ⟨dst,.store t x y,ty,pos,after,gd⟩ (ev fr) w K:=by
 refine CN (C:= []) rfl ?_
 show(match ev fr x with
  | .pointer a=>match dJ P t with
   | .row n=>(match hasType P t && Nat.beq n (bH P t),ev fr y with
    | true,.agg cs=>au a fun p=>cs.size=n∧(∀v∈cs.toList,one? v True)∧aF w p cs.toList fun w'=>K undef w'
    | _,_=>False)
   | _=>match Nat.beq (ev fr y).cells.toList.length (bH P t) && hasType P t with
    | true=>au a fun p=>pH (ev fr y).cells.toList (aF w p (ev fr y).cells.toList fun w'=>K undef w')
    | false=>False
  | _=>False)
 rw [hx]
 unfold Iz at Oa
 cases hs:dJ P t with
 | row n=>rw [hs]at Oa;cases Oa
 | one s=>simp only [NA,hT];exact ah p rfl (vW h1 h)
 | agg l=>simp only [NA,hT];exact ah p rfl (vW h1 h)
theorem step_done {K:fE U} {st':St U} {X':Nat→Nat→Prop} {w':World} {M l:List Nat} {v:Value} {k:Option Kn}(hs:eA w0 k0 X0 may fr st X w st' X' w' M)(hv:KnO st'.rs v k)(h:nmL st'.rs l fun NM=>K v k ⟨NM,st'.kn,st'.md⟩):
 ∃k st' X' M,K v k st'∧KnO st'.rs v k∧eA w0 k0 X0 may fr st X w st' X' w' M:=
 ⟨k,st',X',M,mr (F:=fun NM=>K v k ⟨NM,st'.kn,st'.md⟩) (fun i r hr=>⟨_,_,hs.inv.sat.res i r hr⟩) h,hv,hs⟩
theorem vY {tt:Nat} {r:Nat→Nat} {s s':U.ty tt} {id:Nat} {K:fE U}(hI:Inv w0 k0 X0 may st.rs X w)(hk:av st.rs fr st.kn)(hn:nth st.rs id=some (.ob tt r s))(Oc:oI may k0 id=true) {w2:World}(hq:Ch (X id) w w2)(NZ:U.pred tt r s' (X id) w2)
 (hK:nmL (cg st.rs id (.ob tt r s')) [id] fun NM=>K undef none ⟨NM,fg [id] st.kn,id::st.md⟩):
 ∃k st' X' M,K undef k st'∧KnO st'.rs undef k∧eA w0 k0 X0 may fr st X w st' X' w2 M:=by
 refine step_done (k:=none) (st':=⟨cg st.rs id (.ob tt r s'),fg [id] st.kn,id::st.md⟩) (nT hI hk hn Oc hq (.ob tt r s s') NZ ?_) trivial hK
 refine hk.fg (M:= [id]) (fun i _ hi=>by rw [bn,if_neg (fun hh=>hi (by simp [hh.1]))]) fun i hi a ha=>?_
 simp only [List.mem_singleton]at hi
 subst hi
 rw [hn]at ha
 injection ha with ha
 subst ha
 exact⟨_,by rw [bn,if_pos ⟨rfl,bc hn⟩],.ob tt r s s'⟩
theorem AG {t:TypeId} {x y:Operand} {p:Addr} {n:Nat} {cs:Array Value} {fr:Fr} {dst:Option Tmp} {ty:TypeId} {pos:String} {after:Array Edge} {gd:Option (Nat×Bool)} {Y:Bool} {K:aC}(hx:ev fr x= .pointer (some p))(Oa:dJ P t= .row n)(hy:ev fr y= .agg cs)(hn:Nat.beq n (bH P t)=true)(hc:cs.size=n)(hT:hasType P t=true)
 (h1:∀v,v∈cs.toList→one? v True)(h:aF w p cs.toList fun w'=>K undef w'):opW P Y Qp ⟨dst,.store t x y,ty,pos,after,gd⟩ (ev fr) w K:=by
 refine CN (C:= []) rfl ?_
 show(match ev fr x with
  | .pointer a=>match dJ P t with
   | .row n=>(match hasType P t && Nat.beq n (bH P t),ev fr y with
    | true,.agg cs=>au a fun p=>cs.size=n∧(∀v∈cs.toList,one? v True)∧aF w p cs.toList fun w'=>K undef w'
    | _,_=>False)
   | _=>match Nat.beq (ev fr y).cells.toList.length (bH P t) && hasType P t with
    | true=>au a fun p=>pH (ev fr y).cells.toList (aF w p (ev fr y).cells.toList fun w'=>K undef w')
    | false=>False
  | _=>False)
 rw [hx,Oa,hy]
 simp only [hT,hn,Bool.and_self]
 exact ah p rfl ⟨hc,h1,h⟩
theorem xJ {t:TypeId} {x y:Operand} {K:fE U}(hI:Inv w0 k0 X0 may st.rs X w)(hk:av st.rs fr st.kn)(h:vJ U P may k0 t (kf st.kn x) (ev fr y) st K) {Y:Bool} {dst:Option Tmp} {ty:TypeId} {pos:String} {after:Array Edge} {gd:Option (Nat×Bool)}:
 opW P Y Qp ⟨dst,.store t x y,ty,pos,after,gd⟩ (ev fr) w fun v w'=>∃k st' X' M,K v k st'∧KnO st'.rs v k∧eA w0 k0 X0 may fr st X w st' X' w' M:=by
 unfold vJ at h
 have O2:=hk.kf x
 split at h
 ·rename_i n id path off cs Oa OU hy
  rw [OU]at O2
  split at h
  ·rename_i tt r s hb hn Oc
   obtain⟨h,h1⟩:=gz h
   simp only [Bool.and_eq_true]at hb
   split at h
   ·rename_i c s' OT
    obtain⟨hc,hK⟩:=h
    have hd:den U st.rs (.obj id path off)=some (ev fr x):=O2
    simp only [den,PK.id,hn,cz,Option.some.injEq]at hd
    have hp:U.pred tt r s (X id) w:=hI.sat.res id _ hn
    exact AG (p:=⟨r path,off,none⟩) hd.symm Oa hy hb.2.1 (by have:=Nat.eq_of_beq_eq_true hb.2.2;simpa using this) hb.1 h1 (U.rC hp OT hc fun w2 NZ hq=>vY hI hk hn Oc hq NZ hK)
   ·exact h.elim
  ·exact h.elim
 ·exact h.elim
theorem AH {t:TypeId} {x y:Operand} {K:fE U}(hI:Inv w0 k0 X0 may st.rs X w)(hk:av st.rs fr st.kn)(h:AI U P may k0 t (kf st.kn x) (ev fr y) (kf st.kn y) st K) {Y:Bool} {dst:Option Tmp} {ty:TypeId} {pos:String} {after:Array Edge} {gd:Option (Nat×Bool)}:
 opW P Y Qp ⟨dst,.store t x y,ty,pos,after,gd⟩ (ev fr) w fun v w'=>∃k st' X' M,K v k st'∧KnO st'.rs v k∧eA w0 k0 X0 may fr st X w st' X' w' M:=by
 unfold AI at h
 split at h
 ·exact xJ hI hk h
 split at h
 ·exact h.elim
 rename_i OJ
 simp only [Bool.and_eq_true,Bool.not_eq_true']at OJ
 obtain⟨Oa,NA,hT⟩:=OJ
 have Pk:(ev fr y).cells.toList.length=bH P t:=Nat.eq_of_beq_eq_true NA
 have O2:=hk.kf x
 have hky:=hk.kf y
 split at h
 ·rename_i id off OU
  rw [OU]at O2
  split at h
  ·rename_i g cs T hn Oc
   split at h
   ·rename_i hb
    obtain⟨h,h1⟩:=gz h
    have hb:off+bH P t≤cs.length:=Nat.le_of_ble_eq_true hb
    have hd:den U st.rs (.loc id off)=some (ev fr x):=O2
    simp only [den,PK.id,hn,cz,Option.some.injEq]at hd
    obtain⟨hg,hX,VW⟩:=hI.sat.res id _ hn
    refine jB hd.symm Oa NA hT h1 ⟨g,off,⟨cs⟩,T,rfl,VW,by simpa [Pk]using hb,fun w2 hs=>?_⟩
    rw [ql]at hs
    have q:Ch (X id) w w2:=(bN.ch hs).mono fun k e=>e▸hg
    refine⟨none,_,X,[id],h,trivial,nT hI hk hn Oc q (.blk g cs (gR cs off (ev fr y).cells.toList) T (by simp)) (show RS (X id) w2 (.blk g (gR cs off (ev fr y).cells.toList) T)from⟨hg,hX,hs.blk⟩) ?_⟩
    have N7:∀i,i∈ [id]→∀a,nth st.rs i=some a→∃b,nth (cg st.rs id (.blk g (gR cs off (ev fr y).cells.toList) T)) i=some b∧di a b:=by
     intro i hi a ha
     simp at hi
     subst hi
     rw [hn]at ha
     injection ha with ha
     subst ha
     exact⟨_,by rw [bn,if_pos ⟨rfl,bc hn⟩],.blk _ _ _ _ (by simp)⟩
    have Rt:∀i,i<st.rs.length→i ∉ [id]→nth (cg st.rs id (.blk g (gR cs off (ev fr y).cells.toList) T)) i=nth st.rs i:=fun i _ hi=>by rw [bn,if_neg (fun hh=>hi (by simp [hh.1]))]
    have VF:∀ {k:Kn} {v:Value},iW st.rs v k→∀p,k.has p→p.id ∉ [id]∨p.ofList p.id=false:=by
     intro k v QI p hp
     by_cases Wl:p.id=id
     ·right
      cases ho:p.ofList p.id
      ·rfl
      ·exfalso
       have hdd:∃u,den U st.rs p=some u:=by
        cases k with
        | pan=>exact hp.elim
        | p k=>cases hp;exact⟨_,QI⟩
        | t l=>obtain⟨j,hj⟩:=hp;obtain⟨vs,_,h3⟩:=QI;obtain⟨u,_,hu⟩:=h3 j p hj;exact⟨u,hu⟩
        | ag l=>obtain⟨j,hj⟩:=hp;obtain⟨vs,_,h3⟩:=QI;obtain⟨u,_,hu⟩:=h3 j p hj;exact⟨u,hu⟩
        | f a b=>
         obtain⟨f,fs,cs,_,_,h3,h4⟩:=QI
         rcases hp with⟨j,hj⟩ | ⟨j,hj⟩
         ·obtain⟨u,_,hu⟩:=h3 j p hj;exact⟨u,hu⟩
         ·obtain⟨u,_,hu⟩:=h4 j p hj;exact⟨u,hu⟩
       obtain⟨u,hu⟩:=hdd
       unfold den at hu
       rw [Wl,hn]at hu
       cases p<;>simp_all [cz,PK.ofList,PK.id,jv]
     ·exact .inl (by simpa using Wl)
    refine av.app ?_ (hk.fU Rt N7 fun key k hm=>?_)
    ·intro key q hq
     obtain⟨j,u0,rfl,hu0,QI⟩:=qA hky hq
     refine⟨g,_,T,u0,by rw [bn,if_pos ⟨rfl,bc hn⟩],?_,QI.mono fun p hp u hu=>oA Rt N7 (VF QI p hp) hu⟩
     have hj:=bc hu0
     rw [mq _ _ _ _ (by omega),if_pos ⟨by omega,by omega⟩,show off+j - off=j by omega,hu0]
    ·obtain⟨UT,Rk⟩:=dD hm
     have h0:=hk _ _ UT
     refine⟨UT,?_,fun id' off' e=>?_⟩
     ·cases key with
      | s i=>exact VF h0
      | c i o=>obtain⟨_,_,_,_,_,_,h0⟩:=h0;exact VF h0
      | l i o=>obtain⟨_,_,_,_,h0⟩:=h0;exact VF h0
     ·subst e
      by_cases hi:id'=id
      ·subst hi
       right
       obtain⟨g',cs',T',v,e1,_⟩:=h0
       rw [hn]at e1
       injection e1 with e1
       injection e1 with e1 e2 e3
       subst e1;subst e2;subst e3
       refine⟨g,cs,_,T,hn,by rw [bn,if_pos ⟨rfl,bc hn⟩],?_⟩
       rw [mq _ _ _ _ (by omega),if_neg]
       simp only [Key.C5,Nat.beq_refl,Bool.true_and,Bool.not_eq_true',Bool.and_eq_false_iff]at Rk
       rintro⟨h3,h4⟩
       rcases Rk with h5 | h5
       ·rw [Nat.ble_eq_true_of_le h3]at h5;cases h5
       ·have:Nat.blt off' (off+bH P t)=true:=by rw [Nat.blt_eq];omega
        rw [this]at h5;cases h5
      ·exact .inl (by simpa using hi)
   ·exact h.elim
  ·exact h.elim
 ·rename_i id i off OU
  rw [OU]at O2
  split at h
  ·rename_i tt T A c l hn Oc
   split at h
   ·rename_i hb
    obtain⟨h,h1⟩:=gz h
    have hb:off+bH P t≤(U.en tt).size:=Nat.le_of_ble_eq_true hb
    obtain⟨x',Sa,hK⟩:=dz h
    have hd:den U st.rs (.el id 0 i off)=some (ev fr x):=O2
    simp only [den,PK.id,hn,cz,jv]at hd
    split at hd
    case isFalse=>cases hd
    rename_i hr
    injection hd with hd
    obtain⟨ho,Nu⟩:Own w (X id) T A l.length c l∧∀k,X id k→k<w.heap.size:=hI.sat.res id _ hn
    have Wo:i.toNat<l.length:=by omega
    obtain⟨g,hA,hZ,hgl⟩:=ho.lt (by omega)
    have TI:=ho.len
    have O3:l[i.toNat]? =some (l.getD i.toNat (U.df tt)):=by rw [List.getD_eq_getElem?_getD,List.getElem?_eq_getElem (by omega)];rfl
    have VT:=U.gO Sa
    have hel:(U.en tt).enc (l.getD i.toNat (U.df tt))=enc (l.getD i.toNat (U.df tt)):=rfl
    have hlen:(enc (l.getD i.toNat (U.df tt))).length=(U.en tt).size:=cy _
    have Vw:enc x'=(enc (l.getD i.toNat (U.df tt))).take off++(ev fr y).cells.toList++(enc (l.getD i.toNat (U.df tt))).drop (off+(ev fr y).cells.toList.length):=by
     show(U.en tt).enc x'=_
     rw [VT,hel]
     exact qk _ _ _ (by rw [hlen,Pk];exact hb)
    refine jB (p:=elA U tt A i off) hd.symm Oa NA hT h1 ?_
    have OT:=ho.st (p:=Addr.mk g 0 none) hA Wo O3 (o:=off) (vs:=(ev fr y).cells.toList) (by rw [Pk];exact hb) Vw (K:=fun w2=>∃k st' X' M,K undef k st'∧KnO st'.rs undef k∧eA w0 k0 X0 may fr st X w st' X' w2 M) (fun w2 P9 hq=>by
     refine step_done (k:=none) (st':=⟨cg st.rs id (.lst tt true T A c (l.set i.toNat x')),st.kn,id::st.md⟩) (nT hI hk hn Oc hq (.lst tt true T A A c c l (l.set i.toNat x')) (show RS (X id) w2 (.lst tt true T A c (l.set i.toNat x'))from⟨by rw [List.length_set];exact P9,fun k hk=>Nat.lt_of_lt_of_le (Nu k hk) hq.size⟩) ?_) trivial hK
     refine hk.roots fun j a ha=>?_
     by_cases hj:j=id
     ·subst hj
      rw [hn]at ha
      injection ha with ha
      exact⟨_,by rw [bn,if_pos ⟨rfl,bc hn⟩],.inr ⟨_,_,_,_,_,_,_,ha.symm,rfl,List.length_set ..⟩⟩
     ·exact⟨a,by rw [bn,if_neg (fun hh=>hj hh.1)];exact ha,.inl rfl⟩)
    unfold elA
    rw [hA]
    exact OT
   ·exact h.elim
  ·rename_i tt r s hn Oc
   split at h
   ·rename_i L hL
    split at h
    ·rename_i hb
     obtain⟨h,h1⟩:=gz h
     have hb:off+bH P t≤(U.en L.t).size:=Nat.le_of_ble_eq_true hb
     obtain⟨x',Sa,h⟩:=dz h
     split at h
     ·rename_i c s' OT
      obtain⟨hc,hK⟩:=h
      have hd:den U st.rs (.el id 0 i off)=some (ev fr x):=O2
      simp only [den,PK.id,hn,cz,jv,hL]at hd
      split at hd
      case isFalse=>cases hd
      rename_i hr
      injection hd with hd
      have hp:U.pred tt r s (X id) w:=hI.sat.res id _ hn
      have O3:L.l[i.toNat]? =some (L.l.getD i.toNat (U.df L.t)):=by rw [List.getD_eq_getElem?_getD,List.getElem?_eq_getElem (by omega)];rfl
      have VT:=U.gO Sa
      have hlen:((U.en L.t).enc (L.l.getD i.toNat (U.df L.t))).length=(U.en L.t).size:=(U.en L.t).len _
      have Vw:(U.en L.t).enc x'=((U.en L.t).enc (L.l.getD i.toNat (U.df L.t))).take off++(ev fr y).cells.toList++((U.en L.t).enc (L.l.getD i.toNat (U.df L.t))).drop (off+(ev fr y).cells.toList.length):=by
       rw [VT]
       exact qk _ _ _ (by rw [hlen,Pk];exact hb)
      refine jB (p:=elA U L.t L.A i off) hd.symm Oa NA hT h1 ?_
      exact U.rR hp hL O3 (by rw [Pk];exact hb) Vw OT hc fun w2 NZ hq=>vY hI hk hn Oc hq NZ hK
     ·exact h.elim
    ·exact h.elim
   ·exact h.elim
  ·exact h.elim
 ·rename_i id path off OU
  rw [OU]at O2
  split at h
  ·rename_i tt r s v hn Oc Of
   obtain⟨h,h1⟩:=gz h
   split at h
   ·rename_i c s' OT
    obtain⟨hc,hK⟩:=h
    have hd:den U st.rs (.obj id path off)=some (ev fr x):=O2
    simp only [den,PK.id,hn,cz,Option.some.injEq]at hd
    have hp:U.pred tt r s (X id) w:=hI.sat.res id _ hn
    rw [Of]at Pk
    refine jB (p:=⟨r path,off,none⟩) hd.symm Oa NA hT (by rw [Of];exact h1) ?_
    rw [Of]
    exact U.sQ hp OT hc fun w2 NZ hq=>vY hI hk hn Oc hq NZ hK
   ·exact h.elim
  ·rename_i tt r s v v2 vs hn Oc Of
   obtain⟨h,h1⟩:=gz h
   split at h
   ·rename_i c s' OT
    obtain⟨hc,hK⟩:=h
    have hd:den U st.rs (.obj id path off)=some (ev fr x):=O2
    simp only [den,PK.id,hn,cz,Option.some.injEq]at hd
    have hp:U.pred tt r s (X id) w:=hI.sat.res id _ hn
    refine jB (p:=⟨r path,off,none⟩) hd.symm Oa NA hT (by rw [Of];exact h1) ?_
    rw [Of]
    exact U.rC hp OT hc fun w2 NZ hq=>vY hI hk hn Oc hq NZ hK
   ·exact h.elim
  ·exact h.elim
 ·exact h.elim
theorem Ev {t:TypeId} {z:Value}(h:(P.info? t).bind (·.zero)=some z)(w:World):(Instr.alloc t true (.tuple #[])).run P w= .ok (.pointer (some ⟨w.heap.size,0,none⟩)) (w.alloc (.cells z.cells t)):=by
 cases hi:P.info? t with
 | none=>rw [hi]at h;cases h
 | some i=>
  rw [hi]at h
  have h:i.zero=some z:=h
  have hz:(zeroValue t).run P w= .ok z w:=by
   unfold zeroValue
   rw [Sem.run_bind,run_typeInfo (w:=w) hi,Result.andThen_ok,h]
   rfl
  unfold Instr.alloc
  rw [Sem.run_bind,hz,Result.andThen_ok]
  rfl
theorem yf {cs:List Value} {T:TypeId} {ck:Option Kn} {K:fE U}(hI:Inv w0 k0 X0 may st.rs X w)(hk:av st.rs fr st.kn) {v0:Value}(OJ:KnO st.rs v0 ck)(Of:ck=none∨v0.cells.toList=cs)(h:IS U cs T ck st K):
 ∃k st' X' M,K (.pointer (some ⟨w.heap.size,0,none⟩)) k st'∧KnO st'.rs (.pointer (some ⟨w.heap.size,0,none⟩)) k∧eA w0 k0 X0 may fr st X w st' X' (w.alloc (.cells ⟨cs⟩ T)) M:=by
 have hm:Made w w.heap.size ⟨cs⟩ T (w.alloc (.cells ⟨cs⟩ T)):=made rfl rfl
 unfold IS at h
 split at h
 ·rename_i t s hmk
  have P2:nth (st.rs++ [Res.ob t (fun _=>w.heap.size) s]) st.rs.length=some (.ob t (fun _=>w.heap.size) s):=by rw [bu,if_neg (by omega),Nat.sub_self];rfl
  refine step_done (px hI hk hm.pu (Z:=fun k=>k=w.heap.size) (show RS (fun k=>k=w.heap.size) _ (.ob t (fun _=>w.heap.size) s)from U.v5 hmk hm.blk) (fun k e=>by rw [e];exact Nat.le_refl _) (rb hk _)) ?_ (h w.heap.size)
  show den U _ (.obj _ 0 0)=_
  simp only [den,PK.id,P2,cz]
 have P2:nth (st.rs++ [Res.blk w.heap.size cs T]) st.rs.length=some (.blk w.heap.size cs T):=by rw [bu,if_neg (by omega),Nat.sub_self];rfl
 refine⟨_,_,_,[],h w.heap.size,?_,px hI hk hm.pu (Z:=fun k=>k=w.heap.size) (show RS (fun k=>k=w.heap.size) _ (.blk w.heap.size cs T)from⟨rfl,fun _ h=>h,hm.blk⟩) (fun k e=>by rw [e];exact Nat.le_refl _) (av.app ?_ (rb hk _))⟩
 ·show den U _ (.loc _ 0)=_
  simp only [den,PK.id,P2,cz]
 ·intro key q hq
  obtain⟨j,u,rfl,hu,QI⟩:=qA OJ hq
  rcases Of with rfl | Of
  ·cases hq
  rw [Of]at hu
  rw [Nat.zero_add]
  exact⟨_,cs,T,u,P2,hu,QI.mono fun p hp u hu=>oA (M:= []) (fun i hi _=>by rw [bu,if_pos hi]) (fun i hi=>by cases hi) (.inl (by simp)) hu⟩
theorem yI {tt:Nat}:∀ {n:Nat} {cs:List Value} {l:List (U.el tt)},Ek U tt n cs=some l→l.length=n∧l.flatMap enc=cs
 | 0,[],l,h=>by simp only [Ek,Option.some.injEq]at h;subst h;exact⟨rfl,rfl⟩
 | 0,_::_,l,h=>by simp [Ek]at h
 | n+1,cs,l,h=>by
  simp only [Ek]at h
  split at h
  ·rename_i x r hx hr
   injection h with h
   subst h
   obtain⟨h1,h2⟩:=yI hr
   refine⟨by simp [h1],?_⟩
   have h3:enc x=jA (U.en tt).size cs:=U.gO hx
   rw [List.flatMap_cons,h2,h3,fq,gb,List.take_append_drop]
  ·cases h
theorem rV {t e:TypeId} {tt:Nat} {ie:TypeInfo} {z:Value}(h:FU U P t=some (e,tt,ie,z)):SN P t e z (U.en tt).size ie.bytes∧P.info? e=some ie∧ie.zero=some z∧ie.size=(U.en tt).size∧0<ie.bytes:=by
 unfold FU at h
 split at h
 ·rename_i e' hu
  split at h
  ·rename_i tt' ie' _ hi
   split at h
   ·rename_i z' hz
    split at h
    ·rename_i hb
     simp only [Option.some.injEq,Prod.mk.injEq]at h
     obtain⟨rfl,rfl,rfl,rfl⟩:=h
     simp only [Bool.and_eq_true]at hb
     have h1:=Nat.eq_of_beq_eq_true hb.1
     have h2:=Nat.eq_of_beq_eq_true hb.2.1
     have h3:0<ie'.bytes:=by simpa [Nat.blt_eq]using hb.2.2
     exact⟨⟨hu,⟨ie',hi,hz,h1,rfl⟩,by rw [← h1,← h2];simp,(U.en tt').pos⟩,hi,hz,h1,h3⟩
    ·cases h
   ·cases h
  ·cases h
 ·cases h
theorem FQ {tt:Nat} {x:Operand} {F:List (U.el tt)→Prop}(hS:Sat st.rs X w)(hk:av st.rs fr st.kn)(h:Kw U tt (ev fr x) (kf st.kn x) st F):∃(l:List (U.el tt))(A:Option Addr)(c:Nat)(Y:Nat→Prop),ev fr x= .slice A l.length c∧Rd w Y A l.length c l∧F l:=by
 have O2:=hk.kf x
 unfold Kw at h
 split at h
 ·rename_i id li OU
  rw [OU]at O2
  have hd:den U st.rs (.sl id li)=some (ev fr x):=O2
  split at h
  ·rename_i r hn
   split at h
   ·rename_i L hL
    simp only [den,PK.id,hn,cz,hL,Option.some.injEq]at hd
    split at h
    ·rename_i ht
     have hr:=(hS.res id _ hn).ls hL
     obtain⟨t',A,c,l⟩:=L
     cases ht
     exact⟨l,A,c,_,hd.symm,hr,h⟩
    ·exact h.elim
   ·exact h.elim
  ·exact h.elim
 ·split at h
  ·rename_i d hx
   exact⟨[],none,d,_,hx,Rd.nil,h⟩
  ·exact h.elim
theorem ym {rs:List (Res U)} {r:Res U}:nth (rs++ [r]) rs.length=some r:=by rw [bu,if_neg (by omega),Nat.sub_self];rfl
theorem sA {tt:Nat} {T:TypeId} {A:Option Addr} {c:Nat} {l:List (U.el tt)} {K:fE U}(hI:Inv w0 k0 X0 may st.rs X w)(hk:av st.rs fr st.kn) {w':World}(q:Pu w w') {Z:Nat→Prop}(ho:Own w' Z T A l.length c l)(hz:∀k,Z k→w.heap.size≤k) {v:Value}(hv:v= .slice A l.length c)
 (h:nmL (st.rs++ [.lst tt true T A c l]) [st.rs.length] fun NM=>K v (some (.p (.sl st.rs.length 0))) ⟨NM,st.kn,st.md⟩):
 ∃k st' X' M,K v k st'∧KnO st'.rs v k∧eA w0 k0 X0 may fr st X w st' X' w' M:=by
 refine step_done (st':=⟨st.rs++ [.lst tt true T A c l],st.kn,st.md⟩) (px hI hk q (Z:=fun k=>Z k∧k<w'.heap.size) (show RS (fun k=>Z k∧k<w'.heap.size) _ (.lst tt true T A c l)from⟨ho.narrow,fun k hk=>hk.2⟩) (fun k hk=>hz k hk.1) (rb hk _)) ?_ h
 show den U _ (.sl _ 0)=_
 simp only [den,PK.id,ym,cz,jv,hv]
theorem DS(hI:Inv w0 k0 X0 may st.rs X w) {i:Nat} {a b:Res U}(ha:nth st.rs i=some a)(hc:oI may k0 i=true) {w':World}(q:Ch (X i) w w')(TG:di a b) {Z:Nat→Prop}(hb:RS Z w' b)(hz:∀k,Z k→X i k∨w.heap.size≤k) {kn':List (Key×Kn)}(OU:av (cg st.rs i b) fr kn'):
 eA w0 k0 X0 may fr st X w ⟨cg st.rs i b,kn',i::st.md⟩ (j7 X i Z) w' [i]:=by
 have hi:=bc ha
 exact⟨hI.set hi (gD hc) q hb hz,OU,rfl,fun j hj=>by simp at hj;subst hj;exact hi,fun j hj=>by simp at hj;subst hj;exact gD hc,by simp,fun j hj Ob=>⟨by rw [bn,if_neg (fun hh=>Ob (by simp [hh.1]))],jg _ _ (by simpa using Ob)⟩,fun j hj k hk=>by
  simp at hj;subst hj;rw [updX_eq]at hk;exact hz k hk,fun j h1 h2=>by simp at h2;omega,q.mono fun k hk=>⟨i,by simp,hk⟩,fun j c hj=>by
  by_cases Ob:j=i
  ·subst Ob
   rw [ha]at hj
   injection hj with hj
   subst hj
   exact⟨b,by rw [bn,if_pos ⟨rfl,hi⟩],TG⟩
  ·exact⟨c,by rw [bn,if_neg (fun hh=>Ob hh.1)];exact hj,di.refl c⟩⟩
theorem AX {tt:Nat} {z:Value} {x:U.el tt}(hx:enc x=z.cells.toList)(n:Nat):(List.replicate n x).flatMap enc=(madeCells z.cells (n*(U.en tt).size)).toList:=by
 have hs:z.cells.size=(U.en tt).size:=by have:=cy x;rw [hx]at this;simpa using this
 have hp:0<Enc.size (U.el tt):=Enc.pos
 apply List.ext_getElem?
 intro j
 by_cases hj:j<n*Enc.size (U.el tt)
 ·have hq:j / Enc.size (U.el tt)<n:=(Nat.div_lt_iff_lt_mul hp).2 hj
  have hr:j % Enc.size (U.el tt)<Enc.size (U.el tt):=Nat.mod_lt _ hp
  have h4:=flat_get (List.replicate n x) (j / Enc.size (U.el tt)) (j % Enc.size (U.el tt)) x (by rw [List.getElem?_replicate,if_pos hq]) hr
  have h5:j / Enc.size (U.el tt)*Enc.size (U.el tt)+j % Enc.size (U.el tt)=j:=by rw [Nat.mul_comm];exact Nat.div_add_mod j _
  rw [h5]at h4
  rw [h4,hx]
  have Pm:j<n*(U.en tt).size:=hj
  have Nn:j % (U.en tt).size<z.cells.size:=by rw [hs];exact hr
  have e1:(madeCells z.cells (n*(U.en tt).size)).toList[j]? =some (z.cells[j % z.cells.size]!):=by
   simp [madeCells,Pm]
  rw [e1,hs]
  show z.cells.toList[j % (U.en tt).size]? =_
  rw [Array.getElem?_toList,Array.getElem?_eq_getElem Nn,getElem!_pos z.cells _ Nn]
 ·rw [List.getElem?_eq_none (by rw [dM,List.length_replicate];omega),List.getElem?_eq_none (by rw [Array.length_toList,size_madeCells];exact Nat.le_of_not_lt hj)]
def ES(fr:Fr)(w0:World)(k0:Nat)(X0:Nat→Nat→Prop)(may:List Nat)(st:St U)(X:Nat→Nat→Prop)(w:World)(K:fE U):Option (List PanicEntry→World→Prop):=
 some fun ch w'=>∃v st' X' M,ch= [⟨v,false,false⟩]∧K v (some .pan) st'∧eA w0 k0 X0 may fr st X w st' X' w' M
theorem Gk {Y:Bool} {q:List PanicEntry→World→Prop} {o:Oper} {ρ:Operand→Value} {K:aC}(h:opW P Y (some q) o ρ w K)(hq:∀ch w',q ch w'→False):opW P Y none o ρ w K:=by
 refine⟨h.1,?_⟩
 have h2:=h.2
 generalize (execOp ρ o).run P w=r at h2 ⊢
 cases r with
 | ok nx w'=>
  cases nx<;>simp only [Out]at h2 ⊢
  case value v=>exact h2
  case skip=>exact h2
  case enter f args=>exact h2.mono fun e w'' he=>he.imp id fun⟨ch,_,h2⟩=>(hq _ _ h2).elim
  case round l f tmps assign body=>exact⟨h2.1,h2.2.mono fun e w'' he=>he.imp id fun⟨ch,_,h2⟩=>(hq _ _ h2).elim⟩
 | halt x w'=>
  cases x<;>simp only [Out]at h2 ⊢
  exact(hq _ _ h2).elim
theorem CM {Y:Bool} {q q':List PanicEntry→World→Prop} {o:Oper} {ρ:Operand→Value} {K:aC}(h:opW P Y (some q) o ρ w K)(hq:∀ch w',q ch w'→q' ch w'):opW P Y (some q') o ρ w K:=by
 refine⟨h.1,?_⟩
 have h2:=h.2
 generalize (execOp ρ o).run P w=r at h2 ⊢
 cases r with
 | ok nx w'=>
  cases nx<;>simp only [Out]at h2 ⊢
  case value v=>exact h2
  case skip=>exact h2
  case enter f args=>exact h2.mono fun e w'' he=>he.imp id fun⟨ch,h1,h2⟩=>⟨ch,h1,hq _ _ h2⟩
  case round l f tmps assign body=>exact⟨h2.1,h2.2.mono fun e w'' he=>he.imp id fun⟨ch,h1,h2⟩=>⟨ch,h1,hq _ _ h2⟩⟩
 | halt x w'=>
  cases x<;>simp only [Out]at h2 ⊢
  exact hq _ _ h2
theorem sy {Y:Bool} {Qp:Option (List PanicEntry→World→Prop)} {o:Oper} {ρ:Operand→Value} {K K':aC}(h:opW P Y Qp o ρ w K)(hK:∀v w',K v w'→K' v w'):opW P Y Qp o ρ w K':=by
 refine⟨h.1,?_⟩
 have h2:=h.2
 generalize (execOp ρ o).run P w=r at h2 ⊢
 cases r with
 | ok nx w'=>
  cases nx<;>simp only [Out]at h2 ⊢
  case value v=>exact hK _ _ h2
  case skip=>exact hK _ _ h2
  case enter f args=>exact h2.mono fun e w'' he=>he.imp (fun⟨v,h1,h2⟩=>⟨v,h1,hK _ _ h2⟩) id
  case round l f tmps assign body=>exact⟨h2.1,h2.2.mono fun e w'' he=>he.imp (fun⟨v,h1,h2⟩=>⟨v,h1,hK _ _ h2⟩) id⟩
 | halt x w'=>
  cases x<;>simp only [Out]at h2 ⊢
  exact h2
theorem Inv.JZ {rs rs':List (Res U)}(h:Inv w0 k0 X0 may rs X w)(hl:rs'.length≤rs.length)(he:∀i,i<rs'.length→nth rs' i=nth rs i)(hk:k0≤rs'.length):Inv w0 k0 X0 may rs' X w:=
 ⟨⟨fun i r hr=>h.sat.res i r (by rw [← he i (bc hr)];exact hr),fun i j hi hj=>h.sat.dis i j (by omega) (by omega)⟩,h.ch,h.old,fun i h1 h2=>h.new i h1 (by omega),hk⟩
theorem CJ {k:Option Kn} {B:Prop}(h:AQ k False B):B:=by
 unfold AQ at h
 split at h
 ·exact h.elim
 ·exact h
theorem GU:∀ {s:Sh} {F:Value→Prop},Mf s F→∃v,F v
 | .int _,_,⟨_,h⟩=>⟨_,h⟩
 | .bool,_,⟨_,h⟩=>⟨_,h⟩
 | .str,_,⟨_,h⟩=>⟨_,h⟩
 | .ptr,_,⟨_,h⟩=>⟨_,h⟩
 | .slice,_,⟨_,h⟩=>⟨_,h⟩
 | .map,_,⟨_,h⟩=>⟨_,h⟩
 | .val,_,⟨_,h⟩=>⟨_,h⟩
theorem CK {α:Type} {F:α→Prop}:∀ {l:List α},orL F l→∃a,F a
 | [a],h=>⟨a,h⟩
 | a::b::r,h=>by
  rcases h with h | h
  ·exact⟨a,h⟩
  ·exact CK (l:=b::r) h
theorem IY {args:List Operand}(hk:av st.rs fr st.kn):∀j v k,nth (aG (ev fr) args) j=some v→nth (aG (V.kf st.kn) args) j=some k→KnO st.rs v k:=by
 intro j v k h1 h2
 rw [br]at h1 h2
 cases hn:nth args j with
 | none=>rw [hn]at h1;cases h1
 | some x=>
  rw [hn]at h1 h2
  injection h1 with h1
  injection h2 with h2
  subst h1;subst h2
  exact hk.kf x
theorem GD {rs:List (Res U)} {a1 a2:List Value} {k1 k2:List (Option Kn)}(hl:a1.length=k1.length)(h1:∀j v k,nth a1 j=some v→nth k1 j=some k→KnO rs v k)(h2:∀j v k,nth a2 j=some v→nth k2 j=some k→KnO rs v k):∀j v k,nth (a1++a2) j=some v→nth (k1++k2) j=some k→KnO rs v k:=by
 intro j v k hj NS
 rw [bu]at hj NS
 by_cases hc:j<a1.length
 ·rw [if_pos hc]at hj
  rw [if_pos (by omega)]at NS
  exact h1 j v k hj NS
 ·rw [if_neg hc]at hj
  rw [if_neg (by omega),← hl]at NS
  exact h2 _ v k hj NS
theorem Kg {K:fE U} {Y:Bool} {dst:Option Tmp} {ty:TypeId} {pos:String} {after:Array Edge} {gd:Option (Nat×Bool)} {f:Operand} {args:Array Operand} {ats:Array TypeId} {f':Nat} {first cap:Array Value} {ks:List (Option Kn)}(Ot:∀f c,tbl.c f=some c→LV U P f c∧cj P f=true)(hI:Inv w0 k0 X0 may st.rs X w)(hk:av st.rs fr st.kn)(hf:ev fr f= .func (.func f') first cap)
 (hks:∀j v k,nth (first.toList++(aG (ev fr) args.toList++cap.toList)) j=some v→nth ks j=some k→KnO st.rs v k)(h:call2 U tbl may k0 f' (first.toList++(aG (ev fr) args.toList++cap.toList)) ks st K):
 opW P Y (ES fr w0 k0 X0 may st X w K) {dst:=dst,op:= .call {callee:= .value f,args:=args,argTypes:=ats},type:=ty,pos:=pos,after:=after,guard:=gd} (ev fr) w fun v w'=>∃k st' X' M,K v k st'∧KnO st'.rs v k∧eA w0 k0 X0 may fr st X w st' X' w' M:=by
 have Qq:cj P f'=true:=by
  unfold call2 at h
  split at h
  ·exact h.elim
  ·rename_i c hc;exact(Ot f' c hc).2
 refine⟨rfl,?_⟩
 have h1:=dN (P:=P) (C:= [f']) (f:=f') (by simp [eu,Qq]) (by simp) (first++args.map (ev fr)++cap) w
 have hr:(execOp (ev fr) {dst:=dst,op:= .call {callee:= .value f,args:=args,argTypes:=ats},type:=ty,pos:=pos,after:=after,guard:=gd}).run P w= .ok (.enter f' (first++args.map (ev fr)++cap)) w:=by
  simp only [execOp,resolve,hf,Deferred.ofValue]
  rw [Sem.run_bind]
  exact h1
 rw [hr]
 have ha:(⟨first.toList++(aG (ev fr) args.toList++cap.toList)⟩:Array Value)=first++args.map (ev fr)++cap:=by
  apply Array.ext'
  simp [gA]
 have:=ve (fun f c h=>(Ot f c h).1) hI hk hks h
 rw [ha]at this
 refine this.mono fun e w' hp=>?_
 obtain⟨v,k,st',X',M,rfl,h2,h3,h4⟩:=hp
 rcases h3 with rfl | h3
 ·exact .inr ⟨_,rfl,v,st',X',M,rfl,h2,h4⟩
 ·refine .inl ⟨v,?_,k,st',X',M,h2,h3,h4⟩
  cases k with
  | none=>rfl
  | some k=>cases k<;>first | rfl | exact h3.elim
theorem Mn {K:fE U} {Y:Bool} {dst:Option Tmp} {ty:TypeId} {pos:String} {after:Array Edge} {gd:Option (Nat×Bool)} {x:Operand} {name:String} {args:Array Operand} {ats:Array TypeId} {t:TypeId} {u:Value} {f':Nat} {ks:List (Option Kn)}(Ot:∀f c,tbl.c f=some c→LV U P f c∧cj P f=true)(hI:Inv w0 k0 X0 may st.rs X w)(hk:av st.rs fr st.kn)(hx:ev fr x= .iface t u)(hm:yi P t name=some f')
 (hks:∀j v k,nth (u::aG (ev fr) args.toList) j=some v→nth ks j=some k→KnO st.rs v k)(h:call2 U tbl may k0 f' (u::aG (ev fr) args.toList) ks st K):
 opW P Y (ES fr w0 k0 X0 may st X w K) {dst:=dst,op:= .call {callee:= .invoke x name,args:=args,argTypes:=ats},type:=ty,pos:=pos,after:=after,guard:=gd} (ev fr) w fun v w'=>∃k st' X' M,K v k st'∧KnO st'.rs v k∧eA w0 k0 X0 may fr st X w st' X' w' M:=by
 have Qq:cj P f'=true:=by
  unfold call2 at h
  split at h
  ·exact h.elim
  ·rename_i c hc;exact(Ot f' c hc).2
 refine⟨rfl,?_⟩
 have h1:=dN (P:=P) (C:= [f']) (f:=f') (by simp [eu,Qq]) (by simp) (#[u]++args.map (ev fr)) w
 have he:(#[ev fr x]++args.map (ev fr)).extract 1 (#[ev fr x]++args.map (ev fr)).size=args.map (ev fr):=by
  apply Array.ext'
  simp
  exact List.take_of_length_le (by simp)
 have hr:(execOp (ev fr) {dst:=dst,op:= .call {callee:= .invoke x name,args:=args,argTypes:=ats},type:=ty,pos:=pos,after:=after,guard:=gd}).run P w= .ok (.enter f' (#[u]++args.map (ev fr))) w:=by
  simp only [execOp,resolve]
  rw [Sem.run_bind]
  show(invoke (.fn (.method name) #[]) (#[ev fr x]++args.map (ev fr))).run P w=_
  have e0:(#[ev fr x]++args.map (ev fr))[0]? =some (.iface t u):=by rw [hx,Array.getElem?_append_left (by simp)];rfl
  simp only [invoke,e0,he]
  simp only [callMethod]
  rw [Sem.run_bind]
  have hp:(program:Sem Program).run P w= .ok P w:=rfl
  rw [hp]
  change Sem.run P (method (P.types.size+Made.depth) t u name>>=fun p=>callFunc p.1 (#[p.2]++Array.map (ev fr) args)) w=_
  rw [Sem.run_bind,uS hm]
  exact h1
 rw [hr]
 have ha:(⟨u::aG (ev fr) args.toList⟩:Array Value)= #[u]++args.map (ev fr):=by
  apply Array.ext'
  simp [gA]
 have:=ve (fun f c h=>(Ot f c h).1) hI hk hks h
 rw [ha]at this
 refine this.mono fun e w' hp=>?_
 obtain⟨v,k,st',X',M,rfl,h2,h3,h4⟩:=hp
 rcases h3 with rfl | h3
 ·exact .inr ⟨_,rfl,v,st',X',M,rfl,h2,h4⟩
 ·refine .inl ⟨v,?_,k,st',X',M,h2,h3,h4⟩
  cases k with
  | none=>rfl
  | some k=>cases k<;>first | rfl | exact h3.elim
theorem yQ {K:fE U} {Y:Bool} {dst:Option Tmp} {ty:TypeId} {pos:String} {after:Array Edge} {gd:Option (Nat×Bool)} {f:Operand} {args:Array Operand} {ats:Array TypeId}(Ot:∀f c,tbl.c f=some c→LV U P f c∧cj P f=true)(hI:Inv w0 k0 X0 may st.rs X w)(hk:av st.rs fr st.kn)
 (h:Dl U tbl may k0 (ev fr f) (aG (ev fr) args.toList) (aG (V.kf st.kn) args.toList) st K):
 opW P Y (ES fr w0 k0 X0 may st X w K) {dst:=dst,op:= .call {callee:= .value f,args:=args,argTypes:=ats},type:=ty,pos:=pos,after:=after,guard:=gd} (ev fr) w fun v w'=>∃k st' X' M,K v k st'∧KnO st'.rs v k∧eA w0 k0 X0 may fr st X w st' X' w' M:=by
 obtain⟨r,h1,hK⟩:=GU h
 obtain⟨⟨f',az,bs⟩,h2⟩:=CK h1
 dsimp only at h2
 split at h2
 ·rename_i hd
  simp only [Bool.and_eq_true]at hd
  obtain⟨hf,h2⟩:=h2
  have pk:∀ {l:List PK},hH (Ej st.rs) l=true→∀j v k,nth (aG (dv st.rs) l) j=some v→nth (aG (fun p=>some (Kn.p p)) l) j=some k→KnO st.rs v k:=by
   intro l hl j v k hj NS
   rw [br]at hj NS
   cases hn:nth l j with
   | none=>rw [hn]at hj;cases hj
   | some p=>
    rw [hn]at hj NS
    injection hj with hj
    injection NS with NS
    subst hj;subst NS
    have:=cI.1 hl p (gX hn)
    unfold Ej at this
    show den U st.rs p=some (dv st.rs p)
    unfold dv
    split at this
    ·rename_i u hu;rw [hu];rfl
    ·cases this
  refine sy (CM (q':=fun ch w'=>∃v st' X' M,ch= [⟨v,false,false⟩]∧K v (some .pan) st'∧eA w0 k0 X0 may fr st X w st' X' w' M) (hq:=fun ch w' ⟨_,_,_,_,_,h,_⟩=>h.elim) (Kg (K:=_) (first:=⟨aG (dv st.rs) az⟩) (cap:=⟨aG (dv st.rs) bs⟩) Ot hI hk hf (GD (by simp) (pk hd.1) (GD (by simp) (IY hk) (pk hd.2))) h2)) fun v w' hp=>?_
  obtain⟨k,st',X',M,g1,g2,g3⟩:=hp
  have g1:=CJ g1
  split at g1
  ·rename_i hl
   subst g1
   simp only [Bool.and_eq_true]at hl
   have l1:=Nat.eq_of_beq_eq_true hl.1
   have l2:=Nat.eq_of_beq_eq_true hl.2
   have hM:M= []:=by
    have:=g3.md
    rw [this,List.length_append]at l2
    exact List.eq_nil_of_length_eq_zero (by omega)
   subst hM
   refine⟨none,st,X',[],hK,trivial,g3.inv.JZ (by omega) (fun i hi=>(g3.same i hi (by simp)).1.symm) hI.len,hk,rfl,fun i hi=>(by cases hi),fun i hi=>(by cases hi),Nat.le_refl _,fun i hi _=>⟨rfl,(g3.same i hi (by simp)).2⟩,fun i hi=>(by cases hi),fun i h1 h2=>by omega,g3.ch,fun i a ha=>⟨a,ha,di.refl a⟩⟩
  ·exact g1.elim
 ·exact h2.elim
theorem Gw {o:Oper} {K:fE U} {Y:Bool}(Ot:∀f c,tbl.c f=some c→LV U P f c∧cj P f=true)(hI:Inv w0 k0 X0 may st.rs X w)(hk:av st.rs fr st.kn)(h:KR U P tbl may k0 o (ev fr) st K):
 opW P Y (ES fr w0 k0 X0 may st X w K) o (ev fr) w fun v w'=>∃k st' X' M,K v k st'∧KnO st'.rs v k∧eA w0 k0 X0 may fr st X w st' X' w' M:=by
 obtain⟨dst,op,ty,pos,after,gd⟩:=o
 cases op<;>simp only [KR]at h<;>skip
 case panic x=>
  refine⟨rfl,?_⟩
  split at h
  ·rename_i t v hx
   have hr:(execOp (ev fr) ⟨dst,.panic x,ty,pos,after,gd⟩).run P w= .halt (.panic (.iface t v)) w:=by
    simp [execOp,hx,Instr.panic,goPanic]
   rw [hr]
   exact⟨_,st,X,[],rfl,h,hI,hk,rfl,fun i hi=>(by cases hi),fun i hi=>(by cases hi),Nat.le_refl _,fun _ _ _=>⟨rfl,rfl⟩,fun i hi=>(by cases hi),fun i h1 h2=>by omega,Ch.refl _ _,fun i a ha=>⟨a,ha,di.refl a⟩⟩
  ·exact h.elim
 case store t x y=>exact AH hI hk h
 case alloc t=>
  split at h
  ·rename_i z hz
   refine⟨rfl,?_⟩
   have hr:(execOp (ev fr) ⟨dst,.alloc t,ty,pos,after,gd⟩).run P w= .ok (.value (.pointer (some ⟨w.heap.size,0,none⟩))) (w.alloc (.cells z.cells t)):=by
    simp [execOp,Ev hz]
   rw [hr]
   exact yf hI hk (v0:=undef) (ck:=none) trivial (.inl rfl) h
  ·exact h.elim
 case box t x=>
  refine⟨rfl,?_⟩
  have hr:(execOp (ev fr) ⟨dst,.box t x,ty,pos,after,gd⟩).run P w= .ok (.value (.pointer (some ⟨w.heap.size,0,none⟩))) (w.alloc (.cells (ev fr x).cells t)):=rfl
  rw [hr]
  exact yf hI hk (hk.kf x) (.inr rfl) h
 case call c=>
  obtain⟨cal,args,ats⟩:=c
  simp only at h
  split at h
  ·rename_i f
   split at h
   ·exact yQ Ot hI hk h
   split at h
   ·rename_i f' first cap hf
    refine Kg Ot hI hk hf (fun j v k hj NS=>?_) h
    ·
     have P7:∀j v k,nth (aG (ev fr) args.toList) j=some v→nth (aG (V.kf st.kn) args.toList) j=some k→KnO st.rs v k:=by
      intro j v k h1 h2
      rw [br]at h1 h2
      cases hn:nth args.toList j with
      | none=>rw [hn]at h1;cases h1
      | some x=>
       rw [hn]at h1 h2
       injection h1 with h1
       injection h2 with h2
       subst h1;subst h2
       exact hk.kf x
     have hfk:=hk.kf f
     have app:∀ {a1 a2:List Value} {k1 k2:List (Option Kn)},a1.length=k1.length→(∀j v k,nth a1 j=some v→nth k1 j=some k→KnO st.rs v k)→(∀j v k,nth a2 j=some v→nth k2 j=some k→KnO st.rs v k)→∀j v k,nth (a1++a2) j=some v→nth (k1++k2) j=some k→KnO st.rs v k:=by
      intro a1 a2 k1 k2 hl h1 h2 j v k hj NS
      rw [bu]at hj NS
      by_cases hc:j<a1.length
      ·rw [if_pos hc]at hj
       rw [if_pos (by omega)]at NS
       exact h1 j v k hj NS
      ·rw [if_neg hc]at hj
       rw [if_neg (by omega),← hl]at NS
       exact h2 _ v k hj NS
     have pt:∀ {vs:Array Value} {l:List (Option PK)},(∀j k,nth l j=some (some k)→∃u,vs[j]? =some u∧den U st.rs k=some u)→∀j v k,nth vs.toList j=some v→nth (aG (fun o:Option PK=>o.map Kn.p) l) j=some k→KnO st.rs v k:=by
      intro vs l hh j v k hj NS
      rw [br]at NS
      cases hn:nth l j with
      | none=>rw [hn]at NS;cases NS
      | some o=>
       rw [hn]at NS
       injection NS with NS
       subst NS
       cases o with
       | none=>exact trivial
       | some p=>
        obtain⟨u,hu,hd⟩:=hh j p hn
        rw [aH]at hj
        simp at hj
        rw [hu]at hj
        injection hj with hj
        subst hj
        exact hd
     have no:∀ {vs:List Value},∀j v k,nth vs j=some v→nth (aG (fun _:Value=>(none:Option Kn)) vs) j=some k→KnO st.rs v k:=by
      intro vs j v k hj NS
      rw [br,hj]at NS
      injection NS with NS
      subst NS
      exact trivial
     unfold Md at NS
     split at NS
     ·rename_i a b hkf
      rw [hkf,hf]at hfk
      obtain⟨_,fs,cs,e,⟨OI,R4⟩,h3,h4⟩:=hfk
      injection e with _ e1 e2
      subst e1;subst e2
      exact app (by simp [OI]) (pt h3) (app (by simp) P7 (pt h4)) j v k hj NS
     ·exact app (by simp) no (app (by simp) P7 no) j v k hj NS
   ·exact h.elim
  ·rename_i x name
   split at h
   ·rename_i t u hx
    split at h
    ·rename_i f' hm
     refine Mn Ot hI hk hx hm (fun j v k hj NS=>?_) h
     cases j with
     | zero=>
      simp only [nth,Option.some.injEq]at NS
      subst NS
      exact trivial
     | succ j=>
      simp only [nth]at hj NS
      rw [br]at hj NS
      cases hn:nth args.toList j with
      | none=>rw [hn]at hj;cases hj
      | some y=>
       rw [hn]at hj NS
       injection hj with hj
       injection NS with NS
       subst hj;subst NS
       exact hk.kf y
    ·exact h.elim
   ·exact h.elim
  ·split at h
   ·rename_i x y t t' ha hat
    split at h
    ·rename_i e tt ie z Vx ZW
     have ZW:=Nat.eq_of_beq_eq_true ZW
     subst ZW
     obtain⟨Vc,hi,hz,NA,Um⟩:=rV Vx
     obtain⟨l2,B,d,Y2,hy,QN,h⟩:=FQ hI.sat hk h
     have ha':args= #[x,y]:=by apply Array.ext';simpa using ha
     have hat':ats= #[t,t]:=by apply Array.ext';simpa using hat
     subst ha';subst hat'
     have key:∀ {A:Option Addr} {m c:Nat} {K':Value→World→Prop},ev fr x= .slice A m c→(∃(A':Option Addr)(n' c':Nat)(w2:World),(Builtin.append_ #[t,t] ty #[.slice A m c,.slice B l2.length d]:Sem Value).run P w= .ok (.slice A' n' c') w2∧K' (.slice A' n' c') w2)→
      opW P Y (ES fr w0 k0 X0 may st X w K) {dst:=dst,op:= .call {callee:= .builtin .append,args:= #[x,y],argTypes:= #[t,t]},type:=ty,pos:=pos,after:=after,guard:=gd} (ev fr) w K':=by
      intro A m c K' hx hh
      obtain⟨A',n',c',w2,hr,hK⟩:=hh
      refine⟨rfl,?_⟩
      rw [rJ (s:=Builtin.append_ #[t,t] ty #[.slice A m c,.slice B l2.length d]) (by simp [xF,hx,hy]) w hr]
      exact hK
     split at h
     ·rename_i id OU
      split at h
      ·rename_i tt' T A0 c0 l hn Oc
       split at h
       ·rename_i hT
        have hT:=Nat.eq_of_beq_eq_true hT
        subst hT
        split at h
        ·rename_i ZW
         subst ZW
         obtain⟨TK,h⟩:=h
         have O2:=hk.kf x
         rw [OU]at O2
         have hd:den U st.rs (.sl id 0)=some (ev fr x):=O2
         simp only [den,PK.id,hn,cz,jv,Option.some.injEq]at hd
         obtain⟨ho,Nu⟩:Own w (X id) T A0 l.length c0 l∧∀k,X id k→k<w.heap.size:=hI.sat.res id _ hn
         have Qr:l.length+l2.length≤9223372036854775807:=by
          have:=Nat.le_mul_of_pos_right (l.length+l2.length) Um
          omega
         have fin:∀(A':Option Addr)(c':Nat)(w2:World)(Z:Nat→Prop),Own w2 Z T A' (l++l2).length c' (l++l2)→(∀k,Z k→X id k∨w.heap.size≤k)→Ch (X id) w w2→∃k st' X' M,K (.slice A' (l++l2).length c') k st'∧KnO st'.rs (.slice A' (l++l2).length c') k∧eA w0 k0 X0 may fr st X w st' X' w2 M:=by
          intro A' c' w2 Z P9 Wh hq
          have N7:di (Res.lst tt' true T A0 c0 l) (.lst tt' true T A' c' (l++l2)):= .lst _ _ _ _ _ _ _ _ _
          have hat:nth (cg st.rs id (Res.lst tt' true T A' c' (l++l2))) id=some (.lst tt' true T A' c' (l++l2)):=by rw [bn,if_pos ⟨rfl,bc hn⟩]
          refine step_done (st':=⟨cg st.rs id (.lst tt' true T A' c' (l++l2)),fg [id] st.kn,id::st.md⟩) (k:=some (.p (.sl id 0))) (DS hI hn Oc hq N7 (Z:=fun k=>Z k∧k<w2.heap.size) (show RS _ w2 (.lst tt' true T A' c' (l++l2))from⟨P9.narrow,fun k hk=>hk.2⟩) (fun k hk=>Wh k hk.1) ?_) ?_ (h A' c')
          rotate_left
          ·show den U _ (.sl id 0)=_
           simp only [den,PK.id,hat,cz,jv]
          ·refine hk.fg (M:= [id]) (fun i _ hi=>by rw [bn,if_neg (fun hh=>hi (by simp [hh.1]))]) fun i hi a ha=>?_
           simp at hi
           subst hi
           rw [hn]at ha
           injection ha with ha
           subst ha
           exact⟨_,hat,N7⟩
         refine key hd.symm ?_
         refine Own.apps (ho.mono (Y:=fun k=>X id k∨w.heap.size≤k) fun k hk=>.inl hk) Vc QN Qr TK (.inr (Nat.le_refl _)) (fun A' c' w2 P9 hq=>?_) (fun h0 hB=>?_)
         ·rw [← List.length_append]at P9 ⊢
          refine fin A' c' w2 _ P9 (fun k hk=>hk) ⟨hq.kept.mono fun k hk=>⟨hk.1,fun hh=>hh.elim hk.2 (fun hh=>absurd hk.1 (Nat.not_lt.2 hh))⟩⟩
         ·have R4:l2= []:=List.eq_nil_of_length_eq_zero h0
          subst R4
          refine⟨_,_,_,_,run_append_nothing w t t ty T ie Vc.und hi A0 l.length c0 ho.own.G7 _ (Src.ofNil _ Vc.und d),?_⟩
          have:=fin A0 c0 w (X id) (by rw [List.append_nil];exact ho) (fun k hk=>.inl hk) (Ch.refl _ _)
          rw [List.append_nil]at this
          exact this
        ·exact h.elim
       ·exact h.elim
      ·exact h.elim
     ·split at h
      ·rename_i hx
       obtain⟨TK,h⟩:=h
       have Qr:l2.length≤9223372036854775807:=by
        have:=Nat.le_mul_of_pos_right l2.length Um
        omega
       refine key hx ?_
       refine rq Vc QN Qr TK fun A' c' w2 P9 hq=>?_
       exact sA hI hk hq P9 (fun k hk=>hk.1) rfl (h A' c')
      ·exact h.elim
     ·exact h.elim
    ·exact h.elim
   ·exact h.elim
  ·exact h.elim
 case buildSlice t len parts=>
  split at h
  ·rename_i e tt ie z Vx
   obtain⟨Vc,hi,hz,NA,Um⟩:=rV Vx
   split at h
   ·rename_i cells hf hb
    split at h
    ·rename_i l hl
     simp only [Bool.and_eq_true]at hb
     have h1:0<len:=by simpa [Nat.blt_eq]using hb.1
     have h2:len*ie.size≤16777216:=Nat.le_of_ble_eq_true hb.2
     have VA:0<ie.size:=by rw [NA];exact(U.en tt).pos
     have hls:0<len*ie.size:=Nat.mul_pos h1 VA
     obtain⟨TI,hlf⟩:=yI hl
     refine⟨rfl,?_⟩
     have hr:(execOp (ev fr) {dst:=dst,op:= .buildSlice t len parts,type:=ty,pos:=pos,after:=after,guard:=gd}).run P w= .ok (.value (.slice (some ⟨w.heap.size,0,none⟩) len len)) (w.alloc (.cells cells e)):=by
      have:=Go.run_buildSlice (P:=P) w t e len (parts.map fun(ix:Nat×Operand)=>(ix.1,ev fr ix.2)) cells ie z Vc.und hi hz (by omega) (by omega) hf
      simp only [execOp]
      rw [Sem.run_bind,this]
      rfl
     rw [hr]
     have Of:cells.size=len*(U.en tt).size:=by
      rw [← Array.length_toList,← hlf,dM,TI]
     have Oa:=World.ownsRow_lit (base:=0) (e:=e) (size:=(U.en tt).size) w cells len (Nat.zero_le _) (by
      have:=Nat.le_mul_of_pos_right len VA
      simp only [maxLen];omega) Of
     refine sA hI hk (Z:=fun k=>k=w.heap.size) (show Pu w (w.alloc (.cells cells e))from(made (w2:=w.alloc (.cells cells e)) rfl rfl).pu) ⟨⟨?_,fun a ha=>by injection ha with ha;rw [← ha]⟩,rfl⟩ (fun k e=>by rw [e];exact Nat.le_refl _) (by rw [TI]) (h w.heap.size)
     rw [hlf,TI]
     exact Oa
    ·exact h.elim
   ·exact h.elim
  ·exact h.elim
 case makeSlice t l c=>
  split at h
  ·rename_i a b e tt ie z hla hlb Vx
   obtain⟨Vc,hi,hz,NA,Um⟩:=rV Vx
   split at h
   ·rename_i x hx
    obtain⟨⟨rfl,h0,hb⟩,h⟩:=h
    have Qr:a≤9223372036854775807:=by
     have h9:(1:Int)*a≤(ie.bytes:Int)*a:=Int.mul_le_mul_of_nonneg_right (by omega) h0
     omega
    have hr:=run_make (P:=P) w t e ie z Vc.und hi hz .i64 .i64 a a h0 (Int.le_refl _) hb Qr
    refine⟨rfl,?_⟩
    rw [rJ (s:=Instr.makeSlice t (.int .i64 a) (.int .i64 a)) (by simp [xF,hla,hlb]) w hr]
    have Ny:=AX (x:=x) (U.gO hx) a.toNat
    have hlen:(List.replicate a.toNat x).length=a.toNat:=List.length_replicate
    rw [NA]
    have Oa:=World.ownsRow_lit (base:=0) (e:=e) (size:=(U.en tt).size) w (madeCells z.cells (a.toNat *(U.en tt).size)) a.toNat (Nat.zero_le _) (by simp only [maxLen];omega) (size_madeCells _ _)
    refine sA hI hk (Z:=fun k=>k=w.heap.size) (l:=List.replicate a.toNat x) (c:=a.toNat) (T:=e) (A:=some ⟨w.heap.size,0,none⟩) ((made (w2:=w.alloc (.cells (madeCells z.cells (a.toNat *(U.en tt).size)) e)) rfl rfl).pu) ⟨⟨?_,fun a ha=>by injection ha with ha;rw [← ha]⟩,rfl⟩ (fun k e=>by rw [e];exact Nat.le_refl _) (by rw [hlen]) ?_
    ·rw [Ny,hlen]
     exact Oa
    ·have:=h w.heap.size
     rw [hlen]at this
     exact this
   ·exact h.elim
  ·exact h.elim
theorem CO {o:Oper} {K:fE U} {Y:Bool}(Ot:∀f c,tbl.c f=some c→LV U P f c∧cj P f=true)(hI:Inv w0 k0 X0 may st.rs X w)(hk:av st.rs fr st.kn)(h:op2 U P tbl may k0 o (ev fr) st K):
 opW P Y (ES fr w0 k0 X0 may st X w K) o (ev fr) w fun v w'=>∃k st' X' M,K v k st'∧KnO st'.rs v k∧eA w0 k0 X0 may fr st X w st' X' w' M:=by
 unfold op2 at h
 split at h
 ·exact Gw Ot hI hk h
 ·obtain⟨v,k,h1,h2,h3⟩:=uT hI.sat hk h
  have hr:=h3 w (Kept.refl _ _)
  refine⟨?_,?_⟩
  ·obtain⟨dst,op,ty,pos,after,gd⟩:=o
   cases op<;>first | rfl | skip
   exact absurd (show qo P _ _ _ from h) (fun hh=>hh.elim)
  ·rw [hr]
   exact⟨k,st,X,[],h1,h2,hI,hk,rfl,fun i hi=>(by cases hi),fun i hi=>(by cases hi),Nat.le_refl _,fun _ _ _=>⟨rfl,rfl⟩,fun i hi=>(by cases hi),fun i h1 h2=>by omega,Ch.refl _ _,fun i a ha=>⟨a,ha,di.refl a⟩⟩
structure Steps(w0:World)(k0:Nat)(X0:Nat→Nat→Prop)(may:List Nat)(st:St U)(X:Nat→Nat→Prop)(st':St U)(X':Nat→Nat→Prop)(w':World):Prop where
 inv:Inv w0 k0 X0 may st'.rs X' w'
 len:st.rs.length≤st'.rs.length
 md:∃L,st'.md=L++st.md∧(∀i,i∈L→i∈may∨k0≤i)∧∀i,i<st.rs.length→i ∉ L→nth st'.rs i=nth st.rs i∧X' i=X i
 root:∀i a,nth st.rs i=some a→∃b,nth st'.rs i=some b∧di a b
theorem Steps.refl(h:Inv w0 k0 X0 may st.rs X w):Steps w0 k0 X0 may st X st X w:=⟨h,Nat.le_refl _,⟨[],rfl,fun i hi=>(by cases hi),fun _ _ _=>⟨rfl,rfl⟩⟩,fun i a ha=>⟨a,ha,di.refl a⟩⟩
theorem Steps.trans {Rf OD:St U} {X1 X2:Nat→Nat→Prop} {w1 w2:World}(h:Steps w0 k0 X0 may st X Rf X1 w1)(k:Steps w0 k0 X0 may Rf X1 OD X2 w2):Steps w0 k0 X0 may st X OD X2 w2:=by
 obtain⟨L,hL,cL,hl⟩:=h.md
 obtain⟨M,hM,cM,hm⟩:=k.md
 exact⟨k.inv,Nat.le_trans h.len k.len,⟨M++L,by rw [hM,hL,List.append_assoc],fun i hi=>(List.mem_append.1 hi).elim (cM i) (cL i),fun i hi hn=>by
  rw [List.mem_append,not_or]at hn
  obtain⟨e1,e2⟩:=hm i (Nat.lt_of_lt_of_le hi h.len) hn.1
  obtain⟨e3,e4⟩:=hl i hi hn.2
  exact⟨e1.trans e3,e2.trans e4⟩⟩,fun i a ha=>by
  obtain⟨b,hb,hr⟩:=h.root i a ha
  obtain⟨c,hc,Qe⟩:=k.root i b hb
  exact⟨c,hc,hr.trans Qe⟩⟩
theorem eA.steps {st':St U} {X':Nat→Nat→Prop} {w':World} {M:List Nat}(h:eA w0 k0 X0 may fr st X w st' X' w' M):Steps w0 k0 X0 may st X st' X' w':=⟨h.inv,h.len,⟨M,h.md,h.can,fun i hi hm=>h.same i hi hm⟩,h.root⟩
theorem Steps.kn {st' OD:St U} {X':Nat→Nat→Prop} {w':World}(h:Steps w0 k0 X0 may st X st' X' w')(h1:OD.rs=st'.rs)(h2:OD.md=st'.md):Steps w0 k0 X0 may st X OD X' w':=by
 obtain⟨a,b,c,d⟩:=h
 exact⟨by rw [h1];exact a,by rw [h1];exact b,by rw [h1,h2];exact c,by rw [h1];exact d⟩
variable {n:Nat} {N:List Nat} {ops:Array Oper}
theorem il {dst:Option Tmp} {v:Value} {F G:Fr→Prop}(h:jt n N fr dst v F)(hF:∀fr',F fr'→G fr'):jt n N fr dst v G:=by
 unfold jt at h ⊢
 cases dst with
 | none=>exact hF _ h
 | some d=>
  simp only at h ⊢
  split at h
  ·split at h
   ·cases v with
    | int k x=>exact fun z hz=>hF _ (h z hz)
    | bool x=>exact fun z hz=>hF _ (h z hz)
    | _=>exact hF _ h
   ·exact hF _ h
  ·exact h.elim
def Aft(w0:World)(k0:Nat)(X0:Nat→Nat→Prop)(may:List Nat)(st:St U)(X:Nat→Nat→Prop)(ds:List Deferred)(K:Fr→St U→Prop)(fr':Fr)(w':World):Prop:=
 ∃st' X',Steps w0 k0 X0 may st X st' X' w'∧av st'.rs fr' st'.kn∧fr'.ds=ds∧K fr' st'
def FI(M:Fr→Oper→World→aC→Prop)(n:Nat)(N:List Nat)(ops:Array Oper)(K:Fr→World→Prop):List Oper→Fr→World→Prop
 | [],fr,w=>K fr w
 | o::rest,fr,w=>gN ops o fr
  (fun fr=>M fr o w (fun v w'=>jt n N fr o.dst v fun fr'=>FI M n N ops K rest fr' w'))
  (fun fr=>jt n N fr o.dst undef fun fr'=>FI M n N ops K rest fr' w)
def mL(n:Nat)(ws:List Nat)(a0:Act)(Q:QF):Exit→Act→World→Prop
 | .outgrown,_,_=>False
 | x,a,w=>∃fr,Rep n fr a∧Q x fr w∧Agr ws a0 a
theorem mO {Qp:Fr→List PanicEntry→World→Prop} {K:Fr→World→Prop} {ws:List Nat} {a0:Act} {r:Option Nat}:
 ∀(l:List Oper),(∀o∈l,∀d,o.dst=some d→d∈ws)→∀(fr:Fr)(a:Act)(w:World),Rep n fr a→Agr ws a0 a→FI (fun fr o w K=>opW P true (some (Qp fr)) o (ev fr) w K) n N ops K l fr w→
  wpListIn (WF r) 0 P ops (mL n ws a0 fun x fr w=>match x with | .normal=>K fr w | .panic ch=>Qp fr ch w | _=>False) l a w
 | [],_,fr,a,w,hr,ha,h=>⟨fr,hr,h,ha⟩
 | o::rest,hd,fr,a,w,hr,ha,h=>by
  obtain⟨fr',Nn,hh⟩:=kt hr h
  simp only [wpListIn]
  rcases hh with⟨hw,hh⟩ | ⟨hw,hh⟩
  ·rw [if_pos hw]
   refine CL (K:=fun fr' w'=>FI (fun fr o w K=>opW P true (some (Qp fr)) o (ev fr) w K) n N ops K rest fr' w') Nn ha (hd o (List.mem_cons_self ..)) hh ?_ ?_
   ·intro Og a2 w2 h2 h3 h4
    exact mO rest (fun o' R3=>hd o' (List.mem_cons_of_mem _ R3)) Og a2 w2 h2 h3 h4
   ·intro ch w' hq
    exact⟨fr',Nn,hq,ha⟩
  ·rw [if_neg (by rw [hw];simp)]
   obtain⟨Og,h2,h3⟩:=gy Nn hh
   exact⟨kC,mO rest (fun o' R3=>hd o' (List.mem_cons_of_mem _ R3)) Og _ w h2 (ha.trans (Agr.put a o.dst undef (hd o (List.mem_cons_self ..)))) h3⟩
theorem Ge {k:Option Kn} {A B:Prop} {rs:List (Res U)} {v:Value}(h:AQ k A B)(hk:KnO rs v k):B:=by
 unfold AQ at h
 split at h
 ·exact hk.elim
 ·exact h
theorem rH {K:Fr→St U→Prop} {Kp:List PanicEntry→Fr→St U→Prop}(Ot:∀f c,tbl.c f=some c→LV U P f c∧cj P f=true):∀(l:List Oper)(fr:Fr)(st0 st:St U)(Xs X:Nat→Nat→Prop)(w:World)(ds:List Deferred),Steps w0 k0 X0 may st0 Xs st X w→av st.rs fr st.kn→fr.ds=ds→DL U P tbl may k0 n N ops K Kp l fr st→
 FI (fun fr o w K=>opW P true (some fun ch w'=>Aft w0 k0 X0 may st0 Xs ds (Kp ch) fr w') o (ev fr) w K) n N ops (Aft w0 k0 X0 may st0 Xs ds K) l fr w
 | [],fr,st0,st,Xs,X,w,ds,hS,hk,hd,h=>⟨st,X,hS,hk,hd,h⟩
 | o::rest,fr,st0,st,Xs,X,w,ds,hS,hk,hd,h=>by
  refine lD h (fun fr' hl Pf h=>?_) (fun fr' hl Pf h=>?_)
  ·have Qo:=hk.same hl
   refine sy (CM (CO Ot hS.inv Qo h) ?_) fun v w' hp=>?_
   ·rintro ch w' ⟨v,st',X',M,rfl,h1,h3⟩
    exact⟨st',X',hS.trans h3.steps,h3.kn,by rw [Pf,hd],h1⟩
   ·obtain⟨k,st',X',M,h1,h2,h3⟩:=hp
    refine il (jF (Ge h1 h2) h3.kn h2) fun Og hp=>?_
    obtain⟨OD,e1,e2,h4,h5,h6⟩:=hp
    exact rH Ot rest Og st0 OD Xs X' w' ds ((hS.trans h3.steps).kn e1 e2) (by rw [e1];exact h4) (by rw [h5,Pf,hd]) h6
  ·have Qo:=hk.same hl
   refine il (jF h Qo trivial) fun Og hp=>?_
   obtain⟨OD,e1,e2,h4,h5,h6⟩:=hp
   exact rH Ot rest Og st0 OD Xs X w ds (hS.kn e1 e2) (by rw [e1];exact h4) (by rw [h5,Pf,hd]) h6
theorem Inv.drew(h:Inv w0 k0 X0 may st.rs X w):Inv w0 k0 X0 may st.rs X w.drew:=h.pu (Pu.aU w)
structure BOk(V:List Nat)(rd:List (Nat×List Nat))(b:Nat→Nat→Prop)(rs:List (Res U))(X:Nat→Nat→Prop)(w:World):Prop where
 has:∀i id k,id∈qm i rd→id<rs.length→X id k→b i k
 all:∀i k,i∈V→b i k
 only:∀i k,i ∉ V→b i k→k<w.heap.size∧∀j,j<rs.length→X j k→j∈qm i rd
end
end
end Go.Proofs.YtinhphjfnedhgaaGreatDoor.V
