/- ValidSpoils returns true for every input, and each argument reads behind the call as it read before; no condition but that the listed variables read as the row lists them. -/
import Derived.Test.YtbjlecpmgocoeaaGreatDoorS1
import Derived.Test.YtbjlecpmgocoeaaGreatDoorProg
import Derived.KernelRfl
import Derived.ProofKit
import Derived.SizedLaws
import Derived.OpenShut
import Derived.LaidMore
import Derived.MakeChecks
import Derived.Handed
import Derived.Deep.SlicePairs
set_option linter.unusedVariables false
set_option linter.unusedSimpArgs false
section
namespace Go.Proofs.YtbjlecpmgocoeaaGreatDoor.V
open Go Go.RowKit
open Go.IntKind (i64 u32 u64)
open Enc (enc)
section
variable {U:Uni} {P:Program} {tbl:Tb U} {may:List Nat} {k0:Nat}
theorem gJ {α β:Type}(f:α→β):∀l,aJ f l=l.map f
 | []=>rfl
 | a::l=>by simp [aJ,gJ f l]
theorem bD {α β:Type}(f:α→β):∀(l:List α)(i:Nat),nth (aJ f l) i=(nth l i).map f
 | [],_=>rfl
 | _::_,0=>rfl
 | _::l,i+1=>bD f l i
@[simp] theorem Dz {α β:Type}(f:α→β):∀l:List α,(aJ f l).length=l.length
 | []=>rfl
 | _::l=>by simp [aJ,Dz f l]
theorem eg {x:Nat}:∀ {l:List Nat},jT x l=true↔x∈l
 | []=>by simp [jT]
 | y::r=>by
  unfold jT
  split
  ·rename_i h
   have:=Nat.eq_of_beq_eq_true h
   simp [this]
  ·rename_i h
   have h':¬x=y:=by rintro rfl;simp at h
   rw [eg]
   simp [h']
theorem k8:∀ {l:List Nat},mZ l=true→l.Nodup
 | [],_=>List.nodup_nil
 | x::r,h=>by
  unfold mZ at h
  split at h
  ·cases h
  ·rename_i hm
   refine List.nodup_cons.2 ⟨fun hx=>?_,k8 h⟩
   rw [eg.2 hx]at hm
   cases hm
theorem cm {α:Type} {f:α→Bool}:∀ {l:List α},iT f l=true↔∀x∈l,f x=true
 | []=>by simp [iT]
 | a::r=>by
  unfold iT
  split
  ·rename_i h
   rw [cm]
   simp [h]
  ·rename_i h
   simp [h]
theorem wF {α:Type} {f:α→Bool}:∀ {l:List α},lv f l=true↔∃x∈l,f x=true
 | []=>by simp [lv]
 | a::r=>by
  unfold lv
  split
  ·rename_i h
   simp [h]
  ·rename_i h
   rw [wF]
   simp [h]
theorem pV {α β:Type} {f:α→Option β}:∀ {l:List α} {r:List β},gI f l=some r→r.length=l.length∧∀i a,nth l i=some a→∃b,f a=some b∧nth r i=some b
 | [],r,h=>by
  simp only [gI,Option.some.injEq]at h
  subst h
  exact⟨rfl,fun i a hi=>by simp [nth]at hi⟩
 | a::l,r,h=>by
  unfold gI at h
  split at h
  ·rename_i b bs hb hbs
   injection h with h
   subst h
   obtain⟨h1,h2⟩:=pV hbs
   refine⟨by simp [h1],fun i x hx=>?_⟩
   cases i with
   | zero=>simp [nth]at hx;subst hx;exact⟨b,hb,rfl⟩
   | succ i=>exact h2 i x hx
  ·cases h
theorem eC {α:Type}:∀(n:Nat)(l:List α),iG n l=l.take n
 | 0,_=>by simp [iG]
 | n+1,[]=>by simp [iG]
 | n+1,a::l=>by simp [iG,eC n l]
theorem fk {α:Type}:∀(n:Nat)(l:List α),kM n l=l.drop n
 | 0,_=>by simp [kM]
 | n+1,[]=>by simp [kM]
 | n+1,a::l=>by simp [kM,fk n l]
theorem vb {α:Type}:∀(l:List α)(i:Nat)(x:α),bY l i x=l.set i x
 | [],_,_=>by simp [bY]
 | _::_,0,_=>rfl
 | _::l,i+1,x=>by simp [bY,vb l i x]
theorem nO:∀(vs:List Value)(cs:List Value)(o:Nat),setAt ⟨cs⟩ o vs=⟨fV cs o vs⟩
 | [],_,_=>rfl
 | v::r,cs,o=>by
  have e:(Array.mk cs).setIfInBounds o v=⟨bY cs o v⟩:=by apply Array.ext';simp [vb]
  simp only [setAt,fV,e]
  exact nO r _ _
@[simp] theorem A7 {α:Type}:∀(vs:List α)(cs:List α)(o:Nat),(fV cs o vs).length=cs.length
 | [],_,_=>rfl
 | v::r,cs,o=>by simp [fV,A7 r]
theorem kq {α:Type}:∀(vs:List α)(cs:List α)(o i:Nat),o+vs.length≤cs.length→nth (fV cs o vs) i=if o≤i∧i<o+vs.length then nth vs (i - o)else nth cs i
 | [],cs,o,i,h=>by
  simp only [fV,List.length_nil,Nat.add_zero]
  rw [if_neg (by omega)]
 | v::r,cs,o,i,h=>by
  simp only [List.length_cons]at h
  simp only [fV,List.length_cons]
  rw [kq r _ _ _ (by simp;omega),bp]
  by_cases h1:o+1≤i∧i<o+1+r.length
  ·rw [if_pos h1,if_pos (by omega)]
   have:i - o=(i - (o+1))+1:=by omega
   rw [this];rfl
  ·rw [if_neg h1]
   by_cases h2:i=o
   ·subst h2
    rw [if_pos ⟨rfl,by omega⟩,if_pos (by omega)];simp [nth]
   ·rw [if_neg (by omega),if_neg (by omega)]
theorem dt {f:Key→Kn→Bool} {key:Key} {k:Kn}:∀ {l:List (Key×Kn)},(key,k)∈eW f l→(key,k)∈l∧f key k=true
 | [],h=>by cases h
 | (a,q)::r,h=>by
  unfold eW at h
  split at h
  ·rename_i hf
   rcases List.mem_cons.1 h with e | h
   ·injection e with e1 e2;subst e1;subst e2;exact⟨List.mem_cons_self ..,hf⟩
   ·have:=dt h;exact⟨List.mem_cons_of_mem _ this.1,this.2⟩
  ·have:=dt h;exact⟨List.mem_cons_of_mem _ this.1,this.2⟩
theorem Key.lh:∀ {a b:Key},a.eq b=true→a=b
 | .s a,.s b,h=>by rw [Nat.eq_of_beq_eq_true h]
 | .c a b,.c x y,h=>by
  simp only [Key.eq,Bool.and_eq_true]at h
  rw [Nat.eq_of_beq_eq_true h.1,Nat.eq_of_beq_eq_true h.2]
 | .l a b,.l x y,h=>by
  simp only [Key.eq,Bool.and_eq_true]at h
  rw [Nat.eq_of_beq_eq_true h.1,Nat.eq_of_beq_eq_true h.2]
 | .s _,.l _ _,h=>by cases h
 | .l _ _,.s _,h=>by cases h
 | .c _ _,.l _ _,h=>by cases h
 | .l _ _,.c _ _,h=>by cases h
 | .s _,.c _ _,h=>by cases h
 | .c _ _,.s _,h=>by cases h
theorem sF {key:Key} {k:Kn}:∀ {l:List (Key×Kn)},cz key l=some k→(key,k)∈l
 | [],h=>by cases h
 | (a,q)::r,h=>by
  unfold cz at h
  split at h
  ·rename_i he
   injection h with h
   subst h
   rw [Key.lh he]
   exact List.mem_cons_self ..
  ·exact List.mem_cons_of_mem _ (sF h)
theorem PK.lh:∀ {a b:PK},a.eq b=true→a=b
 | .loc a b,.loc x y,h=>by
  simp only [PK.eq,Bool.and_eq_true]at h
  rw [Nat.eq_of_beq_eq_true h.1,Nat.eq_of_beq_eq_true h.2]
 | .obj a b c,.obj x y z,h=>by
  simp only [PK.eq,Bool.and_eq_true]at h
  rw [Nat.eq_of_beq_eq_true h.1,Nat.eq_of_beq_eq_true h.2.1,Nat.eq_of_beq_eq_true h.2.2]
 | .sl a b,.sl x y,h=>by
  simp only [PK.eq,Bool.and_eq_true]at h
  rw [Nat.eq_of_beq_eq_true h.1,Nat.eq_of_beq_eq_true h.2]
 | .loc ..,.obj ..,h | .loc ..,.sl ..,h | .loc ..,.el ..,h | .obj ..,.loc ..,h | .obj ..,.sl ..,h | .obj ..,.el ..,h | .sl ..,.loc ..,h | .sl ..,.obj ..,h | .sl ..,.el ..,h | .el ..,.loc ..,h | .el ..,.obj ..,h | .el ..,.sl ..,h | .el ..,.el ..,h=>by cases h
theorem Kn.lh {a b:Kn}(h:a.eq b=true):a=b∧∃p,a= .p p:=by
 cases a<;>cases b<;>simp only [Kn.eq]at h<;>first | cases h | skip
 rename_i p q
 exact⟨by rw [PK.lh h],p,rfl⟩
def Kn.has(p:PK):Kn→Prop
 | .p k=>k=p
 | .t l=>∃j,nth l j=some (some p)
 | .ag l=>∃j,nth l j=some (some p)
 | .f a b=>(∃j,nth a j=some (some p))∨∃j,nth b j=some (some p)
theorem gY.mono {rs rs':List (Res U)} {v:Value} {k:Kn}(h:gY rs v k)(hd:∀p,k.has p→∀u,den U rs p=some u→den U rs' p=some u):gY rs' v k:=by
 cases k with
 | p k=>exact hd k rfl _ h
 | t l=>
  obtain⟨vs,h1,h2⟩:=h
  exact⟨vs,h1,fun j k hj=>by obtain⟨u,hu,hu2⟩:=h2 j k hj;exact⟨u,hu,hd k ⟨j,hj⟩ _ hu2⟩⟩
 | ag l=>
  obtain⟨vs,h1,h2⟩:=h
  exact⟨vs,h1,fun j k hj=>by obtain⟨u,hu,hu2⟩:=h2 j k hj;exact⟨u,hu,hd k ⟨j,hj⟩ _ hu2⟩⟩
 | f a b=>
  obtain⟨f,fs,cs,h1,hl,h2,h3⟩:=h
  exact⟨f,fs,cs,h1,hl,fun j k hj=>by obtain⟨u,hu,hu2⟩:=h2 j k hj;exact⟨u,hu,hd k (.inl ⟨j,hj⟩) _ hu2⟩,fun j k hj=>by obtain⟨u,hu,hu2⟩:=h3 j k hj;exact⟨u,hu,hd k (.inr ⟨j,hj⟩) _ hu2⟩⟩
theorem ij {α:Type}:∀ {l:List α} {i:Nat} {x:α},nth l i=some x→x∈l
 | a::l,0,x,h=>by simp [nth]at h;subst h;exact List.mem_cons_self ..
 | a::l,i+1,x,h=>List.mem_cons_of_mem _ (ij (l:=l) h)
theorem Kn.yL {k:Kn} {i:Nat}(h:k.ofList i=false) {p:PK}(hp:k.has p):p.ofList i=false:=by
 have key:∀ {l:List (Option PK)},lv (so i) l=false→∀j,nth l j=some (some p)→p.ofList i=false:=by
  intro l hl j hj
  cases he:p.ofList i
  ·rfl
  ·have:lv (so i) l=true:=wF.2 ⟨some p,ij hj,he⟩
   rw [hl]at this
   cases this
 cases k with
 | p k=>cases hp;exact h
 | t l=>obtain⟨j,hj⟩:=hp;exact key h j hj
 | ag l=>obtain⟨j,hj⟩:=hp;exact key h j hj
 | f a b=>
  simp only [Kn.ofList]at h
  split at h
  ·cases h
  ·rename_i ha
   rcases hp with⟨j,hj⟩ | ⟨j,hj⟩
   ·exact key ha j hj
   ·exact key h j hj
inductive cU:Res U→Res U→Prop
 | blk (g:Nat)(cs cs':List Value)(T:TypeId):cs.length=cs'.length→cU (.blk g cs T) (.blk g cs' T)
 | ob (t:Nat)(r:Nat→Nat)(s s':U.ty t):cU (.ob t r s) (.ob t r s')
 | lst (t:Nat)(own:Bool)(T:TypeId)(A A':Option Addr)(c c':Nat)(l l':List (U.el t)):cU (.lst t own T A c l) (.lst t own T A' c' l')
theorem cU.refl:∀a:Res U,cU a a
 | .blk g cs T=>.blk g cs cs T rfl
 | .ob t r s=>.ob t r s s
 | .lst t own T A c l=>.lst t own T A A c c l l
theorem cU.den {a b:Res U}(h:cU a b) {p:PK} {v:Value}(hp:p.ofList p.id=false∨a=b)(hd:bS U p (some a)=some v):bS U p (some b)=some v:=by
 rcases hp with hp | rfl
 ·cases h<;>cases p<;>simp only [bS,PK.ofList,PK.id,reduceCtorEq]at hd hp ⊢ <;>first | exact hd | (simp at hp)
 ·exact hd
theorem wx {r r':Res U} {u:Upd U}(h:cc r u=some r'):cU r r':=by
 cases r<;>cases u<;>simp only [cc]at h<;>first | cases h | skip
 ·split at h
  ·rename_i hb
   injection h with h;subst h
   exact .blk _ _ _ _ (Nat.eq_of_beq_eq_true hb).symm
  ·cases h
 ·split at h
  ·rename_i t r s t' s' ht
   subst ht
   injection h with h;subst h
   exact .ob _ _ _ _
  ·cases h
 ·split at h
  ·rename_i t own T A c l t' A' c' l' ht
   subst ht
   injection h with h;subst h
   exact .lst _ _ _ _ _ _ _ _ _
  ·cases h
theorem cU.trans {a b c:Res U}(h:cU a b)(k:cU b c):cU a c:=by
 cases h<;>cases k
 ·rename_i h1 _ h2;exact .blk _ _ _ _ (h1.trans h2)
 ·exact .ob _ _ _ _
 ·exact .lst _ _ _ _ _ _ _ _ _
theorem qg {rs rs':List (Res U)} {M:List Nat}(hs:∀i,i<rs.length→i ∉ M→nth rs' i=nth rs i)(hr:∀i,i∈M→∀a,nth rs i=some a→∃b,nth rs' i=some b∧cU a b)
 {p:PK}(hp:p.id ∉ M∨p.ofList p.id=false) {v:Value}(hd:den U rs p=some v):den U rs' p=some v:=by
 unfold den at hd ⊢
 cases hn:nth rs p.id with
 | none=>rw [hn]at hd;cases p<;>simp [bS]at hd
 | some a=>
  rw [hn]at hd
  by_cases hm:p.id∈M
  ·obtain⟨b,hb,hrt⟩:=hr _ hm a hn
   rw [hb]
   exact hrt.den (.inl (hp.elim (fun h=>absurd hm h) id)) hd
  ·rw [hs _ (aP hn) hm,hn];exact hd
theorem eB.IZ {rs:List (Res U)} {fr fr':Fr}(h:∀i,lk fr'.g i fr'.e=lk fr.g i fr.e) {key:Key} {k:Kn}(hp:eB rs fr key k):eB rs fr' key k:=by
 cases key with
 | s i=>show gY rs (lk fr'.g i fr'.e) k;rw [h];exact hp
 | c id off=>exact hp
 | l id path=>exact hp
theorem aA.same {rs:List (Res U)} {fr fr':Fr} {kn:List (Key×Kn)}(h:aA rs fr kn)(he:∀i,lk fr'.g i fr'.e=lk fr.g i fr.e):aA rs fr' kn:=fun key k hk=>(h key k hk).IZ he
theorem aA.app {rs:List (Res U)} {fr:Fr} {a b:List (Key×Kn)}(h:aA rs fr a)(k:aA rs fr b):aA rs fr (a++b):=fun key q hq=>(List.mem_append.1 hq).elim (h key q) (k key q)
theorem aA.nil {rs:List (Res U)} {fr:Fr}:aA rs fr []:=fun _ _ h=>by cases h
theorem aA.get {rs:List (Res U)} {fr:Fr} {kn:List (Key×Kn)}(h:aA rs fr kn) {key:Key} {k:Kn}(hk:cz key kn=some k):eB rs fr key k:=h _ _ (sF hk)
theorem aA.kf {rs:List (Res U)} {fr:Fr} {kn:List (Key×Kn)}(h:aA rs fr kn)(x:Operand):KnO rs (ev fr x) (V.kf kn x):=by
 cases x with
 | tmp t=>
  show KnO rs (lk fr.g t fr.e) (cz (.s t) kn)
  cases hg:cz (.s t) kn with
  | none=>exact trivial
  | some k=>exact h.get hg
 | const v=>exact trivial
 | global g=>exact trivial
 | func f=>exact trivial
theorem aA.jr {rs rs':List (Res U)} {fr:Fr} {kn:List (Key×Kn)} {M:List Nat}(h:aA rs fr kn)(hs:∀i,i<rs.length→i ∉ M→nth rs' i=nth rs i)(hr:∀i,i∈M→∀a,nth rs i=some a→∃b,nth rs' i=some b∧cU a b)
 {kn':List (Key×Kn)}(hk:∀key k,(key,k)∈kn'→(key,k)∈kn∧(∀p,k.has p→p.id ∉ M∨p.ofList p.id=false)∧∀id off,key= .c id off→id ∉ M∨∃g cs cs' T,nth rs id=some (.blk g cs T)∧nth rs' id=some (.blk g cs' T)∧nth cs' off=nth cs off):aA rs' fr kn':=by
 intro key k hm
 obtain⟨h1,h2,h3⟩:=hk key k hm
 have h0:=h key k h1
 have hd:∀p,k.has p→∀u,den U rs p=some u→den U rs' p=some u:=fun p hp u hu=>qg hs hr (h2 p hp) hu
 cases key with
 | s i=>exact gY.mono h0 hd
 | c id off=>
  obtain⟨g,cs,T,v,e1,e2,e3⟩:=h0
  rcases h3 id off rfl with h3 | ⟨g',cs1,cs2,T',e4,e5,e6⟩
  ·exact⟨g,cs,T,v,by rw [hs _ (aP e1) h3];exact e1,e2,e3.mono hd⟩
  ·rw [e1]at e4
   injection e4 with e4
   injection e4 with e4 e7 e8
   subst e4;subst e7;subst e8
   exact⟨g,cs2,T,v,e5,by rw [e6];exact e2,e3.mono hd⟩
 | l id path=>
  obtain⟨t,r,s,e1,e2⟩:=h0
  by_cases hm:id∈M
  ·obtain⟨b,hb,hrt⟩:=hr id hm _ e1
   cases hrt
   exact⟨t,r,_,hb,e2.mono hd⟩
  ·exact⟨t,r,s,by rw [hs _ (aP e1) hm];exact e1,e2.mono hd⟩
theorem sg {key:Key} {k:Kn}:∀ {M:List Nat} {kn:List (Key×Kn)},(key,k)∈eU M kn→(key,k)∈kn∧∀i∈M,k.ofList i=false∧∀off,key≠ .c i off
 | [],kn,h=>⟨h,fun i hi=>by cases hi⟩
 | i::r,kn,h=>by
  unfold eU at h
  obtain⟨h1,h2⟩:=sg h
  obtain⟨h3,h4⟩:=dt h1
  simp only [Bool.and_eq_true,Bool.not_eq_true']at h4
  refine⟨h3,fun j hj=>?_⟩
  rcases List.mem_cons.1 hj with rfl | hj
  ·refine⟨h4.1,fun off e=>?_⟩
   subst e
   simp at h4
  ·exact h2 j hj
theorem aA.eU {rs rs':List (Res U)} {fr:Fr} {kn:List (Key×Kn)} {M:List Nat}(h:aA rs fr kn)(hs:∀i,i<rs.length→i ∉ M→nth rs' i=nth rs i)(hr:∀i,i∈M→∀a,nth rs i=some a→∃b,nth rs' i=some b∧cU a b):aA rs' fr (V.eU M kn):=by
 refine h.jr hs hr fun key k hk=>?_
 obtain⟨h1,h2⟩:=sg hk
 refine⟨h1,fun p hp=>?_,fun id off e=>?_⟩
 ·by_cases hm:p.id∈M
  ·exact .inr (Kn.yL (h2 _ hm).1 hp)
  ·exact .inl hm
 ·by_cases hm:id∈M
  ·exact absurd e ((h2 id hm).2 off)
  ·exact .inl hm
theorem DH {rs:List (Res U)} {fr fr':Fr} {kn:List (Key×Kn)} {d:Nat} {v:Value} {k:Option Kn}(h:aA rs fr kn)(hv:KnO rs v k)(h1:lk fr'.g d fr'.e=v)(h2:∀i,i≠d→lk fr'.g i fr'.e=lk fr.g i fr.e):aA rs fr' (vJ (.s d) k kn):=by
 have key:aA rs fr' (eW (fun a _=>!(a.eq (.s d))) kn):=by
  intro a q hq
  obtain⟨hm,hf⟩:=dt hq
  have h0:=h a q hm
  cases a with
  | s i=>
   have hne:i≠d:=by rintro rfl;simp [Key.eq]at hf
   show gY rs (lk fr'.g i fr'.e) q
   rw [h2 i hne];exact h0
  | c id off=>exact h0
  | l id path=>exact h0
 unfold vJ
 split
 ·exact key
 ·rename_i q
  intro a z hz
  rcases List.mem_cons.1 hz with e | hz
  ·injection e with e1 e2
   subst e1;subst e2
   show gY rs (lk fr'.g d fr'.e) z
   rw [h1];exact hv
  ·exact key a z hz
theorem tU(g:Nat→Value)(d i:Nat)(v:Value)(e:List (Nat×Value)):lk g i ((d,v)::e)=if i=d then v else lk g i e:=by
 simp only [lk]
 split
 ·rename_i h;rw [if_pos (Nat.eq_of_beq_eq_true h)]
 ·rename_i h;rw [if_neg (by rintro rfl;simp at h)]
theorem iL {n:Nat} {N:List Nat} {fr:Fr} {dst:Option Tmp} {v:Value} {k:Option Kn} {st:St U} {F:Fr→St U→Prop}(h:vp U n N fr dst v k st F)(hk:aA st.rs fr st.kn)(hv:KnO st.rs v k):
 ji n N fr dst v fun fr'=>∃st',st'.rs=st.rs∧st'.md=st.md∧aA st.rs fr' st'.kn∧fr'.ds=fr.ds∧F fr' st':=by
 unfold vp at h
 unfold ji at h ⊢
 cases dst with
 | none=>exact⟨st,rfl,rfl,hk,rfl,h⟩
 | some d=>
  dsimp only at h ⊢
  split at h
  ·rename_i hb
   have fin:∀u,u=v→F ⟨(d,u)::fr.e,fr.g,fr.ds⟩ {st with kn:=vJ (.s d) k st.kn}→∃st':St U,st'.rs=st.rs∧st'.md=st.md∧aA st.rs ⟨(d,u)::fr.e,fr.g,fr.ds⟩ st'.kn∧fr.ds=fr.ds∧F ⟨(d,u)::fr.e,fr.g,fr.ds⟩ st':=by
    intro u hu hF
    subst hu
    exact⟨{st with kn:=vJ (.s d) k st.kn},rfl,rfl,DH hk hv (by rw [tU,if_pos rfl]) (fun i hi=>by rw [tU,if_neg hi]),rfl,hF⟩
   split at h
   ·rename_i hN
    cases v with
    | int kk x=>intro z hz;exact fin _ (by rw [hz]) (h z hz)
    | bool x=>intro z hz;exact fin _ (by rw [hz]) (h z hz)
    | _=>exact fin _ rfl h
   ·exact fin _ rfl h
  ·exact h.elim
theorem jX {ops:Array Oper} {o:Oper} {fr:Fr} {yes no yes' no':Fr→Prop}(h:gM ops o fr yes no)(hy:∀fr',(∀i,lk fr'.g i fr'.e=lk fr.g i fr.e)→fr'.ds=fr.ds→yes fr'→yes' fr')(hn:∀fr',(∀i,lk fr'.g i fr'.e=lk fr.g i fr.e)→fr'.ds=fr.ds→no fr'→no' fr'):gM ops o fr yes' no':=by
 unfold gM at h ⊢
 split at h
 ·exact hy fr (fun _=>rfl) rfl h
 ·rename_i j want hg
  split at h
  ·rename_i d hd
   split at h
   ·rename_i b hb
    have hl:∀b',lk fr.g d fr.e= .bool b'→∀i,lk fr.g i ((d,.bool b')::fr.e)=lk fr.g i fr.e:=by
     intro b' hb' i
     rw [tU]
     split
     ·rename_i e;rw [e,hb']
     ·rfl
    rcases fi h with⟨rfl,h2⟩ | ⟨rfl,h2⟩
    ·refine ae (fun _=>?_) (fun e=>by cases e)
     cases want
     ·exact hn _ (hl _ hb) rfl h2
     ·exact hy _ (hl _ hb) rfl h2
    ·refine ae (fun e=>by cases e) (fun _=>?_)
     cases want
     ·exact hy _ (hl _ hb) rfl h2
     ·exact hn _ (hl _ hb) rfl h2
   ·exact hn fr (fun _=>rfl) rfl h
   ·exact h.elim
  ·exact h.elim
theorem Bk {o:Oper} {ρ:Operand→Value} {F:Value→Prop}(hc:∀v,ρ (.const v)=v)(hl:∀t x,o.op≠ .load t x)(h:nT P o ρ F)(w:World):∃v,F v∧∀w',w'.os=w.os→w'.tape=w.tape→w'.output=w.output→(execOp ρ o).run P w'= .ok (.value v) w':=by
 have hw:nS P none o ρ {w with heap:= #[]} F False:=by
  unfold nT nS at h
  unfold nS
  generalize o.op=op at h hl ⊢
  cases op<;>first | exact h | exact absurd rfl (hl _ _)
 rcases mW hc hw with⟨v,hv,hr⟩ | hh
 ·exact⟨v,hv,fun w' h1 h2 h3=>hr w' ⟨h1,h2,h3,Nat.zero_le _,fun k hk=>absurd hk (Nat.not_lt_zero _)⟩⟩
 ·exact hh.elim
def rdX(o:Oper)(kn:List (Key×Kn))(X:Nat→Nat→Prop):Nat→Prop:=
 match o.op with
 | .load _ x=>(match V.kf kn x with
  | some (.p k)=>X k.id
  | _=>fun _=>False)
 | _=>fun _=>False
theorem yZ {s:TypeId} {x:Value} {f:Nat} {F:Value→Prop}(h:js P s x f F):∃fields fd p,P.underlying s=some (.struct fields)∧fields[f]? =some fd∧x= .pointer (some p)∧F (.pointer (some (p.add fd.offset)))∧∀w,(Instr.fieldAt s x f).run P w= .ok (.pointer (some (p.add fd.offset))) w:=by
 have key:∀fields fd p,P.underlying s=some (.struct fields)→fields[f]? =some fd→x= .pointer (some p)→∀w,(Instr.fieldAt s x f).run P w= .ok (.pointer (some (p.add fd.offset))) w:=by
  intro fields fd p h1 h2 h3 w
  have h':js P s x f fun v=>v= .pointer (some (p.add fd.offset)):=by
   unfold js at h ⊢
   subst h3
   rw [h1]at h ⊢
   simp only at h ⊢
   rw [h2]at h ⊢
   simp only at h ⊢
   split at h
   ·rename_i i hi
    split at h
    ·exact ak p rfl rfl
    ·exact h.elim
   ·exact h.elim
  obtain⟨v,hv,hr⟩:=qd h'
  rw [hr w,hv]
 have h0:=h
 unfold js at h
 split at h
 ·rename_i fields hs
  split at h
  ·rename_i fd hf
   split at h
   ·split at h
    ·split at h
     ·obtain⟨p,hp,hF⟩:=bZ h
      exact⟨fields,fd,p,hs,hf,by rw [hp],hF,key fields fd p hs hf (by rw [hp])⟩
     ·exact h.elim
    ·exact h.elim
   ·exact h.elim
  ·exact h.elim
 ·exact h.elim
theorem DN {t:TypeId} {p:Addr} {i:Value} {F:Value→Prop}(h:ox P t (.pointer (some p)) i F):∃n e k ix,P.underlying t=some (.array n e)∧i= .int k ix∧F (.pointer (some (p.add (ix.toNat *bj P e))))∧∀w,(Instr.indexAt t (.pointer (some p)) i).run P w= .ok (.pointer (some (p.add (ix.toNat *bj P e)))) w:=by
 unfold ox at h
 cases hu:P.underlying t with
 | none=>rw [hu]at h;exact h.elim
 | some d=>
  rw [hu]at h
  cases d<;>first | exact h.elim | skip
  rename_i n e
  cases i<;>first | exact h.elim | skip
  rename_i k ix
  simp only at h
  split at h
  ·rename_i he
   obtain⟨hb,h⟩:=h
   obtain⟨q,hq,hF⟩:=bZ h
   injection hq with hq
   subst hq
   refine⟨n,e,k,ix,rfl,rfl,hF,fun w=>?_⟩
   have h':ox P t (.pointer (some p)) (.int k ix) fun v=>v= .pointer (some (p.add (ix.toNat *bj P e))):=by
    unfold ox
    rw [hu]
    simp only [he]
    exact⟨hb,ak p rfl rfl⟩
   obtain⟨v,hv,hr⟩:=l8 h'
   rw [hr w,hv]
  ·exact h.elim
theorem FY {t e:TypeId} {A:Option Addr} {n c:Nat} {k:IntKind} {ix:Int} {p:Addr}(ht:P.underlying t=some (.slice e))(he:hasType P e=true)(hb:0≤ix∧ix<n)(hA:A=some p)(w:World):(Instr.indexAt t (.slice A n c) (.int k ix)).run P w= .ok (.pointer (some (p.add (ix.toNat *bj P e)))) w:=by
 have h':ox P t (.slice A n c) (.int k ix) fun v=>v= .pointer (some (p.add (ix.toNat *bj P e))):=by
  unfold ox
  rw [ht]
  simp only [he]
  exact⟨hb,ak p hA rfl⟩
 obtain⟨v,hv,hr⟩:=l8 h'
 rw [hr w,hv]
theorem RS.rd {X:Nat→Prop} {w:World} {t:Nat} {own:Bool} {T:TypeId} {A:Option Addr} {c:Nat} {l:List (U.el t)}(h:RS X w (.lst t own T A c l)):Rd w X A l.length c l:=by
 cases own
 ·exact h
 ·have h1:Rd w (fun k=>X k∧k<w.heap.size) A l.length c l:=h.1.rd
  exact h1.mono (fun k hk=>hk.1) h.2
theorem RS.ls {X:Nat→Prop} {w:World} {r:Res U} {li:Nat} {L:Ls U.el}(h:RS X w r)(hl:jo r li=some L):Rd w X L.A L.l.length L.c L.l:=by
 unfold jo at hl
 split at hl
 ·injection hl with hl
  subst hl
  exact RS.rd h
 ·exact U.GV h hl
 ·cases hl
theorem cE {α:Type} {o:Option α} {F:α→Prop}(h:fx o F):∃a,o=some a∧F a:=by
 cases o with
 | none=>exact h.elim
 | some a=>exact⟨a,rfl,h⟩
theorem iM {t:TypeId} {cs:List Value} {off:Nat} {v:Value}(h:jG P t cs off=some v) {w:World} {p:Addr}(hp:∀j u,j<bj P t→nth cs (off+j)=some u→w.cell? (p.add j)=some u):(Instr.loadAt t (.pointer (some p))).run P w= .ok v w:=by
 unfold jG at h
 split at h
 ·rename_i hb
  simp only [Bool.and_eq_true]at hb
  obtain⟨h1,h2,h3,h4⟩:=hb
  have h4:off+bj P t≤cs.length:=Nat.le_of_ble_eq_true h4
  have h3':fN (cT P t)=bj P t:=Nat.eq_of_beq_eq_true h3
  refine jO (s:=cT P t) h1 h2 h3 ?_
  have hd:∀j,nth (cs.drop off) j=nth cs (off+j):=fun j=>by rw [aL,aL,List.getElem?_drop]
  split at h
  ·rename_i s hs
   have:=hp 0 v (by rw [← h3',hs];simp [fN]) (by simpa using h)
   rw [hs]
   simpa [gi,Addr.add]using this
  ·rename_i l hs
   injection h with h
   subst h
   rw [hs]at h3' ⊢
   simp only [fN]at h3'
   have hlen:(cs.drop off |>.take l.length).length=l.length:=by simp;omega
   simp only [gi,eC,fk,hlen,Nat.beq_refl]
   have key:∀(vs:List Value)(i:Nat),(∀j u,vs[j]? =some u→w.cell? (p.add (i+j))=some u)→il w p i vs:=by
    intro vs
    induction vs with
    | nil=>intro _ _;exact trivial
    | cons x r ih=>
     intro i hh
     have h0:=hh 0 x rfl
     have h1:=ih (i+1) fun j u hu=>by rw [show i+1+j=i+(j+1)by omega];exact hh (j+1) u (by simpa using hu)
     cases r with
     | nil=>exact h0
     | cons y r=>exact⟨h0,h1⟩
   refine key _ 0 fun j u hu=>?_
   rw [Nat.zero_add]
   have hj:j<l.length:=by have:=(List.getElem?_eq_some_iff.1 hu).1;omega
   refine hp j u (by omega) ?_
   rw [aL,← List.getElem?_drop,← hu,List.getElem?_take,if_pos hj]
  ·rename_i n hs
   injection h with h
   subst h
   rw [hs]at h3' ⊢
   simp only [fN]at h3'
   refine⟨by simp [eC,fk];omega,fun j u hu=>?_⟩
   simp only [eC,fk]at hu
   have hj:j<n:=by
    have:=(Array.getElem?_eq_some_iff.1 hu).1
    simp at this
    omega
   refine hp j u (by omega) ?_
   rw [aL,← List.getElem?_drop]
   have:((cs.drop off).take n)[j]? =some u:=by simpa using hu
   rwa [List.getElem?_take,if_pos hj]at this
 ·cases h
theorem Kept.wh {B:Nat→Prop} {w w':World}(k:Kept B w w') {p:Addr}(hp:B p.block) {v:Value}(h:w.cell? p=some v):w'.cell? p=some v:=(k.cell hp).trans h
theorem lJ:∀ {n k j i:Nat},nth (upN n k) j=some i→i=n+j
 | n,0,j,i,h=>by simp [upN,nth]at h
 | n,k+1,0,i,h=>by simp [upN,nth]at h;omega
 | n,k+1,j+1,i,h=>by have:=lJ (n:=n+1) (k:=k) (j:=j) h;omega
theorem lK:∀(n k:Nat),(upN n k).length=k
 | _,0=>rfl
 | n,k+1=>by simp [upN,lK (n+1) k]
theorem Bn {o:Option Kn} {p:PK}(h:gh o=some p):o=some (.p p):=by
 unfold gh at h
 split at h
 ·injection h with h;rw [h]
 ·cases h
theorem BI {st:St U} {fr:Fr} {id off:Nat} {g:Nat} {cs:List Value} {T t:TypeId} {v:Value}(hk:aA st.rs fr st.kn)(hn:nth st.rs id=some (.blk g cs T))(hv:jG P t cs off=some v)(hs:lR P t=false):KnO st.rs v (y8 id off st.kn v):=by
 unfold y8
 split
 ·rename_i v2 cs2
  split
  ·refine⟨cs2,rfl,fun j p hj=>?_⟩
   rw [bD]at hj
   cases hu:nth (upN 0 cs2.toList.length) j with
   | none=>rw [hu]at hj;cases hj
   | some i=>
    rw [hu]at hj
    have hij:i=j:=by have:=lJ hu;omega
    subst hij
    have hlt:=aP hu
    rw [lK]at hlt
    injection hj with hj
    obtain⟨g',cs',T',u,e1,e2,e3⟩:=hk.get (Bn hj)
    rw [hn]at e1
    injection e1 with e1
    injection e1 with _ e1 _
    subst e1
    refine⟨u,?_,e3⟩
    have key:∀m,i<(iG m (kM off cs)).length→(iG m (kM off cs))[i]? =some u:=fun m hm=>by
     rw [eC,fk]at hm ⊢
     rw [List.getElem?_take,if_pos (by simp at hm;omega),List.getElem?_drop,← aL]
     exact e2
    unfold jG at hv
    unfold lR at hs
    split at hv
    ·split at hv
     ·rename_i h2;rw [h2]at hs;cases hs
     ·injection hv with hv;injection hv with hv
      subst hv
      simpa using key _ hlt
     ·injection hv with hv;injection hv with hv
      subst hv
      simpa using key _ hlt
    ·cases hv
  ·trivial
 ·trivial
theorem sB {t:TypeId} {x:Value} {k:Option Kn} {st:St U} {X:Nat→Nat→Prop} {w:World} {K:Value→Option Kn→Prop}(hS:Sat st.rs X w) {fr:Fr}(hk:aA st.rs fr st.kn)(hx:KnO st.rs x k)(h:sC U P t k st K):
 ∃v kv,K v kv∧KnO st.rs v kv∧∀w',Kept (match k with | some (.p k)=>X k.id | _=>fun _=>False) w w'→(Instr.loadAt t x).run P w'= .ok v w':=by
 unfold sC at h
 split at h
 ·rename_i id off
  split at h
  ·rename_i g cs T hn
   obtain⟨v,hv,hK⟩:=cE h
   have hd:den U st.rs (.loc id off)=some x:=hx
   simp only [den,PK.id,hn,bS,Option.some.injEq]at hd
   subst hd
   obtain⟨hg,hX,hb⟩:=hS.res id _ hn
   refine⟨v,_,hK,?_,fun w' hw=>iM hv fun j u hj hu=>?_⟩
   ·cases hs:lR P t
    ·exact BI hk hn hv hs
    ·simp only
     cases hq:cz (.c id off) st.kn with
     | none=>exact trivial
     | some q=>
      obtain⟨g',cs',T',u,e1,e2,e3⟩:=hk.get hq
      rw [hn]at e1
      injection e1 with e1
      injection e1 with _ e1 _
      subst e1
      have:v=u:=by
       unfold jG at hv
       unfold lR at hs
       split at hv
       ·split at hv
        ·rw [e2]at hv;injection hv with hv;exact hv.symm
        ·rename_i hq2;rw [hq2]at hs;cases hs
        ·rename_i hq2;rw [hq2]at hs;cases hs
       ·cases hv
      rw [this];exact e3
   ·refine Kept.wh hw (by rw [block_add];exact hg) ?_
    rw [bx]
    exact hb.cell (by rw [aL]at hu;simpa using hu)
  ·exact h.elim
 ·rename_i id path off
  split at h
  ·rename_i tt r s hn
   split at h
   rotate_left
   ·split at h
    ·rename_i c cs hwl
     obtain⟨hc,h⟩:=h
     obtain⟨v,hv,hK⟩:=cE h
     have hd:den U st.rs (.obj id path off)=some x:=hx
     simp only [den,PK.id,hn,bS,Option.some.injEq]at hd
     subst hd
     obtain⟨hX,hcs⟩:=U.GM (hS.res id _ hn) hwl hc
     refine⟨v,_,hK,trivial,fun w' hw=>iM hv fun j u hj hu=>?_⟩
     refine Kept.wh hw (by rw [block_add];exact hX) ?_
     rw [Nat.zero_add,aL]at hu
     rw [bx]
     exact hcs j u hu
    ·exact h.elim
   ·rename_i f hf
    obtain⟨u,hu,h⟩:=cE h
    obtain⟨v,hv,hK⟩:=cE h
    have hd:den U st.rs (.obj id path off)=some x:=hx
    simp only [den,PK.id,hn,bS,Option.some.injEq]at hd
    subst hd
    obtain⟨hX,hc⟩:=U.GY (hS.res id _ hn) hf hu
    refine⟨v,_,hK,?_,fun w' hw=>iM hv fun j y hj hy=>?_⟩
    ·cases hs:lR P t
     ·exact trivial
     ·have huv:u=v:=by
       unfold jG at hv
       unfold lR at hs
       split at hv
       ·split at hv
        ·injection hv
        ·rename_i hq2;rw [hq2]at hs;cases hs
        ·rename_i hq2;rw [hq2]at hs;cases hs
       ·cases hv
      subst huv
      cases f with
      | v y=>exact trivial
      | o p o=>
       have hself:den U st.rs (.obj id p o)=some u:=by
        simp only [den,PK.id,hn,bS]
        exact hu
       cases o with
       | succ o=>exact hself
       | zero=>
        show KnO st.rs u (match cz (.l id p) st.kn with
         | some k=>some k
         | none=>some (.p (.obj id p 0)))
        cases hl:cz (.l id p) st.kn with
        | none=>exact hself
        | some k=>
         obtain⟨t',r',s',e1,e2⟩:=hk.get hl
         rw [hn]at e1
         injection e1 with e1
         cases e1
         simp only [fvV,Option.some.injEq]at hu
         rw [← hu]
         exact e2
      | l i=>
       show den U st.rs (.sl id i)=_
       simp only [den,PK.id,hn,bS]
       simp only [fvV]at hu
       simp only [jo]
       cases hL:U.li tt r s i with
       | none=>rw [hL]at hu;cases hu
       | some L=>simp only [hL]at hu ⊢;exact hu
    ·cases j with
     | zero=>
      simp only [Nat.zero_add,nth,Option.some.injEq]at hy
      subst hy
      exact Kept.wh hw (by rw [block_add];exact hX) hc
     | succ j=>simp [nth]at hy
  ·exact h.elim
 ·rename_i id li i off
  split at h
  ·rename_i r hn
   split at h
   ·rename_i L hL
    have hd:den U st.rs (.el id li i off)=some x:=hx
    simp only [den,PK.id,hn,bS,hL]at hd
    split at hd
    ·rename_i hb
     injection hd with hd
     subst hd
     have hr:=(hS.res id _ hn).ls hL
     obtain⟨p,y,hA,hy,hZ,hc⟩:=hr.ld hb.1 hb.2
     split at h
     ·rename_i _ ho
      have ho:off=0:=Nat.eq_of_beq_eq_true ho
      subst ho
      split at h
      ·rename_i h1
       have h1:(U.en L.t).size=1:=Nat.eq_of_beq_eq_true h1
       obtain⟨hle,h⟩:=h
       obtain⟨v,hv,hK⟩:=cE h
       refine⟨v,_,hK,trivial,fun w' hw=>iM hv fun j u hj hu=>?_⟩
       rw [Nat.zero_add,D0,bD]at hu
       cases hu2:nth (upN 0 (bj P t)) j with
       | none=>rw [hu2]at hu;cases hu
       | some j'=>
        rw [hu2]at hu
        have hij:j'=j:=by have:=lJ hu2;omega
        subst hij
        have hlt:=aP hu2
        rw [lK]at hlt
        injection hu with hu
        have hx2:=List.getElem?_eq_getElem (l:=L.l) (i:=i.toNat+j') (by omega)
        obtain⟨p',hA',hZ',hc'⟩:=hr.cell _ _ hx2
        rw [hA]at hA'
        injection hA' with hA'
        subst hA'
        have h0:=hc' 0 (by show 0<(U.en L.t).size;omega)
        have e1:elA U L.t L.A i 0=p.add i.toNat:=by unfold elA;rw [hA,h1];simp [Addr.add]
        rw [e1]
        refine Kept.wh hw (by rw [block_add,block_add];exact hZ) ?_
        have e2:(p.add ((i.toNat+j')*Enc.size (U.el L.t))).add 0=(p.add i.toNat).add j':=by
         rw [show Enc.size (U.el L.t)=1 from h1,add_add,add_add,Nat.mul_one,Nat.add_zero]
        rw [e2]at h0
        have hu:hd1 (enc (L.l.getD (i.toNat+j') (U.df L.t)))=u:=hu
        rw [h0,← hu,List.getD_eq_getElem?_getD,hx2]
        show(enc L.l[i.toNat+j'])[0]? =some (hd1 (enc L.l[i.toNat+j']))
        have hl:(enc L.l[i.toNat+j']).length=1:=by rw [bK];exact h1
        match he:enc L.l[i.toNat+j'],hl with
        | [a],_=>rfl
      ·exact h.elim
     obtain⟨v,hv,hK⟩:=cE h
     refine⟨v,_,hK,trivial,fun w' hw=>iM hv fun j u hj hu=>?_⟩
     have hg:L.l.getD i.toNat (U.df L.t)=y:=by rw [List.getD_eq_getElem?_getD,hy];rfl
     rw [hg]at hu
     have hjs:off+j<Enc.size (U.el L.t):=by have:=aP hu;rw [← bK y];exact this
     have h2:=hc (off+j) hjs
     refine Kept.wh hw ?_ ?_
     ·unfold elA
      rw [hA]
      simp only [Option.getD_some,block_add]
      exact hZ
     ·unfold elA
      rw [hA]
      simp only [Option.getD_some]
      rw [add_add]
      rw [aL]at hu
      exact h2.trans hu
    ·cases hd
   ·exact h.elim
  ·exact h.elim
 ·exact h.elim
theorem vG(ρ:Operand→Value)(a:Array Operand):(⟨aJ ρ a.toList⟩:Array Value)=a.map ρ:=by
 apply Array.ext'
 simp [gJ]
theorem vT {rs:List (Res U)} {cs:List Value}:∀ {l:List (Nat×PK)} {F:Prop},HH rs cs l F→F∧∀o p,(o,p)∈l→den U rs p=nth cs o
 | [],F,h=>⟨h,fun _ _ h=>by cases h⟩
 | (a,b)::l,F,h=>by
  obtain⟨h1,h2⟩:=vT h.2
  refine⟨h1,fun o p hm=>?_⟩
  rcases List.mem_cons.1 hm with e | hm
  ·injection e with e1 e2;subst e1;subst e2;exact h.1
  ·exact h2 o p hm
theorem qt {j:Nat} {p:PK}:∀ {l:List (Nat×PK)},um j l=some p→(j,p)∈l
 | (a,b)::l,h=>by
  unfold um at h
  split at h
  ·rename_i he
   injection h with h
   subst h
   rw [← Nat.eq_of_beq_eq_true he];exact List.mem_cons_self ..
  ·exact List.mem_cons_of_mem _ (qt h)
theorem sx {o:Oper} {fr:Fr} {st:St U} {X:Nat→Nat→Prop} {w:World} {K:Value→Option Kn→Prop}(hS:Sat st.rs X w)(hk:aA st.rs fr st.kn)(h:nU U P o (ev fr) st K):
 ∃v k,K v k∧KnO st.rs v k∧∀w',Kept (rdX o st.kn X) w w'→(execOp (ev fr) o).run P w'= .ok (.value v) w':=by
 have hc:∀v,ev fr (.const v)=v:=fun _=>rfl
 have hp:∀F:Value→Prop,(∀t x,o.op≠ .load t x)→nT P o (ev fr) F→∃v,F v∧∀w',Kept (rdX o st.kn X) w w'→(execOp (ev fr) o).run P w'= .ok (.value v) w':=fun F hl hF=>by
  obtain⟨v,h1,h2⟩:=Bk hc hl hF w
  exact⟨v,h1,fun w' hw=>h2 w' hw.os hw.tape hw.output⟩
 have hpn:(∀t x,o.op≠ .load t x)→nT P o (ev fr) (fun v=>K v none)→∃v k,K v k∧KnO st.rs v k∧∀w',Kept (rdX o st.kn X) w w'→(execOp (ev fr) o).run P w'= .ok (.value v) w':=fun hl hF=>by
  obtain⟨v,h1,h2⟩:=hp _ hl hF
  exact⟨v,none,h1,trivial,h2⟩
 obtain⟨dst,op,ty,pos,after,guard⟩:=o
 cases op<;>first
  | exact hpn (fun _ _ e=>by cases e) h
  | skip
 case move x=>exact⟨_,_,h,hk.kf x,fun _ _=>rfl⟩
 case assign x=>exact⟨_,_,h,hk.kf x,fun _ _=>rfl⟩
 case build t ps=>
  obtain⟨v,h1,h2⟩:=hp _ (fun _ _ e=>by cases e) h
  unfold qo at h1
  split at h1
  ·exact⟨v,none,h1,trivial,h2⟩
  ·split at h1
   ·rename_i cs
    obtain⟨h1,h3⟩:=vT h1
    refine⟨_,_,h1,⟨cs,rfl,fun j k hj=>?_⟩,h2⟩
    rw [bD]at hj
    cases hn:nth (upN 0 cs.toList.length) j with
    | none=>rw [hn]at hj;cases hj
    | some i=>
     rw [hn]at hj
     have hij:i=j:=by have:=lJ hn;omega
     subst hij
     injection hj with hj
     have:=h3 _ _ (qt hj)
     have hlt:=aP hn
     rw [lK]at hlt
     obtain⟨u,hu⟩:=bO (l:=cs.toList) (i:=i) hlt
     exact⟨u,by rw [aL]at hu;simpa using hu,by rw [this,hu]⟩
   ·exact h1.elim
 case load t x=>
  obtain⟨v,kv,h1,h2,h3⟩:=sB hS hk (hk.kf x) h
  refine⟨v,kv,h1,h2,fun w' hw=>?_⟩
  have:=h3 w' hw
  simp [execOp,this]
 case nilCheck x=>
  simp only [nU]at h
  split at h
  ·rename_i p hx
   refine⟨_,_,h,by rw [← hx];exact hk.kf x,fun w' _=>?_⟩
   simp [execOp,hx]
  ·exact h.elim
 case fieldAddr s x f=>
  have h:js P s (ev fr x) f (fun v=>K v (tX P s f (V.kf st.kn x))):=h
  obtain⟨fields,fd,p,h1,h2,h3,h4,h5⟩:=yZ h
  refine⟨_,_,h4,?_,fun w' _=>by simp [execOp,h5]⟩
  have hx:=hk.kf x
  rw [h3]at hx
  unfold tX
  split
  ·rename_i k hkx
   rw [hkx]at hx
   rw [h1]
   simp only [h2]
   have hx:den U st.rs k=some (.pointer (some p)):=hx
   cases k with
   | loc id off=>
    show den U st.rs _=_
    unfold den at hx ⊢
    simp only [PK.id]at hx ⊢
    cases hn:nth st.rs id with
    | none=>rw [hn]at hx;simp [bS]at hx
    | some r=>
     rw [hn]at hx
     cases r<;>simp only [bS,reduceCtorEq,Option.some.injEq,Value.pointer.injEq]at hx ⊢
     rw [← hx,bx]
   | el id li i off=>
    show den U st.rs _=_
    unfold den at hx ⊢
    simp only [PK.id]at hx ⊢
    cases hn:nth st.rs id with
    | none=>rw [hn]at hx;simp [bS]at hx
    | some r=>
     rw [hn]at hx
     simp only [bS]at hx ⊢
     cases hL:jo r li with
     | none=>rw [hL]at hx;cases hx
     | some L=>
      simp only [hL]at hx ⊢
      split at hx
      ·rename_i hb
       rw [if_pos hb]
       injection hx with hx
       injection hx with hx
       injection hx with hx
       rw [← hx]
       unfold elA
       rw [← add_add]
      ·cases hx
   | obj id path off=>
    show den U st.rs _=_
    unfold den at hx ⊢
    simp only [PK.id]at hx ⊢
    cases hn:nth st.rs id with
    | none=>rw [hn]at hx;simp [bS]at hx
    | some r=>
     rw [hn]at hx
     cases r<;>simp only [bS,reduceCtorEq,Option.some.injEq,Value.pointer.injEq]at hx ⊢
     rw [← hx,bx]
   | sl _ _=>exact trivial
  ·exact trivial
 case sliceToArrayPointer arr x=>
  simp only [nU]at h
  have hx:=hk.kf x
  split at h
  ·rename_i id li hkx
   rw [hkx]at hx
   have hx:den U st.rs (.sl id li)=some (ev fr x):=hx
   split at h
   ·rename_i r n e hn ht
    split at h
    ·rename_i L hL
     simp only [den,PK.id,hn,bS,hL,Option.some.injEq]at hx
     obtain⟨⟨h0,hle⟩,hK⟩:=h
     obtain⟨p,y,hA,_⟩:=((hS.res id _ hn).ls hL).ld (i:=0) (by omega) (by omega)
     have e1:elA U L.t L.A 0 0=p:=by unfold elA;rw [hA];simp [Addr.add]
     obtain⟨v,hv,hrun⟩:=hp (fun v=>v= .pointer (some p)) (fun _ _ e=>by cases e) (by
      show(match P.underlying arr,ev fr x with
       | some (.array n _),.slice a len _=>n≤len∧Value.pointer a= .pointer (some p)
       | _,_=>False)
      rw [ht,← hx,hA]
      exact⟨hle,rfl⟩)
     subst hv
     rw [e1]at hK
     refine⟨_,_,hK,?_,hrun⟩
     show den U st.rs (.el id li 0 0)=_
     simp only [den,PK.id,hn,bS,hL]
     rw [if_pos (by omega),e1]
    ·exact h.elim
   ·exact h.elim
  ·exact h.elim
 case indexAddr t x i=>
  simp only [nU]at h
  have hx:=hk.kf x
  split at h
  ·rename_i id li k ix hkx hi
   rw [hkx]at hx
   have hx:den U st.rs (.sl id li)=some (ev fr x):=hx
   split at h
   ·rename_i r e hn ht
    split at h
    ·rename_i L hL
     simp only [den,PK.id,hn,bS,hL,Option.some.injEq]at hx
     split at h
     ·rename_i he
      simp only [Bool.and_eq_true]at he
      have hsz:bj P e=(U.en L.t).size:=Nat.eq_of_beq_eq_true he.2
      obtain⟨hb,hK⟩:=h
      obtain⟨p,y,hA,_⟩:=((hS.res id _ hn).ls hL).ld hb.1 hb.2
      have hv:elA U L.t L.A ix 0=p.add (ix.toNat *bj P e):=by
       unfold elA
       rw [hA,hsz]
       simp [Addr.add]
      refine⟨_,_,hK,?_,fun w' _=>?_⟩
      ·show den U st.rs (.el id li ix 0)=_
       simp only [den,PK.id,hn,bS,hL]
       rw [if_pos hb]
      ·have:=FY (P:=P) (c:=L.c) (k:=k) ht he.1 hb hA w'
       rw [hv]
       simp [execOp,← hx,hi,this]
     ·exact h.elim
    ·exact h.elim
   ·exact h.elim
  ·rename_i id path off k ix hkx hi
   rw [hkx]at hx
   have hx:den U st.rs (.obj id path off)=some (ev fr x):=hx
   split at h
   ·rename_i tt r s li n e hn hix ht
    split at h
    ·rename_i L hL
     simp only [den,PK.id,hn,bS,Option.some.injEq]at hx
     split at h
     ·rename_i he
      simp only [Bool.and_eq_true]at he
      have hsz:bj P e=(U.en L.t).size:=Nat.eq_of_beq_eq_true he.2
      obtain⟨⟨hb,hb2⟩,hK⟩:=h
      unfold Uni.ix1 at hix
      rw [hn]at hix
      have hA:=U.GW hix hL
      have hM:ox P t (ev fr x) (ev fr i) (fun v=>v= .pointer (some ((Addr.mk (r path) off none).add (ix.toNat *bj P e)))):=by
       unfold ox
       rw [ht,← hx,hi]
       simp only [he.1]
       exact⟨⟨hb.1,hb2⟩,ak _ rfl rfl⟩
      obtain⟨v,hv,hrun⟩:=l8 hM
      have hvE:elA U L.t L.A ix 0=(Addr.mk (r path) off none).add (ix.toNat *bj P e):=by
       unfold elA
       rw [hA,hsz]
       simp [Addr.add]
      refine⟨_,_,hK,?_,fun w' _=>?_⟩
      ·show den U st.rs (.el id li ix 0)=_
       simp only [den,PK.id,hn,bS,jo,hL]
       rw [if_pos hb]
      ·rw [hvE,← hv]
       simp [execOp,hrun]
     ·exact h.elim
    ·exact h.elim
   ·exact h.elim
  ·rename_i id off k ix hkx hi
   rw [hkx]at hx
   have hx:den U st.rs (.loc id off)=some (ev fr x):=hx
   unfold den at hx
   simp only [PK.id]at hx
   cases hn:nth st.rs id with
   | none=>rw [hn]at hx;simp [bS]at hx
   | some r=>
    rw [hn]at hx
    cases r<;>simp only [bS,reduceCtorEq,Option.some.injEq]at hx
    rename_i g cs T
    rw [← hx]at h
    obtain⟨n,e,k',ix',h1,h2,h3,h4⟩:=DN h
    rw [hi]at h2
    injection h2 with h2 h2'
    subst h2;subst h2'
    refine⟨_,_,h3,?_,fun w' _=>by simp [execOp,← hx,h4]⟩
    show den U st.rs _=_
    simp only [den,PK.id,hn,bS,DU,h1]
    rw [bx]
  ·exact h.elim
 case extract x i=>
  simp only [nU]at h
  split at h
  ·rename_i vs hx
   obtain⟨v,hv,hK⟩:=cE h
   have hv':vs[i]? =some v:=by rw [aL]at hv;simpa using hv
   refine⟨v,_,hK,?_,fun w' _=>?_⟩
   ·unfold DJ
    split
    ·rename_i l hkx
     split
     ·rename_i p hl
      have:=hk.kf x
      rw [hkx,hx]at this
      obtain⟨vs',e,hh⟩:=this
      injection e with e
      subst e
      obtain⟨u,hu,hd⟩:=hh i p hl
      rw [hv']at hu
      injection hu with hu
      subst hu
      exact hd
     ·exact trivial
    ·exact trivial
   ·simp [execOp,Instr.extract,hx,hv']
  ·exact h.elim
 case makeFunc f first cap=>
  refine⟨_,_,h,?_,fun w' _=>by rw [vG,vG];rfl⟩
  have key:∀(a:Array Operand)(j:Nat)(k:PK),nth (aJ (fun x=>gh (V.kf st.kn x)) a.toList) j=some (some k)→∃u,(⟨aJ (ev fr) a.toList⟩:Array Value)[j]? =some u∧den U st.rs k=some u:=by
   intro a j k hj
   rw [bD]at hj
   cases hn:nth a.toList j with
   | none=>rw [hn]at hj;cases hj
   | some x=>
    rw [hn]at hj
    injection hj with hj
    refine⟨ev fr x,?_,?_⟩
    ·rw [aL]at hn
     simp [gJ,hn]
    ·have:=hk.kf x
     unfold gh at hj
     dsimp only at hj
     split at hj
     ·rename_i q hq
      injection hj with hj
      subst hj
      rw [hq]at this
      exact this
     ·cases hj
  exact⟨_,_,_,rfl,by simp,key first,key cap⟩
 case binOp op t x y ty'=>
  simp only [nU]at h
  split at h
  ·exact h.elim
  ·exact hpn (fun _ _ e=>by cases e) h
 case slice=>exact h.elim
end
end Go.Proofs.YtbjlecpmgocoeaaGreatDoor.V
end
section
namespace Go.Proofs.YtbjlecpmgocoeaaGreatDoor
open Go Go.RowKit V
open Go.IntKind (i64 u32 u64)
def aC(a b:Int):Int:=u32.wrap (a+b)
def oR(a b:Int):Int:=u32.wrap (BitVec.ofInt u32.bits a ^^^ BitVec.ofInt u32.bits b).toNat
def Ee(a b:Int):Int:=u32.wrap (BitVec.ofInt u32.bits a &&& BitVec.ofInt u32.bits b).toNat
def I7(a:Int):Int:=u32.wrap (BitVec.ofInt u32.bits (if u32.signed then -1 else u32.max) ^^^ BitVec.ofInt u32.bits a).toNat
def kY(w n:Int):Int:=u32.wrap (BitVec.ofInt u32.bits (w.fdiv (2 ^ (min n.toNat u32.bits))) ||| BitVec.ofInt u32.bits (u32.wrap (w*2 ^ (min (32 - n).toNat u32.bits)))).toNat
theorem Ik {k:Int}(h: -31≤k∧k≤ -1):u64.wrap (BitVec.ofInt u64.bits (u64.wrap k) &&& BitVec.ofInt u64.bits 31).toNat=32+k:=by
 have:∀j:Fin 31,u64.wrap (BitVec.ofInt u64.bits (u64.wrap (-(j.val+1:Int))) &&& BitVec.ofInt u64.bits 31).toNat=32+ -(j.val+1:Int):=by decide+kernel
 have h2:=this ⟨(-k - 1).toNat,by omega⟩
 simp only []at h2
 rwa [show(-(((-k - 1).toNat:Nat)+1:Int))=k by omega]at h2
theorem eO {x:Int}(h:0≤x∧x<18446744073709551616):u64.wrap x=x:=by rw [IntKind.wrap_u64];omega
theorem rot_eq {x k:Int}(h: -31≤k∧k≤ -1):u32.wrap (BitVec.ofInt u32.bits (u32.wrap (x*2 ^ (min (32+k).toNat u32.bits))) ||| BitVec.ofInt u32.bits (x.fdiv (2 ^ (min (u64.wrap (32 - (32+k))).toNat u32.bits)))).toNat=kY x (-k):=by
 rw [eO (by omega),BitVec.or_comm,show 32 - (32+k)= -k by omega]
 unfold kY
 rw [show 32 - -k=32+k by omega]
def sg0(a:Int):Int:=oR (oR (kY a 7) (kY a 18)) (a.fdiv (2 ^ 3))
def sg1(b:Int):Int:=oR (oR (kY b 17) (kY b 19)) (b.fdiv (2 ^ 10))
abbrev back(l:List Int)(t k:Int):Int:=l.getD (Int.toNat (i64.wrap (t - k))) 0
def pq(l:List Int)(t:Int):Int:=aC (aC (aC (back l t 16) (sg0 (back l t 15))) (back l t 7)) (sg1 (back l t 2))
theorem yC(l:List Int)(t:Int):aC (aC (aC (sg1 (back l t 2)) (back l t 7)) (sg0 (back l t 15))) (back l t 16)=pq l t:=by
 unfold pq
 generalize sg1 _=a
 generalize sg0 _=b
 generalize back l t 7=c
 generalize back l t 16=d
 simp only [aC,u32_eq]
 omega
def ab(b:List Int):Nat→List Int
 | 0=>b++List.replicate 48 0
 | k+1=>(ab b k).set (16+k) (pq (ab b k) ((16+k:Nat):Int))
theorem bR {b:List Int}(h:b.length=16):∀k,(ab b k).length=64
 | 0=>by simp [ab,h]
 | k+1=>by simp [ab,bR h k]
theorem nP {b:List Int} {t:Int}(h:16≤t∧t<64):ab b ((i64.wrap (t+1)).toNat - 16)=(ab b (t.toNat - 16)).set t.toNat (pq (ab b (t.toNat - 16)) t):=by
 rw [ah (by omega),show(t+1).toNat - 16=(t.toNat - 16)+1 by omega,ab,show 16+(t.toNat - 16)=t.toNat by omega,show((t.toNat:Nat):Int)=t by omega]
def eS(b:List Int)(t:Int):List Int:=if t<16 then b.take t.toNat++List.replicate (64 - t.toNat) 0 else ab b (t.toNat - 16)
theorem fj {b:List Int}(h:b.length=16) {t:Int}(ht:0≤t∧t≤64):(eS b t).length=64:=by
 unfold eS
 split
 ·simp [h];omega
 ·exact bR h _
theorem yD {b:List Int}(h:b.length=16) {t:Int}(ht:0≤t∧t<16):eS b (i64.wrap (t+1))=(eS b t).set t.toNat (b.getD t.toNat 0):=by
 have h0:eS b (i64.wrap (t+1))=b.take (t.toNat+1)++List.replicate (64 - (t.toNat+1)) 0:=by
  unfold eS
  rw [ah (by omega)]
  split
  ·rw [show(t+1).toNat=t.toNat+1 by omega]
  ·rw [show(t+1).toNat - 16=0 by omega,show t.toNat+1=16 by omega,ab,List.take_of_length_le (by omega)]
 rw [h0]
 unfold eS
 rw [if_pos ht.2]
 apply List.ext_getElem?
 intro i
 simp only [List.getElem?_append,List.getElem?_set,List.length_take,List.length_append,List.length_replicate,List.getElem?_take,List.getElem?_replicate,List.getD_eq_getElem?_getD,h]
 have hb:=List.getElem?_eq_getElem (l:=b) (i:=t.toNat) (by omega)
 by_cases hi:i=t.toNat
 ·subst hi
  rw [hb]
  have h1:t.toNat<min (t.toNat+1) 16:=by omega
  have h2:t.toNat<min t.toNat 16+(64 - t.toNat):=by omega
  simp [h1,h2]
 ·grind
theorem vf {b:List Int} {t:Int}(ht:16≤t∧t<64):eS b (i64.wrap (t+1))=(eS b t).set t.toNat (pq (eS b t) t):=by
 unfold eS
 rw [if_neg (by rw [ah (by omega)];omega),if_neg (by omega)]
 exact nP ht
theorem yE {b:List Int} {t:Int}(h:¬t<64)(h2:t≤64):eS b t=ab b 48:=by
 have:t=64:=by omega
 subst this
 rfl
@[ext] structure S8 where
 (a b c d e f g h:Int)
deriving DecidableEq
def S8.T1(k w:Int)(s:S8):Int:=aC (aC (aC (aC s.h (oR (oR (kY s.e 6) (kY s.e 11)) (kY s.e 25))) (oR (Ee s.e s.f) (Ee (I7 s.e) s.g))) k) w
def S8.T2(s:S8):Int:=aC (oR (oR (kY s.a 2) (kY s.a 13)) (kY s.a 22)) (oR (oR (Ee s.a s.b) (Ee s.a s.c)) (Ee s.b s.c))
def S8.rnd(k w:Int)(s:S8):S8:=⟨aC (s.T1 k w) s.T2,s.a,s.b,s.c,aC s.d (s.T1 k w),s.e,s.f,s.g⟩
def ar(K W:List Int)(s:S8):Nat→S8
 | 0=>s
 | t+1=>S8.rnd (K.getD t 0) (W.getD t 0) (ar K W s t)
theorem bM {K W:List Int} {s:S8} {t:Int}(h:0≤t∧t<64):ar K W s (i64.wrap (t+1)).toNat=S8.rnd (K.getD t.toNat 0) (W.getD t.toNat 0) (ar K W s t.toNat):=by
 rw [ah (by omega),show(t+1).toNat=t.toNat+1 by omega,ar]
def S8.add(s v:S8):S8:=⟨aC v.a s.a,aC v.b s.b,aC v.c s.c,aC v.d s.d,aC v.e s.e,aC v.f s.f,aC v.g s.g,aC v.h s.h⟩
def cV(K:List Int)(s:S8)(b:List Int):S8:=s.add (ar K (ab b 48) s 64)
def S8.first:S8:=⟨1779033703,3144134277,1013904242,2773480762,1359893119,2600822924,528734635,1541459225⟩
def S8.ok(s:S8):Prop:=(0≤s.a∧s.a<4294967296)∧(0≤s.b∧s.b<4294967296)∧(0≤s.c∧s.c<4294967296)∧(0≤s.d∧s.d<4294967296)∧(0≤s.e∧s.e<4294967296)∧(0≤s.f∧s.f<4294967296)∧(0≤s.g∧s.g<4294967296)∧(0≤s.h∧s.h<4294967296)
theorem dQ(a b:Int):0≤aC a b∧aC a b<4294967296:=by unfold aC;rw [u32_eq];omega
theorem S8.zi(s v:S8):(s.add v).ok:=⟨dQ _ _,dQ _ _,dQ _ _,dQ _ _,dQ _ _,dQ _ _,dQ _ _,dQ _ _⟩
end Go.Proofs.YtbjlecpmgocoeaaGreatDoor
end
section
namespace Go.Proofs.YtbjlecpmgocoeaaGreatDoor.V
open Go Go.RowKit
open Go.IntKind (i64 u32 u64)
theorem wo:u32.bits=32:=rfl
theorem D6:u64.bits=64:=rfl
def nor(x y:Int):Int:=((x.toNat ||| y.toNat:Nat):Int)
def FR(x y:Int):Int:=((x.toNat &&& y.toNat:Nat):Int)
theorem eG {n:Nat} {x:Int}(h0:0≤x)(h:x<2 ^ n):(BitVec.ofInt n x).toNat=x.toNat:=by
 rw [BitVec.toNat_ofInt,Int.emod_eq_of_lt h0 (by exact_mod_cast h)]
theorem pF {x y:Int}(hx:0≤x∧x<4294967296)(hy:0≤y∧y<4294967296):u32.wrap (BitVec.ofInt u32.bits x ||| BitVec.ofInt u32.bits y).toNat=nor x y:=by
 have h:=BitVec.isLt (BitVec.ofInt 32 x ||| BitVec.ofInt 32 y)
 rw [wo,bE (by omega),BitVec.toNat_or,eG hx.1 hx.2,eG hy.1 hy.2];rfl
theorem ur {x y:Int}(hx:0≤x∧x<4294967296)(hy:0≤y∧y<4294967296):u32.wrap (BitVec.ofInt u32.bits x &&& BitVec.ofInt u32.bits y).toNat=FR x y:=by
 have h:=BitVec.isLt (BitVec.ofInt 32 x &&& BitVec.ofInt 32 y)
 rw [wo,bE (by omega),BitVec.toNat_and,eG hx.1 hx.2,eG hy.1 hy.2];rfl
theorem fy(k:Nat) {a y:Int}(ha:0≤a)(hy:0≤y)(h:y<2 ^ k):nor (2 ^ k*a) y=2 ^ k*a+y:=by
 obtain⟨a,rfl⟩:=Int.eq_ofNat_of_zero_le ha
 obtain⟨y,rfl⟩:=Int.eq_ofNat_of_zero_le hy
 have h':y<2 ^ k:=by exact_mod_cast h
 have e:((2:Int) ^ k*(a:Int)).toNat=2 ^ k*a:=by
  rw [show(2:Int) ^ k*(a:Int)=((2 ^ k*a:Nat):Int)by push_cast;rfl,Int.toNat_natCast]
 unfold nor
 rw [e,Int.toNat_natCast,← Nat.two_pow_add_eq_or_of_lt h']
 push_cast;rfl
theorem lX(x y:Int):nor x y=nor y x:=by unfold nor;rw [Nat.or_comm]
theorem sr(k:Nat) {x:Int}(hx:0≤x):FR x (2 ^ k - 1)=x % 2 ^ k:=by
 obtain⟨x,rfl⟩:=Int.eq_ofNat_of_zero_le hx
 have hp:0<2 ^ k:=Nat.two_pow_pos k
 have e:((2:Int) ^ k - 1).toNat=2 ^ k - 1:=by
  have:((2:Int) ^ k)=((2 ^ k:Nat):Int):=by push_cast;rfl
  omega
 unfold FR
 rw [e,Int.toNat_natCast,Nat.and_two_pow_sub_one_eq_mod]
 push_cast;rfl
theorem nY {x:Int}(n:Nat):x.fdiv (2 ^ n)=x / 2 ^ n:=Int.fdiv_eq_ediv_of_nonneg x (Int.pow_nonneg (by omega))
end Go.Proofs.YtbjlecpmgocoeaaGreatDoor.V
end
section
namespace Go.Proofs.YtbjlecpmgocoeaaGreatDoor
open Go Go.RowKit V
open Go.IntKind (i64 u32 u64)
def HS(K:List Int):Nat→S8→List U32→S8×List U32
 | 0,s,l=>(s,l)
 | f+1,s,l=>if 16≤l.length then HS K f (cV K s ((l.take 16).map U32.v)) (l.drop 16)else(s,l)
def bG(K:List Int)(s:S8)(l:List U32):S8×List U32:=HS K (l.length / 16) s l
theorem dm {K:List Int} {s:S8} {l:List U32}(h:l.length<16):bG K s l=(s,l):=by
 unfold bG
 rw [Nat.div_eq_of_lt h];rfl
theorem dR {K:List Int} {s:S8} {l:List U32}(h:16≤l.length):bG K s l=bG K (cV K s ((l.take 16).map U32.v)) (l.drop 16):=by
 unfold bG
 rw [show l.length / 16=(l.drop 16).length / 16+1 by rw [List.length_drop];omega,HS,if_pos h]
theorem jw {K:List Int} {p:S8→List U32→Prop}(h0:∀s l,l.length<16→p s l)(h1:∀s l,16≤l.length→p (cV K s ((l.take 16).map U32.v)) (l.drop 16)→p s l):∀(n:Nat)(s:S8)(l:List U32),l.length=n→p s l:=by
 intro n
 induction n using Nat.strongRecOn with
 | ind n ih=>
  intro s l hl
  by_cases h:l.length<16
  ·exact h0 s l h
  ·exact h1 s l (by omega) (ih (l.drop 16).length (by rw [List.length_drop];omega) _ _ rfl)
theorem zk(K:List Int)(s:S8)(l:List U32):(bG K s l).2.length=l.length % 16:=by
 refine jw (K:=K) (p:=fun s l=>(bG K s l).2.length=l.length % 16) (fun s l h=>?_) (fun s l h ih=>?_) _ s l rfl
 ·simp only [dm h];rw [Nat.mod_eq_of_lt h]
 ·simp only [dR h];rw [ih,List.length_drop];omega
theorem wK(K:List Int)(s:S8)(l:List U32)(x:U32):bG K s (l++ [x])=if(bG K s l).2.length+1=16 then(cV K (bG K s l).1 (((bG K s l).2++ [x]).map U32.v),[])else((bG K s l).1,(bG K s l).2++ [x]):=by
 refine jw (K:=K) (p:=fun s l=>bG K s (l++ [x])=if(bG K s l).2.length+1=16 then(cV K (bG K s l).1 (((bG K s l).2++ [x]).map U32.v),[])else((bG K s l).1,(bG K s l).2++ [x])) (fun s l h=>?_) (fun s l h ih=>?_) _ s l rfl
 ·simp only [dm h]
  split
  ·rename_i h2
   rw [dR (by simp;omega),List.take_of_length_le (by simp;omega),List.drop_of_length_le (by simp;omega),dm (by simp)]
  ·rw [dm (by simp;omega)]
 ·simp only [dR h]
  rw [dR (by simp;omega),List.take_append_of_le_length h,List.drop_append_of_le_length h,ih]
theorem zj(K:List Int)(s:S8)(l:List U32):∀x∈(bG K s l).2,x∈l:=by
 refine jw (K:=K) (p:=fun s l=>∀x∈(bG K s l).2,x∈l) (fun s l h=>?_) (fun s l h ih=>?_) _ s l rfl
 ·simp only [dm h];exact fun x h=>h
 ·simp only [dR h];exact fun x hx=>List.mem_of_mem_drop (ih x hx)
theorem BP(K:List Int)(s:S8)(l:List U32):s.ok→(bG K s l).1.ok:=by
 refine jw (K:=K) (p:=fun s l=>s.ok→(bG K s l).1.ok) (fun s l h=>?_) (fun s l h ih=>?_) _ s l rfl
 ·simp only [dm h];exact fun h=>h
 ·simp only [dR h];exact fun _=>ih (S8.zi _ _)
theorem jd {l:List U32}(h:16≤l.length):(l.take 16).map U32.v= [(l.getD 0 ⟨0⟩).v,(l.getD 1 ⟨0⟩).v,(l.getD 2 ⟨0⟩).v,(l.getD 3 ⟨0⟩).v,(l.getD 4 ⟨0⟩).v,(l.getD 5 ⟨0⟩).v,(l.getD 6 ⟨0⟩).v,(l.getD 7 ⟨0⟩).v,(l.getD 8 ⟨0⟩).v,(l.getD 9 ⟨0⟩).v,(l.getD 10 ⟨0⟩).v,(l.getD 11 ⟨0⟩).v,(l.getD 12 ⟨0⟩).v,(l.getD 13 ⟨0⟩).v,(l.getD 14 ⟨0⟩).v,(l.getD 15 ⟨0⟩).v]:=by
 rcases l with _ | ⟨a,_ | ⟨b,_ | ⟨c,_ | ⟨d,_ | ⟨e,_ | ⟨f,_ | ⟨g,_ | ⟨h,_ | ⟨i,_ | ⟨j,_ | ⟨k,_ | ⟨m,_ | ⟨n,_ | ⟨o,_ | ⟨p,_ | ⟨q,r⟩⟩⟩⟩⟩⟩⟩⟩⟩⟩⟩⟩⟩⟩⟩⟩
 all_goals first | rfl | (simp at h;done)
theorem n7 {l:List U32}(h:l.length=16):l.map U32.v= [(l.getD 0 ⟨0⟩).v,(l.getD 1 ⟨0⟩).v,(l.getD 2 ⟨0⟩).v,(l.getD 3 ⟨0⟩).v,(l.getD 4 ⟨0⟩).v,(l.getD 5 ⟨0⟩).v,(l.getD 6 ⟨0⟩).v,(l.getD 7 ⟨0⟩).v,(l.getD 8 ⟨0⟩).v,(l.getD 9 ⟨0⟩).v,(l.getD 10 ⟨0⟩).v,(l.getD 11 ⟨0⟩).v,(l.getD 12 ⟨0⟩).v,(l.getD 13 ⟨0⟩).v,(l.getD 14 ⟨0⟩).v,(l.getD 15 ⟨0⟩).v]:=by
 rw [← jd (by omega),List.take_of_length_le (by omega)]
theorem n8 {K:List Int} {s:S8} {a l:List U32} {i:Int} {x:U32} {S:S8} {b:List U32}(h:bG K s (a++l.take i.toNat)=(S,b))(hi:0≤i∧i<9000000000000000000)(hx:l[i.toNat]? =some x):
 bG K s (a++l.take (i64.wrap (i+1)).toNat)=if b.length+1=16 then(cV K S ((b++ [x]).map U32.v),[])else(S,b++ [x]):=by
 rw [ah (by omega),show(i+1).toNat=i.toNat+1 by omega,List.take_add_one,hx,← List.append_assoc,Option.toList_some,wK,h]
theorem Bb {l:List Int} {r:List U32} {i:Int} {x:U32}(h:0≤i∧i<16)(hx:r[i.toNat]? =some x):eR l 10 ((r.map U32.v).take (i64.wrap (i+1)).toNat)=(eR l 10 ((r.map U32.v).take i.toNat)).set (Int.toNat (i64.wrap (10+i))) x.v:=by
 have hl:i.toNat<r.length:=(List.getElem?_eq_some_iff.1 hx).1
 rw [ah (by omega),ah (by omega),show(i+1).toNat=i.toNat+1 by omega,List.take_add_one,List.getElem?_map,hx,Option.map_some,Option.toList_some,sb,List.length_take,List.length_map,show(10+i).toNat=10+min i.toNat r.length by omega]
structure Dg where
 st:S8
 n:Int
 waits:List U32
namespace Dg
def new:Dg:=⟨S8.first,0,[]⟩
def add(K:List Int)(d:Dg)(l:List U32):Dg:=if(l.length:Int)>36028797018963968 - d.n then d else⟨(bG K d.st (d.waits++l)).1,d.n+l.length,(bG K d.st (d.waits++l)).2⟩
structure Ok(d:Dg):Prop where
 n:0≤d.n∧d.n≤36028797018963968
 len:d.waits.length=(d.n % 16).toNat
 st:d.st.ok
 words:∀x∈d.waits,0≤x.v∧x.v<4294967296
theorem pQ:new.Ok:=⟨by decide,rfl,by unfold S8.ok new S8.first;decide,by simp [new]⟩
theorem zi {K:List Int} {d:Dg} {l:List U32}(h:d.Ok)(hl:∀x∈l,0≤x.v∧x.v<4294967296):(d.add K l).Ok:=by
 unfold add
 split
 ·exact h
 ·have hn:=h.n
  have hw:=h.len
  refine⟨⟨by show 0≤d.n+_;omega,by show d.n+_≤_;omega⟩,?_,BP _ _ _ h.st,fun x hx=>?_⟩
  ·show(bG K d.st (d.waits++l)).2.length=((d.n+l.length) % 16).toNat
   rw [zk,List.length_append,hw]
   omega
  ·rcases List.mem_append.1 (zj _ _ _ x hx)with h1 | h1
   ·exact h.words x h1
   ·exact hl x h1
def save(d:Dg):List Int:= [d.st.a,d.st.b,d.st.c,d.st.d,d.st.e,d.st.f,d.st.g,d.st.h,d.n / 4294967296,d.n % 4294967296]++(d.waits.map U32.v++List.replicate (16 - d.waits.length) 0)
def kW(l:List U32):S8:=⟨(l.getD 0 ⟨0⟩).v,(l.getD 1 ⟨0⟩).v,(l.getD 2 ⟨0⟩).v,(l.getD 3 ⟨0⟩).v,(l.getD 4 ⟨0⟩).v,(l.getD 5 ⟨0⟩).v,(l.getD 6 ⟨0⟩).v,(l.getD 7 ⟨0⟩).v⟩
def nOf(l:List U32):Int:=(l.getD 8 ⟨0⟩).v*4294967296+(l.getD 9 ⟨0⟩).v
def load(l:List U32):Dg:=⟨kW l,nOf l,(l.drop 10).take (nOf l % 16).toNat⟩
theorem save_eq {d:Dg}(h:d.Ok) {x y:Int} {n:Nat}(hx:x=d.n / 4294967296)(hy:y=d.n % 4294967296)(hn:d.waits.length=n):
 eR (((eR (List.replicate 26 0) 0 (List.take (min 8 8) [d.st.a,d.st.b,d.st.c,d.st.d,d.st.e,d.st.f,d.st.g,d.st.h])).set 8 x).set 9 y) 10 ((List.map U32.v d.waits).take (min n 16))=d.save:=by
 have hl:=h.len
 have hn2:=h.n
 subst hx hy hn
 rw [List.take_of_length_le (l:=List.map U32.v d.waits) (by simp;omega)]
 have e:(((eR (List.replicate 26 0) 0 (List.take (min 8 8) [d.st.a,d.st.b,d.st.c,d.st.d,d.st.e,d.st.f,d.st.g,d.st.h])).set 8 (d.n / 4294967296)).set 9 (d.n % 4294967296))= [d.st.a,d.st.b,d.st.c,d.st.d,d.st.e,d.st.f,d.st.g,d.st.h,d.n / 4294967296,d.n % 4294967296]++(List.replicate d.waits.length 0++List.replicate (16 - d.waits.length) 0):=by
  rw [List.replicate_append_replicate,show d.waits.length+(16 - d.waits.length)=16 by omega];rfl
 rw [e]
 exact pn [d.st.a,d.st.b,d.st.c,d.st.d,d.st.e,d.st.f,d.st.g,d.st.h,d.n / 4294967296,d.n % 4294967296] (d.waits.map U32.v) _ _ (by simp)
theorem C5 {n:Int}(h:0≤n∧n≤36028797018963968):u32.wrap ((u64.wrap n:Int).fdiv (2 ^ 32))=n / 4294967296:=by
 rw [eO (by omega),nY,bE (by omega)];rfl
theorem nOf_eq {l:List U32}(h:∀x∈l,0≤x.v∧x.v<4294967296)(hl:l.length=26):u64.wrap (BitVec.ofInt u64.bits (u64.wrap ((u64.wrap (l.getD 8 ⟨0⟩).v:Int)*2 ^ 32)) ||| BitVec.ofInt u64.bits (u64.wrap (l.getD 9 ⟨0⟩).v)).toNat=nOf l∧0≤nOf l∧nOf l<18446744073709551616:=by
 have h8:=h _ (List.getElem_mem (show 8<l.length by omega))
 have h9:=h _ (List.getElem_mem (show 9<l.length by omega))
 have e8:(l.getD 8 ⟨0⟩)=l[8]:=by simp [List.getD_eq_getElem?_getD,hl]
 have e9:(l.getD 9 ⟨0⟩)=l[9]:=by simp [List.getD_eq_getElem?_getD,hl]
 have hn:nOf l=l[8].v*(4294967296:Int)+l[9].v:=by unfold nOf;rw [e8,e9]
 refine⟨?_,by rw [hn];omega,by rw [hn];omega⟩
 rw [e8,e9,hn]
 generalize l[8].v=a at *
 generalize l[9].v=b at *
 rw [eO (x:=a) (by omega),eO (x:=b) (by omega),eO (x:=a*2 ^ 32) (by omega)]
 rw [D6,BitVec.toNat_or,eG (by omega) (by omega),eG (by omega) (by omega)]
 have:=fy 32 (a:=a) (y:=b) (by omega) (by omega) (by omega)
 unfold nor at this
 rw [show a*2 ^ 32=2 ^ 32*a by omega,this,eO (by omega)]
 omega
def aE(l:List U32):Int:=
 if l.length≠26 then 20 else if nOf l>36028797018963968∨(nOf l<16∧kW l≠S8.first)then 20
 else if(l.drop (10+(nOf l % 16).toNat)).all (fun x=>x.v==0)then 0 else 20
def zero:Dg:=⟨⟨0,0,0,0,0,0,0,0⟩,0,[]⟩
def jG(l:List U32):Dg:=if aE l=0 then load l else zero
theorem l5 {l:List U32}(h:¬l.length=26):aE l=20:=by unfold aE;rw [if_pos h]
theorem gj {l:List U32}(h:l.length=26)(hg:nOf l>36028797018963968∨(nOf l<16∧kW l≠S8.first)):aE l=20:=by unfold aE;rw [if_neg (by simpa using h),if_pos hg]
theorem pX {l:List U32}(h:l.length=26)(hg:¬(nOf l>36028797018963968∨(nOf l<16∧kW l≠S8.first)))(hz:∀(i:Nat)(x:U32),(l.drop (10+(nOf l % 16).toNat))[i]? =some x→x.v=0):aE l=0:=by
 unfold aE
 rw [if_neg (by simpa using h),if_neg hg,if_pos]
 rw [List.all_eq_true]
 intro x hx
 obtain⟨i,hi⟩:=List.getElem?_of_mem hx
 simpa using hz i x hi
theorem cZ {l:List U32}(h:l.length=26)(hg:¬(nOf l>36028797018963968∨(nOf l<16∧kW l≠S8.first))) {i:Nat} {x:U32}(hx:(l.drop (10+(nOf l % 16).toNat))[i]? =some x)(h0:¬x.v=0):aE l=20:=by
 unfold aE
 rw [if_neg (by simpa using h),if_neg hg,if_neg]
 rw [List.all_eq_true]
 intro hh
 exact h0 (by simpa using hh x (List.mem_of_getElem? hx))
theorem lo_eq {l:List U32}:(i64.wrap (10+nOf l % 16)).toNat=10+(nOf l % 16).toNat:=by rw [ah (by omega)];omega
end Dg
structure DgL where
 Y:Nat→Prop
 a:Option Addr
 n:Nat
 c:Nat
def DgL.X(L:DgL)(g:Nat):Nat→Prop:=fun k=>k=g∨L.Y k
structure mJ(w:World)(g:Nat)(L:DgL)(D:Dg):Prop where
 blk:∃T,Blk w g #[.int .u32 D.st.a,.int .u32 D.st.b,.int .u32 D.st.c,.int .u32 D.st.d,.int .u32 D.st.e,.int .u32 D.st.f,.int .u32 D.st.g,.int .u32 D.st.h,.int .i64 D.n,.slice L.a L.n L.c] T
 rd:Rd w L.Y L.a L.n L.c D.waits
 off:¬L.Y g
variable {w w':World} {g:Nat} {L:DgL} {D:Dg} {X:Nat→Prop}
theorem mJ.lt(h:mJ w g L D):∀k,L.X g k→k<w.heap.size:=by
 rintro k (rfl | hk)
 ·obtain⟨T,b⟩:=h.blk;exact b.lt
 ·exact h.rd.lt k hk
theorem mJ.ch(h:mJ w g L D)(hk:Ch X w w')(hx:∀k,L.X g k→¬X k):mJ w' g L D:=
 ⟨h.blk.imp fun _ b=>hk.blk b (hx g (.inl rfl)),h.rd.ch hk fun k hk=>hx k (.inr hk),h.off⟩
theorem mJ.pu(h:mJ w g L D)(hk:Pu w w'):mJ w' g L D:=h.ch hk (by simp)
end Go.Proofs.YtbjlecpmgocoeaaGreatDoor
end
section
namespace Go.Proofs.YtbjlecpmgocoeaaGreatDoor
open Go Go.RowKit V
open Go.IntKind (i64 u32 u64)
structure Mem where
 S:Nat
 I:Nat
 pg:Bool→Nat→Nat→Int
 jF:Int
namespace Mem
def cnt(m:Mem)(s:Bool):Nat:=match s with
 | true=>m.S
 | false=>m.I
def has(m:Mem)(s:Bool)(p:Int):Bool:=decide (0≤p∧p<(m.cnt s:Int))
def cY(o:Int):Bool:=decide (0≤o∧o<1024)
def jR(m:Mem)(s:Bool)(p o:Int):Int:=if m.has s p && cY o then m.pg s p.toNat o.toNat else 0
def tick(m:Mem)(n:Int):Mem:= {m with jF:=i64.wrap (m.jF+n)}
def fill(m:Mem)(s:Bool)(p:Nat)(f:Nat→Int):Mem:= {m with pg:=fun s' p' o'=>if s'=s∧p'=p then f o' else m.pg s' p' o'}
def put(m:Mem)(s:Bool)(p o:Nat)(v:Int):Mem:=m.fill s p fun o'=>if o'=o then v else m.pg s p o'
def err(m:Mem)(s:Bool)(p o:Int):Int:=if m.has s p then(if cY o then 0 else 70)else 5
def write(m:Mem)(s:Bool)(p o v:Int):Mem:=if m.has s p && cY o then(m.put s p.toNat o.toNat v).tick 1 else m
def bC(m:Mem)(s:Bool)(p:Int):Int:=if m.has s p then 0 else 5
def zero(m:Mem)(s:Bool)(p:Int):Mem:=if m.has s p then(m.fill s p.toNat fun _=>0).tick 1024 else m
def fresh(S I:Nat):Mem:= {S,I,pg:=fun _ _ _=>0,jF:=0}
@[simp] theorem II(m:Mem)(n:Int)(s:Bool):(m.tick n).cnt s=m.cnt s:=by cases s<;>rfl
@[simp] theorem IJ(m:Mem)(s':Bool)(p:Nat)(f:Nat→Int)(s:Bool):(m.fill s' p f).cnt s=m.cnt s:=by cases s<;>rfl
@[simp] theorem IV(m:Mem)(s':Bool)(p o:Nat)(v:Int)(s:Bool):(m.put s' p o v).cnt s=m.cnt s:=by cases s<;>rfl
theorem cH {m:Mem} {s:Bool} {p:Int}(h:m.has s p=true):0≤p∧p<(m.cnt s:Int):=by simpa [has]using h
theorem dF {m:Mem} {s:Bool} {p:Int}(h:m.has s p=true):p.toNat<m.cnt s:=by have:=cH h;omega
theorem gp {o:Int}(h:cY o=true):0≤o∧o<1024:=by simpa [cY]using h
end Mem
end Go.Proofs.YtbjlecpmgocoeaaGreatDoor
end
section
set_option maxRecDepth 100000
namespace Go.Proofs.YtbjlecpmgocoeaaGreatDoor
open Go Go.RowKit V
open Go.IntKind (i64 u32 u64)
open Go.Proofs (Tryz.prog)
def aF:List Nat:= [2,3,4,5,6,7,8,9,10,11,12,13,14,15,16,17,18,19,20,21,22,23,24,25,26,27,28,29,30,31,32,33,34,35,36,37,38,39,40,41,42,43,44,45,46,47,48,49,50,51,52,53,54,55,56,57,58,59,60,61,62,63,64,65,66,67,68,69,70,71,72,73,74,75,76,77,78,79,80,81,82,83,84,85,86,87,88,89,90,91,92,93,94,95,96,97,98,99,100,101,102,103,104,105,106,107,108,109,110,111,112,113,114,115,116,117,118,119,120,121,122,123,124,125,126,127,128,129,130,131,132,133,134,135,136,137,138,139,140,141,142,143,144,145,146,147,148,149,150,151,152,153,154,155,156,157,182]
theorem au:ez Tryz.prog aF=true:=by kernel_rfl
theorem aa:Tryz.prog.follows .mixedOrders=true:=by kernel_rfl
def EV(m:Option Addr)(fa:Bool)(fb:Int)(R:ay)(w:World):Prop:=
 ∀(gv:Nat)(wv:World),gv=w.heap.size→wv=w.alloc (.cells #[(.bool fa),(.int .i64 fb)] 62)→
 av m fun p7=>
 ∃x9A:Option Addr,∃x9N:Nat,∃x9C:Nat,wv.cell? (p7.add 1)=some (.slice x9A x9N x9C)∧
 ∃x11:Bool,wv.cell? ((Addr.mk gv 0 none).add 0)=some (.bool x11)∧
 split x11 (
  av m fun p13=>
  ∃x15A:Option Addr,∃x15N:Nat,∃x15C:Nat,wv.cell? (p13.add 0)=some (.slice x15A x15N x15C)∧
  ∃J:Bool→World→Prop,(
   ∃x17:Int,wv.cell? ((Addr.mk gv 0 none).add 1)=some (.int .i64 x17)∧
   split (decide ((x17:Int)<0)) (
    J true wv) (
    ∃x21:Int,wv.cell? ((Addr.mk gv 0 none).add 1)=some (.int .i64 x21)∧
    J (decide ((x21:Int)≥((x15N:Nat):Int))) wv))∧∀(_gv1:Nat→Value)(x25:Bool),∀wv1,J x25 wv1→
  split x25 (
   R (.pointer none) wv1) (
   ∃x28:Int,wv1.cell? ((Addr.mk gv 0 none).add 1)=some (.int .i64 x28)∧
   (0≤(x28:Int)∧(x28:Int)<((x15N:Nat):Int))∧
   av x15A fun p29=>
   ∃x30:Option Addr,wv1.cell? (p29.add (Int.toNat x28*1))=some (.pointer x30)∧
   R (.pointer x30) wv1)) (
  ∃J:Bool→World→Prop,(
   ∃x17:Int,wv.cell? ((Addr.mk gv 0 none).add 1)=some (.int .i64 x17)∧
   split (decide ((x17:Int)<0)) (
    J true wv) (
    ∃x21:Int,wv.cell? ((Addr.mk gv 0 none).add 1)=some (.int .i64 x21)∧
    J (decide ((x21:Int)≥((x9N:Nat):Int))) wv))∧∀(_gv1:Nat→Value)(x25:Bool),∀wv1,J x25 wv1→
  split x25 (
   R (.pointer none) wv1) (
   ∃x28:Int,wv1.cell? ((Addr.mk gv 0 none).add 1)=some (.int .i64 x28)∧
   (0≤(x28:Int)∧(x28:Int)<((x9N:Nat):Int))∧
   av x9A fun p29=>
   ∃x30:Option Addr,wv1.cell? (p29.add (Int.toNat x28*1))=some (.pointer x30)∧
   R (.pointer x30) wv1))
def H7:Ann:=(.node none .leaf (.node none .leaf (.node none .leaf (.node none (.node none (.node (some ⟨[(25,.one (.bool))],[16,17,18,19,20,21,22,23,24,25]⟩) .leaf .leaf) .leaf) .leaf))))
theorem MAt_eq(m:Option Addr)(fa:Bool)(fb:Int)(R:ay)(w:World):EV m fa fb R w=vcF Tryz.prog aF [] Tryz.f111 H7 [(.pointer m),(.agg #[(.bool fa),(.int .i64 fb)])] R none w:=by kernel_rfl
theorem Cw(m:Option Addr)(fa:Bool)(fb:Int) {R:ay} {w:World}(h:EV m fa fb R w):Calls Tryz.prog 111 #[(.pointer m),(.agg #[(.bool fa),(.int .i64 fb)])] w fun e w'=>∃v,e= .returned v∧R v w':=
 ao Tryz.func111 au aa ((MAt_eq m fa fb R w).mp h)
def AK(m:Option Addr)(fa:Bool)(fb:Int)(R:ay)(w:World):Prop:=
 ∀(gv:Nat)(wv:World),gv=w.heap.size→wv=w.alloc (.cells #[(.bool fa),(.int .i64 fb)] 62)→
 ∃x6a:Bool,∃x6b:Int,(wv.cell? ((Addr.mk gv 0 none).add 0)=some (.bool x6a)∧wv.cell? ((Addr.mk gv 0 none).add 1)=some (.int .i64 x6b))∧
 Calls Tryz.prog 111 #[(.pointer m),(.agg #[(.bool x6a),(.int .i64 x6b)])] wv fun e wv1=>
 ∃x7:Option Addr,e= .returned (.pointer x7)∧
 R (.bool (!x7.isNone)) wv1
def GA:Ann:= .leaf
theorem MHas_eq(m:Option Addr)(fa:Bool)(fb:Int)(R:ay)(w:World):AK m fa fb R w=vcF Tryz.prog aF [] Tryz.f109 GA [(.pointer m),(.agg #[(.bool fa),(.int .i64 fb)])] R none w:=by kernel_rfl
theorem zK(m:Option Addr)(fa:Bool)(fb:Int) {R:ay} {w:World}(h:AK m fa fb R w):Calls Tryz.prog 109 #[(.pointer m),(.agg #[(.bool fa),(.int .i64 fb)])] w fun e w'=>∃v,e= .returned v∧R v w':=
 ao Tryz.func109 au aa ((MHas_eq m fa fb R w).mp h)
def xH(n:Int)(R:ay)(w:World):Prop:=
 ∃x6A:Option Addr,∃x6N:Nat,∃x6C:Nat,∃wv,(Instr.makeSlice 95 (.int .i64 n) (.int .i64 n):Sem Value).run Tryz.prog w= .ok (.slice x6A x6N x6C) wv∧
 ∃I:Nat→Int→World→Prop,(∃m,I m 0 wv)∧∀(m:Nat)(_gv:Nat→Value)(x9:Int),∀wv1,I m x9 wv1→
 split (decide ((x9:Int)<((x6N:Nat):Int))) (
  ∀(gv1:Nat)(wv2:World),gv1=wv1.heap.size→wv2=wv1.alloc (.cells (Array.replicate 1024 (.int .u32 0)) 169)→
  (0≤(x9:Int)∧(x9:Int)<((x6N:Nat):Int))∧
  av x6A fun p16=>
  ax wv2 (p16.add (Int.toNat x9*1)) [(.pointer (some (Addr.mk gv1 0 none)))] fun wv3=>
  ∃m1,m1<m∧I m1 (i64.wrap (x9+1)) wv3) (
  R (.slice x6A x6N x6C) wv1)
def EU:Ann:=(.node none .leaf (.node none .leaf (.node none (.node none .leaf (.node none (.node (some ⟨[(9,.one (.int .i64))],[4,9,10,11,12,13,14,15,16,17]⟩) .leaf .leaf) .leaf)) .leaf)))
theorem MMade_eq(n:Int)(R:ay)(w:World):xH n R w=vcF Tryz.prog aF [] Tryz.f72 EU [(.int .i64 n)] R none w:=by kernel_rfl
theorem xI(n:Int) {R:ay} {w:World}(h:xH n R w):Calls Tryz.prog 72 #[(.int .i64 n)] w fun e w'=>∃v,e= .returned v∧R v w':=
 ao Tryz.func72 au aa ((MMade_eq n R w).mp h)
def AJ(aY:Int)(insecure:Int)(R:ay)(w:World):Prop:=
 ∃J:Bool→World→Prop,(
  split (decide ((aY:Int)<1)) (
   J true w) (
   split (decide ((aY:Int)>64)) (
    J true w) (
    split (decide ((insecure:Int)<1)) (
     J true w) (
     J (decide ((insecure:Int)>64)) w))))∧∀(_gv:Nat→Value)(x19:Bool),∀wv,J x19 wv→
 split x19 (
  R (.tuple #[(.pointer none),(.int .i64 1)]) wv) (
  Calls Tryz.prog 72 #[(.int .i64 aY)] wv fun e wv1=>
  ∃x21A:Option Addr,∃x21N:Nat,∃x21C:Nat,e= .returned (.slice x21A x21N x21C)∧
  Calls Tryz.prog 72 #[(.int .i64 insecure)] wv1 fun e wv2=>
  ∃x23A:Option Addr,∃x23N:Nat,∃x23C:Nat,e= .returned (.slice x23A x23N x23C)∧
  ∀(gv1:Nat)(wv3:World),gv1=wv2.heap.size→wv3=wv2.alloc (.cells #[(.slice x21A x21N x21C),(.slice x23A x23N x23C),(.int .i64 0)] 97)→
  R (.tuple #[(.pointer (some (Addr.mk gv1 0 none))),(.int .i64 0)]) wv3)
def Gz:Ann:=(.node none .leaf (.node none (.node none (.node (some ⟨[(19,.one (.bool))],[6,7,8,9,10,11,12,13,14,15,16,17,18,19]⟩) .leaf .leaf) .leaf) .leaf))
theorem MNew_eq(aY:Int)(insecure:Int)(R:ay)(w:World):AJ aY insecure R w=vcF Tryz.prog aF [] Tryz.f27 Gz [(.int .i64 aY),(.int .i64 insecure)] R none w:=by kernel_rfl
theorem zI(aY:Int)(insecure:Int) {R:ay} {w:World}(h:AJ aY insecure R w):Calls Tryz.prog 27 #[(.int .i64 aY),(.int .i64 insecure)] w fun e w'=>∃v,e= .returned v∧R v w':=
 ao Tryz.func27 au aa ((MNew_eq aY insecure R w).mp h)
def xF(m:Option Addr)(fa:Bool)(fb:Int)(off:Int)(R:ay)(w:World):Prop:=
 ∀(gv:Nat)(wv:World),gv=w.heap.size→wv=w.alloc (.cells #[(.bool fa),(.int .i64 fb)] 62)→
 ∃x9a:Bool,∃x9b:Int,(wv.cell? ((Addr.mk gv 0 none).add 0)=some (.bool x9a)∧wv.cell? ((Addr.mk gv 0 none).add 1)=some (.int .i64 x9b))∧
 Calls Tryz.prog 111 #[(.pointer m),(.agg #[(.bool x9a),(.int .i64 x9b)])] wv fun e wv1=>
 ∃x10:Option Addr,e= .returned (.pointer x10)∧
 ∃J:Bool→World→Prop,(
  split x10.isNone (
   J true wv1) (
   split (decide ((off:Int)<0)) (
    J true wv1) (
    J (decide ((off:Int)≥1024)) wv1)))∧∀(_gv1:Nat→Value)(x20:Bool),∀wv2,J x20 wv2→
 split x20 (
  R (.int .u32 0) wv2) (
  av x10 fun p23=>
  (0≤(off:Int)∧(off:Int)<((1024:Nat):Int))∧
  ∃x25:Int,wv2.cell? (p23.add (Int.toNat off*1))=some (.int .u32 x25)∧
  R (.int .u32 x25) wv2)
def ET:Ann:=(.node none .leaf (.node none .leaf (.node none (.node none (.node (some ⟨[(20,.one (.bool))],[11,12,13,14,15,16,17,18,19,20]⟩) .leaf .leaf) .leaf) .leaf)))
theorem MPeek_eq(m:Option Addr)(fa:Bool)(fb:Int)(off:Int)(R:ay)(w:World):xF m fa fb off R w=vcF Tryz.prog aF [] Tryz.f98 ET [(.pointer m),(.agg #[(.bool fa),(.int .i64 fb)]),(.int .i64 off)] R none w:=by kernel_rfl
theorem xG(m:Option Addr)(fa:Bool)(fb:Int)(off:Int) {R:ay} {w:World}(h:xF m fa fb off R w):Calls Tryz.prog 98 #[(.pointer m),(.agg #[(.bool fa),(.int .i64 fb)]),(.int .i64 off)] w fun e w'=>∃v,e= .returned v∧R v w':=
 ao Tryz.func98 au aa ((MPeek_eq m fa fb off R w).mp h)
def qW(m:Option Addr)(R:ay)(w:World):Prop:=
 av m fun p4=>
 ∃x6A:Option Addr,∃x6N:Nat,∃x6C:Nat,w.cell? (p4.add 0)=some (.slice x6A x6N x6C)∧
 R (.int .i64 ((x6N:Nat):Int)) w
def zH:Ann:= .leaf
theorem MSecure_eq(m:Option Addr)(R:ay)(w:World):qW m R w=vcF Tryz.prog aF [] Tryz.f73 zH [(.pointer m)] R none w:=by kernel_rfl
theorem rR(m:Option Addr) {R:ay} {w:World}(h:qW m R w):Calls Tryz.prog 73 #[(.pointer m)] w fun e w'=>∃v,e= .returned v∧R v w':=
 ao Tryz.func73 au aa ((MSecure_eq m R w).mp h)
def tl(m:Option Addr)(fa:Bool)(fb:Int)(times:Int)(R:ay)(w:World):Prop:=
 ∀(gv:Nat)(wv:World),gv=w.heap.size→wv=w.alloc (.cells #[(.bool fa),(.int .i64 fb)] 62)→
 ∃x10a:Bool,∃x10b:Int,(wv.cell? ((Addr.mk gv 0 none).add 0)=some (.bool x10a)∧wv.cell? ((Addr.mk gv 0 none).add 1)=some (.int .i64 x10b))∧
 Calls Tryz.prog 111 #[(.pointer m),(.agg #[(.bool x10a),(.int .i64 x10b)])] wv fun e wv1=>
 ∃x11:Option Addr,e= .returned (.pointer x11)∧
 split x11.isNone (
  R (.tuple #[(.pointer none),(.int .i64 5)]) wv1) (
  av m fun p15=>
  ∃x17:Int,wv1.cell? (p15.add 2)=some (.int .i64 x17)∧
  av m fun p21=>
  ax wv1 (p21.add 2) [(.int .i64 (i64.wrap (x17+(i64.wrap (times*1024)))))] fun wv2=>
  R (.tuple #[(.pointer x11),(.int .i64 0)]) wv2)
def Cv:Ann:= .leaf
theorem MWhole_eq(m:Option Addr)(fa:Bool)(fb:Int)(times:Int)(R:ay)(w:World):tl m fa fb times R w=vcF Tryz.prog aF [] Tryz.f112 Cv [(.pointer m),(.agg #[(.bool fa),(.int .i64 fb)]),(.int .i64 times)] R none w:=by kernel_rfl
theorem uI(m:Option Addr)(fa:Bool)(fb:Int)(times:Int) {R:ay} {w:World}(h:tl m fa fb times R w):Calls Tryz.prog 112 #[(.pointer m),(.agg #[(.bool fa),(.int .i64 fb)]),(.int .i64 times)] w fun e w'=>∃v,e= .returned v∧R v w':=
 ao Tryz.func112 au aa ((MWhole_eq m fa fb times R w).mp h)
def xD(m:Option Addr)(fa:Bool)(fb:Int)(off:Int)(R:ay)(w:World):Prop:=
 ∀(gv:Nat)(wv:World),gv=w.heap.size→wv=w.alloc (.cells #[(.bool fa),(.int .i64 fb)] 62)→
 ∃x10a:Bool,∃x10b:Int,(wv.cell? ((Addr.mk gv 0 none).add 0)=some (.bool x10a)∧wv.cell? ((Addr.mk gv 0 none).add 1)=some (.int .i64 x10b))∧
 Calls Tryz.prog 111 #[(.pointer m),(.agg #[(.bool x10a),(.int .i64 x10b)])] wv fun e wv1=>
 ∃x11:Option Addr,e= .returned (.pointer x11)∧
 split x11.isNone (
  R (.tuple #[(.pointer none),(.int .i64 5)]) wv1) (
  ∃J:Bool→World→Prop,(
   split (decide ((off:Int)<0)) (
    J true wv1) (
    J (decide ((off:Int)≥1024)) wv1))∧∀(_gv1:Nat→Value)(x19:Bool),∀wv2,J x19 wv2→
  split x19 (
   R (.tuple #[(.pointer none),(.int .i64 70)]) wv2) (
   av m fun p21=>
   ∃x23:Int,wv2.cell? (p21.add 2)=some (.int .i64 x23)∧
   av m fun p25=>
   ax wv2 (p25.add 2) [(.int .i64 (i64.wrap (x23+1)))] fun wv3=>
   av x11 fun p29=>
   (0≤(off:Int)∧(off:Int)<((1024:Nat):Int))∧
   R (.tuple #[(.pointer (some (p29.add (Int.toNat off*1)))),(.int .i64 0)]) wv3))
def ES:Ann:=(.node none .leaf (.node none .leaf (.node none .leaf (.node none (.node none (.node (some ⟨[(19,.one (.bool))],[14,15,16,17,18,19]⟩) .leaf .leaf) .leaf) .leaf))))
theorem MWord_eq(m:Option Addr)(fa:Bool)(fb:Int)(off:Int)(R:ay)(w:World):xD m fa fb off R w=vcF Tryz.prog aF [] Tryz.f70 ES [(.pointer m),(.agg #[(.bool fa),(.int .i64 fb)]),(.int .i64 off)] R none w:=by kernel_rfl
theorem xE(m:Option Addr)(fa:Bool)(fb:Int)(off:Int) {R:ay} {w:World}(h:xD m fa fb off R w):Calls Tryz.prog 70 #[(.pointer m),(.agg #[(.bool fa),(.int .i64 fb)]),(.int .i64 off)] w fun e w'=>∃v,e= .returned v∧R v w':=
 ao Tryz.func70 au aa ((MWord_eq m fa fb off R w).mp h)
def tk(m:Option Addr)(fa:Bool)(fb:Int)(off:Int)(v:Int)(R:ay)(w:World):Prop:=
 ∀(gv:Nat)(wv:World),gv=w.heap.size→wv=w.alloc (.cells #[(.bool fa),(.int .i64 fb)] 62)→
 ∃x13a:Bool,∃x13b:Int,(wv.cell? ((Addr.mk gv 0 none).add 0)=some (.bool x13a)∧wv.cell? ((Addr.mk gv 0 none).add 1)=some (.int .i64 x13b))∧
 Calls Tryz.prog 70 #[(.pointer m),(.agg #[(.bool x13a),(.int .i64 x13b)]),(.int .i64 off)] wv fun e wv1=>
 ∃x15a:Option Addr,∃x15b:Int,e= .returned (.tuple #[(.pointer x15a),(.int .i64 x15b)])∧
 split ((x15b:Int)==0) (
  av x15a fun p22=>
  ax wv1 p22 [(.int .u32 v)] fun wv2=>
  R (.int .i64 x15b) wv2) (
  R (.int .i64 x15b) wv1)
def Cu:Ann:= .leaf
theorem MWrite_eq(m:Option Addr)(fa:Bool)(fb:Int)(off:Int)(v:Int)(R:ay)(w:World):tk m fa fb off v R w=vcF Tryz.prog aF [] Tryz.f23 Cu [(.pointer m),(.agg #[(.bool fa),(.int .i64 fb)]),(.int .i64 off),(.int .u32 v)] R none w:=by kernel_rfl
theorem uH(m:Option Addr)(fa:Bool)(fb:Int)(off:Int)(v:Int) {R:ay} {w:World}(h:tk m fa fb off v R w):Calls Tryz.prog 23 #[(.pointer m),(.agg #[(.bool fa),(.int .i64 fb)]),(.int .i64 off),(.int .u32 v)] w fun e w'=>∃v,e= .returned v∧R v w':=
 ao Tryz.func23 au aa ((MWrite_eq m fa fb off v R w).mp h)
def xz(m:Option Addr)(fa:Bool)(fb:Int)(R:ay)(w:World):Prop:=
 ∀(gv:Nat)(wv:World),gv=w.heap.size→wv=w.alloc (.cells #[(.bool fa),(.int .i64 fb)] 62)→
 ∃x9a:Bool,∃x9b:Int,(wv.cell? ((Addr.mk gv 0 none).add 0)=some (.bool x9a)∧wv.cell? ((Addr.mk gv 0 none).add 1)=some (.int .i64 x9b))∧
 Calls Tryz.prog 112 #[(.pointer m),(.agg #[(.bool x9a),(.int .i64 x9b)]),(.int .i64 1)] wv fun e wv1=>
 ∃x10a:Option Addr,∃x10b:Int,e= .returned (.tuple #[(.pointer x10a),(.int .i64 x10b)])∧
 split ((x10b:Int)==0) (
  av x10a fun p16=>
  ∀x17A:Option Addr,x17A=(some (if 1024=0 then p16 else p16.add (0*1)))→∀x17N:Nat,x17N=1024 - 0→∀x17C:Nat,x17C=1024 - 0→
  ∃wv2,(Builtin.clear_ #[40] 0 #[(.slice x17A x17N x17C)]:Sem Value).run Tryz.prog wv1= .ok (.tuple #[]) wv2∧
  R (.int .i64 x10b) wv2) (
  R (.int .i64 x10b) wv1)
def EP:Ann:= .leaf
theorem MZero_eq(m:Option Addr)(fa:Bool)(fb:Int)(R:ay)(w:World):xz m fa fb R w=vcF Tryz.prog aF [] Tryz.f74 EP [(.pointer m),(.agg #[(.bool fa),(.int .i64 fb)])] R none w:=by kernel_rfl
theorem xB(m:Option Addr)(fa:Bool)(fb:Int) {R:ay} {w:World}(h:xz m fa fb R w):Calls Tryz.prog 74 #[(.pointer m),(.agg #[(.bool fa),(.int .i64 fb)])] w fun e w'=>∃v,e= .returned v∧R v w':=
 ao Tryz.func74 au aa ((MZero_eq m fa fb R w).mp h)
end Go.Proofs.YtbjlecpmgocoeaaGreatDoor
end
section
namespace Go.Proofs.YtbjlecpmgocoeaaGreatDoor
open Go Go.RowKit V
open Go.IntKind (i64 u32 u64)
structure fe where
 g:Nat
 a:Nat
 b:Nat
 pg:Bool→Nat→Nat
 n:Bool→Nat
def fe.row(L:fe)(s:Bool):Nat:=match s with
 | true=>L.a
 | false=>L.b
def fe.X(L:fe):Nat→Prop:=fun k=>k=L.g∨k=L.a∨k=L.b∨∃s i,i<L.n s∧k=L.pg s i
abbrev ptr(g:Nat):Value:= .pointer (some (Addr.mk g 0 none))
abbrev fr(s:Bool)(p:Int):Value:= .agg #[.bool s,.int .i64 p]
structure cP(w:World)(L:fe)(m:Mem):Prop where
 cnt:∀s,L.n s=m.cnt s
 hd:∃T,Blk w L.g #[.slice (some (Addr.mk L.a 0 none)) m.S m.S,.slice (some (Addr.mk L.b 0 none)) m.I m.I,.int .i64 m.jF] T
 rows:∀s,∃T cs,Blk w (L.row s) cs T∧∀i,i<m.cnt s→cs[i]? =some (ptr (L.pg s i))
 pgs:∀s i,i<m.cnt s→∃T cs,Blk w (L.pg s i) cs T∧cs.size=1024∧∀o,o<1024→cs[o]? =some (.int .u32 (m.pg s i o))
 inj:∀s i s' i',i<m.cnt s→i'<m.cnt s'→L.pg s i=L.pg s' i'→s=s'∧i=i'
 dis:L.a≠L.g∧L.b≠L.g∧∀s i,i<m.cnt s→L.pg s i≠L.g∧L.pg s i≠L.a∧L.pg s i≠L.b
 u32:∀s i o,0≤m.pg s i o∧m.pg s i o<4294967296
 dC:m.S≤64∧m.I≤64
theorem cP.inX {w:World} {L:fe} {m:Mem}(h:cP w L m) {s:Bool} {i:Nat}(hi:i<m.cnt s):L.X (L.pg s i):= .inr (.inr (.inr ⟨s,i,by rw [h.cnt];exact hi,rfl⟩))
theorem cP.kept {w w':World} {L:fe} {m:Mem} {B:Nat→Prop}(h:cP w L m)(hk:Kept B w w')(hb:∀k,L.X k→B k):cP w' L m:=by
 refine⟨h.cnt,?_,fun s=>?_,fun s i hi=>?_,h.inj,h.dis,h.u32,h.dC⟩
 ·obtain⟨T,hd⟩:=h.hd
  exact⟨T,hd.kept hk (hb _ (.inl rfl))⟩
 ·obtain⟨T,cs,hr,h2⟩:=h.rows s
  exact⟨T,cs,hr.kept hk (hb _ (by cases s<;>simp [fe.X,fe.row])),h2⟩
 ·obtain⟨T,cs,hr,h2⟩:=h.pgs s i hi
  exact⟨T,cs,hr.kept hk (hb _ (h.inX hi)),h2⟩
theorem cP.lt {w:World} {L:fe} {m:Mem}(h:cP w L m):∀k,L.X k→k<w.heap.size:=by
 rintro k (rfl | rfl | rfl | ⟨s,i,hi,rfl⟩)
 ·obtain⟨T,hd⟩:=h.hd;exact hd.lt
 ·obtain⟨T,cs,hr,h2⟩:=h.rows true;exact hr.lt
 ·obtain⟨T,cs,hr,h2⟩:=h.rows false;exact hr.lt
 ·obtain⟨T,cs,hr,h2⟩:=h.pgs s i (by rw [← h.cnt];exact hi);exact hr.lt
theorem cP.ch {w w':World} {L:fe} {m:Mem} {Y:Nat→Prop}(h:cP w L m)(hk:Ch Y w w')(hb:∀k,L.X k→¬Y k):cP w' L m:=
 h.kept hk.kept fun k hx=>⟨h.lt k hx,hb k hx⟩
theorem cP.pu {w w':World} {L:fe} {m:Mem}(h:cP w L m)(hk:Pu w w'):cP w' L m:=h.ch hk (by simp)
theorem cP.jF {w w2:World} {L:fe} {m:Mem}(h:cP w L m) {T:TypeId} {x:Int}(hs:bq w L.g #[.slice (some (Addr.mk L.a 0 none)) m.S m.S,.slice (some (Addr.mk L.b 0 none)) m.I m.I,.int .i64 x] T w2):cP w2 L {m with jF:=x}:=by
 have hk:∀k,k≠L.g→(fun k=>k≠L.g) k:=fun _ h=>h
 refine⟨h.cnt,⟨T,hs.blk⟩,fun s=>?_,fun s i hi=>?_,h.inj,h.dis,h.u32,h.dC⟩
 ·obtain⟨T,cs,hr,h2⟩:=h.rows s
  exact⟨T,cs,hs.old hr (by cases s<;>simp [fe.row,h.dis.1,h.dis.2.1]),h2⟩
 ·obtain⟨T,cs,hr,h2⟩:=h.pgs s i hi
  exact⟨T,cs,hs.old hr (h.dis.2.2 s i hi).1,h2⟩
theorem cP.aq {w w2:World} {L:fe} {m:Mem}(h:cP w L m) {s:Bool} {i:Nat}(hi:i<m.cnt s) {cs:Array Value} {T:TypeId} {f:Nat→Int}(hs:bq w (L.pg s i) cs T w2)(hc:cs.size=1024)(hf:∀o,o<1024→cs[o]? =some (.int .u32 (f o)))
 (hu:∀o,0≤f o∧f o<4294967296):cP w2 L (m.fill s i f):=by
 obtain⟨T0,hd⟩:=h.hd
 refine⟨fun s=>by rw [h.cnt];simp,⟨T0,hs.old hd (fun e=>(h.dis.2.2 s i hi).1 e.symm)⟩,fun s'=>?_,fun s' i' hi'=>?_,fun s1 i1 s2 i2 h1 h2=>h.inj s1 i1 s2 i2 (by simpa using h1) (by simpa using h2),⟨h.dis.1,h.dis.2.1,fun s1 i1 h1=>h.dis.2.2 s1 i1 (by simpa using h1)⟩,fun s' i' o=>?_,h.dC⟩
 ·obtain⟨T,cs,hr,h2⟩:=h.rows s'
  refine⟨T,cs,hs.old hr ?_,by simpa using h2⟩
  have:=(h.dis.2.2 s i hi).2
  cases s'<;>simp only [fe.row]
  ·exact fun e=>this.2 e.symm
  ·exact fun e=>this.1 e.symm
 ·have hi2:i'<m.cnt s':=by simpa using hi'
  by_cases hq:s'=s∧i'=i
  ·obtain⟨rfl,rfl⟩:=hq
   exact⟨T,cs,hs.blk,hc,fun o ho=>by rw [hf o ho];simp [Mem.fill]⟩
  ·obtain⟨T,cs,hr,h2,h3⟩:=h.pgs s' i' hi2
   refine⟨T,cs,hs.old hr (fun e=>hq (h.inj _ _ _ _ hi2 hi e)),h2,fun o ho=>?_⟩
   rw [h3 o ho]
   simp only [Mem.fill]
   rw [if_neg hq]
 ·simp only [Mem.fill]
  split
  ·exact hu o
  ·exact h.u32 _ _ _
theorem Iy {w:World} {g i:Nat} {cs:Array Value} {T:TypeId} {k:IntKind} {x:Int} {K:Int→Prop}(hb:Blk w g cs T)(hi:cs[i]? =some (.int k x))(hK:K x):
 av (some (Addr.mk g 0 none)) fun p=>∃x:Int,w.cell? (p.add i)=some (.int k x)∧K x:=ak _ rfl ⟨_,hb.at hi,hK⟩
theorem HE {w:World} {g i:Nat} {cs:Array Value} {T:TypeId} {A:Option Addr} {n c:Nat} {K:Option Addr→Nat→Nat→Prop}(hb:Blk w g cs T)(hi:cs[i]? =some (.slice A n c))(hK:K A n c):
 av (some (Addr.mk g 0 none)) fun p=>∃(A:Option Addr)(n c:Nat),w.cell? (p.add i)=some (.slice A n c)∧K A n c:=ak _ rfl ⟨_,_,_,hb.at hi,hK⟩
section
variable {w:World} {L:fe} {m:Mem}
theorem mAt(h:cP w L m)(s:Bool)(p:Int):
 Calls Tryz.prog 111 #[ptr L.g,fr s p] w fun e w'=>∃v,e= .returned v∧v= .pointer (if m.has s p then some (Addr.mk (L.pg s p.toNat) 0 none)else none)∧Pu w w':=by
 refine Cw _ s p ?_
 intro g1 w1 hg hw
 have hM:=made hg hw
 have h1:=h.pu hM.pu
 obtain⟨T,hd⟩:=h1.hd
 refine HE hd rfl ⟨_,hM.blk.at rfl,?_⟩
 have fin:∀(a n:Nat),n=m.cnt s→a=L.row s→
  ∃J:Bool→World→Prop,(
  ∃x17:Int,w1.cell? ((Addr.mk g1 0 none).add 1)=some (.int .i64 x17)∧
  split (decide ((x17:Int)<0)) (
   J true w1) (
   ∃x21:Int,w1.cell? ((Addr.mk g1 0 none).add 1)=some (.int .i64 x21)∧
   J (decide ((x21:Int)≥((n:Nat):Int))) w1))∧∀(_gv1:Nat→Value)(x25:Bool),∀wv1,J x25 wv1→
  split x25 (
   (∃v,v=(Value.pointer none)∧v= .pointer (if m.has s p then some (Addr.mk (L.pg s p.toNat) 0 none)else none)∧Pu w wv1)) (
   ∃x28:Int,wv1.cell? ((Addr.mk g1 0 none).add 1)=some (.int .i64 x28)∧
   (0≤(x28:Int)∧(x28:Int)<((n:Nat):Int))∧
   av (some (Addr.mk a 0 none)) fun p29=>
   ∃x30:Option Addr,wv1.cell? (p29.add (Int.toNat x28*1))=some (.pointer x30)∧
   (∃v,v=(Value.pointer x30)∧v= .pointer (if m.has s p then some (Addr.mk (L.pg s p.toNat) 0 none)else none)∧Pu w wv1)):=by
  intro a n hn ha
  refine⟨fun b w'=>w1=w'∧b= !(m.has s p),⟨_,hM.blk.at rfl,ae (fun hb=>⟨rfl,?_⟩) (fun hb=>⟨_,hM.blk.at rfl,rfl,?_⟩)⟩,?_⟩
  ·simp at hb
   simp [Mem.has]
   omega
  ·simp at hb
   subst hn
   simp only [Mem.has,ge_iff_le]
   rw [Bool.eq_iff_iff]
   simp
   omega
  ·rintro _ x _ ⟨rfl,rfl⟩
   refine ae (fun hb=>⟨_,rfl,?_,hM.pu⟩) (fun hb=>?_)
   ·simp at hb;simp [hb]
   ·have hb':m.has s p=true:=by simpa using hb
    have hp:0≤p∧p<(n:Int):=by subst hn;simpa [Mem.has]using hb'
    obtain⟨T2,cs,hr,hc⟩:=h1.rows s
    rw [← ha]at hr
    refine⟨_,hM.blk.at rfl,hp,ak _ rfl ⟨_,?_,_,rfl,by rw [if_pos hb'],hM.pu⟩⟩
    rw [Nat.mul_one]
    exact hr.at (hc _ (by omega))
 refine ae (fun hb=>?_) (fun hb=>?_)
 ·subst hb
  exact HE hd rfl (by
   obtain⟨J,hJ⟩:=fin L.a m.S rfl rfl
   refine⟨J,hJ.1,fun g x wv hj=>?_⟩
   have:=hJ.2 g x wv hj
   simpa using this)
 ·subst hb
  obtain⟨J,hJ⟩:=fin L.b m.I rfl rfl
  refine⟨J,hJ.1,fun g x wv hj=>?_⟩
  have:=hJ.2 g x wv hj
  simpa using this
theorem I9(h:cP w L m)(s:Bool)(p:Int):
 Calls Tryz.prog 109 #[ptr L.g,fr s p] w fun e w'=>∃v,e= .returned v∧v= .bool (m.has s p)∧Pu w w':=by
 refine zK _ s p ?_
 intro g1 w1 hg hw
 have hM:=made hg hw
 refine⟨_,_,⟨hM.blk.at rfl,hM.blk.at rfl⟩,(mAt (h.pu hM.pu) s p).mono ?_⟩
 rintro e w2 ⟨_,rfl,rfl,hp⟩
 refine⟨_,rfl,?_,hM.pu.trans hp⟩
 cases m.has s p<;>rfl
theorem tP(h:cP w L m):Calls Tryz.prog 73 #[ptr L.g] w fun e w'=>∃v,e= .returned v∧v= .int .i64 m.S∧w'=w:=by
 obtain⟨T,hd⟩:=h.hd
 exact rR _ (HE hd rfl ⟨rfl,rfl⟩)
theorem It(h:cP w L m)(s:Bool)(p o:Int):
 Calls Tryz.prog 70 #[ptr L.g,fr s p,.int .i64 o] w fun e w'=>∃v,e= .returned v∧
  ((m.has s p && Mem.cY o)=true∧v= .tuple #[.pointer (some (Addr.mk (L.pg s p.toNat) o.toNat none)),.int .i64 0]∧cP w' L (m.tick 1)∧Ch L.X w w'∨
   (m.has s p && Mem.cY o)=false∧v= .tuple #[.pointer none,.int .i64 (m.err s p o)]∧m.err s p o≠0∧Pu w w'):=by
 refine xE _ s p o ?_
 intro g1 w1 hg hw
 have hM:=made hg hw
 refine⟨_,_,⟨hM.blk.at rfl,hM.blk.at rfl⟩,(mAt (h.pu hM.pu) s p).mono ?_⟩
 rintro e w2 ⟨_,rfl,rfl,hp⟩
 have hp2:=hM.pu.trans hp
 refine⟨_,rfl,?_⟩
 cases hh:m.has s p with
 | false=>
  refine ae (fun _=>.inr ⟨rfl,?_,?_,hp2⟩) (fun hb=>by simp at hb)
  ·simp [Mem.err,hh]
  ·simp [Mem.err,hh]
 | true=>
  refine ae (fun hb=>by simp at hb) (fun _=>?_)
  refine⟨fun b w'=>w2=w'∧b= !(Mem.cY o),ae (fun hb=>⟨rfl,?_⟩) (fun hb=>⟨rfl,?_⟩),?_⟩
  ·simp at hb;simp [Mem.cY];omega
  ·simp at hb;simp only [Mem.cY,ge_iff_le];rw [Bool.eq_iff_iff];simp;omega
  ·rintro _ x _ ⟨rfl,rfl⟩
   refine ae (fun hb=>?_) (fun hb=>?_)
   ·have ho:Mem.cY o=false:=by simpa using hb
    exact .inr ⟨by simp [ho],by simp [Mem.err,hh,ho],by simp [Mem.err,hh,ho],hp2⟩
   ·have ho:Mem.cY o=true:=by simpa using hb
    have h2:=h.pu hp2
    obtain⟨T,hd⟩:=h2.hd
    refine Iy hd rfl (ak _ rfl (aM hd (by simp) fun w3 hs=>?_))
    have ho':=Mem.gp ho
    refine ak _ rfl ⟨ho',.inl ⟨by simp [ho],?_,h2.jF hs,?_⟩⟩
    ·rw [bx,Nat.zero_add,Nat.mul_one]
    ·exact(hp2.mono (by simp)).stored hs (.inl (.inl rfl))
theorem DC(h:cP w L m)(s:Bool)(p o v:Int)(hv:0≤v∧v<4294967296):
 Calls Tryz.prog 23 #[ptr L.g,fr s p,.int .i64 o,.int .u32 v] w fun e w'=>∃u,e= .returned u∧u= .int .i64 (m.err s p o)∧cP w' L (m.write s p o v)∧Ch L.X w w':=by
 refine uH _ s p o v ?_
 intro g1 w1 hg hw
 have hM:=made hg hw
 refine⟨_,_,⟨hM.blk.at rfl,hM.blk.at rfl⟩,(It (h.pu hM.pu) s p o).mono ?_⟩
 rintro e w2 ⟨_,rfl,⟨hh,rfl,h2,hc⟩ | ⟨hh,rfl,he,hp⟩⟩
 ·refine⟨_,_,rfl,ae (fun _=>?_) (fun hb=>by simp at hb)⟩
  have hc2:Ch L.X w w2:=((Ch.refl _ w).made hM).trans hc
  simp only [Bool.and_eq_true]at hh
  have hi:=Mem.dF hh.1
  have ho:=Mem.gp hh.2
  obtain⟨T,cs,hr,hsz,hcs⟩:=h2.pgs s p.toNat (by simpa using hi)
  refine ak _ rfl (gA hr (by simp;omega) fun w3 hs=>⟨?_,?_,?_⟩)
  ·simp [Mem.err,hh.1,hh.2]
  ·have:=h2.aq (f:=fun o'=>if o'=o.toNat then v else m.pg s p.toNat o') (by simpa using hi) hs (by simp [setAt,hsz]) (fun o' ho'=>?_) (fun o'=>?_)
   ·simp only [Mem.write,hh.1,hh.2,Bool.and_self,if_true]
    exact this
   ·simp only [sd,Array.getElem?_setIfInBounds]
    by_cases e:o.toNat=o'
    ·rw [if_pos e,if_pos (by omega),if_pos e.symm]
    ·rw [if_neg e,if_neg (fun h=>e h.symm)]
     exact hcs o' ho'
   ·split
    ·exact hv
    ·exact h.u32 _ _ _
  ·exact hc2.stored hs (.inl (h.inX hi))
 ·refine⟨_,_,rfl,ae (fun hb=>absurd (by simpa using hb) he) (fun _=>⟨rfl,?_,?_⟩)⟩
  ·have:=(h.pu hM.pu).pu hp
   simpa [Mem.write,hh]using this
  ·exact(hM.pu.trans hp).mono (by simp)
theorem Iu(h:cP w L m)(s:Bool)(p o:Int):
 Calls Tryz.prog 98 #[ptr L.g,fr s p,.int .i64 o] w fun e w'=>∃u,e= .returned u∧u= .int .u32 (m.jR s p o)∧Pu w w':=by
 refine xG _ s p o ?_
 intro g1 w1 hg hw
 have hM:=made hg hw
 refine⟨_,_,⟨hM.blk.at rfl,hM.blk.at rfl⟩,(mAt (h.pu hM.pu) s p).mono ?_⟩
 rintro e w2 ⟨_,rfl,rfl,hp⟩
 have hp2:=hM.pu.trans hp
 refine⟨_,rfl,fun b w'=>w2=w'∧b= !(m.has s p && Mem.cY o),?_,?_⟩
 ·cases hh:m.has s p with
  | false=>exact ae (fun _=>⟨rfl,rfl⟩) (fun hb=>by simp at hb)
  | true=>
   refine ae (fun hb=>by simp at hb) (fun _=>ae (fun hb=>⟨rfl,?_⟩) (fun hb=>⟨rfl,?_⟩))
   ·simp at hb;simp [Mem.cY];omega
   ·simp at hb;simp only [Mem.cY,ge_iff_le];rw [Bool.eq_iff_iff];simp;omega
 ·rintro _ x _ ⟨rfl,rfl⟩
  refine ae (fun hb=>?_) (fun hb=>?_)
  ·have hh:(m.has s p && Mem.cY o)=false:=by rwa [Bool.not_eq_true']at hb
   exact⟨by simp [Mem.jR,hh],hp2⟩
  ·have hh:(m.has s p && Mem.cY o)=true:=by simpa using hb
   have hh':=hh
   simp only [Bool.and_eq_true]at hh
   have hi:=Mem.dF hh.1
   have ho:=Mem.gp hh.2
   obtain⟨T,cs,hr,hsz,hcs⟩:=(h.pu hp2).pgs s p.toNat hi
   rw [if_pos hh.1]
   refine ak _ rfl ⟨ho,_,by rw [Nat.mul_one];exact hr.at (hcs _ (by omega)),?_,hp2⟩
   simp only [Mem.jR,hh',if_true]
end
end Go.Proofs.YtbjlecpmgocoeaaGreatDoor
end
section
namespace Go.Proofs.YtbjlecpmgocoeaaGreatDoor
open Go Go.RowKit V
open Go.IntKind (i64 u32 u64)
theorem De:S1 Tryz.prog 40 22 (.int .u32 0) 4:=S1.of (by kernel_rfl) (by kernel_rfl) rfl
theorem Hl:S1 Tryz.prog 95 166 (.pointer none) 8:=S1.of (by kernel_rfl) (by kernel_rfl) rfl
def iC(w:World)(g:Nat)(f:Nat→Int):Prop:=∃T cs,Blk w g cs T∧cs.size=1024∧∀o,o<1024→cs[o]? =some (.int .u32 (f o))
structure j6(w:World)(g n k:Nat)(pg:Nat→Nat)(f:Nat→Nat→Int)(b:Nat):Prop where
 row:∃T cs,Blk w g cs T∧cs.size=n∧∀i,i<k→cs[i]? =some (ptr (pg i))
 pgs:∀i,i<k→iC w (pg i) (f i)
 inj:∀i j,i<k→j<k→pg i=pg j→i=j
 dis:∀i,i<k→pg i≠g
 low:b≤g∧∀i,i<k→b≤pg i
theorem iC.lt {w:World} {g:Nat} {f:Nat→Int}(h:iC w g f):g<w.heap.size:=by obtain⟨T,cs,hb,_⟩:=h;exact hb.lt
theorem iC.pu {w w':World} {g:Nat} {f:Nat→Int}(h:iC w g f)(hk:Pu w w'):iC w' g f:=by obtain⟨T,cs,hb,h2⟩:=h;exact⟨T,cs,hk.blk hb,h2⟩
theorem iC.old {w w':World} {g g':Nat} {f:Nat→Int} {cs:Array Value} {T:TypeId}(h:iC w g f)(hs:bq w g' cs T w')(hne:g≠g'):iC w' g f:=by obtain⟨T,cs,hb,h2⟩:=h;exact⟨T,cs,hs.old hb hne,h2⟩
theorem j6.pu {w w':World} {g n k b:Nat} {pg:Nat→Nat} {f:Nat→Nat→Int}(h:j6 w g n k pg f b)(hk:Pu w w'):j6 w' g n k pg f b:=by
 obtain⟨⟨T,cs,hr,h2⟩,h3,h4,h5,h6⟩:=h
 exact⟨⟨T,cs,hk.blk hr,h2⟩,fun i hi=>(h3 i hi).pu hk,h4,h5,h6⟩
theorem j6.more {w w1 w2:World} {g n k b p:Nat} {pg:Nat→Nat} {f:Nat→Nat→Int}(h:j6 w g n k pg f b)(hk:Pu w w1)(hp:iC w1 p (f k))(hnew:w.heap.size≤p)(hkn:k<n)(hb:b≤w.heap.size):
 ∃T cs,Blk w1 g cs T∧k+1≤cs.size∧∀w2,bq w1 g (setAt cs k [ptr p]) T w2→j6 w2 g n (k+1) (fun i=>if i=k then p else pg i) f b:=by
 obtain⟨⟨T,cs,hr,hsz,h2⟩,h3,h4,h5,h6⟩:=h
 have hg:=hr.lt
 have hold:∀i,i<k→pg i≠p:=fun i hi=>by have:=(h3 i hi).lt;omega
 refine⟨T,cs,hk.blk hr,by omega,fun w2 hs=>⟨⟨T,_,hs.blk,by rw [eD];exact hsz,fun i hi=>?_⟩,fun i hi=>?_,fun i j hi hj=>?_,fun i hi=>?_,h6.1,fun i hi=>?_⟩⟩
 ·rw [dW _ _ _ _ (by simp;omega)]
  by_cases e:i=k
  ·subst e;simp
  ·rw [if_neg (by simp;omega),if_neg e]
   exact h2 i (by omega)
 ·by_cases e:i=k
  ·subst e
   rw [if_pos rfl]
   exact hp.old hs (by omega)
  ·rw [if_neg e]
   exact((h3 i (by omega)).pu hk).old hs (h5 i (by omega))
 ·by_cases e:i=k<;>by_cases e':j=k
  ·intro _;omega
  ·rw [if_pos e,if_neg e'];intro hh;exact absurd hh.symm (hold j (by omega))
  ·rw [if_neg e,if_pos e'];intro hh;exact absurd hh (hold i (by omega))
  ·rw [if_neg e,if_neg e'];exact h4 i j (by omega) (by omega)
 ·split
  ·omega
  ·exact h5 i (by omega)
 ·split
  ·omega
  ·exact h6.2 i (by omega)
section
variable {w:World} {L:fe} {m:Mem}
theorem GU(n:Nat)(hn:n≤64):
 Calls Tryz.prog 72 #[.int .i64 n] w fun e w'=>∃v,e= .returned v∧∃g pg,v= .slice (some (Addr.mk g 0 none)) n n∧j6 w' g n n pg (fun _ _=>0) w.heap.size∧Pu w w':=by
 refine xI _ ?_
 refine lY Hl (by omega) (by omega) (by omega) fun g w1 hM=>?_
 rw [Int.toNat_natCast]at hM ⊢
 refine⟨fun k x w'=>∃i:Nat,x=(i:Int)∧i≤n∧k=n - i∧(∃pg,j6 w' g n i pg (fun _ _=>0) w.heap.size)∧Pu w w',⟨n,0,rfl,by omega,by omega,⟨fun _=>0,⟨⟨_,_,hM.blk,by simp,by simp⟩,by simp,by simp,by simp,by have:=hM.num;omega,by simp⟩⟩,hM.pu⟩,?_⟩
 rintro k _ x w2 ⟨i,rfl,hi,rfl,⟨pg,hP⟩,hpu⟩
 refine ae (fun hb=>?_) (fun hb=>?_)
 ·have hi':i<n:=by simpa using hb
  intro p w3 hp hw3
  have hM3:=made hp hw3
  obtain⟨T,cs,hr,hsz,hmore⟩:=hP.more (w2:=w3) hM3.pu ⟨_,_,hM3.blk,by simp,fun o ho=>by simp [ho]⟩ (by rw [hM3.num];omega) hi' hpu.size
  refine⟨⟨by omega,by omega⟩,ak _ rfl ?_⟩
  rw [Nat.mul_one,Int.toNat_natCast]
  refine aM hr hsz fun w4 hs=>⟨n - (i+1),by omega,i+1,?_,hi',rfl,⟨_,hmore _ hs⟩,?_⟩
  ·rw [ah (by omega)];omega
  ·have hg:w.heap.size≤g:=hP.low.1
   exact((hpu.made hM3).mono (by simp):Ch (fun _=>False) w w3).stored hs (.inr hg)
 ·have:i=n:=by simp at hb;omega
  subst this
  exact⟨g,pg,rfl,hP,hpu⟩
theorem I8(s i:Int)(hs:1≤s∧s≤64)(hi:1≤i∧i≤64):
 Calls Tryz.prog 27 #[.int .i64 s,.int .i64 i] w fun e w'=>∃v,e= .returned v∧∃L:fe,v= .tuple #[ptr L.g,.int .i64 0]∧cP w' L (Mem.fresh s.toNat i.toNat)∧(∀k,L.X k→w.heap.size≤k)∧Pu w w':=by
 refine zI s i ?_
 refine⟨fun b w'=>w=w'∧b=false,?_,?_⟩
 ·refine ae (fun hb=>by simp at hb;omega) (fun _=>ae (fun hb=>by simp at hb;omega) (fun _=>ae (fun hb=>by simp at hb;omega) (fun _=>⟨rfl,by simp;omega⟩)))
 rintro _ x _ ⟨rfl,rfl⟩
 refine ae (fun hb=>by cases hb) (fun _=>?_)
 obtain⟨S,rfl⟩:=Int.eq_ofNat_of_zero_le (show 0≤s by omega)
 obtain⟨I,rfl⟩:=Int.eq_ofNat_of_zero_le (show 0≤i by omega)
 refine(GU S (by omega)).mono ?_
 rintro e w1 ⟨_,rfl,a,pa,rfl,hA,hp1⟩
 refine⟨_,_,_,rfl,(GU I (by omega)).mono ?_⟩
 rintro e w2 ⟨_,rfl,b,pb,rfl,hB,hp2⟩
 refine⟨_,_,_,rfl,?_⟩
 intro g w3 hg hw3
 have hM:=made hg hw3
 have hA3:=(hA.pu hp2).pu hM.pu
 have hB3:=hB.pu hM.pu
 have hal:∀j,j<S→pa j<w1.heap.size:=fun j hj=>(hA.pgs j hj).lt
 have hag:a<w1.heap.size:=by obtain⟨T,cs,hr,_⟩:=hA.row;exact hr.lt
 have hbl:∀j,j<I→pb j<w2.heap.size:=fun j hj=>(hB.pgs j hj).lt
 have hbg:b<w2.heap.size:=by obtain⟨T,cs,hr,_⟩:=hB.row;exact hr.lt
 have h12:=hp2.size
 have h01:=hp1.size
 have hgn:=hM.num
 refine⟨⟨g,a,b,fun s=>match s with | true=>pa | false=>pb,fun s=>match s with | true=>S | false=>I⟩,rfl,⟨fun s=>by cases s<;>rfl,⟨_,hM.blk⟩,fun s=>?_,fun s i hi=>?_,fun s i s' i' hi hi' e=>?_,⟨by show a≠g;omega,by show b≠g;omega,fun s i hi=>?_⟩,fun _ _ _=>by simp [Mem.fresh],by simp [Mem.fresh];omega⟩,?_,(hp1.trans hp2).made hM⟩
 ·cases s
  ·obtain⟨T,cs,hr,_,h2⟩:=hB3.row;exact⟨T,cs,hr,h2⟩
  ·obtain⟨T,cs,hr,_,h2⟩:=hA3.row;exact⟨T,cs,hr,h2⟩
 ·cases s
  ·exact hB3.pgs i hi
  ·exact hA3.pgs i hi
 ·cases s<;>cases s'<;>simp only [Mem.cnt,Mem.fresh,Int.toNat_natCast]at hi hi'<;>simp only at e
  ·exact⟨rfl,hB.inj _ _ hi hi' e⟩
  ·have:=hB.low.2 i hi;have:=hal i' hi';omega
  ·have:=hB.low.2 i' hi';have:=hal i hi;omega
  ·exact⟨rfl,hA.inj _ _ hi hi' e⟩
 ·cases s<;>simp only [Mem.cnt,Mem.fresh,Int.toNat_natCast]at hi<;>simp only
  ·have:=hB.low.2 i hi;have:=hbl i hi;have:=hB.dis i hi
   refine⟨?_,?_,this⟩<;>omega
  ·have:=hA.low.2 i hi;have:=hal i hi;have h3:=hA.dis i hi;have:=hB.low.1
   refine⟨?_,h3,?_⟩<;>omega
 ·rintro k (rfl | rfl | rfl | ⟨s,i,hi,rfl⟩)
  ·omega
  ·exact hA.low.1
  ·have:=hB.low.1;omega
  ·cases s<;>simp only [Mem.cnt,Mem.fresh,Int.toNat_natCast]at hi<;>simp only
   ·have:=hB.low.2 i hi;omega
   ·exact hA.low.2 i hi
theorem Hz(h:cP w L m)(s:Bool)(p t:Int):
 Calls Tryz.prog 112 #[ptr L.g,fr s p,.int .i64 t] w fun e w'=>∃v,e= .returned v∧
  (m.has s p=true∧v= .tuple #[ptr (L.pg s p.toNat),.int .i64 0]∧cP w' L (m.tick (i64.wrap (t*1024)))∧Ch L.X w w'∨
   m.has s p=false∧v= .tuple #[.pointer none,.int .i64 5]∧Pu w w'):=by
 refine uI _ s p t ?_
 intro g1 w1 hg hw
 have hM:=made hg hw
 refine⟨_,_,⟨hM.blk.at rfl,hM.blk.at rfl⟩,(mAt (h.pu hM.pu) s p).mono ?_⟩
 rintro e w2 ⟨_,rfl,rfl,hp⟩
 have hp2:=hM.pu.trans hp
 refine⟨_,rfl,?_⟩
 cases hh:m.has s p with
 | false=>exact ae (fun _=>.inr ⟨rfl,rfl,hp2⟩) (fun hb=>by simp at hb)
 | true=>
  refine ae (fun hb=>by simp at hb) (fun _=>?_)
  have h2:=h.pu hp2
  obtain⟨T,hd⟩:=h2.hd
  refine Iy hd rfl (ak _ rfl (aM hd (by simp) fun w3 hs=>.inl ⟨rfl,rfl,h2.jF hs,?_⟩))
  exact(hp2.mono (by simp)).stored hs (.inl (.inl rfl))
theorem GS(h:cP w L m)(s:Bool)(p:Int):
 Calls Tryz.prog 74 #[ptr L.g,fr s p] w fun e w'=>∃v,e= .returned v∧v= .int .i64 (m.bC s p)∧cP w' L (m.zero s p)∧Ch L.X w w':=by
 refine xB _ s p ?_
 intro g1 w1 hg hw
 have hM:=made hg hw
 refine⟨_,_,⟨hM.blk.at rfl,hM.blk.at rfl⟩,(Hz (h.pu hM.pu) s p 1).mono ?_⟩
 rintro e w2 ⟨_,rfl,⟨hh,rfl,h2,hc⟩ | ⟨hh,rfl,hp⟩⟩
 ·refine⟨_,_,rfl,ae (fun _=>ak _ rfl ?_) (fun hb=>by simp at hb)⟩
  rintro A rfl N rfl C rfl
  have hi:=Mem.dF hh
  obtain⟨T,cs,hr,hsz,hcs⟩:=h2.pgs s p.toNat (by simpa using hi)
  refine DZ (o:=0) De rfl hr (by omega) (by omega) fun w3 hs=>⟨?_,?_,?_⟩
  ·simp [Mem.bC,hh]
  ·have:=h2.aq (f:=fun _=>0) (by simpa using hi) hs (by rw [eD];exact hsz) (fun o ho=>?_) (fun o=>by simp)
   ·simp only [Mem.zero,hh,if_true]
    exact this
   ·have hl:(List.replicate (1024 - 0) (Value.int .u32 0)).length=1024:=List.length_replicate ..
    rw [dW _ _ _ _ (by rw [hl];omega),if_pos (by rw [hl];omega),List.getElem?_replicate,if_pos (by omega)]
  ·exact(((Ch.refl _ w).made hM).trans hc).stored hs (.inl (h.inX hi))
 ·refine⟨_,_,rfl,ae (fun hb=>by simp at hb) (fun _=>⟨?_,?_,?_⟩)⟩
  ·simp [Mem.bC,hh]
  ·simpa [Mem.zero,hh]using (h.pu hM.pu).pu hp
  ·exact(hM.pu.trans hp).mono (by simp)
end
end Go.Proofs.YtbjlecpmgocoeaaGreatDoor
end
section
namespace Go.Proofs.YtbjlecpmgocoeaaGreatDoor
open Go Go.RowKit V
open Go.IntKind (i64 u32 u64)
structure Ent where
 typ:Int
 owner:Int
 refs:Int
 state:Int
 aD:Bool
deriving DecidableEq
namespace Ent
abbrev free:Ent:=⟨0,0,0,0,false⟩
def ok(e:Ent):Bool:=
 decide (0≤e.typ∧e.typ≤6∧0≤e.owner∧e.owner≤63∧0≤e.refs∧e.refs≤63∧(e.typ=0→e.owner=0)∧(e.typ≠1→e.refs=0∧e.state=0)∧(e.typ=1→1≤e.state∧e.state≤3)∧(e.typ≠2→e.aD=false))
def w0(e:Ent):Int:=e.typ+16*e.state+65536*e.owner+(if e.aD then 256 else 0)
def w1(e:Ent):Int:=e.refs
def parts(a b:Int):Ent:=⟨a % 8,a / 65536 % 64,b % 64,a / 16 % 4,decide (a / 256 % 2=1)⟩
def dec(a b:Int):Ent:=if(parts a b).ok && decide ((parts a b).w0=a) && decide ((parts a b).w1=b)then parts a b else free
def cC(a b:Int):Int:=if(parts a b).ok && decide ((parts a b).w0=a) && decide ((parts a b).w1=b)then 0 else 110
theorem cB {e:Ent}(h:e.ok=true):0≤e.typ∧e.typ≤6∧0≤e.owner∧e.owner≤63∧0≤e.refs∧e.refs≤63∧(e.typ=0→e.owner=0)∧(e.typ≠1→e.refs=0∧e.state=0)∧(e.typ=1→1≤e.state∧e.state≤3)∧(e.typ≠2→e.aD=false):=by
 simpa only [ok,decide_eq_true_eq]using h
theorem gF {e:Ent}(h:e.ok=true):0≤e.state∧e.state≤3:=by
 have:=cB h
 by_cases h1:e.typ=1<;>omega
theorem Bq {e:Ent}(h:e.ok=true):parts e.w0 e.w1=e:=by
 have h1:=cB h
 have h2:=gF h
 obtain⟨t,o,r,s,n⟩:=e
 simp only at h1 h2
 cases n<;>simp only [parts,w0,w1,Ent.mk.injEq,decide_eq_true_eq,decide_eq_false_iff_not,if_true,Bool.false_eq_true,if_false]<;>omega
theorem Au {e:Ent}(h:e.ok=true):dec e.w0 e.w1=e∧cC e.w0 e.w1=0:=by
 unfold dec cC
 rw [Bq h]
 simp [h]
theorem uZ {e:Ent}(h:e.ok=true):0≤e.w0∧e.w0<4294967296:=by
 have h1:=cB h
 have h2:=gF h
 unfold w0
 split<;>omega
theorem uY {e:Ent}(h:e.ok=true):0≤e.w1∧e.w1<4294967296:=by
 have h1:=cB h
 unfold w1
 omega
theorem ua:free.ok=true:=by decide
theorem iB {a b:Int}(h:cC a b=0):(dec a b).ok=true∧(dec a b).w0=a∧(dec a b).w1=b:=by
 unfold cC at h
 unfold dec
 split at h
 ·rename_i hc
  rw [if_pos hc]
  simp only [Bool.and_eq_true,decide_eq_true_eq]at hc
  exact⟨hc.1.1,hc.1.2,hc.2⟩
 ·omega
end Ent
structure DB where
 mem:Mem
 aw:Int
 ent:Nat→Ent
namespace DB
def S(d:DB):Nat:=d.mem.S
def has(d:DB)(p:Int):Bool:=decide (0≤p∧p<(d.S:Int))
def at_(d:DB)(p:Int):Ent:=d.ent p.toNat
def set(d:DB)(p:Int)(e:Ent):DB:= {d with ent:=fun q=>if q=p.toNat then e else d.ent q}
def entry(d:DB)(p:Int):Ent:=if d.has p then d.at_ p else .free
def jZ(d:DB)(p:Int):Int:=if d.has p then 0 else 5
def du(d:DB)(p:Int):Bool:=d.has p && (d.at_ p).typ==1
def aN(d:DB)(m:Mem):DB:=⟨m,d.aw,d.ent⟩
def eN(d:DB)(b:Int):DB:=⟨d.mem,b,d.ent⟩
def dE(d:DB)(f:Mem→Mem):DB:=d.aN (f d.mem)
def free(d:DB):Int:=(((List.range d.S).filter fun p=>(d.ent p).typ==0).length:Int)
def fw(d:DB)(s:Int)(p:Nat):Bool:=(p:Int) !=s && (d.ent p).typ !=0 && (d.ent p).owner==s
def aQ(d:DB)(s f:Int):Int:=
 if !d.has s || !d.has f then 5 else if s=f then 1 else if(d.at_ s).typ !=0 || (d.at_ f).typ !=0 then 120 else if d.aw≥64 then 240 else 0
def bA(d:DB)(s f:Int):DB:=
 let d1:=(d.set s ⟨1,s,1,1,false⟩).set f ⟨3,s,0,0,false⟩
 (d1.aN (((d.mem.write true s 0 f).write true s 1 d.aw).write true s 2 0)).eN (d.aw+1)
def aH(d:DB)(s f:Int):DB:=if d.aQ s f=0 then d.bA s f else d
def turns(t:Int):Bool:=t==4 || t==5 || t==6
def cn(d:DB)(p t s:Int):Int:=
 if !d.has p then 5 else if t !=2 && !turns t then 124 else if !d.du s || decide ((d.at_ s).refs≥63)then 122 else if(d.at_ p).typ !=0 then 120 else 0
def more(d:DB)(s k:Int):DB:=d.set s {d.at_ s with refs:=(d.at_ s).refs+k}
def eP(d:DB)(p t s:Int):DB:=(d.set p ⟨t,s,0,0,false⟩).more s 1
def take(d:DB)(p t s:Int):DB:=if d.cn p t s=0 then d.eP p t s else d
def dD(d:DB)(p t:Int):Int:=if !d.has p then 5 else if !turns (d.at_ p).typ || !turns t then 124 else 0
def jL(d:DB)(p t:Int):DB:=(d.set p {d.at_ p with typ:=t}).dE (·.zero true p)
def hH(d:DB)(p t:Int):DB:=if d.dD p t=0 then d.jL p t else d
def cp(d:DB)(p:Int):Int:=
 if !d.has p then 5 else if(d.at_ p).typ=0 then 121 else if(d.at_ p).typ==1 && decide ((d.at_ p).refs>0)then 123 else 0
def eX(d:DB)(p:Int):DB:=
 let d1:=d.set p .free
 (if(d.at_ p).typ !=1 && (d1.du (d.at_ p).owner && decide ((d1.at_ (d.at_ p).owner).refs>0))then d1.more (d.at_ p).owner (-1)else d1).dE (·.zero true p)
def eL(d:DB)(p:Int):DB:=if d.cp p=0 then d.eX p else d
def aZ(d:DB)(p s:Int):Int:=
 if !d.has p then 5 else if(d.at_ p).typ≠1 then 124 else if s !=3 && ((d.at_ p).state !=1 || s !=2)then 3 else 0
def setState(d:DB)(p s:Int):DB:=if d.aZ p s=0 then d.set p {d.at_ p with state:=s}else d
def bm(d:DB)(p:Int):Int:=if !d.has p then 5 else if(d.at_ p).typ≠2 then 124 else 0
def aU(d:DB)(p:Int)(on:Bool):DB:=if d.bm p=0 then d.set p {d.at_ p with aD:=on}else d
def words(d:DB):List Int:=d.aw::(List.range d.S).flatMap fun p=>[(d.ent p).w0,(d.ent p).w1]
structure Ok(d:DB):Prop where
 ent:∀p,p<d.S→(d.ent p).ok=true∧(d.ent p).owner<d.S
 aw:0≤d.aw∧d.aw≤64
@[simp] theorem Jd(d:DB)(p:Int)(e:Ent):(d.set p e).S=d.S:=rfl
@[simp] theorem cG(d:DB)(p q:Int)(e:Ent):(d.set p e).has q=d.has q:=rfl
@[simp] theorem mem_set(d:DB)(p:Int)(e:Ent):(d.set p e).mem=d.mem:=rfl
@[simp] theorem HM(d:DB)(p:Int)(e:Ent):(d.set p e).aw=d.aw:=rfl
@[simp] theorem bd(d:DB)(m:Mem):(d.aN m).mem=m:=rfl
@[simp] theorem D7(d:DB)(m:Mem):(d.aN m).aw=d.aw:=rfl
@[simp] theorem HO(d:DB)(m:Mem)(p:Int):(d.aN m).at_ p=d.at_ p:=rfl
@[simp] theorem Ib(d:DB)(m:Mem):(d.aN m).S=m.S:=rfl
@[simp] theorem Bt(d:DB)(b:Int):(d.eN b).mem=d.mem:=rfl
@[simp] theorem F4(d:DB)(b:Int):(d.eN b).aw=b:=rfl
@[simp] theorem IL(d:DB)(b:Int)(p:Int):(d.eN b).at_ p=d.at_ p:=rfl
@[simp] theorem IW(d:DB)(b:Int):(d.eN b).S=d.S:=rfl
@[simp] theorem CY(d:DB)(m m':Mem):(d.aN m).aN m'=d.aN m':=rfl
theorem cy(d:DB)(p:Int):d.mem.has true p=d.has p:=rfl
theorem cH {d:DB} {p:Int}(h:d.has p=true):0≤p∧p<(d.S:Int):=by simpa [has]using h
theorem dF {d:DB} {p:Int}(h:d.has p=true):p.toNat<d.S:=by have:=cH h;omega
theorem Eb {d:DB} {p q:Int} {e:Ent}(hp:0≤p)(hq:0≤q):(d.set p e).at_ q=if q=p then e else d.at_ q:=by
 unfold at_ set
 by_cases h:q=p
 ·simp [h]
 ·simp only [h,if_false];rw [if_neg (by omega)]
theorem set_comm(d:DB) {p q:Int} {e f:Ent}(h:p.toNat≠q.toNat):(d.set p e).set q f=(d.set q f).set p e:=by
 simp only [set,DB.mk.injEq,true_and]
 funext k
 by_cases h1:k=q.toNat<;>by_cases h2:k=p.toNat<;>simp [h1,h2]<;>omega
theorem IM {d:DB} {p q:Int} {e:Ent}(hp:d.has p=true)(hq:d.has q=true)(hne:¬(d.at_ p).typ=(d.at_ q).typ):(d.set p e).at_ q=d.at_ q:=by
 have h1:=cH hp
 have h2:=cH hq
 rw [Eb h1.1 h2.1,if_neg (by rintro rfl;exact hne rfl)]
theorem eI {d:DB} {p:Int}(h:d.du p=true):d.has p=true∧(d.at_ p).typ=1:=by simpa [du]using h
theorem Ds {t s:Int}(ht:t=2∨turns t=true)(hs:0≤s∧s≤63):(Ent.mk t s 0 0 false).ok=true:=by
 have:t=2∨t=4∨t=5∨t=6:=by simpa [turns,or_assoc]using ht
 simp only [Ent.ok,decide_eq_true_eq];simp;omega
theorem Dr {e:Ent} {t:Int}(h:e.ok=true)(he:turns e.typ=true)(ht:turns t=true):(Ent.mk t e.owner e.refs e.state e.aD).ok=true:=by
 have h1:=Ent.cB h
 have h2:e.typ=4∨e.typ=5∨e.typ=6:=by simpa [turns,or_assoc]using he
 have h3:t=4∨t=5∨t=6:=by simpa [turns,or_assoc]using ht
 simp only [Ent.ok,decide_eq_true_eq]
 refine⟨by omega,by omega,by omega,by omega,by omega,by omega,by omega,by omega,by omega,fun _=>h1.2.2.2.2.2.2.2.2.2 (by omega)⟩
theorem lW {e:Ent} {k:Int}(h:e.ok=true)(he:e.typ=1)(hk:0≤e.refs+k∧e.refs+k≤63):(Ent.mk e.typ e.owner (e.refs+k) e.state e.aD).ok=true:=by
 have h1:=Ent.cB h
 simp only [Ent.ok,decide_eq_true_eq]
 refine⟨by omega,by omega,by omega,by omega,by omega,by omega,by omega,by omega,by omega,fun _=>h1.2.2.2.2.2.2.2.2.2 (by omega)⟩
theorem GQ {e:Ent} {s:Int}(h:e.ok=true)(he:e.typ=1)(hs:1≤s∧s≤3):(Ent.mk e.typ e.owner e.refs s e.aD).ok=true:=by
 have h1:=Ent.cB h
 simp only [Ent.ok,decide_eq_true_eq]
 refine⟨by omega,by omega,by omega,by omega,by omega,by omega,by omega,by omega,by omega,fun _=>h1.2.2.2.2.2.2.2.2.2 (by omega)⟩
theorem pN {e:Ent} {b:Bool}(h:e.ok=true)(he:e.typ=2):(Ent.mk e.typ e.owner e.refs e.state b).ok=true:=by
 have h1:=Ent.cB h
 simp only [Ent.ok,decide_eq_true_eq]
 refine⟨by omega,by omega,by omega,by omega,by omega,by omega,by omega,by omega,by omega,fun h=>absurd he h⟩
theorem Ok.at_ {d:DB}(h:d.Ok) {p:Int}(hp:d.has p=true):(d.at_ p).ok=true∧(d.at_ p).owner<d.S∧0≤(d.at_ p).owner:=
 ⟨(h.ent _ (dF hp)).1,(h.ent _ (dF hp)).2,(Ent.cB (h.ent _ (dF hp)).1).2.2.1⟩
end DB
end Go.Proofs.YtbjlecpmgocoeaaGreatDoor
end
section
namespace Go.Proofs.YtbjlecpmgocoeaaGreatDoor
open Go Go.RowKit V
open Go.IntKind (i64 u32 u64)
structure dy where
 g:Nat
 a:Nat
 M:fe
def dy.X(L:dy):Nat→Prop:=fun k=>k=L.g∨k=L.a∨L.M.X k
abbrev DB.n2(D:DB):Nat:=2*D.mem.S
structure DBP(w:World)(L:dy)(D:DB):Prop where
 hd:∃T,Blk w L.g #[.pointer (some (Addr.mk L.M.g 0 none)),.int .i64 D.aw,.slice (some (Addr.mk L.a 0 none)) D.n2 D.n2] T
 ws:∃T cs,Blk w L.a cs T∧cs.size=D.n2∧∀p,p<D.S→cs[2*p]? =some (.int .u32 (D.ent p).w0)∧cs[2*p+1]? =some (.int .u32 (D.ent p).w1)
 mem:cP w L.M D.mem
 ok:D.Ok
 dis:L.a≠L.g∧¬L.M.X L.g∧¬L.M.X L.a
section
variable {w w' w2:World} {L:dy} {D:DB} {Y:Nat→Prop}
theorem DBP.lt(h:DBP w L D):∀k,L.X k→k<w.heap.size:=by
 rintro k (rfl | rfl | hk)
 ·obtain⟨T,hd⟩:=h.hd;exact hd.lt
 ·obtain⟨T,cs,hr,_⟩:=h.ws;exact hr.lt
 ·exact h.mem.lt k hk
theorem DBP.ch(h:DBP w L D)(hk:Ch Y w w')(hb:∀k,L.X k→¬Y k):DBP w' L D:=by
 refine⟨?_,?_,h.mem.ch hk fun k hx=>hb k (.inr (.inr hx)),h.ok,h.dis⟩
 ·obtain⟨T,hd⟩:=h.hd;exact⟨T,hk.blk hd (hb _ (.inl rfl))⟩
 ·obtain⟨T,cs,hr,h2⟩:=h.ws;exact⟨T,cs,hk.blk hr (hb _ (.inr (.inl rfl))),h2⟩
theorem DBP.pu(h:DBP w L D)(hk:Pu w w'):DBP w' L D:=h.ch hk (by simp)
theorem DBP.S64(h:DBP w L D):D.S≤64:=h.mem.dC.1
theorem DBP.dE(h:DBP w L D) {m:Mem}(hm:cP w' L.M m)(hc:Ch L.M.X w w')(hs:m.S=D.mem.S):DBP w' L (D.aN m):=by
 refine⟨?_,?_,hm,⟨fun p hp=>?_,h.ok.aw⟩,h.dis⟩
 ·obtain⟨T,hd⟩:=h.hd
  refine⟨T,?_⟩
  show Blk w' L.g #[_,_,.slice _ (2*m.S) (2*m.S)] T
  rw [hs];exact hc.blk hd h.dis.2.1
 ·obtain⟨T,cs,hr,h2⟩:=h.ws
  refine⟨T,cs,hc.blk hr h.dis.2.2,?_⟩
  show cs.size=2*m.S∧∀p,p<m.S→_
  rw [hs];exact h2
 ·have hp':p<m.S:=hp
  rw [hs]at hp'
  have:=h.ok.ent p hp'
  refine⟨this.1,?_⟩
  show _<(m.S:Int)
  rw [hs];exact this.2
theorem DBP.A8(h:DBP w L D) {x:Int} {T:TypeId}(hs:bq w L.g #[.pointer (some (Addr.mk L.M.g 0 none)),.int .i64 x,.slice (some (Addr.mk L.a 0 none)) D.n2 D.n2] T w2)(hx:0≤x∧x≤64):DBP w2 L (D.eN x):=by
 refine⟨⟨T,hs.blk⟩,?_,h.mem.ch hs.ch fun k hk e=>h.dis.2.1 (e▸hk),⟨h.ok.ent,hx⟩,h.dis⟩
 obtain⟨T,cs,hr,h2⟩:=h.ws
 exact⟨T,cs,hs.old hr h.dis.1,h2⟩
theorem DBP.Hj(h:DBP w L D) {p:Int} {e:Ent}(hp:D.has p=true)(he:e.ok=true)(ho:e.owner<D.S) {cs:Array Value} {T:TypeId}(hb:Blk w L.a cs T)(hs:bq w L.a (setAt cs (2*p.toNat) [.int .u32 e.w0,.int .u32 e.w1]) T w2):DBP w2 L (D.set p e):=by
 obtain⟨T',cs',hr,hsz,h2⟩:=h.ws
 obtain⟨rfl,rfl⟩:=hb.inj hr
 have hn:=DB.dF hp
 refine⟨?_,⟨T,_,hs.blk,by rw [eD];exact hsz,fun q hq=>?_⟩,h.mem.ch hs.ch fun k hk e=>h.dis.2.2 (e▸hk),⟨fun q hq=>?_,h.ok.aw⟩,h.dis⟩
 ·obtain⟨T,hd⟩:=h.hd;exact⟨T,hs.old hd h.dis.1.symm⟩
 ·have hl:2*p.toNat+ [Value.int .u32 e.w0,Value.int .u32 e.w1].length≤cs.size:=by
   have h1:D.n2=2*D.S:=rfl
   rw [hsz,h1];simp only [List.length_cons,List.length_nil];omega
  rw [dW _ _ _ _ hl,dW _ _ _ _ hl]
  simp only [DB.set,List.length_cons,List.length_nil]
  by_cases hqp:q=p.toNat
  ·subst hqp
   simp
  ·rw [if_neg (by omega),if_neg (by omega:¬(2*p.toNat≤2*q+1∧2*q+1<2*p.toNat+(0+1+1)))]
   simp only [hqp,if_false]
   exact h2 q hq
 ·simp only [DB.set]
  split
  ·exact⟨he,ho⟩
  ·exact h.ok.ent q hq
theorem Mem.jy(m:Mem)(s:Bool)(p o v:Int):(m.write s p o v).S=m.S:=by unfold Mem.write;split<;>rfl
theorem Mem.uw(m:Mem)(s:Bool)(p:Int):(m.zero s p).S=m.S:=by unfold Mem.zero;split<;>rfl
theorem dy.inM(L:dy)(k:Nat)(h:L.M.X k):L.X k:= .inr (.inr h)
theorem uc(h:DBP w L D)(s:Bool)(p o v:Int)(hv:0≤v∧v<4294967296):
 Calls Tryz.prog 23 #[ptr L.M.g,fr s p,.int .i64 o,.int .u32 v] w fun e w'=>∃u,e= .returned u∧u= .int .i64 (D.mem.err s p o)∧DBP w' L (D.aN (D.mem.write s p o v))∧Ch L.M.X w w':=
 (DC h.mem s p o v hv).mono fun e w' ⟨u,he,hu,hm,hc⟩=>⟨u,he,hu,h.dE hm hc (Mem.jy ..),hc⟩
theorem y0(h:DBP w L D)(s:Bool)(p:Int):
 Calls Tryz.prog 74 #[ptr L.M.g,fr s p] w fun e w'=>∃u,e= .returned u∧u= .int .i64 (D.mem.bC s p)∧DBP w' L (D.aN (D.mem.zero s p))∧Ch L.M.X w w':=
 (GS h.mem s p).mono fun e w' ⟨u,he,hu,hm,hc⟩=>⟨u,he,hu,h.dE hm hc (Mem.uw ..),hc⟩
theorem kg(x:Int):0≤u32.wrap x∧u32.wrap x<4294967296:=by rw [u32_eq];omega
end
end Go.Proofs.YtbjlecpmgocoeaaGreatDoor
end
section
set_option maxRecDepth 100000
namespace Go.Proofs.YtbjlecpmgocoeaaGreatDoor
open Go Go.RowKit V
open Go.IntKind (i64 u32 u64)
open Go.Proofs (Tryz.prog)
def tp(t:Int)(R:ay)(w:World):Prop:=
 ∃J:Bool→World→Prop,(
  split ((t:Int)==4) (
   J true w) (
   split ((t:Int)==5) (
    J true w) (
    J ((t:Int)==6) w)))∧∀(_gv:Nat→Value)(x2:Bool),∀wv,J x2 wv→
 R (.bool x2) wv
def CM:Ann:=(.node none .leaf (.node none (.node (some ⟨[(2,.one (.bool))],[2,3,4,5,6,7,8,9,10,11,12]⟩) .leaf .leaf) .leaf))
theorem DTurns_eq(t:Int)(R:ay)(w:World):tp t R w=vcF Tryz.prog aF [] Tryz.f82 CM [(.int .i64 t)] R none w:=by kernel_rfl
theorem uL(t:Int) {R:ay} {w:World}(h:tp t R w):Calls Tryz.prog 82 #[(.int .i64 t)] w fun e w'=>∃v,e= .returned v∧R v w':=
 ao Tryz.func82 au aa ((DTurns_eq t R w).mp h)
def rh(aq:Int)(R:ay)(w:World):Prop:=
 ∀(gv:Nat)(wv:World),gv=w.heap.size→wv=w.alloc (.cells (#[(.bool false),(.int .i64 0)]) 62)→
 ax wv (Addr.mk gv 0 none) [(.bool true),(.int .i64 aq)] fun wv1=>
 ∃r0a:Bool,∃r0b:Int,(wv1.cell? ((Addr.mk gv 0 none).add 0)=some (.bool r0a)∧wv1.cell? ((Addr.mk gv 0 none).add 1)=some (.int .i64 r0b))∧
 R (.agg #[(.bool r0a),(.int .i64 r0b)]) wv1
def zV:Ann:= .leaf
theorem DSecure_eq(aq:Int)(R:ay)(w:World):rh aq R w=vcF Tryz.prog aF [] Tryz.f75 zV [(.int .i64 aq)] R none w:=by kernel_rfl
theorem rZ(aq:Int) {R:ay} {w:World}(h:rh aq R w):Calls Tryz.prog 75 #[(.int .i64 aq)] w fun e w'=>∃v,e= .returned v∧R v w':=
 ao Tryz.func75 au aa ((DSecure_eq aq R w).mp h)
def tq(d:Option Addr)(R:ay)(w:World):Prop:=
 av d fun p4=>
 ∃x6A:Option Addr,∃x6N:Nat,∃x6C:Nat,w.cell? (p4.add 2)=some (.slice x6A x6N x6C)∧
 R (.int .i64 (i64.wrap ((((x6N:Nat):Int):Int).tdiv 2))) w
def CN:Ann:= .leaf
theorem DPages_eq(d:Option Addr)(R:ay)(w:World):tq d R w=vcF Tryz.prog aF [] Tryz.f18 CN [(.pointer d)] R none w:=by kernel_rfl
theorem mM(d:Option Addr) {R:ay} {w:World}(h:tq d R w):Calls Tryz.prog 18 #[(.pointer d)] w fun e w'=>∃v,e= .returned v∧R v w':=
 ao Tryz.func18 au aa ((DPages_eq d R w).mp h)
def AN(d:Option Addr)(aq:Int)(R:ay)(w:World):Prop:=
 ∃J:Bool→World→Prop,(
  split (decide ((aq:Int)≥0)) (
   Calls Tryz.prog 18 #[(.pointer d)] w fun e wv=>
   ∃x10:Int,e= .returned (.int .i64 x10)∧
   J (decide ((aq:Int)<x10)) wv) (
   J false w))∧∀(_gv:Nat→Value)(x4:Bool),∀wv,J x4 wv→
 R (.bool x4) wv
def GK:Ann:=(.node none .leaf (.node none (.node (some ⟨[(4,.one (.bool))],[4,5,6,7,8,9,10,11,12]⟩) .leaf .leaf) .leaf))
theorem DHas_eq(d:Option Addr)(aq:Int)(R:ay)(w:World):AN d aq R w=vcF Tryz.prog aF [] Tryz.f79 GK [(.pointer d),(.int .i64 aq)] R none w:=by kernel_rfl
theorem rn(d:Option Addr)(aq:Int) {R:ay} {w:World}(h:AN d aq R w):Calls Tryz.prog 79 #[(.pointer d),(.int .i64 aq)] w fun e w'=>∃v,e= .returned v∧R v w':=
 ao Tryz.func79 au aa ((DHas_eq d aq R w).mp h)
def Fi(d:Option Addr)(aq:Int)(R:ay)(w:World):Prop:=
 ∀(gv:Nat)(wv:World),gv=w.heap.size→wv=w.alloc (.cells (#[(.int .i64 0),(.int .i64 0),(.int .i64 0),(.int .i64 0),(.bool false)]) 99)→
 av d fun p9=>
 ∃x11A:Option Addr,∃x11N:Nat,∃x11C:Nat,wv.cell? (p9.add 2)=some (.slice x11A x11N x11C)∧
 (0≤(i64.wrap (2*aq):Int)∧(i64.wrap (2*aq):Int)≤((x11N:Nat):Int))∧
 ∀x14A:Option Addr,x14A=(if x11C=(Int.toNat (i64.wrap (2*aq)))then x11A else(x11A:Option Addr).map (·.add ((Int.toNat (i64.wrap (2*aq)))*1)))→∀x14N:Nat,x14N=x11N - (Int.toNat (i64.wrap (2*aq)))→∀x14C:Nat,x14C=x11C - (Int.toNat (i64.wrap (2*aq)))→
 2≤x14N∧
 av x14A fun p16=>
 ∃x16a:Int,∃x16b:Int,(wv.cell? (p16.add 0)=some (.int .u32 x16a)∧wv.cell? (p16.add 1)=some (.int .u32 x16b))∧
 Calls Tryz.prog 113 #[(.agg #[(.int .u32 x16a),(.int .u32 x16b)])] wv fun e wv1=>
 ∃x17aa:Int,∃x17ab:Int,∃x17ac:Int,∃x17ad:Int,∃x17ae:Bool,∃x17b:Int,e= .returned (.tuple #[(.agg #[(.int .i64 x17aa),(.int .i64 x17ab),(.int .i64 x17ac),(.int .i64 x17ad),(.bool x17ae)]),(.int .i64 x17b)])∧
 ∀(gv1:Nat)(wv2:World),gv1=wv1.heap.size→wv2=wv1.alloc (.cells (#[(.int .i64 0),(.int .i64 0),(.int .i64 0),(.int .i64 0),(.bool false)]) 99)→
 ax wv2 (Addr.mk gv1 0 none) [(.int .i64 x17aa),(.int .i64 x17ab),(.int .i64 x17ac),(.int .i64 x17ad),(.bool x17ae)] fun wv3=>
 ∃x20a:Int,∃x20b:Int,∃x20c:Int,∃x20d:Int,∃x20e:Bool,(wv3.cell? ((Addr.mk gv1 0 none).add 0)=some (.int .i64 x20a)∧wv3.cell? ((Addr.mk gv1 0 none).add 1)=some (.int .i64 x20b)∧wv3.cell? ((Addr.mk gv1 0 none).add 2)=some (.int .i64 x20c)∧wv3.cell? ((Addr.mk gv1 0 none).add 3)=some (.int .i64 x20d)∧wv3.cell? ((Addr.mk gv1 0 none).add 4)=some (.bool x20e))∧
 ax wv3 (Addr.mk gv 0 none) [(.int .i64 x20a),(.int .i64 x20b),(.int .i64 x20c),(.int .i64 x20d),(.bool x20e)] fun wv4=>
 ∃r0a:Int,∃r0b:Int,∃r0c:Int,∃r0d:Int,∃r0e:Bool,(wv4.cell? ((Addr.mk gv 0 none).add 0)=some (.int .i64 r0a)∧wv4.cell? ((Addr.mk gv 0 none).add 1)=some (.int .i64 r0b)∧wv4.cell? ((Addr.mk gv 0 none).add 2)=some (.int .i64 r0c)∧wv4.cell? ((Addr.mk gv 0 none).add 3)=some (.int .i64 r0d)∧wv4.cell? ((Addr.mk gv 0 none).add 4)=some (.bool r0e))∧
 R (.agg #[(.int .i64 r0a),(.int .i64 r0b),(.int .i64 r0c),(.int .i64 r0d),(.bool r0e)]) wv4
def H9:Ann:= .leaf
theorem DAt_eq(d:Option Addr)(aq:Int)(R:ay)(w:World):Fi d aq R w=vcF Tryz.prog aF [] Tryz.f80 H9 [(.pointer d),(.int .i64 aq)] R none w:=by kernel_rfl
theorem CX(d:Option Addr)(aq:Int) {R:ay} {w:World}(h:Fi d aq R w):Calls Tryz.prog 80 #[(.pointer d),(.int .i64 aq)] w fun e w'=>∃v,e= .returned v∧R v w':=
 ao Tryz.func80 au aa ((DAt_eq d aq R w).mp h)
def AL(d:Option Addr)(aq:Int)(ea:Int)(eb:Int)(ec:Int)(ed:Int)(ee:Bool)(R:ay)(w:World):Prop:=
 ∀(gv:Nat)(wv:World),gv=w.heap.size→wv=w.alloc (.cells #[(.int .i64 ea),(.int .i64 eb),(.int .i64 ec),(.int .i64 ed),(.bool ee)] 99)→
 ∃x9a:Int,∃x9b:Int,∃x9c:Int,∃x9d:Int,∃x9e:Bool,(wv.cell? ((Addr.mk gv 0 none).add 0)=some (.int .i64 x9a)∧wv.cell? ((Addr.mk gv 0 none).add 1)=some (.int .i64 x9b)∧wv.cell? ((Addr.mk gv 0 none).add 2)=some (.int .i64 x9c)∧wv.cell? ((Addr.mk gv 0 none).add 3)=some (.int .i64 x9d)∧wv.cell? ((Addr.mk gv 0 none).add 4)=some (.bool x9e))∧
 Calls Tryz.prog 114 #[(.agg #[(.int .i64 x9a),(.int .i64 x9b),(.int .i64 x9c),(.int .i64 x9d),(.bool x9e)])] wv fun e wv1=>
 ∃x10aa:Int,∃x10ab:Int,∃x10b:Int,e= .returned (.tuple #[(.agg #[(.int .u32 x10aa),(.int .u32 x10ab)]),(.int .i64 x10b)])∧
 ∀(gv1:Nat)(wv2:World),gv1=wv1.heap.size→wv2=wv1.alloc (.cells (#[(.int .u32 0),(.int .u32 0)]) 173)→
 ax wv2 (Addr.mk gv1 0 none) [(.int .u32 x10aa),(.int .u32 x10ab)] fun wv3=>
 ∃b:Nat→Nat→Prop,
 av d fun p14=>
 b 3 ((p14.add 2).block)∧
 ∃x16A:Option Addr,∃x16N:Nat,∃x16C:Nat,wv3.drew.cell? (p14.add 2)=some (.slice x16A x16N x16C)∧
 (0≤(i64.wrap (2*aq):Int)∧(i64.wrap (2*aq):Int)≤((x16N:Nat):Int))∧
 ∀x19A:Option Addr,x19A=(if x16C=(Int.toNat (i64.wrap (2*aq)))then x16A else(x16A:Option Addr).map (·.add ((Int.toNat (i64.wrap (2*aq)))*1)))→∀x19N:Nat,x19N=x16N - (Int.toNat (i64.wrap (2*aq)))→∀x19C:Nat,x19C=x16C - (Int.toNat (i64.wrap (2*aq)))→
 ∀x20A:Option Addr,x20A=(some (if 2=0 then Addr.mk gv1 0 none else(Addr.mk gv1 0 none).add (0*1)))→∀x20N:Nat,x20N=2 - 0→∀x20C:Nat,x20C=2 - 0→
 ∃x21:Int,∃wv4,(Builtin.copy_ #[40,40] 3 #[(.slice x19A x19N x19C),(.slice x20A x20N x20C)]:Sem Value).run Tryz.prog wv3.drew= .ok (.int .i64 x21) wv4∧
 Kept (bP b [0,1]) wv3.drew wv4∧∃b1:Nat→Nat→Prop,(∀i k,b i k→b1 i k)∧
 R (.tuple #[]) wv4
def GH:Ann:= .leaf
theorem DSet_eq(d:Option Addr)(aq:Int)(ea:Int)(eb:Int)(ec:Int)(ed:Int)(ee:Bool)(R:ay)(w:World):AL d aq ea eb ec ed ee R w=vcF Tryz.prog aF [] Tryz.f81 GH [(.pointer d),(.int .i64 aq),(.agg #[(.int .i64 ea),(.int .i64 eb),(.int .i64 ec),(.int .i64 ed),(.bool ee)])] R none w:=by kernel_rfl
theorem zU(d:Option Addr)(aq:Int)(ea:Int)(eb:Int)(ec:Int)(ed:Int)(ee:Bool) {R:ay} {w:World}(h:AL d aq ea eb ec ed ee R w):Calls Tryz.prog 81 #[(.pointer d),(.int .i64 aq),(.agg #[(.int .i64 ea),(.int .i64 eb),(.int .i64 ec),(.int .i64 ed),(.bool ee)])] w fun e w'=>∃v,e= .returned v∧R v w':=
 ao Tryz.func81 au aa ((DSet_eq d aq ea eb ec ed ee R w).mp h)
def tu(d:Option Addr)(aq:Int)(R:ay)(w:World):Prop:=
 ∀(gv:Nat)(wv:World),gv=w.heap.size→wv=w.alloc (.cells (#[(.int .i64 0),(.int .i64 0),(.int .i64 0),(.int .i64 0),(.bool false)]) 99)→
 Calls Tryz.prog 79 #[(.pointer d),(.int .i64 aq)] wv fun e wv1=>
 ∃x8:Bool,e= .returned (.bool x8)∧
 split (!x8) (
  ax wv1 (Addr.mk gv 0 none) [(.int .i64 0),(.int .i64 0),(.int .i64 0),(.int .i64 0),(.bool false)] fun wv2=>
  ∃r0a:Int,∃r0b:Int,∃r0c:Int,∃r0d:Int,∃r0e:Bool,(wv2.cell? ((Addr.mk gv 0 none).add 0)=some (.int .i64 r0a)∧wv2.cell? ((Addr.mk gv 0 none).add 1)=some (.int .i64 r0b)∧wv2.cell? ((Addr.mk gv 0 none).add 2)=some (.int .i64 r0c)∧wv2.cell? ((Addr.mk gv 0 none).add 3)=some (.int .i64 r0d)∧wv2.cell? ((Addr.mk gv 0 none).add 4)=some (.bool r0e))∧
  R (.tuple #[(.agg #[(.int .i64 r0a),(.int .i64 r0b),(.int .i64 r0c),(.int .i64 r0d),(.bool r0e)]),(.int .i64 5)]) wv2) (
  Calls Tryz.prog 80 #[(.pointer d),(.int .i64 aq)] wv1 fun e wv2=>
  ∃x13a:Int,∃x13b:Int,∃x13c:Int,∃x13d:Int,∃x13e:Bool,e= .returned (.agg #[(.int .i64 x13a),(.int .i64 x13b),(.int .i64 x13c),(.int .i64 x13d),(.bool x13e)])∧
  ax wv2 (Addr.mk gv 0 none) [(.int .i64 x13a),(.int .i64 x13b),(.int .i64 x13c),(.int .i64 x13d),(.bool x13e)] fun wv3=>
  ∃r0a:Int,∃r0b:Int,∃r0c:Int,∃r0d:Int,∃r0e:Bool,(wv3.cell? ((Addr.mk gv 0 none).add 0)=some (.int .i64 r0a)∧wv3.cell? ((Addr.mk gv 0 none).add 1)=some (.int .i64 r0b)∧wv3.cell? ((Addr.mk gv 0 none).add 2)=some (.int .i64 r0c)∧wv3.cell? ((Addr.mk gv 0 none).add 3)=some (.int .i64 r0d)∧wv3.cell? ((Addr.mk gv 0 none).add 4)=some (.bool r0e))∧
  R (.tuple #[(.agg #[(.int .i64 r0a),(.int .i64 r0b),(.int .i64 r0c),(.int .i64 r0d),(.bool r0e)]),(.int .i64 0)]) wv3)
def CT:Ann:= .leaf
theorem DEntry_eq(d:Option Addr)(aq:Int)(R:ay)(w:World):tu d aq R w=vcF Tryz.prog aF [] Tryz.f49 CT [(.pointer d),(.int .i64 aq)] R none w:=by kernel_rfl
theorem uT(d:Option Addr)(aq:Int) {R:ay} {w:World}(h:tu d aq R w):Calls Tryz.prog 49 #[(.pointer d),(.int .i64 aq)] w fun e w'=>∃v,e= .returned v∧R v w':=
 ao Tryz.func49 au aa ((DEntry_eq d aq R w).mp h)
def oo(d:Option Addr)(aq:Int)(R:ay)(w:World):Prop:=
 ∃J:Bool→World→Prop,(
  Calls Tryz.prog 79 #[(.pointer d),(.int .i64 aq)] w fun e wv=>
  ∃x7:Bool,e= .returned (.bool x7)∧
  split x7 (
   Calls Tryz.prog 80 #[(.pointer d),(.int .i64 aq)] wv fun e wv1=>
   ∃x11a:Int,∃x11b:Int,∃x11c:Int,∃x11d:Int,∃x11e:Bool,e= .returned (.agg #[(.int .i64 x11a),(.int .i64 x11b),(.int .i64 x11c),(.int .i64 x11d),(.bool x11e)])∧
   J ((x11a:Int)==1) wv1) (
   J false wv))∧∀(_gv:Nat→Value)(x4:Bool),∀wv,J x4 wv→
 R (.bool x4) wv
def ye:Ann:=(.node none .leaf (.node none (.node (some ⟨[(4,.one (.bool))],[4,5,6,7,8,9,10,11,12,13,14]⟩) .leaf .leaf) .leaf))
theorem DIsSpace_eq(d:Option Addr)(aq:Int)(R:ay)(w:World):oo d aq R w=vcF Tryz.prog aF [] Tryz.f83 ye [(.pointer d),(.int .i64 aq)] R none w:=by kernel_rfl
theorem rl(d:Option Addr)(aq:Int) {R:ay} {w:World}(h:oo d aq R w):Calls Tryz.prog 83 #[(.pointer d),(.int .i64 aq)] w fun e w'=>∃v,e= .returned v∧R v w':=
 ao Tryz.func83 au aa ((DIsSpace_eq d aq R w).mp h)
def ya(d:Option Addr)(space:Int)(more:Int)(R:ay)(w:World):Prop:=
 Calls Tryz.prog 80 #[(.pointer d),(.int .i64 space)] w fun e wv=>
 ∃x9a:Int,∃x9b:Int,∃x9c:Int,∃x9d:Int,∃x9e:Bool,e= .returned (.agg #[(.int .i64 x9a),(.int .i64 x9b),(.int .i64 x9c),(.int .i64 x9d),(.bool x9e)])∧
 ∀(gv:Nat)(wv1:World),gv=wv.heap.size→wv1=wv.alloc (.cells (#[(.int .i64 0),(.int .i64 0),(.int .i64 0),(.int .i64 0),(.bool false)]) 99)→
 ax wv1 (Addr.mk gv 0 none) [(.int .i64 x9a),(.int .i64 x9b),(.int .i64 x9c),(.int .i64 x9d),(.bool x9e)] fun wv2=>
 ∃x11:Int,wv2.cell? ((Addr.mk gv 0 none).add 2)=some (.int .i64 x11)∧
 ax wv2 ((Addr.mk gv 0 none).add 2) [(.int .i64 (i64.wrap (x11+more)))] fun wv3=>
 ∃x17a:Int,∃x17b:Int,∃x17c:Int,∃x17d:Int,∃x17e:Bool,(wv3.cell? ((Addr.mk gv 0 none).add 0)=some (.int .i64 x17a)∧wv3.cell? ((Addr.mk gv 0 none).add 1)=some (.int .i64 x17b)∧wv3.cell? ((Addr.mk gv 0 none).add 2)=some (.int .i64 x17c)∧wv3.cell? ((Addr.mk gv 0 none).add 3)=some (.int .i64 x17d)∧wv3.cell? ((Addr.mk gv 0 none).add 4)=some (.bool x17e))∧
 Calls Tryz.prog 81 #[(.pointer d),(.int .i64 space),(.agg #[(.int .i64 x17a),(.int .i64 x17b),(.int .i64 x17c),(.int .i64 x17d),(.bool x17e)])] wv3 fun e wv4=>
 e= .returned (.tuple #[])∧
 R (.tuple #[]) wv4
def Fb:Ann:= .leaf
theorem DRefs_eq(d:Option Addr)(space:Int)(more:Int)(R:ay)(w:World):ya d space more R w=vcF Tryz.prog aF [] Tryz.f84 Fb [(.pointer d),(.int .i64 space),(.int .i64 more)] R none w:=by kernel_rfl
theorem yb(d:Option Addr)(space:Int)(more:Int) {R:ay} {w:World}(h:ya d space more R w):Calls Tryz.prog 84 #[(.pointer d),(.int .i64 space),(.int .i64 more)] w fun e w'=>∃v,e= .returned v∧R v w':=
 ao Tryz.func84 au aa ((DRefs_eq d space more R w).mp h)
def xX(d:Option Addr)(aq:Int)(t:Int)(space:Int)(R:ay)(w:World):Prop:=
 Calls Tryz.prog 79 #[(.pointer d),(.int .i64 aq)] w fun e wv=>
 ∃x12:Bool,e= .returned (.bool x12)∧
 ∀x9:Bool,x9=(!x12)→
 split x9 (
  R (.int .i64 5) wv) (
  ∃J:Bool→World→Prop,(
   split ((t:Int) !=2) (
    Calls Tryz.prog 82 #[(.int .i64 t)] wv fun e wv1=>
    ∃x19:Bool,e= .returned (.bool x19)∧
    ∀x14:Bool,x14=(!x19)→
    J x14 wv1) (
    ∀x14:Bool,x14=false→
    J x14 wv))∧∀(_gv:Nat→Value)(x14:Bool),∀wv1,J x14 wv1→
  split x14 (
   R (.int .i64 124) wv1) (
   ∃J1:Bool→World→Prop,(
    Calls Tryz.prog 83 #[(.pointer d),(.int .i64 space)] wv1 fun e wv2=>
    ∃x25:Bool,e= .returned (.bool x25)∧
    split (!x25) (
     ∀x22:Bool,x22=true→
     J1 x22 wv2) (
     Calls Tryz.prog 80 #[(.pointer d),(.int .i64 space)] wv2 fun e wv3=>
     ∃x30a:Int,∃x30b:Int,∃x30c:Int,∃x30d:Int,∃x30e:Bool,e= .returned (.agg #[(.int .i64 x30a),(.int .i64 x30b),(.int .i64 x30c),(.int .i64 x30d),(.bool x30e)])∧
     ∀x22:Bool,x22=(decide ((x30c:Int)≥63))→
     J1 x22 wv3))∧∀(_gv1:Nat→Value)(x22:Bool),∀wv2,J1 x22 wv2→
   split x22 (
    R (.int .i64 122) wv2) (
    Calls Tryz.prog 80 #[(.pointer d),(.int .i64 aq)] wv2 fun e wv3=>
    ∃x37a:Int,∃x37b:Int,∃x37c:Int,∃x37d:Int,∃x37e:Bool,e= .returned (.agg #[(.int .i64 x37a),(.int .i64 x37b),(.int .i64 x37c),(.int .i64 x37d),(.bool x37e)])∧
    ∀x34:Bool,x34=((x37a:Int) !=0)→
    split x34 (
     R (.int .i64 120) wv3) (
     Calls Tryz.prog 81 #[(.pointer d),(.int .i64 aq),(.agg #[(.int .i64 t),(.int .i64 space),(.int .i64 0),(.int .i64 0),(.bool false)])] wv3 fun e wv4=>
     e= .returned (.tuple #[])∧
     Calls Tryz.prog 84 #[(.pointer d),(.int .i64 space),(.int .i64 1)] wv4 fun e wv5=>
     e= .returned (.tuple #[])∧
     R (.int .i64 0) wv5))))
def Fa:Ann:=(.node none .leaf (.node none (.node none (.node none .leaf (.node none .leaf (.node none (.node (some ⟨[(14,.one (.bool))],[14,15,16,17,18,19,20,21]⟩) .leaf .leaf) (.node none .leaf (.node none (.node (some ⟨[(22,.one (.bool))],[22,23,24,25,26,27,28,29,30,31,32,33]⟩) .leaf .leaf) .leaf))))) .leaf) .leaf))
theorem DTake_eq(d:Option Addr)(aq:Int)(t:Int)(space:Int)(R:ay)(w:World):xX d aq t space R w=vcF Tryz.prog aF [9,14,22,34] Tryz.f34 Fa [(.pointer d),(.int .i64 aq),(.int .i64 t),(.int .i64 space)] R none w:=by kernel_rfl
theorem xY(d:Option Addr)(aq:Int)(t:Int)(space:Int) {R:ay} {w:World}(h:xX d aq t space R w):Calls Tryz.prog 34 #[(.pointer d),(.int .i64 aq),(.int .i64 t),(.int .i64 space)] w fun e w'=>∃v,e= .returned v∧R v w':=
 ao Tryz.func34 au aa ((DTake_eq d aq t space R w).mp h)
def xV(d:Option Addr)(aq:Int)(t:Int)(R:ay)(w:World):Prop:=
 Calls Tryz.prog 79 #[(.pointer d),(.int .i64 aq)] w fun e wv=>
 ∃x10:Bool,e= .returned (.bool x10)∧
 split (!x10) (
  R (.int .i64 5) wv) (
  Calls Tryz.prog 80 #[(.pointer d),(.int .i64 aq)] wv fun e wv1=>
  ∃x14a:Int,∃x14b:Int,∃x14c:Int,∃x14d:Int,∃x14e:Bool,e= .returned (.agg #[(.int .i64 x14a),(.int .i64 x14b),(.int .i64 x14c),(.int .i64 x14d),(.bool x14e)])∧
  ∀(gv:Nat)(wv2:World),gv=wv1.heap.size→wv2=wv1.alloc (.cells (#[(.int .i64 0),(.int .i64 0),(.int .i64 0),(.int .i64 0),(.bool false)]) 99)→
  ax wv2 (Addr.mk gv 0 none) [(.int .i64 x14a),(.int .i64 x14b),(.int .i64 x14c),(.int .i64 x14d),(.bool x14e)] fun wv3=>
  ∃J:Bool→World→Prop,(
   ∃x16:Int,wv3.cell? ((Addr.mk gv 0 none).add 0)=some (.int .i64 x16)∧
   Calls Tryz.prog 82 #[(.int .i64 x16)] wv3 fun e wv4=>
   ∃x17:Bool,e= .returned (.bool x17)∧
   split (!x17) (
    J true wv4) (
    Calls Tryz.prog 82 #[(.int .i64 t)] wv4 fun e wv5=>
    ∃x21:Bool,e= .returned (.bool x21)∧
    J (!x21) wv5))∧∀(_gv1:Nat→Value)(x23:Bool),∀wv4,J x23 wv4→
  split x23 (
   R (.int .i64 124) wv4) (
   ax wv4 ((Addr.mk gv 0 none).add 0) [(.int .i64 t)] fun wv5=>
   ∃x28a:Int,∃x28b:Int,∃x28c:Int,∃x28d:Int,∃x28e:Bool,(wv5.cell? ((Addr.mk gv 0 none).add 0)=some (.int .i64 x28a)∧wv5.cell? ((Addr.mk gv 0 none).add 1)=some (.int .i64 x28b)∧wv5.cell? ((Addr.mk gv 0 none).add 2)=some (.int .i64 x28c)∧wv5.cell? ((Addr.mk gv 0 none).add 3)=some (.int .i64 x28d)∧wv5.cell? ((Addr.mk gv 0 none).add 4)=some (.bool x28e))∧
   Calls Tryz.prog 81 #[(.pointer d),(.int .i64 aq),(.agg #[(.int .i64 x28a),(.int .i64 x28b),(.int .i64 x28c),(.int .i64 x28d),(.bool x28e)])] wv5 fun e wv6=>
   e= .returned (.tuple #[])∧
   ∃b:Nat→Nat→Prop,
   av d fun p31=>
   b 3 ((p31.add 0).block)∧
   ∃x33:Option Addr,wv6.drew.cell? (p31.add 0)=some (.pointer x33)∧
   Calls Tryz.prog 75 #[(.int .i64 aq)] wv6.drew fun e wv7=>
   ∃x35a:Bool,∃x35b:Int,e= .returned (.agg #[(.bool x35a),(.int .i64 x35b)])∧
   Kept (bP b [0,1,2,3]) wv6.drew wv7∧∃b1:Nat→Nat→Prop,(∀i k,b i k→b1 i k)∧
   Calls Tryz.prog 74 #[(.pointer x33),(.agg #[(.bool x35a),(.int .i64 x35b)])] wv7 fun e wv8=>
   ∃x36:Int,e= .returned (.int .i64 x36)∧
   Kept (bP b1 [0]) wv7 wv8∧∃b2:Nat→Nat→Prop,(∀i k,b1 i k→b2 i k)∧
   R (.int .i64 x36) wv8))
def E9:Ann:=(.node none .leaf (.node none .leaf (.node none .leaf (.node none (.node none (.node (some ⟨[(23,.one (.bool))],[15,16,17,18,19,20,21,22,23]⟩) .leaf .leaf) .leaf) .leaf))))
theorem DTurn_eq(d:Option Addr)(aq:Int)(t:Int)(R:ay)(w:World):xV d aq t R w=vcF Tryz.prog aF [] Tryz.f36 E9 [(.pointer d),(.int .i64 aq),(.int .i64 t)] R none w:=by kernel_rfl
theorem xW(d:Option Addr)(aq:Int)(t:Int) {R:ay} {w:World}(h:xV d aq t R w):Calls Tryz.prog 36 #[(.pointer d),(.int .i64 aq),(.int .i64 t)] w fun e w'=>∃v,e= .returned v∧R v w':=
 ao Tryz.func36 au aa ((DTurn_eq d aq t R w).mp h)
def mK(d:Option Addr)(space:Int)(s:Int)(R:ay)(w:World):Prop:=
 Calls Tryz.prog 79 #[(.pointer d),(.int .i64 space)] w fun e wv=>
 ∃x10:Bool,e= .returned (.bool x10)∧
 split (!x10) (
  R (.int .i64 5) wv) (
  Calls Tryz.prog 80 #[(.pointer d),(.int .i64 space)] wv fun e wv1=>
  ∃x14a:Int,∃x14b:Int,∃x14c:Int,∃x14d:Int,∃x14e:Bool,e= .returned (.agg #[(.int .i64 x14a),(.int .i64 x14b),(.int .i64 x14c),(.int .i64 x14d),(.bool x14e)])∧
  ∀(gv:Nat)(wv2:World),gv=wv1.heap.size→wv2=wv1.alloc (.cells (#[(.int .i64 0),(.int .i64 0),(.int .i64 0),(.int .i64 0),(.bool false)]) 99)→
  ax wv2 (Addr.mk gv 0 none) [(.int .i64 x14a),(.int .i64 x14b),(.int .i64 x14c),(.int .i64 x14d),(.bool x14e)] fun wv3=>
  ∃x17:Int,wv3.cell? ((Addr.mk gv 0 none).add 0)=some (.int .i64 x17)∧
  ∀x15:Bool,x15=((x17:Int) !=1)→
  split x15 (
   R (.int .i64 124) wv3) (
   ∃J:Bool→World→Prop,(
    split ((s:Int) !=3) (
     ∃x24:Int,wv3.cell? ((Addr.mk gv 0 none).add 3)=some (.int .i64 x24)∧
     split ((x24:Int) !=1) (
      ∀x19:Bool,x19=true→
      J x19 wv3) (
      ∀x19:Bool,x19=((s:Int) !=2)→
      J x19 wv3)) (
     ∀x19:Bool,x19=false→
     J x19 wv3))∧∀(_gv1:Nat→Value)(x19:Bool),∀wv4,J x19 wv4→
   split x19 (
    R (.int .i64 3) wv4) (
    ax wv4 ((Addr.mk gv 0 none).add 3) [(.int .i64 s)] fun wv5=>
    ∃x35a:Int,∃x35b:Int,∃x35c:Int,∃x35d:Int,∃x35e:Bool,(wv5.cell? ((Addr.mk gv 0 none).add 0)=some (.int .i64 x35a)∧wv5.cell? ((Addr.mk gv 0 none).add 1)=some (.int .i64 x35b)∧wv5.cell? ((Addr.mk gv 0 none).add 2)=some (.int .i64 x35c)∧wv5.cell? ((Addr.mk gv 0 none).add 3)=some (.int .i64 x35d)∧wv5.cell? ((Addr.mk gv 0 none).add 4)=some (.bool x35e))∧
    Calls Tryz.prog 81 #[(.pointer d),(.int .i64 space),(.agg #[(.int .i64 x35a),(.int .i64 x35b),(.int .i64 x35c),(.int .i64 x35d),(.bool x35e)])] wv5 fun e wv6=>
    e= .returned (.tuple #[])∧
    R (.int .i64 0) wv6)))
def uP:Ann:=(.node none .leaf (.node none .leaf (.node none .leaf (.node none (.node none (.node none .leaf (.node none .leaf (.node none (.node (some ⟨[(19,.one (.bool))],[19,20,21,22,23,24,25,26,27,28,29,30]⟩) .leaf .leaf) .leaf))) .leaf) .leaf))))
theorem DSetState_eq(d:Option Addr)(space:Int)(s:Int)(R:ay)(w:World):mK d space s R w=vcF Tryz.prog aF [15,19] Tryz.f40 uP [(.pointer d),(.int .i64 space),(.int .i64 s)] R none w:=by kernel_rfl
theorem oE(d:Option Addr)(space:Int)(s:Int) {R:ay} {w:World}(h:mK d space s R w):Calls Tryz.prog 40 #[(.pointer d),(.int .i64 space),(.int .i64 s)] w fun e w'=>∃v,e= .returned v∧R v w':=
 ao Tryz.func40 au aa ((DSetState_eq d space s R w).mp h)
def kd(d:Option Addr)(thread:Int)(on:Bool)(R:ay)(w:World):Prop:=
 Calls Tryz.prog 79 #[(.pointer d),(.int .i64 thread)] w fun e wv=>
 ∃x10:Bool,e= .returned (.bool x10)∧
 split (!x10) (
  R (.int .i64 5) wv) (
  Calls Tryz.prog 80 #[(.pointer d),(.int .i64 thread)] wv fun e wv1=>
  ∃x14a:Int,∃x14b:Int,∃x14c:Int,∃x14d:Int,∃x14e:Bool,e= .returned (.agg #[(.int .i64 x14a),(.int .i64 x14b),(.int .i64 x14c),(.int .i64 x14d),(.bool x14e)])∧
  ∀(gv:Nat)(wv2:World),gv=wv1.heap.size→wv2=wv1.alloc (.cells (#[(.int .i64 0),(.int .i64 0),(.int .i64 0),(.int .i64 0),(.bool false)]) 99)→
  ax wv2 (Addr.mk gv 0 none) [(.int .i64 x14a),(.int .i64 x14b),(.int .i64 x14c),(.int .i64 x14d),(.bool x14e)] fun wv3=>
  ∃x16:Int,wv3.cell? ((Addr.mk gv 0 none).add 0)=some (.int .i64 x16)∧
  split ((x16:Int) !=2) (
   R (.int .i64 124) wv3) (
   ax wv3 ((Addr.mk gv 0 none).add 4) [(.bool on)] fun wv4=>
   ∃x22a:Int,∃x22b:Int,∃x22c:Int,∃x22d:Int,∃x22e:Bool,(wv4.cell? ((Addr.mk gv 0 none).add 0)=some (.int .i64 x22a)∧wv4.cell? ((Addr.mk gv 0 none).add 1)=some (.int .i64 x22b)∧wv4.cell? ((Addr.mk gv 0 none).add 2)=some (.int .i64 x22c)∧wv4.cell? ((Addr.mk gv 0 none).add 3)=some (.int .i64 x22d)∧wv4.cell? ((Addr.mk gv 0 none).add 4)=some (.bool x22e))∧
   Calls Tryz.prog 81 #[(.pointer d),(.int .i64 thread),(.agg #[(.int .i64 x22a),(.int .i64 x22b),(.int .i64 x22c),(.int .i64 x22d),(.bool x22e)])] wv4 fun e wv5=>
   e= .returned (.tuple #[])∧
   R (.int .i64 0) wv5))
def rf:Ann:= .leaf
theorem DSetEntered_eq(d:Option Addr)(thread:Int)(on:Bool)(R:ay)(w:World):kd d thread on R w=vcF Tryz.prog aF [] Tryz.f42 rf [(.pointer d),(.int .i64 thread),(.bool on)] R none w:=by kernel_rfl
theorem mL(d:Option Addr)(thread:Int)(on:Bool) {R:ay} {w:World}(h:kd d thread on R w):Calls Tryz.prog 42 #[(.pointer d),(.int .i64 thread),(.bool on)] w fun e w'=>∃v,e= .returned v∧R v w':=
 ao Tryz.func42 au aa ((DSetEntered_eq d thread on R w).mp h)
def yf(d:Option Addr)(aq:Int)(R:ay)(w:World):Prop:=
 Calls Tryz.prog 79 #[(.pointer d),(.int .i64 aq)] w fun e wv=>
 ∃x8:Bool,e= .returned (.bool x8)∧
 split (!x8) (
  R (.int .i64 5) wv) (
  Calls Tryz.prog 80 #[(.pointer d),(.int .i64 aq)] wv fun e wv1=>
  ∃x12a:Int,∃x12b:Int,∃x12c:Int,∃x12d:Int,∃x12e:Bool,e= .returned (.agg #[(.int .i64 x12a),(.int .i64 x12b),(.int .i64 x12c),(.int .i64 x12d),(.bool x12e)])∧
  ∀(gv:Nat)(wv2:World),gv=wv1.heap.size→wv2=wv1.alloc (.cells (#[(.int .i64 0),(.int .i64 0),(.int .i64 0),(.int .i64 0),(.bool false)]) 99)→
  ax wv2 (Addr.mk gv 0 none) [(.int .i64 x12a),(.int .i64 x12b),(.int .i64 x12c),(.int .i64 x12d),(.bool x12e)] fun wv3=>
  ∃x15:Int,wv3.cell? ((Addr.mk gv 0 none).add 0)=some (.int .i64 x15)∧
  ∀x13:Bool,x13=((x15:Int)==0)→
  split x13 (
   R (.int .i64 121) wv3) (
   ∃J:Bool→World→Prop,(
    ∃x19:Int,wv3.cell? ((Addr.mk gv 0 none).add 0)=some (.int .i64 x19)∧
    split ((x19:Int)==1) (
     ∃x23:Int,wv3.cell? ((Addr.mk gv 0 none).add 2)=some (.int .i64 x23)∧
     ∀x17:Bool,x17=(decide ((x23:Int)>0))→
     J x17 wv3) (
     ∀x17:Bool,x17=false→
     J x17 wv3))∧∀(_gv1:Nat→Value)(x17:Bool),∀wv4,J x17 wv4→
   split x17 (
    R (.int .i64 123) wv4) (
    Calls Tryz.prog 81 #[(.pointer d),(.int .i64 aq),(.agg #[(.int .i64 0),(.int .i64 0),(.int .i64 0),(.int .i64 0),(.bool false)])] wv4 fun e wv5=>
    e= .returned (.tuple #[])∧
    ∃J1:Bool→World→Prop,(
     ∃x31:Int,wv5.cell? ((Addr.mk gv 0 none).add 0)=some (.int .i64 x31)∧
     split ((x31:Int) !=1) (
      ∃x36:Int,wv5.cell? ((Addr.mk gv 0 none).add 1)=some (.int .i64 x36)∧
      Calls Tryz.prog 83 #[(.pointer d),(.int .i64 x36)] wv5 fun e wv6=>
      ∃x37:Bool,e= .returned (.bool x37)∧
      split x37 (
       ∃x42:Int,wv6.cell? ((Addr.mk gv 0 none).add 1)=some (.int .i64 x42)∧
       Calls Tryz.prog 80 #[(.pointer d),(.int .i64 x42)] wv6 fun e wv7=>
       ∃x43a:Int,∃x43b:Int,∃x43c:Int,∃x43d:Int,∃x43e:Bool,e= .returned (.agg #[(.int .i64 x43a),(.int .i64 x43b),(.int .i64 x43c),(.int .i64 x43d),(.bool x43e)])∧
       J1 (decide ((x43c:Int)>0)) wv7) (
       J1 false wv6)) (
      J1 false wv5))∧∀(_gv2:Nat→Value)(x46:Bool),∀wv6,J1 x46 wv6→
    split x46 (
     ∃x49:Int,wv6.cell? ((Addr.mk gv 0 none).add 1)=some (.int .i64 x49)∧
     Calls Tryz.prog 84 #[(.pointer d),(.int .i64 x49),(.int .i64 (-1))] wv6 fun e wv7=>
     e= .returned (.tuple #[])∧
     ∃b:Nat→Nat→Prop,
     av d fun p52=>
     b 3 ((p52.add 0).block)∧
     ∃x54:Option Addr,wv7.drew.cell? (p52.add 0)=some (.pointer x54)∧
     Calls Tryz.prog 75 #[(.int .i64 aq)] wv7.drew fun e wv8=>
     ∃x56a:Bool,∃x56b:Int,e= .returned (.agg #[(.bool x56a),(.int .i64 x56b)])∧
     Kept (bP b [0,1,2,3]) wv7.drew wv8∧∃b1:Nat→Nat→Prop,(∀i k,b i k→b1 i k)∧
     Calls Tryz.prog 74 #[(.pointer x54),(.agg #[(.bool x56a),(.int .i64 x56b)])] wv8 fun e wv9=>
     ∃x57:Int,e= .returned (.int .i64 x57)∧
     Kept (bP b1 [0]) wv8 wv9∧∃b2:Nat→Nat→Prop,(∀i k,b1 i k→b2 i k)∧
     R (.int .i64 x57) wv9) (
     ∃b:Nat→Nat→Prop,
     av d fun p52=>
     b 3 ((p52.add 0).block)∧
     ∃x54:Option Addr,wv6.drew.cell? (p52.add 0)=some (.pointer x54)∧
     Calls Tryz.prog 75 #[(.int .i64 aq)] wv6.drew fun e wv7=>
     ∃x56a:Bool,∃x56b:Int,e= .returned (.agg #[(.bool x56a),(.int .i64 x56b)])∧
     Kept (bP b [0,1,2,3]) wv6.drew wv7∧∃b1:Nat→Nat→Prop,(∀i k,b i k→b1 i k)∧
     Calls Tryz.prog 74 #[(.pointer x54),(.agg #[(.bool x56a),(.int .i64 x56b)])] wv7 fun e wv8=>
     ∃x57:Int,e= .returned (.int .i64 x57)∧
     Kept (bP b1 [0]) wv7 wv8∧∃b2:Nat→Nat→Prop,(∀i k,b1 i k→b2 i k)∧
     R (.int .i64 x57) wv8))))
def Fg:Ann:=(.node none .leaf (.node none .leaf (.node none .leaf (.node none (.node none (.node none .leaf (.node none .leaf (.node none (.node (some ⟨[(17,.one (.bool))],[17,18,19,20,21,22,23,24,25]⟩) .leaf .leaf) .leaf))) .leaf) (.node none .leaf (.node none (.node none (.node (some ⟨[(46,.one (.bool))],[30,31,32,33,34,35,36,37,38,39,40,41,42,43,44,45,46]⟩) .leaf .leaf) .leaf) .leaf))))))
theorem DGive_eq(d:Option Addr)(aq:Int)(R:ay)(w:World):yf d aq R w=vcF Tryz.prog aF [13,17] Tryz.f38 Fg [(.pointer d),(.int .i64 aq)] R none w:=by kernel_rfl
theorem yg(d:Option Addr)(aq:Int) {R:ay} {w:World}(h:yf d aq R w):Calls Tryz.prog 38 #[(.pointer d),(.int .i64 aq)] w fun e w'=>∃v,e= .returned v∧R v w':=
 ao Tryz.func38 au aa ((DGive_eq d aq R w).mp h)
def kS(d:Option Addr)(space:Int)(first:Int)(R:ay)(w:World):Prop:=
 ∃J:Bool→World→Prop,(
  Calls Tryz.prog 79 #[(.pointer d),(.int .i64 space)] w fun e wv=>
  ∃x10:Bool,e= .returned (.bool x10)∧
  split (!x10) (
   ∀x7:Bool,x7=true→
   J x7 wv) (
   Calls Tryz.prog 79 #[(.pointer d),(.int .i64 first)] wv fun e wv1=>
   ∃x15:Bool,e= .returned (.bool x15)∧
   ∀x7:Bool,x7=(!x15)→
   J x7 wv1))∧∀(_gv:Nat→Value)(x7:Bool),∀wv,J x7 wv→
 split x7 (
  R (.int .i64 5) wv) (
  ∀x18:Bool,x18=((space:Int)==first)→
  split x18 (
   R (.int .i64 1) wv) (
   ∃J1:Bool→World→Prop,(
    Calls Tryz.prog 80 #[(.pointer d),(.int .i64 space)] wv fun e wv1=>
    ∃x25a:Int,∃x25b:Int,∃x25c:Int,∃x25d:Int,∃x25e:Bool,e= .returned (.agg #[(.int .i64 x25a),(.int .i64 x25b),(.int .i64 x25c),(.int .i64 x25d),(.bool x25e)])∧
    split ((x25a:Int) !=0) (
     ∀x22:Bool,x22=true→
     J1 x22 wv1) (
     Calls Tryz.prog 80 #[(.pointer d),(.int .i64 first)] wv1 fun e wv2=>
     ∃x31a:Int,∃x31b:Int,∃x31c:Int,∃x31d:Int,∃x31e:Bool,e= .returned (.agg #[(.int .i64 x31a),(.int .i64 x31b),(.int .i64 x31c),(.int .i64 x31d),(.bool x31e)])∧
     ∀x22:Bool,x22=((x31a:Int) !=0)→
     J1 x22 wv2))∧∀(_gv1:Nat→Value)(x22:Bool),∀wv1,J1 x22 wv1→
   split x22 (
    R (.int .i64 120) wv1) (
    av d fun p37=>
    ∃x39:Int,wv1.cell? (p37.add 1)=some (.int .i64 x39)∧
    ∀x35:Bool,x35=(decide ((x39:Int)≥64))→
    split x35 (
     R (.int .i64 240) wv1) (
     Calls Tryz.prog 81 #[(.pointer d),(.int .i64 space),(.agg #[(.int .i64 1),(.int .i64 space),(.int .i64 1),(.int .i64 1),(.bool false)])] wv1 fun e wv2=>
     e= .returned (.tuple #[])∧
     Calls Tryz.prog 81 #[(.pointer d),(.int .i64 first),(.agg #[(.int .i64 3),(.int .i64 space),(.int .i64 0),(.int .i64 0),(.bool false)])] wv2 fun e wv3=>
     e= .returned (.tuple #[])∧
     ∃b:Nat→Nat→Prop,
     av d fun p52=>
     b 3 ((p52.add 0).block)∧
     ∃x54:Option Addr,wv3.drew.cell? (p52.add 0)=some (.pointer x54)∧
     Calls Tryz.prog 75 #[(.int .i64 space)] wv3.drew fun e wv4=>
     ∃x56a:Bool,∃x56b:Int,e= .returned (.agg #[(.bool x56a),(.int .i64 x56b)])∧
     Kept (bP b [0,1,2,3,6,7]) wv3.drew wv4∧∃b1:Nat→Nat→Prop,(∀i k,b i k→b1 i k)∧
     Calls Tryz.prog 23 #[(.pointer x54),(.agg #[(.bool x56a),(.int .i64 x56b)]),(.int .i64 0),(.int .u32 (u32.wrap first))] wv4 fun e wv5=>
     ∃x59:Int,e= .returned (.int .i64 x59)∧
     Kept (bP b1 [0]) wv4 wv5∧∃b2:Nat→Nat→Prop,(∀i k,b1 i k→b2 i k)∧
     ∃b3:Nat→Nat→Prop,
     av d fun p61=>
     b3 3 ((p61.add 0).block)∧
     ∃x63:Option Addr,wv5.drew.cell? (p61.add 0)=some (.pointer x63)∧
     av d fun p67=>
     b3 9 ((p67.add 1).block)∧
     ∃x69:Int,wv5.drew.cell? (p67.add 1)=some (.int .i64 x69)∧
     Calls Tryz.prog 75 #[(.int .i64 space)] wv5.drew fun e wv6=>
     ∃x65a:Bool,∃x65b:Int,e= .returned (.agg #[(.bool x65a),(.int .i64 x65b)])∧
     Kept (bP b3 [0,1,2,3,6,7,8,9,10]) wv5.drew wv6∧∃b4:Nat→Nat→Prop,(∀i k,b3 i k→b4 i k)∧
     Calls Tryz.prog 23 #[(.pointer x63),(.agg #[(.bool x65a),(.int .i64 x65b)]),(.int .i64 1),(.int .u32 (u32.wrap x69))] wv6 fun e wv7=>
     ∃x71:Int,e= .returned (.int .i64 x71)∧
     Kept (bP b4 [0,6,7]) wv6 wv7∧∃b5:Nat→Nat→Prop,(∀i k,b4 i k→b5 i k)∧
     ∃b6:Nat→Nat→Prop,
     av d fun p73=>
     b6 3 ((p73.add 0).block)∧
     ∃x75:Option Addr,wv7.drew.cell? (p73.add 0)=some (.pointer x75)∧
     Calls Tryz.prog 75 #[(.int .i64 space)] wv7.drew fun e wv8=>
     ∃x77a:Bool,∃x77b:Int,e= .returned (.agg #[(.bool x77a),(.int .i64 x77b)])∧
     Kept (bP b6 [0,1,2,3]) wv7.drew wv8∧∃b7:Nat→Nat→Prop,(∀i k,b6 i k→b7 i k)∧
     Calls Tryz.prog 23 #[(.pointer x75),(.agg #[(.bool x77a),(.int .i64 x77b)]),(.int .i64 2),(.int .u32 0)] wv8 fun e wv9=>
     ∃x78:Int,e= .returned (.int .i64 x78)∧
     Kept (bP b7 [0]) wv8 wv9∧∃b8:Nat→Nat→Prop,(∀i k,b7 i k→b8 i k)∧
     av d fun p80=>
     ∃x82:Int,wv9.cell? (p80.add 1)=some (.int .i64 x82)∧
     av d fun p84=>
     ax wv9 (p84.add 1) [(.int .i64 (i64.wrap (x82+1)))] fun wv10=>
     R (.int .i64 0) wv10))))
def rW:Ann:=(.node none .leaf (.node none (.node none (.node none (.node (some ⟨[(7,.one (.bool))],[7,8,9,10,11,12,13,14,15,16,17]⟩) .leaf .leaf) (.node none .leaf (.node none .leaf (.node none .leaf (.node none (.node (some ⟨[(22,.one (.bool))],[22,23,24,25,26,27,28,29,30,31,32,33,34]⟩) .leaf .leaf) .leaf))))) .leaf) .leaf))
theorem DTakeSpace_eq(d:Option Addr)(space:Int)(first:Int)(R:ay)(w:World):kS d space first R w=vcF Tryz.prog aF [7,18,22,35] Tryz.f32 rW [(.pointer d),(.int .i64 space),(.int .i64 first)] R none w:=by kernel_rfl
theorem nI(d:Option Addr)(space:Int)(first:Int) {R:ay} {w:World}(h:kS d space first R w):Calls Tryz.prog 32 #[(.pointer d),(.int .i64 space),(.int .i64 first)] w fun e w'=>∃v,e= .returned v∧R v w':=
 ao Tryz.func32 au aa ((DTakeSpace_eq d space first R w).mp h)
end Go.Proofs.YtbjlecpmgocoeaaGreatDoor
end
section
set_option maxRecDepth 100000
namespace Go.Proofs.YtbjlecpmgocoeaaGreatDoor
open Go Go.RowKit V
open Go.IntKind (i64 u32 u64)
open Go.Proofs (Tryz.prog)
def tg(aY:Int)(insecure:Int)(R:ay)(w:World):Prop:=
 ∃J:Bool→World→Prop,(
  split (decide ((aY:Int)<1)) (
   J true w) (
   split (decide ((aY:Int)>64)) (
    J true w) (
    split (decide ((insecure:Int)<1)) (
     J true w) (
     J (decide ((insecure:Int)>64)) w))))∧∀(_gv:Nat→Value)(x21:Bool),∀wv,J x21 wv→
 split x21 (
  R (.tuple #[(.pointer none),(.int .i64 1)]) wv) (
  ∀(gv1:Nat)(wv1:World),gv1=wv.heap.size→wv1=wv.alloc (.cells #[(.slice none 0 0),(.int .i64 aY),(.int .i64 0)] 115)→
  ∀i:Int,i=0→
  ∃I:Nat→Int→World→Prop,(∃m,I m i wv1)∧∀(m:Nat)(_gv2:Nat→Value)(i1:Int),∀wv2,I m i1 wv2→
  split (decide ((i1:Int)<(i64.wrap (aY+insecure)))) (
   ∃x36A:Option Addr,∃x36N:Nat,∃x36C:Nat,wv2.cell? ((Addr.mk gv1 0 none).add 0)=some (.slice x36A x36N x36C)∧
   ∀(gv3:Nat)(wv3:World),gv3=wv2.heap.size→wv3=wv2.alloc (.cells #[(.slice none 0 0)] 40)→
   ∃x38A:Option Addr,∃x38N:Nat,∃x38C:Nat,∃wv4,(Builtin.append_ #[113,113] 113 #[(.slice x36A x36N x36C),(.slice (some (Addr.mk gv3 0 none)) 1 1)]:Sem Value).run Tryz.prog wv3= .ok (.slice x38A x38N x38C) wv4∧
   ax wv4 ((Addr.mk gv1 0 none).add 0) [(.slice x38A x38N x38C)] fun wv5=>
   ∀i2:Int,i2=(i64.wrap (i1+1))→
   ∃m1,m1<m∧I m1 i2 wv5) (
   R (.tuple #[(.pointer (some (Addr.mk gv1 0 none))),(.int .i64 0)]) wv2))
def Cq:Ann:=(.node none .leaf (.node none (.node none (.node (some ⟨[(21,.one (.bool))],[8,9,10,11,12,13,14,15,16,17,18,19,20,21]⟩) .leaf .leaf) .leaf) (.node none .leaf (.node none (.node none .leaf (.node none (.node (some ⟨[(7,.one (.int .i64))],[7,25,26,27,28,29,30,31,32,33,34,35,36,37,38,39,40]⟩) .leaf .leaf) .leaf)) .leaf))))
theorem R07New_eq(aY:Int)(insecure:Int)(R:ay)(w:World):tg aY insecure R w=vcF Tryz.prog aF [7] Tryz.f30 Cq [(.int .i64 aY),(.int .i64 insecure)] R none w:=by kernel_rfl
theorem uE(aY:Int)(insecure:Int) {R:ay} {w:World}(h:tg aY insecure R w):Calls Tryz.prog 30 #[(.int .i64 aY),(.int .i64 insecure)] w fun e w'=>∃v,e= .returned v∧R v w':=
 ao Tryz.func30 au aa ((R07New_eq aY insecure R w).mp h)
def og(m:Option Addr)(fa:Bool)(fb:Int)(R:ay)(w:World):Prop:=
 ∀(gv:Nat)(wv:World),gv=w.heap.size→wv=w.alloc (.cells #[(.bool fa),(.int .i64 fb)] 69)→
 ∃x6:Int,wv.cell? ((Addr.mk gv 0 none).add 1)=some (.int .i64 x6)∧
 split (decide ((x6:Int)<0)) (
  R (.int .i64 (-1)) wv) (
  ∃x9:Bool,wv.cell? ((Addr.mk gv 0 none).add 0)=some (.bool x9)∧
  split x9 (
   ∃x11:Int,wv.drew.cell? ((Addr.mk gv 0 none).add 1)=some (.int .i64 x11)∧
   av m fun p13=>
   ∃x15:Int,wv.drew.cell? (p13.add 1)=some (.int .i64 x15)∧
   split (decide ((x11:Int)<x15)) (
    ∃x18:Int,wv.drew.cell? ((Addr.mk gv 0 none).add 1)=some (.int .i64 x18)∧
    R (.int .i64 x18) wv.drew) (
    R (.int .i64 (-1)) wv.drew)) (
   ∃x20:Int,wv.drew.cell? ((Addr.mk gv 0 none).add 1)=some (.int .i64 x20)∧
   av m fun p22=>
   ∃x24A:Option Addr,∃x24N:Nat,∃x24C:Nat,wv.drew.cell? (p22.add 0)=some (.slice x24A x24N x24C)∧
   av m fun p27=>
   ∃x29:Int,wv.drew.cell? (p27.add 1)=some (.int .i64 x29)∧
   split (decide ((x20:Int)<(i64.wrap (((x24N:Nat):Int) - x29)))) (
    av m fun p33=>
    ∃x35:Int,wv.drew.drew.cell? (p33.add 1)=some (.int .i64 x35)∧
    ∃x37:Int,wv.drew.drew.cell? ((Addr.mk gv 0 none).add 1)=some (.int .i64 x37)∧
    R (.int .i64 (i64.wrap (x35+x37))) wv.drew.drew) (
    R (.int .i64 (-1)) wv.drew)))
def xw:Ann:= .leaf
theorem R07Place_eq(m:Option Addr)(fa:Bool)(fb:Int)(R:ay)(w:World):og m fa fb R w=vcF Tryz.prog aF [] Tryz.f71 xw [(.pointer m),(.agg #[(.bool fa),(.int .i64 fb)])] R none w:=by kernel_rfl
theorem qN(m:Option Addr)(fa:Bool)(fb:Int) {R:ay} {w:World}(h:og m fa fb R w):Calls Tryz.prog 71 #[(.pointer m),(.agg #[(.bool fa),(.int .i64 fb)])] w fun e w'=>∃v,e= .returned v∧R v w':=
 ao Tryz.func71 au aa ((R07Place_eq m fa fb R w).mp h)
def qK(m:Option Addr)(fa:Bool)(fb:Int)(R:ay)(w:World):Prop:=
 ∀(gv:Nat)(wv:World),gv=w.heap.size→wv=w.alloc (.cells #[(.bool fa),(.int .i64 fb)] 69)→
 ∃x7a:Bool,∃x7b:Int,(wv.cell? ((Addr.mk gv 0 none).add 0)=some (.bool x7a)∧wv.cell? ((Addr.mk gv 0 none).add 1)=some (.int .i64 x7b))∧
 Calls Tryz.prog 71 #[(.pointer m),(.agg #[(.bool x7a),(.int .i64 x7b)])] wv fun e wv1=>
 ∃x8:Int,e= .returned (.int .i64 x8)∧
 split (decide ((x8:Int)<0)) (
  R (.int .i64 5) wv1) (
  av m fun p13=>
  ∃x15:Int,wv1.cell? (p13.add 2)=some (.int .i64 x15)∧
  av m fun p17=>
  ax wv1 (p17.add 2) [(.int .i64 (i64.wrap (x15+1024)))] fun wv2=>
  av m fun p20=>
  ∃x22A:Option Addr,∃x22N:Nat,∃x22C:Nat,wv2.cell? (p20.add 0)=some (.slice x22A x22N x22C)∧
  (0≤(x8:Int)∧(x8:Int)<((x22N:Nat):Int))∧
  av x22A fun p24=>
  ax wv2 (p24.add (Int.toNat x8*1)) [(.slice none 0 0)] fun wv3=>
  R (.int .i64 0) wv3)
def zE:Ann:= .leaf
theorem R07Zero_eq(m:Option Addr)(fa:Bool)(fb:Int)(R:ay)(w:World):qK m fa fb R w=vcF Tryz.prog aF [] Tryz.f77 zE [(.pointer m),(.agg #[(.bool fa),(.int .i64 fb)])] R none w:=by kernel_rfl
theorem rK(m:Option Addr)(fa:Bool)(fb:Int) {R:ay} {w:World}(h:qK m fa fb R w):Calls Tryz.prog 77 #[(.pointer m),(.agg #[(.bool fa),(.int .i64 fb)])] w fun e w'=>∃v,e= .returned v∧R v w':=
 ao Tryz.func77 au aa ((R07Zero_eq m fa fb R w).mp h)
def mF(m:Option Addr)(R:ay)(w:World):Prop:=
 av m fun p4=>
 ∃x6:Int,w.cell? (p4.add 1)=some (.int .i64 x6)∧
 R (.int .i64 x6) w
def uD:Ann:= .leaf
theorem R07Secure_eq(m:Option Addr)(R:ay)(w:World):mF m R w=vcF Tryz.prog aF [] Tryz.f76 uD [(.pointer m)] R none w:=by kernel_rfl
theorem oD(m:Option Addr) {R:ay} {w:World}(h:mF m R w):Calls Tryz.prog 76 #[(.pointer m)] w fun e w'=>∃v,e= .returned v∧R v w':=
 ao Tryz.func76 au aa ((R07Secure_eq m R w).mp h)
def od(m:Option Addr)(fa:Bool)(fb:Int)(off:Int)(v:Int)(R:ay)(w:World):Prop:=
 ∀(gv:Nat)(wv:World),gv=w.heap.size→wv=w.alloc (.cells #[(.bool fa),(.int .i64 fb)] 69)→
 ∃x11a:Bool,∃x11b:Int,(wv.cell? ((Addr.mk gv 0 none).add 0)=some (.bool x11a)∧wv.cell? ((Addr.mk gv 0 none).add 1)=some (.int .i64 x11b))∧
 Calls Tryz.prog 71 #[(.pointer m),(.agg #[(.bool x11a),(.int .i64 x11b)])] wv fun e wv1=>
 ∃x12:Int,e= .returned (.int .i64 x12)∧
 split (decide ((x12:Int)<0)) (
  R (.int .i64 5) wv1) (
  ∃J:Bool→World→Prop,(
   split (decide ((off:Int)<0)) (
    J true wv1) (
    J (decide ((off:Int)≥1024)) wv1))∧∀(_gv1:Nat→Value)(x20:Bool),∀wv2,J x20 wv2→
  split x20 (
   R (.int .i64 70) wv2) (
   av m fun p22=>
   ∃x24:Int,wv2.cell? (p22.add 2)=some (.int .i64 x24)∧
   av m fun p26=>
   ax wv2 (p26.add 2) [(.int .i64 (i64.wrap (x24+1)))] fun wv3=>
   av m fun p29=>
   ∃x31A:Option Addr,∃x31N:Nat,∃x31C:Nat,wv3.cell? (p29.add 0)=some (.slice x31A x31N x31C)∧
   (0≤(x12:Int)∧(x12:Int)<((x31N:Nat):Int))∧
   av x31A fun p33=>
   ∃x34A:Option Addr,∃x34N:Nat,∃x34C:Nat,wv3.cell? (p33.add (Int.toNat x12*1))=some (.slice x34A x34N x34C)∧
   split ((((x34N:Nat):Int):Int)==0) (
    ∃b:Nat→Nat→Prop,
    av m fun p38=>
    b 3 ((p38.add 0).block)∧
    ∃x40A:Option Addr,∃x40N:Nat,∃x40C:Nat,wv3.drew.cell? (p38.add 0)=some (.slice x40A x40N x40C)∧
    ∃x42A:Option Addr,∃x42N:Nat,∃x42C:Nat,∃wv4,(Instr.makeSlice 40 (.int .i64 1024) (.int .i64 1024):Sem Value).run Tryz.prog wv3.drew= .ok (.slice x42A x42N x42C) wv4∧
    Kept (bP b [0,1,2,3,4]) wv3.drew wv4∧∃b1:Nat→Nat→Prop,(∀i k,b i k→b1 i k)∧
    (0≤(x12:Int)∧(x12:Int)<((x40N:Nat):Int))∧
    av x40A fun p43=>
    ax wv4 (p43.add (Int.toNat x12*1)) [(.slice x42A x42N x42C)] fun wv5=>
    ∃b2:Nat→Nat→Prop,(∀i k,b1 i k→b2 i k)∧
    av m fun p45=>
    ∃x47A:Option Addr,∃x47N:Nat,∃x47C:Nat,wv5.cell? (p45.add 0)=some (.slice x47A x47N x47C)∧
    (0≤(x12:Int)∧(x12:Int)<((x47N:Nat):Int))∧
    av x47A fun p49=>
    ∃x50A:Option Addr,∃x50N:Nat,∃x50C:Nat,wv5.cell? (p49.add (Int.toNat x12*1))=some (.slice x50A x50N x50C)∧
    (0≤(off:Int)∧(off:Int)<((x50N:Nat):Int))∧
    av x50A fun p53=>
    ax wv5 (p53.add (Int.toNat off*1)) [(.int .u32 v)] fun wv6=>
    R (.int .i64 0) wv6) (
    av m fun p45=>
    ∃x47A:Option Addr,∃x47N:Nat,∃x47C:Nat,wv3.cell? (p45.add 0)=some (.slice x47A x47N x47C)∧
    (0≤(x12:Int)∧(x12:Int)<((x47N:Nat):Int))∧
    av x47A fun p49=>
    ∃x50A:Option Addr,∃x50N:Nat,∃x50C:Nat,wv3.cell? (p49.add (Int.toNat x12*1))=some (.slice x50A x50N x50C)∧
    (0≤(off:Int)∧(off:Int)<((x50N:Nat):Int))∧
    av x50A fun p53=>
    ax wv3 (p53.add (Int.toNat off*1)) [(.int .u32 v)] fun wv4=>
    R (.int .i64 0) wv4)))
def xv:Ann:=(.node none .leaf (.node none .leaf (.node none .leaf (.node none (.node none (.node (some ⟨[(20,.one (.bool))],[15,16,17,18,19,20]⟩) .leaf .leaf) .leaf) .leaf))))
theorem R07Write_eq(m:Option Addr)(fa:Bool)(fb:Int)(off:Int)(v:Int)(R:ay)(w:World):od m fa fb off v R w=vcF Tryz.prog aF [] Tryz.f25 xv [(.pointer m),(.agg #[(.bool fa),(.int .i64 fb)]),(.int .i64 off),(.int .u32 v)] R none w:=by kernel_rfl
theorem qM(m:Option Addr)(fa:Bool)(fb:Int)(off:Int)(v:Int) {R:ay} {w:World}(h:od m fa fb off v R w):Calls Tryz.prog 25 #[(.pointer m),(.agg #[(.bool fa),(.int .i64 fb)]),(.int .i64 off),(.int .u32 v)] w fun e w'=>∃v,e= .returned v∧R v w':=
 ao Tryz.func25 au aa ((R07Write_eq m fa fb off v R w).mp h)
end Go.Proofs.YtbjlecpmgocoeaaGreatDoor
end
section
namespace Go.Proofs.YtbjlecpmgocoeaaGreatDoor
open Go Go.RowKit V
open Go.IntKind (i64 u32 u64)
namespace Mem
def idx(m:Mem)(s:Bool)(p:Nat):Nat:=match s with
 | true=>p
 | false=>m.S+p
def word(m:Mem)(i o:Nat):Int:=if i<m.S then m.pg true i o else m.pg false (i - m.S) o
def place(m:Mem)(s:Bool)(p:Int):Int:=if m.has s p then(m.idx s p.toNat:Int)else -1
theorem Ao(m:Mem)(p:Nat):m.idx false p=m.S+p:=rfl
theorem Am(m:Mem)(p:Nat):m.idx true p=p:=rfl
theorem IK(m:Mem):m.cnt false=m.I:=rfl
theorem G1(m:Mem):m.cnt true=m.S:=rfl
theorem tz(m:Mem) {i:Nat}(h:i<m.S)(o:Nat):m.word i o=m.pg true i o:=if_pos h
theorem tA(m:Mem) {i:Nat}(h:¬i<m.S)(o:Nat):m.word i o=m.pg false (i - m.S) o:=if_neg h
theorem uX(m:Mem) {s:Bool} {p:Nat}(hp:p<m.cnt s)(o:Nat):m.word (m.idx s p) o=m.pg s p o:=by
 cases s
 ·rw [Ao,tA m (by omega),show m.S+p - m.S=p by omega]
 ·rw [Am,tz m hp]
theorem yT(m:Mem) {s:Bool} {p:Nat}(hp:p<m.cnt s):m.idx s p<m.S+m.I:=by
 cases s
 ·rw [IK]at hp;rw [Ao];omega
 ·rw [G1]at hp;rw [Am];omega
theorem ke(m:Mem) {s:Bool} {p:Nat}(hp:p<m.cnt s)(f:Nat→Int) {i:Nat}(o:Nat):(m.fill s p f).word i o=if i=m.idx s p then f o else m.word i o:=by
 by_cases h:i<m.S
 ·rw [tz _ (show i<(m.fill s p f).S from h),tz m h]
  cases s
  ·rw [Ao,if_neg (by omega)];simp [fill]
  ·rw [Am];simp [fill]
 ·rw [tA _ (show ¬i<(m.fill s p f).S from h),tA m h]
  show(m.fill s p f).pg false (i - m.S) o=_
  cases s
  ·rw [Ao]
   by_cases h2:i=m.S+p
   ·rw [if_pos h2];simp [fill,h2]
   ·rw [if_neg h2];simp only [fill];rw [if_neg (by rintro⟨_,h3⟩;omega)]
  ·rw [Am,if_neg (by rw [G1]at hp;omega)];simp [fill]
end Mem
structure fc where
 g:Nat
 a:Nat
 c:Nat
 n:Nat
 pg:Nat→Option (Nat×Nat)
def FG:Option (Nat×Nat)→Value
 | none=>.slice none 0 0
 | some (b,c)=>.slice (some (Addr.mk b 0 none)) 1024 c
def fc.X(L:fc):Nat→Prop:=fun k=>k=L.g∨k=L.a∨∃i c,i<L.n∧L.pg i=some (k,c)
def PgB(w:World)(b:Nat)(f:Nat→Int):Prop:=∃T cs,Blk w b cs T∧1024≤cs.size∧∀o,o<1024→cs[o]? =some (.int .u32 (f o))
structure bN(w:World)(g:Nat)(L:fc)(m:Mem):Prop where
 gq:L.g=g
 n:L.n=m.S+m.I
 hd:∃T,Blk w L.g #[.slice (some (Addr.mk L.a 0 none)) L.n L.c,.int .i64 m.S,.int .i64 m.jF] T
 row:∃T cs,Blk w L.a cs T∧L.n≤cs.size∧∀i,i<L.n→cs[i]? =some (FG (L.pg i))
 nil:∀i,i<L.n→L.pg i=none→∀o,m.word i o=0
 pgs:∀i b c,i<L.n→L.pg i=some (b,c)→PgB w b (m.word i)
 inj:∀i j b c c',i<L.n→j<L.n→L.pg i=some (b,c)→L.pg j=some (b,c')→i=j
 dis:L.a≠L.g∧∀i b c,i<L.n→L.pg i=some (b,c)→b≠L.g∧b≠L.a
 u32:∀s i o,0≤m.pg s i o∧m.pg s i o<4294967296
 dC:m.S≤64∧m.I≤64
section
variable {w w' w2:World} {g:Nat} {L:fc} {m:Mem} {Y:Nat→Prop}
theorem PgB.lt {b:Nat} {f:Nat→Int}(h:PgB w b f):b<w.heap.size:=by obtain⟨T,cs,hb,_⟩:=h;exact hb.lt
theorem PgB.ch {b:Nat} {f:Nat→Int}(h:PgB w b f)(hk:Ch Y w w')(hb:¬Y b):PgB w' b f:=by obtain⟨T,cs,hc,h2⟩:=h;exact⟨T,cs,hk.blk hc hb,h2⟩
theorem bN.lt(h:bN w g L m):∀k,L.X k→k<w.heap.size:=by
 rintro k (rfl | rfl | ⟨i,c,hi,hp⟩)
 ·obtain⟨T,hd⟩:=h.hd;exact hd.lt
 ·obtain⟨T,cs,hr,_⟩:=h.row;exact hr.lt
 ·exact(h.pgs i k c hi hp).lt
theorem bN.ch(h:bN w g L m)(hk:Ch Y w w')(hb:∀k,L.X k→¬Y k):bN w' g L m:=by
 refine⟨h.gq,h.n,?_,?_,h.nil,fun i b c hi hp=>(h.pgs i b c hi hp).ch hk (hb _ (.inr (.inr ⟨i,c,hi,hp⟩))),h.inj,h.dis,h.u32,h.dC⟩
 ·obtain⟨T,hd⟩:=h.hd;exact⟨T,hk.blk hd (hb _ (.inl rfl))⟩
 ·obtain⟨T,cs,hr,h2⟩:=h.row;exact⟨T,cs,hk.blk hr (hb _ (.inr (.inl rfl))),h2⟩
theorem bN.pu(h:bN w g L m)(hk:Pu w w'):bN w' g L m:=h.ch hk (by simp)
theorem bN.tick(h:bN w g L m) {x:Int} {T:TypeId}(hs:bq w L.g #[.slice (some (Addr.mk L.a 0 none)) L.n L.c,.int .i64 m.S,.int .i64 x] T w2):bN w2 g L {m with jF:=x}:=by
 refine⟨h.gq,h.n,⟨T,hs.blk⟩,?_,h.nil,fun i b c hi hp=>(h.pgs i b c hi hp).ch hs.ch (h.dis.2 i b c hi hp).1,h.inj,h.dis,h.u32,h.dC⟩
 obtain⟨T',cs,hr,h2⟩:=h.row
 exact⟨T',cs,hs.old hr h.dis.1,h2⟩
def fc.put(L:fc)(i:Nat)(v:Option (Nat×Nat)):fc:= {L with pg:=fun j=>if j=i then v else L.pg j}
theorem fc.Ha {L:fc} {i:Nat} {v:Option (Nat×Nat)} {k:Nat}(h:(L.put i v).X k):L.X k∨∃c,v=some (k,c):=by
 rcases h with h | h | ⟨j,c,hj,hp⟩
 ·exact .inl (.inl h)
 ·exact .inl (.inr (.inl h))
 ·simp only [fc.put]at hp
  split at hp
  ·exact .inr ⟨c,hp⟩
  ·exact .inl (.inr (.inr ⟨j,c,hj,hp⟩))
theorem bN.lay(h:bN w g L m) {s:Bool} {p:Nat}(hp:p<m.cnt s) {v:Option (Nat×Nat)} {f:Nat→Int}(hf:∀o,0≤f o∧f o<4294967296)
 (hv:v=none→∀o,f o=0)(hb:∀b c,v=some (b,c)→PgB w b f∧¬L.X b) {cs:Array Value} {T:TypeId}(hr:Blk w L.a cs T)(hs:bq w L.a (setAt cs (m.idx s p) [FG v]) T w2):
 bN w2 g (L.put (m.idx s p) v) (m.fill s p f):=by
 have hi:=m.yT hp
 obtain⟨T',cs',hr',hsz,h2⟩:=h.row
 obtain⟨rfl,rfl⟩:=hr.inj hr'
 have hn:=h.n
 refine⟨h.gq,h.n,?_,⟨T,_,hs.blk,by rw [eD];exact hsz,fun i hi'=>?_⟩,fun i hi' hq o=>?_,fun i b c hi' hq=>?_,fun i j b c c' hi' hj' h3 h4=>?_,⟨h.dis.1,fun i b c hi' hq=>?_⟩,fun s' i o=>?_,h.dC⟩
 ·obtain⟨T'',hd⟩:=h.hd;exact⟨T'',hs.old hd h.dis.1.symm⟩
 ·rw [dW _ _ _ _ (by simp;omega)]
  simp only [fc.put,List.length_cons,List.length_nil]
  by_cases e:i=m.idx s p
  ·subst e;simp
  ·rw [if_neg (by omega),if_neg e];exact h2 i hi'
 ·rw [m.ke hp]
  simp only [fc.put]at hq
  split at hq
  ·rename_i e;rw [if_pos e];exact hv hq o
  ·rename_i e;rw [if_neg e];exact h.nil i hi' hq o
 ·have e0:(m.fill s p f).word i=if i=m.idx s p then f else m.word i:=by
   funext o;rw [m.ke hp];split<;>rfl
  rw [e0]
  simp only [fc.put]at hq
  split at hq
  ·rename_i e;rw [if_pos e];exact(hb b c hq).1.ch hs.ch fun e2=>(hb b c hq).2 (.inr (.inl e2))
  ·rename_i e;rw [if_neg e];exact(h.pgs i b c hi' hq).ch hs.ch (h.dis.2 i b c hi' hq).2
 ·simp only [fc.put]at h3 h4
  split at h3<;>split at h4
  ·omega
  ·exact absurd (.inr (.inr ⟨j,c',hj',h4⟩)) (hb b c h3).2
  ·exact absurd (.inr (.inr ⟨i,c,hi',h3⟩)) (hb b c' h4).2
  ·exact h.inj i j b c c' hi' hj' h3 h4
 ·simp only [fc.put]at hq
  split at hq
  ·have:=(hb b c hq).2
   exact⟨fun e=>this (.inl e),fun e=>this (.inr (.inl e))⟩
  ·exact h.dis.2 i b c hi' hq
 ·simp only [Mem.fill]
  split
  ·exact hf o
  ·exact h.u32 s' i o
theorem bN.I5(h:bN w g L m) {s:Bool} {p:Nat}(hp:p<m.cnt s) {b c:Nat}(hb:L.pg (m.idx s p)=some (b,c)) {f:Nat→Int}(hf:∀o,0≤f o∧f o<4294967296) {cs:Array Value} {T:TypeId}(hsz:1024≤cs.size)(hc:∀o,o<1024→cs[o]? =some (.int .u32 (f o)))
 (hs:bq w b cs T w2):bN w2 g L (m.fill s p f):=by
 have hi:=m.yT hp
 have hn:=h.n
 have hd':=h.dis.2 _ b c (by omega) hb
 refine⟨h.gq,h.n,?_,?_,fun i hi' hq o=>?_,fun i b' c' hi' hq=>?_,h.inj,h.dis,fun s' i o=>?_,h.dC⟩
 ·obtain⟨T'',hd⟩:=h.hd;exact⟨T'',hs.old hd hd'.1.symm⟩
 ·obtain⟨T',cs',hr,h2⟩:=h.row;exact⟨T',cs',hs.old hr hd'.2.symm,h2⟩
 ·rw [m.ke hp]
  by_cases e:i=m.idx s p
  ·subst e;rw [hb]at hq;cases hq
  ·rw [if_neg e];exact h.nil i hi' hq o
 ·have e0:(m.fill s p f).word i=if i=m.idx s p then f else m.word i:=by
   funext o;rw [m.ke hp];split<;>rfl
  rw [e0]
  by_cases e:i=m.idx s p
  ·subst e
   rw [hb]at hq
   injection hq with hq
   injection hq with hq1 hq2
   subst hq1
   rw [if_pos rfl];exact⟨T,cs,hs.blk,hsz,hc⟩
  ·rw [if_neg e]
   exact(h.pgs i b' c' hi' hq).ch hs.ch fun e2=>e (h.inj i _ b' c' c hi' (by omega) hq (e2▸hb))
 ·simp only [Mem.fill]
  split
  ·exact hf o
  ·exact h.u32 s' i o
end
end Go.Proofs.YtbjlecpmgocoeaaGreatDoor
end
section
set_option maxRecDepth 10000
set_option maxHeartbeats 1000000
namespace Go.Proofs.YtbjlecpmgocoeaaGreatDoor
open Go Go.RowKit V
open Go.IntKind (i64 u32 u64)
theorem Bj {g:Nat} {L:fc} {m:Mem} {w:World}(h:bN w g L m):
 Calls Tryz.prog 76 #[(.pointer (some (Addr.mk g 0 none)))] w fun e w'=>∃v,e= .returned v∧v= .int .i64 m.S∧w'=w:=by
 refine oD (some (Addr.mk g 0 none)) ?_
 obtain⟨_,dhd_h⟩:=(by have h9:=h.hd;rwa [h.gq]at h9:∃T,Blk _ _ _ T)
 refine ak _ rfl ⟨_,dhd_h.at rfl,?_⟩
 exact⟨rfl,rfl⟩
theorem vo {g:Nat} {L:fc} {m:Mem} {w:World}(h:bN w g L m)(fa:Bool)(fb:Int):
 Calls Tryz.prog 71 #[(.pointer (some (Addr.mk g 0 none))),(.agg #[(.bool fa),(.int .i64 fb)])] w fun e w'=>∃v,e= .returned v∧v= .int .i64 (m.place fa fb)∧Pu w w':=by
 refine qN (some (Addr.mk g 0 none)) _ _ ?_
 have h1:=h.n
 have h2:=h.dC
 have hp:=Ch.refl (fun _=>False) w
 have lt_h:=h.lt
 refine mkd fun gv wv m_gv=>?_
 have b_gv:=m_gv.blk
 refine⟨_,b_gv.at rfl,?_⟩
 refine aB (fun c1=>?_) (fun c1=>?_)
 ·have hp:=Ch.made hp m_gv
  exact⟨congrArg (Value.int .i64) (by unfold Mem.place Mem.has Mem.cnt Mem.idx;cases fa<;>simp_all [IntKind.wrap_i64]<;>omega),hp⟩
 ·refine⟨_,b_gv.at rfl,?_⟩
  refine ae (fun c2=>?_) (fun c2=>?_)
  ·have b_gv:=Blk.drew b_gv
   have h:=(h.pu m_gv.pu).pu (Pu.aI _)
   obtain⟨_,dhd_h⟩:=(by have h9:=h.hd;rwa [h.gq]at h9:∃T,Blk _ _ _ T)
   refine⟨_,b_gv.at rfl,ak _ rfl ⟨_,dhd_h.at rfl,?_⟩⟩
   refine aB (fun c3=>?_) (fun c3=>?_)
   ·refine⟨_,b_gv.at rfl,?_⟩
    have hp:=Ch.drew (Ch.made hp m_gv)
    exact⟨congrArg (Value.int .i64) (by unfold Mem.place Mem.has Mem.cnt Mem.idx;cases fa<;>simp_all [IntKind.wrap_i64]<;>omega),hp⟩
   ·have hp:=Ch.drew (Ch.made hp m_gv)
    exact⟨congrArg (Value.int .i64) (by unfold Mem.place Mem.has Mem.cnt Mem.idx;cases fa<;>simp_all [IntKind.wrap_i64]<;>omega),hp⟩
  ·have b_gv:=Blk.drew b_gv
   have h:=(h.pu m_gv.pu).pu (Pu.aI _)
   obtain⟨_,dhd_h⟩:=(by have h9:=h.hd;rwa [h.gq]at h9:∃T,Blk _ _ _ T)
   refine⟨_,b_gv.at rfl,ak _ rfl ⟨_,_,_,dhd_h.at rfl,ak _ rfl ⟨_,dhd_h.at rfl,?_⟩⟩⟩
   refine aB (fun c4=>?_) (fun c4=>?_)
   ·refine ak _ rfl ?_
    have dhd_h:=Blk.drew dhd_h
    have b_gv:=Blk.drew b_gv
    refine⟨_,dhd_h.at rfl,⟨_,b_gv.at rfl,?_⟩⟩
    have hp:=Ch.drew (Ch.drew (Ch.made hp m_gv))
    exact⟨congrArg (Value.int .i64) (by unfold Mem.place Mem.has Mem.cnt Mem.idx;cases fa<;>simp_all [IntKind.wrap_i64]<;>omega),hp⟩
   ·have hp:=Ch.drew (Ch.made hp m_gv)
    exact⟨congrArg (Value.int .i64) (by unfold Mem.place Mem.has Mem.cnt Mem.idx;cases fa<;>simp_all [IntKind.wrap_i64]<;>omega),hp⟩
end Go.Proofs.YtbjlecpmgocoeaaGreatDoor
end
section
namespace Go.Proofs.YtbjlecpmgocoeaaGreatDoor
open Go Go.RowKit V
open Go.IntKind (i64 u32 u64)
section
variable {w:World} {g:Nat} {L:fc} {m:Mem}
theorem sk {s:Bool} {p:Int}:(m.place s p<0)↔m.has s p=false:=by
 unfold Mem.place
 cases h:m.has s p
 ·simp
 ·simp
theorem sj {s:Bool} {p:Int}(h:m.has s p=true):m.place s p=(m.idx s p.toNat:Int):=by unfold Mem.place;rw [if_pos h]
theorem bN.slot(h:bN w g L m) {s:Bool} {p:Nat}(hp:p<m.cnt s):∃T cs,Blk w L.a cs T∧L.n≤cs.size∧m.idx s p<L.n∧cs[m.idx s p]? =some (FG (L.pg (m.idx s p))):=by
 obtain⟨T,cs,hr,hsz,h2⟩:=h.row
 have hi:=m.yT hp
 have hn:=h.n
 exact⟨T,cs,hr,hsz,by omega,h2 _ (by omega)⟩
def rV(L L1:fc)(w:World):Prop:=∀k,L1.X k→L.X k∨w.heap.size≤k
theorem rV.refl(L:fc)(w:World):rV L L w:=fun _ h=>.inl h
theorem FE(h:bN w g L m)(s:Bool)(p:Int):
 Calls Tryz.prog 77 #[ptr g,fr s p] w fun e w'=>∃u,e= .returned u∧∃L1,u= .int .i64 (m.bC s p)∧bN w' g L1 (m.zero s p)∧rV L L1 w∧Ch L.X w w':=by
 refine rK _ s p ?_
 refine mkd fun g1 w1 m1=>?_
 refine⟨_,_,⟨m1.blk.at rfl,m1.blk.at rfl⟩,(vo (h.pu m1.pu) s p).mono ?_⟩
 rintro e w2 ⟨_,rfl,rfl,q2⟩
 have p2:Ch L.X w w2:=((Ch.refl L.X w).made m1).pu q2
 have h2:=(h.pu m1.pu).pu q2
 have hg:=h2.gq
 subst hg
 refine⟨_,rfl,?_⟩
 cases hh:m.has s p with
 | false=>
  refine ae (fun _=>⟨L,by simp [Mem.bC,hh],by simpa [Mem.zero,hh]using h2,rV.refl _ _,p2⟩) (fun hb=>by simp [sk,hh]at hb)
 | true=>
  have hn:=Mem.dF hh
  have hpl:=sj hh
  have ei:(m.place s p).toNat=m.idx s p.toNat:=by omega
  refine ae (fun hb=>?_) (fun _=>?_)
  ·have:m.place s p<0:=by simpa using hb
   omega
  obtain⟨T,hd⟩:=h2.hd
  refine ak _ rfl ⟨_,hd.at rfl,ak _ rfl (aM hd (by simp) fun w3 s3=>?_)⟩
  have h3:bN w3 L.g L (m.tick 1024):=h2.tick (x:=i64.wrap (m.jF+1024)) s3
  obtain⟨T',hd'⟩:=h3.hd
  obtain⟨T2,cs,hr,hsz,hi,hc⟩:=h3.slot (s:=s) (p:=p.toNat) (by simpa using hn)
  have hi':m.idx s p.toNat<L.n:=hi
  refine ak _ rfl ⟨_,_,_,hd'.at rfl,by omega,ak _ rfl ?_⟩
  rw [Nat.mul_one,ei]
  refine aM hr (by simp;omega) fun w4 s4=>?_
  have h4:=h3.lay (s:=s) (p:=p.toNat) (v:=none) (f:=fun _=>0) (by simpa using hn) (fun _=>by omega) (fun _ _=>rfl) (fun b c e=>by cases e) hr s4
  refine⟨L.put (m.idx s p.toNat) none,by simp [Mem.bC,hh],?_,fun k hk=>.inl ((fc.Ha (v:=none) hk).elim id fun⟨c,h⟩=>by cases h),(p2.stored s3 (.inl (.inl rfl))).stored s4 (.inl (.inr (.inl rfl)))⟩
  simp only [Mem.zero,hh,if_true]
  exact h4
theorem Fw:S1 Tryz.prog 113 40 (.slice none 0 0) 24:=S1.of (by kernel_rfl) (by kernel_rfl) rfl
theorem Dl(h:bN w g L m)(s:Bool)(p o v:Int)(hv:0≤v∧v<4294967296):
 Calls Tryz.prog 25 #[ptr g,fr s p,.int .i64 o,.int .u32 v] w fun e w'=>∃u,e= .returned u∧∃L1,u= .int .i64 (m.err s p o)∧bN w' g L1 (m.write s p o v)∧rV L L1 w∧Ch L.X w w':=by
 refine qM _ s p o v ?_
 refine mkd fun g1 w1 m1=>?_
 refine⟨_,_,⟨m1.blk.at rfl,m1.blk.at rfl⟩,(vo (h.pu m1.pu) s p).mono ?_⟩
 rintro e w2 ⟨_,rfl,rfl,q2⟩
 have p2:Ch L.X w w2:=((Ch.refl L.X w).made m1).pu q2
 have h2:=(h.pu m1.pu).pu q2
 have hg:=h2.gq
 subst hg
 refine⟨_,rfl,?_⟩
 cases hh:m.has s p with
 | false=>
  refine ae (fun _=>⟨L,by simp [Mem.err,hh],by simpa [Mem.write,hh]using h2,rV.refl _ _,p2⟩) (fun hb=>by simp [sk,hh]at hb)
 | true=>
  have hn:=Mem.dF hh
  have hpl:=sj hh
  have ei:(m.place s p).toNat=m.idx s p.toNat:=by omega
  refine ae (fun hb=>?_) (fun _=>?_)
  ·have:m.place s p<0:=by simpa using hb
   omega
  refine⟨fun b w'=>w2=w'∧b= !(Mem.cY o),ae (fun hb=>⟨rfl,?_⟩) (fun hb=>⟨rfl,?_⟩),?_⟩
  ·simp at hb;simp [Mem.cY];omega
  ·simp at hb;simp only [Mem.cY,ge_iff_le];rw [Bool.eq_iff_iff];simp;omega
  rintro _ x _ ⟨rfl,rfl⟩
  refine bn (fun ho=>?_) (fun ho=>?_)
  ·exact⟨L,by simp [Mem.err,hh,ho],by simpa [Mem.write,hh,ho]using h2,rV.refl _ _,p2⟩
  have ho':=Mem.gp ho
  obtain⟨T,hd⟩:=h2.hd
  refine ak _ rfl ⟨_,hd.at rfl,ak _ rfl (aM hd (by simp) fun w3 s3=>?_)⟩
  have h3:=h2.tick (x:=i64.wrap (m.jF+1)) s3
  have p3:Ch L.X w w3:=p2.stored s3 (.inl (.inl rfl))
  have hn3:p.toNat<(m.tick 1).cnt s:=by simpa using hn
  have h3':bN w3 L.g L (m.tick 1):=h3
  obtain⟨T',hd'⟩:=h3'.hd
  obtain⟨T2,cs,hr,hsz,hi,hc⟩:=h3'.slot hn3
  have ei':(m.place s p).toNat=(m.tick 1).idx s p.toNat:=ei
  have hpl':m.place s p=((m.tick 1).idx s p.toNat:Int):=hpl
  refine ak _ rfl ⟨_,_,_,hd'.at rfl,by omega,ak _ rfl ?_⟩
  have fin:∀(L1:fc)(w5:World)(b c:Nat),bN w5 L.g L1 (m.tick 1)→rV L L1 w→Ch L.X w w5→L1.pg ((m.tick 1).idx s p.toNat)=some (b,c)→
   av (some (Addr.mk L.g 0 none)) fun p45=>
   ∃(A:Option Addr)(N C:Nat),w5.cell? (p45.add 0)=some (.slice A N C)∧
   (0≤(m.place s p:Int)∧(m.place s p:Int)<((N:Nat):Int))∧
   av A fun p49=>
   ∃(A2:Option Addr)(N2 C2:Nat),w5.cell? (p49.add (Int.toNat (m.place s p)*1))=some (.slice A2 N2 C2)∧
   (0≤(o:Int)∧(o:Int)<((N2:Nat):Int))∧
   av A2 fun p53=>
   ax w5 (p53.add (Int.toNat o*1)) [(.int .u32 v)] fun wv6=>
   ∃L1,Value.int .i64 0= .int .i64 (m.err s p o)∧bN wv6 L.g L1 (m.write s p o v)∧rV L L1 w∧Ch L.X w wv6:=by
   intro L1 w5 b c h5 hgr hch hpg
   obtain⟨T5,hd5⟩:=h5.hd
   have hg5:=h5.gq
   obtain⟨T6,cs6,hr6,hsz6,hi6,hc6⟩:=h5.slot hn3
   rw [hpg]at hc6
   obtain⟨T7,cs7,hb7,hsz7,hw7⟩:=h5.pgs _ b c hi6 hpg
   rw [hg5]at hd5
   refine ak _ rfl ⟨_,_,_,hd5.at rfl,by omega,ak _ rfl ⟨some (Addr.mk b 0 none),1024,c,by rw [Nat.mul_one,ei'];exact hr6.at hc6,by omega,ak _ rfl ?_⟩⟩
   rw [Nat.mul_one]
   refine aM hb7 (by simp;omega) fun w6 s6=>?_
   have hX:L1.X b:= .inr (.inr ⟨_,c,hi6,hpg⟩)
   refine⟨L1,by simp [Mem.err,hh,ho],?_,hgr,hch.stored s6 (hgr b hX)⟩
   have:=h5.I5 (s:=s) (p:=p.toNat) (f:=fun o'=>if o'=o.toNat then v else m.pg s p.toNat o') hn3 hpg (fun o'=>by split;exact hv;exact h.u32 _ _ _) (cs:=setAt cs7 o.toNat [.int .u32 v]) (by rw [eD];exact hsz7) (fun o' ho''=>?_) s6
   ·simp only [Mem.write,hh,ho,Bool.and_self,if_true];exact this
   ·rw [dW _ _ _ _ (by simp;omega)]
    simp only [List.length_cons,List.length_nil]
    by_cases e:o'=o.toNat
    ·rw [if_pos (by omega),if_pos e];simp [e]
    ·rw [if_neg (by omega),if_neg e,hw7 o' ho'',Mem.uX _ hn3];rfl
  cases hv2:L.pg ((m.tick 1).idx s p.toNat)with
  | some bc=>
   obtain⟨b,c⟩:=bc
   rw [hv2]at hc
   refine⟨some (Addr.mk b 0 none),1024,c,by rw [Nat.mul_one,ei'];exact hr.at hc,ae (fun hb=>by simp at hb) (fun _=>?_)⟩
   exact fin L w3 b c h3' (rV.refl _ _) p3 hv2
  | none=>
   rw [hv2]at hc
   refine⟨none,0,0,by rw [Nat.mul_one,ei'];exact hr.at hc,ae (fun _=>?_) (fun hb=>by simp at hb)⟩
   have hLX:∀k,L.X k→k<w3.heap.size:=h3'.lt
   refine⟨fun _ k=>k=L.g,ak _ rfl ⟨block_add _ _,_,_,_,hd'.drew.at rfl,?_⟩⟩
   refine lY (P:=Tryz.prog) De (by omega) (by omega) (by omega) fun b w4 m4=>?_
   have p4:Ch L.X w w4:=p3.drew.made m4
   have h4:=(h3'.pu (Pu.aI w3)).pu m4.pu
   refine⟨m4.kept.mono fun k hk=>(show k=L.g by simpa [bP]using hk)▸hLX _ (.inl rfl),fun _ k=>k=L.g,fun _ _ h=>h,by omega,ak _ rfl ?_⟩
   obtain⟨T8,cs8,hr8,hsz8,hi8,hc8⟩:=h4.slot hn3
   refine aM hr8 (by simp;omega) fun w5 s5=>?_
   rw [Nat.mul_one,ei']at s5
   have hbn:¬L.X b:=fun hx=>by have:=hLX b hx;have h9:=m4.num;have h10:w3.drew.heap.size=w3.heap.size:=rfl;omega
   have h5:=h4.lay (s:=s) (p:=p.toNat) (v:=some (b,1024)) (f:=(m.tick 1).pg s p.toNat) hn3 (fun o=>h4.u32 _ _ _) (fun e=>by cases e)
    (fun b' c' e=>by
     injection e with e;injection e with e1 e2;subst e1
     refine⟨⟨_,_,m4.blk,by rw [Array.size_replicate];omega,fun o' ho''=>?_⟩,hbn⟩
     have:=h4.nil _ hi8 hv2 o'
     rw [Mem.uX _ hn3]at this
     rw [this,Array.getElem?_replicate,if_pos (by omega)]) hr8 s5
   have hfill:(m.tick 1).fill s p.toNat ((m.tick 1).pg s p.toNat)=m.tick 1:=by
    simp only [Mem.fill,Mem.tick];congr 1;funext s' p' o';split
    ·rename_i e;rw [e.1,e.2]
    ·rfl
   rw [hfill]at h5
   refine⟨fun _ k=>k=L.g,fun _ _ h=>h,?_⟩
   refine fin _ w5 b 1024 h5 (fun k hk=>?_) (p4.stored s5 (.inl (.inr (.inl rfl)))) (by simp [fc.put])
   rcases fc.Ha hk with h6 | ⟨c6,h6⟩
   ·exact .inl h6
   ·injection h6 with h6;injection h6 with h6 _;subst h6
    right
    have:=m4.num;have h9:=p3.size;rw [this];exact h9
theorem Hr(s i:Int)(hs:1≤s∧s≤64)(hi:1≤i∧i≤64):
 Calls Tryz.prog 30 #[.int .i64 s,.int .i64 i] w fun e w'=>∃v,e= .returned v∧∃g L,v= .tuple #[ptr g,.int .i64 0]∧bN w' g L (Mem.fresh s.toNat i.toNat)∧(∀k,L.X k→w.heap.size≤k)∧Pu w w':=by
 refine uE s i ?_
 refine⟨fun b w'=>w=w'∧b=false,?_,?_⟩
 ·refine ae (fun hb=>by simp at hb;omega) (fun _=>ae (fun hb=>by simp at hb;omega) (fun _=>ae (fun hb=>by simp at hb;omega) (fun _=>⟨rfl,by simp;omega⟩)))
 rintro _ x _ ⟨rfl,rfl⟩
 refine eQ ?_
 obtain⟨S,rfl⟩:=Int.eq_ofNat_of_zero_le (show 0≤s by omega)
 obtain⟨I,rfl⟩:=Int.eq_ofNat_of_zero_le (show 0≤i by omega)
 refine mkd fun gv w1 m1=>?_
 rintro _ rfl
 have hsn:SN Tryz.prog 113 40 (.slice none 0 0) 1 24:=Fw.sn
 refine⟨fun k x W=>∃(j:Nat)(A:Option Addr)(c:Nat),k=S+I - j∧x=(j:Int)∧j≤S+I∧ef W (fun k=>w.heap.size≤k∧k≠gv) 40 1 A j c (List.replicate j (.slice none 0 0))∧(∃T,Blk W gv #[.slice A j c,.int .i64 S,.int .i64 0] T)∧Pu w W,
  ⟨_,0,none,0,rfl,rfl,by omega,ef.nil,⟨_,m1.blk⟩,m1.pu⟩,?_⟩
 rintro _ _ _ w2 ⟨j,A,c,rfl,rfl,hj,ho,⟨T,hb⟩,hp⟩
 rw [ah (x:=(S:Int)+(I:Int)) (by omega)]
 refine aB (fun c1=>?_) (fun c1=>?_)
 ·refine⟨_,_,_,hb.at rfl,?_⟩
  refine mkd fun g3 w3 m3=>?_
  have hgv:gv<w2.heap.size:=hb.lt
  refine uq hsn (ho.pu m3.pu) (news:= [.slice none 0 0]) (m:=1) rfl (fun q u hu=>by
   match q with
   | 0=>simp at hu;subst hu;exact m3.blk.at rfl
   | q+1=>simp at hu) (by simp [Value.oneCell']) (by omega) (by omega) fun A' c' w4 ho4 q4=>?_
  have hlo:=m1.lo (Ch.refl (fun _=>False) w)
  have hp4:Pu w w4:=(hp.made m3).call q4 fun k ⟨b,hA,hk⟩=>.inr (by have:=ho.2 b hA;omega)
  have hb4:Blk w4 gv #[.slice A j c,.int .i64 S,.int .i64 0] T:=q4.blk (m3.old hb) fun⟨b,hA,hk⟩=>(ho.2 b hA).2 hk
  refine aM hb4 (by simp) fun w5 s5=>?_
  rintro _ rfl
  have hm3:=m3.num
  refine⟨S+I - (j+1),by omega,j+1,A',c',rfl,by rw [ah (by omega)];omega,by omega,?_,⟨T,s5.blk⟩,hp4.stored s5 (.inr hlo)⟩
  have h6:ef w4 (fun k=>w.heap.size≤k∧k≠gv) 40 1 A' (j+1) c' (List.replicate (j+1) (.slice none 0 0)):=by
   rw [List.replicate_succ']
   exact ho4.mono fun k hk=>hk.elim id fun e=>by subst e;have:=hp.size;have:=m3.size;omega
  exact h6.ch s5.ch fun k hk e=>hk.2 e
 ·have:j=S+I:=by omega
  subst this
  obtain⟨g0,cur,hA,hZ,hbk,hsz,ht⟩:=ho.blk (by omega)
  subst hA
  have hg0:g0<w2.heap.size:=hbk.lt
  refine⟨gv,⟨gv,g0,c,S+I,fun _=>none⟩,rfl,⟨rfl,rfl,⟨T,hb⟩,⟨_,cur,hbk,by rw [Nat.mul_one]at hsz;exact hsz,fun q hq=>?_⟩,fun q hq _ o=>(by unfold Mem.word;split<;>rfl),fun q b c hq h=>(by cases h),fun q j b c c' hq hj h=>(by cases h),⟨hZ.2,fun q b c hq h=>(by cases h)⟩,fun _ _ _=>by simp [Mem.fresh],by simp [Mem.fresh];omega⟩,?_,hp⟩
  ·have h7:(cur.toList.take ((S+I)*1))[q]? =some (.slice none 0 0):=by
    have hq':q<S+I:=hq
    rw [ht,List.getElem?_replicate,if_pos hq']
   rw [List.getElem?_take]at h7
   split at h7
   ·simpa [FG]using h7
   ·cases h7
  ·rintro k (rfl | rfl | ⟨q,c',_,hq⟩)
   ·exact m1.lo (Ch.refl (fun _=>False) w)
   ·exact hZ.1
   ·cases hq
end
end Go.Proofs.YtbjlecpmgocoeaaGreatDoor
end
section
namespace Go.Proofs.YtbjlecpmgocoeaaGreatDoor
open Go Go.RowKit V
open Go.IntKind (i64 u32 u64)
open Enc (enc)
instance:Enc Ent:=⟨fun e=>[.int .i64 e.typ,.int .i64 e.owner,.int .i64 e.refs,.int .i64 e.state,.bool e.aD],5,fun _=>rfl,by simp [Value.oneCell'],by omega⟩
structure jI where
 g:Nat
 e:Nat
 c:Nat
 M:fc
def jI.X(L:jI):Nat→Prop:=fun k=>k=L.g∨k=L.e∨L.M.X k
abbrev DB.aj(D:DB):List Ent:=(List.range D.S).map D.ent
structure eM(w:World)(g:Nat)(L:jI)(D:DB):Prop where
 gq:L.g=g
 hd:∃T,Blk w L.g #[.pointer (some (Addr.mk L.M.g 0 none)),.slice (some (Addr.mk L.e 0 none)) D.S L.c,.int .i64 D.aw] T
 es:Own w (fun k=>k=L.e) 120 (some (Addr.mk L.e 0 none)) D.S L.c D.aj
 mem:bN w L.M.g L.M D.mem
 ok:D.Ok
 pos:1≤D.S
 dis:L.e≠L.g∧¬L.M.X L.g∧¬L.M.X L.e
section
variable {w w' w2:World} {g:Nat} {L:jI} {D:DB} {Y:Nat→Prop}
theorem eM.hd'(h:eM w g L D):∃T,Blk w g #[.pointer (some (Addr.mk L.M.g 0 none)),.slice (some (Addr.mk L.e 0 none)) D.S L.c,.int .i64 D.aw] T:=h.gq▸h.hd
theorem eM.lt(h:eM w g L D):∀k,L.X k→k<w.heap.size:=by
 rintro k (rfl | rfl | hk)
 ·obtain⟨T,hd⟩:=h.hd;exact hd.lt
 ·obtain⟨g',hA,hZ,hl⟩:=h.es.lt h.pos
  have:g'=L.e:=hZ
  omega
 ·exact h.mem.lt k hk
theorem eM.ch(h:eM w g L D)(hk:Ch Y w w')(hb:∀k,L.X k→¬Y k):eM w' g L D:=by
 refine⟨h.gq,?_,h.es.ch hk fun k e=>hb k (.inr (.inl e)),h.mem.ch hk fun k hx=>hb k (.inr (.inr hx)),h.ok,h.pos,h.dis⟩
 obtain⟨T,hd⟩:=h.hd;exact⟨T,hk.blk hd (hb _ (.inl rfl))⟩
theorem eM.pu(h:eM w g L D)(hk:Pu w w'):eM w' g L D:=h.ch hk (by simp)
theorem eM.S64(h:eM w g L D):D.S≤64:=h.mem.dC.1
theorem jI.inM(L:jI)(k:Nat)(h:L.M.X k):L.X k:= .inr (.inr h)
theorem eM.dE(h:eM w g L D) {m:Mem} {M:fc}(hm:bN w' L.M.g M m)(hc:Ch L.M.X w w')(hg:∀k,M.X k→L.M.X k∨w.heap.size≤k)(hs:m.S=D.mem.S):eM w' g {L with M:=M} (D.aN m)∧(∀k,jI.X {L with M:=M} k→L.X k∨w.heap.size≤k):=by
 have hn:∀k,L.X k→¬L.M.X k→¬M.X k:=fun k hk hx hm'=>(hg k hm').elim hx fun h'=>absurd (h.lt k hk) (Nat.not_lt.2 h')
 have hds:DB.aj (D.aN m)=D.aj:=by show List.map D.ent (List.range m.S)=List.map D.ent (List.range D.mem.S);rw [hs]
 have hS:DB.S (D.aN m)=D.S:=hs
 refine⟨⟨h.gq,?_,?_,?_,⟨fun p hp=>?_,h.ok.aw⟩,by rw [hS];exact h.pos,⟨h.dis.1,hn _ (.inl rfl) h.dis.2.1,hn _ (.inr (.inl rfl)) h.dis.2.2⟩⟩,?_⟩
 ·obtain⟨T,hd⟩:=h.hd
  refine⟨T,?_⟩
  rw [hS]
  show Blk w' L.g #[.pointer (some (Addr.mk M.g 0 none)),_,_] T
  rw [hm.gq]
  exact hc.blk hd h.dis.2.1
 ·rw [hds,hS]
  exact h.es.ch hc fun k e=>e▸h.dis.2.2
 ·show bN w' M.g M m
  have:=hm.gq
  rw [this];exact hm
 ·rw [hS]at hp ⊢
  exact h.ok.ent p hp
 ·rintro k (hk | hk | hk)
  ·exact .inl (.inl hk)
  ·exact .inl (.inr (.inl hk))
  ·exact(hg k hk).imp (fun h=>.inr (.inr h)) id
theorem eM.A8(h:eM w g L D) {x:Int} {T:TypeId}(hs:bq w g #[.pointer (some (Addr.mk L.M.g 0 none)),.slice (some (Addr.mk L.e 0 none)) D.S L.c,.int .i64 x] T w2)(hx:0≤x∧x≤64):eM w2 g L (D.eN x):=by
 have hg:=h.gq
 subst hg
 exact⟨rfl,⟨T,hs.blk⟩,h.es.ch hs.ch fun k e e2=>h.dis.1 (by rw [← e,e2]),h.mem.ch hs.ch fun k hk e=>h.dis.2.1 (e▸hk),⟨h.ok.ent,hx⟩,h.pos,h.dis⟩
theorem eM.ldE(h:eM w g L D) {i:Int}(h0:0≤i)(h1:i<(D.S:Int)):∃p,some (Addr.mk L.e 0 none)=some p∧∀j,j<5→w.cell? ((p.add (i.toNat *5)).add j)=(enc (D.at_ i))[j]? :=by
 obtain⟨p,x,hA,hx,hZ,hc⟩:=h.es.rd.ld h0 h1
 refine⟨p,hA,?_⟩
 have hi:i.toNat<D.S:=by omega
 rw [List.getElem?_map,List.getElem?_range hi]at hx
 injection hx with hx
 subst hx
 exact hc
theorem DB.vV(D:DB) {p:Int}(e:Ent):(D.set p e).aj=D.aj.set p.toNat e:=by
 apply List.ext_getElem?
 intro i
 show((List.range D.S).map (D.set p e).ent)[i]? =_
 rw [List.getElem?_set,List.getElem?_map,List.getElem?_map]
 by_cases hi:i<D.S
 ·rw [List.getElem?_range hi]
  simp only [DB.set,Option.map_some]
  by_cases h2:p.toNat=i
  ·rw [if_pos h2.symm,if_pos h2,if_pos (by simp;omega)]
  ·rw [if_neg (fun e=>h2 e.symm),if_neg h2]
 ·rw [List.getElem?_eq_none (by simp;omega)]
  simp;omega
end
end Go.Proofs.YtbjlecpmgocoeaaGreatDoor
end
section
namespace Go.Proofs.YtbjlecpmgocoeaaGreatDoor
open Go Go.RowKit V
open Go.IntKind (i64 u32 u64)
open Enc (enc)
structure Fl where
 rs:List U32
 pc:Int
 z:Bool
 n:Bool
 l:Bool
namespace Fl
def Ok(s:Fl):Prop:=s.rs.length=15
def yB(s:Fl)(i:Nat)(x:U32):Fl:= {s with rs:=List.set s.rs i x}
def zero:Fl:=⟨[U32.mk 0,U32.mk 0,U32.mk 0,U32.mk 0,U32.mk 0,U32.mk 0,U32.mk 0,U32.mk 0,U32.mk 0,U32.mk 0,U32.mk 0,U32.mk 0,U32.mk 0,U32.mk 0,U32.mk 0],0,false,false,false⟩
def norm(s:Fl):Fl:= {s with rs:=aJ (fun j=>U32.mk (s.rs.getD j (U32.mk 0)).v) (upN 0 15)}
theorem norm_eq {s:Fl}(h:s.Ok):s.norm=s:=by
 obtain⟨rs,pc,z,n,l⟩:=s
 match rs,h with
 | [_,_,_,_,_,_,_,_,_,_,_,_,_,_,_],_=>rfl
theorem FP(s:Fl):s.norm.Ok:=rfl
def words(s:Fl):List Value:=aJ (fun j=>.int .u32 (s.rs.getD j (U32.mk 0)).v) (upN 0 15)
def cells(s:Fl):List Value:=s.words++ [.int .u32 s.pc,.bool s.z,.bool s.n,.bool s.l]
theorem words_eq {s:Fl}(h:s.Ok):s.words=s.rs.map fun x=>.int .u32 x.v:=by
 obtain⟨rs,pc,z,n,l⟩:=s
 match rs,h with
 | [_,_,_,_,_,_,_,_,_,_,_,_,_,_,_],_=>rfl
theorem gm(s:Fl):s.words.length=15:=rfl
theorem BH {s:Fl}(h:s.Ok) {i:Nat} {x:U32}(hx:s.rs[i]? =some x):s.cells[i]? =some (.int .u32 x.v):=by
 have hi:i<15:=by have:=(List.getElem?_eq_some_iff.1 hx).1;rw [h]at this;exact this
 rw [cells,List.getElem?_append_left (by rw [gm];exact hi),words_eq h,List.getElem?_map,hx];rfl
theorem BG {s:Fl}(h:s.Ok) {i:Nat}(hi:i<15)(x:U32):(s.yB i x).cells=s.cells.set i (.int .u32 x.v):=by
 have h2:(s.yB i x).Ok:=by show(List.set s.rs i x).length=15;rw [List.length_set];exact h
 rw [cells,words_eq h2,cells,words_eq h,List.set_append_left _ _ (by rw [List.length_map,h];exact hi)]
 show(List.set s.rs i x).map _++_=_
 rw [List.map_set];rfl
end Fl
theorem vE {α β:Type} {f:α→β} {u:β}:∀ {l:List α},u∈aJ f l→∃a,u=f a
 | a::l,h=>by
  rcases List.mem_cons.1 h with e | h
  ·exact⟨a,e⟩
  ·exact vE (l:=l) h
instance:Enc Fl:=⟨Fl.cells,19,fun _=>rfl,fun x u h=>by
 rcases List.mem_append.1 h with h | h
 ·obtain⟨a,rfl⟩:=vE h
  rfl
 ·simp only [List.mem_cons,List.not_mem_nil,or_false]at h
  rcases h with rfl | rfl | rfl | rfl<;>rfl,by omega⟩
structure FlP(w:World)(g:Nat)(s:Fl):Prop where
 len:s.Ok
 blk:∃T,Blk w g ⟨s.cells⟩ T
section
variable {w:World} {g:Nat} {s:Fl} {K:World→Prop}
theorem FlP.st(h:FlP w g s) {i:Nat} {v:Value} {s':Fl}(hi:i<19)(h2:s'.Ok)(hc:s'.cells=s.cells.set i v)(hK:∀w',FlP w' g s'→Ch (fun k=>k=g) w w'→K w'):ax w ⟨g,i,none⟩ [v] K:=by
 obtain⟨T,hb⟩:=h.blk
 exact gA hb (by show i+1≤s.cells.length;show i+1≤19;omega) fun w2 st=>hK w2 ⟨h2,T,by rw [hc];exact st.blk.cast (by rw [sd];simp)⟩ st.ch
theorem FlP.li(h:FlP w g s) {X:Nat→Prop}(hX:∀k,k=g↔X k):Rd w X (some (Addr.mk g 0 none)) s.rs.length s.rs.length s.rs:=by
 obtain⟨T,hb⟩:=h.blk
 refine⟨rfl,Nat.le_refl _,fun k hk=>by rw [(hX k).2 hk];exact hb.lt,fun i x hi=>⟨_,rfl,(hX _).1 rfl,fun j hj=>?_⟩⟩
 have hj:j=0:=by have:Enc.size U32=1:=rfl;omega
 subst hj
 rw [bx,Nat.zero_add,show Enc.size U32=1 from rfl,Nat.mul_one]
 show w.cell? ⟨g,i,none⟩=some (.int .u32 x.v)
 exact hb.cell (by simpa using Fl.BH h.len hi)
theorem FlP.stR(h:FlP w g s) {X:Nat→Prop}(hX:∀k,k=g↔X k) {i:Nat} {x y:U32}(hx:s.rs[i]? =some x) {o:Nat} {vs:List Value}(ho:o+vs.length≤1)(hy:enc y=(enc x).take o++vs++(enc x).drop (o+vs.length))(hK:∀w',(∀k,k=g↔X k)∧FlP w' g (s.yB i y)→Ch X w w'→K w'):
 ax w (((Addr.mk g 0 none).add (i*1)).add o) vs K:=by
 have hi:i<15:=by have:=(List.getElem?_eq_some_iff.1 hx).1;rw [h.len]at this;exact this
 have hlen:(s.yB i y).Ok:=by show(List.set s.rs i y).length=15;rw [List.length_set];exact h.len
 obtain⟨T,hb⟩:=h.blk
 rw [bx,Nat.zero_add,Nat.mul_one]
 have ex:enc x= [.int .u32 x.v]:=rfl
 have ey:enc y= [.int .u32 y.v]:=rfl
 rw [ex,ey]at hy
 have hsz:∀j,j≤19→j≤(⟨s.cells⟩:Array Value).size:=fun j hj=>hj
 have same:x=y→s.yB i y=s:=fun e=>by
  subst e
  have:s.rs.set i x=s.rs:=by
   apply List.ext_getElem?
   intro j
   rw [List.getElem?_set]
   split
   ·rename_i e;subst e;rw [if_pos (by rw [h.len];exact hi),hx]
   ·rfl
  unfold Fl.yB;rw [this]
 match vs,o,ho with
 | [v],0,_=>
  simp at hy
  subst hy
  exact(FlP.st h (i:=i) (by omega) hlen (Fl.BG h.len hi y) fun w' h' q=>hK w' ⟨hX,h'⟩ (q.mono fun k hk=>(hX k).1 hk))
 | [],0,_=>
  simp at hy
  refine⟨g,i,_,T,rfl,hb,by simpa using hsz i (by omega),fun w2 st=>hK w2 ⟨hX,by rw [same (by cases x;cases y;simp at hy;rw [hy])];exact⟨h.len,T,st.blk⟩⟩ (st.ch.mono fun k hk=>(hX k).1 hk)⟩
 | [],1,_=>
  simp at hy
  refine⟨g,i+1,_,T,rfl,hb,by simpa using hsz (i+1) (by omega),fun w2 st=>hK w2 ⟨hX,by rw [same (by cases x;cases y;simp at hy;rw [hy])];exact⟨h.len,T,st.blk⟩⟩ (st.ch.mono fun k hk=>(hX k).1 hk)⟩
theorem FlP.all(h:FlP w g s) {s':Fl}(h2:s'.Ok)(hK:∀w',FlP w' g s'→Ch (fun k=>k=g) w w'→K w'):ax w ⟨g,0,none⟩ s'.cells K:=by
 obtain⟨T,hb⟩:=h.blk
 exact cq hb rfl fun w2 st=>hK w2 ⟨h2,T,st.blk.cast (by simp)⟩ st.ch
end
theorem Fl.F0 {s:Fl}(h:s.Ok)(he:bh ⟨s.cells⟩ ⟨Fl.zero.cells⟩=true):s=Fl.zero:=by
 obtain⟨rs,pc,z,n,l⟩:=s
 match rs,h with
 | [⟨a0⟩,⟨a1⟩,⟨a2⟩,⟨a3⟩,⟨a4⟩,⟨a5⟩,⟨a6⟩,⟨a7⟩,⟨a8⟩,⟨a9⟩,⟨b0⟩,⟨b1⟩,⟨b2⟩,⟨b3⟩,⟨b4⟩],_=>
  simp [bh,eqL,kI,Fl.cells,Fl.words,aJ,upN,Fl.zero]at he ⊢
  simp [he]
def qi:List Value→Option Fl
 | [.int .u32 a0,.int .u32 a1,.int .u32 a2,.int .u32 a3,.int .u32 a4,.int .u32 a5,.int .u32 a6,.int .u32 a7,.int .u32 a8,.int .u32 a9,.int .u32 b0,.int .u32 b1,.int .u32 b2,.int .u32 b3,.int .u32 b4,.int .u32 pc,.bool z,.bool n,.bool l]=>
  some ⟨[⟨a0⟩,⟨a1⟩,⟨a2⟩,⟨a3⟩,⟨a4⟩,⟨a5⟩,⟨a6⟩,⟨a7⟩,⟨a8⟩,⟨a9⟩,⟨b0⟩,⟨b1⟩,⟨b2⟩,⟨b3⟩,⟨b4⟩],pc,z,n,l⟩
 | _=>none
theorem ng {cs:List Value} {s:Fl}(h:qi cs=some s):cs=s.cells∧s.Ok:=by
 unfold qi at h
 split at h
 ·injection h with h
  subst h
  exact⟨rfl,rfl⟩
 ·cases h
end Go.Proofs.YtbjlecpmgocoeaaGreatDoor
end
section
namespace Go.Proofs.YtbjlecpmgocoeaaGreatDoor
open Go Go.RowKit V
open Go.IntKind (i64 u32 u64)
open Enc (enc)
structure Pd where
 n:Nat
 aw:Int
 ent:Nat→Ent
namespace Pd
def on(E:Pd)(m:Mem):DB:=⟨m,E.aw,E.ent⟩
def aj(E:Pd):List Ent:=(List.range E.n).map E.ent
def set(E:Pd)(i:Nat)(e:Ent):Pd:= {E with ent:=fun q=>if q=i then e else E.ent q}
def eN(E:Pd)(x:Int):Pd:= {E with aw:=x}
structure Ok(E:Pd):Prop where
 ent:∀p,p<E.n→(E.ent p).ok=true∧(E.ent p).owner<E.n
 aw:0≤E.aw∧E.aw≤64
 dC:E.n≤64
@[simp] theorem cI(E:Pd):E.aj.length=E.n:=by simp [aj]
theorem qe {E:Pd} {i:Nat}(h:i<E.n):E.aj[i]? =some (E.ent i):=by simp [aj,h]
theorem bJ {E:Pd} {p:Int} {d:Ent}(h:0≤p∧p<((E.n:Nat):Int)):E.aj.getD p.toNat d=E.ent p.toNat:=by
 rw [List.getD_eq_getElem?_getD,qe (by omega)];rfl
theorem vV(E:Pd)(i:Nat)(e:Ent):(E.set i e).aj=E.aj.set i e:=by
 apply List.ext_getElem?
 intro j
 show((List.range E.n).map (E.set i e).ent)[j]? =_
 rw [List.getElem?_set,List.getElem?_map]
 by_cases hj:j<E.n
 ·rw [List.getElem?_range hj]
  simp only [Option.map_some,set,cI,qe hj]
  by_cases hij:i=j
  ·subst hij;simp [hj]
  ·rw [if_neg (fun h=>hij h.symm),if_neg hij]
 ·rw [List.getElem?_eq_none (by simp;omega),List.getElem?_eq_none (l:=E.aj) (by simp;omega)]
  simp
  intro h1
  omega
end Pd
def DB.pd(D:DB):Pd:=⟨D.S,D.aw,D.ent⟩
theorem Pd.cX(E:Pd)(m:Mem)(h:E.n=m.S):(E.on m).pd=E:=by
 cases E;simp only [on]at *;simp [DB.pd,DB.S,← h]
theorem Pd.cu(E:Pd)(m:Mem):(E.on m).mem=m:=rfl
theorem Pd.pL(E:Pd)(m:Mem)(h:E.n=m.S):(E.on m).S=E.n:=h.symm
theorem Pd.jk(E:Pd)(m:Mem)(p:Int)(h:E.n=m.S):(E.on m).has p=decide (0≤p∧p<((E.n:Nat):Int)):=by unfold DB.has;rw [pL E m h]
theorem Pd.jE(E:Pd)(m:Mem)(p:Int):(E.on m).at_ p=E.ent p.toNat:=rfl
theorem Pd.eE(E:Pd)(m:Mem)(p:Int)(e:Ent):(E.on m).set p e=(E.set p.toNat e).on m:=rfl
theorem Pd.pK(E:Pd)(m:Mem)(f:Mem→Mem):(E.on m).dE f=E.on (f m):=rfl
theorem Pd.pI(E:Pd)(m m':Mem):(E.on m).aN m'=E.on m':=rfl
theorem Pd.vx(E:Pd)(m:Mem)(b:Int):(E.on m).eN b=(E.eN b).on m:=rfl
theorem Pd.Fm(E:Pd)(b:Int):(E.eN b).n=E.n:=rfl
theorem Pd.mY(E:Pd)(m:Mem):(E.on m).aw=E.aw:=rfl
theorem Pd.lQ(E:Pd)(i:Nat)(e:Ent):(E.set i e).n=E.n:=rfl
theorem Pd.gg(E:Pd)(i j:Nat)(e:Ent):(E.set i e).ent j=if j=i then e else E.ent j:=rfl
theorem Pd.yA(E:Pd)(i:Nat)(e:Ent):(E.set i e).aw=E.aw:=rfl
structure PdP(w:World)(g a mg:Nat)(E:Pd):Prop where
 hd:∃T,Blk w g #[.pointer (some (Addr.mk mg 0 none)),.int .i64 E.aw,.slice (some (Addr.mk a 0 none)) (2*E.n) (2*E.n)] T
 ws:∃T cs,Blk w a cs T∧cs.size=2*E.n∧∀p,p<E.n→cs[2*p]? =some (.int .u32 (E.ent p).w0)∧cs[2*p+1]? =some (.int .u32 (E.ent p).w1)
 ok:E.Ok
 ne:a≠g
structure kG(w:World)(g mg e c:Nat)(E:Pd):Prop where
 hd:∃T,Blk w g #[.pointer (some (Addr.mk mg 0 none)),.slice (some (Addr.mk e 0 none)) E.n c,.int .i64 E.aw] T
 es:Own w (fun k=>k=e) 120 (some (Addr.mk e 0 none)) E.n c E.aj
 ok:E.Ok
 ne:e≠g
 pos:1≤E.n
section
variable {w w':World} {g a mg e c:Nat} {E:Pd} {Y:Nat→Prop}
theorem PdP.ch(h:PdP w g a mg E)(q:Ch Y w w')(hg:¬Y g)(ha:¬Y a):PdP w' g a mg E:=by
 obtain⟨T,hd⟩:=h.hd
 obtain⟨T2,cs,hr,h2⟩:=h.ws
 exact⟨⟨T,q.blk hd hg⟩,⟨T2,cs,q.blk hr ha,h2⟩,h.ok,h.ne⟩
theorem kG.ch(h:kG w g mg e c E)(q:Ch Y w w')(hg:¬Y g)(he:¬Y e):kG w' g mg e c E:=by
 obtain⟨T,hd⟩:=h.hd
 exact⟨⟨T,q.blk hd hg⟩,h.es.ch q fun k hk=>hk▸he,h.ok,h.ne,h.pos⟩
theorem PdP.lt(h:PdP w g a mg E):g<w.heap.size∧a<w.heap.size:=by
 obtain⟨T,hd⟩:=h.hd
 obtain⟨T2,cs,hr,h2⟩:=h.ws
 exact⟨hd.lt,hr.lt⟩
theorem kG.lt(h:kG w g mg e c E):g<w.heap.size∧e<w.heap.size:=by
 obtain⟨T,hd⟩:=h.hd
 obtain⟨g',hA,hZ,hl⟩:=h.es.lt h.pos
 have:g'=e:=hZ
 exact⟨hd.lt,by omega⟩
theorem PdP.db {L:fe} {m:Mem}(h:PdP w g a L.g E)(hm:cP w L m)(hn:E.n=m.S)(hx:¬L.X g∧¬L.X a):DBP w ⟨g,a,L⟩ (E.on m):=by
 have hS:(E.on m).S=E.n:=hn.symm
 refine⟨?_,?_,hm,⟨fun p hp=>?_,h.ok.aw⟩,h.ne,hx.1,hx.2⟩
 ·show ∃T,Blk w g #[_,_,.slice _ (2*m.S) (2*m.S)] T
  rw [← hn];exact h.hd
 ·show ∃T cs,Blk w a cs T∧cs.size=2*m.S∧∀p,p<m.S→_
  rw [← hn];exact h.ws
 ·rw [hS]at hp ⊢
  exact h.ok.ent p hp
theorem DBP.pd {L:dy} {D:DB}(h:DBP w L D):PdP w L.g L.a L.M.g D.pd:=⟨h.hd,h.ws,⟨h.ok.ent,h.ok.aw,h.mem.dC.1⟩,h.dis.1⟩
theorem PdP.A8(h:PdP w g a mg E) {x:Int}(hx:0≤x∧x≤64) {K:World→Prop}(hK:∀w',PdP w' g a mg (E.eN x)→Ch (fun k=>k=g) w w'→K w'):ax w ⟨g,1,none⟩ [.int .i64 x] K:=by
 obtain⟨T,hd⟩:=h.hd
 obtain⟨T2,cs,hr,h2⟩:=h.ws
 exact gA hd (by simp) fun w2 s=>hK w2 ⟨⟨T,s.blk⟩,⟨T2,cs,s.old hr h.ne,h2⟩,⟨h.ok.ent,hx,h.ok.dC⟩,h.ne⟩ s.ch
theorem kG.A8(h:kG w g mg e c E) {x:Int}(hx:0≤x∧x≤64) {K:World→Prop}(hK:∀w',kG w' g mg e c (E.eN x)→Ch (fun k=>k=g) w w'→K w'):ax w ⟨g,2,none⟩ [.int .i64 x] K:=by
 obtain⟨T,hd⟩:=h.hd
 exact gA hd (by simp) fun w2 s=>hK w2 ⟨⟨T,s.blk⟩,h.es.ch s.ch fun k hk e2=>h.ne (by rw [← hk,e2]),⟨h.ok.ent,hx,h.ok.dC⟩,h.ne,h.pos⟩ s.ch
theorem kG.Hj(h:kG w g mg e c E) {i:Nat} {x y:Ent}(hx:E.aj[i]? =some x) {o:Nat} {vs:List Value}(ho:o+vs.length≤5)(hy:enc y=(enc x).take o++vs++(enc x).drop (o+vs.length))(hok:y.ok=true∧y.owner<(E.n:Int)) {K:World→Prop}
 (hK:∀w',kG w' g mg e c (E.set i y)→Ch (fun k=>k=e) w w'→K w'):ax w (((Addr.mk e 0 none).add (i*5)).add o) vs K:=by
 have hi:i<E.n:=by
  have:=(List.getElem?_eq_some_iff.1 hx).1
  simpa using this
 obtain⟨T,hd⟩:=h.hd
 refine h.es.st rfl hi hx ho hy fun w2 ho2 hc=>hK w2 ⟨⟨T,hc.blk hd fun e=>h.ne e.symm⟩,by rw [Pd.vV];exact ho2,⟨fun p hp=>?_,h.ok.aw,h.ok.dC⟩,h.ne,h.pos⟩ hc
 show(if p=i then y else E.ent p).ok=true∧_
 split
 ·rename_i hpi
  refine⟨hok.1,?_⟩
  show(if p=i then y else E.ent p).owner<_
  rw [if_pos hpi];exact hok.2
 ·rename_i hpi
  refine⟨(h.ok.ent p hp).1,?_⟩
  show(if p=i then y else E.ent p).owner<_
  rw [if_neg hpi];exact(h.ok.ent p hp).2
end
def Dg.sv(d:Dg):List Value:=aJ (fun j=>.int .u32 (d.save.getD j 0)) (upN 0 26)
def Dg.svL(d:Dg):List U32:=aJ (fun j=>U32.mk (d.save.getD j 0)) (upN 0 26)
def xm(w:World)(g:Nat)(s:List U32):Prop:=∃T,Blk w g (aT (s.map U32.v)) T
def y4:List Value→Option (List U32)
 | []=>some []
 | .int .u32 x::r=>(match y4 r with
  | some l=>some (U32.mk x::l)
  | none=>none)
 | _=>none
theorem qh:∀ {cs:List Value} {l:List U32},y4 cs=some l→cs=(l.map U32.v).map (Value.int .u32)
 | [],l,h=>by simp only [y4,Option.some.injEq]at h;subst h;rfl
 | v::r,l,h=>by
  unfold y4 at h
  split at h
  ·rename_i e;cases e
  ·rename_i x r' e
   injection e with e1 e2
   subst e1;subst e2
   split at h
   ·rename_i l' hl
    injection h with h
    subst h
    rw [qh hl];rfl
   ·cases h
  ·cases h
structure LSt where
 D:DB
 R:DB
 pM:Nat
 pD:Nat
 pR:Nat
structure nB(w:World)(g:Nat)(s:LSt)(X:Nat→Prop):Prop where
 hd:Blk w g #[.pointer (some (Addr.mk s.pM 0 none)),.pointer (some (Addr.mk s.pD 0 none)),.pointer (some (Addr.mk s.pR 0 none))] 34
 dbs:∃(a:Nat)(L:fe)(RL:jI),L.g=s.pM∧DBP w ⟨s.pD,a,L⟩ s.D∧eM w s.pR RL s.R∧(∀k,dy.X ⟨s.pD,a,L⟩ k→¬RL.X k)∧¬dy.X ⟨s.pD,a,L⟩ g∧¬RL.X g∧∀k,(k=g∨dy.X ⟨s.pD,a,L⟩ k∨RL.X k)↔X k
theorem nB.ch {w w':World} {g:Nat} {s:LSt} {X Y:Nat→Prop}(h:nB w g s X)(q:Ch Y w w')(hb:∀k,X k→¬Y k):nB w' g s X:=by
 obtain⟨a,L,RL,h1,h2,h3,h4,h5,h6,h7⟩:=h.dbs
 exact⟨q.blk h.hd (hb _ ((h7 _).1 (.inl rfl))),a,L,RL,h1,h2.ch q fun k hk=>hb k ((h7 k).1 (.inr (.inl hk))),h3.ch q fun k hk=>hb k ((h7 k).1 (.inr (.inr hk))),h4,h5,h6,h7⟩
theorem nB.lt {w:World} {g:Nat} {s:LSt} {X:Nat→Prop}(h:nB w g s X):∀k,X k→k<w.heap.size:=by
 intro k hk
 obtain⟨a,L,RL,h1,h2,h3,h4,h5,h6,h7⟩:=h.dbs
 rcases(h7 k).2 hk with rfl | hk | hk
 ·exact h.hd.lt
 ·exact h2.lt k hk
 ·exact h3.lt k hk
structure dx where
 k:Int
 a:Int
 b:Int
 c:Int
 v:Int
 wA:Option Addr
 wN:Nat
 wC:Nat
instance:Enc dx:=⟨fun x=>[.int .i64 x.k,.int .i64 x.a,.int .i64 x.b,.int .i64 x.c,.int .u32 x.v,.slice x.wA x.wN x.wC],6,fun _=>rfl,by simp [Value.oneCell'],by omega⟩
structure LSp where
 p:Int
 off:Int
 v:Int
 clause:Int
 aq:Int
instance:Enc LSp:=⟨fun x=>[.int .i64 x.p,.int .i64 x.off,.int .u32 x.v,.int .i64 x.clause,.int .i64 x.aq],5,fun _=>rfl,by simp [Value.oneCell'],by omega⟩
def UTy:Nat→Type
 | 0=>Mem
 | 1=>Pd
 | 2=>Mem
 | 3=>Pd
 | 4=>Dg
 | 5=>List Int
 | 6=>List Int
 | 7=>List U32
 | 8=>LSt
 | 9=>List ByteArray
 | 10=>Fl
 | _=>Unit
def bo:(t:Nat)→(Nat→Nat)→UTy t→(Nat→Prop)→World→Prop
 | 0,r,s,X,w=>∃L:fe,r 0=L.g∧(∀k,L.X k↔X k)∧cP w L s
 | 1,r,s,X,w=>∃a,(∀k,(k=r 0∨k=a)↔X k)∧PdP w (r 0) a (r 1) s
 | 2,r,s,X,w=>∃L:fc,(∀k,L.X k↔X k)∧bN w (r 0) L s
 | 3,r,s,X,w=>(∀k,(k=r 0∨k=r 2)↔X k)∧kG w (r 0) (r 1) (r 2) (r 3) s
 | 4,r,s,X,w=>∃L:DgL,(∀k,L.X (r 0) k↔X k)∧mJ w (r 0) L s
 | 5,_,s,X,w=>(∀k,k=1↔X k)∧fT w 1 s
 | 6,_,s,X,w=>(∀k,k=2↔X k)∧fT w 2 s
 | 7,r,s,X,w=>(∀k,k=r 0↔X k)∧xm w (r 0) s
 | 8,r,s,X,w=>nB w (r 0) s X
 | 9,_,s,X,w=>(∀k,k=0↔X k)∧∃T,Blk w 0 ⟨List.map Value.string s⟩ T
 | 10,r,s,X,w=>(∀k,k=r 0↔X k)∧FlP w (r 0) s
 | _+11,_,_,X,_=>∀k,¬X k
theorem EE:∀ {t:Nat} {r:Nat→Nat} {s:UTy t} {X Y:Nat→Prop} {w w':World},bo t r s X w→Ch Y w w'→(∀k,X k→¬Y k)→bo t r s X w'
 | 0,_,_,_,_,_,_,⟨L,h1,h2,h3⟩,q,hb=>⟨L,h1,h2,h3.ch q fun k hk=>hb k ((h2 k).1 hk)⟩
 | 1,_,_,_,_,_,_,⟨a,h1,h2⟩,q,hb=>⟨a,h1,h2.ch q (hb _ ((h1 _).1 (.inl rfl))) (hb _ ((h1 _).1 (.inr rfl)))⟩
 | 2,_,_,_,_,_,_,⟨L,h2,h3⟩,q,hb=>⟨L,h2,h3.ch q fun k hk=>hb k ((h2 k).1 hk)⟩
 | 3,_,_,_,_,_,_,⟨h1,h2⟩,q,hb=>⟨h1,h2.ch q (hb _ ((h1 _).1 (.inl rfl))) (hb _ ((h1 _).1 (.inr rfl)))⟩
 | 4,_,_,_,_,_,_,⟨L,h2,h3⟩,q,hb=>⟨L,h2,h3.ch q fun k hk=>hb k ((h2 k).1 hk)⟩
 | 5,_,_,_,_,_,_,⟨h2,h3⟩,q,hb=>⟨h2,h3.ch q fun k hk=>hb k ((h2 k).1 hk)⟩
 | 6,_,_,_,_,_,_,⟨h2,h3⟩,q,hb=>⟨h2,h3.ch q fun k hk=>hb k ((h2 k).1 hk)⟩
 | 7,_,_,_,_,_,_,⟨h2,T,h3⟩,q,hb=>⟨h2,T,q.blk h3 (hb _ ((h2 _).1 rfl))⟩
 | 8,_,_,_,_,_,_,h,q,hb=>h.ch q hb
 | 9,_,_,_,_,_,_,⟨h2,T,h3⟩,q,hb=>⟨h2,T,q.blk h3 (hb _ ((h2 _).1 rfl))⟩
 | 10,_,_,_,_,_,_,⟨h2,h3,T,h4⟩,q,hb=>⟨h2,h3,T,q.blk h4 (hb _ ((h2 _).1 rfl))⟩
 | _+11,_,_,_,_,_,_,h,_,_=>h
theorem ED:∀ {t:Nat} {r:Nat→Nat} {s:UTy t} {X:Nat→Prop} {w:World},bo t r s X w→∀k,X k→k<w.heap.size
 | 0,_,_,_,_,⟨_,_,h2,h3⟩,k,hk=>h3.lt k ((h2 k).2 hk)
 | 1,_,_,_,_,⟨a,h1,h2⟩,k,hk=>by rcases(h1 k).2 hk with rfl | rfl;exact h2.lt.1;exact h2.lt.2
 | 2,_,_,_,_,⟨_,h2,h3⟩,k,hk=>h3.lt k ((h2 k).2 hk)
 | 3,_,_,_,_,⟨h1,h2⟩,k,hk=>by rcases(h1 k).2 hk with rfl | rfl;exact h2.lt.1;exact h2.lt.2
 | 4,_,_,_,_,⟨_,h2,h3⟩,k,hk=>h3.lt k ((h2 k).2 hk)
 | 5,_,_,_,_,⟨h2,h3⟩,k,hk=>h3.lt k ((h2 k).2 hk)
 | 6,_,_,_,_,⟨h2,h3⟩,k,hk=>h3.lt k ((h2 k).2 hk)
 | 7,_,_,_,_,⟨h2,T,h3⟩,k,hk=>by rw [(h2 k).2 hk];exact h3.lt
 | 8,_,_,_,_,h,k,hk=>h.lt k hk
 | 9,_,_,_,_,⟨h2,T,h3⟩,k,hk=>by rw [(h2 k).2 hk];exact h3.lt
 | 10,_,_,_,_,⟨h2,_,T,h3⟩,k,hk=>by rw [(h2 k).2 hk];exact h3.lt
 | _+11,_,_,_,_,h,k,hk=>absurd hk (h k)
def UEl:Nat→Type
 | 0=>I64
 | 1=>U32
 | 2=>U8
 | 3=>Bl
 | 4=>Ent
 | 5=>dx
 | 6=>Fl
 | 7=>LSp
 | _=>I64
@[reducible] def UEn:(t:Nat)→Enc (UEl t)
 | 0=>inferInstanceAs (Enc I64)
 | 1=>inferInstanceAs (Enc U32)
 | 2=>inferInstanceAs (Enc U8)
 | 3=>inferInstanceAs (Enc Bl)
 | 4=>inferInstanceAs (Enc Ent)
 | 5=>inferInstanceAs (Enc dx)
 | 6=>inferInstanceAs (Enc Fl)
 | 7=>inferInstanceAs (Enc LSp)
 | _+8=>inferInstanceAs (Enc I64)
def UDf:(t:Nat)→UEl t
 | 0=>I64.mk 0
 | 1=>U32.mk 0
 | 2=>U8.mk 0
 | 3=>Bl.mk false
 | 4=>Ent.free
 | 5=>⟨0,0,0,0,0,none,0,0⟩
 | 6=>Fl.zero
 | 7=>⟨0,0,0,0,0⟩
 | _+8=>I64.mk 0
def EG:(t:Nat)→List Value→Option (UEl t)
 | 0,[.int .i64 x]=>some (I64.mk x)
 | 1,[.int .u32 x]=>some (U32.mk x)
 | 2,[.int .u8 x]=>some (U8.mk x)
 | 3,[.bool x]=>some (Bl.mk x)
 | 4,[.int .i64 a,.int .i64 b,.int .i64 c,.int .i64 d,.bool e]=>some (Ent.mk a b c d e)
 | 5,[.int .i64 a,.int .i64 b,.int .i64 c,.int .i64 d,.int .u32 e,.slice x y z]=>some (dx.mk a b c d e x y z)
 | 7,[.int .i64 a,.int .i64 b,.int .u32 c,.int .i64 d,.int .i64 e]=>some (LSp.mk a b c d e)
 | _,_=>none
theorem gS {t:Nat} {cs:List Value} {x:UEl t}(h:EG t cs=some x):(UEn t).enc x=cs:=by
 unfold EG at h
 split at h<;>first | (injection h with h;subst h;rfl) | cases h
def IU:(t:Nat)→List Value→Option (UEl t)
 | 6,cs=>qi cs
 | t,cs=>EG t cs
theorem Gr:∀ {t:Nat} {cs:List Value} {x:UEl t},IU t cs=some x→(UEn t).enc x=cs
 | 6,_,_,h=>(ng h).1.symm
 | 0,_,_,h=>gS (t:=0) h
 | 1,_,_,h=>gS (t:=1) h
 | 2,_,_,h=>gS (t:=2) h
 | 3,_,_,h=>gS (t:=3) h
 | 4,_,_,h=>gS (t:=4) h
 | 5,_,_,h=>gS (t:=5) h
 | t+7,_,_,h=>gS (t:=t+7) h
def ULi:(t:Nat)→(Nat→Nat)→UTy t→Nat→Option (Ls UEl)
 | 3,r,s,0=>some ⟨4,some ⟨r 2,0,none⟩,r 3,Pd.aj s⟩
 | 7,r,s,0=>some ⟨1,some ⟨r 0,0,none⟩,List.length (α:=U32) s,s⟩
 | 10,r,s,0=>some ⟨1,some ⟨r 0,0,none⟩,(Fl.rs s).length,Fl.rs s⟩
 | _,_,_,_=>none
def UFo:(t:Nat)→(Nat→Nat)→UTy t→Nat→Nat→Option FV
 | 1,_,_,0,0=>some (.o 1 0)
 | 1,_,s,0,1=>some (.v (.int .i64 (Pd.aw s)))
 | 3,_,_,0,0=>some (.o 1 0)
 | 3,_,_,0,1=>some (.l 0)
 | 3,_,s,0,2=>some (.v (.int .i64 (Pd.aw s)))
 | 8,_,s,0,0=>some (.v (.pointer (some ⟨LSt.pM s,0,none⟩)))
 | 8,_,s,0,1=>some (.v (.pointer (some ⟨LSt.pD s,0,none⟩)))
 | 8,_,s,0,2=>some (.v (.pointer (some ⟨LSt.pR s,0,none⟩)))
 | 10,_,s,0,15=>some (.v (.int .u32 (Fl.pc s)))
 | 10,_,s,0,16=>some (.v (.bool (Fl.z s)))
 | 10,_,s,0,17=>some (.v (.bool (Fl.n s)))
 | 10,_,s,0,18=>some (.v (.bool (Fl.l s)))
 | _,_,_,_,_=>none
def UFs:(t:Nat)→(Nat→Nat)→UTy t→Nat→Nat→Value→Option (Prop×UTy t)
 | 1,_,s,0,1,.int .i64 x=>some (0≤x∧x≤64,Pd.eN s x)
 | 3,_,s,0,2,.int .i64 x=>some (0≤x∧x≤64,Pd.eN s x)
 | 10,_,s,0,15,.int .u32 x=>some (True,{(show Fl from s)with pc:=x})
 | 10,_,s,0,16,.bool x=>some (True,{(show Fl from s)with z:=x})
 | 10,_,s,0,17,.bool x=>some (True,{(show Fl from s)with n:=x})
 | 10,_,s,0,18,.bool x=>some (True,{(show Fl from s)with l:=x})
 | _,_,_,_,_,_=>none
def USt:(t:Nat)→(Nat→Nat)→UTy t→Nat→Nat→(tt:Nat)→UEl tt→Option (Prop×UTy t)
 | 3,_,s,0,i,4,x=>some ((Ent.ok x=true∧Ent.owner x<((Pd.n s:Nat):Int)),Pd.set s i x)
 | 7,_,s,0,i,1,x=>some (True,List.set (α:=U32) s i x)
 | 10,_,s,0,i,1,x=>some (True,Fl.yB s i x)
 | _,_,_,_,_,_,_=>none
theorem Hn {w:World} {g mg e c:Nat} {E:Pd} {X:Nat→Prop}(hX:∀k,(k=g∨k=e)↔X k)(h:kG w g mg e c E):Rd w X (some (Addr.mk e 0 none)) E.aj.length c E.aj:=by
 rw [Pd.cI]
 exact h.es.rd.mono (fun k hk=>(hX k).1 (.inr hk.1)) fun k hk=>by rcases(hX k).2 hk with rfl | rfl;exact h.lt.1;exact h.lt.2
theorem yG {w:World} {g mg e c:Nat} {E:Pd}(h:kG w g mg e c E):w.cell? ⟨g,0,none⟩=some (.pointer (some ⟨mg,0,none⟩))∧w.cell? ⟨g,1,none⟩=some (.slice (some ⟨e,0,none⟩) E.aj.length c)∧w.cell? ⟨g,2,none⟩=some (.int .i64 E.aw):=by
 obtain⟨T,hd⟩:=h.hd
 rw [Pd.cI]
 exact⟨hd.cell rfl,hd.cell rfl,hd.cell rfl⟩
theorem GP {w:World} {g a mg:Nat} {E:Pd}(h:PdP w g a mg E):w.cell? ⟨g,0,none⟩=some (.pointer (some ⟨mg,0,none⟩))∧w.cell? ⟨g,1,none⟩=some (.int .i64 E.aw):=by
 obtain⟨T,hd⟩:=h.hd
 exact⟨hd.cell rfl,hd.cell rfl⟩
theorem FA {w:World} {g:Nat} {s:List U32} {X:Nat→Prop}(hX:∀k,k=g↔X k)(h:xm w g s):Rd w X (some (Addr.mk g 0 none)) s.length s.length s:=by
 obtain⟨T,hb⟩:=h
 refine⟨rfl,Nat.le_refl _,fun k hk=>by rw [(hX k).2 hk];exact hb.lt,fun i x hi=>⟨_,rfl,(hX _).1 rfl,fun j hj=>?_⟩⟩
 have hj:j=0:=by have:Enc.size U32=1:=rfl;omega
 subst hj
 have hl:i<s.length:=(List.getElem?_eq_some_iff.1 hi).1
 rw [bx,Nat.zero_add,show Enc.size U32=1 from rfl,Nat.mul_one]
 show w.cell? ⟨g,i,none⟩=some (.int .u32 x.v)
 refine hb.cell ?_
 rw [fA (by simpa using hl),List.getD_eq_getElem?_getD,List.getElem?_map,hi];rfl
theorem Fz {w:World} {g i:Nat} {s:List U32} {X:Nat→Prop}(hX:∀k,k=g↔X k)(h:xm w g s) {x y:U32}(hx:s[i]? =some x) {o:Nat} {vs:List Value}(ho:o+vs.length≤1)(hy:enc y=(enc x).take o++vs++(enc x).drop (o+vs.length)) {K:World→Prop}(hK:∀w',(∀k,k=g↔X k)∧xm w' g (s.set i y)→Ch X w w'→K w'):
 ax w (((Addr.mk g 0 none).add (i*1)).add o) vs K:=by
 obtain⟨T,hb⟩:=h
 have hl:i<s.length:=(List.getElem?_eq_some_iff.1 hx).1
 have hc:∀w2,bq w g (aT ((s.set i y).map U32.v)) T w2→K w2:=fun w2 st=>hK w2 ⟨hX,T,st.blk⟩ (st.ch.mono fun k hk=>(hX k).1 hk)
 rw [bx,Nat.zero_add,Nat.mul_one]
 have ex:enc x= [.int .u32 x.v]:=rfl
 have ey:enc y= [.int .u32 y.v]:=rfl
 rw [ex,ey]at hy
 match vs,o,ho with
 | [v],0,_=>
  simp at hy
  subst hy
  refine⟨g,i,_,T,rfl,hb,by simp;omega,fun w2 st=>hc w2 ?_⟩
  rw [List.map_set,← pA];exact st
 | [],0,_=>
  simp at hy
  refine⟨g,i,_,T,rfl,hb,by simp;omega,fun w2 st=>hc w2 ?_⟩
  have:s.set i y=s:=by
   have:y=x:=by cases x;cases y;simp at hy;rw [hy]
   rw [this];exact List.ext_getElem? fun j=>by rw [List.getElem?_set];split;(rename_i e;subst e;(try rw [if_pos hl]);rw [hx]);rfl
  rw [this];exact st
 | [],1,_=>
  simp at hy
  refine⟨g,i+1,_,T,rfl,hb,by simp;omega,fun w2 st=>hc w2 ?_⟩
  have:s.set i y=s:=by
   have:y=x:=by cases x;cases y;simp at hy;rw [hy]
   rw [this];exact List.ext_getElem? fun j=>by rw [List.getElem?_set];split;(rename_i e;subst e;(try rw [if_pos hl]);rw [hx]);rfl
  rw [this];exact st
theorem Fy {w:World} {g n:Nat} {s:List U32} {X:Nat→Prop}(hX:∀k,k=g↔X k)(h:xm w g s)(hn:s.length=n):X g∧∀j u,(aJ (fun j=>Value.int .u32 (s.getD j (U32.mk 0)).v) (upN 0 n))[j]? =some u→w.cell? ⟨g,0+j,none⟩=some u:=by
 obtain⟨T,hb⟩:=h
 refine⟨(hX _).1 rfl,fun j u hj=>?_⟩
 rw [← aL,bD]at hj
 cases hn2:nth (upN 0 n) j with
 | none=>rw [hn2]at hj;cases hj
 | some i=>
  rw [hn2]at hj
  have hij:i=j:=by have:=lJ hn2;omega
  have hlt:=aP hn2
  rw [lK]at hlt
  subst hij
  injection hj with hj
  rw [← hj,Nat.zero_add]
  refine hb.cell ?_
  rw [fA (by simp;omega),List.getD_eq_getElem?_getD,List.getElem?_map]
  show _=some (Value.int .u32 (s.getD i (U32.mk 0)).v)
  rw [List.getD_eq_getElem?_getD]
  cases s[i]? <;>rfl
theorem Fx {w:World} {g:Nat} {s l:List U32} {vs:List Value} {X:Nat→Prop}(hX:∀k,k=g↔X k)(h:xm w g s)(hl:y4 vs=some l)(hn:s.length=l.length) {K:World→Prop}(hK:∀w',(∀k,k=g↔X k)∧xm w' g l→Ch X w w'→K w'):ax w ⟨g,0,none⟩ vs K:=by
 obtain⟨T,hb⟩:=h
 have e:=qh hl
 have e2:vs=(aT (l.map U32.v)).toList:=by rw [e];simp [aT]
 rw [e2]
 exact ki hb (by simp;omega) fun w2 st=>hK w2 ⟨hX,T,st.blk⟩ (st.ch.mono fun k hk=>(hX k).1 hk)
theorem HX {t:Nat} {r:Nat→Nat} {s:UTy t} {X:Nat→Prop} {w:World} {i:Nat} {L:Ls UEl}(h:bo t r s X w)(hl:ULi t r s i=some L): @Rd (UEl L.t) (UEn L.t) w X L.A L.l.length L.c L.l:=by
 unfold ULi at hl
 split at hl
 ·injection hl with hl
  subst hl
  exact Hn h.1 h.2
 ·injection hl with hl
  subst hl
  exact FA h.1 h.2
 ·injection hl with hl
  subst hl
  exact h.2.li h.1
 ·cases hl
theorem H0 {t:Nat} {r:Nat→Nat} {s:UTy t} {X:Nat→Prop} {w:World} {path off:Nat} {f:FV} {v:Value}(h:bo t r s X w)(hf:UFo t r s path off=some f)(hv:fvV r (ULi t r s) f=some v):X (r path)∧w.cell? ⟨r path,off,none⟩=some v:=by
 unfold UFo at hf
 split at hf
 ·injection hf with hf
  subst hf
  obtain⟨a,hX,hD⟩:=h
  have h:=GP hD
  simp only [fvV]at hv
  exact⟨(hX _).1 (.inl rfl),by rw [← hv];exact h.1⟩
 ·injection hf with hf
  subst hf
  obtain⟨a,hX,hD⟩:=h
  have h:=GP hD
  simp only [fvV]at hv
  exact⟨(hX _).1 (.inl rfl),by rw [← hv];exact h.2⟩
 ·injection hf with hf
  subst hf
  have h':=yG h.2
  simp only [fvV]at hv
  exact⟨(h.1 _).1 (.inl rfl),by rw [← hv];exact h'.1⟩
 ·injection hf with hf
  subst hf
  have h':=yG h.2
  simp only [fvV,ULi]at hv
  exact⟨(h.1 _).1 (.inl rfl),by rw [← hv];exact h'.2.1⟩
 ·injection hf with hf
  subst hf
  have h':=yG h.2
  simp only [fvV]at hv
  exact⟨(h.1 _).1 (.inl rfl),by rw [← hv];exact h'.2.2⟩
 all_goals first
  | cases hf;done
  | (injection hf with hf
     subst hf
     obtain⟨a,L,RL,h1,h2,h3,h4,h5,h6,h7⟩:=h.dbs
     simp only [fvV]at hv
     exact⟨(h7 _).1 (.inl rfl),by rw [← hv];exact h.hd.cell rfl⟩)
  | (injection hf with hf
     subst hf
     obtain⟨hX,hl,T,hb⟩:=h
     simp only [fvV,Option.some.injEq]at hv
     exact⟨(hX _).1 rfl,by rw [← hv];exact hb.cell rfl⟩)
theorem HZ {t:Nat} {r:Nat→Nat} {s s':UTy t} {X:Nat→Prop} {w:World} {path off:Nat} {v:Value} {c:Prop}(h:bo t r s X w)(hf:UFs t r s path off v=some (c,s'))(hc:c) {K:World→Prop}(hK:∀w',bo t r s' X w'→Ch X w w'→K w'):ax w ⟨r path,off,none⟩ [v] K:=by
 unfold UFs at hf
 split at hf
 ·simp only [Option.some.injEq,Prod.mk.injEq]at hf
  obtain⟨rfl,rfl⟩:=hf
  obtain⟨a,hX,hD⟩:=h
  exact hD.A8 hc fun w' h' q=>hK w' ⟨a,hX,h'⟩ (q.mono fun k hk=>(hX k).1 (.inl hk))
 ·simp only [Option.some.injEq,Prod.mk.injEq]at hf
  obtain⟨rfl,rfl⟩:=hf
  exact h.2.A8 hc fun w' h' q=>hK w' ⟨h.1,h'⟩ (q.mono fun k hk=>(h.1 k).1 (.inl hk))
 ·simp only [Option.some.injEq,Prod.mk.injEq]at hf
  obtain⟨rfl,rfl⟩:=hf
  exact FlP.st h.2 (by omega) (by exact h.2.len) (by rfl) fun w' h' q=>hK w' ⟨h.1,h'⟩ (q.mono fun k hk=>(h.1 k).1 hk)
 ·simp only [Option.some.injEq,Prod.mk.injEq]at hf
  obtain⟨rfl,rfl⟩:=hf
  exact FlP.st h.2 (by omega) (by exact h.2.len) (by rfl) fun w' h' q=>hK w' ⟨h.1,h'⟩ (q.mono fun k hk=>(h.1 k).1 hk)
 ·simp only [Option.some.injEq,Prod.mk.injEq]at hf
  obtain⟨rfl,rfl⟩:=hf
  exact FlP.st h.2 (by omega) (by exact h.2.len) (by rfl) fun w' h' q=>hK w' ⟨h.1,h'⟩ (q.mono fun k hk=>(h.1 k).1 hk)
 ·simp only [Option.some.injEq,Prod.mk.injEq]at hf
  obtain⟨rfl,rfl⟩:=hf
  exact FlP.st h.2 (by omega) (by exact h.2.len) (by rfl) fun w' h' q=>hK w' ⟨h.1,h'⟩ (q.mono fun k hk=>(h.1 k).1 hk)
 ·cases hf
theorem HV {t:Nat} {r:Nat→Nat} {s s':UTy t} {X:Nat→Prop} {w:World} {j i:Nat} {L:Ls UEl} {x y:UEl L.t} {off:Nat} {vs:List Value} {c:Prop}(h:bo t r s X w)(hl:ULi t r s j=some L)(hx:L.l[i]? =some x)(ho:off+vs.length≤(UEn L.t).size)(hy:(UEn L.t).enc y=((UEn L.t).enc x).take off++vs++((UEn L.t).enc x).drop (off+vs.length))(hs:USt t r s j i L.t y=some (c,s'))(hc:c) {K:World→Prop}(hK:∀w',bo t r s' X w'→Ch X w w'→K w'):ax w (((L.A.getD ⟨0,0,none⟩).add (i*(UEn L.t).size)).add off) vs K:=by
 unfold ULi at hl
 split at hl
 ·injection hl with hl
  subst hl
  simp only [USt,Option.some.injEq,Prod.mk.injEq]at hs
  obtain⟨rfl,rfl⟩:=hs
  exact h.2.Hj hx ho hy hc fun w' h' q=>hK w' ⟨h.1,h'⟩ (q.mono fun k hk=>(h.1 k).1 (.inr hk))
 ·injection hl with hl
  subst hl
  simp only [USt,Option.some.injEq,Prod.mk.injEq]at hs
  obtain⟨rfl,rfl⟩:=hs
  exact Fz h.1 h.2 hx ho hy hK
 ·injection hl with hl
  subst hl
  simp only [USt,Option.some.injEq,Prod.mk.injEq]at hs
  obtain⟨rfl,rfl⟩:=hs
  exact h.2.stR h.1 hx ho hy hK
 ·cases hl
def Mem.Wf(m:Mem):Prop:=(∀s i o,0≤m.pg s i o∧m.pg s i o<4294967296)∧m.S≤64∧m.I≤64
structure LSt.Ok(s:LSt):Prop where
 wf:s.D.mem.Wf
 pd:s.D.pd.Ok
 pos:1≤s.R.S
def UIv:(t:Nat)→UTy t→Prop
 | 0,s=>Mem.Wf s
 | 1,s=>Pd.Ok s
 | 2,s=>Mem.Wf s
 | 3,s=>Pd.Ok s
 | 8,s=>LSt.Ok s
 | 10,s=>Fl.Ok s
 | _,_=>True
theorem uv:∀ {t:Nat} {r:Nat→Nat} {s:UTy t} {X:Nat→Prop} {w:World},bo t r s X w→UIv t s
 | 0,_,_,_,_,⟨_,_,_,h⟩=>⟨h.u32,h.dC⟩
 | 1,_,_,_,_,⟨_,_,h⟩=>h.ok
 | 2,_,_,_,_,⟨_,_,h⟩=>⟨h.u32,h.dC⟩
 | 3,_,_,_,_,⟨_,h⟩=>h.ok
 | 4,_,_,_,_,_=>trivial
 | 5,_,_,_,_,_=>trivial
 | 6,_,_,_,_,_=>trivial
 | 7,_,_,_,_,_=>trivial
 | 8,_,_,_,_,h=>by
  obtain⟨a,L,RL,h1,h2,h3,h4⟩:=h.dbs
  exact⟨⟨h2.mem.u32,h2.mem.dC⟩,h2.pd.ok,h3.pos⟩
 | 9,_,_,_,_,_=>trivial
 | 10,_,_,_,_,h=>h.2.len
 | _+11,_,_,_,_,_=>trivial
def UMk:TypeId→List Value→Option ((t:Nat)×UTy t)
 | 134,cs=>(match y4 cs with
  | some l=>some ⟨7,l⟩
  | none=>none)
 | 163,cs=>(match qi cs with
  | some s=>some ⟨10,s⟩
  | none=>none)
 | 207,cs=>(match qi cs with
  | some s=>some ⟨10,s⟩
  | none=>none)
 | _,_=>none
theorem EF {T:TypeId} {cs:List Value} {s:Fl} {w:World} {g:Nat}(h:qi cs=some s)(hb:Blk w g ⟨cs⟩ T):bo 10 (fun _=>g) s (fun k=>k=g) w:=by
 obtain⟨rfl,h2⟩:=ng h
 exact⟨fun k=>Iff.rfl,h2,_,hb⟩
theorem HW {T:TypeId} {cs:List Value} {q:(t:Nat)×UTy t} {w:World} {g:Nat}(h:UMk T cs=some q)(hb:Blk w g ⟨cs⟩ T):bo q.1 (fun _=>g) q.2 (fun k=>k=g) w:=by
 unfold UMk at h
 split at h
 ·split at h
  ·rename_i l hl
   injection h with h
   subst h
   have:=qh hl
   subst this
   exact(⟨fun k=>Iff.rfl,_,hb.cast (by simp [aT])⟩:(∀k,k=g↔k=g)∧xm w g l)
  ·cases h
 ·split at h
  ·rename_i s hs
   injection h with h
   subst h
   exact EF hs hb
  ·cases h
 ·split at h
  ·rename_i s hs
   injection h with h
   subst h
   exact EF hs hb
  ·cases h
 ·cases h
def UIx:Nat→Nat→Nat→Option Nat
 | 7,0,0=>some 0
 | 10,0,0=>some 0
 | _,_,_=>none
theorem HY {t:Nat} {r:Nat→Nat} {s:UTy t} {path off i:Nat} {L:Ls UEl}(h:UIx t path off=some i)(hl:ULi t r s i=some L):L.A=some ⟨r path,off,none⟩:=by
 unfold UIx at h
 split at h
 ·injection h with h
  subst h
  injection hl with hl
  subst hl;rfl
 ·injection h with h
  subst h
  injection hl with hl
  subst hl;rfl
 ·cases h
def UWl:(t:Nat)→(Nat→Nat)→UTy t→Nat→Nat→Nat→Option (Prop×List Value)
 | 7,_,s,0,0,n=>some (List.length (α:=U32) s=n,aJ (fun j=>.int .u32 (List.getD (α:=U32) s j (U32.mk 0)).v) (upN 0 n))
 | 10,_,s,0,0,19=>some (True,Fl.cells s)
 | _,_,_,_,_,_=>none
theorem HU {t:Nat} {r:Nat→Nat} {s:UTy t} {X:Nat→Prop} {w:World} {path off n:Nat} {c:Prop} {cs:List Value}(h:bo t r s X w)(hw:UWl t r s path off n=some (c,cs))(hc:c):X (r path)∧∀j u,cs[j]? =some u→w.cell? ⟨r path,off+j,none⟩=some u:=by
 unfold UWl at hw
 split at hw
 ·simp only [Option.some.injEq,Prod.mk.injEq]at hw
  obtain⟨rfl,rfl⟩:=hw
  exact Fy h.1 h.2 hc
 ·simp only [Option.some.injEq,Prod.mk.injEq]at hw
  obtain⟨rfl,rfl⟩:=hw
  obtain⟨hX,hl,T,hb⟩:=h
  exact⟨(hX _).1 rfl,fun j u hj=>by rw [Nat.zero_add];exact hb.cell (by simpa using hj)⟩
 ·cases hw
def UWs:(t:Nat)→(Nat→Nat)→UTy t→Nat→Nat→List Value→Option (Prop×UTy t)
 | 7,_,s,0,0,vs=>(match y4 vs with
  | some l=>some (List.length (α:=U32) s=l.length,l)
  | none=>none)
 | 10,_,_,0,0,vs=>(match qi vs with
  | some l=>some (True,l)
  | none=>none)
 | _,_,_,_,_,_=>none
theorem HT {t:Nat} {r:Nat→Nat} {s s':UTy t} {X:Nat→Prop} {w:World} {path off:Nat} {vs:List Value} {c:Prop}(h:bo t r s X w)(hs:UWs t r s path off vs=some (c,s'))(hc:c) {K:World→Prop}(hK:∀w',bo t r s' X w'→Ch X w w'→K w'):ax w ⟨r path,off,none⟩ vs K:=by
 unfold UWs at hs
 split at hs
 ·split at hs
  ·rename_i l hl
   simp only [Option.some.injEq,Prod.mk.injEq]at hs
   obtain⟨rfl,rfl⟩:=hs
   exact Fx h.1 h.2 hl hc hK
  ·cases hs
 ·split at hs
  ·rename_i l hl
   simp only [Option.some.injEq,Prod.mk.injEq]at hs
   obtain⟨rfl,rfl⟩:=hs
   obtain⟨e,h2⟩:=ng hl
   subst e
   exact h.2.all h2 fun w' h' q=>hK w' ⟨h.1,h'⟩ (q.mono fun k hk=>(h.1 k).1 hk)
  ·cases hs
 ·cases hs
def Un:Uni where
 ty:=UTy
 pred:=bo
 ch:=EE
 lt:=ED
 el:=UEl
 en:=UEn
 df:=UDf
 dec:=IU
 iB:=Gr
 cd:=fun t=>match t with
  | 3=>some 0
  | 22=>some 1
  | 4=>some 3
  | 99=>some 4
  | 120=>some 4
  | 42=>some 5
  | 24=>some 7
  | _=>none
 li:=ULi
 GV:=HX
 iv:=fun t=>match t with
  | 0 | 1 | 2 | 3 | 8 | 10=>true
  | _=>false
 inv:=UIv
 yP:=uv
 fo:=UFo
 GY:=H0
 fs:=UFs
 GX:=HZ
 st:=USt
 GO:=HV
 mko:=UMk
 Dw:=HW
 ix:=UIx
 GW:=HY
 wl:=UWl
 GM:=HU
 ws:=UWs
 C0:=HT
end Go.Proofs.YtbjlecpmgocoeaaGreatDoor
end
section
namespace Go.Proofs.YtbjlecpmgocoeaaGreatDoor
open Go Go.RowKit V Go.ChangeShapes Go.WideShapes Go.ChangeAt
open Go.IntKind (i64 u32 u64)
open Enc (enc)
theorem wf_u32 {x:Int}(h:(Lit.int .u32 x).wf=true):0≤x∧x<4294967296:=by
 have:0≤x∧x≤4294967295:=by simpa [Lit.wf,IntKind.min,IntKind.max,IntKind.signed,IntKind.bits]using h
 omega
section
variable {P:Program} {W:World} {H:Type} {enc:TypeId×Value→H}
theorem sq {n:Nat} {e:TypeId} {k:IntKind} {t:TypeId} {fuel base:Nat} {sp:Nat→Bool} {held:Bool} {cs:List Value} {l:List Int} {q:List MemPlace}(ht:P.underlying t=some (.array n e))(ue:P.underlying e=some (.int k))(ce:P.cellsOf e=1)
 (h:DataW.trod enc P W base sp held fuel t cs=some (.agg (l.map fun x=>.lit (.int k x)),q))(hct:P.cellsOf t=n):cs=l.map (Value.int k):=by
 obtain⟨xs,m,rfl,hx,hl,hxl,hel⟩:=DataW.trod_array ht h
 have hc:cs.length=n:=hl.trans hct
 simp only [Prod.mk.injEq,DataW.agg.injEq]at hx
 have hn:l.length=n:=by have:=congrArg List.length hx.1;simpa [hxl]using this
 refine List.ext_getElem? fun i=>?_
 by_cases hi:i<n
 ·have h1:=hel i hi
  rw [ce,Nat.mul_one]at h1
  have hi2:i<cs.length:=by omega
  rw [show(cs.drop i).take 1= [cs[i]]from by rw [List.drop_eq_getElem_cons hi2];rfl]at h1
  have hi3:i<xs.length:=by omega
  rw [List.getElem?_eq_getElem hi3]at h1
  obtain⟨x,e1,e2,_⟩:=DataW.trod_int ue h1
  have e3:=congrArg (fun z=>z[i]?) hx.1
  simp only [List.getElem?_map,List.getElem?_eq_getElem hi3,Option.map_some,e2]at e3
  have hi4:i<l.length:=by omega
  simp only [List.getElem?_eq_getElem hi4,Option.map_some,Option.some.injEq]at e3
  injection e3 with e3
  injection e3 with _ e3
  injection e1 with e1 _
  rw [List.getElem?_eq_getElem hi2,e1,List.getElem?_map,List.getElem?_eq_getElem hi4,Option.map_some,e3]
 ·rw [List.getElem?_eq_none (by omega),List.getElem?_eq_none (by simp;omega)]
theorem vv {n:String} {g:Nat} {cs:Array Value} {ps:List MemPlace}(hg:P.globalNamed n=some g)(hv:W.var? P n=some cs)(h0:0<cs.size)(hps:MemPlace.row ⟨g,0,none⟩ cs.size ⊆ ps)(hc:∀b off,MemPlace.cell b off∈ps→(∃c t,W.heap[b]? =some (.cells c t (0,0)))∧∀u v,W.cell? ⟨b,off,none⟩=some (.iface u v)→Value.okWide P W .any 0 u v):∃T,Blk W g cs T:=by
 have h1:MemPlace.cell g 0∈ps:=hps (by unfold MemPlace.row;exact List.mem_map.2 ⟨0,List.mem_range.2 h0,rfl⟩)
 obtain⟨⟨c,t,h2⟩,_⟩:=hc _ _ h1
 unfold World.var? at hv
 rw [hg]at hv
 simp only [Option.bind_some,h2,Option.some.injEq]at hv
 subst hv
 exact⟨t,h2⟩
end
end Go.Proofs.YtbjlecpmgocoeaaGreatDoor
end
section
namespace Go.Proofs.YtbjlecpmgocoeaaGreatDoor.V
open Go Go.RowKit
open Go.IntKind (i64 u32 u64)
open Enc (enc)
section
variable {U:Uni} {P:Program} {tbl:Tb U} {may:List Nat} {k0:Nat}
def Ext(θ θ':Th):Prop:=∀j i,cf θ j=some i→cf θ' j=some i
theorem Ext.refl(θ:Th):Ext θ θ:=fun _ _ h=>h
theorem Ext.trans {a b c:Th}(h:Ext a b)(k:Ext b c):Ext a c:=fun j i hj=>k j i (h j i hj)
theorem gz {j id:Nat} {θ:Th} {F:Th→Prop}(h:kV j id θ F):∃θ',F θ'∧Ext θ θ'∧cf θ' j=some id:=by
 unfold kV at h
 split at h
 ·rename_i hn
  refine⟨_,h,fun j' i hj=>?_,?_⟩
  ·unfold cf
   split
   ·rename_i he
    rw [← Nat.eq_of_beq_eq_true he,hn]at hj
    cases hj
   ·exact hj
  ·simp [cf]
 ·rename_i i hi
  split at h
  ·rename_i he
   exact⟨θ,h,Ext.refl θ,by rw [hi,Nat.eq_of_beq_eq_true he]⟩
  ·exact h.elim
theorem kh {j i:Nat}:∀ {θ:Th},cf θ j=some i→(j,i)∈θ
 | [],h=>by cases h
 | (a,b)::r,h=>by
  unfold cf at h
  split at h
  ·rename_i he
   injection h with h
   rw [← h,Nat.eq_of_beq_eq_true he]
   exact List.mem_cons_self ..
  ·exact List.mem_cons_of_mem _ (kh h)
theorem Hg {θ:Th}(hn:mZ (aJ (·.2) θ)=true) {a b i:Nat}(ha:cf θ a=some i)(hb:cf θ b=some i):a=b:=by
 have h1:=kh ha
 have h2:=kh hb
 have h3:=k8 hn
 rw [gJ]at h3
 have key:∀(l:Th),(l.map (·.2)).Nodup→(a,i)∈l→(b,i)∈l→a=b:=by
  intro l
  induction l with
  | nil=>intro _ h;cases h
  | cons x r ih=>
   intro hd h1 h2
   rw [List.map_cons,List.nodup_cons]at hd
   rcases List.mem_cons.1 h1 with e1 | h1
   ·rcases List.mem_cons.1 h2 with e2 | h2
    ·rw [← e1]at e2;injection e2 with e2;exact e2.symm
    ·exact absurd (List.mem_map.2 ⟨(b,i),h2,by rw [← e1]⟩) hd.1
   ·rcases List.mem_cons.1 h2 with e2 | h2
    ·exact absurd (List.mem_map.2 ⟨(a,i),h1,by rw [← e2]⟩) hd.1
    ·exact ih hd.2 h1 h2
 exact key θ h3 h1 h2
theorem PK.tH {f:Nat→Option Nat} {p q:PK}(h:p.ren f=some q):f p.id=some q.id:=by
 cases p<;>simp only [PK.ren,Option.map_eq_some_iff]at h<;>obtain⟨i,hi,rfl⟩:=h<;>exact hi
theorem PK.Dj {f g:Nat→Option Nat}(h:∀j i,f j=some i→g j=some i) {p q:PK}(hp:p.ren f=some q):p.ren g=some q:=by
 cases p<;>simp only [PK.ren,Option.map_eq_some_iff]at hp ⊢ <;>obtain⟨i,hi,rfl⟩:=hp<;>exact⟨i,h _ _ hi,rfl⟩
def Rel(r r':Res U):Prop:=r=r'∨∃(t:Nat)(own:Bool)(T T':TypeId)(A:Option Addr)(c:Nat)(l:List (U.el t)),r= .lst t false T A c l∧r'= .lst t own T' A c l
theorem Rel.den {r r':Res U}(h:Rel r r') {f:Nat→Option Nat} {p q:PK}(hp:p.ren f=some q):bS U p (some r)=bS U q (some r'):=by
 rcases h with rfl | ⟨t,own,T,T',A,c,l,rfl,rfl⟩
 ·cases p<;>simp only [PK.ren,Option.map_eq_some_iff]at hp<;>obtain⟨i,hi,rfl⟩:=hp<;>cases r<;>rfl
 ·cases p<;>simp only [PK.ren,Option.map_eq_some_iff]at hp<;>obtain⟨i,hi,rfl⟩:=hp<;>rfl
def Emb(f:Nat→Option Nat)(L G:List (Res U)):Prop:=∀j r,nth L j=some r→∃i r',f j=some i∧nth G i=some r'∧Rel r r'
theorem Emb.dn {f:Nat→Option Nat} {L G:List (Res U)}(h:Emb f L G) {p q:PK}(hp:p.ren f=some q) {v:Value}(hd:den U L p=some v):den U G q=some v:=by
 unfold V.den at hd ⊢
 cases hn:nth L p.id with
 | none=>rw [hn]at hd;cases p<;>simp [bS]at hd
 | some r=>
  rw [hn]at hd
  obtain⟨i,r',h1,h2,h3⟩:=h _ _ hn
  rw [PK.tH hp]at h1
  injection h1 with h1
  subst h1
  rw [h2,← h3.den hp]
  exact hd
theorem cW {f:Nat→Option Nat} {l:List (Option PK)} {j:Nat} {q:PK}(h:nth (aJ (pG f) l) j=some (some q)):∃p,nth l j=some (some p)∧p.ren f=some q:=by
 rw [bD]at h
 cases hn:nth l j with
 | none=>rw [hn]at h;cases h
 | some o=>
  rw [hn]at h
  injection h with h
  cases o with
  | none=>cases h
  | some p=>exact⟨p,rfl,h⟩
theorem Emb.kn {f:Nat→Option Nat} {L G:List (Res U)}(h:Emb f L G) {k k':Kn}(hk:k.ren f=some k') {v:Value}(hv:gY L v k):gY G v k':=by
 cases k with
 | p p=>
  simp only [Kn.ren,Option.map_eq_some_iff]at hk
  obtain⟨q,hq,rfl⟩:=hk
  exact h.dn hq hv
 | t l=>
  simp only [Kn.ren,Option.some.injEq]at hk
  subst hk
  obtain⟨vs,e,hh⟩:=hv
  refine⟨vs,e,fun j q hj=>?_⟩
  obtain⟨p,hp,hq⟩:=cW hj
  obtain⟨u,hu,hd⟩:=hh j p hp
  exact⟨u,hu,h.dn hq hd⟩
 | ag l=>
  simp only [Kn.ren,Option.some.injEq]at hk
  subst hk
  obtain⟨vs,e,hh⟩:=hv
  refine⟨vs,e,fun j q hj=>?_⟩
  obtain⟨p,hp,hq⟩:=cW hj
  obtain⟨u,hu,hd⟩:=hh j p hp
  exact⟨u,hu,h.dn hq hd⟩
 | f a b=>
  simp only [Kn.ren,Option.some.injEq]at hk
  subst hk
  obtain⟨fn,fs,cs,e,hl,h1,h2⟩:=hv
  refine⟨fn,fs,cs,e,by simpa using hl,fun j q hj=>?_,fun j q hj=>?_⟩
  ·obtain⟨p,hp,hq⟩:=cW hj
   obtain⟨u,hu,hd⟩:=h1 j p hp
   exact⟨u,hu,h.dn hq hd⟩
  ·obtain⟨p,hp,hq⟩:=cW hj
   obtain⟨u,hu,hd⟩:=h2 j p hp
   exact⟨u,hu,h.dn hq hd⟩
theorem Emb.knO {f:Nat→Option Nat} {L G:List (Res U)}(h:Emb f L G) {k:Option Kn} {v:Value}(hv:KnO L v k):KnO G v (DI f k):=by
 cases k with
 | none=>exact trivial
 | some k=>
  show KnO G v (k.ren f)
  cases hk:k.ren f with
  | none=>exact trivial
  | some k'=>exact h.kn hk hv
theorem iN {f:Nat→Option Nat} {key:Key} {k':Kn}:∀ {l:List (Key×Kn)},(key,k')∈jH f l→∃i i' o k,((key= .c i' o∧(Key.c i o,k)∈l)∨(key= .l i' o∧(Key.l i o,k)∈l))∧f i=some i'∧k.ren f=some k'
 | [],h=>by cases h
 | (.s _,_)::r,h=>by
  obtain⟨i,i',o,k,h1,h3⟩:=iN (l:=r) h
  exact⟨i,i',o,k,h1.imp (fun h=>⟨h.1,List.mem_cons_of_mem _ h.2⟩) (fun h=>⟨h.1,List.mem_cons_of_mem _ h.2⟩),h3⟩
 | (.c i o,k)::r,h=>by
  have tail:(key,k')∈jH f r→∃i1 i' o1 k1,((key= .c i' o1∧(Key.c i1 o1,k1)∈(Key.c i o,k)::r)∨(key= .l i' o1∧(Key.l i1 o1,k1)∈(Key.c i o,k)::r))∧f i1=some i'∧k1.ren f=some k':=fun h=>by
   obtain⟨i,i',o,k,h1,h3⟩:=iN (l:=r) h
   exact⟨i,i',o,k,h1.imp (fun h=>⟨h.1,List.mem_cons_of_mem _ h.2⟩) (fun h=>⟨h.1,List.mem_cons_of_mem _ h.2⟩),h3⟩
  simp only [jH]at h
  split at h
  ·rename_i i' k2 hi hk
   rcases List.mem_cons.1 h with e | h
   ·injection e with e1 e2
    subst e1;subst e2
    exact⟨i,i',o,k,.inl ⟨rfl,List.mem_cons_self ..⟩,hi,hk⟩
   ·exact tail h
  ·exact tail h
 | (.l i o,k)::r,h=>by
  have tail:(key,k')∈jH f r→∃i1 i' o1 k1,((key= .c i' o1∧(Key.c i1 o1,k1)∈(Key.l i o,k)::r)∨(key= .l i' o1∧(Key.l i1 o1,k1)∈(Key.l i o,k)::r))∧f i1=some i'∧k1.ren f=some k':=fun h=>by
   obtain⟨i,i',o,k,h1,h3⟩:=iN (l:=r) h
   exact⟨i,i',o,k,h1.imp (fun h=>⟨h.1,List.mem_cons_of_mem _ h.2⟩) (fun h=>⟨h.1,List.mem_cons_of_mem _ h.2⟩),h3⟩
  simp only [jH]at h
  split at h
  ·rename_i i' k2 hi hk
   rcases List.mem_cons.1 h with e | h
   ·injection e with e1 e2
    subst e1;subst e2
    exact⟨i,i',o,k,.inr ⟨rfl,List.mem_cons_self ..⟩,hi,hk⟩
   ·exact tail h
  ·exact tail h
def AvD(θ:Th)(v:Value)(k:Option PK):AV→Prop
 | .v x=>x=v
 | .k p=>∃q,k=some q∧p.ren (cf θ)=some q
theorem AvD.mono {θ θ':Th}(h:Ext θ θ') {v:Value} {k:Option PK} {a:AV}(ha:AvD θ v k a):AvD θ' v k a:=by
 cases a with
 | v x=>exact ha
 | k p=>obtain⟨q,h1,h2⟩:=ha;exact⟨q,h1,PK.Dj h h2⟩
def zZ(θ:Th)(vs:List Value)(kc:Nat→Option PK)(i:Nat)(az:List AV):Prop:=az.length=vs.length∧∀j a v,nth az j=some a→nth vs j=some v→AvD θ v (kc (i+j)) a
theorem zZ.mono {θ θ':Th}(h:Ext θ θ') {vs:List Value} {kc:Nat→Option PK} {i:Nat} {az:List AV}(ha:zZ θ vs kc i az):zZ θ' vs kc i az:=⟨ha.1,fun j a v h1 h2=>(ha.2 j a v h1 h2).mono h⟩
theorem AB {T:Type} {c:CP} {J:c.T T} {v:Value} {k:Option PK} {θ:Th} {F:T→Th→Prop}(h:apC c J v k θ F):∃J' θ' a,F J' θ'∧Ext θ θ'∧(∀G:T→AV→Prop,alC c J G→G J' a)∧AvD θ' v k a:=by
 cases c with
 | int kk=>
  cases v<;>simp only [apC]at h<;>skip
  rename_i k' x
  split at h
  ·rename_i he
   obtain rfl:=l7 he
   exact⟨_,θ,.v (.int kk x),h,Ext.refl θ,fun G hG=>hG x,rfl⟩
  ·exact h.elim
 | bool=>
  cases v<;>simp only [apC]at h<;>skip
  exact⟨_,θ,_,h,Ext.refl θ,fun G hG=>hG _,rfl⟩
 | str=>
  cases v<;>simp only [apC]at h<;>skip
  exact⟨_,θ,_,h,Ext.refl θ,fun G hG=>hG _,rfl⟩
 | any=>exact⟨_,θ,.v v,h,Ext.refl θ,fun G hG=>hG _,rfl⟩
 | nil=>
  simp only [apC]at h
  split at h
  ·exact⟨_,θ,_,h,Ext.refl θ,fun G hG=>hG,rfl⟩
  ·exact h.elim
 | fn f=>
  simp only [apC]at h
  split at h
  ·split at h
   ·rename_i he
    obtain rfl:=Nat.eq_of_beq_eq_true he
    exact⟨_,θ,_,h,Ext.refl θ,fun G hG=>hG,rfl⟩
   ·exact h.elim
  ·exact h.elim
 | ptr j=>
  simp only [apC]at h
  split at h
  ·rename_i id
   obtain⟨θ',h1,h2,h3⟩:=gz h
   exact⟨_,θ',_,h1,h2,fun G hG=>hG,_,rfl,by simp [PK.ren,h3]⟩
  ·exact h.elim
 | obj j path=>
  simp only [apC]at h
  split at h
  ·rename_i id p
   split at h
   ·rename_i he
    obtain⟨θ',h1,h2,h3⟩:=gz h
    exact⟨_,θ',_,h1,h2,fun G hG=>hG,_,rfl,by simp [PK.ren,h3,Nat.eq_of_beq_eq_true he]⟩
   ·exact h.elim
  ·exact h.elim
 | sl j=>
  simp only [apC]at h
  split at h
  ·rename_i id
   obtain⟨θ',h1,h2,h3⟩:=gz h
   exact⟨_,θ',_,h1,h2,fun G hG=>hG,_,rfl,by simp [PK.ren,h3]⟩
  ·exact h.elim
theorem qv {T:Type}:∀ {l:List CP} {J:zY l T} {vs:List Value} {kc:Nat→Option PK} {i:Nat} {θ:Th} {F:T→Th→Prop},F9 l J vs kc i θ F→∃J' θ' az,F J' θ'∧Ext θ θ'∧(∀G:T→List AV→Prop,zg l J G→G J' az)∧zZ θ' vs kc i az
 | [],J,[],kc,i,θ,F,h=>⟨J,θ,[],h,Ext.refl θ,fun G hG=>hG,rfl,fun j a v ha=>by simp [nth]at ha⟩
 | [],_,_::_,_,_,_,_,h=>h.elim
 | c::l,J,[],_,_,_,_,h=>h.elim
 | c::l,J,v::vs,kc,i,θ,F,h=>by
  obtain⟨J1,θ1,a,h1,e1,g1,d1⟩:=AB h
  obtain⟨J2,θ2,az,h2,e2,g2,d2⟩:=qv h1
  refine⟨J2,θ2,a::az,h2,e1.trans e2,fun G hG=>g2 (fun J'' vs=>G J'' (a::vs)) (g1 (fun J' a'=>zg l J' fun J'' vs=>G J'' (a'::vs)) hG),?_,fun j b u hb hu=>?_⟩
  ·simp [d2.1]
  ·cases j with
   | zero=>
    simp only [nth,Option.some.injEq]at hb hu
    subst hb;subst hu
    exact d1.mono e2
   | succ j=>
    have:=d2.2 j b u hb hu
    rwa [show i+1+j=i+(j+1)by omega]at this
def AaD(θ:Th)(v:Value)(k:Option Kn):AA→Prop
 | .one a=>AvD θ v (gh k) a
 | .agg az=>∃cs,v= .agg cs∧zZ θ cs.toList (HR k) 0 az
theorem AaD.mono {θ θ':Th}(h:Ext θ θ') {v:Value} {k:Option Kn} {a:AA}(ha:AaD θ v k a):AaD θ' v k a:=by
 cases a with
 | one a=>exact AvD.mono h ha
 | agg az=>obtain⟨cs,e,hh⟩:=ha;exact⟨cs,e,hh.mono h⟩
theorem wD {T:Type}:∀ {l:List AP} {J:z1 U l T} {vs:List Value} {ks:List (Option Kn)} {θ:Th} {F:T→Th→Prop},wE l J vs ks θ F→∃J' θ' az,F J' θ'∧Ext θ θ'∧(∀G:T→List AA→Prop,zh l J G→G J' az)∧az.length=vs.length∧∀j a v,nth az j=some a→nth vs j=some v→∃k,nth ks j=some k∧AaD θ' v k a
 | [],J,[],ks,θ,F,h=>⟨J,θ,[],h,Ext.refl θ,fun G hG=>hG,rfl,fun j a v ha=>by simp [nth]at ha⟩
 | [],_,_::_,_,_,_,h=>by simp [wE]at h
 | _::_,_,[],_,_,_,h=>by simp [wE]at h
 | _::_,_,_::_,[],_,_,h=>by simp [wE]at h
 | a::l,J,v::vs,k::ks,θ,F,h=>by
  simp only [wE]at h
  have one:∃J' θ' x,wE l J' vs ks θ' F∧Ext θ θ'∧(∀G:z1 U l T→AA→Prop,alA a J G→G J' x)∧AaD θ' v k x:=by
   cases a with
   | one c=>
    obtain⟨J1,θ1,x,h1,e1,g1,d1⟩:=AB (show apC c J v (gh k) θ _ from h)
    exact⟨J1,θ1,.one x,h1,e1,fun G hG=>g1 (fun J' y=>G J' (.one y)) hG,d1⟩
   | agg cs=>
    simp only [apA]at h
    split at h
    ·rename_i vs'
     obtain⟨J1,θ1,x,h1,e1,g1,d1⟩:=qv h
     exact⟨J1,θ1,.agg x,h1,e1,fun G hG=>g1 (fun J' y=>G J' (.agg y)) hG,vs',rfl,d1⟩
    ·exact h.elim
   | enc tt=>
    simp only [apA]at h
    split at h
    ·rename_i cs
     split at h
     ·rename_i x hx
      have e:=U.iB hx
      refine⟨_,θ,.agg (aJ .v ((U.en tt).enc x)),h,Ext.refl θ,fun G hG=>hG x,cs,rfl,?_,fun j a v ha hv=>?_⟩
      ·rw [e,gJ,List.length_map]
      ·rw [e,bD,hv]at ha
       injection ha with ha
       subst ha;rfl
     ·exact h.elim
    ·exact h.elim
  obtain⟨J1,θ1,x,h1,e1,g1,d1⟩:=one
  obtain⟨J2,θ2,az,h2,e2,g2,l2,d2⟩:=wD h1
  refine⟨J2,θ2,x::az,h2,e1.trans e2,fun G hG=>g2 (fun J'' vs=>G J'' (x::vs)) (g1 (fun J' a'=>zh l J' fun J'' vs=>G J'' (a'::vs)) hG),by simp [l2],fun j b u hb hu=>?_⟩
  cases j with
  | zero=>
   simp only [nth,Option.some.injEq]at hb hu
   subst hb;subst hu
   exact⟨k,rfl,d1.mono e2⟩
  | succ j=>exact d2 j b u hb hu
def LkD(θ:Th)(kl:Nat→Option PK)(lk:List (Nat×Nat×Nat)):Prop:=∀p j q,(p,j,q)∈lk→∃i,kl p=some (.obj i q 0)∧cf θ j=some i
def PrD(θ:Th)(kc kl:Nat→Option PK):PR U→Res U→Prop
 | .ob t r s lk,x=>x= .ob t r s∧LkD θ kl lk
 | .blk g az T,x=>∃cs,x= .blk g cs T∧zZ θ cs kc 0 az
 | .lst t own T A c l,x=>∃own' T',x= .lst t own' T' A c l∧(own=true→own'=true∧T'=T)
theorem PrD.mono {θ θ':Th}(h:Ext θ θ') {kc kl:Nat→Option PK} {p:PR U} {x:Res U}(hp:PrD θ kc kl p x):PrD θ' kc kl p x:=by
 cases p with
 | ob t r s lk=>exact⟨hp.1,fun p j q hm=>by obtain⟨i,h1,h2⟩:=hp.2 p j q hm;exact⟨i,h1,h _ _ h2⟩⟩
 | blk g az T=>obtain⟨cs,e,hh⟩:=hp;exact⟨cs,e,hh.mono h⟩
 | lst t own T A c l=>exact hp
def Ho:RP→Bool
 | .lst _ own _=>!own
 | _=>false
def Hu:PR U→Bool
 | .lst _ own _ _ _ _=>!own
 | _=>false
theorem wB:∀ {l:List (Nat×Nat×Nat)} {kl:Nat→Option PK} {θ:Th} {F:Th→Prop},F8 l kl θ F→∃θ',F θ'∧Ext θ θ'∧LkD θ' kl l
 | [],kl,θ,F,h=>⟨θ,h,Ext.refl θ,fun _ _ _ hm=>by cases hm⟩
 | (p,j,q)::l,kl,θ,F,h=>by
  simp only [F8]at h
  split at h
  ·rename_i i q' hk
   split at h
   ·rename_i hq
    have hq:=Nat.eq_of_beq_eq_true hq
    subst hq
    obtain⟨θ1,h1,e1,g1⟩:=gz h
    obtain⟨θ2,h2,e2,g2⟩:=wB h1
    refine⟨θ2,h2,e1.trans e2,fun p' j' q'' hm=>?_⟩
    rcases List.mem_cons.1 hm with e | hm
    ·injection e with ea eb
     injection eb with eb ec
     subst ea;subst eb;subst ec
     exact⟨i,hk,e2 _ _ g1⟩
    ·exact g2 _ _ _ hm
   ·exact h.elim
  ·exact h.elim
theorem F7 {T:Type} {p:RP} {J:p.T U T} {r:Option (Res U)} {kc kl:Nat→Option PK} {θ:Th} {F:T→Th→Prop}(h:apR p J r kc kl θ F):∃J' θ' x y,r=some x∧F J' θ'∧Ext θ θ'∧(∀G:T→PR U→Prop,alR p J G→G J' y)∧PrD θ' kc kl y x∧Hu y=Ho p:=by
 cases p with
 | ob t lk=>
  cases r with
  | none=>exact h.elim
  | some x=>
   cases x<;>simp only [apR]at h<;>skip
   rename_i t' r s
   split at h
   ·rename_i ht
    subst ht
    obtain⟨θ1,h1,e1,g1⟩:=wB h
    exact⟨_,θ1,_,.ob t' r s lk,rfl,h1,e1,fun G hG=>hG r s,⟨rfl,g1⟩,rfl⟩
   ·exact h.elim
 | blk l T'=>
  cases r with
  | none=>exact h.elim
  | some x=>
   cases x<;>simp only [apR]at h<;>skip
   rename_i g cs T''
   split at h
   ·rename_i ht
    obtain⟨J1,θ1,az,h1,e1,g1,d1⟩:=qv h
    exact⟨J1,θ1,_,.blk g az T',rfl,h1,e1,fun G hG=>g1 (fun J' cs=>G J' (.blk g cs T')) (hG g),⟨cs,by rw [Nat.eq_of_beq_eq_true ht],d1⟩,rfl⟩
   ·exact h.elim
 | lst t own T'=>
  cases r with
  | none=>exact h.elim
  | some x=>
   cases x<;>simp only [apR]at h<;>skip
   rename_i t' own' T'' A c l
   split at h
   ·rename_i hb
    split at h
    ·rename_i ht
     subst ht
     refine⟨_,θ,_,.lst t' own T' A c l,rfl,h,Ext.refl θ,fun G hG=>hG A c l,⟨own',T'',rfl,fun ho=>?_⟩,rfl⟩
     subst ho
     simp only [Bool.not_true,Bool.false_or,Bool.and_eq_true]at hb
     exact⟨hb.1,Nat.eq_of_beq_eq_true hb.2⟩
    ·exact h.elim
   ·exact h.elim
theorem wz {T:Type} {rs:List (Res U)} {kn:List (Key×Kn)}:∀ {l:List RP} {J:Cb U l T} {j0:Nat} {θ:Th} {F:T→Th→Prop},F6 rs kn l J j0 θ F→∃J' θ' ps,F J' θ'∧Ext θ θ'∧(∀G:T→List (PR U)→Prop,zf l J G→G J' ps)∧ps.length=l.length∧
 ∀j p,nth ps j=some p→∃id x,cf θ' (j0+j)=some id∧nth rs id=some x∧PrD θ' (fun o=>gh (cz (.c id o) kn)) (fun q=>gh (cz (.l id q) kn)) p x∧∃q,nth l j=some q∧Hu p=Ho q
 | [],J,j0,θ,F,h=>⟨J,θ,[],h,Ext.refl θ,fun G hG=>hG,rfl,fun j p hp=>by simp [nth]at hp⟩
 | p::l,J,j0,θ,F,h=>by
  simp only [F6]at h
  split at h
  ·rename_i id hid
   obtain⟨J1,θ1,x,y,e0,h1,e1,g1,d1,q1⟩:=F7 h
   obtain⟨J2,θ2,ps,h2,e2,g2,l2,d2⟩:=wz h1
   refine⟨J2,θ2,y::ps,h2,e1.trans e2,fun G hG=>g2 (fun J'' xs=>G J'' (y::xs)) (g1 (fun J' y'=>zf l J' fun J'' xs=>G J'' (y'::xs)) hG),by simp [l2],fun j q hq=>?_⟩
   cases j with
   | zero=>
    simp only [nth,Option.some.injEq]at hq
    subst hq
    exact⟨id,x,e2 _ _ (e1 _ _ hid),e0,d1.mono e2,p,rfl,q1⟩
   | succ j=>
    obtain⟨id',x',h3,h4,h5,h6⟩:=d2 j q hq
    exact⟨id',x',by rw [show j0+(j+1)=j0+1+j by omega];exact h3,h4,h5,h6⟩
  ·exact h.elim
theorem sS {rs:List (Res U)}:∀ {l:List (Nat×Nat)} {θ:Th} {F:Th→Prop},Az rs l θ F→∃θ',F θ'∧Ext θ θ'
 | [],θ,F,h=>⟨θ,h,Ext.refl θ⟩
 | (j,t)::l,θ,F,h=>by
  simp only [Az]at h
  split at h
  ·obtain⟨θ1,h1,e1,_⟩:=gz h
   obtain⟨θ2,h2,e2⟩:=sS h1
   exact⟨θ2,h2,e1.trans e2⟩
  ·exact h.elim
structure ep(w0:World)(k0:Nat)(X0:Nat→Nat→Prop)(may:List Nat)(fr:Fr)(st:St U)(X:Nat→Nat→Prop)(w:World)(st':St U)(X':Nat→Nat→Prop)(w':World)(M:List Nat):Prop where
 inv:Inv w0 k0 X0 may st'.rs X' w'
 kn:aA st'.rs fr st'.kn
 md:st'.md=M++st.md
 mlt:∀i,i∈M→i<st.rs.length
 can:∀i,i∈M→i∈may∨k0≤i
 len:st.rs.length≤st'.rs.length
 same:∀i,i<st.rs.length→i ∉ M→nth st'.rs i=nth st.rs i∧X' i=X i
 grow:∀i,i∈M→∀k,X' i k→X i k∨w.heap.size≤k
 new:∀i,st.rs.length≤i→i<st'.rs.length→∀k,X' i k→w.heap.size≤k
 ch:Ch (fun k=>∃j,j∈M∧X j k) w w'
 root:∀i a,nth st.rs i=some a→∃b,nth st'.rs i=some b∧cU a b
theorem fG {i:Nat}(h:ni may k0 i=true):i∈may∨k0≤i:=by
 unfold ni at h
 split at h
 ·rename_i hb;exact .inr (Nat.le_of_ble_eq_true hb)
 ·exact .inl (eg.1 h)
theorem eK:∀ {M:List Nat} {us:List (Upd U)} {rs rs':List (Res U)},aX rs M us=some rs'→rs'.length=rs.length∧(∀i,i ∉ M→nth rs' i=nth rs i)∧∀i,i∈M→i<rs.length∧∀a,nth rs i=some a→∃b,nth rs' i=some b∧cU a b
 | [],[],rs,rs',h=>by
  simp only [aX,Option.some.injEq]at h
  subst h
  exact⟨rfl,fun _ _=>rfl,fun i hi=>by cases hi⟩
 | [],_::_,_,_,h=>by simp [aX]at h
 | _::_,[],_,_,h=>by simp [aX]at h
 | i::M,u::us,rs,rs',h=>by
  simp only [aX]at h
  split at h
  ·rename_i r hr
   split at h
   ·rename_i r' hr'
    obtain⟨h1,h2,h3⟩:=eK h
    have hi:=aP hr
    simp only [vc]at h1 h3
    have e:∀j,nth (bY rs i r') j=if j=i then some r' else nth rs j:=fun j=>by
     rw [bp]
     by_cases hj:j=i
     ·rw [if_pos ⟨hj,hi⟩,if_pos hj]
     ·rw [if_neg (fun hh=>hj hh.1),if_neg hj]
    refine⟨h1,fun j hj=>?_,fun j hj=>?_⟩
    ·rw [List.mem_cons,not_or]at hj
     rw [h2 j hj.2,e,if_neg hj.1]
    ·refine⟨?_,fun a ha=>?_⟩
     ·rcases List.mem_cons.1 hj with rfl | hj
      ·exact hi
      ·exact(h3 j hj).1
     ·by_cases hji:j=i
      ·subst hji
       rw [hr]at ha
       injection ha with ha
       subst ha
       have hrt:=wx hr'
       by_cases hm:j∈M
       ·obtain⟨b,hb,hrb⟩:=(h3 j hm).2 r' (by rw [e,if_pos rfl])
        exact⟨b,hb,hrt.trans hrb⟩
       ·exact⟨r',by rw [h2 j hm,e,if_pos rfl],hrt⟩
      ·have hm:j∈M:=(List.mem_cons.1 hj).resolve_left hji
       exact(h3 j hm).2 a (by rw [e,if_neg hji];exact ha)
   ·cases h
  ·cases h
theorem n6 {f:Nat→Option Nat}(hinj:∀a b i,f a=some i→f b=some i→a=b):∀ {ms M:List Nat} {us:List (Upd U)} {L L' G G':List (Res U)},gI f ms=some M→aX L ms us=some L'→aX G M us=some G'→Emb f L G→(∀j,j∈ms→∀r,nth L j=some r→∃i,f j=some i∧nth G i=some r)→
 Emb f L' G'∧∀j,j∈ms→∀r,nth L' j=some r→∃i,f j=some i∧nth G' i=some r
 | [],M,us,L,L',G,G',hM,hL,hG,hE,hR=>by
  simp only [gI,Option.some.injEq]at hM
  subst hM
  cases us with
  | cons u us=>simp [aX]at hL
  | nil=>
   simp only [aX,Option.some.injEq]at hL hG
   subst hL;subst hG
   exact⟨hE,fun j hj=>by cases hj⟩
 | m::ms,M,us,L,L',G,G',hM,hL,hG,hE,hR=>by
  simp only [gI]at hM
  split at hM
  ·rename_i i M' hi hM'
   injection hM with hM
   subst hM
   cases us with
   | nil=>simp [aX]at hL
   | cons u us=>
    simp only [aX]at hL hG
    split at hL
    ·rename_i r hr
     split at hL
     ·rename_i r1 hr1
      obtain⟨i',h1,h2⟩:=hR m (List.mem_cons_self ..) r hr
      rw [hi]at h1
      injection h1 with h1
      subst h1
      rw [h2]at hG
      simp only [hr1]at hG
      have hml:=aP hr
      have hil:=aP h2
      have key:∀j x,nth (bY L m r1) j=some x→(j=m∧x=r1)∨(j≠m∧nth L j=some x):=by
       intro j x hx
       rw [bp]at hx
       by_cases hj:j=m
       ·rw [if_pos ⟨hj,hml⟩]at hx
        injection hx with hx
        exact .inl ⟨hj,hx.symm⟩
       ·rw [if_neg (fun hh=>hj hh.1)]at hx
        exact .inr ⟨hj,hx⟩
      have keyG:∀j,nth (bY G i r1) j=if j=i then some r1 else nth G j:=fun j=>by
       rw [bp]
       by_cases hj:j=i
       ·rw [if_pos ⟨hj,hil⟩,if_pos hj]
       ·rw [if_neg (fun hh=>hj hh.1),if_neg hj]
      have r1':=n6 hinj hM' hL hG (fun j x hx=>by
       rcases key j x hx with⟨rfl,rfl⟩ | ⟨hj,hx⟩
       ·exact⟨i,_,hi,by rw [keyG,if_pos rfl],.inl rfl⟩
       ·obtain⟨a,b,h3,h4,h5⟩:=hE j x hx
        exact⟨a,b,h3,by rw [keyG,if_neg (by rintro rfl;exact hj (hinj _ _ _ h3 hi))];exact h4,h5⟩) (fun j hj x hx=>by
       rcases key j x hx with⟨rfl,rfl⟩ | ⟨hj',hx⟩
       ·exact⟨i,hi,by rw [keyG,if_pos rfl]⟩
       ·obtain⟨a,h3,h4⟩:=hR j (List.mem_cons_of_mem _ hj) x hx
        exact⟨a,h3,by rw [keyG,if_neg (by rintro rfl;exact hj' (hinj _ _ _ h3 hi))];exact h4⟩)
      refine⟨r1'.1,fun j hj x hx=>?_⟩
      by_cases hjm:j∈ms
      ·exact r1'.2 j hjm x hx
      ·have hjm':j=m:=(List.mem_cons.1 hj).resolve_right hjm
       subst hjm'
       have a1:=(eK hL).2.1 j hjm
       rw [hx,bp,if_pos ⟨rfl,hml⟩]at a1
       injection a1 with a1
       subst a1
       have hiM:i ∉ M':=by
        intro hh
        have:∀ {l M':List Nat},gI f l=some M'→i∈M'→∃a∈l,f a=some i:=by
         intro l
         induction l with
         | nil=>intro M' h hh;simp only [gI,Option.some.injEq]at h;subst h;cases hh
         | cons a l ih=>
          intro M' h hh
          simp only [gI]at h
          split at h
          ·rename_i b bs hb hbs
           injection h with h
           subst h
           rcases List.mem_cons.1 hh with rfl | hh
           ·exact⟨a,List.mem_cons_self ..,hb⟩
           ·obtain⟨c,hc,hfc⟩:=ih hbs hh
            exact⟨c,List.mem_cons_of_mem _ hc,hfc⟩
          ·cases h
        obtain⟨a,ha,hfa⟩:=this hM' hh
        exact hjm (hinj _ _ _ hfa hi▸ha)
       refine⟨i,hi,?_⟩
       rw [(eK hG).2.1 i hiM,keyG,if_pos rfl]
     ·cases hL
    ·cases hL
  ·cases hM
theorem vF {α β:Type} {f:α→Option β}:∀ {l:List α} {r:List β},gI f l=some r→∀b,b∈r→∃a,a∈l∧f a=some b
 | [],r,h,b,hb=>by
  simp only [gI,Option.some.injEq]at h
  subst h
  cases hb
 | a::l,r,h,b,hb=>by
  simp only [gI]at h
  split at h
  ·rename_i c cs hc hcs
   injection h with h
   subst h
   rcases List.mem_cons.1 hb with rfl | hb
   ·exact⟨a,List.mem_cons_self ..,hc⟩
   ·obtain⟨x,hx,hfx⟩:=vF hcs b hb
    exact⟨x,List.mem_cons_of_mem _ hx,hfx⟩
  ·cases h
theorem ku {α β:Type} {f:α→Option β}:∀ {l:List α} {r:List β},gI f l=some r→∀a,a∈l→∃b,b∈r∧f a=some b
 | [],r,h,a,ha=>by cases ha
 | a::l,r,h,x,hx=>by
  simp only [gI]at h
  split at h
  ·rename_i c cs hc hcs
   injection h with h
   subst h
   rcases List.mem_cons.1 hx with rfl | hx
   ·exact⟨c,List.mem_cons_self ..,hc⟩
   ·obtain⟨b,hb,hfb⟩:=ku hcs x hx
    exact⟨b,List.mem_cons_of_mem _ hb,hfb⟩
  ·cases h
theorem iQ {ps:List (PR U)} {j:Nat}:nth (dk ps) j=(nth ps j).map (PR.fin (aJ PR.lP ps)):=by
 unfold dk
 exact bD _ _ _
@[simp] theorem Ia(ps:List (PR U)):(dk ps).length=ps.length:=by unfold dk;simp
theorem uf(ps:List (PR U))(p:PK):den U (dk ps) p=den U (aJ PR.lP ps) p:=by
 unfold den
 rw [iQ,bD]
 cases nth ps p.id with
 | none=>rfl
 | some y=>cases y<;>cases p<;>rfl
theorem Ag {i:Nat} {key:Key} {k:Kn}:∀ {l:List (Nat×Nat×Nat)},(key,k)∈lkK i l→∃p j q,(p,j,q)∈l∧key= .l i p∧k= .p (.obj j q 0)
 | (p,j,q)::l,h=>by
  rcases List.mem_cons.1 h with e | h
  ·injection e with e1 e2
   exact⟨p,j,q,List.mem_cons_self ..,e1,e2⟩
  ·obtain⟨p',j',q',h1,h2⟩:=Ag (l:=l) h
   exact⟨p',j',q',List.mem_cons_of_mem _ h1,h2⟩
theorem jU {key:Key} {k:Kn}:∀ {l:List (PR U)} {i:Nat},(key,k)∈vI i l→∃j t r s lk p j' q,nth l j=some (.ob t r s lk)∧(p,j',q)∈lk∧key= .l (i+j) p∧k= .p (.obj j' q 0)
 | [],_,h=>by cases h
 | .ob t r s lk::l,i,h=>by
  rcases List.mem_append.1 h with h | h
  ·obtain⟨p,j',q,h1,h2,h3⟩:=Ag h
   exact⟨0,t,r,s,lk,p,j',q,rfl,h1,h2,h3⟩
  ·obtain⟨j,t,r,s,lk,p,j',q,h1,h2,h3,h4⟩:=jU (l:=l) h
   exact⟨j+1,t,r,s,lk,p,j',q,h1,h2,by rw [h3];congr 1;omega,h4⟩
 | .blk _ _ _::l,i,h=>by
  obtain⟨j,t,r,s,lk,p,j',q,h1,h2,h3,h4⟩:=jU (l:=l) h
  exact⟨j+1,t,r,s,lk,p,j',q,h1,h2,by rw [h3];congr 1;omega,h4⟩
 | .lst _ _ _ _ _ _::l,i,h=>by
  obtain⟨j,t,r,s,lk,p,j',q,h1,h2,h3,h4⟩:=jU (l:=l) h
  exact⟨j+1,t,r,s,lk,p,j',q,h1,h2,by rw [h3];congr 1;omega,h4⟩
theorem BJ {f:Nat} {args:List Value} {ks:List (Option Kn)} {st:St U} {K:ff U} {w0:World} {X0 X:Nat→Nat→Prop} {w:World} {fr:Fr}(htb:∀f c,tbl.c f=some c→LV U P f c)(hI:Inv w0 k0 X0 may st.rs X w)(hk:aA st.rs fr st.kn)
 (hks:∀j v k,nth args j=some v→nth ks j=some k→KnO st.rs v k)(h:call2 U tbl may k0 f args ks st K):
 Calls P f ⟨args⟩ w fun e w'=>∃v k st' X' M,e= .returned v∧K v k st'∧KnO st'.rs v k∧ep w0 k0 X0 may fr st X w st' X' w' M:=by
 unfold call2 at h
 split at h
 ·exact h.elim
 rename_i c hc
 have hlv:=htb f c hc
 obtain⟨B1,θ1,az,h,e1,g1,la,da⟩:=wD h
 obtain⟨θ2,h,e2⟩:=sS h
 obtain⟨B2,θ,ps,h,e3,g3,lp,dp⟩:=wz h
 split at h
 case h_2=>exact h.elim
 rename_i M hb hM
 simp only [Bool.and_eq_true]at hb
 obtain⟨hnd,hdom,hmods⟩:=hb
 split at h
 case h_2=>exact h.elim
 rename_i hcan
 have hinj:∀a b i,cf θ a=some i→cf θ b=some i→a=b:=fun a b i=>Hg hnd
 have hlt:∀j i,cf θ j=some i→j<ps.length:=fun j i hj=>by
  have:=cm.1 hdom _ (kh hj)
  rw [lp]
  simpa [Nat.blt_eq]using this
 have hden:∀ {p q v},p.ren (cf θ)=some q→den U st.rs q=some v→den U (aJ PR.lP ps) p=some v:=by
  intro p q v hp hd
  obtain⟨y,hy⟩:=bO (hlt _ _ (PK.tH hp))
  obtain⟨id,x,h1,h2,h3,_⟩:=dp _ y hy
  rw [Nat.zero_add,PK.tH hp]at h1
  injection h1 with h1
  subst h1
  unfold den at hd ⊢
  rw [h2]at hd
  rw [bD,hy,← hd]
  simp only [Option.map_some]
  cases y with
  | ob t r s lk=>
   cases h3.1
   cases p<;>simp only [PK.ren,Option.map_eq_some_iff]at hp<;>obtain⟨i,hi,rfl⟩:=hp<;>rfl
  | blk g as' T=>
   obtain⟨cs,rfl,_⟩:=h3
   cases p<;>simp only [PK.ren,Option.map_eq_some_iff]at hp<;>obtain⟨i,hi,rfl⟩:=hp<;>rfl
  | lst t own T A c' l=>
   obtain⟨own',T',rfl,_⟩:=h3
   cases p<;>simp only [PK.ren,Option.map_eq_some_iff]at hp<;>obtain⟨i,hi,rfl⟩:=hp<;>rfl
 have hav:∀ {v:Value} {k:Option PK} {a:AV},AvD θ v k a→(∀p,k=some p→den U st.rs p=some v)→kN (aJ PR.lP ps) a=v:=by
  intro v k a ha hkk
  cases a with
  | v x=>exact ha
  | k p=>
   obtain⟨q,hq,hr⟩:=ha
   show(den U _ p).getD undef=v
   rw [hden hr (hkk q hq)];rfl
 have havs:∀ {vs:List Value} {kc:Nat→Option PK} {az:List AV},zZ θ vs kc 0 az→(∀j v p,nth vs j=some v→kc j=some p→den U st.rs p=some v)→aJ (kN (aJ PR.lP ps)) az=vs:=by
  intro vs kc az hd hkk
  apply List.ext_getElem?
  intro j
  rw [← aL,← aL,bD]
  cases ha:nth az j with
  | none=>
   have:vs.length≤j:=by
    rw [← hd.1]
    apply Nat.le_of_not_lt
    intro hh
    obtain⟨x,hx⟩:=bO hh
    rw [hx]at ha;cases ha
   rw [pP this];rfl
  | some a=>
   obtain⟨v,hv⟩:=bO (l:=vs) (i:=j) (by rw [← hd.1];exact aP ha)
   rw [hv]
   have hd':=hd.2 j a v ha hv
   rw [Nat.zero_add]at hd'
   exact congrArg some (hav hd' (fun p hp=>hkk j v p hv hp))
 have hargs:aJ (wL (aJ PR.lP ps)) az=args:=by
  apply List.ext_getElem?
  intro j
  rw [← aL,← aL,bD]
  cases ha:nth az j with
  | none=>
   have:args.length≤j:=by
    rw [← la]
    apply Nat.le_of_not_lt
    intro hh
    obtain⟨x,hx⟩:=bO hh
    rw [hx]at ha;cases ha
   rw [pP this];rfl
  | some a=>
   obtain⟨v,hv⟩:=bO (l:=args) (i:=j) (by rw [← la];exact aP ha)
   rw [hv]
   obtain⟨k,hkj,hd⟩:=da j a v ha hv
   have hd:=hd.mono (e2.trans e3)
   have hkn:=hks j v k hv hkj
   cases a with
   | one a=>
    refine congrArg some (hav hd fun p hp=>?_)
    unfold gh at hp
    split at hp
    ·injection hp with hp;subst hp;exact hkn
    ·cases hp
   | agg as'=>
    obtain⟨cs,rfl,hd2⟩:=hd
    have h9:=havs hd2 (fun j v p hv hp=>by
     unfold HR at hp
     split at hp
     ·rename_i l _
      obtain⟨cs',e,hh⟩:=hkn
      injection e with e
      subst e
      split at hp
      ·rename_i o ho
       subst hp
       obtain⟨u,hu,hd⟩:=hh _ _ ho
       rw [aL]at hv
       have:some v=some u:=by rw [← hv,← hu];simp
       injection this with this
       rw [this];exact hd
      ·cases hp
     ·cases hp)
    show some (Value.agg ⟨aJ _ as'⟩)=_
    rw [h9]
 have hfin:Emb (cf θ) (dk ps) st.rs:=by
  intro j r hr
  rw [iQ]at hr
  cases hy:nth ps j with
  | none=>rw [hy]at hr;cases hr
  | some y=>
   rw [hy]at hr
   injection hr with hr
   obtain⟨id,x,h1,h2,h3,_⟩:=dp _ y hy
   rw [Nat.zero_add]at h1
   refine⟨id,x,h1,h2,?_⟩
   cases y with
   | ob t r' s lk=>exact .inl (by rw [← hr,h3.1];rfl)
   | blk g as' T=>
    obtain⟨cs,rfl,hd⟩:=h3
    left
    rw [← hr]
    show Res.blk g (aJ _ as') T=_
    rw [havs hd fun o v p hv hp=>?_]
    unfold gh at hp
    split at hp
    ·rename_i q hq
     injection hp with hp
     subst hp
     obtain⟨g',cs',T',u,e4,e5,e6⟩:=hk.get hq
     rw [h2]at e4
     injection e4 with e4
     injection e4 with _ e4 _
     subst e4
     rw [hv]at e5
     injection e5 with e5
     subst e5
     exact e6
    ·cases hp
   | lst t own T A c' l=>
    obtain⟨own',T',rfl,ho⟩:=h3
    cases own with
    | false=>exact .inr ⟨t,own',T,T',A,c',l,hr.symm,rfl⟩
    | true=>
     obtain⟨ho1,ho2⟩:=ho rfl
     left
     rw [← hr,ho1,ho2];rfl
 have hmod:∀j,j∈c.bI→∀r,nth (dk ps) j=some r→∃i,cf θ j=some i∧nth st.rs i=some r:=by
  intro j hj r hr
  obtain⟨i,r',h1,h2,h3⟩:=hfin j r hr
  refine⟨i,h1,?_⟩
  rcases h3 with rfl | ⟨t,own,T,T',A,c',l,rfl,rfl⟩
  ·exact h2
  ·exfalso
   have hm:=cm.1 hmods j hj
   rw [iQ]at hr
   cases hy:nth ps j with
   | none=>rw [hy]at hr;cases hr
   | some y=>
    rw [hy]at hr
    injection hr with hr
    obtain⟨_,_,_,_,_,q,hq,hqr⟩:=dp j y hy
    rw [hq]at hm
    have hy1:Hu y=true:=by
     cases y<;>simp only [PR.fin,reduceCtorEq]at hr
     injection hr with e1 e2
     subst e2;rfl
    rw [hy1]at hqr
    cases q<;>simp [Ho]at hqr
    subst hqr
    simp at hm
 have hXl:∀j i,cf θ j=some i→X ((cf θ j).getD 0)=X i:=fun j i hj=>by simp [hj]
 have hsat:Sat (dk ps) (fun j=>X ((cf θ j).getD 0)) w:=by
  refine⟨fun j r hr=>?_,fun i j hi hj hij k hk1=>?_⟩
  ·obtain⟨i,r',h1,h2,h3⟩:=hfin j r hr
   rw [hXl j i h1]
   have:=hI.sat.res i r' h2
   rcases h3 with rfl | ⟨t,own,T,T',A,c',l,rfl,rfl⟩
   ·exact this
   ·exact this.rd
  ·obtain⟨x,hx⟩:=bO hi
   obtain⟨y,hy⟩:=bO hj
   obtain⟨a,_,h1,h2,_⟩:=hfin i x hx
   obtain⟨b,_,h3,h4,_⟩:=hfin j y hy
   rw [hXl i a h1]at hk1
   rw [hXl j b h3]
   exact hI.sat.dis a b (aP h2) (aP h4) (fun e=>hij (hinj i j a h1 (e▸h3))) k hk1
 have hgo:=g3 _ (g1 _ hlv)
 have hlk:aA (dk ps) fr0 (vI 0 ps):=by
  intro key k hm
  obtain⟨j,t,r,s,lk,p,j',q,e1,e2,rfl,rfl⟩:=jU hm
  rw [Nat.zero_add]
  obtain⟨id,x,h1,h2,h3,_⟩:=dp _ _ e1
  rw [Nat.zero_add]at h1
  obtain⟨h3,h4⟩:=h3
  obtain⟨i,h5,h6⟩:=h4 _ _ _ e2
  refine⟨t,r,s,by rw [iQ,e1];rfl,?_⟩
  dsimp only at h5
  unfold gh at h5
  split at h5
  ·rename_i k' hk'
   injection h5 with h5
   subst h5
   obtain⟨t',r',s',g1,g2⟩:=hk.get hk'
   rw [h2,h3]at g1
   injection g1 with g1
   cases g1
   show den U (dk ps) (.obj j' q 0)=_
   rw [uf]
   exact hden (p:= .obj j' q 0) (q:= .obj i q 0) (by simp [PK.ren,h6]) g2
  ·cases h5
 have hcall:=hgo _ h _ w hsat hlk
 rw [hargs]at hcall
 refine hcall.mono fun e w' hp=>?_
 obtain⟨out,rsl,Xl,rfl,hQ,happ,hpost⟩:=hp
 split at hQ
 case h_2=>exact hQ.elim
 rename_i rs' hrs'
 obtain⟨hemb,hmod2⟩:=n6 hinj hM happ hrs' hfin hmod
 obtain⟨u1,u2,u3⟩:=eK hrs'
 obtain⟨v1,v2,v3⟩:=eK happ
 have hMlt:∀i,i∈M→i<st.rs.length:=fun i hi=>(u3 i hi).1
 have hkl:c.res.length=ps.length:=lp.symm
 have hrl:rsl.length=ps.length:=by rw [v1];simp
 have hfull:Emb (z4 θ c.res.length st.rs.length) (rsl++out.news) (rs'++out.news):=by
  intro j r hr
  rw [aW]at hr
  unfold z4
  by_cases hj:j<rsl.length
  ·rw [if_pos hj]at hr
   obtain⟨i,r',h1,h2,h3⟩:=hemb j r hr
   have hb:Nat.blt j c.res.length=true:=by rw [Nat.blt_eq];omega
   rw [hb]
   exact⟨i,r',h1,by rw [aW,if_pos (aP h2)];exact h2,h3⟩
  ·rw [if_neg hj]at hr
   have hb:Nat.blt j c.res.length=false:=by
    cases hb:Nat.blt j c.res.length
    ·rfl
    ·rw [Nat.blt_eq]at hb;omega
   rw [hb]
   refine⟨_,r,rfl,?_,.inl rfl⟩
   rw [aW,if_neg (by omega),u1]
   rw [show st.rs.length+(j - c.res.length) - st.rs.length=j - rsl.length by omega]
   exact hr
 let X':Nat→Nat→Prop:=fun i=>open Classical in if h:∃j,j∈c.bI∧cf θ j=some i then Xl h.choose else if i<st.rs.length then X i else Xl (c.res.length+(i - st.rs.length))
 have hXM:∀j i,j∈c.bI→cf θ j=some i→X' i=Xl j:=by
  intro j i hj hi
  have hex:∃j,j∈c.bI∧cf θ j=some i:=⟨j,hj,hi⟩
  show(open Classical in if h:_ then _ else _)=_
  rw [dif_pos hex,hinj _ _ _ hex.choose_spec.2 hi]
 have hMj:∀i,i∈M→∃j,j∈c.bI∧cf θ j=some i:=fun i hi=>vF hM i hi
 have hjM:∀j i,j∈c.bI→cf θ j=some i→i∈M:=by
  intro j i hj hi
  obtain⟨b,hb,hb2⟩:=ku hM j hj
  rw [hi]at hb2
  injection hb2 with hb2
  exact hb2▸hb
 have hXs:∀i,i<st.rs.length→i ∉ M→X' i=X i:=by
  intro i hi hm
  show(open Classical in if h:_ then _ else _)=_
  rw [dif_neg (fun⟨j,hj,hji⟩=>hm (hjM j i hj hji)),if_pos hi]
 have hXn:∀i,st.rs.length≤i→X' i=Xl (c.res.length+(i - st.rs.length)):=by
  intro i hi
  show(open Classical in if h:_ then _ else _)=_
  rw [dif_neg (fun⟨j,hj,hji⟩=>by have:=hMlt i (hjM j i hj hji);omega),if_neg (by omega)]
 have hjlt:∀j,j∈c.bI→j<ps.length:=by
  intro j hj
  obtain⟨b,_,hb⟩:=ku hM j hj
  exact hlt j b hb
 have hloc:∀j r,j∈c.bI→nth rsl j=some r→nth (rsl++out.news) j=some r:=fun j r hj hr=>by rw [aW,if_pos (aP hr)];exact hr
 have hrsM:∀j i r,j∈c.bI→cf θ j=some i→nth rs' i=some r→nth rsl j=some r:=by
  intro j i r hj hi hr
  obtain⟨r0,hr0⟩:=bO (l:=rsl) (i:=j) (by rw [hrl];exact hjlt j hj)
  obtain⟨i',h1,h2⟩:=hmod2 j hj r0 hr0
  rw [hi]at h1
  injection h1 with h1
  subst h1
  rw [hr]at h2
  injection h2 with h2
  rw [hr0,h2]
 have hq:Ch (fun k=>∃j,j∈M∧X j k) w w':=hpost.ch.mono fun k ⟨j,hj,hk⟩=>by
  obtain⟨b,hb,hb2⟩:=ku hM j hj
  exact⟨b,hb,by rw [hXl j b hb2]at hk;exact hk⟩
 have hgrow:∀i,i∈M→∀k,X' i k→X i k∨w.heap.size≤k:=by
  intro i hi k hk
  obtain⟨j,hj,hji⟩:=hMj i hi
  rw [hXM j i hj hji]at hk
  have:=hpost.grow j hj k hk
  rwa [hXl j i hji]at this
 have hnlen:(rs'++out.news).length=st.rs.length+out.news.length:=by rw [List.length_append,u1]
 have hnew:∀i,st.rs.length≤i→i<(rs'++out.news).length→∀k,X' i k→w.heap.size≤k:=by
  intro i h1 h2 k hk
  rw [hXn i h1]at hk
  exact hpost.new _ (by simp;omega) (by simp;omega) k hk
 have hsame:∀i,i<st.rs.length→i ∉ M→nth (rs'++out.news) i=nth st.rs i∧X' i=X i:=fun i hi hm=>⟨by rw [aW,if_pos (by omega)];exact u2 i hm,hXs i hi hm⟩
 have hinv:Inv w0 k0 X0 may (rs'++out.news) X' w':=by
  refine hI.step M hq (fun j hj=>⟨hMlt j hj,fG (cm.1 hcan j hj)⟩) (by omega) hsame ?_ hgrow hnew ?_
  ·intro i hi r hr
   by_cases him:i∈M
   ·obtain⟨j,hj,hji⟩:=hMj i him
    rw [aW,if_pos (by have:=hMlt i him;omega)]at hr
    have h1:=hrsM j i r hj hji hr
    rw [hXM j i hj hji]
    exact hpost.sat.res j r (hloc j r hj h1)
   ·have hi:=hi.resolve_left him
    rw [aW,if_neg (by omega)]at hr
    rw [hXn i hi]
    refine hpost.sat.res _ r ?_
    rw [aW,if_neg (by omega)]
    rw [show c.res.length+(i - st.rs.length) - rsl.length=i - rs'.length by omega]
    exact hr
  ·intro i j hi hj hij h1 h2 k hk
   have key:∀i,(i∈M∨st.rs.length≤i)→i<(rs'++out.news).length→∃a,X' i=Xl a∧a<(rsl++out.news).length∧((i∈M∧a∈c.bI∧cf θ a=some i)∨(st.rs.length≤i∧a=c.res.length+(i - st.rs.length))):=by
    intro i hi hil
    by_cases him:i∈M
    ·obtain⟨a,ha,hai⟩:=hMj i him
     exact⟨a,hXM a i ha hai,by have:=hjlt a ha;simp;omega,.inl ⟨him,ha,hai⟩⟩
    ·have hi:=hi.resolve_left him
     exact⟨_,hXn i hi,by simp;omega,.inr ⟨hi,rfl⟩⟩
   obtain⟨a,ea,la',ca⟩:=key i hi h1
   obtain⟨b,eb,lb,cb⟩:=key j hj h2
   rw [ea]at hk
   rw [eb]
   refine hpost.sat.dis a b la' lb (fun hab=>?_) k hk
   subst hab
   rcases ca with⟨m1,m2,m3⟩ | ⟨m1,m2⟩<;>rcases cb with⟨n1,n2,n3⟩ | ⟨n1,n2⟩
   ·rw [m3]at n3;injection n3 with n3;exact hij n3
   ·have:=hjlt a m2;omega
   ·have:=hjlt a n2;omega
   ·omega
 have hQ:=kt (fun i r hr=>⟨_,_,hinv.sat.res i r hr⟩) hQ
 refine⟨out.res,_,_,X',M,rfl,hQ,hfull.knO hpost.kr,hinv,?_,rfl,hMlt,fun i hi=>fG (cm.1 hcan i hi),by simp only [];omega,hsame,hgrow,hnew,hq,fun i a ha=>by
  by_cases hi:i∈M
  ·obtain⟨b,hb,hr⟩:=(u3 i hi).2 a ha
   exact⟨b,by rw [aW,if_pos (aP hb)];exact hb,hr⟩
  ·exact⟨a,by rw [(hsame i (aP ha) hi).1];exact ha,cU.refl a⟩⟩
 refine aA.app ?_ (aA.eU hk (fun i hi hm=>(hsame i hi hm).1) fun i hi a ha=>?_)
 ·intro key k' hmem
  obtain⟨i,i',o,k,⟨rfl,h1⟩ | ⟨rfl,h1⟩,h2,h3⟩:=iN hmem
  ·obtain⟨g,cs,T,v,e1,e2,e3⟩:=hpost.kc _ k h1 (fun _ e=>by cases e)
   obtain⟨i2,r',f1,f2,f3⟩:=hfull i _ e1
   rw [h2]at f1
   injection f1 with f1
   subst f1
   rcases f3 with rfl | ⟨_,_,_,_,_,_,_,hh,_⟩
   ·exact⟨g,cs,T,v,f2,e2,hfull.kn h3 e3⟩
   ·cases hh
  ·obtain⟨t,r,s,e1,e2⟩:=hpost.kc _ k h1 (fun _ e=>by cases e)
   obtain⟨i2,r',f1,f2,f3⟩:=hfull i _ e1
   rw [h2]at f1
   injection f1 with f1
   subst f1
   rcases f3 with rfl | ⟨_,_,_,_,_,_,_,hh,_⟩
   ·exact⟨t,r,s,f2,hfull.kn h3 e2⟩
   ·cases hh
 ·obtain⟨b,hb,hr⟩:=(u3 i hi).2 a ha
  exact⟨b,by rw [aW,if_pos (aP hb)];exact hb,hr⟩
end
end Go.Proofs.YtbjlecpmgocoeaaGreatDoor.V
end
