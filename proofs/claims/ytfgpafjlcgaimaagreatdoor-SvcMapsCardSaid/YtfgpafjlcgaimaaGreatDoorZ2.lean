/- SvcMaps returns true for every input, and each argument reads behind the call as it read before. -/
import Derived.Test.YtfgpafjlcgaimaaGreatDoorZ1
import Derived.Test.YtfgpafjlcgaimaaGreatDoorProg
import Derived.KernelRfl
set_option linter.unusedVariables false
set_option linter.unusedSimpArgs false
namespace Go.Proofs.YtfgpafjlcgaimaaGreatDoor.V
open Go Go.RowKit
open Go.IntKind (i64 u32 u64)
open Enc (enc)
section
section
variable {U:Uni} {P:Program} {tbl:Tb U} {may:List Nat} {k0:Nat}
theorem eV {α β:Type}(f:α→β):∀l,aD f l=l.map f
 | []=>rfl
 | a::l=>by simp [aD,eV f l]
theorem ba {α β:Type}(f:α→β):∀(l:List α)(i:Nat),nth (aD f l) i=(nth l i).map f
 | [],_=>rfl
 | _::_,0=>rfl
 | _::l,i+1=>ba f l i
@[simp] theorem Cs {α β:Type}(f:α→β):∀l:List α,(aD f l).length=l.length
 | []=>rfl
 | _::l=>by simp [aD,Cs f l]
theorem dF {x:Nat}:∀ {l:List Nat},jq x l=true↔x∈l
 | []=>by simp [jq]
 | y::r=>by
  unfold jq
  split
  ·rename_i h
   have:=Nat.eq_of_beq_eq_true h
   simp [this]
  ·rename_i h
   have h':¬x=y:=by rintro rfl;simp at h
   rw [dF]
   simp [h']
theorem kD:∀ {l:List Nat},mA l=true→l.Nodup
 | [],_=>List.nodup_nil
 | x::r,h=>by
  unfold mA at h
  split at h
  ·cases h
  ·rename_i hm
   refine List.nodup_cons.2 ⟨fun hx=>?_,kD h⟩
   rw [dF.2 hx]at hm
   cases hm
theorem bP {α:Type} {f:α→Bool}:∀ {l:List α},gF f l=true↔∀x∈l,f x=true
 | []=>by simp [gF]
 | a::r=>by
  unfold gF
  split
  ·rename_i h
   rw [bP]
   simp [h]
  ·rename_i h
   simp [h]
theorem vr {α:Type} {f:α→Bool}:∀ {l:List α},j5 f l=true↔∃x∈l,f x=true
 | []=>by simp [j5]
 | a::r=>by
  unfold j5
  split
  ·rename_i h
   simp [h]
  ·rename_i h
   rw [vr]
   simp [h]
theorem oP {α β:Type} {f:α→Option β}:∀ {l:List α} {r:List β},fK f l=some r→r.length=l.length∧∀i a,nth l i=some a→∃b,f a=some b∧nth r i=some b
 | [],r,h=>by
  simp only [fK,Option.some.injEq]at h
  subst h
  exact⟨rfl,fun i a hi=>by simp [nth]at hi⟩
 | a::l,r,h=>by
  unfold fK at h
  split at h
  ·rename_i b bs hb Ql
   injection h with h
   subst h
   obtain⟨h1,h2⟩:=oP Ql
   refine⟨by simp [h1],fun i x hx=>?_⟩
   cases i with
   | zero=>simp [nth]at hx;subst hx;exact⟨b,hb,rfl⟩
   | succ i=>exact h2 i x hx
  ·cases h
theorem dP {α:Type}:∀(n:Nat)(l:List α),gL n l=l.take n
 | 0,_=>by simp [gL]
 | n+1,[]=>by simp [gL]
 | n+1,a::l=>by simp [gL,dP n l]
theorem eE {α:Type}:∀(n:Nat)(l:List α),kd n l=l.drop n
 | 0,_=>by simp [kd]
 | n+1,[]=>by simp [kd]
 | n+1,a::l=>by simp [kd,eE n l]
theorem ua {α:Type}:∀(l:List α)(i:Nat)(x:α),bt l i x=l.set i x
 | [],_,_=>by simp [bt]
 | _::_,0,_=>rfl
 | _::l,i+1,x=>by simp [bt,ua l i x]
theorem mV:∀(vs:List Value)(cs:List Value)(o:Nat),setAt ⟨cs⟩ o vs=⟨fp cs o vs⟩
 | [],_,_=>rfl
 | v::r,cs,o=>by
  have e:(Array.mk cs).setIfInBounds o v=⟨bt cs o v⟩:=by apply Array.ext';simp [ua]
  simp only [setAt,fp,e]
  exact mV r _ _
@[simp] theorem zJ {α:Type}:∀(vs:List α)(cs:List α)(o:Nat),(fp cs o vs).length=cs.length
 | [],_,_=>rfl
 | v::r,cs,o=>by simp [fp,zJ r]
theorem jP {α:Type}:∀(vs:List α)(cs:List α)(o i:Nat),o+vs.length≤cs.length→nth (fp cs o vs) i=if o≤i∧i<o+vs.length then nth vs (i - o)else nth cs i
 | [],cs,o,i,h=>by
  simp only [fp,List.length_nil,Nat.add_zero]
  rw [if_neg (by omega)]
 | v::r,cs,o,i,h=>by
  simp only [List.length_cons]at h
  simp only [fp,List.length_cons]
  rw [jP r _ _ _ (by simp;omega),aV]
  by_cases h1:o+1≤i∧i<o+1+r.length
  ·rw [if_pos h1,if_pos (by omega)]
   have:i - o=(i - (o+1))+1:=by omega
   rw [this];rfl
  ·rw [if_neg h1]
   by_cases h2:i=o
   ·subst h2
    rw [if_pos ⟨rfl,by omega⟩,if_pos (by omega)];simp [nth]
   ·rw [if_neg (by omega),if_neg (by omega)]
theorem cK {f:Key→Kn→Bool} {key:Key} {k:Kn}:∀ {l:List (Key×Kn)},(key,k)∈dD f l→(key,k)∈l∧f key k=true
 | [],h=>by cases h
 | (a,q)::r,h=>by
  unfold dD at h
  split at h
  ·rename_i hf
   rcases List.mem_cons.1 h with e | h
   ·injection e with e1 e2;subst e1;subst e2;exact⟨List.mem_cons_self ..,hf⟩
   ·have:=cK h;exact⟨List.mem_cons_of_mem _ this.1,this.2⟩
  ·have:=cK h;exact⟨List.mem_cons_of_mem _ this.1,this.2⟩
theorem Key.kG:∀ {a b:Key},a.eq b=true→a=b
 | .s a,.s b,h=>by rw [Nat.eq_of_beq_eq_true h]
 | .c a b,.c x y,h=>by
  simp only [Key.eq,Bool.and_eq_true]at h
  rw [Nat.eq_of_beq_eq_true h.1,Nat.eq_of_beq_eq_true h.2]
 | .l a b,.l x y,h=>by
  simp only [Key.eq,Bool.and_eq_true]at h
  rw [Nat.eq_of_beq_eq_true h.1,Nat.eq_of_beq_eq_true h.2]
 | .s _,.l _ _,h=>by cases h
 | .l _ _,.s _,h=>by cases h
 | .c _ _,.l _ _,h=>by cases h
 | .l _ _,.c _ _,h=>by cases h
 | .s _,.c _ _,h=>by cases h
 | .c _ _,.s _,h=>by cases h
theorem rp {key:Key} {k:Kn}:∀ {l:List (Key×Kn)},bW key l=some k→(key,k)∈l
 | [],h=>by cases h
 | (a,q)::r,h=>by
  unfold bW at h
  split at h
  ·rename_i he
   injection h with h
   subst h
   rw [Key.kG he]
   exact List.mem_cons_self ..
  ·exact List.mem_cons_of_mem _ (rp h)
theorem PK.kG:∀ {a b:PK},a.eq b=true→a=b
 | .loc a b,.loc x y,h=>by
  simp only [PK.eq,Bool.and_eq_true]at h
  rw [Nat.eq_of_beq_eq_true h.1,Nat.eq_of_beq_eq_true h.2]
 | .obj a b c,.obj x y z,h=>by
  simp only [PK.eq,Bool.and_eq_true]at h
  rw [Nat.eq_of_beq_eq_true h.1,Nat.eq_of_beq_eq_true h.2.1,Nat.eq_of_beq_eq_true h.2.2]
 | .sl a b,.sl x y,h=>by
  simp only [PK.eq,Bool.and_eq_true]at h
  rw [Nat.eq_of_beq_eq_true h.1,Nat.eq_of_beq_eq_true h.2]
 | .loc ..,.obj ..,h | .loc ..,.sl ..,h | .loc ..,.el ..,h | .obj ..,.loc ..,h | .obj ..,.sl ..,h | .obj ..,.el ..,h | .sl ..,.loc ..,h | .sl ..,.obj ..,h | .sl ..,.el ..,h | .el ..,.loc ..,h | .el ..,.obj ..,h | .el ..,.sl ..,h | .el ..,.el ..,h=>by cases h
theorem Kn.kG {a b:Kn}(h:a.eq b=true):a=b∧∃p,a= .p p:=by
 cases a<;>cases b<;>simp only [Kn.eq]at h<;>first | cases h | skip
 rename_i p q
 exact⟨by rw [PK.kG h],p,rfl⟩
def Kn.has(p:PK):Kn→Prop
 | .p k=>k=p
 | .t l=>∃j,nth l j=some (some p)
 | .ag l=>∃j,nth l j=some (some p)
 | .f a b=>(∃j,nth a j=some (some p))∨∃j,nth b j=some (some p)
 | .pan=>False
theorem fW.mono {rs rs':List (Res U)} {v:Value} {k:Kn}(h:fW rs v k)(hd:∀p,k.has p→∀u,den U rs p=some u→den U rs' p=some u):fW rs' v k:=by
 cases k with
 | pan=>exact h
 | p k=>exact hd k rfl _ h
 | t l=>
  obtain⟨vs,h1,h2⟩:=h
  exact⟨vs,h1,fun j k hj=>by obtain⟨u,hu,Nm⟩:=h2 j k hj;exact⟨u,hu,hd k ⟨j,hj⟩ _ Nm⟩⟩
 | ag l=>
  obtain⟨vs,h1,h2⟩:=h
  exact⟨vs,h1,fun j k hj=>by obtain⟨u,hu,Nm⟩:=h2 j k hj;exact⟨u,hu,hd k ⟨j,hj⟩ _ Nm⟩⟩
 | f a b=>
  obtain⟨f,fs,cs,h1,hl,h2,h3⟩:=h
  exact⟨f,fs,cs,h1,hl,fun j k hj=>by obtain⟨u,hu,Nm⟩:=h2 j k hj;exact⟨u,hu,hd k (.inl ⟨j,hj⟩) _ Nm⟩,fun j k hj=>by obtain⟨u,hu,Nm⟩:=h3 j k hj;exact⟨u,hu,hd k (.inr ⟨j,hj⟩) _ Nm⟩⟩
theorem fv {α:Type}:∀ {l:List α} {i:Nat} {x:α},nth l i=some x→x∈l
 | a::l,0,x,h=>by simp [nth]at h;subst h;exact List.mem_cons_self ..
 | a::l,i+1,x,h=>List.mem_cons_of_mem _ (fv (l:=l) h)
theorem Kn.xm {k:Kn} {i:Nat}(h:k.ofList i=false) {p:PK}(hp:k.has p):p.ofList i=false:=by
 have key:∀ {l:List (Option PK)},j5 (q8 i) l=false→∀j,nth l j=some (some p)→p.ofList i=false:=by
  intro l hl j hj
  cases he:p.ofList i
  ·rfl
  ·have:j5 (q8 i) l=true:=vr.2 ⟨some p,fv hj,he⟩
   rw [hl]at this
   cases this
 cases k with
 | pan=>exact hp.elim
 | p k=>cases hp;exact h
 | t l=>obtain⟨j,hj⟩:=hp;exact key h j hj
 | ag l=>obtain⟨j,hj⟩:=hp;exact key h j hj
 | f a b=>
  simp only [Kn.ofList]at h
  split at h
  ·cases h
  ·rename_i ha
   rcases hp with⟨j,hj⟩ | ⟨j,hj⟩
   ·exact key ha j hj
   ·exact key h j hj
inductive cl:Res U→Res U→Prop
 | blk (g:Nat)(cs cs':List Value)(T:TypeId):cs.length=cs'.length→cl (.blk g cs T) (.blk g cs' T)
 | ob (t:Nat)(r:Nat→Nat)(s s':U.ty t):cl (.ob t r s) (.ob t r s')
 | lst (t:Nat)(own:Bool)(T:TypeId)(A A':Option Addr)(c c':Nat)(l l':List (U.el t)):cl (.lst t own T A c l) (.lst t own T A' c' l')
theorem cl.refl:∀a:Res U,cl a a
 | .blk g cs T=>.blk g cs cs T rfl
 | .ob t r s=>.ob t r s s
 | .lst t own T A c l=>.lst t own T A A c c l l
theorem cl.den {a b:Res U}(h:cl a b) {p:PK} {v:Value}(hp:p.ofList p.id=false∨a=b)(hd:bF U p (some a)=some v):bF U p (some b)=some v:=by
 rcases hp with hp | rfl
 ·cases h<;>cases p<;>simp only [bF,PK.ofList,PK.id,reduceCtorEq]at hd hp ⊢ <;>first | exact hd | (simp at hp)
 ·exact hd
theorem vl {r r':Res U} {u:Upd U}(h:cq r u=some r'):cl r r':=by
 cases r<;>cases u<;>simp only [cq]at h<;>first | cases h | skip
 ·split at h
  ·rename_i hb
   injection h with h;subst h
   exact .blk _ _ _ _ (Nat.eq_of_beq_eq_true hb).symm
  ·cases h
 ·split at h
  ·rename_i t r s t' s' ht
   subst ht
   injection h with h;subst h
   exact .ob _ _ _ _
  ·cases h
 ·split at h
  ·rename_i t own T A c l t' A' c' l' ht
   subst ht
   injection h with h;subst h
   exact .lst _ _ _ _ _ _ _ _ _
  ·cases h
theorem cl.trans {a b c:Res U}(h:cl a b)(k:cl b c):cl a c:=by
 cases h<;>cases k
 ·rename_i h1 _ h2;exact .blk _ _ _ _ (h1.trans h2)
 ·exact .ob _ _ _ _
 ·exact .lst _ _ _ _ _ _ _ _ _
theorem o4 {rs rs':List (Res U)} {M:List Nat}(hs:∀i,i<rs.length→i ∉ M→nth rs' i=nth rs i)(hr:∀i,i∈M→∀a,nth rs i=some a→∃b,nth rs' i=some b∧cl a b)
 {p:PK}(hp:p.id ∉ M∨p.ofList p.id=false) {v:Value}(hd:den U rs p=some v):den U rs' p=some v:=by
 unfold den at hd ⊢
 cases hn:nth rs p.id with
 | none=>rw [hn]at hd;cases p<;>simp [bF]at hd
 | some a=>
  rw [hn]at hd
  by_cases hm:p.id∈M
  ·obtain⟨b,hb,OK⟩:=hr _ hm a hn
   rw [hb]
   exact OK.den (.inl (hp.elim (fun h=>absurd hm h) id)) hd
  ·rw [hs _ (aP hn) hm,hn];exact hd
theorem cW.IG {rs:List (Res U)} {fr fr':Fr}(h:∀i,lk fr'.g i fr'.e=lk fr.g i fr.e) {key:Key} {k:Kn}(hp:cW rs fr key k):cW rs fr' key k:=by
 cases key with
 | s i=>show fW rs (lk fr'.g i fr'.e) k;rw [h];exact hp
 | c id off=>exact hp
 | l id path=>exact hp
theorem aw.same {rs:List (Res U)} {fr fr':Fr} {kn:List (Key×Kn)}(h:aw rs fr kn)(he:∀i,lk fr'.g i fr'.e=lk fr.g i fr.e):aw rs fr' kn:=fun key k hk=>(h key k hk).IG he
theorem aw.app {rs:List (Res U)} {fr:Fr} {a b:List (Key×Kn)}(h:aw rs fr a)(k:aw rs fr b):aw rs fr (a++b):=fun key q hq=>(List.mem_append.1 hq).elim (h key q) (k key q)
theorem aw.nil {rs:List (Res U)} {fr:Fr}:aw rs fr []:=fun _ _ h=>by cases h
theorem aw.get {rs:List (Res U)} {fr:Fr} {kn:List (Key×Kn)}(h:aw rs fr kn) {key:Key} {k:Kn}(hk:bW key kn=some k):cW rs fr key k:=h _ _ (rp hk)
theorem aw.kf {rs:List (Res U)} {fr:Fr} {kn:List (Key×Kn)}(h:aw rs fr kn)(x:Operand):KnO rs (ev fr x) (V.kf kn x):=by
 cases x with
 | tmp t=>
  show KnO rs (lk fr.g t fr.e) (bW (.s t) kn)
  cases hg:bW (.s t) kn with
  | none=>exact trivial
  | some k=>exact h.get hg
 | const v=>exact trivial
 | global g=>exact trivial
 | func f=>exact trivial
theorem aw.ef {rs rs':List (Res U)} {fr:Fr} {kn:List (Key×Kn)} {M:List Nat}(h:aw rs fr kn)(hs:∀i,i<rs.length→i ∉ M→nth rs' i=nth rs i)(hr:∀i,i∈M→∀a,nth rs i=some a→∃b,nth rs' i=some b∧cl a b)
 {kn':List (Key×Kn)}(hk:∀key k,(key,k)∈kn'→(key,k)∈kn∧(∀p,k.has p→p.id ∉ M∨p.ofList p.id=false)∧∀id off,key= .c id off→id ∉ M∨∃g cs cs' T,nth rs id=some (.blk g cs T)∧nth rs' id=some (.blk g cs' T)∧nth cs' off=nth cs off):aw rs' fr kn':=by
 intro key k hm
 obtain⟨h1,h2,h3⟩:=hk key k hm
 have h0:=h key k h1
 have hd:∀p,k.has p→∀u,den U rs p=some u→den U rs' p=some u:=fun p hp u hu=>o4 hs hr (h2 p hp) hu
 cases key with
 | s i=>exact fW.mono h0 hd
 | c id off=>
  obtain⟨g,cs,T,v,e1,e2,e3⟩:=h0
  rcases h3 id off rfl with h3 | ⟨g',TF,TE,T',e4,e5,e6⟩
  ·exact⟨g,cs,T,v,by rw [hs _ (aP e1) h3];exact e1,e2,e3.mono hd⟩
  ·rw [e1]at e4
   injection e4 with e4
   injection e4 with e4 e7 e8
   subst e4;subst e7;subst e8
   exact⟨g,TE,T,v,e5,by rw [e6];exact e2,e3.mono hd⟩
 | l id path=>
  obtain⟨t,r,s,e1,e2⟩:=h0
  by_cases hm:id∈M
  ·obtain⟨b,hb,OK⟩:=hr id hm _ e1
   cases OK
   exact⟨t,r,_,hb,e2.mono hd⟩
  ·exact⟨t,r,s,by rw [hs _ (aP e1) hm];exact e1,e2.mono hd⟩
theorem qV {key:Key} {k:Kn}:∀ {M:List Nat} {kn:List (Key×Kn)},(key,k)∈dE M kn→(key,k)∈kn∧∀i∈M,k.ofList i=false∧∀off,key≠ .c i off
 | [],kn,h=>⟨h,fun i hi=>by cases hi⟩
 | i::r,kn,h=>by
  unfold dE at h
  obtain⟨h1,h2⟩:=qV h
  obtain⟨h3,h4⟩:=cK h1
  simp only [Bool.and_eq_true,Bool.not_eq_true']at h4
  refine⟨h3,fun j hj=>?_⟩
  rcases List.mem_cons.1 hj with rfl | hj
  ·refine⟨h4.1,fun off e=>?_⟩
   subst e
   simp at h4
  ·exact h2 j hj
theorem aw.dE {rs rs':List (Res U)} {fr:Fr} {kn:List (Key×Kn)} {M:List Nat}(h:aw rs fr kn)(hs:∀i,i<rs.length→i ∉ M→nth rs' i=nth rs i)(hr:∀i,i∈M→∀a,nth rs i=some a→∃b,nth rs' i=some b∧cl a b):aw rs' fr (V.dE M kn):=by
 refine h.ef hs hr fun key k hk=>?_
 obtain⟨h1,h2⟩:=qV hk
 refine⟨h1,fun p hp=>?_,fun id off e=>?_⟩
 ·by_cases hm:p.id∈M
  ·exact .inr (Kn.xm (h2 _ hm).1 hp)
  ·exact .inl hm
 ·by_cases hm:id∈M
  ·exact absurd e ((h2 id hm).2 off)
  ·exact .inl hm
theorem Cy {rs:List (Res U)} {fr fr':Fr} {kn:List (Key×Kn)} {d:Nat} {v:Value} {k:Option Kn}(h:aw rs fr kn)(hv:KnO rs v k)(h1:lk fr'.g d fr'.e=v)(h2:∀i,i≠d→lk fr'.g i fr'.e=lk fr.g i fr.e):aw rs fr' (uK (.s d) k kn):=by
 have key:aw rs fr' (dD (fun a _=>!(a.eq (.s d))) kn):=by
  intro a q hq
  obtain⟨hm,hf⟩:=cK hq
  have h0:=h a q hm
  cases a with
  | s i=>
   have KB:i≠d:=by rintro rfl;simp [Key.eq]at hf
   show fW rs (lk fr'.g i fr'.e) q
   rw [h2 i KB];exact h0
  | c id off=>exact h0
  | l id path=>exact h0
 unfold uK
 split
 ·exact key
 ·rename_i q
  intro a z hz
  rcases List.mem_cons.1 hz with e | hz
  ·injection e with e1 e2
   subst e1;subst e2
   show fW rs (lk fr'.g d fr'.e) z
   rw [h1];exact hv
  ·exact key a z hz
theorem sM(g:Nat→Value)(d i:Nat)(v:Value)(e:List (Nat×Value)):lk g i ((d,v)::e)=if i=d then v else lk g i e:=by
 simp only [lk]
 split
 ·rename_i h;rw [if_pos (Nat.eq_of_beq_eq_true h)]
 ·rename_i h;rw [if_neg (by rintro rfl;simp at h)]
theorem gR {n:Nat} {N:List Nat} {fr:Fr} {dst:Option Tmp} {v:Value} {k:Option Kn} {st:St U} {F:Fr→St U→Prop}(h:uj U n N fr dst v k st F)(hk:aw st.rs fr st.kn)(hv:KnO st.rs v k):
 gB n N fr dst v fun fr'=>∃st',st'.rs=st.rs∧st'.md=st.md∧aw st.rs fr' st'.kn∧fr'.ds=fr.ds∧F fr' st':=by
 unfold uj at h
 unfold gB at h ⊢
 cases dst with
 | none=>exact⟨st,rfl,rfl,hk,rfl,h⟩
 | some d=>
  dsimp only at h ⊢
  split at h
  ·rename_i hb
   have fin:∀u,u=v→F ⟨(d,u)::fr.e,fr.g,fr.ds⟩ {st with kn:=uK (.s d) k st.kn}→∃st':St U,st'.rs=st.rs∧st'.md=st.md∧aw st.rs ⟨(d,u)::fr.e,fr.g,fr.ds⟩ st'.kn∧fr.ds=fr.ds∧F ⟨(d,u)::fr.e,fr.g,fr.ds⟩ st':=by
    intro u hu hF
    subst hu
    exact⟨{st with kn:=uK (.s d) k st.kn},rfl,rfl,Cy hk hv (by rw [sM,if_pos rfl]) (fun i hi=>by rw [sM,if_neg hi]),rfl,hF⟩
   split at h
   ·rename_i hN
    cases v with
    | int kk x=>intro z hz;exact fin _ (by rw [hz]) (h z hz)
    | bool x=>intro z hz;exact fin _ (by rw [hz]) (h z hz)
    | _=>exact fin _ rfl h
   ·exact fin _ rfl h
  ·exact h.elim
theorem js {ops:Array Oper} {o:Oper} {fr:Fr} {yes no yes' no':Fr→Prop}(h:fh ops o fr yes no)(hy:∀fr',(∀i,lk fr'.g i fr'.e=lk fr.g i fr.e)→fr'.ds=fr.ds→yes fr'→yes' fr')(hn:∀fr',(∀i,lk fr'.g i fr'.e=lk fr.g i fr.e)→fr'.ds=fr.ds→no fr'→no' fr'):fh ops o fr yes' no':=by
 unfold fh at h ⊢
 split at h
 ·exact hy fr (fun _=>rfl) rfl h
 ·rename_i j want hg
  split at h
  ·rename_i d hd
   split at h
   ·rename_i b hb
    have hl:∀b',lk fr.g d fr.e= .bool b'→∀i,lk fr.g i ((d,.bool b')::fr.e)=lk fr.g i fr.e:=by
     intro b' Mz i
     rw [sM]
     split
     ·rename_i e;rw [e,Mz]
     ·rfl
    rcases eB h with⟨rfl,h2⟩ | ⟨rfl,h2⟩
    ·refine ae (fun _=>?_) (fun e=>by cases e)
     cases want
     ·exact hn _ (hl _ hb) rfl h2
     ·exact hy _ (hl _ hb) rfl h2
    ·refine ae (fun e=>by cases e) (fun _=>?_)
     cases want
     ·exact hy _ (hl _ hb) rfl h2
     ·exact hn _ (hl _ hb) rfl h2
   ·exact hn fr (fun _=>rfl) rfl h
   ·exact h.elim
  ·exact h.elim
theorem zS {o:Oper} {ρ:Operand→Value} {F:Value→Prop}(hc:∀v,ρ (.const v)=v)(hl:∀t x,o.op≠ .load t x)(h:mY P o ρ F)(w:World):∃v,F v∧∀w',w'.os=w.os→w'.tape=w.tape→w'.output=w.output→(execOp ρ o).run P w'= .ok (.value v) w':=by
 have hw:mX P none o ρ {w with heap:= #[]} F False:=by
  unfold mY mX at h
  unfold mX
  generalize o.op=op at h hl ⊢
  cases op<;>first | exact h | exact absurd rfl (hl _ _)
 rcases mu hc hw with⟨v,hv,hr⟩ | hh
 ·exact⟨v,hv,fun w' h1 h2 h3=>hr w' ⟨h1,h2,h3,Nat.zero_le _,fun k hk=>absurd hk (Nat.not_lt_zero _)⟩⟩
 ·exact hh.elim
def rdX(o:Oper)(kn:List (Key×Kn))(X:Nat→Nat→Prop):Nat→Prop:=
 match o.op with
 | .load _ x=>(match V.kf kn x with
  | some (.p k)=>X k.id
  | _=>fun _=>False)
 | _=>fun _=>False
theorem xC {s:TypeId} {x:Value} {f:Nat} {F:Value→Prop}(h:iM P s x f F):∃fields fd p,P.underlying s=some (.struct fields)∧fields[f]? =some fd∧x= .pointer (some p)∧F (.pointer (some (p.add fd.offset)))∧∀w,(Instr.fieldAt s x f).run P w= .ok (.pointer (some (p.add fd.offset))) w:=by
 have key:∀fields fd p,P.underlying s=some (.struct fields)→fields[f]? =some fd→x= .pointer (some p)→∀w,(Instr.fieldAt s x f).run P w= .ok (.pointer (some (p.add fd.offset))) w:=by
  intro fields fd p h1 h2 h3 w
  have h':iM P s x f fun v=>v= .pointer (some (p.add fd.offset)):=by
   unfold iM at h ⊢
   subst h3
   rw [h1]at h ⊢
   simp only at h ⊢
   rw [h2]at h ⊢
   simp only at h ⊢
   split at h
   ·rename_i i hi
    split at h
    ·exact ai p rfl rfl
    ·exact h.elim
   ·exact h.elim
  obtain⟨v,hv,hr⟩:=o0 h'
  rw [hr w,hv]
 have h0:=h
 unfold iM at h
 split at h
 ·rename_i fields hs
  split at h
  ·rename_i fd hf
   split at h
   ·split at h
    ·split at h
     ·obtain⟨p,hp,hF⟩:=bT h
      exact⟨fields,fd,p,hs,hf,by rw [hp],hF,key fields fd p hs hf (by rw [hp])⟩
     ·exact h.elim
    ·exact h.elim
   ·exact h.elim
  ·exact h.elim
 ·exact h.elim
theorem CE {t:TypeId} {p:Addr} {i:Value} {F:Value→Prop}(h:nD P t (.pointer (some p)) i F):∃n e k ix,P.underlying t=some (.array n e)∧i= .int k ix∧F (.pointer (some (p.add (ix.toNat *aZ P e))))∧∀w,(Instr.indexAt t (.pointer (some p)) i).run P w= .ok (.pointer (some (p.add (ix.toNat *aZ P e)))) w:=by
 unfold nD at h
 cases hu:P.underlying t with
 | none=>rw [hu]at h;exact h.elim
 | some d=>
  rw [hu]at h
  cases d<;>first | exact h.elim | skip
  rename_i n e
  cases i<;>first | exact h.elim | skip
  rename_i k ix
  simp only at h
  split at h
  ·rename_i he
   obtain⟨hb,h⟩:=h
   obtain⟨q,hq,hF⟩:=bT h
   injection hq with hq
   subst hq
   refine⟨n,e,k,ix,rfl,rfl,hF,fun w=>?_⟩
   have h':nD P t (.pointer (some p)) (.int k ix) fun v=>v= .pointer (some (p.add (ix.toNat *aZ P e))):=by
    unfold nD
    rw [hu]
    simp only [he]
    exact⟨hb,ai p rfl rfl⟩
   obtain⟨v,hv,hr⟩:=lF h'
   rw [hr w,hv]
  ·exact h.elim
theorem EY {t e:TypeId} {A:Option Addr} {n c:Nat} {k:IntKind} {ix:Int} {p:Addr}(ht:P.underlying t=some (.slice e))(he:hasType P e=true)(hb:0≤ix∧ix<n)(hA:A=some p)(w:World):(Instr.indexAt t (.slice A n c) (.int k ix)).run P w= .ok (.pointer (some (p.add (ix.toNat *aZ P e)))) w:=by
 have h':nD P t (.slice A n c) (.int k ix) fun v=>v= .pointer (some (p.add (ix.toNat *aZ P e))):=by
  unfold nD
  rw [ht]
  simp only [he]
  exact⟨hb,ai p hA rfl⟩
 obtain⟨v,hv,hr⟩:=lF h'
 rw [hr w,hv]
theorem RS.rd {X:Nat→Prop} {w:World} {t:Nat} {own:Bool} {T:TypeId} {A:Option Addr} {c:Nat} {l:List (U.el t)}(h:RS X w (.lst t own T A c l)):Rd w X A l.length c l:=by
 cases own
 ·exact h
 ·have h1:Rd w (fun k=>X k∧k<w.heap.size) A l.length c l:=h.1.rd
  exact h1.mono (fun k hk=>hk.1) h.2
theorem RS.ls {X:Nat→Prop} {w:World} {r:Res U} {li:Nat} {L:Ls U.el}(h:RS X w r)(hl:gE r li=some L):Rd w X L.A L.l.length L.c L.l:=by
 unfold gE at hl
 split at hl
 ·injection hl with hl
  subst hl
  exact RS.rd h
 ·exact U.oS h hl
 ·cases hl
theorem cr {α:Type} {o:Option α} {F:α→Prop}(h:eL o F):∃a,o=some a∧F a:=by
 cases o with
 | none=>exact h.elim
 | some a=>exact⟨a,rfl,h⟩
theorem gT {t:TypeId} {cs:List Value} {off:Nat} {v:Value}(h:ja P t cs off=some v) {w:World} {p:Addr}(hp:∀j u,j<aZ P t→nth cs (off+j)=some u→w.cell? (p.add j)=some u):(Instr.loadAt t (.pointer (some p))).run P w= .ok v w:=by
 unfold ja at h
 split at h
 ·rename_i hb
  simp only [Bool.and_eq_true]at hb
  obtain⟨h1,h2,h3,h4⟩:=hb
  have h4:off+aZ P t≤cs.length:=Nat.le_of_ble_eq_true h4
  have Ns:fe (cB P t)=aZ P t:=Nat.eq_of_beq_eq_true h3
  refine jh (s:=cB P t) h1 h2 h3 ?_
  have hd:∀j,nth (cs.drop off) j=nth cs (off+j):=fun j=>by rw [aH,aH,List.getElem?_drop]
  split at h
  ·rename_i s hs
   have:=hp 0 v (by rw [← Ns,hs];simp [fe]) (by simpa using h)
   rw [hs]
   simpa [fw,Addr.add]using this
  ·rename_i l hs
   injection h with h
   subst h
   rw [hs]at Ns ⊢
   simp only [fe]at Ns
   have hlen:(cs.drop off |>.take l.length).length=l.length:=by simp;omega
   simp only [fw,dP,eE,hlen,Nat.beq_refl]
   have key:∀(vs:List Value)(i:Nat),(∀j u,vs[j]? =some u→w.cell? (p.add (i+j))=some u)→gp w p i vs:=by
    intro vs
    induction vs with
    | nil=>intro _ _;exact trivial
    | cons x r ih=>
     intro i hh
     have h0:=hh 0 x rfl
     have h1:=ih (i+1) fun j u hu=>by rw [show i+1+j=i+(j+1)by omega];exact hh (j+1) u (by simpa using hu)
     cases r with
     | nil=>exact h0
     | cons y r=>exact⟨h0,h1⟩
   refine key _ 0 fun j u hu=>?_
   rw [Nat.zero_add]
   have hj:j<l.length:=by have:=(List.getElem?_eq_some_iff.1 hu).1;omega
   refine hp j u (by omega) ?_
   rw [aH,← List.getElem?_drop,← hu,List.getElem?_take,if_pos hj]
  ·rename_i n hs
   injection h with h
   subst h
   rw [hs]at Ns ⊢
   simp only [fe]at Ns
   refine⟨by simp [dP,eE];omega,fun j u hu=>?_⟩
   simp only [dP,eE]at hu
   have hj:j<n:=by
    have:=(Array.getElem?_eq_some_iff.1 hu).1
    simp at this
    omega
   refine hp j u (by omega) ?_
   rw [aH,← List.getElem?_drop]
   have:((cs.drop off).take n)[j]? =some u:=by simpa using hu
   rwa [List.getElem?_take,if_pos hj]at this
 ·cases h
theorem Kept.vg {B:Nat→Prop} {w w':World}(k:Kept B w w') {p:Addr}(hp:B p.block) {v:Value}(h:w.cell? p=some v):w'.cell? p=some v:=(k.cell hp).trans h
theorem kW:∀ {n k j i:Nat},nth (upN n k) j=some i→i=n+j
 | n,0,j,i,h=>by simp [upN,nth]at h
 | n,k+1,0,i,h=>by simp [upN,nth]at h;omega
 | n,k+1,j+1,i,h=>by have:=kW (n:=n+1) (k:=k) (j:=j) h;omega
theorem kX:∀(n k:Nat),(upN n k).length=k
 | _,0=>rfl
 | n,k+1=>by simp [upN,kX (n+1) k]
theorem zT {o:Option Kn} {p:PK}(h:gC o=some p):o=some (.p p):=by
 unfold gC at h
 split at h
 ·injection h with h;rw [h]
 ·cases h
theorem Ai {st:St U} {fr:Fr} {id off:Nat} {g:Nat} {cs:List Value} {T t:TypeId} {v:Value}(hk:aw st.rs fr st.kn)(hn:nth st.rs id=some (.blk g cs T))(hv:ja P t cs off=some v)(hs:k9 P t=false):KnO st.rs v (xH id off st.kn v):=by
 unfold xH
 split
 ·rename_i v2 TE
  split
  ·refine⟨TE,rfl,fun j p hj=>?_⟩
   rw [ba]at hj
   cases hu:nth (upN 0 TE.toList.length) j with
   | none=>rw [hu]at hj;cases hj
   | some i=>
    rw [hu]at hj
    have JI:i=j:=by have:=kW hu;omega
    subst JI
    have Jt:=aP hu
    rw [kX]at Jt
    injection hj with hj
    obtain⟨g',cs',T',u,e1,e2,e3⟩:=hk.get (zT hj)
    rw [hn]at e1
    injection e1 with e1
    injection e1 with _ e1 _
    subst e1
    refine⟨u,?_,e3⟩
    have key:∀m,i<(gL m (kd off cs)).length→(gL m (kd off cs))[i]? =some u:=fun m hm=>by
     rw [dP,eE]at hm ⊢
     rw [List.getElem?_take,if_pos (by simp at hm;omega),List.getElem?_drop,← aH]
     exact e2
    unfold ja at hv
    unfold k9 at hs
    split at hv
    ·split at hv
     ·rename_i h2;rw [h2]at hs;cases hs
     ·injection hv with hv;injection hv with hv
      subst hv
      simpa using key _ Jt
     ·injection hv with hv;injection hv with hv
      subst hv
      simpa using key _ Jt
    ·cases hv
  ·trivial
 ·trivial
theorem rk {t:TypeId} {x:Value} {k:Option Kn} {st:St U} {X:Nat→Nat→Prop} {w:World} {K:Value→Option Kn→Prop}(hS:Sat st.rs X w) {fr:Fr}(hk:aw st.rs fr st.kn)(hx:KnO st.rs x k)(h:rl U P t k st K):
 ∃v kv,K v kv∧KnO st.rs v kv∧∀w',Kept (match k with | some (.p k)=>X k.id | _=>fun _=>False) w w'→(Instr.loadAt t x).run P w'= .ok v w':=by
 unfold rl at h
 split at h
 ·rename_i id off
  split at h
  ·rename_i g cs T hn
   obtain⟨v,hv,hK⟩:=cr h
   have hd:den U st.rs (.loc id off)=some x:=hx
   simp only [den,PK.id,hn,bF,Option.some.injEq]at hd
   subst hd
   obtain⟨hg,hX,hb⟩:=hS.res id _ hn
   refine⟨v,_,hK,?_,fun w' hw=>gT hv fun j u hj hu=>?_⟩
   ·cases hs:k9 P t
    ·exact Ai hk hn hv hs
    ·simp only
     cases hq:bW (.c id off) st.kn with
     | none=>exact trivial
     | some q=>
      obtain⟨g',cs',T',u,e1,e2,e3⟩:=hk.get hq
      rw [hn]at e1
      injection e1 with e1
      injection e1 with _ e1 _
      subst e1
      have:v=u:=by
       unfold ja at hv
       unfold k9 at hs
       split at hv
       ·split at hv
        ·rw [e2]at hv;injection hv with hv;exact hv.symm
        ·rename_i Oh;rw [Oh]at hs;cases hs
        ·rename_i Oh;rw [Oh]at hs;cases hs
       ·cases hv
      rw [this];exact e3
   ·refine Kept.vg hw (by rw [block_add];exact hg) ?_
    rw [bu]
    exact hb.cell (by rw [aH]at hu;simpa using hu)
  ·exact h.elim
 ·rename_i id path off
  split at h
  ·rename_i tt r s hn
   split at h
   rotate_left
   ·split at h
    ·rename_i c cs TW
     obtain⟨hc,h⟩:=h
     obtain⟨v,hv,hK⟩:=cr h
     have hd:den U st.rs (.obj id path off)=some x:=hx
     simp only [den,PK.id,hn,bF,Option.some.injEq]at hd
     subst hd
     obtain⟨hX,Kg⟩:=U.qH (hS.res id _ hn) TW hc
     refine⟨v,_,hK,trivial,fun w' hw=>gT hv fun j u hj hu=>?_⟩
     refine Kept.vg hw (by rw [block_add];exact hX) ?_
     rw [Nat.zero_add,aH]at hu
     rw [bu]
     exact Kg j u hu
    ·exact h.elim
   ·rename_i f hf
    obtain⟨u,hu,h⟩:=cr h
    obtain⟨v,hv,hK⟩:=cr h
    have hd:den U st.rs (.obj id path off)=some x:=hx
    simp only [den,PK.id,hn,bF,Option.some.injEq]at hd
    subst hd
    obtain⟨hX,hc⟩:=U.oX (hS.res id _ hn) hf hu
    refine⟨v,_,hK,?_,fun w' hw=>gT hv fun j y hj hy=>?_⟩
    ·cases hs:k9 P t
     ·exact trivial
     ·have huv:u=v:=by
       unfold ja at hv
       unfold k9 at hs
       split at hv
       ·split at hv
        ·injection hv
        ·rename_i Oh;rw [Oh]at hs;cases hs
        ·rename_i Oh;rw [Oh]at hs;cases hs
       ·cases hv
      subst huv
      cases f with
      | v y=>exact trivial
      | o p o=>
       have Pw:den U st.rs (.obj id p o)=some u:=by
        simp only [den,PK.id,hn,bF]
        exact hu
       cases o with
       | succ o=>exact Pw
       | zero=>
        show KnO st.rs u (match bW (.l id p) st.kn with
         | some k=>some k
         | none=>some (.p (.obj id p 0)))
        cases hl:bW (.l id p) st.kn with
        | none=>exact Pw
        | some k=>
         obtain⟨t',r',s',e1,e2⟩:=hk.get hl
         rw [hn]at e1
         injection e1 with e1
         cases e1
         simp only [fvV,Option.some.injEq]at hu
         rw [← hu]
         exact e2
      | l i=>
       show den U st.rs (.sl id i)=_
       simp only [den,PK.id,hn,bF]
       simp only [fvV]at hu
       simp only [gE]
       cases hL:U.li tt r s i with
       | none=>rw [hL]at hu;cases hu
       | some L=>simp only [hL]at hu ⊢;exact hu
    ·cases j with
     | zero=>
      simp only [Nat.zero_add,nth,Option.some.injEq]at hy
      subst hy
      exact Kept.vg hw (by rw [block_add];exact hX) hc
     | succ j=>simp [nth]at hy
  ·exact h.elim
 ·rename_i id li i off
  split at h
  ·rename_i r hn
   split at h
   ·rename_i L hL
    have hd:den U st.rs (.el id li i off)=some x:=hx
    simp only [den,PK.id,hn,bF,hL]at hd
    split at hd
    ·rename_i hb
     injection hd with hd
     subst hd
     have hr:=(hS.res id _ hn).ls hL
     obtain⟨p,y,hA,hy,hZ,hc⟩:=hr.ld hb.1 hb.2
     split at h
     ·rename_i _ ho
      have ho:off=0:=Nat.eq_of_beq_eq_true ho
      subst ho
      split at h
      ·rename_i h1
       have h1:(U.en L.t).size=1:=Nat.eq_of_beq_eq_true h1
       obtain⟨hle,h⟩:=h
       obtain⟨v,hv,hK⟩:=cr h
       refine⟨v,_,hK,trivial,fun w' hw=>gT hv fun j u hj hu=>?_⟩
       rw [Nat.zero_add,CR,ba]at hu
       cases Nm:nth (upN 0 (aZ P t)) j with
       | none=>rw [Nm]at hu;cases hu
       | some j'=>
        rw [Nm]at hu
        have JI:j'=j:=by have:=kW Nm;omega
        subst JI
        have Jt:=aP Nm
        rw [kX]at Jt
        injection hu with hu
        have TV:=List.getElem?_eq_getElem (l:=L.l) (i:=i.toNat+j') (by omega)
        obtain⟨p',Nr,hZ',Qj⟩:=hr.cell _ _ TV
        rw [hA]at Nr
        injection Nr with Nr
        subst Nr
        have h0:=Qj 0 (by show 0<(U.en L.t).size;omega)
        have e1:elA U L.t L.A i 0=p.add i.toNat:=by unfold elA;rw [hA,h1];simp [Addr.add]
        rw [e1]
        refine Kept.vg hw (by rw [block_add,block_add];exact hZ) ?_
        have e2:(p.add ((i.toNat+j')*Enc.size (U.el L.t))).add 0=(p.add i.toNat).add j':=by
         rw [show Enc.size (U.el L.t)=1 from h1,add_add,add_add,Nat.mul_one,Nat.add_zero]
        rw [e2]at h0
        have hu:hd1 (enc (L.l.getD (i.toNat+j') (U.df L.t)))=u:=hu
        rw [h0,← hu,List.getD_eq_getElem?_getD,TV]
        show(enc L.l[i.toNat+j'])[0]? =some (hd1 (enc L.l[i.toNat+j']))
        have hl:(enc L.l[i.toNat+j']).length=1:=by rw [bz];exact h1
        match he:enc L.l[i.toNat+j'],hl with
        | [a],_=>rfl
      ·exact h.elim
     obtain⟨v,hv,hK⟩:=cr h
     refine⟨v,_,hK,trivial,fun w' hw=>gT hv fun j u hj hu=>?_⟩
     have hg:L.l.getD i.toNat (U.df L.t)=y:=by rw [List.getD_eq_getElem?_getD,hy];rfl
     rw [hg]at hu
     have hjs:off+j<Enc.size (U.el L.t):=by have:=aP hu;rw [← bz y];exact this
     have h2:=hc (off+j) hjs
     refine Kept.vg hw ?_ ?_
     ·unfold elA
      rw [hA]
      simp only [Option.getD_some,block_add]
      exact hZ
     ·unfold elA
      rw [hA]
      simp only [Option.getD_some]
      rw [add_add]
      rw [aH]at hu
      exact h2.trans hu
    ·cases hd
   ·exact h.elim
  ·exact h.elim
 ·exact h.elim
theorem uI(ρ:Operand→Value)(a:Array Operand):(⟨aD ρ a.toList⟩:Array Value)=a.map ρ:=by
 apply Array.ext'
 simp [eV]
theorem uV {rs:List (Res U)} {cs:List Value}:∀ {l:List (Nat×PK)} {F:Prop},G9 rs cs l F→F∧∀o p,(o,p)∈l→den U rs p=nth cs o
 | [],F,h=>⟨h,fun _ _ h=>by cases h⟩
 | (a,b)::l,F,h=>by
  obtain⟨h1,h2⟩:=uV h.2
  refine⟨h1,fun o p hm=>?_⟩
  rcases List.mem_cons.1 hm with e | hm
  ·injection e with e1 e2;subst e1;subst e2;exact h.1
  ·exact h2 o p hm
theorem po {j:Nat} {p:PK}:∀ {l:List (Nat×PK)},td j l=some p→(j,p)∈l
 | (a,b)::l,h=>by
  unfold td at h
  split at h
  ·rename_i he
   injection h with h
   subst h
   rw [← Nat.eq_of_beq_eq_true he];exact List.mem_cons_self ..
  ·exact List.mem_cons_of_mem _ (po h)
theorem rj {o:Oper} {fr:Fr} {st:St U} {X:Nat→Nat→Prop} {w:World} {K:Value→Option Kn→Prop}(hS:Sat st.rs X w)(hk:aw st.rs fr st.kn)(h:lz U P o (ev fr) st K):
 ∃v k,K v k∧KnO st.rs v k∧∀w',Kept (rdX o st.kn X) w w'→(execOp (ev fr) o).run P w'= .ok (.value v) w':=by
 have hc:∀v,ev fr (.const v)=v:=fun _=>rfl
 have hp:∀F:Value→Prop,(∀t x,o.op≠ .load t x)→mY P o (ev fr) F→∃v,F v∧∀w',Kept (rdX o st.kn X) w w'→(execOp (ev fr) o).run P w'= .ok (.value v) w':=fun F hl hF=>by
  obtain⟨v,h1,h2⟩:=zS hc hl hF w
  exact⟨v,h1,fun w' hw=>h2 w' hw.os hw.tape hw.output⟩
 have hpn:(∀t x,o.op≠ .load t x)→mY P o (ev fr) (fun v=>K v none)→∃v k,K v k∧KnO st.rs v k∧∀w',Kept (rdX o st.kn X) w w'→(execOp (ev fr) o).run P w'= .ok (.value v) w':=fun hl hF=>by
  obtain⟨v,h1,h2⟩:=hp _ hl hF
  exact⟨v,none,h1,trivial,h2⟩
 obtain⟨dst,op,ty,pos,after,guard⟩:=o
 cases op<;>first
  | exact hpn (fun _ _ e=>by cases e) h
  | skip
 case move x=>exact⟨_,_,h,hk.kf x,fun _ _=>rfl⟩
 case assign x=>exact⟨_,_,h,hk.kf x,fun _ _=>rfl⟩
 case build t ps=>
  obtain⟨v,h1,h2⟩:=hp _ (fun _ _ e=>by cases e) h
  unfold CV at h1
  split at h1
  ·exact⟨v,none,h1,trivial,h2⟩
  ·split at h1
   ·rename_i cs
    obtain⟨h1,h3⟩:=uV h1
    refine⟨_,_,h1,⟨cs,rfl,fun j k hj=>?_⟩,h2⟩
    rw [ba]at hj
    cases hn:nth (upN 0 cs.toList.length) j with
    | none=>rw [hn]at hj;cases hj
    | some i=>
     rw [hn]at hj
     have JI:i=j:=by have:=kW hn;omega
     subst JI
     injection hj with hj
     have:=h3 _ _ (po hj)
     have Jt:=aP hn
     rw [kX]at Jt
     obtain⟨u,hu⟩:=bM (l:=cs.toList) (i:=i) Jt
     exact⟨u,by rw [aH]at hu;simpa using hu,by rw [this,hu]⟩
   ·exact h1.elim
 case load t x=>
  obtain⟨v,kv,h1,h2,h3⟩:=rk hS hk (hk.kf x) h
  refine⟨v,kv,h1,h2,fun w' hw=>?_⟩
  have:=h3 w' hw
  simp [execOp,this]
 case nilCheck x=>
  simp only [lz]at h
  split at h
  ·rename_i p hx
   refine⟨_,_,h,by rw [← hx];exact hk.kf x,fun w' _=>?_⟩
   simp [execOp,hx]
  ·exact h.elim
 case fieldAddr s x f=>
  have h:iM P s (ev fr x) f (fun v=>K v (sQ P s f (V.kf st.kn x))):=h
  obtain⟨fields,fd,p,h1,h2,h3,h4,h5⟩:=xC h
  refine⟨_,_,h4,?_,fun w' _=>by simp [execOp,h5]⟩
  have hx:=hk.kf x
  rw [h3]at hx
  unfold sQ
  split
  ·rename_i k Kq
   rw [Kq]at hx
   rw [h1]
   simp only [h2]
   have hx:den U st.rs k=some (.pointer (some p)):=hx
   cases k with
   | loc id off=>
    show den U st.rs _=_
    unfold den at hx ⊢
    simp only [PK.id]at hx ⊢
    cases hn:nth st.rs id with
    | none=>rw [hn]at hx;simp [bF]at hx
    | some r=>
     rw [hn]at hx
     cases r<;>simp only [bF,reduceCtorEq,Option.some.injEq,Value.pointer.injEq]at hx ⊢
     rw [← hx,bu]
   | el id li i off=>
    show den U st.rs _=_
    unfold den at hx ⊢
    simp only [PK.id]at hx ⊢
    cases hn:nth st.rs id with
    | none=>rw [hn]at hx;simp [bF]at hx
    | some r=>
     rw [hn]at hx
     simp only [bF]at hx ⊢
     cases hL:gE r li with
     | none=>rw [hL]at hx;cases hx
     | some L=>
      simp only [hL]at hx ⊢
      split at hx
      ·rename_i hb
       rw [if_pos hb]
       injection hx with hx
       injection hx with hx
       injection hx with hx
       rw [← hx]
       unfold elA
       rw [← add_add]
      ·cases hx
   | obj id path off=>
    show den U st.rs _=_
    unfold den at hx ⊢
    simp only [PK.id]at hx ⊢
    cases hn:nth st.rs id with
    | none=>rw [hn]at hx;simp [bF]at hx
    | some r=>
     rw [hn]at hx
     cases r<;>simp only [bF,reduceCtorEq,Option.some.injEq,Value.pointer.injEq]at hx ⊢
     rw [← hx,bu]
   | sl _ _=>exact trivial
  ·exact trivial
 case sliceToArrayPointer arr x=>
  simp only [lz]at h
  have hx:=hk.kf x
  split at h
  ·rename_i id li Kq
   rw [Kq]at hx
   have hx:den U st.rs (.sl id li)=some (ev fr x):=hx
   split at h
   ·rename_i r n e hn ht
    split at h
    ·rename_i L hL
     simp only [den,PK.id,hn,bF,hL,Option.some.injEq]at hx
     obtain⟨⟨h0,hle⟩,hK⟩:=h
     obtain⟨p,y,hA,_⟩:=((hS.res id _ hn).ls hL).ld (i:=0) (by omega) (by omega)
     have e1:elA U L.t L.A 0 0=p:=by unfold elA;rw [hA];simp [Addr.add]
     obtain⟨v,hv,Ki⟩:=hp (fun v=>v= .pointer (some p)) (fun _ _ e=>by cases e) (by
      show(match P.underlying arr,ev fr x with
       | some (.array n _),.slice a len _=>n≤len∧Value.pointer a= .pointer (some p)
       | _,_=>False)
      rw [ht,← hx,hA]
      exact⟨hle,rfl⟩)
     subst hv
     rw [e1]at hK
     refine⟨_,_,hK,?_,Ki⟩
     show den U st.rs (.el id li 0 0)=_
     simp only [den,PK.id,hn,bF,hL]
     rw [if_pos (by omega),e1]
    ·exact h.elim
   ·exact h.elim
  ·exact h.elim
 case indexAddr t x i=>
  simp only [lz]at h
  have hx:=hk.kf x
  split at h
  ·rename_i id li k ix Kq hi
   rw [Kq]at hx
   have hx:den U st.rs (.sl id li)=some (ev fr x):=hx
   split at h
   ·rename_i r e hn ht
    split at h
    ·rename_i L hL
     simp only [den,PK.id,hn,bF,hL,Option.some.injEq]at hx
     split at h
     ·rename_i he
      simp only [Bool.and_eq_true]at he
      have Js:aZ P e=(U.en L.t).size:=Nat.eq_of_beq_eq_true he.2
      obtain⟨hb,hK⟩:=h
      obtain⟨p,y,hA,_⟩:=((hS.res id _ hn).ls hL).ld hb.1 hb.2
      have hv:elA U L.t L.A ix 0=p.add (ix.toNat *aZ P e):=by
       unfold elA
       rw [hA,Js]
       simp [Addr.add]
      refine⟨_,_,hK,?_,fun w' _=>?_⟩
      ·show den U st.rs (.el id li ix 0)=_
       simp only [den,PK.id,hn,bF,hL]
       rw [if_pos hb]
      ·have:=EY (P:=P) (c:=L.c) (k:=k) ht he.1 hb hA w'
       rw [hv]
       simp [execOp,← hx,hi,this]
     ·exact h.elim
    ·exact h.elim
   ·exact h.elim
  ·rename_i id path off k ix Kq hi
   rw [Kq]at hx
   have hx:den U st.rs (.obj id path off)=some (ev fr x):=hx
   split at h
   ·rename_i tt r s li n e hn No ht
    split at h
    ·rename_i L hL
     simp only [den,PK.id,hn,bF,Option.some.injEq]at hx
     split at h
     ·rename_i he
      simp only [Bool.and_eq_true]at he
      have Js:aZ P e=(U.en L.t).size:=Nat.eq_of_beq_eq_true he.2
      obtain⟨⟨hb,Np⟩,hK⟩:=h
      unfold Uni.ix1 at No
      rw [hn]at No
      have hA:=U.oU No hL
      have hM:nD P t (ev fr x) (ev fr i) (fun v=>v= .pointer (some ((Addr.mk (r path) off none).add (ix.toNat *aZ P e)))):=by
       unfold nD
       rw [ht,← hx,hi]
       simp only [he.1]
       exact⟨⟨hb.1,Np⟩,ai _ rfl rfl⟩
      obtain⟨v,hv,Ki⟩:=lF hM
      have hvE:elA U L.t L.A ix 0=(Addr.mk (r path) off none).add (ix.toNat *aZ P e):=by
       unfold elA
       rw [hA,Js]
       simp [Addr.add]
      refine⟨_,_,hK,?_,fun w' _=>?_⟩
      ·show den U st.rs (.el id li ix 0)=_
       simp only [den,PK.id,hn,bF,gE,hL]
       rw [if_pos hb]
      ·rw [hvE,← hv]
       simp [execOp,Ki]
     ·exact h.elim
    ·exact h.elim
   ·exact h.elim
  ·rename_i id off k ix Kq hi
   rw [Kq]at hx
   have hx:den U st.rs (.loc id off)=some (ev fr x):=hx
   unfold den at hx
   simp only [PK.id]at hx
   cases hn:nth st.rs id with
   | none=>rw [hn]at hx;simp [bF]at hx
   | some r=>
    rw [hn]at hx
    cases r<;>simp only [bF,reduceCtorEq,Option.some.injEq]at hx
    rename_i g cs T
    rw [← hx]at h
    obtain⟨n,e,k',ix',h1,h2,h3,h4⟩:=CE h
    rw [hi]at h2
    injection h2 with h2 h2'
    subst h2;subst h2'
    refine⟨_,_,h3,?_,fun w' _=>by simp [execOp,← hx,h4]⟩
    show den U st.rs _=_
    simp only [den,PK.id,hn,bF,CK,h1]
    rw [bu]
  ·exact h.elim
 case extract x i=>
  simp only [lz]at h
  split at h
  ·rename_i vs hx
   obtain⟨v,hv,hK⟩:=cr h
   have Md:vs[i]? =some v:=by rw [aH]at hv;simpa using hv
   refine⟨v,_,hK,?_,fun w' _=>?_⟩
   ·unfold Cz
    split
    ·rename_i l Kq
     split
     ·rename_i p hl
      have:=hk.kf x
      rw [Kq,hx]at this
      obtain⟨vs',e,hh⟩:=this
      injection e with e
      subst e
      obtain⟨u,hu,hd⟩:=hh i p hl
      rw [Md]at hu
      injection hu with hu
      subst hu
      exact hd
     ·exact trivial
    ·exact trivial
   ·simp [execOp,Instr.extract,hx,Md]
  ·exact h.elim
 case makeFunc f first cap=>
  refine⟨_,_,h,?_,fun w' _=>by rw [uI,uI];rfl⟩
  have key:∀(a:Array Operand)(j:Nat)(k:PK),nth (aD (fun x=>gC (V.kf st.kn x)) a.toList) j=some (some k)→∃u,(⟨aD (ev fr) a.toList⟩:Array Value)[j]? =some u∧den U st.rs k=some u:=by
   intro a j k hj
   rw [ba]at hj
   cases hn:nth a.toList j with
   | none=>rw [hn]at hj;cases hj
   | some x=>
    rw [hn]at hj
    injection hj with hj
    refine⟨ev fr x,?_,?_⟩
    ·rw [aH]at hn
     simp [eV,hn]
    ·have:=hk.kf x
     unfold gC at hj
     dsimp only at hj
     split at hj
     ·rename_i q hq
      injection hj with hj
      subst hj
      rw [hq]at this
      exact this
     ·cases hj
  exact⟨_,_,_,rfl,by simp,key first,key cap⟩
 case binOp op t x y ty'=>
  simp only [lz]at h
  split at h
  ·exact h.elim
  ·exact hpn (fun _ _ e=>by cases e) h
 case slice t x lo hi mx=>
  cases lo with
  | some _=>exact h.elim
  | none=>cases hi with
   | some _=>exact h.elim
   | none=>cases mx with
    | some _=>exact h.elim
    | none=>
     simp only [lz]at h
     have hx:=hk.kf x
     split at h
     ·rename_i id path off Kq
      rw [Kq]at hx
      have hx:den U st.rs (.obj id path off)=some (ev fr x):=hx
      split at h
      ·rename_i tt r s li n e hn No ht
       split at h
       ·rename_i L hL
        simp only [den,PK.id,hn,bF,Option.some.injEq]at hx
        split at h
        ·rename_i he
         obtain⟨⟨⟨hl,hc⟩,Ve⟩,hK⟩:=h
         unfold Uni.ix1 at No
         rw [hn]at No
         have hA:=U.oU No hL
         have hM:ov P t (ev fr x) none none none (fun v=>v= .slice L.A L.l.length L.c) False:=by
          unfold ov
          rw [ht,← hx]
          simp only [he,Option.isNone_none,Bool.true_or,Bool.and_self]
          refine ai _ rfl ?_
          unfold kL nh ph
          intro a' VF n' OO c' Qj
          subst VF OO Qj
          rw [if_neg (by omega),hA,hl,hc]
          simp [Addr.add]
         rcases ou hM with⟨v,hv,Ki⟩ | h
         ·refine⟨_,_,hK,?_,fun w' _=>?_⟩
          ·show den U st.rs (.sl id li)=_
           simp only [den,PK.id,hn,bF,gE,hL]
          ·rw [← hv]
           simp [execOp,Ki]
         ·exact h.elim
        ·exact h.elim
       ·exact h.elim
      ·exact h.elim
     ·exact h.elim
end
end
end Go.Proofs.YtfgpafjlcgaimaaGreatDoor.V
namespace Go.Proofs.YtfgpafjlcgaimaaGreatDoor
open Go.Proofs.Tryz (prog)
open Go Go.RowKit V
open Go.IntKind (i64 u32 u64)
def jc(a b:Int):Int:=u32.wrap (a+b)
def nW(a b:Int):Int:=u32.wrap (BitVec.ofInt u32.bits a ^^^ BitVec.ofInt u32.bits b).toNat
def C6(a b:Int):Int:=u32.wrap (BitVec.ofInt u32.bits a &&& BitVec.ofInt u32.bits b).toNat
def IL(a:Int):Int:=u32.wrap (BitVec.ofInt u32.bits (if u32.signed then -1 else u32.max) ^^^ BitVec.ofInt u32.bits a).toNat
def qk(w n:Int):Int:=u32.wrap (BitVec.ofInt u32.bits (w.fdiv (2 ^ (min n.toNat u32.bits))) ||| BitVec.ofInt u32.bits (u32.wrap (w*2 ^ (min (32 - n).toNat u32.bits)))).toNat
theorem fc {x:Int}(h:0≤x∧x<18446744073709551616):u64.wrap x=x:=by rw [IntKind.wrap_u64];omega
def sg0(a:Int):Int:=nW (nW (qk a 7) (qk a 18)) (a.fdiv (2 ^ 3))
def sg1(b:Int):Int:=nW (nW (qk b 17) (qk b 19)) (b.fdiv (2 ^ 10))
abbrev back(l:List Int)(t k:Int):Int:=l.getD (Int.toNat (i64.wrap (t - k))) 0
def GI(l:List Int)(t:Int):Int:=jc (jc (jc (back l t 16) (sg0 (back l t 15))) (back l t 7)) (sg1 (back l t 2))
def wZ(b:List Int):Nat→List Int
 | 0=>b++List.replicate 48 0
 | k+1=>(wZ b k).set (16+k) (GI (wZ b k) ((16+k:Nat):Int))
@[ext] structure S8 where
 (a b c d e f g h:Int)
deriving DecidableEq
def S8.T1(k w:Int)(s:S8):Int:=jc (jc (jc (jc s.h (nW (nW (qk s.e 6) (qk s.e 11)) (qk s.e 25))) (nW (C6 s.e s.f) (C6 (IL s.e) s.g))) k) w
def S8.T2(s:S8):Int:=jc (nW (nW (qk s.a 2) (qk s.a 13)) (qk s.a 22)) (nW (nW (C6 s.a s.b) (C6 s.a s.c)) (C6 s.b s.c))
def S8.rnd(k w:Int)(s:S8):S8:=⟨jc (s.T1 k w) s.T2,s.a,s.b,s.c,jc s.d (s.T1 k w),s.e,s.f,s.g⟩
def HN(K W:List Int)(s:S8):Nat→S8
 | 0=>s
 | t+1=>S8.rnd (K.getD t 0) (W.getD t 0) (HN K W s t)
def S8.add(s v:S8):S8:=⟨jc v.a s.a,jc v.b s.b,jc v.c s.c,jc v.d s.d,jc v.e s.e,jc v.f s.f,jc v.g s.g,jc v.h s.h⟩
def IX(K:List Int)(s:S8)(b:List Int):S8:=s.add (HN K (wZ b 48) s 64)
def S8.first:S8:=⟨1779033703,3144134277,1013904242,2773480762,1359893119,2600822924,528734635,1541459225⟩
def S8.ok(s:S8):Prop:=(0≤s.a∧s.a<4294967296)∧(0≤s.b∧s.b<4294967296)∧(0≤s.c∧s.c<4294967296)∧(0≤s.d∧s.d<4294967296)∧(0≤s.e∧s.e<4294967296)∧(0≤s.f∧s.f<4294967296)∧(0≤s.g∧s.g<4294967296)∧(0≤s.h∧s.h<4294967296)
end Go.Proofs.YtfgpafjlcgaimaaGreatDoor
namespace Go.Proofs.YtfgpafjlcgaimaaGreatDoor.V
open Go Go.RowKit
open Go.IntKind (i64 u32 u64)
theorem pj:u32.bits=32:=rfl
theorem CX:u64.bits=64:=rfl
def nor(x y:Int):Int:=((x.toNat ||| y.toNat:Nat):Int)
def ES(x y:Int):Int:=((x.toNat &&& y.toNat:Nat):Int)
theorem dh {n:Nat} {x:Int}(h0:0≤x)(h:x<2 ^ n):(BitVec.ofInt n x).toNat=x.toNat:=by
 rw [BitVec.toNat_ofInt,Int.emod_eq_of_lt h0 (by exact_mod_cast h)]
theorem mw {x y:Int}(hx:0≤x∧x<4294967296)(hy:0≤y∧y<4294967296):u32.wrap (BitVec.ofInt u32.bits x ||| BitVec.ofInt u32.bits y).toNat=nor x y:=by
 have h:=BitVec.isLt (BitVec.ofInt 32 x ||| BitVec.ofInt 32 y)
 rw [pj,cJ (by omega),BitVec.toNat_or,dh hx.1 hx.2,dh hy.1 hy.2];rfl
theorem nT {x y:Int}(hx:0≤x∧x<4294967296)(hy:0≤y∧y<4294967296):u32.wrap (BitVec.ofInt u32.bits x &&& BitVec.ofInt u32.bits y).toNat=ES x y:=by
 have h:=BitVec.isLt (BitVec.ofInt 32 x &&& BitVec.ofInt 32 y)
 rw [pj,cJ (by omega),BitVec.toNat_and,dh hx.1 hx.2,dh hy.1 hy.2];rfl
theorem eM(k:Nat) {a y:Int}(ha:0≤a)(hy:0≤y)(h:y<2 ^ k):nor (2 ^ k*a) y=2 ^ k*a+y:=by
 obtain⟨a,rfl⟩:=Int.eq_ofNat_of_zero_le ha
 obtain⟨y,rfl⟩:=Int.eq_ofNat_of_zero_le hy
 have h':y<2 ^ k:=by exact_mod_cast h
 have e:((2:Int) ^ k*(a:Int)).toNat=2 ^ k*a:=by
  rw [show(2:Int) ^ k*(a:Int)=((2 ^ k*a:Nat):Int)by push_cast;rfl,Int.toNat_natCast]
 unfold nor
 rw [e,Int.toNat_natCast,← Nat.two_pow_add_eq_or_of_lt h']
 push_cast;rfl
theorem lq(x y:Int):nor x y=nor y x:=by unfold nor;rw [Nat.or_comm]
theorem mB(k:Nat) {x:Int}(hx:0≤x):ES x (2 ^ k - 1)=x % 2 ^ k:=by
 obtain⟨x,rfl⟩:=Int.eq_ofNat_of_zero_le hx
 have hp:0<2 ^ k:=Nat.two_pow_pos k
 have e:((2:Int) ^ k - 1).toNat=2 ^ k - 1:=by
  have:((2:Int) ^ k)=((2 ^ k:Nat):Int):=by push_cast;rfl
  omega
 unfold ES
 rw [e,Int.toNat_natCast,Nat.and_two_pow_sub_one_eq_mod]
 push_cast;rfl
theorem ka {x:Int}(n:Nat):x.fdiv (2 ^ n)=x / 2 ^ n:=Int.fdiv_eq_ediv_of_nonneg x (Int.pow_nonneg (by omega))
end Go.Proofs.YtfgpafjlcgaimaaGreatDoor.V
namespace Go.Proofs.YtfgpafjlcgaimaaGreatDoor
open Go.Proofs.Tryz (prog)
open Go Go.RowKit V
open Go.IntKind (i64 u32 u64)
section
def Ir(K:List Int):Nat→S8→List U32→S8×List U32
 | 0,s,l=>(s,l)
 | f+1,s,l=>if 16≤l.length then Ir K f (IX K s ((l.take 16).map U32.v)) (l.drop 16)else(s,l)
def De(K:List Int)(s:S8)(l:List U32):S8×List U32:=Ir K (l.length / 16) s l
structure Dg where
 st:S8
 n:Int
 waits:List U32
namespace Dg
def new:Dg:=⟨S8.first,0,[]⟩
def add(K:List Int)(d:Dg)(l:List U32):Dg:=if(l.length:Int)>36028797018963968 - d.n then d else⟨(De K d.st (d.waits++l)).1,d.n+l.length,(De K d.st (d.waits++l)).2⟩
structure Ok(d:Dg):Prop where
 n:0≤d.n∧d.n≤36028797018963968
 len:d.waits.length=(d.n % 16).toNat
 st:d.st.ok
 words:∀x∈d.waits,0≤x.v∧x.v<4294967296
theorem sH:new.Ok:=⟨by decide,rfl,by unfold S8.ok new S8.first;decide,by simp [new]⟩
def kz(l:List U32):S8:=⟨(l.getD 0 ⟨0⟩).v,(l.getD 1 ⟨0⟩).v,(l.getD 2 ⟨0⟩).v,(l.getD 3 ⟨0⟩).v,(l.getD 4 ⟨0⟩).v,(l.getD 5 ⟨0⟩).v,(l.getD 6 ⟨0⟩).v,(l.getD 7 ⟨0⟩).v⟩
def nOf(l:List U32):Int:=(l.getD 8 ⟨0⟩).v*4294967296+(l.getD 9 ⟨0⟩).v
def load(l:List U32):Dg:=⟨kz l,nOf l,(l.drop 10).take (nOf l % 16).toNat⟩
theorem nOf_eq {l:List U32}(h:∀x∈l,0≤x.v∧x.v<4294967296)(hl:l.length=26):u64.wrap (BitVec.ofInt u64.bits (u64.wrap ((u64.wrap (l.getD 8 ⟨0⟩).v:Int)*2 ^ 32)) ||| BitVec.ofInt u64.bits (u64.wrap (l.getD 9 ⟨0⟩).v)).toNat=nOf l∧0≤nOf l∧nOf l<18446744073709551616:=by
 have h8:=h _ (List.getElem_mem (show 8<l.length by omega))
 have h9:=h _ (List.getElem_mem (show 9<l.length by omega))
 have e8:(l.getD 8 ⟨0⟩)=l[8]:=by simp [List.getD_eq_getElem?_getD,hl]
 have e9:(l.getD 9 ⟨0⟩)=l[9]:=by simp [List.getD_eq_getElem?_getD,hl]
 have hn:nOf l=l[8].v*(4294967296:Int)+l[9].v:=by unfold nOf;rw [e8,e9]
 refine⟨?_,by rw [hn];omega,by rw [hn];omega⟩
 rw [e8,e9,hn]
 generalize l[8].v=a at *
 generalize l[9].v=b at *
 rw [fc (x:=a) (by omega),fc (x:=b) (by omega),fc (x:=a*2 ^ 32) (by omega)]
 rw [CX,BitVec.toNat_or,dh (by omega) (by omega),dh (by omega) (by omega)]
 have:=eM 32 (a:=a) (y:=b) (by omega) (by omega) (by omega)
 unfold nor at this
 rw [show a*2 ^ 32=2 ^ 32*a by omega,this,fc (by omega)]
 omega
def bK(l:List U32):Int:=
 if l.length≠26 then 20 else if nOf l>36028797018963968∨(nOf l<16∧kz l≠S8.first)then 20
 else if(l.drop (10+(nOf l % 16).toNat)).all (fun x=>x.v==0)then 0 else 20
def zero:Dg:=⟨⟨0,0,0,0,0,0,0,0⟩,0,[]⟩
def ja(l:List U32):Dg:=if bK l=0 then load l else zero
theorem lB {l:List U32}(h:¬l.length=26):bK l=20:=by unfold bK;rw [if_pos h]
theorem fx {l:List U32}(h:l.length=26)(hg:nOf l>36028797018963968∨(nOf l<16∧kz l≠S8.first)):bK l=20:=by unfold bK;rw [if_neg (by simpa using h),if_pos hg]
theorem oQ {l:List U32}(h:l.length=26)(hg:¬(nOf l>36028797018963968∨(nOf l<16∧kz l≠S8.first)))(hz:∀(i:Nat)(x:U32),(l.drop (10+(nOf l % 16).toNat))[i]? =some x→x.v=0):bK l=0:=by
 unfold bK
 rw [if_neg (by simpa using h),if_neg hg,if_pos]
 rw [List.all_eq_true]
 intro x hx
 obtain⟨i,hi⟩:=List.getElem?_of_mem hx
 simpa using hz i x hi
theorem eW {l:List U32}(h:l.length=26)(hg:¬(nOf l>36028797018963968∨(nOf l<16∧kz l≠S8.first))) {i:Nat} {x:U32}(hx:(l.drop (10+(nOf l % 16).toNat))[i]? =some x)(h0:¬x.v=0):bK l=20:=by
 unfold bK
 rw [if_neg (by simpa using h),if_neg hg,if_neg]
 rw [List.all_eq_true]
 intro hh
 exact h0 (by simpa using hh x (List.mem_of_getElem? hx))
theorem lo_eq {l:List U32}:(i64.wrap (10+nOf l % 16)).toNat=10+(nOf l % 16).toNat:=by rw [ak (by omega)];omega
end Dg
structure DgL where
 Y:Nat→Prop
 a:Option Addr
 n:Nat
 c:Nat
def DgL.X(L:DgL)(g:Nat):Nat→Prop:=fun k=>k=g∨L.Y k
structure qD(w:World)(g:Nat)(L:DgL)(D:Dg):Prop where
 blk:∃T,Blk w g #[.int .u32 D.st.a,.int .u32 D.st.b,.int .u32 D.st.c,.int .u32 D.st.d,.int .u32 D.st.e,.int .u32 D.st.f,.int .u32 D.st.g,.int .u32 D.st.h,.int .i64 D.n,.slice L.a L.n L.c] T
 rd:Rd w L.Y L.a L.n L.c D.waits
 off:¬L.Y g
variable {w w':World} {g:Nat} {L:DgL} {D:Dg} {X:Nat→Prop}
theorem qD.lt(h:qD w g L D):∀k,L.X g k→k<w.heap.size:=by
 rintro k (rfl | hk)
 ·obtain⟨T,b⟩:=h.blk;exact b.lt
 ·exact h.rd.lt k hk
theorem qD.ch(h:qD w g L D)(hk:Ch X w w')(hx:∀k,L.X g k→¬X k):qD w' g L D:=
 ⟨h.blk.imp fun _ b=>hk.blk b (hx g (.inl rfl)),h.rd.ch hk fun k hk=>hx k (.inr hk),h.off⟩
theorem qD.pu(h:qD w g L D)(hk:Pu w w'):qD w' g L D:=h.ch hk (by simp)
end
structure Mem where
 S:Nat
 I:Nat
 pg:Bool→Nat→Nat→Int
namespace Mem
def cnt(m:Mem)(s:Bool):Nat:=match s with
 | true=>m.S
 | false=>m.I
def has(m:Mem)(s:Bool)(p:Int):Bool:=decide (0≤p∧p<(m.cnt s:Int))
def b9(o:Int):Bool:=decide (0≤o∧o<1024)
def bQ(m:Mem)(s:Bool)(p o:Int):Int:=if m.has s p && b9 o then m.pg s p.toNat o.toNat else 0
def tick(m:Mem)(_:Int):Mem:=m
def fill(m:Mem)(s:Bool)(p:Nat)(f:Nat→Int):Mem:= {m with pg:=fun s' p' o'=>if s'=s∧p'=p then f o' else m.pg s' p' o'}
def put(m:Mem)(s:Bool)(p o:Nat)(v:Int):Mem:=m.fill s p fun o'=>if o'=o then v else m.pg s p o'
def err(m:Mem)(s:Bool)(p o:Int):Int:=if m.has s p then(if b9 o then 0 else 70)else 5
def write(m:Mem)(s:Bool)(p o v:Int):Mem:=if m.has s p && b9 o then(m.put s p.toNat o.toNat v).tick 1 else m
def bJ(m:Mem)(s:Bool)(p:Int):Int:=if m.has s p then 0 else 5
def zero(m:Mem)(s:Bool)(p:Int):Mem:=if m.has s p then(m.fill s p.toNat fun _=>0).tick 1024 else m
def fresh(S I:Nat):Mem:= {S,I,pg:=fun _ _ _=>0}
@[simp] theorem Ii(m:Mem)(n:Int)(s:Bool):(m.tick n).cnt s=m.cnt s:=by cases s<;>rfl
@[simp] theorem Ij(m:Mem)(s':Bool)(p:Nat)(f:Nat→Int)(s:Bool):(m.fill s' p f).cnt s=m.cnt s:=by cases s<;>rfl
@[simp] theorem IA(m:Mem)(s':Bool)(p o:Nat)(v:Int)(s:Bool):(m.put s' p o v).cnt s=m.cnt s:=by cases s<;>rfl
theorem cx {m:Mem} {s:Bool} {p:Int}(h:m.has s p=true):0≤p∧p<(m.cnt s:Int):=by simpa [has]using h
theorem cy {m:Mem} {s:Bool} {p:Int}(h:m.has s p=true):p.toNat<m.cnt s:=by have:=cx h;omega
theorem eC {o:Int}(h:b9 o=true):0≤o∧o<1024:=by simpa [b9]using h
end Mem
end Go.Proofs.YtfgpafjlcgaimaaGreatDoor
namespace Go.Proofs.YtfgpafjlcgaimaaGreatDoor
open Go.Proofs.Tryz (prog)
open Go Go.RowKit V
open Go.IntKind (i64 u32 u64)
section
set_option maxRecDepth 100000
def aJ:List Nat:= [2,3,4,5,6,7,8,9,10,11,12,13,14,15,16,17,18,19,20,21,22,23,24,25,26,27,28,29,30,31,32,33,34,35,36,37,38,39,40,41,42,43,44,45,46,47,48,49,50,51,52,53,54,55,56,57,58,59,60,61,62,63,64,65,66,67,68,69,70,71,72,73,74,75,76,77,78,79,80,81,82,83,84,85,86,87,88,89,90,91,92,93,94,95,96,97,98,99,100,101,102,103,104,105,106,107,108,109,110,111,112,113,114,115,116,117,118,119,120,121,122,123,124,125,126,127,128,129,130,131,132,133,134,135,136,137,138,139,140,141,142,143,144,145,146,147,148,149,150,151,152,153,154,155,156,157,158,159,160,161,162,163,164,165,166,167,168,169,170,171,172,173,174,175,176,202]
theorem ar:dy prog aJ=true:=by kernel_rfl
theorem aa:prog.follows .mixedOrders=true:=by kernel_rfl
def rY(aA:Option Addr)(aN:Nat)(aC:Nat)(bA:Option Addr)(bN:Nat)(bC:Nat)(R:ax)(w:World):Prop:=
 split ((((aN:Nat):Int):Int) !=((bN:Nat):Int)) (
  R (.bool false) w) (
  ∃I:Nat→Int→World→Prop,(∃m,I m 0 w)∧∀(m:Nat)(JW:Nat→Value)(LD:Int),∀wv,I m LD wv→
  split (decide ((LD:Int)<((aN:Nat):Int))) (
   (0≤(LD:Int)∧(LD:Int)<((aN:Nat):Int))∧
   aq aA fun P0=>
   ∃Jk:Option Addr,wv.drew.cell? (P0.add (Int.toNat LD*1))=some (.pointer Jk)∧
   aq Jk fun QA=>
   ∃Kh:Array Value,(Kh.size=1024∧∀i u,Kh[i]? =some u→wv.drew.cell? (QA.add i)=some u)∧
   (0≤(LD:Int)∧(LD:Int)<((bN:Nat):Int))∧
   aq bA fun UM=>
   ∃L6:Option Addr,wv.drew.cell? (UM.add (Int.toNat LD*1))=some (.pointer L6)∧
   aq L6 fun Nl=>
   ∃M0:Array Value,(M0.size=1024∧∀i u,M0[i]? =some u→wv.drew.cell? (Nl.add i)=some u)∧
   bG (kC [.int .u32] 1024) (Kh:Array Value).toList=true∧
   bG (kC [.int .u32] 1024) (M0:Array Value).toList=true∧
   split (!(aK Kh M0)) (
    R (.bool false) wv.drew) (
    ∃m1,m1<m∧I m1 (i64.wrap (LD+1)) wv.drew)) (
   R (.bool true) wv))
def Bn:Ann:=(.node none .leaf (.node none .leaf (.node none (.node none .leaf (.node none (.node (some ⟨[(13,.one (.int .i64))],[4,5,13,14,15,16,17,18,19,20,21,22,23,24,25,26,27,28,29]⟩) .leaf .leaf) .leaf)) .leaf)))
theorem MAlike_eq(aA:Option Addr)(aN:Nat)(aC:Nat)(bA:Option Addr)(bN:Nat)(bC:Nat)(R:ax)(w:World):rY aA aN aC bA bN bC R w=vcF prog aJ [] Tryz.f24 Bn [(.slice aA aN aC),(.slice bA bN bC)] R none w:=by kernel_rfl
theorem tD(aA:Option Addr)(aN:Nat)(aC:Nat)(bA:Option Addr)(bN:Nat)(bC:Nat) {R:ax} {w:World}(h:rY aA aN aC bA bN bC R w):Calls prog 24 #[(.slice aA aN aC),(.slice bA bN bC)] w fun e w'=>∃v,e= .returned v∧R v w':=
 aj Tryz.func24 ar aa ((MAlike_eq aA aN aC bA bN bC R w).mp h)
def D1(m:Option Addr)(fa:Bool)(fb:Int)(R:ax)(w:World):Prop:=
 ∀(gv:Nat)(wv:World),gv=w.heap.size→wv=w.alloc (.cells #[(.bool fa),(.int .i64 fb)] 47)→
 aq m fun p7=>
 ∃Qy:Option Addr,∃PV:Nat,∃TR:Nat,wv.cell? (p7.add 1)=some (.slice Qy PV TR)∧
 ∃JS:Bool,wv.cell? ((Addr.mk gv 0 none).add 0)=some (.bool JS)∧
 split JS (
  aq m fun P1=>
  ∃Sr:Option Addr,∃PX:Nat,∃UA:Nat,wv.cell? (P1.add 0)=some (.slice Sr PX UA)∧
  ∃J:Bool→World→Prop,(
   ∃Kj:Int,wv.cell? ((Addr.mk gv 0 none).add 1)=some (.int .i64 Kj)∧
   split (decide ((Kj:Int)<0)) (
    J true wv) (
    ∃Kh:Int,wv.cell? ((Addr.mk gv 0 none).add 1)=some (.int .i64 Kh)∧
    J (decide ((Kh:Int)≥((PX:Nat):Int))) wv))∧∀(Ji:Nat→Value)(L6:Bool),∀I2,J L6 I2→
  split L6 (
   R (.pointer none) I2) (
   ∃L5:Int,I2.cell? ((Addr.mk gv 0 none).add 1)=some (.int .i64 L5)∧
   (0≤(L5:Int)∧(L5:Int)<((PX:Nat):Int))∧
   aq Sr fun O5=>
   ∃JK:Option Addr,I2.cell? (O5.add (Int.toNat L5*1))=some (.pointer JK)∧
   R (.pointer JK) I2)) (
  ∃J:Bool→World→Prop,(
   ∃Kj:Int,wv.cell? ((Addr.mk gv 0 none).add 1)=some (.int .i64 Kj)∧
   split (decide ((Kj:Int)<0)) (
    J true wv) (
    ∃Kh:Int,wv.cell? ((Addr.mk gv 0 none).add 1)=some (.int .i64 Kh)∧
    J (decide ((Kh:Int)≥((PV:Nat):Int))) wv))∧∀(Ji:Nat→Value)(L6:Bool),∀I2,J L6 I2→
  split L6 (
   R (.pointer none) I2) (
   ∃L5:Int,I2.cell? ((Addr.mk gv 0 none).add 1)=some (.int .i64 L5)∧
   (0≤(L5:Int)∧(L5:Int)<((PV:Nat):Int))∧
   aq Qy fun O5=>
   ∃JK:Option Addr,I2.cell? (O5.add (Int.toNat L5*1))=some (.pointer JK)∧
   R (.pointer JK) I2))
def HD:Ann:=(.node none .leaf (.node none .leaf (.node none .leaf (.node none (.node none (.node (some ⟨[(25,.one (.bool))],[16,17,18,19,20,21,22,23,24,25]⟩) .leaf .leaf) .leaf) .leaf))))
theorem MAt_eq(m:Option Addr)(fa:Bool)(fb:Int)(R:ax)(w:World):D1 m fa fb R w=vcF prog aJ [] Tryz.f61 HD [(.pointer m),(.agg #[(.bool fa),(.int .i64 fb)])] R none w:=by kernel_rfl
theorem Bm(m:Option Addr)(fa:Bool)(fb:Int) {R:ax} {w:World}(h:D1 m fa fb R w):Calls prog 61 #[(.pointer m),(.agg #[(.bool fa),(.int .i64 fb)])] w fun e w'=>∃v,e= .returned v∧R v w':=
 aj Tryz.func61 ar aa ((MAt_eq m fa fb R w).mp h)
def rX(m:Option Addr)(fa:Bool)(fb:Int)(R:ax)(w:World):Prop:=
 ∀(gv:Nat)(wv:World),gv=w.heap.size→wv=w.alloc (.cells #[(.bool fa),(.int .i64 fb)] 47)→
 ∃KW:Bool,∃Ko:Int,(wv.cell? ((Addr.mk gv 0 none).add 0)=some (.bool KW)∧wv.cell? ((Addr.mk gv 0 none).add 1)=some (.int .i64 Ko))∧
 Calls prog 27 #[(.pointer m),(.agg #[(.bool KW),(.int .i64 Ko)]),(.int .i64 1)] wv fun e I2=>
 ∃Mb:Option Addr,∃Lx:Int,e= .returned (.tuple #[(.pointer Mb),(.int .i64 Lx)])∧
 ∃J:Bool→Int→World→Prop,(
  split ((Lx:Int)==0) (
   aq Mb fun P0=>
   ∃Jk:Array Value,(Jk.size=1024∧∀i u,Jk[i]? =some u→I2.cell? (P0.add i)=some u)∧
   bG (kC [.int .u32] 1024) (Jk:Array Value).toList=true∧
   bG (kC [.int .u32] 1024) ((Array.replicate 1024 (.int .u32 0)):Array Value).toList=true∧
   J (aK Jk (Array.replicate 1024 (.int .u32 0))) Lx I2) (
   J false Lx I2))∧∀(Ji:Nat→Value)(x4:Bool)(x5:Int),∀I3,J x4 x5 I3→
 R (.tuple #[(.bool x4),(.int .i64 x5)]) I3
def Bk:Ann:=(.node none .leaf (.node none .leaf (.node none (.node (some ⟨[(4,.one (.bool)),(5,.one (.int .i64))],[4,5,14,15,16,17,18,19,20,21,22,23]⟩) .leaf .leaf) .leaf)))
theorem MBlank_eq(m:Option Addr)(fa:Bool)(fb:Int)(R:ax)(w:World):rX m fa fb R w=vcF prog aJ [] Tryz.f13 Bk [(.pointer m),(.agg #[(.bool fa),(.int .i64 fb)])] R none w:=by kernel_rfl
theorem tC(m:Option Addr)(fa:Bool)(fb:Int) {R:ax} {w:World}(h:rX m fa fb R w):Calls prog 13 #[(.pointer m),(.agg #[(.bool fa),(.int .i64 fb)])] w fun e w'=>∃v,e= .returned v∧R v w':=
 aj Tryz.func13 ar aa ((MBlank_eq m fa fb R w).mp h)
def rW(m:Option Addr)(R:ax)(w:World):Prop:=
 ∃b:Nat→Nat→Prop,
 aq m fun p4=>
 b 3 ((p4.add 0).block)∧
 ∃OF:Option Addr,∃MZ:Nat,∃OR:Nat,w.drew.cell? (p4.add 0)=some (.slice OF MZ OR)∧
 aq m fun p9=>
 b 8 ((p9.add 1).block)∧
 ∃M6:Option Addr,∃M4:Nat,∃M5:Nat,w.drew.cell? (p9.add 1)=some (.slice M6 M4 M5)∧
 aq m fun Pr=>
 b 13 ((Pr.add 2).block)∧
 ∃Li:Int,w.drew.cell? (Pr.add 2)=some (.int .i64 Li)∧
 Calls prog 53 #[(.slice OF MZ OR)] w.drew fun e wv=>
 ∃x7A:Option Addr,∃x7N:Nat,∃x7C:Nat,e= .returned (.slice x7A x7N x7C)∧
 Kept (cn b [0,5,6,7,8,10,11,12,13]) w.drew wv∧∃b1:Nat→Nat→Prop,(∀i k,b i k→b1 i k)∧
 Calls prog 53 #[(.slice M6 M4 M5)] wv fun e I2=>
 ∃N0:Option Addr,∃NY:Nat,∃NZ:Nat,e= .returned (.slice N0 NY NZ)∧
 Kept (cn b1 [0,1,5,10,11,12,13]) wv I2∧∃b2:Nat→Nat→Prop,(∀i k,b1 i k→b2 i k)∧
 ∀(gv:Nat)(I3:World),gv=I2.heap.size→I3=I2.alloc (.cells #[(.slice x7A x7N x7C),(.slice N0 NY NZ),(.int .i64 Li)] 82)→
 Kept (cn b2 [0,1,2,5,6,7,10,11]) I2 I3∧∃b3:Nat→Nat→Prop,(∀i k,b2 i k→b3 i k)∧
 R (.pointer (some (Addr.mk gv 0 none))) I3
def Bj:Ann:= .leaf
theorem MClone_eq(m:Option Addr)(R:ax)(w:World):rW m R w=vcF prog aJ [] Tryz.f21 Bj [(.pointer m)] R none w:=by kernel_rfl
theorem tB(m:Option Addr) {R:ax} {w:World}(h:rW m R w):Calls prog 21 #[(.pointer m)] w fun e w'=>∃v,e= .returned v∧R v w':=
 aj Tryz.func21 ar aa ((MClone_eq m R w).mp h)
def wq(lA:Option Addr)(lN:Nat)(lC:Nat)(R:ax)(w:World):Prop:=
 ∃Qy:Option Addr,∃PV:Nat,∃TR:Nat,∃wv,(Instr.makeSlice 80 (.int .i64 ((lN:Nat):Int)) (.int .i64 ((lN:Nat):Int)):Sem Value).run prog w= .ok (.slice Qy PV TR) wv∧
 ∃I:Nat→Int→World→Prop,(∃m,I m 0 wv)∧∀(m:Nat)(JW:Nat→Value)(Jy:Int),∀I2,I m Jy I2→
 split (decide ((Jy:Int)<((lN:Nat):Int))) (
  (0≤(Jy:Int)∧(Jy:Int)<((lN:Nat):Int))∧
  aq lA fun UN=>
  ∃Li:Option Addr,I2.cell? (UN.add (Int.toNat Jy*1))=some (.pointer Li)∧
  aq Li fun P0=>
  ∃Jk:Array Value,(Jk.size=1024∧∀i u,Jk[i]? =some u→I2.cell? (P0.add i)=some u)∧
  ∀(I8:Nat)(I3:World),I8=I2.heap.size→I3=I2.alloc (.cells (Array.replicate 1024 (.int .u32 0)) 94)→
  Jk.size=1024∧(∀v∈Jk.toList,one? v True)∧
  aI I3 (Addr.mk I8 0 none) Jk.toList fun I5=>
  (0≤(Jy:Int)∧(Jy:Int)<((PV:Nat):Int))∧
  aq Qy fun PZ=>
  aI I5 (PZ.add (Int.toNat Jy*1)) [(.pointer (some (Addr.mk I8 0 none)))] fun Jh=>
  ∃m1,m1<m∧I m1 (i64.wrap (Jy+1)) Jh) (
  R (.slice Qy PV TR) I2)
def DY:Ann:=(.node none .leaf (.node none .leaf (.node none (.node none .leaf (.node none (.node (some ⟨[(12,.one (.int .i64))],[4,5,6,12,13,14,15,16,17,18,19,20,21,22,23]⟩) .leaf .leaf) .leaf)) .leaf)))
theorem MEach_eq(lA:Option Addr)(lN:Nat)(lC:Nat)(R:ax)(w:World):wq lA lN lC R w=vcF prog aJ [] Tryz.f53 DY [(.slice lA lN lC)] R none w:=by kernel_rfl
theorem wu(lA:Option Addr)(lN:Nat)(lC:Nat) {R:ax} {w:World}(h:wq lA lN lC R w):Calls prog 53 #[(.slice lA lN lC)] w fun e w'=>∃v,e= .returned v∧R v w':=
 aj Tryz.func53 ar aa ((MEach_eq lA lN lC R w).mp h)
def zt(m:Option Addr)(fa:Bool)(fb:Int)(R:ax)(w:World):Prop:=
 ∀(gv:Nat)(wv:World),gv=w.heap.size→wv=w.alloc (.cells #[(.bool fa),(.int .i64 fb)] 47)→
 ∃x6a:Bool,∃x6b:Int,(wv.cell? ((Addr.mk gv 0 none).add 0)=some (.bool x6a)∧wv.cell? ((Addr.mk gv 0 none).add 1)=some (.int .i64 x6b))∧
 Calls prog 61 #[(.pointer m),(.agg #[(.bool x6a),(.int .i64 x6b)])] wv fun e I2=>
 ∃x7:Option Addr,e= .returned (.pointer x7)∧
 R (.bool (!x7.isNone)) I2
def FZ:Ann:= .leaf
theorem MHas_eq(m:Option Addr)(fa:Bool)(fb:Int)(R:ax)(w:World):zt m fa fb R w=vcF prog aJ [] Tryz.f60 FZ [(.pointer m),(.agg #[(.bool fa),(.int .i64 fb)])] R none w:=by kernel_rfl
theorem xZ(m:Option Addr)(fa:Bool)(fb:Int) {R:ax} {w:World}(h:zt m fa fb R w):Calls prog 60 #[(.pointer m),(.agg #[(.bool fa),(.int .i64 fb)])] w fun e w'=>∃v,e= .returned v∧R v w':=
 aj Tryz.func60 ar aa ((MHas_eq m fa fb R w).mp h)
def wm(n:Int)(R:ax)(w:World):Prop:=
 ∃OF:Option Addr,∃MZ:Nat,∃OR:Nat,∃wv,(Instr.makeSlice 80 (.int .i64 n) (.int .i64 n):Sem Value).run prog w= .ok (.slice OF MZ OR) wv∧
 ∃I:Nat→Int→World→Prop,(∃m,I m 0 wv)∧∀(m:Nat)(JW:Nat→Value)(x9:Int),∀I2,I m x9 I2→
 split (decide ((x9:Int)<((MZ:Nat):Int))) (
  ∀(I8:Nat)(I3:World),I8=I2.heap.size→I3=I2.alloc (.cells (Array.replicate 1024 (.int .u32 0)) 94)→
  (0≤(x9:Int)∧(x9:Int)<((MZ:Nat):Int))∧
  aq OF fun OJ=>
  aI I3 (OJ.add (Int.toNat x9*1)) [(.pointer (some (Addr.mk I8 0 none)))] fun I5=>
  ∃m1,m1<m∧I m1 (i64.wrap (x9+1)) I5) (
  R (.slice OF MZ OR) I2)
def DW:Ann:=(.node none .leaf (.node none .leaf (.node none (.node none .leaf (.node none (.node (some ⟨[(9,.one (.int .i64))],[4,9,10,11,12,13,14,15,16,17]⟩) .leaf .leaf) .leaf)) .leaf)))
theorem MMade_eq(n:Int)(R:ax)(w:World):wm n R w=vcF prog aJ [] Tryz.f64 DW [(.int .i64 n)] R none w:=by kernel_rfl
theorem wo(n:Int) {R:ax} {w:World}(h:wm n R w):Calls prog 64 #[(.int .i64 n)] w fun e w'=>∃v,e= .returned v∧R v w':=
 aj Tryz.func64 ar aa ((MMade_eq n R w).mp h)
def zs(aO:Int)(insecure:Int)(R:ax)(w:World):Prop:=
 ∃J:Bool→World→Prop,(
  split (decide ((aO:Int)<1)) (
   J true w) (
   split (decide ((aO:Int)>64)) (
    J true w) (
    split (decide ((insecure:Int)<1)) (
     J true w) (
     J (decide ((insecure:Int)>64)) w))))∧∀(JW:Nat→Value)(Jk:Bool),∀wv,J Jk wv→
 split Jk (
  R (.tuple #[(.pointer none),(.int .i64 1)]) wv) (
  Calls prog 64 #[(.int .i64 aO)] wv fun e I2=>
  ∃R5:Option Addr,∃R3:Nat,∃R4:Nat,e= .returned (.slice R5 R3 R4)∧
  Calls prog 64 #[(.int .i64 insecure)] I2 fun e I3=>
  ∃M3:Option Addr,∃M1:Nat,∃NF:Nat,e= .returned (.slice M3 M1 NF)∧
  ∀(I8:Nat)(I5:World),I8=I3.heap.size→I5=I3.alloc (.cells #[(.slice R5 R3 R4),(.slice M3 M1 NF),(.int .i64 0)] 82)→
  R (.tuple #[(.pointer (some (Addr.mk I8 0 none))),(.int .i64 0)]) I5)
def FY:Ann:=(.node none .leaf (.node none (.node none (.node (some ⟨[(19,.one (.bool))],[6,7,8,9,10,11,12,13,14,15,16,17,18,19]⟩) .leaf .leaf) .leaf) .leaf))
theorem MNew_eq(aO:Int)(insecure:Int)(R:ax)(w:World):zs aO insecure R w=vcF prog aJ [] Tryz.f31 FY [(.int .i64 aO),(.int .i64 insecure)] R none w:=by kernel_rfl
theorem xX(aO:Int)(insecure:Int) {R:ax} {w:World}(h:zs aO insecure R w):Calls prog 31 #[(.int .i64 aO),(.int .i64 insecure)] w fun e w'=>∃v,e= .returned v∧R v w':=
 aj Tryz.func31 ar aa ((MNew_eq aO insecure R w).mp h)
def wj(m:Option Addr)(fa:Bool)(fb:Int)(off:Int)(R:ax)(w:World):Prop:=
 ∀(gv:Nat)(wv:World),gv=w.heap.size→wv=w.alloc (.cells #[(.bool fa),(.int .i64 fb)] 47)→
 ∃Nv:Bool,∃Nu:Int,(wv.cell? ((Addr.mk gv 0 none).add 0)=some (.bool Nv)∧wv.cell? ((Addr.mk gv 0 none).add 1)=some (.int .i64 Nu))∧
 Calls prog 61 #[(.pointer m),(.agg #[(.bool Nv),(.int .i64 Nu)])] wv fun e I2=>
 ∃Jz:Option Addr,e= .returned (.pointer Jz)∧
 ∃J:Bool→World→Prop,(
  split Jz.isNone (
   J true I2) (
   split (decide ((off:Int)<0)) (
    J true I2) (
    J (decide ((off:Int)≥1024)) I2)))∧∀(Ji:Nat→Value)(MM:Bool),∀I3,J MM I3→
 split MM (
  R (.int .u32 0) I3) (
  aq Jz fun p23=>
  (0≤(off:Int)∧(off:Int)<((1024:Nat):Int))∧
  ∃L6:Int,I3.cell? (p23.add (Int.toNat off*1))=some (.int .u32 L6)∧
  R (.int .u32 L6) I3)
def DV:Ann:=(.node none .leaf (.node none .leaf (.node none (.node none (.node (some ⟨[(20,.one (.bool))],[11,12,13,14,15,16,17,18,19,20]⟩) .leaf .leaf) .leaf) .leaf)))
theorem MPeek_eq(m:Option Addr)(fa:Bool)(fb:Int)(off:Int)(R:ax)(w:World):wj m fa fb off R w=vcF prog aJ [] Tryz.f152 DV [(.pointer m),(.agg #[(.bool fa),(.int .i64 fb)]),(.int .i64 off)] R none w:=by kernel_rfl
theorem wk(m:Option Addr)(fa:Bool)(fb:Int)(off:Int) {R:ax} {w:World}(h:wj m fa fb off R w):Calls prog 152 #[(.pointer m),(.agg #[(.bool fa),(.int .i64 fb)]),(.int .i64 off)] w fun e w'=>∃v,e= .returned v∧R v w':=
 aj Tryz.func152 ar aa ((MPeek_eq m fa fb off R w).mp h)
def wh(m:Option Addr)(fa:Bool)(fb:Int)(off:Int)(R:ax)(w:World):Prop:=
 ∀(gv:Nat)(wv:World),gv=w.heap.size→wv=w.alloc (.cells #[(.bool fa),(.int .i64 fb)] 47)→
 ∃Sz:Bool,∃Sy:Int,(wv.cell? ((Addr.mk gv 0 none).add 0)=some (.bool Sz)∧wv.cell? ((Addr.mk gv 0 none).add 1)=some (.int .i64 Sy))∧
 Calls prog 28 #[(.pointer m),(.agg #[(.bool Sz),(.int .i64 Sy)]),(.int .i64 off)] wv fun e I2=>
 ∃Ma:Option Addr,∃Lw:Int,e= .returned (.tuple #[(.pointer Ma),(.int .i64 Lw)])∧
 split ((Lw:Int) !=0) (
  R (.tuple #[(.int .u32 0),(.int .i64 Lw)]) I2) (
  aq Ma fun SF=>
  ∃Jo:Int,I2.cell? SF=some (.int .u32 Jo)∧
  R (.tuple #[(.int .u32 Jo),(.int .i64 0)]) I2)
def DU:Ann:= .leaf
theorem MRead_eq(m:Option Addr)(fa:Bool)(fb:Int)(off:Int)(R:ax)(w:World):wh m fa fb off R w=vcF prog aJ [] Tryz.f136 DU [(.pointer m),(.agg #[(.bool fa),(.int .i64 fb)]),(.int .i64 off)] R none w:=by kernel_rfl
theorem wi(m:Option Addr)(fa:Bool)(fb:Int)(off:Int) {R:ax} {w:World}(h:wh m fa fb off R w):Calls prog 136 #[(.pointer m),(.agg #[(.bool fa),(.int .i64 fb)]),(.int .i64 off)] w fun e w'=>∃v,e= .returned v∧R v w':=
 aj Tryz.func136 ar aa ((MRead_eq m fa fb off R w).mp h)
def we(m:Option Addr)(o:Option Addr)(R:ax)(w:World):Prop:=
 ∃J:Bool→World→Prop,(
  ∃b:Nat→Nat→Prop,
  aq m fun p6=>
  b 3 ((p6.add 0).block)∧
  ∃x8A:Option Addr,∃x8N:Nat,∃x8C:Nat,w.drew.cell? (p6.add 0)=some (.slice x8A x8N x8C)∧
  aq o fun SG=>
  b 7 ((SG.add 0).block)∧
  ∃N0:Option Addr,∃NY:Nat,∃NZ:Nat,w.drew.cell? (SG.add 0)=some (.slice N0 NY NZ)∧
  Calls prog 24 #[(.slice x8A x8N x8C),(.slice N0 NY NZ)] w.drew fun e wv=>
  ∃LD:Bool,e= .returned (.bool LD)∧
  Kept (cn b [0,4]) w.drew wv∧∃b1:Nat→Nat→Prop,(∀i k,b i k→b1 i k)∧
  split LD (
   aq m fun OJ=>
   b1 13 ((OJ.add 1).block)∧
   ∃L9:Option Addr,∃L7:Nat,∃L8:Nat,wv.cell? (OJ.add 1)=some (.slice L9 L7 L8)∧
   aq o fun QA=>
   b1 17 ((QA.add 1).block)∧
   ∃NI:Option Addr,∃NH:Nat,∃O0:Nat,wv.cell? (QA.add 1)=some (.slice NI NH O0)∧
   Calls prog 24 #[(.slice L9 L7 L8),(.slice NI NH O0)] wv fun e I2=>
   ∃NG:Bool,e= .returned (.bool NG)∧
   Kept (cn b1 [0,1,2,4,5,6,10,14]) wv I2∧∃b2:Nat→Nat→Prop,(∀i k,b1 i k→b2 i k)∧
   J NG I2) (
   J false wv))∧∀(JW:Nat→Value)(x4:Bool),∀wv,J x4 wv→
 R (.bool x4) wv
def DT:Ann:=(.node none .leaf (.node none (.node (some ⟨[(4,.one (.bool))],[4,5,6,7,8,9,10,11,12,13,14,15,16,17,18,19,20,21,22,23,24]⟩) .leaf .leaf) .leaf))
theorem MSame_eq(m:Option Addr)(o:Option Addr)(R:ax)(w:World):we m o R w=vcF prog aJ [] Tryz.f10 DT [(.pointer m),(.pointer o)] R none w:=by kernel_rfl
theorem wg(m:Option Addr)(o:Option Addr) {R:ax} {w:World}(h:we m o R w):Calls prog 10 #[(.pointer m),(.pointer o)] w fun e w'=>∃v,e= .returned v∧R v w':=
 aj Tryz.func10 ar aa ((MSame_eq m o R w).mp h)
def pY(m:Option Addr)(R:ax)(w:World):Prop:=
 aq m fun p4=>
 ∃OF:Option Addr,∃MZ:Nat,∃OR:Nat,w.cell? (p4.add 0)=some (.slice OF MZ OR)∧
 R (.int .i64 ((MZ:Nat):Int)) w
def xW:Ann:= .leaf
theorem MSecure_eq(m:Option Addr)(R:ax)(w:World):pY m R w=vcF prog aJ [] Tryz.f65 xW [(.pointer m)] R none w:=by kernel_rfl
theorem qB(m:Option Addr) {R:ax} {w:World}(h:pY m R w):Calls prog 65 #[(.pointer m)] w fun e w'=>∃v,e= .returned v∧R v w':=
 aj Tryz.func65 ar aa ((MSecure_eq m R w).mp h)
def rV(m:Option Addr)(fa:Bool)(fb:Int)(times:Int)(R:ax)(w:World):Prop:=
 ∀(gv:Nat)(wv:World),gv=w.heap.size→wv=w.alloc (.cells #[(.bool fa),(.int .i64 fb)] 47)→
 ∃KW:Bool,∃Ko:Int,(wv.cell? ((Addr.mk gv 0 none).add 0)=some (.bool KW)∧wv.cell? ((Addr.mk gv 0 none).add 1)=some (.int .i64 Ko))∧
 Calls prog 61 #[(.pointer m),(.agg #[(.bool KW),(.int .i64 Ko)])] wv fun e I2=>
 ∃JS:Option Addr,e= .returned (.pointer JS)∧
 split JS.isNone (
  R (.tuple #[(.pointer none),(.int .i64 5)]) I2) (
  aq m fun UN=>
  ∃Kj:Int,I2.cell? (UN.add 2)=some (.int .i64 Kj)∧
  aq m fun SF=>
  aI I2 (SF.add 2) [(.int .i64 (i64.wrap (Kj+(i64.wrap (times*1024)))))] fun I3=>
  R (.tuple #[(.pointer JS),(.int .i64 0)]) I3)
def Bi:Ann:= .leaf
theorem MWhole_eq(m:Option Addr)(fa:Bool)(fb:Int)(times:Int)(R:ax)(w:World):rV m fa fb times R w=vcF prog aJ [] Tryz.f27 Bi [(.pointer m),(.agg #[(.bool fa),(.int .i64 fb)]),(.int .i64 times)] R none w:=by kernel_rfl
theorem tx(m:Option Addr)(fa:Bool)(fb:Int)(times:Int) {R:ax} {w:World}(h:rV m fa fb times R w):Calls prog 27 #[(.pointer m),(.agg #[(.bool fa),(.int .i64 fb)]),(.int .i64 times)] w fun e w'=>∃v,e= .returned v∧R v w':=
 aj Tryz.func27 ar aa ((MWhole_eq m fa fb times R w).mp h)
def v8(m:Option Addr)(fa:Bool)(fb:Int)(off:Int)(R:ax)(w:World):Prop:=
 ∀(gv:Nat)(wv:World),gv=w.heap.size→wv=w.alloc (.cells #[(.bool fa),(.int .i64 fb)] 47)→
 ∃KW:Bool,∃Ko:Int,(wv.cell? ((Addr.mk gv 0 none).add 0)=some (.bool KW)∧wv.cell? ((Addr.mk gv 0 none).add 1)=some (.int .i64 Ko))∧
 Calls prog 61 #[(.pointer m),(.agg #[(.bool KW),(.int .i64 Ko)])] wv fun e I2=>
 ∃JS:Option Addr,e= .returned (.pointer JS)∧
 split JS.isNone (
  R (.tuple #[(.pointer none),(.int .i64 5)]) I2) (
  ∃J:Bool→World→Prop,(
   split (decide ((off:Int)<0)) (
    J true I2) (
    J (decide ((off:Int)≥1024)) I2))∧∀(Ji:Nat→Value)(Jk:Bool),∀I3,J Jk I3→
  split Jk (
   R (.tuple #[(.pointer none),(.int .i64 70)]) I3) (
   aq m fun SF=>
   ∃NG:Int,I3.cell? (SF.add 2)=some (.int .i64 NG)∧
   aq m fun OI=>
   aI I3 (OI.add 2) [(.int .i64 (i64.wrap (NG+1)))] fun I5=>
   aq JS fun O5=>
   (0≤(off:Int)∧(off:Int)<((1024:Nat):Int))∧
   R (.tuple #[(.pointer (some (O5.add (Int.toNat off*1)))),(.int .i64 0)]) I5))
def DS:Ann:=(.node none .leaf (.node none .leaf (.node none .leaf (.node none (.node none (.node (some ⟨[(19,.one (.bool))],[14,15,16,17,18,19]⟩) .leaf .leaf) .leaf) .leaf))))
theorem MWord_eq(m:Option Addr)(fa:Bool)(fb:Int)(off:Int)(R:ax)(w:World):v8 m fa fb off R w=vcF prog aJ [] Tryz.f28 DS [(.pointer m),(.agg #[(.bool fa),(.int .i64 fb)]),(.int .i64 off)] R none w:=by kernel_rfl
theorem v9(m:Option Addr)(fa:Bool)(fb:Int)(off:Int) {R:ax} {w:World}(h:v8 m fa fb off R w):Calls prog 28 #[(.pointer m),(.agg #[(.bool fa),(.int .i64 fb)]),(.int .i64 off)] w fun e w'=>∃v,e= .returned v∧R v w':=
 aj Tryz.func28 ar aa ((MWord_eq m fa fb off R w).mp h)
def rU(m:Option Addr)(fa:Bool)(fb:Int)(off:Int)(v:Int)(R:ax)(w:World):Prop:=
 ∀(gv:Nat)(wv:World),gv=w.heap.size→wv=w.alloc (.cells #[(.bool fa),(.int .i64 fb)] 47)→
 ∃Ku:Bool,∃KD:Int,(wv.cell? ((Addr.mk gv 0 none).add 0)=some (.bool Ku)∧wv.cell? ((Addr.mk gv 0 none).add 1)=some (.int .i64 KD))∧
 Calls prog 28 #[(.pointer m),(.agg #[(.bool Ku),(.int .i64 KD)]),(.int .i64 off)] wv fun e I2=>
 ∃NQ:Option Addr,∃Ms:Int,e= .returned (.tuple #[(.pointer NQ),(.int .i64 Ms)])∧
 split ((Ms:Int)==0) (
  aq NQ fun PZ=>
  aI I2 PZ [(.int .u32 v)] fun I3=>
  R (.int .i64 Ms) I3) (
  R (.int .i64 Ms) I2)
def Bh:Ann:= .leaf
theorem MWrite_eq(m:Option Addr)(fa:Bool)(fb:Int)(off:Int)(v:Int)(R:ax)(w:World):rU m fa fb off v R w=vcF prog aJ [] Tryz.f15 Bh [(.pointer m),(.agg #[(.bool fa),(.int .i64 fb)]),(.int .i64 off),(.int .u32 v)] R none w:=by kernel_rfl
theorem tw(m:Option Addr)(fa:Bool)(fb:Int)(off:Int)(v:Int) {R:ax} {w:World}(h:rU m fa fb off v R w):Calls prog 15 #[(.pointer m),(.agg #[(.bool fa),(.int .i64 fb)]),(.int .i64 off),(.int .u32 v)] w fun e w'=>∃v,e= .returned v∧R v w':=
 aj Tryz.func15 ar aa ((MWrite_eq m fa fb off v R w).mp h)
def vY(m:Option Addr)(fa:Bool)(fb:Int)(R:ax)(w:World):Prop:=
 ∀(gv:Nat)(wv:World),gv=w.heap.size→wv=w.alloc (.cells #[(.bool fa),(.int .i64 fb)] 47)→
 ∃Nv:Bool,∃Nu:Int,(wv.cell? ((Addr.mk gv 0 none).add 0)=some (.bool Nv)∧wv.cell? ((Addr.mk gv 0 none).add 1)=some (.int .i64 Nu))∧
 Calls prog 27 #[(.pointer m),(.agg #[(.bool Nv),(.int .i64 Nu)]),(.int .i64 1)] wv fun e I2=>
 ∃KW:Option Addr,∃Ko:Int,e= .returned (.tuple #[(.pointer KW),(.int .i64 Ko)])∧
 split ((Ko:Int)==0) (
  aq KW fun OJ=>
  ∀Sl:Option Addr,Sl=(some (if 1024=0 then OJ else OJ.add (0*1)))→∀Sj:Nat,Sj=1024 - 0→∀Sk:Nat,Sk=1024 - 0→
  ∃I3,(Builtin.clear_ #[64] 0 #[(.slice Sl Sj Sk)]:Sem Value).run prog I2= .ok (.tuple #[]) I3∧
  R (.int .i64 Ko) I3) (
  R (.int .i64 Ko) I2)
def DR:Ann:= .leaf
theorem MZero_eq(m:Option Addr)(fa:Bool)(fb:Int)(R:ax)(w:World):vY m fa fb R w=vcF prog aJ [] Tryz.f66 DR [(.pointer m),(.agg #[(.bool fa),(.int .i64 fb)])] R none w:=by kernel_rfl
theorem vZ(m:Option Addr)(fa:Bool)(fb:Int) {R:ax} {w:World}(h:vY m fa fb R w):Calls prog 66 #[(.pointer m),(.agg #[(.bool fa),(.int .i64 fb)])] w fun e w'=>∃v,e= .returned v∧R v w':=
 aj Tryz.func66 ar aa ((MZero_eq m fa fb R w).mp h)
end
end Go.Proofs.YtfgpafjlcgaimaaGreatDoor
namespace Go.Proofs.YtfgpafjlcgaimaaGreatDoor
open Go.Proofs.Tryz (prog)
open Go Go.RowKit V
open Go.IntKind (i64 u32 u64)
section
structure dA where
 g:Nat
 a:Nat
 b:Nat
 pg:Bool→Nat→Nat
 n:Bool→Nat
def dA.row(L:dA)(s:Bool):Nat:=match s with
 | true=>L.a
 | false=>L.b
def dA.X(L:dA):Nat→Prop:=fun k=>k=L.g∨k=L.a∨k=L.b∨∃s i,i<L.n s∧k=L.pg s i
abbrev ptr(g:Nat):Value:= .pointer (some (Addr.mk g 0 none))
abbrev fr(s:Bool)(p:Int):Value:= .agg #[.bool s,.int .i64 p]
structure bH(w:World)(L:dA)(m:Mem):Prop where
 cnt:∀s,L.n s=m.cnt s
 hd:∃T:TypeId×Int,Blk w L.g #[.slice (some (Addr.mk L.a 0 none)) m.S m.S,.slice (some (Addr.mk L.b 0 none)) m.I m.I,.int .i64 T.2] T.1
 rows:∀s,∃T cs,Blk w (L.row s) cs T∧∀i,i<m.cnt s→cs[i]? =some (ptr (L.pg s i))
 pgs:∀s i,i<m.cnt s→∃T cs,Blk w (L.pg s i) cs T∧cs.size=1024∧∀o,o<1024→cs[o]? =some (.int .u32 (m.pg s i o))
 inj:∀s i s' i',i<m.cnt s→i'<m.cnt s'→L.pg s i=L.pg s' i'→s=s'∧i=i'
 dis:L.a≠L.g∧L.b≠L.g∧∀s i,i<m.cnt s→L.pg s i≠L.g∧L.pg s i≠L.a∧L.pg s i≠L.b
 u32:∀s i o,0≤m.pg s i o∧m.pg s i o<4294967296
 cF:m.S≤64∧m.I≤64
theorem bH.inX {w:World} {L:dA} {m:Mem}(h:bH w L m) {s:Bool} {i:Nat}(hi:i<m.cnt s):L.X (L.pg s i):= .inr (.inr (.inr ⟨s,i,by rw [h.cnt];exact hi,rfl⟩))
theorem bH.kept {w w':World} {L:dA} {m:Mem} {B:Nat→Prop}(h:bH w L m)(hk:Kept B w w')(hb:∀k,L.X k→B k):bH w' L m:=by
 refine⟨h.cnt,?_,fun s=>?_,fun s i hi=>?_,h.inj,h.dis,h.u32,h.cF⟩
 ·obtain⟨T,hd⟩:=h.hd
  exact⟨T,hd.kept hk (hb _ (.inl rfl))⟩
 ·obtain⟨T,cs,hr,h2⟩:=h.rows s
  exact⟨T,cs,hr.kept hk (hb _ (by cases s<;>simp [dA.X,dA.row])),h2⟩
 ·obtain⟨T,cs,hr,h2⟩:=h.pgs s i hi
  exact⟨T,cs,hr.kept hk (hb _ (h.inX hi)),h2⟩
theorem bH.lt {w:World} {L:dA} {m:Mem}(h:bH w L m):∀k,L.X k→k<w.heap.size:=by
 rintro k (rfl | rfl | rfl | ⟨s,i,hi,rfl⟩)
 ·obtain⟨T,hd⟩:=h.hd;exact hd.lt
 ·obtain⟨T,cs,hr,h2⟩:=h.rows true;exact hr.lt
 ·obtain⟨T,cs,hr,h2⟩:=h.rows false;exact hr.lt
 ·obtain⟨T,cs,hr,h2⟩:=h.pgs s i (by rw [← h.cnt];exact hi);exact hr.lt
theorem bH.ch {w w':World} {L:dA} {m:Mem} {Y:Nat→Prop}(h:bH w L m)(hk:Ch Y w w')(hb:∀k,L.X k→¬Y k):bH w' L m:=
 h.kept hk.kept fun k hx=>⟨h.lt k hx,hb k hx⟩
theorem bH.pu {w w':World} {L:dA} {m:Mem}(h:bH w L m)(hk:Pu w w'):bH w' L m:=h.ch hk (by simp)
theorem bH.Ge {w w2:World} {L:dA} {m:Mem}(h:bH w L m) {T:TypeId} {x:Int}(hs:bm w L.g #[.slice (some (Addr.mk L.a 0 none)) m.S m.S,.slice (some (Addr.mk L.b 0 none)) m.I m.I,.int .i64 x] T w2):bH w2 L m:=by
 have hk:∀k,k≠L.g→(fun k=>k≠L.g) k:=fun _ h=>h
 refine⟨h.cnt,⟨(T,x),hs.blk⟩,fun s=>?_,fun s i hi=>?_,h.inj,h.dis,h.u32,h.cF⟩
 ·obtain⟨T,cs,hr,h2⟩:=h.rows s
  exact⟨T,cs,hs.old hr (by cases s<;>simp [dA.row,h.dis.1,h.dis.2.1]),h2⟩
 ·obtain⟨T,cs,hr,h2⟩:=h.pgs s i hi
  exact⟨T,cs,hs.old hr (h.dis.2.2 s i hi).1,h2⟩
theorem bH.ah {w w2:World} {L:dA} {m:Mem}(h:bH w L m) {s:Bool} {i:Nat}(hi:i<m.cnt s) {cs:Array Value} {T:TypeId} {f:Nat→Int}(hs:bm w (L.pg s i) cs T w2)(hc:cs.size=1024)(hf:∀o,o<1024→cs[o]? =some (.int .u32 (f o)))
 (hu:∀o,0≤f o∧f o<4294967296):bH w2 L (m.fill s i f):=by
 obtain⟨T0,hd⟩:=h.hd
 refine⟨fun s=>by rw [h.cnt];simp,⟨T0,hs.old hd (fun e=>(h.dis.2.2 s i hi).1 e.symm)⟩,fun s'=>?_,fun s' i' Jv=>?_,fun s1 i1 s2 i2 h1 h2=>h.inj s1 i1 s2 i2 (by simpa using h1) (by simpa using h2),⟨h.dis.1,h.dis.2.1,fun s1 i1 h1=>h.dis.2.2 s1 i1 (by simpa using h1)⟩,fun s' i' o=>?_,h.cF⟩
 ·obtain⟨T,cs,hr,h2⟩:=h.rows s'
  refine⟨T,cs,hs.old hr ?_,by simpa using h2⟩
  have:=(h.dis.2.2 s i hi).2
  cases s'<;>simp only [dA.row]
  ·exact fun e=>this.2 e.symm
  ·exact fun e=>this.1 e.symm
 ·have Qf:i'<m.cnt s':=by simpa using Jv
  by_cases hq:s'=s∧i'=i
  ·obtain⟨rfl,rfl⟩:=hq
   exact⟨T,cs,hs.blk,hc,fun o ho=>by rw [hf o ho];simp [Mem.fill]⟩
  ·obtain⟨T,cs,hr,h2,h3⟩:=h.pgs s' i' Qf
   refine⟨T,cs,hs.old hr (fun e=>hq (h.inj _ _ _ _ Qf hi e)),h2,fun o ho=>?_⟩
   rw [h3 o ho]
   simp only [Mem.fill]
   rw [if_neg hq]
 ·simp only [Mem.fill]
  split
  ·exact hu o
  ·exact h.u32 _ _ _
theorem H7 {w:World} {g i:Nat} {cs:Array Value} {T:TypeId} {k:IntKind} {x:Int} {K:Int→Prop}(hb:Blk w g cs T)(hi:cs[i]? =some (.int k x))(hK:K x):
 aq (some (Addr.mk g 0 none)) fun p=>∃x:Int,w.cell? (p.add i)=some (.int k x)∧K x:=ai _ rfl ⟨_,hb.at hi,hK⟩
theorem G5 {w:World} {g i:Nat} {cs:Array Value} {T:TypeId} {A:Option Addr} {n c:Nat} {K:Option Addr→Nat→Nat→Prop}(hb:Blk w g cs T)(hi:cs[i]? =some (.slice A n c))(hK:K A n c):
 aq (some (Addr.mk g 0 none)) fun p=>∃(A:Option Addr)(n c:Nat),w.cell? (p.add i)=some (.slice A n c)∧K A n c:=ai _ rfl ⟨_,_,_,hb.at hi,hK⟩
section
variable {w:World} {L:dA} {m:Mem}
theorem mAt(h:bH w L m)(s:Bool)(p:Int):
 Calls prog 61 #[ptr L.g,fr s p] w fun e w'=>∃v,e= .returned v∧v= .pointer (if m.has s p then some (Addr.mk (L.pg s p.toNat) 0 none)else none)∧Pu w w':=by
 refine Bm _ s p ?_
 intro g1 w1 hg hw
 have hM:=made hg hw
 have h1:=h.pu hM.pu
 obtain⟨T,hd⟩:=h1.hd
 refine G5 hd rfl ⟨_,hM.blk.at rfl,?_⟩
 have fin:∀(a n:Nat),n=m.cnt s→a=L.row s→
  ∃J:Bool→World→Prop,(
  ∃Kj:Int,w1.cell? ((Addr.mk g1 0 none).add 1)=some (.int .i64 Kj)∧
  split (decide ((Kj:Int)<0)) (
   J true w1) (
   ∃Kh:Int,w1.cell? ((Addr.mk g1 0 none).add 1)=some (.int .i64 Kh)∧
   J (decide ((Kh:Int)≥((n:Nat):Int))) w1))∧∀(Ji:Nat→Value)(L6:Bool),∀I2,J L6 I2→
  split L6 (
   (∃v,v=(Value.pointer none)∧v= .pointer (if m.has s p then some (Addr.mk (L.pg s p.toNat) 0 none)else none)∧Pu w I2)) (
   ∃L5:Int,I2.cell? ((Addr.mk g1 0 none).add 1)=some (.int .i64 L5)∧
   (0≤(L5:Int)∧(L5:Int)<((n:Nat):Int))∧
   aq (some (Addr.mk a 0 none)) fun O5=>
   ∃JK:Option Addr,I2.cell? (O5.add (Int.toNat L5*1))=some (.pointer JK)∧
   (∃v,v=(Value.pointer JK)∧v= .pointer (if m.has s p then some (Addr.mk (L.pg s p.toNat) 0 none)else none)∧Pu w I2)):=by
  intro a n hn ha
  refine⟨fun b w'=>w1=w'∧b= !(m.has s p),⟨_,hM.blk.at rfl,ae (fun hb=>⟨rfl,?_⟩) (fun hb=>⟨_,hM.blk.at rfl,rfl,?_⟩)⟩,?_⟩
  ·simp at hb
   simp [Mem.has]
   omega
  ·simp at hb
   subst hn
   simp only [Mem.has,ge_iff_le]
   rw [Bool.eq_iff_iff]
   simp
   omega
  ·rintro _ x _ ⟨rfl,rfl⟩
   refine ae (fun hb=>⟨_,rfl,?_,hM.pu⟩) (fun hb=>?_)
   ·simp at hb;simp [hb]
   ·have Mz:m.has s p=true:=by simpa using hb
    have hp:0≤p∧p<(n:Int):=by subst hn;simpa [Mem.has]using Mz
    obtain⟨T2,cs,hr,hc⟩:=h1.rows s
    rw [← ha]at hr
    refine⟨_,hM.blk.at rfl,hp,ai _ rfl ⟨_,?_,_,rfl,by rw [if_pos Mz],hM.pu⟩⟩
    rw [Nat.mul_one]
    exact hr.at (hc _ (by omega))
 refine ae (fun hb=>?_) (fun hb=>?_)
 ·subst hb
  exact G5 hd rfl (by
   obtain⟨J,hJ⟩:=fin L.a m.S rfl rfl
   refine⟨J,hJ.1,fun g x wv hj=>?_⟩
   have:=hJ.2 g x wv hj
   simpa using this)
 ·subst hb
  obtain⟨J,hJ⟩:=fin L.b m.I rfl rfl
  refine⟨J,hJ.1,fun g x wv hj=>?_⟩
  have:=hJ.2 g x wv hj
  simpa using this
theorem IN(h:bH w L m)(s:Bool)(p:Int):
 Calls prog 60 #[ptr L.g,fr s p] w fun e w'=>∃v,e= .returned v∧v= .bool (m.has s p)∧Pu w w':=by
 refine xZ _ s p ?_
 intro g1 w1 hg hw
 have hM:=made hg hw
 refine⟨_,_,⟨hM.blk.at rfl,hM.blk.at rfl⟩,(mAt (h.pu hM.pu) s p).mono ?_⟩
 rintro e w2 ⟨_,rfl,rfl,hp⟩
 refine⟨_,rfl,?_,hM.pu.trans hp⟩
 cases m.has s p<;>rfl
theorem yO(h:bH w L m):Calls prog 65 #[ptr L.g] w fun e w'=>∃v,e= .returned v∧v= .int .i64 m.S∧w'=w:=by
 obtain⟨T,hd⟩:=h.hd
 exact qB _ (G5 hd rfl ⟨rfl,rfl⟩)
theorem Gg(h:bH w L m)(s:Bool)(p o:Int):
 Calls prog 28 #[ptr L.g,fr s p,.int .i64 o] w fun e w'=>∃v,e= .returned v∧
  ((m.has s p && Mem.b9 o)=true∧v= .tuple #[.pointer (some (Addr.mk (L.pg s p.toNat) o.toNat none)),.int .i64 0]∧bH w' L (m.tick 1)∧Ch L.X w w'∨
   (m.has s p && Mem.b9 o)=false∧v= .tuple #[.pointer none,.int .i64 (m.err s p o)]∧m.err s p o≠0∧Pu w w'):=by
 refine v9 _ s p o ?_
 intro g1 w1 hg hw
 have hM:=made hg hw
 refine⟨_,_,⟨hM.blk.at rfl,hM.blk.at rfl⟩,(mAt (h.pu hM.pu) s p).mono ?_⟩
 rintro e w2 ⟨_,rfl,rfl,hp⟩
 have Jw:=hM.pu.trans hp
 refine⟨_,rfl,?_⟩
 cases hh:m.has s p with
 | false=>
  refine ae (fun _=>.inr ⟨rfl,?_,?_,Jw⟩) (fun hb=>by simp at hb)
  ·simp [Mem.err,hh]
  ·simp [Mem.err,hh]
 | true=>
  refine ae (fun hb=>by simp at hb) (fun _=>?_)
  refine⟨fun b w'=>w2=w'∧b= !(Mem.b9 o),ae (fun hb=>⟨rfl,?_⟩) (fun hb=>⟨rfl,?_⟩),?_⟩
  ·simp at hb;simp [Mem.b9];omega
  ·simp at hb;simp only [Mem.b9,ge_iff_le];rw [Bool.eq_iff_iff];simp;omega
  ·rintro _ x _ ⟨rfl,rfl⟩
   refine ae (fun hb=>?_) (fun hb=>?_)
   ·have ho:Mem.b9 o=false:=by simpa using hb
    exact .inr ⟨by simp [ho],by simp [Mem.err,hh,ho],by simp [Mem.err,hh,ho],Jw⟩
   ·have ho:Mem.b9 o=true:=by simpa using hb
    have h2:=h.pu Jw
    obtain⟨T,hd⟩:=h2.hd
    refine H7 hd rfl (ai _ rfl (bV hd (by simp) fun w3 hs=>?_))
    have MT:=Mem.eC ho
    refine ai _ rfl ⟨MT,.inl ⟨by simp [ho],?_,h2.Ge hs,?_⟩⟩
    ·rw [bu,Nat.zero_add,Nat.mul_one]
    ·exact(Jw.mono (by simp)).stored hs (.inl (.inl rfl))
theorem xr(h:bH w L m)(s:Bool)(p o v:Int)(hv:0≤v∧v<4294967296):
 Calls prog 15 #[ptr L.g,fr s p,.int .i64 o,.int .u32 v] w fun e w'=>∃u,e= .returned u∧u= .int .i64 (m.err s p o)∧bH w' L (m.write s p o v)∧Ch L.X w w':=by
 refine tw _ s p o v ?_
 intro g1 w1 hg hw
 have hM:=made hg hw
 refine⟨_,_,⟨hM.blk.at rfl,hM.blk.at rfl⟩,(Gg (h.pu hM.pu) s p o).mono ?_⟩
 rintro e w2 ⟨_,rfl,⟨hh,rfl,h2,hc⟩ | ⟨hh,rfl,he,hp⟩⟩
 ·refine⟨_,_,rfl,ae (fun _=>?_) (fun hb=>by simp at hb)⟩
  have Oq:Ch L.X w w2:=((Ch.refl _ w).made hM).trans hc
  simp only [Bool.and_eq_true]at hh
  have hi:=Mem.cy hh.1
  have ho:=Mem.eC hh.2
  obtain⟨T,cs,hr,Js,Kg⟩:=h2.pgs s p.toNat (by simpa using hi)
  refine ai _ rfl (fF hr (by simp;omega) fun w3 hs=>⟨?_,?_,?_⟩)
  ·simp [Mem.err,hh.1,hh.2]
  ·have:=h2.ah (f:=fun o'=>if o'=o.toNat then v else m.pg s p.toNat o') (by simpa using hi) hs (by simp [setAt,Js]) (fun o' MT=>?_) (fun o'=>?_)
   ·simp only [Mem.write,hh.1,hh.2,Bool.and_self,if_true]
    exact this
   ·simp only [qP,Array.getElem?_setIfInBounds]
    by_cases e:o.toNat=o'
    ·rw [if_pos e,if_pos (by omega),if_pos e.symm]
    ·rw [if_neg e,if_neg (fun h=>e h.symm)]
     exact Kg o' MT
   ·split
    ·exact hv
    ·exact h.u32 _ _ _
  ·exact Oq.stored hs (.inl (h.inX hi))
 ·refine⟨_,_,rfl,ae (fun hb=>absurd (by simpa using hb) he) (fun _=>⟨rfl,?_,?_⟩)⟩
  ·have:=(h.pu hM.pu).pu hp
   simpa [Mem.write,hh]using this
  ·exact(hM.pu.trans hp).mono (by simp)
theorem HZ(h:bH w L m)(s:Bool)(p o:Int):
 Calls prog 152 #[ptr L.g,fr s p,.int .i64 o] w fun e w'=>∃u,e= .returned u∧u= .int .u32 (m.bQ s p o)∧Pu w w':=by
 refine wk _ s p o ?_
 intro g1 w1 hg hw
 have hM:=made hg hw
 refine⟨_,_,⟨hM.blk.at rfl,hM.blk.at rfl⟩,(mAt (h.pu hM.pu) s p).mono ?_⟩
 rintro e w2 ⟨_,rfl,rfl,hp⟩
 have Jw:=hM.pu.trans hp
 refine⟨_,rfl,fun b w'=>w2=w'∧b= !(m.has s p && Mem.b9 o),?_,?_⟩
 ·cases hh:m.has s p with
  | false=>exact ae (fun _=>⟨rfl,rfl⟩) (fun hb=>by simp at hb)
  | true=>
   refine ae (fun hb=>by simp at hb) (fun _=>ae (fun hb=>⟨rfl,?_⟩) (fun hb=>⟨rfl,?_⟩))
   ·simp at hb;simp [Mem.b9];omega
   ·simp at hb;simp only [Mem.b9,ge_iff_le];rw [Bool.eq_iff_iff];simp;omega
 ·rintro _ x _ ⟨rfl,rfl⟩
  refine ae (fun hb=>?_) (fun hb=>?_)
  ·have hh:(m.has s p && Mem.b9 o)=false:=by rwa [Bool.not_eq_true']at hb
   exact⟨by simp [Mem.bQ,hh],Jw⟩
  ·have hh:(m.has s p && Mem.b9 o)=true:=by simpa using hb
   have Vq:=hh
   simp only [Bool.and_eq_true]at hh
   have hi:=Mem.cy hh.1
   have ho:=Mem.eC hh.2
   obtain⟨T,cs,hr,Js,Kg⟩:=(h.pu Jw).pgs s p.toNat hi
   rw [if_pos hh.1]
   refine ai _ rfl ⟨ho,_,by rw [Nat.mul_one];exact hr.at (Kg _ (by omega)),?_,Jw⟩
   simp only [Mem.bQ,Vq,if_true]
end
end
section
theorem qR:S1 prog 64 22 (.int .u32 0) 4:=S1.of (by kernel_rfl) (by kernel_rfl) rfl
theorem B8:S1 prog 80 90 (.pointer none) 8:=S1.of (by kernel_rfl) (by kernel_rfl) rfl
def fl(w:World)(g:Nat)(f:Nat→Int):Prop:=∃T cs,Blk w g cs T∧cs.size=1024∧∀o,o<1024→cs[o]? =some (.int .u32 (f o))
structure gG(w:World)(g n k:Nat)(pg:Nat→Nat)(f:Nat→Nat→Int)(b:Nat):Prop where
 row:∃T cs,Blk w g cs T∧cs.size=n∧∀i,i<k→cs[i]? =some (ptr (pg i))
 pgs:∀i,i<k→fl w (pg i) (f i)
 inj:∀i j,i<k→j<k→pg i=pg j→i=j
 dis:∀i,i<k→pg i≠g
 low:b≤g∧∀i,i<k→b≤pg i
theorem fl.lt {w:World} {g:Nat} {f:Nat→Int}(h:fl w g f):g<w.heap.size:=by obtain⟨T,cs,hb,_⟩:=h;exact hb.lt
theorem fl.pu {w w':World} {g:Nat} {f:Nat→Int}(h:fl w g f)(hk:Pu w w'):fl w' g f:=by obtain⟨T,cs,hb,h2⟩:=h;exact⟨T,cs,hk.blk hb,h2⟩
theorem fl.old {w w':World} {g g':Nat} {f:Nat→Int} {cs:Array Value} {T:TypeId}(h:fl w g f)(hs:bm w g' cs T w')(KB:g≠g'):fl w' g f:=by obtain⟨T,cs,hb,h2⟩:=h;exact⟨T,cs,hs.old hb KB,h2⟩
theorem gG.pu {w w':World} {g n k b:Nat} {pg:Nat→Nat} {f:Nat→Nat→Int}(h:gG w g n k pg f b)(hk:Pu w w'):gG w' g n k pg f b:=by
 obtain⟨⟨T,cs,hr,h2⟩,h3,h4,h5,h6⟩:=h
 exact⟨⟨T,cs,hk.blk hr,h2⟩,fun i hi=>(h3 i hi).pu hk,h4,h5,h6⟩
theorem gG.more {w w1 w2:World} {g n k b p:Nat} {pg:Nat→Nat} {f:Nat→Nat→Int}(h:gG w g n k pg f b)(hk:Pu w w1)(hp:fl w1 p (f k))(P8:w.heap.size≤p)(Kr:k<n)(hb:b≤w.heap.size):
 ∃T cs,Blk w1 g cs T∧k+1≤cs.size∧∀w2,bm w1 g (setAt cs k [ptr p]) T w2→gG w2 g n (k+1) (fun i=>if i=k then p else pg i) f b:=by
 obtain⟨⟨T,cs,hr,Js,h2⟩,h3,h4,h5,h6⟩:=h
 have hg:=hr.lt
 have hold:∀i,i<k→pg i≠p:=fun i hi=>by have:=(h3 i hi).lt;omega
 refine⟨T,cs,hk.blk hr,by omega,fun w2 hs=>⟨⟨T,_,hs.blk,by rw [dQ];exact Js,fun i hi=>?_⟩,fun i hi=>?_,fun i j hi hj=>?_,fun i hi=>?_,h6.1,fun i hi=>?_⟩⟩
 ·rw [dx _ _ _ _ (by simp;omega)]
  by_cases e:i=k
  ·subst e;simp
  ·rw [if_neg (by simp;omega),if_neg e]
   exact h2 i (by omega)
 ·by_cases e:i=k
  ·subst e
   rw [if_pos rfl]
   exact hp.old hs (by omega)
  ·rw [if_neg e]
   exact((h3 i (by omega)).pu hk).old hs (h5 i (by omega))
 ·by_cases e:i=k<;>by_cases e':j=k
  ·intro _;omega
  ·rw [if_pos e,if_neg e'];intro hh;exact absurd hh.symm (hold j (by omega))
  ·rw [if_neg e,if_pos e'];intro hh;exact absurd hh (hold i (by omega))
  ·rw [if_neg e,if_neg e'];exact h4 i j (by omega) (by omega)
 ·split
  ·omega
  ·exact h5 i (by omega)
 ·split
  ·omega
  ·exact h6.2 i (by omega)
section
variable {w:World} {L:dA} {m:Mem}
theorem Gh(n:Nat)(hn:n≤64):
 Calls prog 64 #[.int .i64 n] w fun e w'=>∃v,e= .returned v∧∃g pg,v= .slice (some (Addr.mk g 0 none)) n n∧gG w' g n n pg (fun _ _=>0) w.heap.size∧Pu w w':=by
 refine wo _ ?_
 refine jT B8 (by omega) (by omega) (by omega) fun g w1 hM=>?_
 rw [Int.toNat_natCast]at hM ⊢
 refine⟨fun k x w'=>∃i:Nat,x=(i:Int)∧i≤n∧k=n - i∧(∃pg,gG w' g n i pg (fun _ _=>0) w.heap.size)∧Pu w w',⟨n,0,rfl,by omega,by omega,⟨fun _=>0,⟨⟨_,_,hM.blk,by simp,by simp⟩,by simp,by simp,by simp,by have:=hM.num;omega,by simp⟩⟩,hM.pu⟩,?_⟩
 rintro k _ x w2 ⟨i,rfl,hi,rfl,⟨pg,hP⟩,Me⟩
 refine ae (fun hb=>?_) (fun hb=>?_)
 ·have Jv:i<n:=by simpa using hb
  intro p w3 hp Nb
  have PT:=made hp Nb
  obtain⟨T,cs,hr,Js,Oi⟩:=hP.more (w2:=w3) PT.pu ⟨_,_,PT.blk,by simp,fun o ho=>by simp [ho]⟩ (by rw [PT.num];omega) Jv Me.size
  refine⟨⟨by omega,by omega⟩,ai _ rfl ?_⟩
  rw [Nat.mul_one,Int.toNat_natCast]
  refine bV hr Js fun w4 hs=>⟨n - (i+1),by omega,i+1,?_,Jv,rfl,⟨_,Oi _ hs⟩,?_⟩
  ·rw [ak (by omega)];omega
  ·have hg:w.heap.size≤g:=hP.low.1
   exact((Me.made PT).mono (by simp):Ch (fun _=>False) w w3).stored hs (.inr hg)
 ·have:i=n:=by simp at hb;omega
  subst this
  exact⟨g,pg,rfl,hP,Me⟩
theorem IM(s i:Int)(hs:1≤s∧s≤64)(hi:1≤i∧i≤64):
 Calls prog 31 #[.int .i64 s,.int .i64 i] w fun e w'=>∃v,e= .returned v∧∃L:dA,v= .tuple #[ptr L.g,.int .i64 0]∧bH w' L (Mem.fresh s.toNat i.toNat)∧(∀k,L.X k→w.heap.size≤k)∧Pu w w':=by
 refine xX s i ?_
 refine⟨fun b w'=>w=w'∧b=false,?_,?_⟩
 ·refine ae (fun hb=>by simp at hb;omega) (fun _=>ae (fun hb=>by simp at hb;omega) (fun _=>ae (fun hb=>by simp at hb;omega) (fun _=>⟨rfl,by simp;omega⟩)))
 rintro _ x _ ⟨rfl,rfl⟩
 refine ae (fun hb=>by cases hb) (fun _=>?_)
 obtain⟨S,rfl⟩:=Int.eq_ofNat_of_zero_le (show 0≤s by omega)
 obtain⟨I,rfl⟩:=Int.eq_ofNat_of_zero_le (show 0≤i by omega)
 refine(Gh S (by omega)).mono ?_
 rintro e w1 ⟨_,rfl,a,pa,rfl,hA,Ja⟩
 refine⟨_,_,_,rfl,(Gh I (by omega)).mono ?_⟩
 rintro e w2 ⟨_,rfl,b,pb,rfl,hB,Jw⟩
 refine⟨_,_,_,rfl,?_⟩
 intro g w3 hg Nb
 have hM:=made hg Nb
 have TC:=(hA.pu Jw).pu hM.pu
 have TB:=hB.pu hM.pu
 have Qn:∀j,j<S→pa j<w1.heap.size:=fun j hj=>(hA.pgs j hj).lt
 have JE:a<w1.heap.size:=by obtain⟨T,cs,hr,_⟩:=hA.row;exact hr.lt
 have Qm:∀j,j<I→pb j<w2.heap.size:=fun j hj=>(hB.pgs j hj).lt
 have hbg:b<w2.heap.size:=by obtain⟨T,cs,hr,_⟩:=hB.row;exact hr.lt
 have h12:=Jw.size
 have h01:=Ja.size
 have hgn:=hM.num
 refine⟨⟨g,a,b,fun s=>match s with | true=>pa | false=>pb,fun s=>match s with | true=>S | false=>I⟩,rfl,⟨fun s=>by cases s<;>rfl,⟨(_,_),hM.blk⟩,fun s=>?_,fun s i hi=>?_,fun s i s' i' hi Jv e=>?_,⟨by show a≠g;omega,by show b≠g;omega,fun s i hi=>?_⟩,fun _ _ _=>by simp [Mem.fresh],by simp [Mem.fresh];omega⟩,?_,(Ja.trans Jw).made hM⟩
 ·cases s
  ·obtain⟨T,cs,hr,_,h2⟩:=TB.row;exact⟨T,cs,hr,h2⟩
  ·obtain⟨T,cs,hr,_,h2⟩:=TC.row;exact⟨T,cs,hr,h2⟩
 ·cases s
  ·exact TB.pgs i hi
  ·exact TC.pgs i hi
 ·cases s<;>cases s'<;>simp only [Mem.cnt,Mem.fresh,Int.toNat_natCast]at hi Jv<;>simp only at e
  ·exact⟨rfl,hB.inj _ _ hi Jv e⟩
  ·have:=hB.low.2 i hi;have:=Qn i' Jv;omega
  ·have:=hB.low.2 i' Jv;have:=Qn i hi;omega
  ·exact⟨rfl,hA.inj _ _ hi Jv e⟩
 ·cases s<;>simp only [Mem.cnt,Mem.fresh,Int.toNat_natCast]at hi<;>simp only
  ·have:=hB.low.2 i hi;have:=Qm i hi;have:=hB.dis i hi
   refine⟨?_,?_,this⟩<;>omega
  ·have:=hA.low.2 i hi;have:=Qn i hi;have h3:=hA.dis i hi;have:=hB.low.1
   refine⟨?_,h3,?_⟩<;>omega
 ·rintro k (rfl | rfl | rfl | ⟨s,i,hi,rfl⟩)
  ·omega
  ·exact hA.low.1
  ·have:=hB.low.1;omega
  ·cases s<;>simp only [Mem.cnt,Mem.fresh,Int.toNat_natCast]at hi<;>simp only
   ·have:=hB.low.2 i hi;omega
   ·exact hA.low.2 i hi
theorem Cu(h:bH w L m)(s:Bool)(p t:Int):
 Calls prog 27 #[ptr L.g,fr s p,.int .i64 t] w fun e w'=>∃v,e= .returned v∧
  (m.has s p=true∧v= .tuple #[ptr (L.pg s p.toNat),.int .i64 0]∧bH w' L (m.tick (i64.wrap (t*1024)))∧Ch L.X w w'∨
   m.has s p=false∧v= .tuple #[.pointer none,.int .i64 5]∧Pu w w'):=by
 refine tx _ s p t ?_
 intro g1 w1 hg hw
 have hM:=made hg hw
 refine⟨_,_,⟨hM.blk.at rfl,hM.blk.at rfl⟩,(mAt (h.pu hM.pu) s p).mono ?_⟩
 rintro e w2 ⟨_,rfl,rfl,hp⟩
 have Jw:=hM.pu.trans hp
 refine⟨_,rfl,?_⟩
 cases hh:m.has s p with
 | false=>exact ae (fun _=>.inr ⟨rfl,rfl,Jw⟩) (fun hb=>by simp at hb)
 | true=>
  refine ae (fun hb=>by simp at hb) (fun _=>?_)
  have h2:=h.pu Jw
  obtain⟨T,hd⟩:=h2.hd
  refine H7 hd rfl (ai _ rfl (bV hd (by simp) fun w3 hs=>.inl ⟨rfl,rfl,h2.Ge hs,?_⟩))
  exact(Jw.mono (by simp)).stored hs (.inl (.inl rfl))
theorem Gf(h:bH w L m)(s:Bool)(p:Int):
 Calls prog 66 #[ptr L.g,fr s p] w fun e w'=>∃v,e= .returned v∧v= .int .i64 (m.bJ s p)∧bH w' L (m.zero s p)∧Ch L.X w w':=by
 refine vZ _ s p ?_
 intro g1 w1 hg hw
 have hM:=made hg hw
 refine⟨_,_,⟨hM.blk.at rfl,hM.blk.at rfl⟩,(Cu (h.pu hM.pu) s p 1).mono ?_⟩
 rintro e w2 ⟨_,rfl,⟨hh,rfl,h2,hc⟩ | ⟨hh,rfl,hp⟩⟩
 ·refine⟨_,_,rfl,ae (fun _=>ai _ rfl ?_) (fun hb=>by simp at hb)⟩
  rintro A rfl N rfl C rfl
  have hi:=Mem.cy hh
  obtain⟨T,cs,hr,Js,Kg⟩:=h2.pgs s p.toNat (by simpa using hi)
  refine CQ (o:=0) qR rfl hr (by omega) (by omega) fun w3 hs=>⟨?_,?_,?_⟩
  ·simp [Mem.bJ,hh]
  ·have:=h2.ah (f:=fun _=>0) (by simpa using hi) hs (by rw [dQ];exact Js) (fun o ho=>?_) (fun o=>by simp)
   ·simp only [Mem.zero,hh,if_true]
    exact this
   ·have hl:(List.replicate (1024 - 0) (Value.int .u32 0)).length=1024:=List.length_replicate ..
    rw [dx _ _ _ _ (by rw [hl];omega),if_pos (by rw [hl];omega),List.getElem?_replicate,if_pos (by omega)]
  ·exact(((Ch.refl _ w).made hM).trans hc).stored hs (.inl (h.inX hi))
 ·refine⟨_,_,rfl,ae (fun hb=>by simp at hb) (fun _=>⟨?_,?_,?_⟩)⟩
  ·simp [Mem.bJ,hh]
  ·simpa [Mem.zero,hh]using (h.pu hM.pu).pu hp
  ·exact(hM.pu.trans hp).mono (by simp)
end
end
structure Ent where
 typ:Int
 owner:Int
 refs:Int
 state:Int
 aS:Bool
deriving DecidableEq
namespace Ent
abbrev free:Ent:=⟨0,0,0,0,false⟩
def ok(e:Ent):Bool:=
 decide (0≤e.typ∧e.typ≤6∧0≤e.owner∧e.owner≤63∧0≤e.refs∧e.refs≤63∧(e.typ=0→e.owner=0)∧(e.typ≠1→e.refs=0∧e.state=0)∧(e.typ=1→1≤e.state∧e.state≤3)∧(e.typ≠2→e.aS=false))
def w0(e:Ent):Int:=e.typ+16*e.state+65536*e.owner+(if e.aS then 256 else 0)
def w1(e:Ent):Int:=e.refs
def parts(a b:Int):Ent:=⟨a % 8,a / 65536 % 64,b % 64,a / 16 % 4,decide (a / 256 % 2=1)⟩
def dec(a b:Int):Ent:=if(parts a b).ok && decide ((parts a b).w0=a) && decide ((parts a b).w1=b)then parts a b else free
def fk(a b:Int):Int:=if(parts a b).ok && decide ((parts a b).w0=a) && decide ((parts a b).w1=b)then 0 else 110
theorem dC {e:Ent}(h:e.ok=true):0≤e.typ∧e.typ≤6∧0≤e.owner∧e.owner≤63∧0≤e.refs∧e.refs≤63∧(e.typ=0→e.owner=0)∧(e.typ≠1→e.refs=0∧e.state=0)∧(e.typ=1→1≤e.state∧e.state≤3)∧(e.typ≠2→e.aS=false):=by
 simpa only [ok,decide_eq_true_eq]using h
theorem jo {e:Ent}(h:e.ok=true):0≤e.state∧e.state≤3:=by
 have:=dC h
 by_cases h1:e.typ=1<;>omega
theorem zV {e:Ent}(h:e.ok=true):parts e.w0 e.w1=e:=by
 have h1:=dC h
 have h2:=jo h
 obtain⟨t,o,r,s,n⟩:=e
 simp only at h1 h2
 cases n<;>simp only [parts,w0,w1,Ent.mk.injEq,decide_eq_true_eq,decide_eq_false_iff_not,if_true,Bool.false_eq_true,if_false]<;>omega
theorem zd {e:Ent}(h:e.ok=true):dec e.w0 e.w1=e∧fk e.w0 e.w1=0:=by
 unfold dec fk
 rw [zV h]
 simp [h]
theorem BP {e:Ent}(h:e.ok=true):0≤e.w0∧e.w0<4294967296:=by
 have h1:=dC h
 have h2:=jo h
 unfold w0
 split<;>omega
theorem BO {e:Ent}(h:e.ok=true):0≤e.w1∧e.w1<4294967296:=by
 have h1:=dC h
 unfold w1
 omega
theorem yZ:free.ok=true:=by decide
theorem iP {a b:Int}(h:fk a b=0):(dec a b).ok=true∧(dec a b).w0=a∧(dec a b).w1=b:=by
 unfold fk at h
 unfold dec
 split at h
 ·rename_i hc
  rw [if_pos hc]
  simp only [Bool.and_eq_true,decide_eq_true_eq]at hc
  exact⟨hc.1.1,hc.1.2,hc.2⟩
 ·omega
end Ent
structure DB where
 mem:Mem
 au:Int
 ent:Nat→Ent
namespace DB
def S(d:DB):Nat:=d.mem.S
def has(d:DB)(p:Int):Bool:=decide (0≤p∧p<(d.S:Int))
def at_(d:DB)(p:Int):Ent:=d.ent p.toNat
def set(d:DB)(p:Int)(e:Ent):DB:= {d with ent:=fun q=>if q=p.toNat then e else d.ent q}
def entry(d:DB)(p:Int):Ent:=if d.has p then d.at_ p else .free
def bb(d:DB)(p:Int):Int:=if d.has p then 0 else 5
def dM(d:DB)(p:Int):Bool:=d.has p && (d.at_ p).typ==1
def aT(d:DB)(m:Mem):DB:=⟨m,d.au,d.ent⟩
def eh(d:DB)(b:Int):DB:=⟨d.mem,b,d.ent⟩
def fq(d:DB)(f:Mem→Mem):DB:=d.aT (f d.mem)
def free(d:DB):Int:=(((List.range d.S).filter fun p=>(d.ent p).typ==0).length:Int)
def eK(d:DB)(s:Int)(p:Nat):Bool:=(p:Int) !=s && (d.ent p).typ !=0 && (d.ent p).owner==s
def aR(d:DB)(s f:Int):Int:=
 if !d.has s || !d.has f then 5 else if s=f then 1 else if(d.at_ s).typ !=0 || (d.at_ f).typ !=0 then 120 else if d.au≥64 then 240 else 0
def bp(d:DB)(s f:Int):DB:=
 let d1:=(d.set s ⟨1,s,1,1,false⟩).set f ⟨3,s,0,0,false⟩
 (d1.aT (((d.mem.write true s 0 f).write true s 1 d.au).write true s 2 0)).eh (d.au+1)
def ay(d:DB)(s f:Int):DB:=if d.aR s f=0 then d.bp s f else d
def turns(t:Int):Bool:=t==4 || t==5 || t==6
def bY(d:DB)(p t s:Int):Int:=
 if !d.has p then 5 else if t !=2 && !turns t then 124 else if !d.dM s || decide ((d.at_ s).refs≥63)then 122 else if(d.at_ p).typ !=0 then 120 else 0
def more(d:DB)(s k:Int):DB:=d.set s {d.at_ s with refs:=(d.at_ s).refs+k}
def ej(d:DB)(p t s:Int):DB:=(d.set p ⟨t,s,0,0,false⟩).more s 1
def take(d:DB)(p t s:Int):DB:=if d.bY p t s=0 then d.ej p t s else d
def dw(d:DB)(p t:Int):Int:=if !d.has p then 5 else if !turns (d.at_ p).typ || !turns t then 124 else 0
def iA(d:DB)(p t:Int):DB:=(d.set p {d.at_ p with typ:=t}).fq (·.zero true p)
def dZ(d:DB)(p t:Int):DB:=if d.dw p t=0 then d.iA p t else d
def yY(d:DB)(p:Int):Int:=
 if !d.has p then 5 else if(d.at_ p).typ=0 then 121 else if(d.at_ p).typ==1 && decide ((d.at_ p).refs>0)then 123 else 0
def CG(d:DB)(p:Int):DB:=
 let d1:=d.set p .free
 (if(d.at_ p).typ !=1 && (d1.dM (d.at_ p).owner && decide ((d1.at_ (d.at_ p).owner).refs>0))then d1.more (d.at_ p).owner (-1)else d1).fq (·.zero true p)
def IU(d:DB)(p:Int):DB:=if d.yY p=0 then d.CG p else d
def bj(d:DB)(p s:Int):Int:=
 if !d.has p then 5 else if(d.at_ p).typ≠1 then 124 else if s !=3 && ((d.at_ p).state !=1 || s !=2)then 3 else 0
def setState(d:DB)(p s:Int):DB:=if d.bj p s=0 then d.set p {d.at_ p with state:=s}else d
def j8(d:DB)(p:Int):Int:=if !d.has p then 5 else if(d.at_ p).typ≠2 then 124 else 0
def wY(d:DB)(p:Int)(on:Bool):DB:=if d.j8 p=0 then d.set p {d.at_ p with aS:=on}else d
def words(d:DB):List Int:=d.au::(List.range d.S).flatMap fun p=>[(d.ent p).w0,(d.ent p).w1]
structure Ok(d:DB):Prop where
 ent:∀p,p<d.S→(d.ent p).ok=true∧(d.ent p).owner<d.S
 au:0≤d.au∧d.au≤64
@[simp] theorem IZ(d:DB)(p:Int)(e:Ent):(d.set p e).S=d.S:=rfl
@[simp] theorem jU(d:DB)(p q:Int)(e:Ent):(d.set p e).has q=d.has q:=rfl
@[simp] theorem mem_set(d:DB)(p:Int)(e:Ent):(d.set p e).mem=d.mem:=rfl
@[simp] theorem Hi(d:DB)(p:Int)(e:Ent):(d.set p e).au=d.au:=rfl
@[simp] theorem di(d:DB)(m:Mem):(d.aT m).mem=m:=rfl
@[simp] theorem CY(d:DB)(m:Mem):(d.aT m).au=d.au:=rfl
@[simp] theorem Hk(d:DB)(m:Mem)(p:Int):(d.aT m).at_ p=d.at_ p:=rfl
@[simp] theorem HH(d:DB)(m:Mem):(d.aT m).S=m.S:=rfl
@[simp] theorem zX(d:DB)(b:Int):(d.eh b).mem=d.mem:=rfl
@[simp] theorem Fc(d:DB)(b:Int):(d.eh b).au=b:=rfl
@[simp] theorem Ip(d:DB)(b:Int)(p:Int):(d.eh b).at_ p=d.at_ p:=rfl
@[simp] theorem IB(d:DB)(b:Int):(d.eh b).S=d.S:=rfl
@[simp] theorem BN(d:DB)(m m':Mem):(d.aT m).aT m'=d.aT m':=rfl
theorem iG(d:DB)(p:Int):d.mem.has true p=d.has p:=rfl
theorem cx {d:DB} {p:Int}(h:d.has p=true):0≤p∧p<(d.S:Int):=by simpa [has]using h
theorem cy {d:DB} {p:Int}(h:d.has p=true):p.toNat<d.S:=by have:=cx h;omega
theorem C1 {d:DB} {p q:Int} {e:Ent}(hp:0≤p)(hq:0≤q):(d.set p e).at_ q=if q=p then e else d.at_ q:=by
 unfold at_ set
 by_cases h:q=p
 ·simp [h]
 ·simp only [h,if_false];rw [if_neg (by omega)]
theorem set_comm(d:DB) {p q:Int} {e f:Ent}(h:p.toNat≠q.toNat):(d.set p e).set q f=(d.set q f).set p e:=by
 simp only [set,DB.mk.injEq,true_and]
 funext k
 by_cases h1:k=q.toNat<;>by_cases h2:k=p.toNat<;>simp [h1,h2]<;>omega
theorem Iq {d:DB} {p q:Int} {e:Ent}(hp:d.has p=true)(hq:d.has q=true)(KB:¬(d.at_ p).typ=(d.at_ q).typ):(d.set p e).at_ q=d.at_ q:=by
 have h1:=cx hp
 have h2:=cx hq
 rw [C1 h1.1 h2.1,if_neg (by rintro rfl;exact KB rfl)]
theorem gl {d:DB} {p:Int}(h:d.dM p=true):d.has p=true∧(d.at_ p).typ=1:=by simpa [dM]using h
theorem Cl {t s:Int}(ht:t=2∨turns t=true)(hs:0≤s∧s≤63):(Ent.mk t s 0 0 false).ok=true:=by
 have:t=2∨t=4∨t=5∨t=6:=by simpa [turns,or_assoc]using ht
 simp only [Ent.ok,decide_eq_true_eq];simp;omega
theorem Ck {e:Ent} {t:Int}(h:e.ok=true)(he:turns e.typ=true)(ht:turns t=true):(Ent.mk t e.owner e.refs e.state e.aS).ok=true:=by
 have h1:=Ent.dC h
 have h2:e.typ=4∨e.typ=5∨e.typ=6:=by simpa [turns,or_assoc]using he
 have h3:t=4∨t=5∨t=6:=by simpa [turns,or_assoc]using ht
 simp only [Ent.ok,decide_eq_true_eq]
 refine⟨by omega,by omega,by omega,by omega,by omega,by omega,by omega,by omega,by omega,fun _=>h1.2.2.2.2.2.2.2.2.2 (by omega)⟩
theorem sF {e:Ent} {k:Int}(h:e.ok=true)(he:e.typ=1)(hk:0≤e.refs+k∧e.refs+k≤63):(Ent.mk e.typ e.owner (e.refs+k) e.state e.aS).ok=true:=by
 have h1:=Ent.dC h
 simp only [Ent.ok,decide_eq_true_eq]
 refine⟨by omega,by omega,by omega,by omega,by omega,by omega,by omega,by omega,by omega,fun _=>h1.2.2.2.2.2.2.2.2.2 (by omega)⟩
theorem Gb {e:Ent} {s:Int}(h:e.ok=true)(he:e.typ=1)(hs:1≤s∧s≤3):(Ent.mk e.typ e.owner e.refs s e.aS).ok=true:=by
 have h1:=Ent.dC h
 simp only [Ent.ok,decide_eq_true_eq]
 refine⟨by omega,by omega,by omega,by omega,by omega,by omega,by omega,by omega,by omega,fun _=>h1.2.2.2.2.2.2.2.2.2 (by omega)⟩
theorem xl {e:Ent} {b:Bool}(h:e.ok=true)(he:e.typ=2):(Ent.mk e.typ e.owner e.refs e.state b).ok=true:=by
 have h1:=Ent.dC h
 simp only [Ent.ok,decide_eq_true_eq]
 refine⟨by omega,by omega,by omega,by omega,by omega,by omega,by omega,by omega,by omega,fun h=>absurd he h⟩
theorem Ok.at_ {d:DB}(h:d.Ok) {p:Int}(hp:d.has p=true):(d.at_ p).ok=true∧(d.at_ p).owner<d.S∧0≤(d.at_ p).owner:=
 ⟨(h.ent _ (cy hp)).1,(h.ent _ (cy hp)).2,(Ent.dC (h.ent _ (cy hp)).1).2.2.1⟩
end DB
section
structure eg where
 g:Nat
 a:Nat
 M:dA
def eg.X(L:eg):Nat→Prop:=fun k=>k=L.g∨k=L.a∨L.M.X k
abbrev DB.n2(D:DB):Nat:=2*D.mem.S
structure DBP(w:World)(L:eg)(D:DB):Prop where
 hd:∃T,Blk w L.g #[.pointer (some (Addr.mk L.M.g 0 none)),.int .i64 D.au,.slice (some (Addr.mk L.a 0 none)) D.n2 D.n2] T
 ws:∃T cs,Blk w L.a cs T∧cs.size=D.n2∧∀p,p<D.S→cs[2*p]? =some (.int .u32 (D.ent p).w0)∧cs[2*p+1]? =some (.int .u32 (D.ent p).w1)
 mem:bH w L.M D.mem
 ok:D.Ok
 dis:L.a≠L.g∧¬L.M.X L.g∧¬L.M.X L.a
section
variable {w w' w2:World} {L:eg} {D:DB} {Y:Nat→Prop}
theorem DBP.lt(h:DBP w L D):∀k,L.X k→k<w.heap.size:=by
 rintro k (rfl | rfl | hk)
 ·obtain⟨T,hd⟩:=h.hd;exact hd.lt
 ·obtain⟨T,cs,hr,_⟩:=h.ws;exact hr.lt
 ·exact h.mem.lt k hk
theorem DBP.ch(h:DBP w L D)(hk:Ch Y w w')(hb:∀k,L.X k→¬Y k):DBP w' L D:=by
 refine⟨?_,?_,h.mem.ch hk fun k hx=>hb k (.inr (.inr hx)),h.ok,h.dis⟩
 ·obtain⟨T,hd⟩:=h.hd;exact⟨T,hk.blk hd (hb _ (.inl rfl))⟩
 ·obtain⟨T,cs,hr,h2⟩:=h.ws;exact⟨T,cs,hk.blk hr (hb _ (.inr (.inl rfl))),h2⟩
theorem DBP.pu(h:DBP w L D)(hk:Pu w w'):DBP w' L D:=h.ch hk (by simp)
theorem DBP.S64(h:DBP w L D):D.S≤64:=h.mem.cF.1
theorem DBP.fq(h:DBP w L D) {m:Mem}(hm:bH w' L.M m)(hc:Ch L.M.X w w')(hs:m.S=D.mem.S):DBP w' L (D.aT m):=by
 refine⟨?_,?_,hm,⟨fun p hp=>?_,h.ok.au⟩,h.dis⟩
 ·obtain⟨T,hd⟩:=h.hd
  refine⟨T,?_⟩
  show Blk w' L.g #[_,_,.slice _ (2*m.S) (2*m.S)] T
  rw [hs];exact hc.blk hd h.dis.2.1
 ·obtain⟨T,cs,hr,h2⟩:=h.ws
  refine⟨T,cs,hc.blk hr h.dis.2.2,?_⟩
  show cs.size=2*m.S∧∀p,p<m.S→_
  rw [hs];exact h2
 ·have U5:p<m.S:=hp
  rw [hs]at U5
  have:=h.ok.ent p U5
  refine⟨this.1,?_⟩
  show _<(m.S:Int)
  rw [hs];exact this.2
theorem DBP.zK(h:DBP w L D) {x:Int} {T:TypeId}(hs:bm w L.g #[.pointer (some (Addr.mk L.M.g 0 none)),.int .i64 x,.slice (some (Addr.mk L.a 0 none)) D.n2 D.n2] T w2)(hx:0≤x∧x≤64):DBP w2 L (D.eh x):=by
 refine⟨⟨T,hs.blk⟩,?_,h.mem.ch hs.ch fun k hk e=>h.dis.2.1 (e▸hk),⟨h.ok.ent,hx⟩,h.dis⟩
 obtain⟨T,cs,hr,h2⟩:=h.ws
 exact⟨T,cs,hs.old hr h.dis.1,h2⟩
theorem DBP.GH(h:DBP w L D) {p:Int} {e:Ent}(hp:D.has p=true)(he:e.ok=true)(ho:e.owner<D.S) {cs:Array Value} {T:TypeId}(hb:Blk w L.a cs T)(hs:bm w L.a (setAt cs (2*p.toNat) [.int .u32 e.w0,.int .u32 e.w1]) T w2):DBP w2 L (D.set p e):=by
 obtain⟨T',cs',hr,Js,h2⟩:=h.ws
 obtain⟨rfl,rfl⟩:=hb.inj hr
 have hn:=DB.cy hp
 refine⟨?_,⟨T,_,hs.blk,by rw [dQ];exact Js,fun q hq=>?_⟩,h.mem.ch hs.ch fun k hk e=>h.dis.2.2 (e▸hk),⟨fun q hq=>?_,h.ok.au⟩,h.dis⟩
 ·obtain⟨T,hd⟩:=h.hd;exact⟨T,hs.old hd h.dis.1.symm⟩
 ·have hl:2*p.toNat+ [Value.int .u32 e.w0,Value.int .u32 e.w1].length≤cs.size:=by
   have h1:D.n2=2*D.S:=rfl
   rw [Js,h1];simp only [List.length_cons,List.length_nil];omega
  rw [dx _ _ _ _ hl,dx _ _ _ _ hl]
  simp only [DB.set,List.length_cons,List.length_nil]
  by_cases SU:q=p.toNat
  ·subst SU
   simp
  ·rw [if_neg (by omega),if_neg (by omega:¬(2*p.toNat≤2*q+1∧2*q+1<2*p.toNat+(0+1+1)))]
   simp only [SU,if_false]
   exact h2 q hq
 ·simp only [DB.set]
  split
  ·exact⟨he,ho⟩
  ·exact h.ok.ent q hq
theorem Mem.cV(m:Mem)(s:Bool)(p o v:Int):(m.write s p o v).S=m.S:=by unfold Mem.write;split<;>rfl
theorem Mem.tl(m:Mem)(s:Bool)(p:Int):(m.zero s p).S=m.S:=by unfold Mem.zero;split<;>rfl
theorem eg.inM(L:eg)(k:Nat)(h:L.M.X k):L.X k:= .inr (.inr h)
theorem sW(h:DBP w L D)(s:Bool)(p o v:Int)(hv:0≤v∧v<4294967296):
 Calls prog 15 #[ptr L.M.g,fr s p,.int .i64 o,.int .u32 v] w fun e w'=>∃u,e= .returned u∧u= .int .i64 (D.mem.err s p o)∧DBP w' L (D.aT (D.mem.write s p o v))∧Ch L.M.X w w':=
 (xr h.mem s p o v hv).mono fun e w' ⟨u,he,hu,hm,hc⟩=>⟨u,he,hu,h.fq hm hc (Mem.cV ..),hc⟩
theorem Hd(h:DBP w L D)(s:Bool)(p:Int):
 Calls prog 66 #[ptr L.M.g,fr s p] w fun e w'=>∃u,e= .returned u∧u= .int .i64 (D.mem.bJ s p)∧DBP w' L (D.aT (D.mem.zero s p))∧Ch L.M.X w w':=
 (Gf h.mem s p).mono fun e w' ⟨u,he,hu,hm,hc⟩=>⟨u,he,hu,h.fq hm hc (Mem.tl ..),hc⟩
theorem gK(x:Int):0≤u32.wrap x∧u32.wrap x<4294967296:=by rw [u32_eq];omega
end
end
end Go.Proofs.YtfgpafjlcgaimaaGreatDoor
namespace Go.Proofs.YtfgpafjlcgaimaaGreatDoor
open Go.Proofs.Tryz (prog)
open Go Go.RowKit V
open Go.IntKind (i64 u32 u64)
section
set_option maxRecDepth 100000
def r8(t:Int)(R:ax)(w:World):Prop:=
 ∃J:Bool→World→Prop,(
  split ((t:Int)==4) (
   J true w) (
   split ((t:Int)==5) (
    J true w) (
    J ((t:Int)==6) w)))∧∀(JW:Nat→Value)(x2:Bool),∀wv,J x2 wv→
 R (.bool x2) wv
def BE:Ann:=(.node none .leaf (.node none (.node (some ⟨[(2,.one (.bool))],[2,3,4,5,6,7,8,9,10,11,12]⟩) .leaf .leaf) .leaf))
theorem DTurns_eq(t:Int)(R:ax)(w:World):r8 t R w=vcF prog aJ [] Tryz.f72 BE [(.int .i64 t)] R none w:=by kernel_rfl
theorem tH(t:Int) {R:ax} {w:World}(h:r8 t R w):Calls prog 72 #[(.int .i64 t)] w fun e w'=>∃v,e= .returned v∧R v w':=
 aj Tryz.func72 ar aa ((DTurns_eq t R w).mp h)
def qc(ah:Int)(R:ax)(w:World):Prop:=
 ∀(gv:Nat)(wv:World),gv=w.heap.size→wv=w.alloc (.cells (#[(.bool false),(.int .i64 0)]) 47)→
 aI wv (Addr.mk gv 0 none) [(.bool true),(.int .i64 ah)] fun I2=>
 ∃MP:Bool,∃MO:Int,(I2.cell? ((Addr.mk gv 0 none).add 0)=some (.bool MP)∧I2.cell? ((Addr.mk gv 0 none).add 1)=some (.int .i64 MO))∧
 R (.agg #[(.bool MP),(.int .i64 MO)]) I2
def yj:Ann:= .leaf
theorem DSecure_eq(ah:Int)(R:ax)(w:World):qc ah R w=vcF prog aJ [] Tryz.f67 yj [(.int .i64 ah)] R none w:=by kernel_rfl
theorem qF(ah:Int) {R:ax} {w:World}(h:qc ah R w):Calls prog 67 #[(.int .i64 ah)] w fun e w'=>∃v,e= .returned v∧R v w':=
 aj Tryz.func67 ar aa ((DSecure_eq ah R w).mp h)
def r9(d:Option Addr)(R:ax)(w:World):Prop:=
 aq d fun p4=>
 ∃OF:Option Addr,∃MZ:Nat,∃OR:Nat,w.cell? (p4.add 2)=some (.slice OF MZ OR)∧
 R (.int .i64 (i64.wrap ((((MZ:Nat):Int):Int).tdiv 2))) w
def BF:Ann:= .leaf
theorem DPages_eq(d:Option Addr)(R:ax)(w:World):r9 d R w=vcF prog aJ [] Tryz.f62 BF [(.pointer d)] R none w:=by kernel_rfl
theorem tL(d:Option Addr) {R:ax} {w:World}(h:r9 d R w):Calls prog 62 #[(.pointer d)] w fun e w'=>∃v,e= .returned v∧R v w':=
 aj Tryz.func62 ar aa ((DPages_eq d R w).mp h)
def zx(d:Option Addr)(ah:Int)(R:ax)(w:World):Prop:=
 ∃J:Bool→World→Prop,(
  split (decide ((ah:Int)≥0)) (
   Calls prog 62 #[(.pointer d)] w fun e wv=>
   ∃Jz:Int,e= .returned (.int .i64 Jz)∧
   J (decide ((ah:Int)<Jz)) wv) (
   J false w))∧∀(JW:Nat→Value)(x4:Bool),∀wv,J x4 wv→
 R (.bool x4) wv
def F6:Ann:=(.node none .leaf (.node none (.node (some ⟨[(4,.one (.bool))],[4,5,6,7,8,9,10,11,12]⟩) .leaf .leaf) .leaf))
theorem DHas_eq(d:Option Addr)(ah:Int)(R:ax)(w:World):zx d ah R w=vcF prog aJ [] Tryz.f29 F6 [(.pointer d),(.int .i64 ah)] R none w:=by kernel_rfl
theorem yp(d:Option Addr)(ah:Int) {R:ax} {w:World}(h:zx d ah R w):Calls prog 29 #[(.pointer d),(.int .i64 ah)] w fun e w'=>∃v,e= .returned v∧R v w':=
 aj Tryz.func29 ar aa ((DHas_eq d ah R w).mp h)
def Eo(d:Option Addr)(ah:Int)(R:ax)(w:World):Prop:=
 ∀(gv:Nat)(wv:World),gv=w.heap.size→wv=w.alloc (.cells (#[(.int .i64 0),(.int .i64 0),(.int .i64 0),(.int .i64 0),(.bool false)]) 59)→
 aq d fun p9=>
 ∃M6:Option Addr,∃M4:Nat,∃M5:Nat,wv.cell? (p9.add 2)=some (.slice M6 M4 M5)∧
 (0≤(i64.wrap (2*ah):Int)∧(i64.wrap (2*ah):Int)≤((M4:Nat):Int))∧
 ∀Sw:Option Addr,Sw=(if M5=(Int.toNat (i64.wrap (2*ah)))then M6 else(M6:Option Addr).map (·.add ((Int.toNat (i64.wrap (2*ah)))*1)))→∀Sv:Nat,Sv=M4 - (Int.toNat (i64.wrap (2*ah)))→∀UB:Nat,UB=M5 - (Int.toNat (i64.wrap (2*ah)))→
 2≤Sv∧
 aq Sw fun OJ=>
 ∃Sn:Int,∃Sm:Int,(wv.cell? (OJ.add 0)=some (.int .u32 Sn)∧wv.cell? (OJ.add 1)=some (.int .u32 Sm))∧
 Calls prog 63 #[(.agg #[(.int .u32 Sn),(.int .u32 Sm)])] wv fun e I2=>
 ∃x17aa:Int,∃x17ab:Int,∃x17ac:Int,∃x17ad:Int,∃x17ae:Bool,∃O1:Int,e= .returned (.tuple #[(.agg #[(.int .i64 x17aa),(.int .i64 x17ab),(.int .i64 x17ac),(.int .i64 x17ad),(.bool x17ae)]),(.int .i64 O1)])∧
 ∀(I8:Nat)(I3:World),I8=I2.heap.size→I3=I2.alloc (.cells (#[(.int .i64 0),(.int .i64 0),(.int .i64 0),(.int .i64 0),(.bool false)]) 59)→
 aI I3 (Addr.mk I8 0 none) [(.int .i64 x17aa),(.int .i64 x17ab),(.int .i64 x17ac),(.int .i64 x17ad),(.bool x17ae)] fun I5=>
 ∃Sa:Int,∃R9:Int,∃R8:Int,∃R7:Int,∃R6:Bool,(I5.cell? ((Addr.mk I8 0 none).add 0)=some (.int .i64 Sa)∧I5.cell? ((Addr.mk I8 0 none).add 1)=some (.int .i64 R9)∧I5.cell? ((Addr.mk I8 0 none).add 2)=some (.int .i64 R8)∧I5.cell? ((Addr.mk I8 0 none).add 3)=some (.int .i64 R7)∧I5.cell? ((Addr.mk I8 0 none).add 4)=some (.bool R6))∧
 aI I5 (Addr.mk gv 0 none) [(.int .i64 Sa),(.int .i64 R9),(.int .i64 R8),(.int .i64 R7),(.bool R6)] fun Jh=>
 ∃MP:Int,∃MO:Int,∃N9:Int,∃N8:Int,∃N7:Bool,(Jh.cell? ((Addr.mk gv 0 none).add 0)=some (.int .i64 MP)∧Jh.cell? ((Addr.mk gv 0 none).add 1)=some (.int .i64 MO)∧Jh.cell? ((Addr.mk gv 0 none).add 2)=some (.int .i64 N9)∧Jh.cell? ((Addr.mk gv 0 none).add 3)=some (.int .i64 N8)∧Jh.cell? ((Addr.mk gv 0 none).add 4)=some (.bool N7))∧
 R (.agg #[(.int .i64 MP),(.int .i64 MO),(.int .i64 N9),(.int .i64 N8),(.bool N7)]) Jh
def HF:Ann:= .leaf
theorem DAt_eq(d:Option Addr)(ah:Int)(R:ax)(w:World):Eo d ah R w=vcF prog aJ [] Tryz.f30 HF [(.pointer d),(.int .i64 ah)] R none w:=by kernel_rfl
theorem BM(d:Option Addr)(ah:Int) {R:ax} {w:World}(h:Eo d ah R w):Calls prog 30 #[(.pointer d),(.int .i64 ah)] w fun e w'=>∃v,e= .returned v∧R v w':=
 aj Tryz.func30 ar aa ((DAt_eq d ah R w).mp h)
def zv(d:Option Addr)(ah:Int)(ea:Int)(eb:Int)(ec:Int)(ed:Int)(ee:Bool)(R:ax)(w:World):Prop:=
 ∀(gv:Nat)(wv:World),gv=w.heap.size→wv=w.alloc (.cells #[(.int .i64 ea),(.int .i64 eb),(.int .i64 ec),(.int .i64 ed),(.bool ee)] 59)→
 ∃Nv:Int,∃Nu:Int,∃QW:Int,∃QV:Int,∃QU:Bool,(wv.cell? ((Addr.mk gv 0 none).add 0)=some (.int .i64 Nv)∧wv.cell? ((Addr.mk gv 0 none).add 1)=some (.int .i64 Nu)∧wv.cell? ((Addr.mk gv 0 none).add 2)=some (.int .i64 QW)∧wv.cell? ((Addr.mk gv 0 none).add 3)=some (.int .i64 QV)∧wv.cell? ((Addr.mk gv 0 none).add 4)=some (.bool QU))∧
 Calls prog 119 #[(.agg #[(.int .i64 Nv),(.int .i64 Nu),(.int .i64 QW),(.int .i64 QV),(.bool QU)])] wv fun e I2=>
 ∃x10aa:Int,∃x10ab:Int,∃Ko:Int,e= .returned (.tuple #[(.agg #[(.int .u32 x10aa),(.int .u32 x10ab)]),(.int .i64 Ko)])∧
 ∀(I8:Nat)(I3:World),I8=I2.heap.size→I3=I2.alloc (.cells (#[(.int .u32 0),(.int .u32 0)]) 151)→
 aI I3 (Addr.mk I8 0 none) [(.int .u32 x10aa),(.int .u32 x10ab)] fun I5=>
 ∃b:Nat→Nat→Prop,
 aq d fun Pr=>
 b 3 ((Pr.add 2).block)∧
 ∃NO:Option Addr,∃Lv:Nat,∃NN:Nat,I5.drew.cell? (Pr.add 2)=some (.slice NO Lv NN)∧
 (0≤(i64.wrap (2*ah):Int)∧(i64.wrap (2*ah):Int)≤((Lv:Nat):Int))∧
 ∀Sd:Option Addr,Sd=(if NN=(Int.toNat (i64.wrap (2*ah)))then NO else(NO:Option Addr).map (·.add ((Int.toNat (i64.wrap (2*ah)))*1)))→∀Sb:Nat,Sb=Lv - (Int.toNat (i64.wrap (2*ah)))→∀Sc:Nat,Sc=NN - (Int.toNat (i64.wrap (2*ah)))→
 ∀NL:Option Addr,NL=(some (if 2=0 then Addr.mk I8 0 none else(Addr.mk I8 0 none).add (0*1)))→∀NJ:Nat,NJ=2 - 0→∀NK:Nat,NK=2 - 0→
 ∃Kh:Int,∃Jh,(Builtin.copy_ #[64,64] 3 #[(.slice Sd Sb Sc),(.slice NL NJ NK)]:Sem Value).run prog I5.drew= .ok (.int .i64 Kh) Jh∧
 Kept (cn b [0,1]) I5.drew Jh∧∃b1:Nat→Nat→Prop,(∀i k,b i k→b1 i k)∧
 R (.tuple #[]) Jh
def F4:Ann:= .leaf
theorem DSet_eq(d:Option Addr)(ah:Int)(ea:Int)(eb:Int)(ec:Int)(ed:Int)(ee:Bool)(R:ax)(w:World):zv d ah ea eb ec ed ee R w=vcF prog aJ [] Tryz.f71 F4 [(.pointer d),(.int .i64 ah),(.agg #[(.int .i64 ea),(.int .i64 eb),(.int .i64 ec),(.int .i64 ed),(.bool ee)])] R none w:=by kernel_rfl
theorem yi(d:Option Addr)(ah:Int)(ea:Int)(eb:Int)(ec:Int)(ed:Int)(ee:Bool) {R:ax} {w:World}(h:zv d ah ea eb ec ed ee R w):Calls prog 71 #[(.pointer d),(.int .i64 ah),(.agg #[(.int .i64 ea),(.int .i64 eb),(.int .i64 ec),(.int .i64 ed),(.bool ee)])] w fun e w'=>∃v,e= .returned v∧R v w':=
 aj Tryz.func71 ar aa ((DSet_eq d ah ea eb ec ed ee R w).mp h)
def sb(d:Option Addr)(ah:Int)(R:ax)(w:World):Prop:=
 ∀(gv:Nat)(wv:World),gv=w.heap.size→wv=w.alloc (.cells (#[(.int .i64 0),(.int .i64 0),(.int .i64 0),(.int .i64 0),(.bool false)]) 59)→
 Calls prog 29 #[(.pointer d),(.int .i64 ah)] wv fun e I2=>
 ∃x8:Bool,e= .returned (.bool x8)∧
 split (!x8) (
  aI I2 (Addr.mk gv 0 none) [(.int .i64 0),(.int .i64 0),(.int .i64 0),(.int .i64 0),(.bool false)] fun I3=>
  ∃MP:Int,∃MO:Int,∃N9:Int,∃N8:Int,∃N7:Bool,(I3.cell? ((Addr.mk gv 0 none).add 0)=some (.int .i64 MP)∧I3.cell? ((Addr.mk gv 0 none).add 1)=some (.int .i64 MO)∧I3.cell? ((Addr.mk gv 0 none).add 2)=some (.int .i64 N9)∧I3.cell? ((Addr.mk gv 0 none).add 3)=some (.int .i64 N8)∧I3.cell? ((Addr.mk gv 0 none).add 4)=some (.bool N7))∧
  R (.tuple #[(.agg #[(.int .i64 MP),(.int .i64 MO),(.int .i64 N9),(.int .i64 N8),(.bool N7)]),(.int .i64 5)]) I3) (
  Calls prog 30 #[(.pointer d),(.int .i64 ah)] I2 fun e I3=>
  ∃Ku:Int,∃KD:Int,∃NW:Int,∃NV:Int,∃NU:Bool,e= .returned (.agg #[(.int .i64 Ku),(.int .i64 KD),(.int .i64 NW),(.int .i64 NV),(.bool NU)])∧
  aI I3 (Addr.mk gv 0 none) [(.int .i64 Ku),(.int .i64 KD),(.int .i64 NW),(.int .i64 NV),(.bool NU)] fun I5=>
  ∃MP:Int,∃MO:Int,∃N9:Int,∃N8:Int,∃N7:Bool,(I5.cell? ((Addr.mk gv 0 none).add 0)=some (.int .i64 MP)∧I5.cell? ((Addr.mk gv 0 none).add 1)=some (.int .i64 MO)∧I5.cell? ((Addr.mk gv 0 none).add 2)=some (.int .i64 N9)∧I5.cell? ((Addr.mk gv 0 none).add 3)=some (.int .i64 N8)∧I5.cell? ((Addr.mk gv 0 none).add 4)=some (.bool N7))∧
  R (.tuple #[(.agg #[(.int .i64 MP),(.int .i64 MO),(.int .i64 N9),(.int .i64 N8),(.bool N7)]),(.int .i64 0)]) I5)
def BH:Ann:= .leaf
theorem DEntry_eq(d:Option Addr)(ah:Int)(R:ax)(w:World):sb d ah R w=vcF prog aJ [] Tryz.f16 BH [(.pointer d),(.int .i64 ah)] R none w:=by kernel_rfl
theorem tN(d:Option Addr)(ah:Int) {R:ax} {w:World}(h:sb d ah R w):Calls prog 16 #[(.pointer d),(.int .i64 ah)] w fun e w'=>∃v,e= .returned v∧R v w':=
 aj Tryz.func16 ar aa ((DEntry_eq d ah R w).mp h)
def nv(d:Option Addr)(ah:Int)(R:ax)(w:World):Prop:=
 ∃J:Bool→World→Prop,(
  Calls prog 29 #[(.pointer d),(.int .i64 ah)] w fun e wv=>
  ∃x7:Bool,e= .returned (.bool x7)∧
  split x7 (
   Calls prog 30 #[(.pointer d),(.int .i64 ah)] wv fun e I2=>
   ∃Mb:Int,∃Lx:Int,∃UF:Int,∃UD:Int,∃UC:Bool,e= .returned (.agg #[(.int .i64 Mb),(.int .i64 Lx),(.int .i64 UF),(.int .i64 UD),(.bool UC)])∧
   J ((Mb:Int)==1) I2) (
   J false wv))∧∀(JW:Nat→Value)(x4:Bool),∀wv,J x4 wv→
 R (.bool x4) wv
def wI:Ann:=(.node none .leaf (.node none (.node (some ⟨[(4,.one (.bool))],[4,5,6,7,8,9,10,11,12,13,14]⟩) .leaf .leaf) .leaf))
theorem DIsSpace_eq(d:Option Addr)(ah:Int)(R:ax)(w:World):nv d ah R w=vcF prog aJ [] Tryz.f73 wI [(.pointer d),(.int .i64 ah)] R none w:=by kernel_rfl
theorem qf(d:Option Addr)(ah:Int) {R:ax} {w:World}(h:nv d ah R w):Calls prog 73 #[(.pointer d),(.int .i64 ah)] w fun e w'=>∃v,e= .returned v∧R v w':=
 aj Tryz.func73 ar aa ((DIsSpace_eq d ah R w).mp h)
def wG(d:Option Addr)(space:Int)(more:Int)(R:ax)(w:World):Prop:=
 Calls prog 30 #[(.pointer d),(.int .i64 space)] w fun e wv=>
 ∃Nv:Int,∃Nu:Int,∃QW:Int,∃QV:Int,∃QU:Bool,e= .returned (.agg #[(.int .i64 Nv),(.int .i64 Nu),(.int .i64 QW),(.int .i64 QV),(.bool QU)])∧
 ∀(gv:Nat)(I2:World),gv=wv.heap.size→I2=wv.alloc (.cells (#[(.int .i64 0),(.int .i64 0),(.int .i64 0),(.int .i64 0),(.bool false)]) 59)→
 aI I2 (Addr.mk gv 0 none) [(.int .i64 Nv),(.int .i64 Nu),(.int .i64 QW),(.int .i64 QV),(.bool QU)] fun I3=>
 ∃JS:Int,I3.cell? ((Addr.mk gv 0 none).add 2)=some (.int .i64 JS)∧
 aI I3 ((Addr.mk gv 0 none).add 2) [(.int .i64 (i64.wrap (JS+more)))] fun I5=>
 ∃Si:Int,∃O1:Int,∃Sg:Int,∃Sf:Int,∃Se:Bool,(I5.cell? ((Addr.mk gv 0 none).add 0)=some (.int .i64 Si)∧I5.cell? ((Addr.mk gv 0 none).add 1)=some (.int .i64 O1)∧I5.cell? ((Addr.mk gv 0 none).add 2)=some (.int .i64 Sg)∧I5.cell? ((Addr.mk gv 0 none).add 3)=some (.int .i64 Sf)∧I5.cell? ((Addr.mk gv 0 none).add 4)=some (.bool Se))∧
 Calls prog 71 #[(.pointer d),(.int .i64 space),(.agg #[(.int .i64 Si),(.int .i64 O1),(.int .i64 Sg),(.int .i64 Sf),(.bool Se)])] I5 fun e Jh=>
 e= .returned (.tuple #[])∧
 R (.tuple #[]) Jh
def El:Ann:= .leaf
theorem DRefs_eq(d:Option Addr)(space:Int)(more:Int)(R:ax)(w:World):wG d space more R w=vcF prog aJ [] Tryz.f74 El [(.pointer d),(.int .i64 space),(.int .i64 more)] R none w:=by kernel_rfl
theorem wH(d:Option Addr)(space:Int)(more:Int) {R:ax} {w:World}(h:wG d space more R w):Calls prog 74 #[(.pointer d),(.int .i64 space),(.int .i64 more)] w fun e w'=>∃v,e= .returned v∧R v w':=
 aj Tryz.func74 ar aa ((DRefs_eq d space more R w).mp h)
def wD(d:Option Addr)(ah:Int)(t:Int)(space:Int)(R:ax)(w:World):Prop:=
 Calls prog 29 #[(.pointer d),(.int .i64 ah)] w fun e wv=>
 ∃Jy:Bool,e= .returned (.bool Jy)∧
 ∀x9:Bool,x9=(!Jy)→
 split x9 (
  R (.int .i64 5) wv) (
  ∃J:Bool→World→Prop,(
   split ((t:Int) !=2) (
    Calls prog 72 #[(.int .i64 t)] wv fun e I2=>
    ∃Jk:Bool,e= .returned (.bool Jk)∧
    ∀JU:Bool,JU=(!Jk)→
    J JU I2) (
    ∀JU:Bool,JU=false→
    J JU wv))∧∀(JW:Nat→Value)(JU:Bool),∀I2,J JU I2→
  split JU (
   R (.int .i64 124) I2) (
   ∃J1:Bool→World→Prop,(
    Calls prog 73 #[(.pointer d),(.int .i64 space)] I2 fun e I3=>
    ∃L6:Bool,e= .returned (.bool L6)∧
    split (!L6) (
     ∀Jo:Bool,Jo=true→
     J1 Jo I3) (
     Calls prog 30 #[(.pointer d),(.int .i64 space)] I3 fun e I5=>
     ∃Uz:Int,∃Uy:Int,∃RQ:Int,∃Ux:Int,∃Uw:Bool,e= .returned (.agg #[(.int .i64 Uz),(.int .i64 Uy),(.int .i64 RQ),(.int .i64 Ux),(.bool Uw)])∧
     ∀Jo:Bool,Jo=(decide ((RQ:Int)≥63))→
     J1 Jo I5))∧∀(Ji:Nat→Value)(Jo:Bool),∀I3,J1 Jo I3→
   split Jo (
    R (.int .i64 122) I3) (
    Calls prog 30 #[(.pointer d),(.int .i64 ah)] I3 fun e I5=>
    ∃RA:Int,∃Uq:Int,∃Up:Int,∃Uo:Int,∃Um:Bool,e= .returned (.agg #[(.int .i64 RA),(.int .i64 Uq),(.int .i64 Up),(.int .i64 Uo),(.bool Um)])∧
    ∀Po:Bool,Po=((RA:Int) !=0)→
    split Po (
     R (.int .i64 120) I5) (
     Calls prog 71 #[(.pointer d),(.int .i64 ah),(.agg #[(.int .i64 t),(.int .i64 space),(.int .i64 0),(.int .i64 0),(.bool false)])] I5 fun e Jh=>
     e= .returned (.tuple #[])∧
     Calls prog 74 #[(.pointer d),(.int .i64 space),(.int .i64 1)] Jh fun e Ju=>
     e= .returned (.tuple #[])∧
     R (.int .i64 0) Ju))))
def Ek:Ann:=(.node none .leaf (.node none (.node none (.node none .leaf (.node none .leaf (.node none (.node (some ⟨[(14,.one (.bool))],[14,15,16,17,18,19,20,21]⟩) .leaf .leaf) (.node none .leaf (.node none (.node (some ⟨[(22,.one (.bool))],[22,23,24,25,26,27,28,29,30,31,32,33]⟩) .leaf .leaf) .leaf))))) .leaf) .leaf))
theorem DTake_eq(d:Option Addr)(ah:Int)(t:Int)(space:Int)(R:ax)(w:World):wD d ah t space R w=vcF prog aJ [9,14,22,34] Tryz.f38 Ek [(.pointer d),(.int .i64 ah),(.int .i64 t),(.int .i64 space)] R none w:=by kernel_rfl
theorem wE(d:Option Addr)(ah:Int)(t:Int)(space:Int) {R:ax} {w:World}(h:wD d ah t space R w):Calls prog 38 #[(.pointer d),(.int .i64 ah),(.int .i64 t),(.int .i64 space)] w fun e w'=>∃v,e= .returned v∧R v w':=
 aj Tryz.func38 ar aa ((DTake_eq d ah t space R w).mp h)
def wz(d:Option Addr)(ah:Int)(t:Int)(R:ax)(w:World):Prop:=
 Calls prog 29 #[(.pointer d),(.int .i64 ah)] w fun e wv=>
 ∃Jz:Bool,e= .returned (.bool Jz)∧
 split (!Jz) (
  R (.int .i64 5) wv) (
  Calls prog 30 #[(.pointer d),(.int .i64 ah)] wv fun e I2=>
  ∃Ma:Int,∃Lw:Int,∃NT:Int,∃NS:Int,∃NR:Bool,e= .returned (.agg #[(.int .i64 Ma),(.int .i64 Lw),(.int .i64 NT),(.int .i64 NS),(.bool NR)])∧
  ∀(gv:Nat)(I3:World),gv=I2.heap.size→I3=I2.alloc (.cells (#[(.int .i64 0),(.int .i64 0),(.int .i64 0),(.int .i64 0),(.bool false)]) 59)→
  aI I3 (Addr.mk gv 0 none) [(.int .i64 Ma),(.int .i64 Lw),(.int .i64 NT),(.int .i64 NS),(.bool NR)] fun I5=>
  ∃J:Bool→World→Prop,(
   ∃Li:Int,I5.cell? ((Addr.mk gv 0 none).add 0)=some (.int .i64 Li)∧
   Calls prog 72 #[(.int .i64 Li)] I5 fun e Jh=>
   ∃Kj:Bool,e= .returned (.bool Kj)∧
   split (!Kj) (
    J true Jh) (
    Calls prog 72 #[(.int .i64 t)] Jh fun e Ju=>
    ∃Kh:Bool,e= .returned (.bool Kh)∧
    J (!Kh) Ju))∧∀(Ji:Nat→Value)(NG:Bool),∀Jh,J NG Jh→
  split NG (
   R (.int .i64 124) Jh) (
   aI Jh ((Addr.mk gv 0 none).add 0) [(.int .i64 t)] fun Ju=>
   ∃RZ:Int,∃RY:Int,∃RX:Int,∃RW:Int,∃RV:Bool,(Ju.cell? ((Addr.mk gv 0 none).add 0)=some (.int .i64 RZ)∧Ju.cell? ((Addr.mk gv 0 none).add 1)=some (.int .i64 RY)∧Ju.cell? ((Addr.mk gv 0 none).add 2)=some (.int .i64 RX)∧Ju.cell? ((Addr.mk gv 0 none).add 3)=some (.int .i64 RW)∧Ju.cell? ((Addr.mk gv 0 none).add 4)=some (.bool RV))∧
   Calls prog 71 #[(.pointer d),(.int .i64 ah),(.agg #[(.int .i64 RZ),(.int .i64 RY),(.int .i64 RX),(.int .i64 RW),(.bool RV)])] Ju fun e Kf=>
   e= .returned (.tuple #[])∧
   ∃b:Nat→Nat→Prop,
   aq d fun p31=>
   b 3 ((p31.add 0).block)∧
   ∃RL:Option Addr,Kf.drew.cell? (p31.add 0)=some (.pointer RL)∧
   Calls prog 67 #[(.int .i64 ah)] Kf.drew fun e KA=>
   ∃NA:Bool,∃Nz:Int,e= .returned (.agg #[(.bool NA),(.int .i64 Nz)])∧
   Kept (cn b [0,1,2,3]) Kf.drew KA∧∃b1:Nat→Nat→Prop,(∀i k,b i k→b1 i k)∧
   Calls prog 66 #[(.pointer RL),(.agg #[(.bool NA),(.int .i64 Nz)])] KA fun e KI=>
   ∃JX:Int,e= .returned (.int .i64 JX)∧
   Kept (cn b1 [0]) KA KI∧∃b2:Nat→Nat→Prop,(∀i k,b1 i k→b2 i k)∧
   R (.int .i64 JX) KI))
def Ej:Ann:=(.node none .leaf (.node none .leaf (.node none .leaf (.node none (.node none (.node (some ⟨[(23,.one (.bool))],[15,16,17,18,19,20,21,22,23]⟩) .leaf .leaf) .leaf) .leaf))))
theorem DTurn_eq(d:Option Addr)(ah:Int)(t:Int)(R:ax)(w:World):wz d ah t R w=vcF prog aJ [] Tryz.f40 Ej [(.pointer d),(.int .i64 ah),(.int .i64 t)] R none w:=by kernel_rfl
theorem wB(d:Option Addr)(ah:Int)(t:Int) {R:ax} {w:World}(h:wz d ah t R w):Calls prog 40 #[(.pointer d),(.int .i64 ah),(.int .i64 t)] w fun e w'=>∃v,e= .returned v∧R v w':=
 aj Tryz.func40 ar aa ((DTurn_eq d ah t R w).mp h)
def me(d:Option Addr)(space:Int)(s:Int)(R:ax)(w:World):Prop:=
 Calls prog 29 #[(.pointer d),(.int .i64 space)] w fun e wv=>
 ∃Jz:Bool,e= .returned (.bool Jz)∧
 split (!Jz) (
  R (.int .i64 5) wv) (
  Calls prog 30 #[(.pointer d),(.int .i64 space)] wv fun e I2=>
  ∃Ma:Int,∃Lw:Int,∃NT:Int,∃NS:Int,∃NR:Bool,e= .returned (.agg #[(.int .i64 Ma),(.int .i64 Lw),(.int .i64 NT),(.int .i64 NS),(.bool NR)])∧
  ∀(gv:Nat)(I3:World),gv=I2.heap.size→I3=I2.alloc (.cells (#[(.int .i64 0),(.int .i64 0),(.int .i64 0),(.int .i64 0),(.bool false)]) 59)→
  aI I3 (Addr.mk gv 0 none) [(.int .i64 Ma),(.int .i64 Lw),(.int .i64 NT),(.int .i64 NS),(.bool NR)] fun I5=>
  ∃Kj:Int,I5.cell? ((Addr.mk gv 0 none).add 0)=some (.int .i64 Kj)∧
  ∀JD:Bool,JD=((Kj:Int) !=1)→
  split JD (
   R (.int .i64 124) I5) (
   ∃J:Bool→World→Prop,(
    split ((s:Int) !=3) (
     ∃ND:Int,I5.cell? ((Addr.mk gv 0 none).add 3)=some (.int .i64 ND)∧
     split ((ND:Int) !=1) (
      ∀Jk:Bool,Jk=true→
      J Jk I5) (
      ∀Jk:Bool,Jk=((s:Int) !=2)→
      J Jk I5)) (
     ∀Jk:Bool,Jk=false→
     J Jk I5))∧∀(Ji:Nat→Value)(Jk:Bool),∀Jh,J Jk Jh→
   split Jk (
    R (.int .i64 3) Jh) (
    aI Jh ((Addr.mk gv 0 none).add 3) [(.int .i64 s)] fun Ju=>
    ∃NA:Int,∃Nz:Int,∃RG:Int,∃RF:Int,∃RE:Bool,(Ju.cell? ((Addr.mk gv 0 none).add 0)=some (.int .i64 NA)∧Ju.cell? ((Addr.mk gv 0 none).add 1)=some (.int .i64 Nz)∧Ju.cell? ((Addr.mk gv 0 none).add 2)=some (.int .i64 RG)∧Ju.cell? ((Addr.mk gv 0 none).add 3)=some (.int .i64 RF)∧Ju.cell? ((Addr.mk gv 0 none).add 4)=some (.bool RE))∧
    Calls prog 71 #[(.pointer d),(.int .i64 space),(.agg #[(.int .i64 NA),(.int .i64 Nz),(.int .i64 RG),(.int .i64 RF),(.bool RE)])] Ju fun e Kf=>
    e= .returned (.tuple #[])∧
    R (.int .i64 0) Kf)))
def tK:Ann:=(.node none .leaf (.node none .leaf (.node none .leaf (.node none (.node none (.node none .leaf (.node none .leaf (.node none (.node (some ⟨[(19,.one (.bool))],[19,20,21,22,23,24,25,26,27,28,29,30]⟩) .leaf .leaf) .leaf))) .leaf) .leaf))))
theorem DSetState_eq(d:Option Addr)(space:Int)(s:Int)(R:ax)(w:World):me d space s R w=vcF prog aJ [15,19] Tryz.f44 tK [(.pointer d),(.int .i64 space),(.int .i64 s)] R none w:=by kernel_rfl
theorem nG(d:Option Addr)(space:Int)(s:Int) {R:ax} {w:World}(h:me d space s R w):Calls prog 44 #[(.pointer d),(.int .i64 space),(.int .i64 s)] w fun e w'=>∃v,e= .returned v∧R v w':=
 aj Tryz.func44 ar aa ((DSetState_eq d space s R w).mp h)
def km(d:Option Addr)(space:Int)(first:Int)(R:ax)(w:World):Prop:=
 ∃J:Bool→World→Prop,(
  Calls prog 29 #[(.pointer d),(.int .i64 space)] w fun e wv=>
  ∃Jz:Bool,e= .returned (.bool Jz)∧
  split (!Jz) (
   ∀x7:Bool,x7=true→
   J x7 wv) (
   Calls prog 29 #[(.pointer d),(.int .i64 first)] wv fun e I2=>
   ∃JD:Bool,e= .returned (.bool JD)∧
   ∀x7:Bool,x7=(!JD)→
   J x7 I2))∧∀(JW:Nat→Value)(x7:Bool),∀wv,J x7 wv→
 split x7 (
  R (.int .i64 5) wv) (
  ∀La:Bool,La=((space:Int)==first)→
  split La (
   R (.int .i64 1) wv) (
   ∃J1:Bool→World→Prop,(
    Calls prog 30 #[(.pointer d),(.int .i64 space)] wv fun e I2=>
    ∃NC:Int,∃OZ:Int,∃OY:Int,∃OX:Int,∃OW:Bool,e= .returned (.agg #[(.int .i64 NC),(.int .i64 OZ),(.int .i64 OY),(.int .i64 OX),(.bool OW)])∧
    split ((NC:Int) !=0) (
     ∀Jo:Bool,Jo=true→
     J1 Jo I2) (
     Calls prog 30 #[(.pointer d),(.int .i64 first)] I2 fun e I3=>
     ∃RM:Int,∃Uu:Int,∃Ut:Int,∃Us:Int,∃Ur:Bool,e= .returned (.agg #[(.int .i64 RM),(.int .i64 Uu),(.int .i64 Ut),(.int .i64 Us),(.bool Ur)])∧
     ∀Jo:Bool,Jo=((RM:Int) !=0)→
     J1 Jo I3))∧∀(Ji:Nat→Value)(Jo:Bool),∀I2,J1 Jo I2→
   split Jo (
    R (.int .i64 120) I2) (
    aq d fun p37=>
    ∃JM:Int,I2.cell? (p37.add 1)=some (.int .i64 JM)∧
    ∀RH:Bool,RH=(decide ((JM:Int)≥64))→
    split RH (
     R (.int .i64 240) I2) (
     Calls prog 71 #[(.pointer d),(.int .i64 space),(.agg #[(.int .i64 1),(.int .i64 space),(.int .i64 1),(.int .i64 1),(.bool false)])] I2 fun e I3=>
     e= .returned (.tuple #[])∧
     Calls prog 71 #[(.pointer d),(.int .i64 first),(.agg #[(.int .i64 3),(.int .i64 space),(.int .i64 0),(.int .i64 0),(.bool false)])] I3 fun e I5=>
     e= .returned (.tuple #[])∧
     ∃b:Nat→Nat→Prop,
     aq d fun p52=>
     b 3 ((p52.add 0).block)∧
     ∃Q7:Option Addr,I5.drew.cell? (p52.add 0)=some (.pointer Q7)∧
     Calls prog 67 #[(.int .i64 space)] I5.drew fun e Jh=>
     ∃Q6:Bool,∃Q5:Int,e= .returned (.agg #[(.bool Q6),(.int .i64 Q5)])∧
     Kept (cn b [0,1,2,3,6,7]) I5.drew Jh∧∃b1:Nat→Nat→Prop,(∀i k,b i k→b1 i k)∧
     Calls prog 15 #[(.pointer Q7),(.agg #[(.bool Q6),(.int .i64 Q5)]),(.int .i64 0),(.int .u32 (u32.wrap first))] Jh fun e Ju=>
     ∃x59:Int,e= .returned (.int .i64 x59)∧
     Kept (cn b1 [0]) Jh Ju∧∃b2:Nat→Nat→Prop,(∀i k,b1 i k→b2 i k)∧
     ∃b3:Nat→Nat→Prop,
     aq d fun p61=>
     b3 3 ((p61.add 0).block)∧
     ∃K6:Option Addr,Ju.drew.cell? (p61.add 0)=some (.pointer K6)∧
     aq d fun p67=>
     b3 9 ((p67.add 1).block)∧
     ∃x69:Int,Ju.drew.cell? (p67.add 1)=some (.int .i64 x69)∧
     Calls prog 67 #[(.int .i64 space)] Ju.drew fun e Kf=>
     ∃Q4:Bool,∃Q3:Int,e= .returned (.agg #[(.bool Q4),(.int .i64 Q3)])∧
     Kept (cn b3 [0,1,2,3,6,7,8,9,10]) Ju.drew Kf∧∃b4:Nat→Nat→Prop,(∀i k,b3 i k→b4 i k)∧
     Calls prog 15 #[(.pointer K6),(.agg #[(.bool Q4),(.int .i64 Q3)]),(.int .i64 1),(.int .u32 (u32.wrap x69))] Kf fun e KA=>
     ∃x71:Int,e= .returned (.int .i64 x71)∧
     Kept (cn b4 [0,6,7]) Kf KA∧∃b5:Nat→Nat→Prop,(∀i k,b4 i k→b5 i k)∧
     ∃b6:Nat→Nat→Prop,
     aq d fun p73=>
     b6 3 ((p73.add 0).block)∧
     ∃x75:Option Addr,KA.drew.cell? (p73.add 0)=some (.pointer x75)∧
     Calls prog 67 #[(.int .i64 space)] KA.drew fun e KI=>
     ∃QY:Bool,∃QX:Int,e= .returned (.agg #[(.bool QY),(.int .i64 QX)])∧
     Kept (cn b6 [0,1,2,3]) KA.drew KI∧∃b7:Nat→Nat→Prop,(∀i k,b6 i k→b7 i k)∧
     Calls prog 15 #[(.pointer x75),(.agg #[(.bool QY),(.int .i64 QX)]),(.int .i64 2),(.int .u32 0)] KI fun e Ni=>
     ∃x78:Int,e= .returned (.int .i64 x78)∧
     Kept (cn b7 [0]) KI Ni∧∃b8:Nat→Nat→Prop,(∀i k,b7 i k→b8 i k)∧
     aq d fun p80=>
     ∃x82:Int,Ni.cell? (p80.add 1)=some (.int .i64 x82)∧
     aq d fun p84=>
     aI Ni (p84.add 1) [(.int .i64 (i64.wrap (x82+1)))] fun M7=>
     R (.int .i64 0) M7))))
def qE:Ann:=(.node none .leaf (.node none (.node none (.node none (.node (some ⟨[(7,.one (.bool))],[7,8,9,10,11,12,13,14,15,16,17]⟩) .leaf .leaf) (.node none .leaf (.node none .leaf (.node none .leaf (.node none (.node (some ⟨[(22,.one (.bool))],[22,23,24,25,26,27,28,29,30,31,32,33,34]⟩) .leaf .leaf) .leaf))))) .leaf) .leaf))
theorem DTakeSpace_eq(d:Option Addr)(space:Int)(first:Int)(R:ax)(w:World):km d space first R w=vcF prog aJ [7,18,22,35] Tryz.f36 qE [(.pointer d),(.int .i64 space),(.int .i64 first)] R none w:=by kernel_rfl
theorem mP(d:Option Addr)(space:Int)(first:Int) {R:ax} {w:World}(h:km d space first R w):Calls prog 36 #[(.pointer d),(.int .i64 space),(.int .i64 first)] w fun e w'=>∃v,e= .returned v∧R v w':=
 aj Tryz.func36 ar aa ((DTakeSpace_eq d space first R w).mp h)
end
section
set_option maxRecDepth 100000
def rT(aO:Int)(insecure:Int)(R:ax)(w:World):Prop:=
 ∃J:Bool→World→Prop,(
  split (decide ((aO:Int)<1)) (
   J true w) (
   split (decide ((aO:Int)>64)) (
    J true w) (
    split (decide ((insecure:Int)<1)) (
     J true w) (
     J (decide ((insecure:Int)>64)) w))))∧∀(JW:Nat→Value)(Kh:Bool),∀wv,J Kh wv→
 split Kh (
  R (.tuple #[(.pointer none),(.int .i64 1)]) wv) (
  ∀(I8:Nat)(I2:World),I8=wv.heap.size→I2=wv.alloc (.cells #[(.slice none 0 0),(.int .i64 aO),(.int .i64 0)] 155)→
  ∀i:Int,i=0→
  ∃I:Nat→Int→World→Prop,(∃m,I m i I2)∧∀(m:Nat)(KH:Nat→Value)(i1:Int),∀I3,I m i1 I3→
  split (decide ((i1:Int)<(i64.wrap (aO+insecure)))) (
   ∃RD:Option Addr,∃RB:Nat,∃RC:Nat,I3.cell? ((Addr.mk I8 0 none).add 0)=some (.slice RD RB RC)∧
   ∀(KT:Nat)(I5:World),KT=I3.heap.size→I5=I3.alloc (.cells #[(.slice none 0 0)] 64)→
   ∃Ry:Option Addr,∃Rw:Nat,∃Rx:Nat,∃Jh,(Builtin.append_ #[74,74] 74 #[(.slice RD RB RC),(.slice (some (Addr.mk KT 0 none)) 1 1)]:Sem Value).run prog I5= .ok (.slice Ry Rw Rx) Jh∧
   aI Jh ((Addr.mk I8 0 none).add 0) [(.slice Ry Rw Rx)] fun Ju=>
   ∀i2:Int,i2=(i64.wrap (i1+1))→
   ∃m1,m1<m∧I m1 i2 Ju) (
   R (.tuple #[(.pointer (some (Addr.mk I8 0 none))),(.int .i64 0)]) I3))
def A8:Ann:=(.node none .leaf (.node none (.node none (.node (some ⟨[(21,.one (.bool))],[8,9,10,11,12,13,14,15,16,17,18,19,20,21]⟩) .leaf .leaf) .leaf) (.node none .leaf (.node none (.node none .leaf (.node none (.node (some ⟨[(7,.one (.int .i64))],[7,25,26,27,28,29,30,31,32,33,34,35,36,37,38,39,40]⟩) .leaf .leaf) .leaf)) .leaf))))
theorem R07New_eq(aO:Int)(insecure:Int)(R:ax)(w:World):rT aO insecure R w=vcF prog aJ [7] Tryz.f34 A8 [(.int .i64 aO),(.int .i64 insecure)] R none w:=by kernel_rfl
theorem tu(aO:Int)(insecure:Int) {R:ax} {w:World}(h:rT aO insecure R w):Calls prog 34 #[(.int .i64 aO),(.int .i64 insecure)] w fun e w'=>∃v,e= .returned v∧R v w':=
 aj Tryz.func34 ar aa ((R07New_eq aO insecure R w).mp h)
def nr(m:Option Addr)(fa:Bool)(fb:Int)(R:ax)(w:World):Prop:=
 ∀(gv:Nat)(wv:World),gv=w.heap.size→wv=w.alloc (.cells #[(.bool fa),(.int .i64 fb)] 121)→
 ∃x6:Int,wv.cell? ((Addr.mk gv 0 none).add 1)=some (.int .i64 x6)∧
 split (decide ((x6:Int)<0)) (
  R (.int .i64 (-1)) wv) (
  ∃x9:Bool,wv.cell? ((Addr.mk gv 0 none).add 0)=some (.bool x9)∧
  split x9 (
   ∃JS:Int,wv.drew.cell? ((Addr.mk gv 0 none).add 1)=some (.int .i64 JS)∧
   aq m fun P1=>
   ∃JD:Int,wv.drew.cell? (P1.add 1)=some (.int .i64 JD)∧
   split (decide ((JS:Int)<JD)) (
    ∃La:Int,wv.drew.cell? ((Addr.mk gv 0 none).add 1)=some (.int .i64 La)∧
    R (.int .i64 La) wv.drew) (
    R (.int .i64 (-1)) wv.drew)) (
   ∃MM:Int,wv.drew.cell? ((Addr.mk gv 0 none).add 1)=some (.int .i64 MM)∧
   aq m fun PZ=>
   ∃K9:Option Addr,∃KV:Nat,∃K8:Nat,wv.drew.cell? (PZ.add 0)=some (.slice K9 KV K8)∧
   aq m fun p27=>
   ∃LY:Int,wv.drew.cell? (p27.add 1)=some (.int .i64 LY)∧
   split (decide ((MM:Int)<(i64.wrap (((KV:Nat):Int) - LY)))) (
    aq m fun UL=>
    ∃RH:Int,wv.drew.drew.cell? (UL.add 1)=some (.int .i64 RH)∧
    ∃x37:Int,wv.drew.drew.cell? ((Addr.mk gv 0 none).add 1)=some (.int .i64 x37)∧
    R (.int .i64 (i64.wrap (RH+x37))) wv.drew.drew) (
    R (.int .i64 (-1)) wv.drew)))
def vU:Ann:= .leaf
theorem R07Place_eq(m:Option Addr)(fa:Bool)(fb:Int)(R:ax)(w:World):nr m fa fb R w=vcF prog aJ [] Tryz.f87 vU [(.pointer m),(.agg #[(.bool fa),(.int .i64 fb)])] R none w:=by kernel_rfl
theorem pQ(m:Option Addr)(fa:Bool)(fb:Int) {R:ax} {w:World}(h:nr m fa fb R w):Calls prog 87 #[(.pointer m),(.agg #[(.bool fa),(.int .i64 fb)])] w fun e w'=>∃v,e= .returned v∧R v w':=
 aj Tryz.func87 ar aa ((R07Place_eq m fa fb R w).mp h)
def pN(m:Option Addr)(fa:Bool)(fb:Int)(R:ax)(w:World):Prop:=
 ∀(gv:Nat)(wv:World),gv=w.heap.size→wv=w.alloc (.cells #[(.bool fa),(.int .i64 fb)] 121)→
 ∃x7a:Bool,∃x7b:Int,(wv.cell? ((Addr.mk gv 0 none).add 0)=some (.bool x7a)∧wv.cell? ((Addr.mk gv 0 none).add 1)=some (.int .i64 x7b))∧
 Calls prog 87 #[(.pointer m),(.agg #[(.bool x7a),(.int .i64 x7b)])] wv fun e I2=>
 ∃x8:Int,e= .returned (.int .i64 x8)∧
 split (decide ((x8:Int)<0)) (
  R (.int .i64 5) I2) (
  aq m fun P1=>
  ∃JD:Int,I2.cell? (P1.add 2)=some (.int .i64 JD)∧
  aq m fun p17=>
  aI I2 (p17.add 2) [(.int .i64 (i64.wrap (JD+1024)))] fun I3=>
  aq m fun QA=>
  ∃NI:Option Addr,∃NH:Nat,∃O0:Nat,I3.cell? (QA.add 0)=some (.slice NI NH O0)∧
  (0≤(x8:Int)∧(x8:Int)<((NH:Nat):Int))∧
  aq NI fun UM=>
  aI I3 (UM.add (Int.toNat x8*1)) [(.slice none 0 0)] fun I5=>
  R (.int .i64 0) I5)
def xU:Ann:= .leaf
theorem R07Zero_eq(m:Option Addr)(fa:Bool)(fb:Int)(R:ax)(w:World):pN m fa fb R w=vcF prog aJ [] Tryz.f69 xU [(.pointer m),(.agg #[(.bool fa),(.int .i64 fb)])] R none w:=by kernel_rfl
theorem qA(m:Option Addr)(fa:Bool)(fb:Int) {R:ax} {w:World}(h:pN m fa fb R w):Calls prog 69 #[(.pointer m),(.agg #[(.bool fa),(.int .i64 fb)])] w fun e w'=>∃v,e= .returned v∧R v w':=
 aj Tryz.func69 ar aa ((R07Zero_eq m fa fb R w).mp h)
def l0(m:Option Addr)(R:ax)(w:World):Prop:=
 aq m fun p4=>
 ∃x6:Int,w.cell? (p4.add 1)=some (.int .i64 x6)∧
 R (.int .i64 x6) w
def ts:Ann:= .leaf
theorem R07Secure_eq(m:Option Addr)(R:ax)(w:World):l0 m R w=vcF prog aJ [] Tryz.f68 ts [(.pointer m)] R none w:=by kernel_rfl
theorem nF(m:Option Addr) {R:ax} {w:World}(h:l0 m R w):Calls prog 68 #[(.pointer m)] w fun e w'=>∃v,e= .returned v∧R v w':=
 aj Tryz.func68 ar aa ((R07Secure_eq m R w).mp h)
def nq(m:Option Addr)(fa:Bool)(fb:Int)(off:Int)(v:Int)(R:ax)(w:World):Prop:=
 ∀(gv:Nat)(wv:World),gv=w.heap.size→wv=w.alloc (.cells #[(.bool fa),(.int .i64 fb)] 121)→
 ∃Mb:Bool,∃Lx:Int,(wv.cell? ((Addr.mk gv 0 none).add 0)=some (.bool Mb)∧wv.cell? ((Addr.mk gv 0 none).add 1)=some (.int .i64 Lx))∧
 Calls prog 87 #[(.pointer m),(.agg #[(.bool Mb),(.int .i64 Lx)])] wv fun e I2=>
 ∃Jy:Int,e= .returned (.int .i64 Jy)∧
 split (decide ((Jy:Int)<0)) (
  R (.int .i64 5) I2) (
  ∃J:Bool→World→Prop,(
   split (decide ((off:Int)<0)) (
    J true I2) (
    J (decide ((off:Int)≥1024)) I2))∧∀(Ji:Nat→Value)(MM:Bool),∀I3,J MM I3→
  split MM (
   R (.int .i64 70) I3) (
   aq m fun PZ=>
   ∃ND:Int,I3.cell? (PZ.add 2)=some (.int .i64 ND)∧
   aq m fun Nl=>
   aI I3 (Nl.add 2) [(.int .i64 (i64.wrap (ND+1)))] fun I5=>
   aq m fun O5=>
   ∃RO:Option Addr,∃RN:Nat,∃Uv:Nat,I5.cell? (O5.add 0)=some (.slice RO RN Uv)∧
   (0≤(Jy:Int)∧(Jy:Int)<((RN:Nat):Int))∧
   aq RO fun UL=>
   ∃OV:Option Addr,∃NB:Nat,∃OU:Nat,I5.cell? (UL.add (Int.toNat Jy*1))=some (.slice OV NB OU)∧
   split ((((NB:Nat):Int):Int)==0) (
    ∃b:Nat→Nat→Prop,
    aq m fun p38=>
    b 3 ((p38.add 0).block)∧
    ∃Rn:Option Addr,∃Rm:Nat,∃Ul:Nat,I5.drew.cell? (p38.add 0)=some (.slice Rn Rm Ul)∧
    ∃Rc:Option Addr,∃Ra:Nat,∃Rb:Nat,∃Jh,(Instr.makeSlice 64 (.int .i64 1024) (.int .i64 1024):Sem Value).run prog I5.drew= .ok (.slice Rc Ra Rb) Jh∧
    Kept (cn b [0,1,2,3,4]) I5.drew Jh∧∃b1:Nat→Nat→Prop,(∀i k,b i k→b1 i k)∧
    (0≤(Jy:Int)∧(Jy:Int)<((Rm:Nat):Int))∧
    aq Rn fun p43=>
    aI Jh (p43.add (Int.toNat Jy*1)) [(.slice Rc Ra Rb)] fun Ju=>
    ∃b2:Nat→Nat→Prop,(∀i k,b1 i k→b2 i k)∧
    aq m fun SE=>
    ∃Ny:Option Addr,∃Nx:Nat,∃PW:Nat,Ju.cell? (SE.add 0)=some (.slice Ny Nx PW)∧
    (0≤(Jy:Int)∧(Jy:Int)<((Nx:Nat):Int))∧
    aq Ny fun SD=>
    ∃KO:Option Addr,∃Kb:Nat,∃Lu:Nat,Ju.cell? (SD.add (Int.toNat Jy*1))=some (.slice KO Kb Lu)∧
    (0≤(off:Int)∧(off:Int)<((Kb:Nat):Int))∧
    aq KO fun SC=>
    aI Ju (SC.add (Int.toNat off*1)) [(.int .u32 v)] fun Kf=>
    R (.int .i64 0) Kf) (
    aq m fun SE=>
    ∃Ny:Option Addr,∃Nx:Nat,∃PW:Nat,I5.cell? (SE.add 0)=some (.slice Ny Nx PW)∧
    (0≤(Jy:Int)∧(Jy:Int)<((Nx:Nat):Int))∧
    aq Ny fun SD=>
    ∃KO:Option Addr,∃Kb:Nat,∃Lu:Nat,I5.cell? (SD.add (Int.toNat Jy*1))=some (.slice KO Kb Lu)∧
    (0≤(off:Int)∧(off:Int)<((Kb:Nat):Int))∧
    aq KO fun SC=>
    aI I5 (SC.add (Int.toNat off*1)) [(.int .u32 v)] fun Jh=>
    R (.int .i64 0) Jh)))
def vS:Ann:=(.node none .leaf (.node none .leaf (.node none .leaf (.node none (.node none (.node (some ⟨[(20,.one (.bool))],[15,16,17,18,19,20]⟩) .leaf .leaf) .leaf) .leaf))))
theorem R07Write_eq(m:Option Addr)(fa:Bool)(fb:Int)(off:Int)(v:Int)(R:ax)(w:World):nq m fa fb off v R w=vcF prog aJ [] Tryz.f50 vS [(.pointer m),(.agg #[(.bool fa),(.int .i64 fb)]),(.int .i64 off),(.int .u32 v)] R none w:=by kernel_rfl
theorem pP(m:Option Addr)(fa:Bool)(fb:Int)(off:Int)(v:Int) {R:ax} {w:World}(h:nq m fa fb off v R w):Calls prog 50 #[(.pointer m),(.agg #[(.bool fa),(.int .i64 fb)]),(.int .i64 off),(.int .u32 v)] w fun e w'=>∃v,e= .returned v∧R v w':=
 aj Tryz.func50 ar aa ((R07Write_eq m fa fb off v R w).mp h)
end
end Go.Proofs.YtfgpafjlcgaimaaGreatDoor
namespace Go.Proofs.YtfgpafjlcgaimaaGreatDoor
open Go.Proofs.Tryz (prog)
open Go Go.RowKit V
open Go.IntKind (i64 u32 u64)
section
namespace Mem
def idx(m:Mem)(s:Bool)(p:Nat):Nat:=match s with
 | true=>p
 | false=>m.S+p
def word(m:Mem)(i o:Nat):Int:=if i<m.S then m.pg true i o else m.pg false (i - m.S) o
def place(m:Mem)(s:Bool)(p:Int):Int:=if m.has s p then(m.idx s p.toNat:Int)else -1
theorem yW(m:Mem)(p:Nat):m.idx false p=m.S+p:=rfl
theorem yV(m:Mem)(p:Nat):m.idx true p=p:=rfl
theorem Ik(m:Mem):m.cnt false=m.I:=rfl
theorem Gl(m:Mem):m.cnt true=m.S:=rfl
theorem si(m:Mem) {i:Nat}(h:i<m.S)(o:Nat):m.word i o=m.pg true i o:=if_pos h
theorem sj(m:Mem) {i:Nat}(h:¬i<m.S)(o:Nat):m.word i o=m.pg false (i - m.S) o:=if_neg h
theorem tU(m:Mem) {s:Bool} {p:Nat}(hp:p<m.cnt s)(o:Nat):m.word (m.idx s p) o=m.pg s p o:=by
 cases s
 ·rw [yW,sj m (by omega),show m.S+p - m.S=p by omega]
 ·rw [yV,si m hp]
theorem xx(m:Mem) {s:Bool} {p:Nat}(hp:p<m.cnt s):m.idx s p<m.S+m.I:=by
 cases s
 ·rw [Ik]at hp;rw [yW];omega
 ·rw [Gl]at hp;rw [yV];omega
theorem jK(m:Mem) {s:Bool} {p:Nat}(hp:p<m.cnt s)(f:Nat→Int) {i:Nat}(o:Nat):(m.fill s p f).word i o=if i=m.idx s p then f o else m.word i o:=by
 by_cases h:i<m.S
 ·rw [si _ (show i<(m.fill s p f).S from h),si m h]
  cases s
  ·rw [yW,if_neg (by omega)];simp [fill]
  ·rw [yV];simp [fill]
 ·rw [sj _ (show ¬i<(m.fill s p f).S from h),sj m h]
  show(m.fill s p f).pg false (i - m.S) o=_
  cases s
  ·rw [yW]
   by_cases h2:i=m.S+p
   ·rw [if_pos h2];simp [fill,h2]
   ·rw [if_neg h2];simp only [fill];rw [if_neg (by rintro⟨_,h3⟩;omega)]
  ·rw [yV,if_neg (by rw [Gl]at hp;omega)];simp [fill]
end Mem
structure et where
 g:Nat
 a:Nat
 c:Nat
 n:Nat
 pg:Nat→Option (Nat×Nat)
def EJ:Option (Nat×Nat)→Value
 | none=>.slice none 0 0
 | some (b,c)=>.slice (some (Addr.mk b 0 none)) 1024 c
def et.X(L:et):Nat→Prop:=fun k=>k=L.g∨k=L.a∨∃i c,i<L.n∧L.pg i=some (k,c)
def PgB(w:World)(b:Nat)(f:Nat→Int):Prop:=∃T cs,Blk w b cs T∧1024≤cs.size∧∀o,o<1024→cs[o]? =some (.int .u32 (f o))
structure bS(w:World)(g:Nat)(L:et)(m:Mem):Prop where
 gq:L.g=g
 n:L.n=m.S+m.I
 hd:∃T:TypeId×Int,Blk w L.g #[.slice (some (Addr.mk L.a 0 none)) L.n L.c,.int .i64 m.S,.int .i64 T.2] T.1
 row:∃T cs,Blk w L.a cs T∧L.n≤cs.size∧∀i,i<L.n→cs[i]? =some (EJ (L.pg i))
 nil:∀i,i<L.n→L.pg i=none→∀o,m.word i o=0
 pgs:∀i b c,i<L.n→L.pg i=some (b,c)→PgB w b (m.word i)
 inj:∀i j b c c',i<L.n→j<L.n→L.pg i=some (b,c)→L.pg j=some (b,c')→i=j
 dis:L.a≠L.g∧∀i b c,i<L.n→L.pg i=some (b,c)→b≠L.g∧b≠L.a
 u32:∀s i o,0≤m.pg s i o∧m.pg s i o<4294967296
 cF:m.S≤64∧m.I≤64
section
variable {w w' w2:World} {g:Nat} {L:et} {m:Mem} {Y:Nat→Prop}
theorem PgB.lt {b:Nat} {f:Nat→Int}(h:PgB w b f):b<w.heap.size:=by obtain⟨T,cs,hb,_⟩:=h;exact hb.lt
theorem PgB.ch {b:Nat} {f:Nat→Int}(h:PgB w b f)(hk:Ch Y w w')(hb:¬Y b):PgB w' b f:=by obtain⟨T,cs,hc,h2⟩:=h;exact⟨T,cs,hk.blk hc hb,h2⟩
theorem bS.lt(h:bS w g L m):∀k,L.X k→k<w.heap.size:=by
 rintro k (rfl | rfl | ⟨i,c,hi,hp⟩)
 ·obtain⟨T,hd⟩:=h.hd;exact hd.lt
 ·obtain⟨T,cs,hr,_⟩:=h.row;exact hr.lt
 ·exact(h.pgs i k c hi hp).lt
theorem bS.ch(h:bS w g L m)(hk:Ch Y w w')(hb:∀k,L.X k→¬Y k):bS w' g L m:=by
 refine⟨h.gq,h.n,?_,?_,h.nil,fun i b c hi hp=>(h.pgs i b c hi hp).ch hk (hb _ (.inr (.inr ⟨i,c,hi,hp⟩))),h.inj,h.dis,h.u32,h.cF⟩
 ·obtain⟨T,hd⟩:=h.hd;exact⟨T,hk.blk hd (hb _ (.inl rfl))⟩
 ·obtain⟨T,cs,hr,h2⟩:=h.row;exact⟨T,cs,hk.blk hr (hb _ (.inr (.inl rfl))),h2⟩
theorem bS.pu(h:bS w g L m)(hk:Pu w w'):bS w' g L m:=h.ch hk (by simp)
theorem bS.tick(h:bS w g L m) {x:Int} {T:TypeId}(hs:bm w L.g #[.slice (some (Addr.mk L.a 0 none)) L.n L.c,.int .i64 m.S,.int .i64 x] T w2):bS w2 g L m:=by
 refine⟨h.gq,h.n,⟨(T,x),hs.blk⟩,?_,h.nil,fun i b c hi hp=>(h.pgs i b c hi hp).ch hs.ch (h.dis.2 i b c hi hp).1,h.inj,h.dis,h.u32,h.cF⟩
 obtain⟨T',cs,hr,h2⟩:=h.row
 exact⟨T',cs,hs.old hr h.dis.1,h2⟩
def et.put(L:et)(i:Nat)(v:Option (Nat×Nat)):et:= {L with pg:=fun j=>if j=i then v else L.pg j}
theorem et.Gq {L:et} {i:Nat} {v:Option (Nat×Nat)} {k:Nat}(h:(L.put i v).X k):L.X k∨∃c,v=some (k,c):=by
 rcases h with h | h | ⟨j,c,hj,hp⟩
 ·exact .inl (.inl h)
 ·exact .inl (.inr (.inl h))
 ·simp only [et.put]at hp
  split at hp
  ·exact .inr ⟨c,hp⟩
  ·exact .inl (.inr (.inr ⟨j,c,hj,hp⟩))
theorem bS.lay(h:bS w g L m) {s:Bool} {p:Nat}(hp:p<m.cnt s) {v:Option (Nat×Nat)} {f:Nat→Int}(hf:∀o,0≤f o∧f o<4294967296)
 (hv:v=none→∀o,f o=0)(hb:∀b c,v=some (b,c)→PgB w b f∧¬L.X b) {cs:Array Value} {T:TypeId}(hr:Blk w L.a cs T)(hs:bm w L.a (setAt cs (m.idx s p) [EJ v]) T w2):
 bS w2 g (L.put (m.idx s p) v) (m.fill s p f):=by
 have hi:=m.xx hp
 obtain⟨T',cs',Jg,Js,h2⟩:=h.row
 obtain⟨rfl,rfl⟩:=hr.inj Jg
 have hn:=h.n
 refine⟨h.gq,h.n,?_,⟨T,_,hs.blk,by rw [dQ];exact Js,fun i Jv=>?_⟩,fun i Jv hq o=>?_,fun i b c Jv hq=>?_,fun i j b c c' Jv Mg h3 h4=>?_,⟨h.dis.1,fun i b c Jv hq=>?_⟩,fun s' i o=>?_,h.cF⟩
 ·obtain⟨T'',hd⟩:=h.hd;exact⟨T'',hs.old hd h.dis.1.symm⟩
 ·rw [dx _ _ _ _ (by simp;omega)]
  simp only [et.put,List.length_cons,List.length_nil]
  by_cases e:i=m.idx s p
  ·subst e;simp
  ·rw [if_neg (by omega),if_neg e];exact h2 i Jv
 ·rw [m.jK hp]
  simp only [et.put]at hq
  split at hq
  ·rename_i e;rw [if_pos e];exact hv hq o
  ·rename_i e;rw [if_neg e];exact h.nil i Jv hq o
 ·have e0:(m.fill s p f).word i=if i=m.idx s p then f else m.word i:=by
   funext o;rw [m.jK hp];split<;>rfl
  rw [e0]
  simp only [et.put]at hq
  split at hq
  ·rename_i e;rw [if_pos e];exact(hb b c hq).1.ch hs.ch fun e2=>(hb b c hq).2 (.inr (.inl e2))
  ·rename_i e;rw [if_neg e];exact(h.pgs i b c Jv hq).ch hs.ch (h.dis.2 i b c Jv hq).2
 ·simp only [et.put]at h3 h4
  split at h3<;>split at h4
  ·omega
  ·exact absurd (.inr (.inr ⟨j,c',Mg,h4⟩)) (hb b c h3).2
  ·exact absurd (.inr (.inr ⟨i,c,Jv,h3⟩)) (hb b c' h4).2
  ·exact h.inj i j b c c' Jv Mg h3 h4
 ·simp only [et.put]at hq
  split at hq
  ·have:=(hb b c hq).2
   exact⟨fun e=>this (.inl e),fun e=>this (.inr (.inl e))⟩
  ·exact h.dis.2 i b c Jv hq
 ·simp only [Mem.fill]
  split
  ·exact hf o
  ·exact h.u32 s' i o
theorem bS.II(h:bS w g L m) {s:Bool} {p:Nat}(hp:p<m.cnt s) {b c:Nat}(hb:L.pg (m.idx s p)=some (b,c)) {f:Nat→Int}(hf:∀o,0≤f o∧f o<4294967296) {cs:Array Value} {T:TypeId}(Js:1024≤cs.size)(hc:∀o,o<1024→cs[o]? =some (.int .u32 (f o)))
 (hs:bm w b cs T w2):bS w2 g L (m.fill s p f):=by
 have hi:=m.xx hp
 have hn:=h.n
 have hd':=h.dis.2 _ b c (by omega) hb
 refine⟨h.gq,h.n,?_,?_,fun i Jv hq o=>?_,fun i b' c' Jv hq=>?_,h.inj,h.dis,fun s' i o=>?_,h.cF⟩
 ·obtain⟨T'',hd⟩:=h.hd;exact⟨T'',hs.old hd hd'.1.symm⟩
 ·obtain⟨T',cs',hr,h2⟩:=h.row;exact⟨T',cs',hs.old hr hd'.2.symm,h2⟩
 ·rw [m.jK hp]
  by_cases e:i=m.idx s p
  ·subst e;rw [hb]at hq;cases hq
  ·rw [if_neg e];exact h.nil i Jv hq o
 ·have e0:(m.fill s p f).word i=if i=m.idx s p then f else m.word i:=by
   funext o;rw [m.jK hp];split<;>rfl
  rw [e0]
  by_cases e:i=m.idx s p
  ·subst e
   rw [hb]at hq
   injection hq with hq
   injection hq with hq1 Oh
   subst hq1
   rw [if_pos rfl];exact⟨T,cs,hs.blk,Js,hc⟩
  ·rw [if_neg e]
   exact(h.pgs i b' c' Jv hq).ch hs.ch fun e2=>e (h.inj i _ b' c' c Jv (by omega) hq (e2▸hb))
 ·simp only [Mem.fill]
  split
  ·exact hf o
  ·exact h.u32 s' i o
end
end
section
set_option maxRecDepth 10000
set_option maxHeartbeats 1000000
theorem zR {g:Nat} {L:et} {m:Mem} {w:World}(h:bS w g L m):
 Calls prog 68 #[(.pointer (some (Addr.mk g 0 none)))] w fun e w'=>∃v,e= .returned v∧v= .int .i64 m.S∧w'=w:=by
 refine nF (some (Addr.mk g 0 none)) ?_
 obtain⟨_,dhd_h⟩:=(by have h9:=h.hd;rwa [h.gq]at h9:∃T:TypeId×Int,Blk _ _ #[_,_,.int .i64 T.2] T.1)
 refine ai _ rfl ⟨_,dhd_h.at rfl,?_⟩
 exact⟨rfl,rfl⟩
theorem ui {g:Nat} {L:et} {m:Mem} {w:World}(h:bS w g L m)(fa:Bool)(fb:Int):
 Calls prog 87 #[(.pointer (some (Addr.mk g 0 none))),(.agg #[(.bool fa),(.int .i64 fb)])] w fun e w'=>∃v,e= .returned v∧v= .int .i64 (m.place fa fb)∧Pu w w':=by
 refine pQ (some (Addr.mk g 0 none)) _ _ ?_
 have h1:=h.n
 have h2:=h.cF
 have hp:=Ch.refl (fun _=>False) w
 have JY:=h.lt
 refine mkd fun gv wv I7=>?_
 have I0:=I7.blk
 refine⟨_,I0.at rfl,?_⟩
 refine aB (fun c1=>?_) (fun c1=>?_)
 ·have hp:=Ch.made hp I7
  exact⟨congrArg (Value.int .i64) (by unfold Mem.place Mem.has Mem.cnt Mem.idx;cases fa<;>simp_all [IntKind.wrap_i64]<;>omega),hp⟩
 ·refine⟨_,I0.at rfl,?_⟩
  refine ae (fun c2=>?_) (fun c2=>?_)
  ·have I0:=Blk.drew I0
   have h:=(h.pu I7.pu).pu (Pu.cu _)
   obtain⟨_,dhd_h⟩:=(by have h9:=h.hd;rwa [h.gq]at h9:∃T:TypeId×Int,Blk _ _ #[_,_,.int .i64 T.2] T.1)
   refine⟨_,I0.at rfl,ai _ rfl ⟨_,dhd_h.at rfl,?_⟩⟩
   refine aB (fun c3=>?_) (fun c3=>?_)
   ·refine⟨_,I0.at rfl,?_⟩
    have hp:=Ch.drew (Ch.made hp I7)
    exact⟨congrArg (Value.int .i64) (by unfold Mem.place Mem.has Mem.cnt Mem.idx;cases fa<;>simp_all [IntKind.wrap_i64]<;>omega),hp⟩
   ·have hp:=Ch.drew (Ch.made hp I7)
    exact⟨congrArg (Value.int .i64) (by unfold Mem.place Mem.has Mem.cnt Mem.idx;cases fa<;>simp_all [IntKind.wrap_i64]<;>omega),hp⟩
  ·have I0:=Blk.drew I0
   have h:=(h.pu I7.pu).pu (Pu.cu _)
   obtain⟨_,dhd_h⟩:=(by have h9:=h.hd;rwa [h.gq]at h9:∃T:TypeId×Int,Blk _ _ #[_,_,.int .i64 T.2] T.1)
   refine⟨_,I0.at rfl,ai _ rfl ⟨_,_,_,dhd_h.at rfl,ai _ rfl ⟨_,dhd_h.at rfl,?_⟩⟩⟩
   refine aB (fun c4=>?_) (fun c4=>?_)
   ·refine ai _ rfl ?_
    have dhd_h:=Blk.drew dhd_h
    have I0:=Blk.drew I0
    refine⟨_,dhd_h.at rfl,⟨_,I0.at rfl,?_⟩⟩
    have hp:=Ch.drew (Ch.drew (Ch.made hp I7))
    exact⟨congrArg (Value.int .i64) (by unfold Mem.place Mem.has Mem.cnt Mem.idx;cases fa<;>simp_all [IntKind.wrap_i64]<;>omega),hp⟩
   ·have hp:=Ch.drew (Ch.made hp I7)
    exact⟨congrArg (Value.int .i64) (by unfold Mem.place Mem.has Mem.cnt Mem.idx;cases fa<;>simp_all [IntKind.wrap_i64]<;>omega),hp⟩
end
section
section
variable {w:World} {g:Nat} {L:et} {m:Mem}
theorem qY {s:Bool} {p:Int}:(m.place s p<0)↔m.has s p=false:=by
 unfold Mem.place
 cases h:m.has s p
 ·simp
 ·simp
theorem qX {s:Bool} {p:Int}(h:m.has s p=true):m.place s p=(m.idx s p.toNat:Int):=by unfold Mem.place;rw [if_pos h]
theorem bS.slot(h:bS w g L m) {s:Bool} {p:Nat}(hp:p<m.cnt s):∃T cs,Blk w L.a cs T∧L.n≤cs.size∧m.idx s p<L.n∧cs[m.idx s p]? =some (EJ (L.pg (m.idx s p))):=by
 obtain⟨T,cs,hr,Js,h2⟩:=h.row
 have hi:=m.xx hp
 have hn:=h.n
 exact⟨T,cs,hr,Js,by omega,h2 _ (by omega)⟩
def qC(L L1:et)(w:World):Prop:=∀k,L1.X k→L.X k∨w.heap.size≤k
theorem qC.refl(L:et)(w:World):qC L L w:=fun _ h=>.inl h
theorem EI(h:bS w g L m)(s:Bool)(p:Int):
 Calls prog 69 #[ptr g,fr s p] w fun e w'=>∃u,e= .returned u∧∃L1,u= .int .i64 (m.bJ s p)∧bS w' g L1 (m.zero s p)∧qC L L1 w∧Ch L.X w w':=by
 refine qA _ s p ?_
 refine mkd fun g1 w1 m1=>?_
 refine⟨_,_,⟨m1.blk.at rfl,m1.blk.at rfl⟩,(ui (h.pu m1.pu) s p).mono ?_⟩
 rintro e w2 ⟨_,rfl,rfl,q2⟩
 have p2:Ch L.X w w2:=((Ch.refl L.X w).made m1).pu q2
 have h2:=(h.pu m1.pu).pu q2
 have hg:=h2.gq
 subst hg
 refine⟨_,rfl,?_⟩
 cases hh:m.has s p with
 | false=>
  refine ae (fun _=>⟨L,by simp [Mem.bJ,hh],by simpa [Mem.zero,hh]using h2,qC.refl _ _,p2⟩) (fun hb=>by simp [qY,hh]at hb)
 | true=>
  have hn:=Mem.cy hh
  have hpl:=qX hh
  have ei:(m.place s p).toNat=m.idx s p.toNat:=by omega
  refine ae (fun hb=>?_) (fun _=>?_)
  ·have:m.place s p<0:=by simpa using hb
   omega
  obtain⟨T,hd⟩:=h2.hd
  refine ai _ rfl ⟨_,hd.at rfl,ai _ rfl (bV hd (by simp) fun w3 s3=>?_)⟩
  have h3:bS w3 L.g L (m.tick 1024):=h2.tick s3
  obtain⟨T',hd'⟩:=h3.hd
  obtain⟨T2,cs,hr,Js,hi,hc⟩:=h3.slot (s:=s) (p:=p.toNat) (by simpa using hn)
  have Jv:m.idx s p.toNat<L.n:=hi
  refine ai _ rfl ⟨_,_,_,hd'.at rfl,by omega,ai _ rfl ?_⟩
  rw [Nat.mul_one,ei]
  refine bV hr (by simp;omega) fun w4 s4=>?_
  have h4:=h3.lay (s:=s) (p:=p.toNat) (v:=none) (f:=fun _=>0) (by simpa using hn) (fun _=>by omega) (fun _ _=>rfl) (fun b c e=>by cases e) hr s4
  refine⟨L.put (m.idx s p.toNat) none,by simp [Mem.bJ,hh],?_,fun k hk=>.inl ((et.Gq (v:=none) hk).elim id fun⟨c,h⟩=>by cases h),(p2.stored s3 (.inl (.inl rfl))).stored s4 (.inl (.inr (.inl rfl)))⟩
  simp only [Mem.zero,hh,if_true]
  exact h4
theorem EA:S1 prog 74 64 (.slice none 0 0) 24:=S1.of (by kernel_rfl) (by kernel_rfl) rfl
theorem Ce(h:bS w g L m)(s:Bool)(p o v:Int)(hv:0≤v∧v<4294967296):
 Calls prog 50 #[ptr g,fr s p,.int .i64 o,.int .u32 v] w fun e w'=>∃u,e= .returned u∧∃L1,u= .int .i64 (m.err s p o)∧bS w' g L1 (m.write s p o v)∧qC L L1 w∧Ch L.X w w':=by
 refine pP _ s p o v ?_
 refine mkd fun g1 w1 m1=>?_
 refine⟨_,_,⟨m1.blk.at rfl,m1.blk.at rfl⟩,(ui (h.pu m1.pu) s p).mono ?_⟩
 rintro e w2 ⟨_,rfl,rfl,q2⟩
 have p2:Ch L.X w w2:=((Ch.refl L.X w).made m1).pu q2
 have h2:=(h.pu m1.pu).pu q2
 have hg:=h2.gq
 subst hg
 refine⟨_,rfl,?_⟩
 cases hh:m.has s p with
 | false=>
  refine ae (fun _=>⟨L,by simp [Mem.err,hh],by simpa [Mem.write,hh]using h2,qC.refl _ _,p2⟩) (fun hb=>by simp [qY,hh]at hb)
 | true=>
  have hn:=Mem.cy hh
  have hpl:=qX hh
  have ei:(m.place s p).toNat=m.idx s p.toNat:=by omega
  refine ae (fun hb=>?_) (fun _=>?_)
  ·have:m.place s p<0:=by simpa using hb
   omega
  refine⟨fun b w'=>w2=w'∧b= !(Mem.b9 o),ae (fun hb=>⟨rfl,?_⟩) (fun hb=>⟨rfl,?_⟩),?_⟩
  ·simp at hb;simp [Mem.b9];omega
  ·simp at hb;simp only [Mem.b9,ge_iff_le];rw [Bool.eq_iff_iff];simp;omega
  rintro _ x _ ⟨rfl,rfl⟩
  refine aY (fun ho=>?_) (fun ho=>?_)
  ·exact⟨L,by simp [Mem.err,hh,ho],by simpa [Mem.write,hh,ho]using h2,qC.refl _ _,p2⟩
  have MT:=Mem.eC ho
  obtain⟨T,hd⟩:=h2.hd
  refine ai _ rfl ⟨_,hd.at rfl,ai _ rfl (bV hd (by simp) fun w3 s3=>?_)⟩
  have h3:=h2.tick s3
  have p3:Ch L.X w w3:=p2.stored s3 (.inl (.inl rfl))
  have P9:p.toNat<(m.tick 1).cnt s:=by simpa using hn
  have Ns:bS w3 L.g L (m.tick 1):=h3
  obtain⟨T',hd'⟩:=Ns.hd
  obtain⟨T2,cs,hr,Js,hi,hc⟩:=Ns.slot P9
  have ei':(m.place s p).toNat=(m.tick 1).idx s p.toNat:=ei
  have hpl':m.place s p=((m.tick 1).idx s p.toNat:Int):=hpl
  refine ai _ rfl ⟨_,_,_,hd'.at rfl,by omega,ai _ rfl ?_⟩
  have fin:∀(L1:et)(w5:World)(b c:Nat),bS w5 L.g L1 (m.tick 1)→qC L L1 w→Ch L.X w w5→L1.pg ((m.tick 1).idx s p.toNat)=some (b,c)→
   aq (some (Addr.mk L.g 0 none)) fun SE=>
   ∃(A:Option Addr)(N C:Nat),w5.cell? (SE.add 0)=some (.slice A N C)∧
   (0≤(m.place s p:Int)∧(m.place s p:Int)<((N:Nat):Int))∧
   aq A fun SD=>
   ∃(A2:Option Addr)(N2 C2:Nat),w5.cell? (SD.add (Int.toNat (m.place s p)*1))=some (.slice A2 N2 C2)∧
   (0≤(o:Int)∧(o:Int)<((N2:Nat):Int))∧
   aq A2 fun SC=>
   aI w5 (SC.add (Int.toNat o*1)) [(.int .u32 v)] fun Kf=>
   ∃L1,Value.int .i64 0= .int .i64 (m.err s p o)∧bS Kf L.g L1 (m.write s p o v)∧qC L L1 w∧Ch L.X w Kf:=by
   intro L1 w5 b c h5 hgr Ug KF
   obtain⟨T5,hd5⟩:=h5.hd
   have hg5:=h5.gq
   obtain⟨T6,cs6,hr6,hsz6,hi6,hc6⟩:=h5.slot P9
   rw [KF]at hc6
   obtain⟨T7,cs7,hb7,UY,hw7⟩:=h5.pgs _ b c hi6 KF
   rw [hg5]at hd5
   refine ai _ rfl ⟨_,_,_,hd5.at rfl,by omega,ai _ rfl ⟨some (Addr.mk b 0 none),1024,c,by rw [Nat.mul_one,ei'];exact hr6.at hc6,by omega,ai _ rfl ?_⟩⟩
   rw [Nat.mul_one]
   refine bV hb7 (by simp;omega) fun w6 s6=>?_
   have hX:L1.X b:= .inr (.inr ⟨_,c,hi6,KF⟩)
   refine⟨L1,by simp [Mem.err,hh,ho],?_,hgr,Ug.stored s6 (hgr b hX)⟩
   have:=h5.II (s:=s) (p:=p.toNat) (f:=fun o'=>if o'=o.toNat then v else m.pg s p.toNat o') P9 KF (fun o'=>by split;exact hv;exact h.u32 _ _ _) (cs:=setAt cs7 o.toNat [.int .u32 v]) (by rw [dQ];exact UY) (fun o' SZ=>?_) s6
   ·simp only [Mem.write,hh,ho,Bool.and_self,if_true];exact this
   ·rw [dx _ _ _ _ (by simp;omega)]
    simp only [List.length_cons,List.length_nil]
    by_cases e:o'=o.toNat
    ·rw [if_pos (by omega),if_pos e];simp [e]
    ·rw [if_neg (by omega),if_neg e,hw7 o' SZ,Mem.tU _ P9];rfl
  cases MR:L.pg ((m.tick 1).idx s p.toNat)with
  | some bc=>
   obtain⟨b,c⟩:=bc
   rw [MR]at hc
   refine⟨some (Addr.mk b 0 none),1024,c,by rw [Nat.mul_one,ei'];exact hr.at hc,ae (fun hb=>by simp at hb) (fun _=>?_)⟩
   exact fin L w3 b c Ns (qC.refl _ _) p3 MR
  | none=>
   rw [MR]at hc
   refine⟨none,0,0,by rw [Nat.mul_one,ei'];exact hr.at hc,ae (fun _=>?_) (fun hb=>by simp at hb)⟩
   have hLX:∀k,L.X k→k<w3.heap.size:=Ns.lt
   refine⟨fun _ k=>k=L.g,ai _ rfl ⟨block_add _ _,_,_,_,hd'.drew.at rfl,?_⟩⟩
   refine jT (P:=prog) qR (by omega) (by omega) (by omega) fun b w4 m4=>?_
   have p4:Ch L.X w w4:=p3.drew.made m4
   have h4:=(Ns.pu (Pu.cu w3)).pu m4.pu
   refine⟨m4.kept.mono fun k hk=>(show k=L.g by simpa [cn]using hk)▸hLX _ (.inl rfl),fun _ k=>k=L.g,fun _ _ h=>h,by omega,ai _ rfl ?_⟩
   obtain⟨T8,cs8,hr8,hsz8,hi8,hc8⟩:=h4.slot P9
   refine bV hr8 (by simp;omega) fun w5 s5=>?_
   rw [Nat.mul_one,ei']at s5
   have hbn:¬L.X b:=fun hx=>by have:=hLX b hx;have h9:=m4.num;have h10:w3.drew.heap.size=w3.heap.size:=rfl;omega
   have h5:=h4.lay (s:=s) (p:=p.toNat) (v:=some (b,1024)) (f:=(m.tick 1).pg s p.toNat) P9 (fun o=>h4.u32 _ _ _) (fun e=>by cases e)
    (fun b' c' e=>by
     injection e with e;injection e with e1 e2;subst e1
     refine⟨⟨_,_,m4.blk,by rw [Array.size_replicate];omega,fun o' SZ=>?_⟩,hbn⟩
     have:=h4.nil _ hi8 MR o'
     rw [Mem.tU _ P9]at this
     rw [this,Array.getElem?_replicate,if_pos (by omega)]) hr8 s5
   have To:(m.tick 1).fill s p.toNat ((m.tick 1).pg s p.toNat)=m.tick 1:=by
    simp only [Mem.fill,Mem.tick];congr 1;funext s' p' o';split
    ·rename_i e;rw [e.1,e.2]
    ·rfl
   rw [To]at h5
   refine⟨fun _ k=>k=L.g,fun _ _ h=>h,?_⟩
   refine fin _ w5 b 1024 h5 (fun k hk=>?_) (p4.stored s5 (.inl (.inr (.inl rfl)))) (by simp [et.put])
   rcases et.Gq hk with h6 | ⟨c6,h6⟩
   ·exact .inl h6
   ·injection h6 with h6;injection h6 with h6 _;subst h6
    right
    have:=m4.num;have h9:=p3.size;rw [this];exact h9
theorem GQ(s i:Int)(hs:1≤s∧s≤64)(hi:1≤i∧i≤64):
 Calls prog 34 #[.int .i64 s,.int .i64 i] w fun e w'=>∃v,e= .returned v∧∃g L,v= .tuple #[ptr g,.int .i64 0]∧bS w' g L (Mem.fresh s.toNat i.toNat)∧(∀k,L.X k→w.heap.size≤k)∧Pu w w':=by
 refine tu s i ?_
 refine⟨fun b w'=>w=w'∧b=false,?_,?_⟩
 ·refine ae (fun hb=>by simp at hb;omega) (fun _=>ae (fun hb=>by simp at hb;omega) (fun _=>ae (fun hb=>by simp at hb;omega) (fun _=>⟨rfl,by simp;omega⟩)))
 rintro _ x _ ⟨rfl,rfl⟩
 refine iB ?_
 obtain⟨S,rfl⟩:=Int.eq_ofNat_of_zero_le (show 0≤s by omega)
 obtain⟨I,rfl⟩:=Int.eq_ofNat_of_zero_le (show 0≤i by omega)
 refine mkd fun gv w1 m1=>?_
 rintro _ rfl
 have UZ:SN prog 74 64 (.slice none 0 0) 1 24:=EA.sn
 refine⟨fun k x W=>∃(j:Nat)(A:Option Addr)(c:Nat),k=S+I - j∧x=(j:Int)∧j≤S+I∧dK W (fun k=>w.heap.size≤k∧k≠gv) 64 1 A j c (List.replicate j (.slice none 0 0))∧(∃T,Blk W gv #[.slice A j c,.int .i64 S,.int .i64 0] T)∧Pu w W,
  ⟨_,0,none,0,rfl,rfl,by omega,dK.nil,⟨_,m1.blk⟩,m1.pu⟩,?_⟩
 rintro _ _ _ w2 ⟨j,A,c,rfl,rfl,hj,ho,⟨T,hb⟩,hp⟩
 rw [ak (x:=(S:Int)+(I:Int)) (by omega)]
 refine aB (fun c1=>?_) (fun c1=>?_)
 ·refine⟨_,_,_,hb.at rfl,?_⟩
  refine mkd fun g3 w3 m3=>?_
  have hgv:gv<w2.heap.size:=hb.lt
  refine xI UZ (ho.pu m3.pu) (news:= [.slice none 0 0]) (m:=1) rfl (fun q u hu=>by
   match q with
   | 0=>simp at hu;subst hu;exact m3.blk.at rfl
   | q+1=>simp at hu) (by simp [Value.oneCell']) (by omega) (by omega) fun A' c' w4 ho4 q4=>?_
  have hlo:=m1.lo (Ch.refl (fun _=>False) w)
  have Pz:Pu w w4:=(hp.made m3).call q4 fun k ⟨b,hA,hk⟩=>.inr (by have:=ho.2 b hA;omega)
  have VC:Blk w4 gv #[.slice A j c,.int .i64 S,.int .i64 0] T:=q4.blk (m3.old hb) fun⟨b,hA,hk⟩=>(ho.2 b hA).2 hk
  refine bV VC (by simp) fun w5 s5=>?_
  rintro _ rfl
  have hm3:=m3.num
  refine⟨S+I - (j+1),by omega,j+1,A',c',rfl,by rw [ak (by omega)];omega,by omega,?_,⟨T,s5.blk⟩,Pz.stored s5 (.inr hlo)⟩
  have h6:dK w4 (fun k=>w.heap.size≤k∧k≠gv) 64 1 A' (j+1) c' (List.replicate (j+1) (.slice none 0 0)):=by
   rw [List.replicate_succ']
   exact ho4.mono fun k hk=>hk.elim id fun e=>by subst e;have:=hp.size;have:=m3.size;omega
  exact h6.ch s5.ch fun k hk e=>hk.2 e
 ·have:j=S+I:=by omega
  subst this
  obtain⟨g0,cur,hA,hZ,hbk,Js,ht⟩:=ho.blk (by omega)
  subst hA
  have hg0:g0<w2.heap.size:=hbk.lt
  refine⟨gv,⟨gv,g0,c,S+I,fun _=>none⟩,rfl,⟨rfl,rfl,⟨(T,_),hb⟩,⟨_,cur,hbk,by rw [Nat.mul_one]at Js;exact Js,fun q hq=>?_⟩,fun q hq _ o=>(by unfold Mem.word;split<;>rfl),fun q b c hq h=>(by cases h),fun q j b c c' hq hj h=>(by cases h),⟨hZ.2,fun q b c hq h=>(by cases h)⟩,fun _ _ _=>by simp [Mem.fresh],by simp [Mem.fresh];omega⟩,?_,hp⟩
  ·have h7:(cur.toList.take ((S+I)*1))[q]? =some (.slice none 0 0):=by
    have SV:q<S+I:=hq
    rw [ht,List.getElem?_replicate,if_pos SV]
   rw [List.getElem?_take]at h7
   split at h7
   ·simpa [EJ]using h7
   ·cases h7
  ·rintro k (rfl | rfl | ⟨q,c',_,hq⟩)
   ·exact m1.lo (Ch.refl (fun _=>False) w)
   ·exact hZ.1
   ·cases hq
end
end
end Go.Proofs.YtfgpafjlcgaimaaGreatDoor
namespace Go.Proofs.YtfgpafjlcgaimaaGreatDoor
open Go.Proofs.Tryz (prog)
open Go Go.RowKit V
open Go.IntKind (i64 u32 u64)
open Enc (enc)
section
instance:Enc Ent:=⟨fun e=>[.int .i64 e.typ,.int .i64 e.owner,.int .i64 e.refs,.int .i64 e.state,.bool e.aS],5,fun _=>rfl,by simp [Value.oneCell'],by omega⟩
structure pG where
 g:Nat
 e:Nat
 c:Nat
 M:et
def pG.X(L:pG):Nat→Prop:=fun k=>k=L.g∨k=L.e∨L.M.X k
abbrev DB.ao(D:DB):List Ent:=(List.range D.S).map D.ent
structure jd(w:World)(g:Nat)(L:pG)(D:DB):Prop where
 gq:L.g=g
 hd:∃T,Blk w L.g #[.pointer (some (Addr.mk L.M.g 0 none)),.slice (some (Addr.mk L.e 0 none)) D.S L.c,.int .i64 D.au] T
 es:Own w (fun k=>k=L.e) 159 (some (Addr.mk L.e 0 none)) D.S L.c D.ao
 mem:bS w L.M.g L.M D.mem
 ok:D.Ok
 pos:1≤D.S
 dis:L.e≠L.g∧¬L.M.X L.g∧¬L.M.X L.e
section
variable {w w' w2:World} {g:Nat} {L:pG} {D:DB} {Y:Nat→Prop}
theorem jd.hd'(h:jd w g L D):∃T,Blk w g #[.pointer (some (Addr.mk L.M.g 0 none)),.slice (some (Addr.mk L.e 0 none)) D.S L.c,.int .i64 D.au] T:=h.gq▸h.hd
theorem jd.lt(h:jd w g L D):∀k,L.X k→k<w.heap.size:=by
 rintro k (rfl | rfl | hk)
 ·obtain⟨T,hd⟩:=h.hd;exact hd.lt
 ·obtain⟨g',hA,hZ,hl⟩:=h.es.lt h.pos
  have:g'=L.e:=hZ
  omega
 ·exact h.mem.lt k hk
theorem jd.ch(h:jd w g L D)(hk:Ch Y w w')(hb:∀k,L.X k→¬Y k):jd w' g L D:=by
 refine⟨h.gq,?_,h.es.ch hk fun k e=>hb k (.inr (.inl e)),h.mem.ch hk fun k hx=>hb k (.inr (.inr hx)),h.ok,h.pos,h.dis⟩
 obtain⟨T,hd⟩:=h.hd;exact⟨T,hk.blk hd (hb _ (.inl rfl))⟩
theorem jd.pu(h:jd w g L D)(hk:Pu w w'):jd w' g L D:=h.ch hk (by simp)
theorem jd.S64(h:jd w g L D):D.S≤64:=h.mem.cF.1
theorem pG.inM(L:pG)(k:Nat)(h:L.M.X k):L.X k:= .inr (.inr h)
theorem jd.fq(h:jd w g L D) {m:Mem} {M:et}(hm:bS w' L.M.g M m)(hc:Ch L.M.X w w')(hg:∀k,M.X k→L.M.X k∨w.heap.size≤k)(hs:m.S=D.mem.S):jd w' g {L with M:=M} (D.aT m)∧(∀k,pG.X {L with M:=M} k→L.X k∨w.heap.size≤k):=by
 have hn:∀k,L.X k→¬L.M.X k→¬M.X k:=fun k hk hx hm'=>(hg k hm').elim hx fun h'=>absurd (h.lt k hk) (Nat.not_lt.2 h')
 have KG:DB.ao (D.aT m)=D.ao:=by show List.map D.ent (List.range m.S)=List.map D.ent (List.range D.mem.S);rw [hs]
 have hS:DB.S (D.aT m)=D.S:=hs
 refine⟨⟨h.gq,?_,?_,?_,⟨fun p hp=>?_,h.ok.au⟩,by rw [hS];exact h.pos,⟨h.dis.1,hn _ (.inl rfl) h.dis.2.1,hn _ (.inr (.inl rfl)) h.dis.2.2⟩⟩,?_⟩
 ·obtain⟨T,hd⟩:=h.hd
  refine⟨T,?_⟩
  rw [hS]
  show Blk w' L.g #[.pointer (some (Addr.mk M.g 0 none)),_,_] T
  rw [hm.gq]
  exact hc.blk hd h.dis.2.1
 ·rw [KG,hS]
  exact h.es.ch hc fun k e=>e▸h.dis.2.2
 ·show bS w' M.g M m
  have:=hm.gq
  rw [this];exact hm
 ·rw [hS]at hp ⊢
  exact h.ok.ent p hp
 ·rintro k (hk | hk | hk)
  ·exact .inl (.inl hk)
  ·exact .inl (.inr (.inl hk))
  ·exact(hg k hk).imp (fun h=>.inr (.inr h)) id
theorem jd.zK(h:jd w g L D) {x:Int} {T:TypeId}(hs:bm w g #[.pointer (some (Addr.mk L.M.g 0 none)),.slice (some (Addr.mk L.e 0 none)) D.S L.c,.int .i64 x] T w2)(hx:0≤x∧x≤64):jd w2 g L (D.eh x):=by
 have hg:=h.gq
 subst hg
 exact⟨rfl,⟨T,hs.blk⟩,h.es.ch hs.ch fun k e e2=>h.dis.1 (by rw [← e,e2]),h.mem.ch hs.ch fun k hk e=>h.dis.2.1 (e▸hk),⟨h.ok.ent,hx⟩,h.pos,h.dis⟩
theorem DB.uW(D:DB) {p:Int}(e:Ent):(D.set p e).ao=D.ao.set p.toNat e:=by
 apply List.ext_getElem?
 intro i
 show((List.range D.S).map (D.set p e).ent)[i]? =_
 rw [List.getElem?_set,List.getElem?_map,List.getElem?_map]
 by_cases hi:i<D.S
 ·rw [List.getElem?_range hi]
  simp only [DB.set,Option.map_some]
  by_cases h2:p.toNat=i
  ·rw [if_pos h2.symm,if_pos h2,if_pos (by simp;omega)]
  ·rw [if_neg (fun e=>h2 e.symm),if_neg h2]
 ·rw [List.getElem?_eq_none (by simp;omega)]
  simp;omega
end
end
section
structure Fl where
 rs:List U32
 pc:Int
 z:Bool
 n:Bool
 l:Bool
namespace Fl
def Ok(s:Fl):Prop:=s.rs.length=15
def qj(s:Fl)(i:Nat)(x:U32):Fl:= {s with rs:=List.set s.rs i x}
def zero:Fl:=⟨[U32.mk 0,U32.mk 0,U32.mk 0,U32.mk 0,U32.mk 0,U32.mk 0,U32.mk 0,U32.mk 0,U32.mk 0,U32.mk 0,U32.mk 0,U32.mk 0,U32.mk 0,U32.mk 0,U32.mk 0],0,false,false,false⟩
def norm(s:Fl):Fl:= {s with rs:=aD (fun j=>U32.mk (s.rs.getD j (U32.mk 0)).v) (upN 0 15)}
theorem norm_eq {s:Fl}(h:s.Ok):s.norm=s:=by
 obtain⟨rs,pc,z,n,l⟩:=s
 match rs,h with
 | [_,_,_,_,_,_,_,_,_,_,_,_,_,_,_],_=>rfl
theorem EP(s:Fl):s.norm.Ok:=rfl
def words(s:Fl):List Value:=aD (fun j=>.int .u32 (s.rs.getD j (U32.mk 0)).v) (upN 0 15)
def cells(s:Fl):List Value:=s.words++ [.int .u32 s.pc,.bool s.z,.bool s.n,.bool s.l]
theorem words_eq {s:Fl}(h:s.Ok):s.words=s.rs.map fun x=>.int .u32 x.v:=by
 obtain⟨rs,pc,z,n,l⟩:=s
 match rs,h with
 | [_,_,_,_,_,_,_,_,_,_,_,_,_,_,_],_=>rfl
theorem mf(s:Fl):s.words.length=15:=rfl
theorem Ah {s:Fl}(h:s.Ok) {i:Nat} {x:U32}(hx:s.rs[i]? =some x):s.cells[i]? =some (.int .u32 x.v):=by
 have hi:i<15:=by have:=(List.getElem?_eq_some_iff.1 hx).1;rw [h]at this;exact this
 rw [cells,List.getElem?_append_left (by rw [mf];exact hi),words_eq h,List.getElem?_map,hx];rfl
theorem Ag {s:Fl}(h:s.Ok) {i:Nat}(hi:i<15)(x:U32):(s.qj i x).cells=s.cells.set i (.int .u32 x.v):=by
 have h2:(s.qj i x).Ok:=by show(List.set s.rs i x).length=15;rw [List.length_set];exact h
 rw [cells,words_eq h2,cells,words_eq h,List.set_append_left _ _ (by rw [List.length_map,h];exact hi)]
 show(List.set s.rs i x).map _++_=_
 rw [List.map_set];rfl
end Fl
theorem uG {α β:Type} {f:α→β} {u:β}:∀ {l:List α},u∈aD f l→∃a,u=f a
 | a::l,h=>by
  rcases List.mem_cons.1 h with e | h
  ·exact⟨a,e⟩
  ·exact uG (l:=l) h
instance:Enc Fl:=⟨Fl.cells,19,fun _=>rfl,fun x u h=>by
 rcases List.mem_append.1 h with h | h
 ·obtain⟨a,rfl⟩:=uG h
  rfl
 ·simp only [List.mem_cons,List.not_mem_nil,or_false]at h
  rcases h with rfl | rfl | rfl | rfl<;>rfl,by omega⟩
structure FlP(w:World)(g:Nat)(s:Fl):Prop where
 len:s.Ok
 blk:∃T,Blk w g ⟨s.cells⟩ T
section
variable {w:World} {g:Nat} {s:Fl} {K:World→Prop}
theorem FlP.st(h:FlP w g s) {i:Nat} {v:Value} {s':Fl}(hi:i<19)(h2:s'.Ok)(hc:s'.cells=s.cells.set i v)(hK:∀w',FlP w' g s'→Ch (fun k=>k=g) w w'→K w'):aI w ⟨g,i,none⟩ [v] K:=by
 obtain⟨T,hb⟩:=h.blk
 exact fF hb (by show i+1≤s.cells.length;show i+1≤19;omega) fun w2 st=>hK w2 ⟨h2,T,by rw [hc];exact st.blk.cast (by rw [qP];simp)⟩ st.ch
theorem FlP.li(h:FlP w g s) {X:Nat→Prop}(hX:∀k,k=g↔X k):Rd w X (some (Addr.mk g 0 none)) s.rs.length s.rs.length s.rs:=by
 obtain⟨T,hb⟩:=h.blk
 refine⟨rfl,Nat.le_refl _,fun k hk=>by rw [(hX k).2 hk];exact hb.lt,fun i x hi=>⟨_,rfl,(hX _).1 rfl,fun j hj=>?_⟩⟩
 have hj:j=0:=by have:Enc.size U32=1:=rfl;omega
 subst hj
 rw [bu,Nat.zero_add,show Enc.size U32=1 from rfl,Nat.mul_one]
 show w.cell? ⟨g,i,none⟩=some (.int .u32 x.v)
 exact hb.cell (by simpa using Fl.Ah h.len hi)
theorem FlP.stR(h:FlP w g s) {X:Nat→Prop}(hX:∀k,k=g↔X k) {i:Nat} {x y:U32}(hx:s.rs[i]? =some x) {o:Nat} {vs:List Value}(ho:o+vs.length≤1)(hy:enc y=(enc x).take o++vs++(enc x).drop (o+vs.length))(hK:∀w',(∀k,k=g↔X k)∧FlP w' g (s.qj i y)→Ch X w w'→K w'):
 aI w (((Addr.mk g 0 none).add (i*1)).add o) vs K:=by
 have hi:i<15:=by have:=(List.getElem?_eq_some_iff.1 hx).1;rw [h.len]at this;exact this
 have hlen:(s.qj i y).Ok:=by show(List.set s.rs i y).length=15;rw [List.length_set];exact h.len
 obtain⟨T,hb⟩:=h.blk
 rw [bu,Nat.zero_add,Nat.mul_one]
 have ex:enc x= [.int .u32 x.v]:=rfl
 have ey:enc y= [.int .u32 y.v]:=rfl
 rw [ex,ey]at hy
 have Js:∀j,j≤19→j≤(⟨s.cells⟩:Array Value).size:=fun j hj=>hj
 have same:x=y→s.qj i y=s:=fun e=>by
  subst e
  have:s.rs.set i x=s.rs:=by
   apply List.ext_getElem?
   intro j
   rw [List.getElem?_set]
   split
   ·rename_i e;subst e;rw [if_pos (by rw [h.len];exact hi),hx]
   ·rfl
  unfold Fl.qj;rw [this]
 match vs,o,ho with
 | [v],0,_=>
  simp at hy
  subst hy
  exact(FlP.st h (i:=i) (by omega) hlen (Fl.Ag h.len hi y) fun w' h' q=>hK w' ⟨hX,h'⟩ (q.mono fun k hk=>(hX k).1 hk))
 | [],0,_=>
  simp at hy
  refine⟨g,i,_,T,rfl,hb,by simpa using Js i (by omega),fun w2 st=>hK w2 ⟨hX,by rw [same (by cases x;cases y;simp at hy;rw [hy])];exact⟨h.len,T,st.blk⟩⟩ (st.ch.mono fun k hk=>(hX k).1 hk)⟩
 | [],1,_=>
  simp at hy
  refine⟨g,i+1,_,T,rfl,hb,by simpa using Js (i+1) (by omega),fun w2 st=>hK w2 ⟨hX,by rw [same (by cases x;cases y;simp at hy;rw [hy])];exact⟨h.len,T,st.blk⟩⟩ (st.ch.mono fun k hk=>(hX k).1 hk)⟩
theorem FlP.all(h:FlP w g s) {s':Fl}(h2:s'.Ok)(hK:∀w',FlP w' g s'→Ch (fun k=>k=g) w w'→K w'):aI w ⟨g,0,none⟩ s'.cells K:=by
 obtain⟨T,hb⟩:=h.blk
 exact mi hb rfl fun w2 st=>hK w2 ⟨h2,T,st.blk.cast (by simp)⟩ st.ch
end
theorem Fl.E7 {s:Fl}(h:s.Ok)(he:aK ⟨s.cells⟩ ⟨Fl.zero.cells⟩=true):s=Fl.zero:=by
 obtain⟨rs,pc,z,n,l⟩:=s
 match rs,h with
 | [⟨a0⟩,⟨a1⟩,⟨a2⟩,⟨a3⟩,⟨a4⟩,⟨a5⟩,⟨a6⟩,⟨a7⟩,⟨a8⟩,⟨a9⟩,⟨b0⟩,⟨b1⟩,⟨b2⟩,⟨b3⟩,⟨b4⟩],_=>
  simp [aK,eqL,gI,Fl.cells,Fl.words,aD,upN,Fl.zero]at he ⊢
  simp [he]
def uZ:List Value→Option Fl
 | [.int .u32 a0,.int .u32 a1,.int .u32 a2,.int .u32 a3,.int .u32 a4,.int .u32 a5,.int .u32 a6,.int .u32 a7,.int .u32 a8,.int .u32 a9,.int .u32 b0,.int .u32 b1,.int .u32 b2,.int .u32 b3,.int .u32 b4,.int .u32 pc,.bool z,.bool n,.bool l]=>
  some ⟨[⟨a0⟩,⟨a1⟩,⟨a2⟩,⟨a3⟩,⟨a4⟩,⟨a5⟩,⟨a6⟩,⟨a7⟩,⟨a8⟩,⟨a9⟩,⟨b0⟩,⟨b1⟩,⟨b2⟩,⟨b3⟩,⟨b4⟩],pc,z,n,l⟩
 | _=>none
theorem mF {cs:List Value} {s:Fl}(h:uZ cs=some s):cs=s.cells∧s.Ok:=by
 unfold uZ at h
 split at h
 ·injection h with h
  subst h
  exact⟨rfl,rfl⟩
 ·cases h
end
section
structure Pd where
 n:Nat
 au:Int
 ent:Nat→Ent
namespace Pd
def on(E:Pd)(m:Mem):DB:=⟨m,E.au,E.ent⟩
def ao(E:Pd):List Ent:=(List.range E.n).map E.ent
def set(E:Pd)(i:Nat)(e:Ent):Pd:= {E with ent:=fun q=>if q=i then e else E.ent q}
def eh(E:Pd)(x:Int):Pd:= {E with au:=x}
structure Ok(E:Pd):Prop where
 ent:∀p,p<E.n→(E.ent p).ok=true∧(E.ent p).owner<E.n
 au:0≤E.au∧E.au≤64
 cF:E.n≤64
@[simp] theorem cg(E:Pd):E.ao.length=E.n:=by simp [ao]
theorem o3 {E:Pd} {i:Nat}(h:i<E.n):E.ao[i]? =some (E.ent i):=by simp [ao,h]
theorem bI {E:Pd} {p:Int} {d:Ent}(h:0≤p∧p<((E.n:Nat):Int)):E.ao.getD p.toNat d=E.ent p.toNat:=by
 rw [List.getD_eq_getElem?_getD,o3 (by omega)];rfl
theorem uW(E:Pd)(i:Nat)(e:Ent):(E.set i e).ao=E.ao.set i e:=by
 apply List.ext_getElem?
 intro j
 show((List.range E.n).map (E.set i e).ent)[j]? =_
 rw [List.getElem?_set,List.getElem?_map]
 by_cases hj:j<E.n
 ·rw [List.getElem?_range hj]
  simp only [Option.map_some,set,cg,o3 hj]
  by_cases JI:i=j
  ·subst JI;simp [hj]
  ·rw [if_neg (fun h=>JI h.symm),if_neg JI]
 ·rw [List.getElem?_eq_none (by simp;omega),List.getElem?_eq_none (l:=E.ao) (by simp;omega)]
  simp
  intro h1
  omega
end Pd
def DB.pd(D:DB):Pd:=⟨D.S,D.au,D.ent⟩
theorem Pd.eU(E:Pd)(m:Mem)(h:E.n=m.S):(E.on m).pd=E:=by
 cases E;simp only [on]at *;simp [DB.pd,DB.S,← h]
theorem Pd.dR(E:Pd)(m:Mem):(E.on m).mem=m:=rfl
theorem Pd.oJ(E:Pd)(m:Mem)(h:E.n=m.S):(E.on m).S=E.n:=h.symm
theorem Pd.gD(E:Pd)(m:Mem)(p:Int)(h:E.n=m.S):(E.on m).has p=decide (0≤p∧p<((E.n:Nat):Int)):=by unfold DB.has;rw [oJ E m h]
theorem Pd.gS(E:Pd)(m:Mem)(p:Int):(E.on m).at_ p=E.ent p.toNat:=rfl
theorem Pd.ek(E:Pd)(m:Mem)(p:Int)(e:Ent):(E.on m).set p e=(E.set p.toNat e).on m:=rfl
theorem Pd.jn(E:Pd)(m:Mem)(f:Mem→Mem):(E.on m).fq f=E.on (f m):=rfl
theorem Pd.oI(E:Pd)(m m':Mem):(E.on m).aT m'=E.on m':=rfl
theorem Pd.ux(E:Pd)(m:Mem)(b:Int):(E.on m).eh b=(E.eh b).on m:=rfl
theorem Pd.Es(E:Pd)(b:Int):(E.eh b).n=E.n:=rfl
theorem Pd.rf(E:Pd)(m:Mem):(E.on m).au=E.au:=rfl
theorem Pd.j6(E:Pd)(i:Nat)(e:Ent):(E.set i e).n=E.n:=rfl
theorem Pd.eI(E:Pd)(i j:Nat)(e:Ent):(E.set i e).ent j=if j=i then e else E.ent j:=rfl
theorem Pd.wX(E:Pd)(i:Nat)(e:Ent):(E.set i e).au=E.au:=rfl
structure PdP(w:World)(g a mg:Nat)(E:Pd):Prop where
 hd:∃T,Blk w g #[.pointer (some (Addr.mk mg 0 none)),.int .i64 E.au,.slice (some (Addr.mk a 0 none)) (2*E.n) (2*E.n)] T
 ws:∃T cs,Blk w a cs T∧cs.size=2*E.n∧∀p,p<E.n→cs[2*p]? =some (.int .u32 (E.ent p).w0)∧cs[2*p+1]? =some (.int .u32 (E.ent p).w1)
 ok:E.Ok
 ne:a≠g
structure lY(w:World)(g mg e c:Nat)(E:Pd):Prop where
 hd:∃T,Blk w g #[.pointer (some (Addr.mk mg 0 none)),.slice (some (Addr.mk e 0 none)) E.n c,.int .i64 E.au] T
 es:Own w (fun k=>k=e) 159 (some (Addr.mk e 0 none)) E.n c E.ao
 ok:E.Ok
 ne:e≠g
 pos:1≤E.n
section
variable {w w':World} {g a mg e c:Nat} {E:Pd} {Y:Nat→Prop}
theorem PdP.ch(h:PdP w g a mg E)(q:Ch Y w w')(hg:¬Y g)(ha:¬Y a):PdP w' g a mg E:=by
 obtain⟨T,hd⟩:=h.hd
 obtain⟨T2,cs,hr,h2⟩:=h.ws
 exact⟨⟨T,q.blk hd hg⟩,⟨T2,cs,q.blk hr ha,h2⟩,h.ok,h.ne⟩
theorem lY.ch(h:lY w g mg e c E)(q:Ch Y w w')(hg:¬Y g)(he:¬Y e):lY w' g mg e c E:=by
 obtain⟨T,hd⟩:=h.hd
 exact⟨⟨T,q.blk hd hg⟩,h.es.ch q fun k hk=>hk▸he,h.ok,h.ne,h.pos⟩
theorem PdP.lt(h:PdP w g a mg E):g<w.heap.size∧a<w.heap.size:=by
 obtain⟨T,hd⟩:=h.hd
 obtain⟨T2,cs,hr,h2⟩:=h.ws
 exact⟨hd.lt,hr.lt⟩
theorem lY.lt(h:lY w g mg e c E):g<w.heap.size∧e<w.heap.size:=by
 obtain⟨T,hd⟩:=h.hd
 obtain⟨g',hA,hZ,hl⟩:=h.es.lt h.pos
 have:g'=e:=hZ
 exact⟨hd.lt,by omega⟩
theorem PdP.db {L:dA} {m:Mem}(h:PdP w g a L.g E)(hm:bH w L m)(hn:E.n=m.S)(hx:¬L.X g∧¬L.X a):DBP w ⟨g,a,L⟩ (E.on m):=by
 have hS:(E.on m).S=E.n:=hn.symm
 refine⟨?_,?_,hm,⟨fun p hp=>?_,h.ok.au⟩,h.ne,hx.1,hx.2⟩
 ·show ∃T,Blk w g #[_,_,.slice _ (2*m.S) (2*m.S)] T
  rw [← hn];exact h.hd
 ·show ∃T cs,Blk w a cs T∧cs.size=2*m.S∧∀p,p<m.S→_
  rw [← hn];exact h.ws
 ·rw [hS]at hp ⊢
  exact h.ok.ent p hp
theorem DBP.pd {L:eg} {D:DB}(h:DBP w L D):PdP w L.g L.a L.M.g D.pd:=⟨h.hd,h.ws,⟨h.ok.ent,h.ok.au,h.mem.cF.1⟩,h.dis.1⟩
theorem PdP.zK(h:PdP w g a mg E) {x:Int}(hx:0≤x∧x≤64) {K:World→Prop}(hK:∀w',PdP w' g a mg (E.eh x)→Ch (fun k=>k=g) w w'→K w'):aI w ⟨g,1,none⟩ [.int .i64 x] K:=by
 obtain⟨T,hd⟩:=h.hd
 obtain⟨T2,cs,hr,h2⟩:=h.ws
 exact fF hd (by simp) fun w2 s=>hK w2 ⟨⟨T,s.blk⟩,⟨T2,cs,s.old hr h.ne,h2⟩,⟨h.ok.ent,hx,h.ok.cF⟩,h.ne⟩ s.ch
theorem lY.zK(h:lY w g mg e c E) {x:Int}(hx:0≤x∧x≤64) {K:World→Prop}(hK:∀w',lY w' g mg e c (E.eh x)→Ch (fun k=>k=g) w w'→K w'):aI w ⟨g,2,none⟩ [.int .i64 x] K:=by
 obtain⟨T,hd⟩:=h.hd
 exact fF hd (by simp) fun w2 s=>hK w2 ⟨⟨T,s.blk⟩,h.es.ch s.ch fun k hk e2=>h.ne (by rw [← hk,e2]),⟨h.ok.ent,hx,h.ok.cF⟩,h.ne,h.pos⟩ s.ch
theorem lY.GH(h:lY w g mg e c E) {i:Nat} {x y:Ent}(hx:E.ao[i]? =some x) {o:Nat} {vs:List Value}(ho:o+vs.length≤5)(hy:enc y=(enc x).take o++vs++(enc x).drop (o+vs.length))(KP:y.ok=true∧y.owner<(E.n:Int)) {K:World→Prop}
 (hK:∀w',lY w' g mg e c (E.set i y)→Ch (fun k=>k=e) w w'→K w'):aI w (((Addr.mk e 0 none).add (i*5)).add o) vs K:=by
 have hi:i<E.n:=by
  have:=(List.getElem?_eq_some_iff.1 hx).1
  simpa using this
 obtain⟨T,hd⟩:=h.hd
 refine h.es.st rfl hi hx ho hy fun w2 Mu hc=>hK w2 ⟨⟨T,hc.blk hd fun e=>h.ne e.symm⟩,by rw [Pd.uW];exact Mu,⟨fun p hp=>?_,h.ok.au,h.ok.cF⟩,h.ne,h.pos⟩ hc
 show(if p=i then y else E.ent p).ok=true∧_
 split
 ·rename_i QI
  refine⟨KP.1,?_⟩
  show(if p=i then y else E.ent p).owner<_
  rw [if_pos QI];exact KP.2
 ·rename_i QI
  refine⟨(h.ok.ent p hp).1,?_⟩
  show(if p=i then y else E.ent p).owner<_
  rw [if_neg QI];exact(h.ok.ent p hp).2
end
def tq(w:World)(g:Nat)(s:List U32):Prop:=∃T,Blk w g (cf (s.map U32.v)) T
def uX:List Value→Option (List U32)
 | []=>some []
 | .int .u32 x::r=>(match uX r with
  | some l=>some (U32.mk x::l)
  | none=>none)
 | _=>none
theorem lI:∀ {cs:List Value} {l:List U32},uX cs=some l→cs=(l.map U32.v).map (Value.int .u32)
 | [],l,h=>by simp only [uX,Option.some.injEq]at h;subst h;rfl
 | v::r,l,h=>by
  unfold uX at h
  split at h
  ·rename_i e;cases e
  ·rename_i x r' e
   injection e with e1 e2
   subst e1;subst e2
   split at h
   ·rename_i l' hl
    injection h with h
    subst h
    rw [lI hl];rfl
   ·cases h
  ·cases h
theorem GM {w:World} {g mg e c:Nat} {E:Pd} {X:Nat→Prop}(hX:∀k,(k=g∨k=e)↔X k)(h:lY w g mg e c E):Rd w X (some (Addr.mk e 0 none)) E.ao.length c E.ao:=by
 rw [Pd.cg]
 exact h.es.rd.mono (fun k hk=>(hX k).1 (.inr hk.1)) fun k hk=>by rcases(hX k).2 hk with rfl | rfl;exact h.lt.1;exact h.lt.2
theorem GN {w:World} {g mg e c:Nat} {E:Pd}(h:lY w g mg e c E):w.cell? ⟨g,0,none⟩=some (.pointer (some ⟨mg,0,none⟩))∧w.cell? ⟨g,1,none⟩=some (.slice (some ⟨e,0,none⟩) E.ao.length c)∧w.cell? ⟨g,2,none⟩=some (.int .i64 E.au):=by
 obtain⟨T,hd⟩:=h.hd
 rw [Pd.cg]
 exact⟨hd.cell rfl,hd.cell rfl,hd.cell rfl⟩
theorem HS {w:World} {g a mg:Nat} {E:Pd}(h:PdP w g a mg E):w.cell? ⟨g,0,none⟩=some (.pointer (some ⟨mg,0,none⟩))∧w.cell? ⟨g,1,none⟩=some (.int .i64 E.au):=by
 obtain⟨T,hd⟩:=h.hd
 exact⟨hd.cell rfl,hd.cell rfl⟩
theorem EE {w:World} {g:Nat} {s:List U32} {X:Nat→Prop}(hX:∀k,k=g↔X k)(h:tq w g s):Rd w X (some (Addr.mk g 0 none)) s.length s.length s:=by
 obtain⟨T,hb⟩:=h
 refine⟨rfl,Nat.le_refl _,fun k hk=>by rw [(hX k).2 hk];exact hb.lt,fun i x hi=>⟨_,rfl,(hX _).1 rfl,fun j hj=>?_⟩⟩
 have hj:j=0:=by have:Enc.size U32=1:=rfl;omega
 subst hj
 have hl:i<s.length:=(List.getElem?_eq_some_iff.1 hi).1
 rw [bu,Nat.zero_add,show Enc.size U32=1 from rfl,Nat.mul_one]
 show w.cell? ⟨g,i,none⟩=some (.int .u32 x.v)
 refine hb.cell ?_
 rw [gQ (by simpa using hl),List.getD_eq_getElem?_getD,List.getElem?_map,hi];rfl
theorem ED {w:World} {g i:Nat} {s:List U32} {X:Nat→Prop}(hX:∀k,k=g↔X k)(h:tq w g s) {x y:U32}(hx:s[i]? =some x) {o:Nat} {vs:List Value}(ho:o+vs.length≤1)(hy:enc y=(enc x).take o++vs++(enc x).drop (o+vs.length)) {K:World→Prop}(hK:∀w',(∀k,k=g↔X k)∧tq w' g (s.set i y)→Ch X w w'→K w'):
 aI w (((Addr.mk g 0 none).add (i*1)).add o) vs K:=by
 obtain⟨T,hb⟩:=h
 have hl:i<s.length:=(List.getElem?_eq_some_iff.1 hx).1
 have hc:∀w2,bm w g (cf ((s.set i y).map U32.v)) T w2→K w2:=fun w2 st=>hK w2 ⟨hX,T,st.blk⟩ (st.ch.mono fun k hk=>(hX k).1 hk)
 rw [bu,Nat.zero_add,Nat.mul_one]
 have ex:enc x= [.int .u32 x.v]:=rfl
 have ey:enc y= [.int .u32 y.v]:=rfl
 rw [ex,ey]at hy
 match vs,o,ho with
 | [v],0,_=>
  simp at hy
  subst hy
  refine⟨g,i,_,T,rfl,hb,by simp;omega,fun w2 st=>hc w2 ?_⟩
  rw [List.map_set,← Ca];exact st
 | [],0,_=>
  simp at hy
  refine⟨g,i,_,T,rfl,hb,by simp;omega,fun w2 st=>hc w2 ?_⟩
  have:s.set i y=s:=by
   have:y=x:=by cases x;cases y;simp at hy;rw [hy]
   rw [this];exact List.ext_getElem? fun j=>by rw [List.getElem?_set];split;(rename_i e;subst e;(try rw [if_pos hl]);rw [hx]);rfl
  rw [this];exact st
 | [],1,_=>
  simp at hy
  refine⟨g,i+1,_,T,rfl,hb,by simp;omega,fun w2 st=>hc w2 ?_⟩
  have:s.set i y=s:=by
   have:y=x:=by cases x;cases y;simp at hy;rw [hy]
   rw [this];exact List.ext_getElem? fun j=>by rw [List.getElem?_set];split;(rename_i e;subst e;(try rw [if_pos hl]);rw [hx]);rfl
  rw [this];exact st
theorem EC {w:World} {g n:Nat} {s:List U32} {X:Nat→Prop}(hX:∀k,k=g↔X k)(h:tq w g s)(hn:s.length=n):X g∧∀j u,(aD (fun j=>Value.int .u32 (s.getD j (U32.mk 0)).v) (upN 0 n))[j]? =some u→w.cell? ⟨g,0+j,none⟩=some u:=by
 obtain⟨T,hb⟩:=h
 refine⟨(hX _).1 rfl,fun j u hj=>?_⟩
 rw [← aH,ba]at hj
 cases ON:nth (upN 0 n) j with
 | none=>rw [ON]at hj;cases hj
 | some i=>
  rw [ON]at hj
  have JI:i=j:=by have:=kW ON;omega
  have Jt:=aP ON
  rw [kX]at Jt
  subst JI
  injection hj with hj
  rw [← hj,Nat.zero_add]
  refine hb.cell ?_
  rw [gQ (by simp;omega),List.getD_eq_getElem?_getD,List.getElem?_map]
  show _=some (Value.int .u32 (s.getD i (U32.mk 0)).v)
  rw [List.getD_eq_getElem?_getD]
  cases s[i]? <;>rfl
theorem EB {w:World} {g:Nat} {s l:List U32} {vs:List Value} {X:Nat→Prop}(hX:∀k,k=g↔X k)(h:tq w g s)(hl:uX vs=some l)(hn:s.length=l.length) {K:World→Prop}(hK:∀w',(∀k,k=g↔X k)∧tq w' g l→Ch X w w'→K w'):aI w ⟨g,0,none⟩ vs K:=by
 obtain⟨T,hb⟩:=h
 have e:=lI hl
 have e2:vs=(cf (l.map U32.v)).toList:=by rw [e];simp [cf]
 rw [e2]
 exact zH hb (by simp;omega) fun w2 st=>hK w2 ⟨hX,T,st.blk⟩ (st.ch.mono fun k hk=>(hX k).1 hk)
def Mem.Wf(m:Mem):Prop:=(∀s i o,0≤m.pg s i o∧m.pg s i o<4294967296)∧m.S≤64∧m.I≤64
end
end Go.Proofs.YtfgpafjlcgaimaaGreatDoor
namespace Go.Proofs.YtfgpafjlcgaimaaGreatDoor.V
open Go Go.RowKit
open Go.IntKind (i64 u32 u64)
open Enc (enc)
structure Els where
 el:Nat→Type
 en:(t:Nat)→Enc (el t)
 df:(t:Nat)→el t
 dec:(t:Nat)→List Value→Option (el t)
 iP:∀ {t:Nat} {cs:List Value} {x:el t},dec t cs=some x→(en t).enc x=cs
structure Kind(E:Els) where
 ty:Type
 pred:(Nat→Nat)→ty→(Nat→Prop)→World→Prop
 ch:∀ {r:Nat→Nat} {s:ty} {X Y:Nat→Prop} {w w':World},pred r s X w→Ch Y w w'→(∀k,X k→¬Y k)→pred r s X w'
 lt:∀ {r:Nat→Nat} {s:ty} {X:Nat→Prop} {w:World},pred r s X w→∀k,X k→k<w.heap.size
 li:(Nat→Nat)→ty→Nat→Option (Ls E.el):=fun _ _ _=>none
 oS:∀ {r:Nat→Nat} {s:ty} {X:Nat→Prop} {w:World} {i:Nat} {L:Ls E.el},pred r s X w→li r s i=some L→ @Rd (E.el L.t) (E.en L.t) w X L.A L.l.length L.c L.l:=by intro _ _ _ _ _ _ _ h;cases h
 fs:(Nat→Nat)→ty→Nat→Nat→Value→Option (Prop×ty):=fun _ _ _ _ _=>none
 oV:∀ {r:Nat→Nat} {s s':ty} {X:Nat→Prop} {w:World} {path off:Nat} {v:Value} {c:Prop},pred r s X w→fs r s path off v=some (c,s')→c→∀ {K:World→Prop},(∀w',pred r s' X w'→Ch X w w'→K w')→aI w ⟨r path,off,none⟩ [v] K:=by intro _ _ _ _ _ _ _ _ _ _ h;cases h
 st:(Nat→Nat)→ty→Nat→Nat→(tt:Nat)→E.el tt→Option (Prop×ty):=fun _ _ _ _ _ _=>none
 oq:∀ {r:Nat→Nat} {s s':ty} {X:Nat→Prop} {w:World} {j i:Nat} {L:Ls E.el} {x y:E.el L.t} {off:Nat} {vs:List Value} {c:Prop},pred r s X w→li r s j=some L→L.l[i]? =some x→off+vs.length≤(E.en L.t).size→(E.en L.t).enc y=((E.en L.t).enc x).take off++vs++((E.en L.t).enc x).drop (off+vs.length)→st r s j i L.t y=some (c,s')→c→∀ {K:World→Prop},(∀w',pred r s' X w'→Ch X w w'→K w')→aI w (((L.A.getD ⟨0,0,none⟩).add (i*(E.en L.t).size)).add off) vs K:=by intro _ _ _ _ _ _ _ _ _ _ _ _ _ _ _ _ _ _ h;cases h
 iv:Bool:=false
 inv:ty→Prop:=fun _=>True
 fL:∀ {r:Nat→Nat} {s:ty} {X:Nat→Prop} {w:World},pred r s X w→inv s:=by intros;trivial
 fo:(Nat→Nat)→ty→Nat→Nat→Option FV:=fun _ _ _ _=>none
 oX:∀ {r:Nat→Nat} {s:ty} {X:Nat→Prop} {w:World} {path off:Nat} {f:FV} {v:Value},pred r s X w→fo r s path off=some f→fvV r (li r s) f=some v→X (r path)∧w.cell? ⟨r path,off,none⟩=some v:=by intro _ _ _ _ _ _ _ _ _ h;cases h
 ix:Nat→Nat→Option Nat:=fun _ _=>none
 oU:∀ {r:Nat→Nat} {s:ty} {path off i:Nat} {L:Ls E.el},ix path off=some i→li r s i=some L→L.A=some ⟨r path,off,none⟩:=by intro _ _ _ _ _ _ h;cases h
 wl:(Nat→Nat)→ty→Nat→Nat→Nat→Option (Prop×List Value):=fun _ _ _ _ _=>none
 qH:∀ {r:Nat→Nat} {s:ty} {X:Nat→Prop} {w:World} {path off n:Nat} {c:Prop} {cs:List Value},pred r s X w→wl r s path off n=some (c,cs)→c→X (r path)∧∀j u,cs[j]? =some u→w.cell? ⟨r path,off+j,none⟩=some u:=by intro _ _ _ _ _ _ _ _ _ _ h;cases h
 ws:(Nat→Nat)→ty→Nat→Nat→List Value→Option (Prop×ty):=fun _ _ _ _ _=>none
 nX:∀ {r:Nat→Nat} {s s':ty} {X:Nat→Prop} {w:World} {path off:Nat} {vs:List Value} {c:Prop},pred r s X w→ws r s path off vs=some (c,s')→c→∀ {K:World→Prop},(∀w',pred r s' X w'→Ch X w w'→K w')→aI w ⟨r path,off,none⟩ vs K:=by intro _ _ _ _ _ _ _ _ _ _ h;cases h
 mp:ty→Option (List (Int×Value)):=fun _=>none
 uD:∀ {r:Nat→Nat} {s:ty} {X:Nat→Prop} {w:World} {l:List (Int×Value)},pred r s X w→mp s=some l→kQ w (r 0) l:=by intro _ _ _ _ _ _ h;cases h
def Kind.none(E:Els):Kind E where
 ty:=Unit
 pred:=fun _ _ X _=>∀k,¬X k
 ch:=fun h _ _=>h
 lt:=fun h k hk=>absurd hk (h k)
def Uni.of(E:Els)(K:Nat→Kind E)(cd:TypeId→Option Nat)(mko:TypeId→List Value→Option ((t:Nat)×(K t).ty))(sI:∀ {T:TypeId} {cs:List Value} {q:(t:Nat)×(K t).ty} {w:World} {g:Nat},mko T cs=some q→Blk w g ⟨cs⟩ T→(K q.1).pred (fun _=>g) q.2 (fun k=>k=g) w):Uni where
 ty:=fun t=>(K t).ty
 pred:=fun t=>(K t).pred
 ch:=fun {t}=>(K t).ch
 lt:=fun {t}=>(K t).lt
 el:=E.el
 en:=E.en
 df:=E.df
 dec:=E.dec
 iP:=E.iP
 cd:=cd
 li:=fun t=>(K t).li
 oS:=fun {t}=>(K t).oS
 fs:=fun t=>(K t).fs
 oV:=fun {t}=>(K t).oV
 st:=fun t=>(K t).st
 oq:=fun {t}=>(K t).oq
 iv:=fun t=>(K t).iv
 inv:=fun t=>(K t).inv
 fL:=fun {t}=>(K t).fL
 fo:=fun t=>(K t).fo
 oX:=fun {t}=>(K t).oX
 mp:=fun t=>(K t).mp
 uD:=fun {t}=>(K t).uD
 mko:=mko
 sI:=sI
 ix:=fun t=>(K t).ix
 oU:=fun {t}=>(K t).oU
 wl:=fun t=>(K t).wl
 qH:=fun {t}=>(K t).qH
 ws:=fun t=>(K t).ws
 nX:=fun {t}=>(K t).nX
section
section
variable {U:Uni} {P:Program} {tbl:Tb U} {may:List Nat} {k0:Nat}
def Ext(θ θ':Th):Prop:=∀j i,bU θ j=some i→bU θ' j=some i
theorem Ext.refl(θ:Th):Ext θ θ:=fun _ _ h=>h
theorem Ext.trans {a b c:Th}(h:Ext a b)(k:Ext b c):Ext a c:=fun j i hj=>k j i (h j i hj)
theorem fE {j id:Nat} {θ:Th} {F:Th→Prop}(h:kx j id θ F):∃θ',F θ'∧Ext θ θ'∧bU θ' j=some id:=by
 unfold kx at h
 split at h
 ·rename_i hn
  refine⟨_,h,fun j' i hj=>?_,?_⟩
  ·unfold bU
   split
   ·rename_i he
    rw [← Nat.eq_of_beq_eq_true he,hn]at hj
    cases hj
   ·exact hj
  ·simp [bU]
 ·rename_i i hi
  split at h
  ·rename_i he
   exact⟨θ,h,Ext.refl θ,by rw [hi,Nat.eq_of_beq_eq_true he]⟩
  ·exact h.elim
theorem jL {j i:Nat}:∀ {θ:Th},bU θ j=some i→(j,i)∈θ
 | [],h=>by cases h
 | (a,b)::r,h=>by
  unfold bU at h
  split at h
  ·rename_i he
   injection h with h
   rw [← h,Nat.eq_of_beq_eq_true he]
   exact List.mem_cons_self ..
  ·exact List.mem_cons_of_mem _ (jL h)
theorem GC {θ:Th}(hn:mA (aD (·.2) θ)=true) {a b i:Nat}(ha:bU θ a=some i)(hb:bU θ b=some i):a=b:=by
 have h1:=jL ha
 have h2:=jL hb
 have h3:=kD hn
 rw [eV]at h3
 have key:∀(l:Th),(l.map (·.2)).Nodup→(a,i)∈l→(b,i)∈l→a=b:=by
  intro l
  induction l with
  | nil=>intro _ h;cases h
  | cons x r ih=>
   intro hd h1 h2
   rw [List.map_cons,List.nodup_cons]at hd
   rcases List.mem_cons.1 h1 with e1 | h1
   ·rcases List.mem_cons.1 h2 with e2 | h2
    ·rw [← e1]at e2;injection e2 with e2;exact e2.symm
    ·exact absurd (List.mem_map.2 ⟨(b,i),h2,by rw [← e1]⟩) hd.1
   ·rcases List.mem_cons.1 h2 with e2 | h2
    ·exact absurd (List.mem_map.2 ⟨(a,i),h1,by rw [← e2]⟩) hd.1
    ·exact ih hd.2 h1 h2
 exact key θ h3 h1 h2
theorem PK.sx {f:Nat→Option Nat} {p q:PK}(h:p.ren f=some q):f p.id=some q.id:=by
 cases p<;>simp only [PK.ren,Option.map_eq_some_iff]at h<;>obtain⟨i,hi,rfl⟩:=h<;>exact hi
theorem PK.Cd {f g:Nat→Option Nat}(h:∀j i,f j=some i→g j=some i) {p q:PK}(hp:p.ren f=some q):p.ren g=some q:=by
 cases p<;>simp only [PK.ren,Option.map_eq_some_iff]at hp ⊢ <;>obtain⟨i,hi,rfl⟩:=hp<;>exact⟨i,h _ _ hi,rfl⟩
def Rel(r r':Res U):Prop:=r=r'∨∃(t:Nat)(own:Bool)(T T':TypeId)(A:Option Addr)(c:Nat)(l:List (U.el t)),r= .lst t false T A c l∧r'= .lst t own T' A c l
theorem Rel.den {r r':Res U}(h:Rel r r') {f:Nat→Option Nat} {p q:PK}(hp:p.ren f=some q):bF U p (some r)=bF U q (some r'):=by
 rcases h with rfl | ⟨t,own,T,T',A,c,l,rfl,rfl⟩
 ·cases p<;>simp only [PK.ren,Option.map_eq_some_iff]at hp<;>obtain⟨i,hi,rfl⟩:=hp<;>cases r<;>rfl
 ·cases p<;>simp only [PK.ren,Option.map_eq_some_iff]at hp<;>obtain⟨i,hi,rfl⟩:=hp<;>rfl
def Emb(f:Nat→Option Nat)(L G:List (Res U)):Prop:=∀j r,nth L j=some r→∃i r',f j=some i∧nth G i=some r'∧Rel r r'
theorem Emb.dn {f:Nat→Option Nat} {L G:List (Res U)}(h:Emb f L G) {p q:PK}(hp:p.ren f=some q) {v:Value}(hd:den U L p=some v):den U G q=some v:=by
 unfold V.den at hd ⊢
 cases hn:nth L p.id with
 | none=>rw [hn]at hd;cases p<;>simp [bF]at hd
 | some r=>
  rw [hn]at hd
  obtain⟨i,r',h1,h2,h3⟩:=h _ _ hn
  rw [PK.sx hp]at h1
  injection h1 with h1
  subst h1
  rw [h2,← h3.den hp]
  exact hd
theorem cH {f:Nat→Option Nat} {l:List (Option PK)} {j:Nat} {q:PK}(h:nth (aD (oG f) l) j=some (some q)):∃p,nth l j=some (some p)∧p.ren f=some q:=by
 rw [ba]at h
 cases hn:nth l j with
 | none=>rw [hn]at h;cases h
 | some o=>
  rw [hn]at h
  injection h with h
  cases o with
  | none=>cases h
  | some p=>exact⟨p,rfl,h⟩
theorem Emb.kn {f:Nat→Option Nat} {L G:List (Res U)}(h:Emb f L G) {k k':Kn}(hk:k.ren f=some k') {v:Value}(hv:fW L v k):fW G v k':=by
 cases k with
 | pan=>exact hv.elim
 | p p=>
  simp only [Kn.ren,Option.map_eq_some_iff]at hk
  obtain⟨q,hq,rfl⟩:=hk
  exact h.dn hq hv
 | t l=>
  simp only [Kn.ren,Option.some.injEq]at hk
  subst hk
  obtain⟨vs,e,hh⟩:=hv
  refine⟨vs,e,fun j q hj=>?_⟩
  obtain⟨p,hp,hq⟩:=cH hj
  obtain⟨u,hu,hd⟩:=hh j p hp
  exact⟨u,hu,h.dn hq hd⟩
 | ag l=>
  simp only [Kn.ren,Option.some.injEq]at hk
  subst hk
  obtain⟨vs,e,hh⟩:=hv
  refine⟨vs,e,fun j q hj=>?_⟩
  obtain⟨p,hp,hq⟩:=cH hj
  obtain⟨u,hu,hd⟩:=hh j p hp
  exact⟨u,hu,h.dn hq hd⟩
 | f a b=>
  simp only [Kn.ren,Option.some.injEq]at hk
  subst hk
  obtain⟨fn,fs,cs,e,hl,h1,h2⟩:=hv
  refine⟨fn,fs,cs,e,by simpa using hl,fun j q hj=>?_,fun j q hj=>?_⟩
  ·obtain⟨p,hp,hq⟩:=cH hj
   obtain⟨u,hu,hd⟩:=h1 j p hp
   exact⟨u,hu,h.dn hq hd⟩
  ·obtain⟨p,hp,hq⟩:=cH hj
   obtain⟨u,hu,hd⟩:=h2 j p hp
   exact⟨u,hu,h.dn hq hd⟩
theorem Emb.knO {f:Nat→Option Nat} {L G:List (Res U)}(h:Emb f L G) {k:Option Kn} {v:Value}(hv:KnO L v k):KnO G v (yS f k):=by
 cases k with
 | none=>exact trivial
 | some k=>
  show KnO G v (k.ren f)
  cases hk:k.ren f with
  | none=>exact trivial
  | some k'=>exact h.kn hk hv
theorem gV {f:Nat→Option Nat} {key:Key} {k':Kn}:∀ {l:List (Key×Kn)},(key,k')∈jb f l→∃i i' o k,((key= .c i' o∧(Key.c i o,k)∈l)∨(key= .l i' o∧(Key.l i o,k)∈l))∧f i=some i'∧k.ren f=some k'
 | [],h=>by cases h
 | (.s _,_)::r,h=>by
  obtain⟨i,i',o,k,h1,h3⟩:=gV (l:=r) h
  exact⟨i,i',o,k,h1.imp (fun h=>⟨h.1,List.mem_cons_of_mem _ h.2⟩) (fun h=>⟨h.1,List.mem_cons_of_mem _ h.2⟩),h3⟩
 | (.c i o,k)::r,h=>by
  have tail:(key,k')∈jb f r→∃i1 i' o1 k1,((key= .c i' o1∧(Key.c i1 o1,k1)∈(Key.c i o,k)::r)∨(key= .l i' o1∧(Key.l i1 o1,k1)∈(Key.c i o,k)::r))∧f i1=some i'∧k1.ren f=some k':=fun h=>by
   obtain⟨i,i',o,k,h1,h3⟩:=gV (l:=r) h
   exact⟨i,i',o,k,h1.imp (fun h=>⟨h.1,List.mem_cons_of_mem _ h.2⟩) (fun h=>⟨h.1,List.mem_cons_of_mem _ h.2⟩),h3⟩
  simp only [jb]at h
  split at h
  ·rename_i i' k2 hi hk
   rcases List.mem_cons.1 h with e | h
   ·injection e with e1 e2
    subst e1;subst e2
    exact⟨i,i',o,k,.inl ⟨rfl,List.mem_cons_self ..⟩,hi,hk⟩
   ·exact tail h
  ·exact tail h
 | (.l i o,k)::r,h=>by
  have tail:(key,k')∈jb f r→∃i1 i' o1 k1,((key= .c i' o1∧(Key.c i1 o1,k1)∈(Key.l i o,k)::r)∨(key= .l i' o1∧(Key.l i1 o1,k1)∈(Key.l i o,k)::r))∧f i1=some i'∧k1.ren f=some k':=fun h=>by
   obtain⟨i,i',o,k,h1,h3⟩:=gV (l:=r) h
   exact⟨i,i',o,k,h1.imp (fun h=>⟨h.1,List.mem_cons_of_mem _ h.2⟩) (fun h=>⟨h.1,List.mem_cons_of_mem _ h.2⟩),h3⟩
  simp only [jb]at h
  split at h
  ·rename_i i' k2 hi hk
   rcases List.mem_cons.1 h with e | h
   ·injection e with e1 e2
    subst e1;subst e2
    exact⟨i,i',o,k,.inr ⟨rfl,List.mem_cons_self ..⟩,hi,hk⟩
   ·exact tail h
  ·exact tail h
def AvD(θ:Th)(v:Value)(k:Option PK):AV→Prop
 | .v x=>x=v
 | .k p=>∃q,k=some q∧p.ren (bU θ)=some q
theorem AvD.mono {θ θ':Th}(h:Ext θ θ') {v:Value} {k:Option PK} {a:AV}(ha:AvD θ v k a):AvD θ' v k a:=by
 cases a with
 | v x=>exact ha
 | k p=>obtain⟨q,h1,h2⟩:=ha;exact⟨q,h1,PK.Cd h h2⟩
def yr(θ:Th)(vs:List Value)(kc:Nat→Option PK)(i:Nat)(az:List AV):Prop:=az.length=vs.length∧∀j a v,nth az j=some a→nth vs j=some v→AvD θ v (kc (i+j)) a
theorem yr.mono {θ θ':Th}(h:Ext θ θ') {vs:List Value} {kc:Nat→Option PK} {i:Nat} {az:List AV}(ha:yr θ vs kc i az):yr θ' vs kc i az:=⟨ha.1,fun j a v h1 h2=>(ha.2 j a v h1 h2).mono h⟩
theorem zk {T:Type} {c:CP} {J:c.T T} {v:Value} {k:Option PK} {θ:Th} {F:T→Th→Prop}(h:apC c J v k θ F):∃J' θ' a,F J' θ'∧Ext θ θ'∧(∀G:T→AV→Prop,alC c J G→G J' a)∧AvD θ' v k a:=by
 cases c with
 | int kk=>
  cases v<;>simp only [apC]at h<;>skip
  rename_i k' x
  split at h
  ·rename_i he
   obtain rfl:=lE he
   exact⟨_,θ,.v (.int kk x),h,Ext.refl θ,fun G hG=>hG x,rfl⟩
  ·exact h.elim
 | bool=>
  cases v<;>simp only [apC]at h<;>skip
  exact⟨_,θ,_,h,Ext.refl θ,fun G hG=>hG _,rfl⟩
 | str=>
  cases v<;>simp only [apC]at h<;>skip
  exact⟨_,θ,_,h,Ext.refl θ,fun G hG=>hG _,rfl⟩
 | any=>exact⟨_,θ,.v v,h,Ext.refl θ,fun G hG=>hG _,rfl⟩
 | hdr=>
  cases v<;>simp only [apC]at h<;>skip
  exact⟨_,θ,_,h,Ext.refl θ,fun G hG=>hG _ _ _,rfl⟩
 | nsl=>
  simp only [apC]at h
  split at h
  ·exact⟨_,θ,_,h,Ext.refl θ,fun G hG=>hG,rfl⟩
  ·exact h.elim
 | nil=>
  simp only [apC]at h
  split at h
  ·exact⟨_,θ,_,h,Ext.refl θ,fun G hG=>hG,rfl⟩
  ·exact h.elim
 | fn f=>
  simp only [apC]at h
  split at h
  ·split at h
   ·rename_i he
    obtain rfl:=Nat.eq_of_beq_eq_true he
    exact⟨_,θ,_,h,Ext.refl θ,fun G hG=>hG,rfl⟩
   ·exact h.elim
  ·exact h.elim
 | ptr j=>
  simp only [apC]at h
  split at h
  ·rename_i id
   obtain⟨θ',h1,h2,h3⟩:=fE h
   exact⟨_,θ',_,h1,h2,fun G hG=>hG,_,rfl,by simp [PK.ren,h3]⟩
  ·exact h.elim
 | obj j path=>
  simp only [apC]at h
  split at h
  ·rename_i id p
   split at h
   ·rename_i he
    obtain⟨θ',h1,h2,h3⟩:=fE h
    exact⟨_,θ',_,h1,h2,fun G hG=>hG,_,rfl,by simp [PK.ren,h3,Nat.eq_of_beq_eq_true he]⟩
   ·exact h.elim
  ·exact h.elim
 | sl j=>
  simp only [apC]at h
  split at h
  ·rename_i id
   obtain⟨θ',h1,h2,h3⟩:=fE h
   exact⟨_,θ',_,h1,h2,fun G hG=>hG,_,rfl,by simp [PK.ren,h3]⟩
  ·exact h.elim
theorem pq {T:Type}:∀ {l:List CP} {J:yq l T} {vs:List Value} {kc:Nat→Option PK} {i:Nat} {θ:Th} {F:T→Th→Prop},Fi l J vs kc i θ F→∃J' θ' az,F J' θ'∧Ext θ θ'∧(∀G:T→List AV→Prop,xP l J G→G J' az)∧yr θ' vs kc i az
 | [],J,[],kc,i,θ,F,h=>⟨J,θ,[],h,Ext.refl θ,fun G hG=>hG,rfl,fun j a v ha=>by simp [nth]at ha⟩
 | [],_,_::_,_,_,_,_,h=>h.elim
 | c::l,J,[],_,_,_,_,h=>h.elim
 | c::l,J,v::vs,kc,i,θ,F,h=>by
  obtain⟨J1,θ1,a,h1,e1,g1,d1⟩:=zk h
  obtain⟨J2,θ2,az,h2,e2,g2,d2⟩:=pq h1
  refine⟨J2,θ2,a::az,h2,e1.trans e2,fun G hG=>g2 (fun J'' vs=>G J'' (a::vs)) (g1 (fun J' a'=>xP l J' fun J'' vs=>G J'' (a'::vs)) hG),?_,fun j b u hb hu=>?_⟩
  ·simp [d2.1]
  ·cases j with
   | zero=>
    simp only [nth,Option.some.injEq]at hb hu
    subst hb;subst hu
    exact d1.mono e2
   | succ j=>
    have:=d2.2 j b u hb hu
    rwa [show i+1+j=i+(j+1)by omega]at this
def AaD(θ:Th)(v:Value)(k:Option Kn):AA→Prop
 | .one a=>AvD θ v (gC k) a
 | .agg az=>∃cs,v= .agg cs∧yr θ cs.toList (Hn k) 0 az
theorem AaD.mono {θ θ':Th}(h:Ext θ θ') {v:Value} {k:Option Kn} {a:AA}(ha:AaD θ v k a):AaD θ' v k a:=by
 cases a with
 | one a=>exact AvD.mono h ha
 | agg az=>obtain⟨cs,e,hh⟩:=ha;exact⟨cs,e,hh.mono h⟩
theorem vp {T:Type}:∀ {l:List AP} {J:yu U l T} {vs:List Value} {ks:List (Option Kn)} {θ:Th} {F:T→Th→Prop},vq l J vs ks θ F→∃J' θ' az,F J' θ'∧Ext θ θ'∧(∀G:T→List AA→Prop,tj l J G→G J' az)∧az.length=vs.length∧∀j a v,nth az j=some a→nth vs j=some v→∃k,nth ks j=some k∧AaD θ' v k a
 | [],J,[],ks,θ,F,h=>⟨J,θ,[],h,Ext.refl θ,fun G hG=>hG,rfl,fun j a v ha=>by simp [nth]at ha⟩
 | [],_,_::_,_,_,_,h=>by simp [vq]at h
 | _::_,_,[],_,_,_,h=>by simp [vq]at h
 | _::_,_,_::_,[],_,_,h=>by simp [vq]at h
 | a::l,J,v::vs,k::ks,θ,F,h=>by
  simp only [vq]at h
  have one:∃J' θ' x,vq l J' vs ks θ' F∧Ext θ θ'∧(∀G:yu U l T→AA→Prop,alA a J G→G J' x)∧AaD θ' v k x:=by
   cases a with
   | one c=>
    obtain⟨J1,θ1,x,h1,e1,g1,d1⟩:=zk (show apC c J v (gC k) θ _ from h)
    exact⟨J1,θ1,.one x,h1,e1,fun G hG=>g1 (fun J' y=>G J' (.one y)) hG,d1⟩
   | agg cs=>
    simp only [apA]at h
    split at h
    ·rename_i vs'
     obtain⟨J1,θ1,x,h1,e1,g1,d1⟩:=pq h
     exact⟨J1,θ1,.agg x,h1,e1,fun G hG=>g1 (fun J' y=>G J' (.agg y)) hG,vs',rfl,d1⟩
    ·exact h.elim
   | enc tt=>
    simp only [apA]at h
    split at h
    ·rename_i cs
     split at h
     ·rename_i x hx
      have e:=U.iP hx
      refine⟨_,θ,.agg (aD .v ((U.en tt).enc x)),h,Ext.refl θ,fun G hG=>hG x,cs,rfl,?_,fun j a v ha hv=>?_⟩
      ·rw [e,eV,List.length_map]
      ·rw [e,ba,hv]at ha
       injection ha with ha
       subst ha;rfl
     ·exact h.elim
    ·exact h.elim
  obtain⟨J1,θ1,x,h1,e1,g1,d1⟩:=one
  obtain⟨J2,θ2,az,h2,e2,g2,l2,d2⟩:=vp h1
  refine⟨J2,θ2,x::az,h2,e1.trans e2,fun G hG=>g2 (fun J'' vs=>G J'' (x::vs)) (g1 (fun J' a'=>tj l J' fun J'' vs=>G J'' (a'::vs)) hG),by simp [l2],fun j b u hb hu=>?_⟩
  cases j with
  | zero=>
   simp only [nth,Option.some.injEq]at hb hu
   subst hb;subst hu
   exact⟨k,rfl,d1.mono e2⟩
  | succ j=>exact d2 j b u hb hu
def LkD(θ:Th)(kl:Nat→Option PK)(lk:List (Nat×Nat×Nat)):Prop:=∀p j q,(p,j,q)∈lk→∃i,kl p=some (.obj i q 0)∧bU θ j=some i
def PrD(θ:Th)(kc kl:Nat→Option PK):PR U→Res U→Prop
 | .ob t r s lk,x=>x= .ob t r s∧LkD θ kl lk
 | .blk g az T,x=>∃cs,x= .blk g cs T∧yr θ cs kc 0 az
 | .lst t own T A c l,x=>∃own' T',x= .lst t own' T' A c l∧(own=true→own'=true∧T'=T)
theorem PrD.mono {θ θ':Th}(h:Ext θ θ') {kc kl:Nat→Option PK} {p:PR U} {x:Res U}(hp:PrD θ kc kl p x):PrD θ' kc kl p x:=by
 cases p with
 | ob t r s lk=>exact⟨hp.1,fun p j q hm=>by obtain⟨i,h1,h2⟩:=hp.2 p j q hm;exact⟨i,h1,h _ _ h2⟩⟩
 | blk g az T=>obtain⟨cs,e,hh⟩:=hp;exact⟨cs,e,hh.mono h⟩
 | lst t own T A c l=>exact hp
def GO:RP→Bool
 | .lst _ own _=>!own
 | _=>false
def GR:PR U→Bool
 | .lst _ own _ _ _ _=>!own
 | _=>false
theorem vo:∀ {l:List (Nat×Nat×Nat)} {kl:Nat→Option PK} {θ:Th} {F:Th→Prop},Fh l kl θ F→∃θ',F θ'∧Ext θ θ'∧LkD θ' kl l
 | [],kl,θ,F,h=>⟨θ,h,Ext.refl θ,fun _ _ _ hm=>by cases hm⟩
 | (p,j,q)::l,kl,θ,F,h=>by
  simp only [Fh]at h
  split at h
  ·rename_i i q' hk
   split at h
   ·rename_i hq
    have hq:=Nat.eq_of_beq_eq_true hq
    subst hq
    obtain⟨θ1,h1,e1,g1⟩:=fE h
    obtain⟨θ2,h2,e2,g2⟩:=vo h1
    refine⟨θ2,h2,e1.trans e2,fun p' j' q'' hm=>?_⟩
    rcases List.mem_cons.1 hm with e | hm
    ·injection e with ea eb
     injection eb with eb ec
     subst ea;subst eb;subst ec
     exact⟨i,hk,e2 _ _ g1⟩
    ·exact g2 _ _ _ hm
   ·exact h.elim
  ·exact h.elim
theorem Fg {T:Type} {p:RP} {J:p.T U T} {r:Option (Res U)} {kc kl:Nat→Option PK} {θ:Th} {F:T→Th→Prop}(h:apR p J r kc kl θ F):∃J' θ' x y,r=some x∧F J' θ'∧Ext θ θ'∧(∀G:T→PR U→Prop,alR p J G→G J' y)∧PrD θ' kc kl y x∧GR y=GO p:=by
 cases p with
 | ob t lk=>
  cases r with
  | none=>exact h.elim
  | some x=>
   cases x<;>simp only [apR]at h<;>skip
   rename_i t' r s
   split at h
   ·rename_i ht
    subst ht
    obtain⟨θ1,h1,e1,g1⟩:=vo h
    exact⟨_,θ1,_,.ob t' r s lk,rfl,h1,e1,fun G hG=>hG r s,⟨rfl,g1⟩,rfl⟩
   ·exact h.elim
 | blk l T'=>
  cases r with
  | none=>exact h.elim
  | some x=>
   cases x<;>simp only [apR]at h<;>skip
   rename_i g cs T''
   split at h
   ·rename_i ht
    obtain⟨J1,θ1,az,h1,e1,g1,d1⟩:=pq h
    exact⟨J1,θ1,_,.blk g az T',rfl,h1,e1,fun G hG=>g1 (fun J' cs=>G J' (.blk g cs T')) (hG g),⟨cs,by rw [Nat.eq_of_beq_eq_true ht],d1⟩,rfl⟩
   ·exact h.elim
 | lst t own T'=>
  cases r with
  | none=>exact h.elim
  | some x=>
   cases x<;>simp only [apR]at h<;>skip
   rename_i t' own' T'' A c l
   split at h
   ·rename_i hb
    split at h
    ·rename_i ht
     subst ht
     refine⟨_,θ,_,.lst t' own T' A c l,rfl,h,Ext.refl θ,fun G hG=>hG A c l,⟨own',T'',rfl,fun ho=>?_⟩,rfl⟩
     subst ho
     simp only [Bool.not_true,Bool.false_or,Bool.and_eq_true]at hb
     exact⟨hb.1,Nat.eq_of_beq_eq_true hb.2⟩
    ·exact h.elim
   ·exact h.elim
theorem vn {T:Type} {rs:List (Res U)} {kn:List (Key×Kn)}:∀ {l:List RP} {J:AU U l T} {j0:Nat} {θ:Th} {F:T→Th→Prop},Ff rs kn l J j0 θ F→∃J' θ' ps,F J' θ'∧Ext θ θ'∧(∀G:T→List (PR U)→Prop,th l J G→G J' ps)∧ps.length=l.length∧
 ∀j p,nth ps j=some p→∃id x,bU θ' (j0+j)=some id∧nth rs id=some x∧PrD θ' (fun o=>gC (bW (.c id o) kn)) (fun q=>gC (bW (.l id q) kn)) p x∧∃q,nth l j=some q∧GR p=GO q
 | [],J,j0,θ,F,h=>⟨J,θ,[],h,Ext.refl θ,fun G hG=>hG,rfl,fun j p hp=>by simp [nth]at hp⟩
 | p::l,J,j0,θ,F,h=>by
  simp only [Ff]at h
  split at h
  ·rename_i id Vp
   obtain⟨J1,θ1,x,y,e0,h1,e1,g1,d1,q1⟩:=Fg h
   obtain⟨J2,θ2,ps,h2,e2,g2,l2,d2⟩:=vn h1
   refine⟨J2,θ2,y::ps,h2,e1.trans e2,fun G hG=>g2 (fun J'' xs=>G J'' (y::xs)) (g1 (fun J' y'=>th l J' fun J'' xs=>G J'' (y'::xs)) hG),by simp [l2],fun j q hq=>?_⟩
   cases j with
   | zero=>
    simp only [nth,Option.some.injEq]at hq
    subst hq
    exact⟨id,x,e2 _ _ (e1 _ _ Vp),e0,d1.mono e2,p,rfl,q1⟩
   | succ j=>
    obtain⟨id',x',h3,h4,h5,h6⟩:=d2 j q hq
    exact⟨id',x',by rw [show j0+(j+1)=j0+1+j by omega];exact h3,h4,h5,h6⟩
  ·exact h.elim
theorem rF {rs:List (Res U)}:∀ {l:List (Nat×Nat)} {θ:Th} {F:Th→Prop},zj rs l θ F→∃θ',F θ'∧Ext θ θ'
 | [],θ,F,h=>⟨θ,h,Ext.refl θ⟩
 | (j,t)::l,θ,F,h=>by
  simp only [zj]at h
  split at h
  ·obtain⟨θ1,h1,e1,_⟩:=fE h
   obtain⟨θ2,h2,e2⟩:=rF h1
   exact⟨θ2,h2,e1.trans e2⟩
  ·exact h.elim
structure cU(w0:World)(k0:Nat)(X0:Nat→Nat→Prop)(may:List Nat)(fr:Fr)(st:St U)(X:Nat→Nat→Prop)(w:World)(st':St U)(X':Nat→Nat→Prop)(w':World)(M:List Nat):Prop where
 inv:Inv w0 k0 X0 may st'.rs X' w'
 kn:aw st'.rs fr st'.kn
 md:st'.md=M++st.md
 mlt:∀i,i∈M→i<st.rs.length
 can:∀i,i∈M→i∈may∨k0≤i
 len:st.rs.length≤st'.rs.length
 same:∀i,i<st.rs.length→i ∉ M→nth st'.rs i=nth st.rs i∧X' i=X i
 grow:∀i,i∈M→∀k,X' i k→X i k∨w.heap.size≤k
 new:∀i,st.rs.length≤i→i<st'.rs.length→∀k,X' i k→w.heap.size≤k
 ch:Ch (fun k=>∃j,j∈M∧X j k) w w'
 root:∀i a,nth st.rs i=some a→∃b,nth st'.rs i=some b∧cl a b
theorem eY {i:Nat}(h:lQ may k0 i=true):i∈may∨k0≤i:=by
 unfold lQ at h
 split at h
 ·rename_i hb;exact .inr (Nat.le_of_ble_eq_true hb)
 ·exact .inl (dF.1 h)
theorem dX:∀ {M:List Nat} {us:List (Upd U)} {rs rs':List (Res U)},bh rs M us=some rs'→rs'.length=rs.length∧(∀i,i ∉ M→nth rs' i=nth rs i)∧∀i,i∈M→i<rs.length∧∀a,nth rs i=some a→∃b,nth rs' i=some b∧cl a b
 | [],[],rs,rs',h=>by
  simp only [bh,Option.some.injEq]at h
  subst h
  exact⟨rfl,fun _ _=>rfl,fun i hi=>by cases hi⟩
 | [],_::_,_,_,h=>by simp [bh]at h
 | _::_,[],_,_,h=>by simp [bh]at h
 | i::M,u::us,rs,rs',h=>by
  simp only [bh]at h
  split at h
  ·rename_i r hr
   split at h
   ·rename_i r' Jg
    obtain⟨h1,h2,h3⟩:=dX h
    have hi:=aP hr
    simp only [oy]at h1 h3
    have e:∀j,nth (bt rs i r') j=if j=i then some r' else nth rs j:=fun j=>by
     rw [aV]
     by_cases hj:j=i
     ·rw [if_pos ⟨hj,hi⟩,if_pos hj]
     ·rw [if_neg (fun hh=>hj hh.1),if_neg hj]
    refine⟨h1,fun j hj=>?_,fun j hj=>?_⟩
    ·rw [List.mem_cons,not_or]at hj
     rw [h2 j hj.2,e,if_neg hj.1]
    ·refine⟨?_,fun a ha=>?_⟩
     ·rcases List.mem_cons.1 hj with rfl | hj
      ·exact hi
      ·exact(h3 j hj).1
     ·by_cases JN:j=i
      ·subst JN
       rw [hr]at ha
       injection ha with ha
       subst ha
       have OK:=vl Jg
       by_cases hm:j∈M
       ·obtain⟨b,hb,hrb⟩:=(h3 j hm).2 r' (by rw [e,if_pos rfl])
        exact⟨b,hb,OK.trans hrb⟩
       ·exact⟨r',by rw [h2 j hm,e,if_pos rfl],OK⟩
      ·have hm:j∈M:=(List.mem_cons.1 hj).resolve_left JN
       exact(h3 j hm).2 a (by rw [e,if_neg JN];exact ha)
   ·cases h
  ·cases h
theorem nm {f:Nat→Option Nat}(Mh:∀a b i,f a=some i→f b=some i→a=b):∀ {ms M:List Nat} {us:List (Upd U)} {L L' G G':List (Res U)},fK f ms=some M→bh L ms us=some L'→bh G M us=some G'→Emb f L G→(∀j,j∈ms→∀r,nth L j=some r→∃i,f j=some i∧nth G i=some r)→
 Emb f L' G'∧∀j,j∈ms→∀r,nth L' j=some r→∃i,f j=some i∧nth G' i=some r
 | [],M,us,L,L',G,G',hM,hL,hG,hE,hR=>by
  simp only [fK,Option.some.injEq]at hM
  subst hM
  cases us with
  | cons u us=>simp [bh]at hL
  | nil=>
   simp only [bh,Option.some.injEq]at hL hG
   subst hL;subst hG
   exact⟨hE,fun j hj=>by cases hj⟩
 | m::ms,M,us,L,L',G,G',hM,hL,hG,hE,hR=>by
  simp only [fK]at hM
  split at hM
  ·rename_i i M' hi Uj
   injection hM with hM
   subst hM
   cases us with
   | nil=>simp [bh]at hL
   | cons u us=>
    simp only [bh]at hL hG
    split at hL
    ·rename_i r hr
     split at hL
     ·rename_i r1 O9
      obtain⟨i',h1,h2⟩:=hR m (List.mem_cons_self ..) r hr
      rw [hi]at h1
      injection h1 with h1
      subst h1
      rw [h2]at hG
      simp only [O9]at hG
      have Ua:=aP hr
      have Ue:=aP h2
      have key:∀j x,nth (bt L m r1) j=some x→(j=m∧x=r1)∨(j≠m∧nth L j=some x):=by
       intro j x hx
       rw [aV]at hx
       by_cases hj:j=m
       ·rw [if_pos ⟨hj,Ua⟩]at hx
        injection hx with hx
        exact .inl ⟨hj,hx.symm⟩
       ·rw [if_neg (fun hh=>hj hh.1)]at hx
        exact .inr ⟨hj,hx⟩
      have keyG:∀j,nth (bt G i r1) j=if j=i then some r1 else nth G j:=fun j=>by
       rw [aV]
       by_cases hj:j=i
       ·rw [if_pos ⟨hj,Ue⟩,if_pos hj]
       ·rw [if_neg (fun hh=>hj hh.1),if_neg hj]
      have r1':=nm Mh Uj hL hG (fun j x hx=>by
       rcases key j x hx with⟨rfl,rfl⟩ | ⟨hj,hx⟩
       ·exact⟨i,_,hi,by rw [keyG,if_pos rfl],.inl rfl⟩
       ·obtain⟨a,b,h3,h4,h5⟩:=hE j x hx
        exact⟨a,b,h3,by rw [keyG,if_neg (by rintro rfl;exact hj (Mh _ _ _ h3 hi))];exact h4,h5⟩) (fun j hj x hx=>by
       rcases key j x hx with⟨rfl,rfl⟩ | ⟨Mg,hx⟩
       ·exact⟨i,hi,by rw [keyG,if_pos rfl]⟩
       ·obtain⟨a,h3,h4⟩:=hR j (List.mem_cons_of_mem _ hj) x hx
        exact⟨a,h3,by rw [keyG,if_neg (by rintro rfl;exact Mg (Mh _ _ _ h3 hi))];exact h4⟩)
      refine⟨r1'.1,fun j hj x hx=>?_⟩
      by_cases PC:j∈ms
      ·exact r1'.2 j PC x hx
      ·have Vl:j=m:=(List.mem_cons.1 hj).resolve_right PC
       subst Vl
       have a1:=(dX hL).2.1 j PC
       rw [hx,aV,if_pos ⟨rfl,Ua⟩]at a1
       injection a1 with a1
       subst a1
       have hiM:i ∉ M':=by
        intro hh
        have:∀ {l M':List Nat},fK f l=some M'→i∈M'→∃a∈l,f a=some i:=by
         intro l
         induction l with
         | nil=>intro M' h hh;simp only [fK,Option.some.injEq]at h;subst h;cases hh
         | cons a l ih=>
          intro M' h hh
          simp only [fK]at h
          split at h
          ·rename_i b bs hb Ql
           injection h with h
           subst h
           rcases List.mem_cons.1 hh with rfl | hh
           ·exact⟨a,List.mem_cons_self ..,hb⟩
           ·obtain⟨c,hc,Vt⟩:=ih Ql hh
            exact⟨c,List.mem_cons_of_mem _ hc,Vt⟩
          ·cases h
        obtain⟨a,ha,Tp⟩:=this Uj hh
        exact PC (Mh _ _ _ Tp hi▸ha)
       refine⟨i,hi,?_⟩
       rw [(dX hG).2.1 i hiM,keyG,if_pos rfl]
     ·cases hL
    ·cases hL
  ·cases hM
theorem uH {α β:Type} {f:α→Option β}:∀ {l:List α} {r:List β},fK f l=some r→∀b,b∈r→∃a,a∈l∧f a=some b
 | [],r,h,b,hb=>by
  simp only [fK,Option.some.injEq]at h
  subst h
  cases hb
 | a::l,r,h,b,hb=>by
  simp only [fK]at h
  split at h
  ·rename_i c cs hc Kg
   injection h with h
   subst h
   rcases List.mem_cons.1 hb with rfl | hb
   ·exact⟨a,List.mem_cons_self ..,hc⟩
   ·obtain⟨x,hx,Tn⟩:=uH Kg b hb
    exact⟨x,List.mem_cons_of_mem _ hx,Tn⟩
  ·cases h
theorem jS {α β:Type} {f:α→Option β}:∀ {l:List α} {r:List β},fK f l=some r→∀a,a∈l→∃b,b∈r∧f a=some b
 | [],r,h,a,ha=>by cases ha
 | a::l,r,h,x,hx=>by
  simp only [fK]at h
  split at h
  ·rename_i c cs hc Kg
   injection h with h
   subst h
   rcases List.mem_cons.1 hx with rfl | hx
   ·exact⟨c,List.mem_cons_self ..,hc⟩
   ·obtain⟨b,hb,hfb⟩:=jS Kg x hx
    exact⟨b,List.mem_cons_of_mem _ hb,hfb⟩
  ·cases h
theorem gZ {ps:List (PR U)} {j:Nat}:nth (cN ps) j=(nth ps j).map (PR.fin (aD PR.gO ps)):=by
 unfold cN
 exact ba _ _ _
@[simp] theorem HG(ps:List (PR U)):(cN ps).length=ps.length:=by unfold cN;simp
theorem nS(ps:List (PR U))(p:PK):den U (cN ps) p=den U (aD PR.gO ps) p:=by
 unfold den
 rw [gZ,ba]
 cases nth ps p.id with
 | none=>rfl
 | some y=>cases y<;>cases p<;>rfl
theorem yQ {i:Nat} {key:Key} {k:Kn}:∀ {l:List (Nat×Nat×Nat)},(key,k)∈lkK i l→∃p j q,(p,j,q)∈l∧key= .l i p∧k= .p (.obj j q 0)
 | (p,j,q)::l,h=>by
  rcases List.mem_cons.1 h with e | h
  ·injection e with e1 e2
   exact⟨p,j,q,List.mem_cons_self ..,e1,e2⟩
  ·obtain⟨p',j',q',h1,h2⟩:=yQ (l:=l) h
   exact⟨p',j',q',List.mem_cons_of_mem _ h1,h2⟩
theorem gU {key:Key} {k:Kn}:∀ {l:List (PR U)} {i:Nat},(key,k)∈sN i l→∃j t r s lk p j' q,nth l j=some (.ob t r s lk)∧(p,j',q)∈lk∧key= .l (i+j) p∧k= .p (.obj j' q 0)
 | [],_,h=>by cases h
 | .ob t r s lk::l,i,h=>by
  rcases List.mem_append.1 h with h | h
  ·obtain⟨p,j',q,h1,h2,h3⟩:=yQ h
   exact⟨0,t,r,s,lk,p,j',q,rfl,h1,h2,h3⟩
  ·obtain⟨j,t,r,s,lk,p,j',q,h1,h2,h3,h4⟩:=gU (l:=l) h
   exact⟨j+1,t,r,s,lk,p,j',q,h1,h2,by rw [h3];congr 1;omega,h4⟩
 | .blk _ _ _::l,i,h=>by
  obtain⟨j,t,r,s,lk,p,j',q,h1,h2,h3,h4⟩:=gU (l:=l) h
  exact⟨j+1,t,r,s,lk,p,j',q,h1,h2,by rw [h3];congr 1;omega,h4⟩
 | .lst _ _ _ _ _ _::l,i,h=>by
  obtain⟨j,t,r,s,lk,p,j',q,h1,h2,h3,h4⟩:=gU (l:=l) h
  exact⟨j+1,t,r,s,lk,p,j',q,h1,h2,by rw [h3];congr 1;omega,h4⟩
theorem ru(f:Nat→Option Nat)(k:Option Kn)(v:Value):jv (yS f k) v=jv k v:=by
 cases k with
 | none=>rfl
 | some k=>
  cases k with
  | p p=>show jv ((p.ren f).map .p) v=_;cases p.ren f<;>rfl
  | _=>rfl
theorem dG {rs:List (Res U)} {v:Value} {k:Option Kn}(h:KnO rs v k):Ending.returned v=jv k v:=by
 cases k with
 | none=>rfl
 | some k=>cases k<;>first | rfl | exact h.elim
theorem rC {f:Nat} {args:List Value} {ks:List (Option Kn)} {st:St U} {K:dY U} {w0:World} {X0 X:Nat→Nat→Prop} {w:World} {fr:Fr}(JZ:∀f c,tbl.c f=some c→LV U P f c)(hI:Inv w0 k0 X0 may st.rs X w)(hk:aw st.rs fr st.kn)
 (Td:∀j v k,nth args j=some v→nth ks j=some k→KnO st.rs v k)(h:call2 U tbl may k0 f args ks st K):
 Calls P f ⟨args⟩ w fun e w'=>∃v k st' X' M,e=jv k v∧K v k st'∧(k=some .pan∨KnO st'.rs v k)∧cU w0 k0 X0 may fr st X w st' X' w' M:=by
 unfold call2 at h
 split at h
 ·exact h.elim
 rename_i c hc
 have hlv:=JZ f c hc
 obtain⟨B1,θ1,az,h,e1,g1,la,da⟩:=vp h
 obtain⟨θ2,h,e2⟩:=rF h
 obtain⟨B2,θ,ps,h,e3,g3,lp,dp⟩:=vn h
 split at h
 case h_2=>exact h.elim
 rename_i M hb hM
 simp only [Bool.and_eq_true]at hb
 obtain⟨KS,Vv,Kx⟩:=hb
 split at h
 case h_2=>exact h.elim
 rename_i JO
 have Mh:∀a b i,bU θ a=some i→bU θ b=some i→a=b:=fun a b i=>GC KS
 have Jt:∀j i,bU θ j=some i→j<ps.length:=fun j i hj=>by
  have:=bP.1 Vv _ (jL hj)
  rw [lp]
  simpa [Nat.blt_eq]using this
 have Ld:∀ {p q v},p.ren (bU θ)=some q→den U st.rs q=some v→den U (aD PR.gO ps) p=some v:=by
  intro p q v hp hd
  obtain⟨y,hy⟩:=bM (Jt _ _ (PK.sx hp))
  obtain⟨id,x,h1,h2,h3,_⟩:=dp _ y hy
  rw [Nat.zero_add,PK.sx hp]at h1
  injection h1 with h1
  subst h1
  unfold den at hd ⊢
  rw [h2]at hd
  rw [ba,hy,← hd]
  simp only [Option.map_some]
  cases y with
  | ob t r s lk=>
   cases h3.1
   cases p<;>simp only [PK.ren,Option.map_eq_some_iff]at hp<;>obtain⟨i,hi,rfl⟩:=hp<;>rfl
  | blk g as' T=>
   obtain⟨cs,rfl,_⟩:=h3
   cases p<;>simp only [PK.ren,Option.map_eq_some_iff]at hp<;>obtain⟨i,hi,rfl⟩:=hp<;>rfl
  | lst t own T A c' l=>
   obtain⟨own',T',rfl,_⟩:=h3
   cases p<;>simp only [PK.ren,Option.map_eq_some_iff]at hp<;>obtain⟨i,hi,rfl⟩:=hp<;>rfl
 have hav:∀ {v:Value} {k:Option PK} {a:AV},AvD θ v k a→(∀p,k=some p→den U st.rs p=some v)→g6 (aD PR.gO ps) a=v:=by
  intro v k a ha QM
  cases a with
  | v x=>exact ha
  | k p=>
   obtain⟨q,hq,hr⟩:=ha
   show(den U _ p).getD undef=v
   rw [Ld hr (QM q hq)];rfl
 have Tu:∀ {vs:List Value} {kc:Nat→Option PK} {az:List AV},yr θ vs kc 0 az→(∀j v p,nth vs j=some v→kc j=some p→den U st.rs p=some v)→aD (g6 (aD PR.gO ps)) az=vs:=by
  intro vs kc az hd QM
  apply List.ext_getElem?
  intro j
  rw [← aH,← aH,ba]
  cases ha:nth az j with
  | none=>
   have:vs.length≤j:=by
    rw [← hd.1]
    apply Nat.le_of_not_lt
    intro hh
    obtain⟨x,hx⟩:=bM hh
    rw [hx]at ha;cases ha
   rw [oK this];rfl
  | some a=>
   obtain⟨v,hv⟩:=bM (l:=vs) (i:=j) (by rw [← hd.1];exact aP ha)
   rw [hv]
   have hd':=hd.2 j a v ha hv
   rw [Nat.zero_add]at hd'
   exact congrArg some (hav hd' (fun p hp=>QM j v p hv hp))
 have K4:aD (px (aD PR.gO ps)) az=args:=by
  apply List.ext_getElem?
  intro j
  rw [← aH,← aH,ba]
  cases ha:nth az j with
  | none=>
   have:args.length≤j:=by
    rw [← la]
    apply Nat.le_of_not_lt
    intro hh
    obtain⟨x,hx⟩:=bM hh
    rw [hx]at ha;cases ha
   rw [oK this];rfl
  | some a=>
   obtain⟨v,hv⟩:=bM (l:=args) (i:=j) (by rw [← la];exact aP ha)
   rw [hv]
   obtain⟨k,JG,hd⟩:=da j a v ha hv
   have hd:=hd.mono (e2.trans e3)
   have Kr:=Td j v k hv JG
   cases a with
   | one a=>
    refine congrArg some (hav hd fun p hp=>?_)
    unfold gC at hp
    split at hp
    ·injection hp with hp;subst hp;exact Kr
    ·cases hp
   | agg as'=>
    obtain⟨cs,rfl,hd2⟩:=hd
    have h9:=Tu hd2 (fun j v p hv hp=>by
     unfold Hn at hp
     split at hp
     ·rename_i l _
      obtain⟨cs',e,hh⟩:=Kr
      injection e with e
      subst e
      split at hp
      ·rename_i o ho
       subst hp
       obtain⟨u,hu,hd⟩:=hh _ _ ho
       rw [aH]at hv
       have:some v=some u:=by rw [← hv,← hu];simp
       injection this with this
       rw [this];exact hd
      ·cases hp
     ·cases hp)
    show some (Value.agg ⟨aD _ as'⟩)=_
    rw [h9]
 have Mx:Emb (bU θ) (cN ps) st.rs:=by
  intro j r hr
  rw [gZ]at hr
  cases hy:nth ps j with
  | none=>rw [hy]at hr;cases hr
  | some y=>
   rw [hy]at hr
   injection hr with hr
   obtain⟨id,x,h1,h2,h3,_⟩:=dp _ y hy
   rw [Nat.zero_add]at h1
   refine⟨id,x,h1,h2,?_⟩
   cases y with
   | ob t r' s lk=>exact .inl (by rw [← hr,h3.1];rfl)
   | blk g as' T=>
    obtain⟨cs,rfl,hd⟩:=h3
    left
    rw [← hr]
    show Res.blk g (aD _ as') T=_
    rw [Tu hd fun o v p hv hp=>?_]
    unfold gC at hp
    split at hp
    ·rename_i q hq
     injection hp with hp
     subst hp
     obtain⟨g',cs',T',u,e4,e5,e6⟩:=hk.get hq
     rw [h2]at e4
     injection e4 with e4
     injection e4 with _ e4 _
     subst e4
     rw [hv]at e5
     injection e5 with e5
     subst e5
     exact e6
    ·cases hp
   | lst t own T A c' l=>
    obtain⟨own',T',rfl,ho⟩:=h3
    cases own with
    | false=>exact .inr ⟨t,own',T,T',A,c',l,hr.symm,rfl⟩
    | true=>
     obtain⟨ho1,Mu⟩:=ho rfl
     left
     rw [← hr,ho1,Mu];rfl
 have Vf:∀j,j∈c.bd→∀r,nth (cN ps) j=some r→∃i,bU θ j=some i∧nth st.rs i=some r:=by
  intro j hj r hr
  obtain⟨i,r',h1,h2,h3⟩:=Mx j r hr
  refine⟨i,h1,?_⟩
  rcases h3 with rfl | ⟨t,own,T,T',A,c',l,rfl,rfl⟩
  ·exact h2
  ·exfalso
   have hm:=bP.1 Kx j hj
   rw [gZ]at hr
   cases hy:nth ps j with
   | none=>rw [hy]at hr;cases hr
   | some y=>
    rw [hy]at hr
    injection hr with hr
    obtain⟨_,_,_,_,_,q,hq,U3⟩:=dp j y hy
    rw [hq]at hm
    have UQ:GR y=true:=by
     cases y<;>simp only [PR.fin,reduceCtorEq]at hr
     injection hr with e1 e2
     subst e2;rfl
    rw [UQ]at U3
    cases q<;>simp [GO]at U3
    subst U3
    simp at hm
 have Nq:∀j i,bU θ j=some i→X ((bU θ j).getD 0)=X i:=fun j i hj=>by simp [hj]
 have hsat:Sat (cN ps) (fun j=>X ((bU θ j).getD 0)) w:=by
  refine⟨fun j r hr=>?_,fun i j hi hj JI k J7=>?_⟩
  ·obtain⟨i,r',h1,h2,h3⟩:=Mx j r hr
   rw [Nq j i h1]
   have:=hI.sat.res i r' h2
   rcases h3 with rfl | ⟨t,own,T,T',A,c',l,rfl,rfl⟩
   ·exact this
   ·exact this.rd
  ·obtain⟨x,hx⟩:=bM hi
   obtain⟨y,hy⟩:=bM hj
   obtain⟨a,_,h1,h2,_⟩:=Mx i x hx
   obtain⟨b,_,h3,h4,_⟩:=Mx j y hy
   rw [Nq i a h1]at J7
   rw [Nq j b h3]
   exact hI.sat.dis a b (aP h2) (aP h4) (fun e=>JI (Mh i j a h1 (e▸h3))) k J7
 have QO:=g3 _ (g1 _ hlv)
 have Uc:aw (cN ps) fr0 (sN 0 ps):=by
  intro key k hm
  obtain⟨j,t,r,s,lk,p,j',q,e1,e2,rfl,rfl⟩:=gU hm
  rw [Nat.zero_add]
  obtain⟨id,x,h1,h2,h3,_⟩:=dp _ _ e1
  rw [Nat.zero_add]at h1
  obtain⟨h3,h4⟩:=h3
  obtain⟨i,h5,h6⟩:=h4 _ _ _ e2
  refine⟨t,r,s,by rw [gZ,e1];rfl,?_⟩
  dsimp only at h5
  unfold gC at h5
  split at h5
  ·rename_i k' Lr
   injection h5 with h5
   subst h5
   obtain⟨t',r',s',g1,g2⟩:=hk.get Lr
   rw [h2,h3]at g1
   injection g1 with g1
   cases g1
   show den U (cN ps) (.obj j' q 0)=_
   rw [nS]
   exact Ld (p:= .obj j' q 0) (q:= .obj i q 0) (by simp [PK.ren,h6]) g2
  ·cases h5
 have Lt:=QO _ h _ w hsat Uc
 rw [K4]at Lt
 refine Lt.mono fun e w' hp=>?_
 obtain⟨out,rsl,Xl,rfl,hQ,J8,Kw⟩:=hp
 split at hQ
 case h_2=>exact hQ.elim
 rename_i rs' Od
 obtain⟨Vu,S6⟩:=nm Mh hM J8 Od Mx Vf
 obtain⟨u1,u2,u3⟩:=dX Od
 obtain⟨v1,v2,v3⟩:=dX J8
 have Pe:∀i,i∈M→i<st.rs.length:=fun i hi=>(u3 i hi).1
 have hkl:c.res.length=ps.length:=lp.symm
 have OM:rsl.length=ps.length:=by rw [v1];simp
 have Mi:Emb (yw θ c.res.length st.rs.length) (rsl++out.news) (rs'++out.news):=by
  intro j r hr
  rw [aU]at hr
  unfold yw
  by_cases hj:j<rsl.length
  ·rw [if_pos hj]at hr
   obtain⟨i,r',h1,h2,h3⟩:=Vu j r hr
   have hb:Nat.blt j c.res.length=true:=by rw [Nat.blt_eq];omega
   rw [hb]
   exact⟨i,r',h1,by rw [aU,if_pos (aP h2)];exact h2,h3⟩
  ·rw [if_neg hj]at hr
   have hb:Nat.blt j c.res.length=false:=by
    cases hb:Nat.blt j c.res.length
    ·rfl
    ·rw [Nat.blt_eq]at hb;omega
   rw [hb]
   refine⟨_,r,rfl,?_,.inl rfl⟩
   rw [aU,if_neg (by omega),u1]
   rw [show st.rs.length+(j - c.res.length) - st.rs.length=j - rsl.length by omega]
   exact hr
 let X':Nat→Nat→Prop:=fun i=>open Classical in if h:∃j,j∈c.bd∧bU θ j=some i then Xl h.choose else if i<st.rs.length then X i else Xl (c.res.length+(i - st.rs.length))
 have VI:∀j i,j∈c.bd→bU θ j=some i→X' i=Xl j:=by
  intro j i hj hi
  have hex:∃j,j∈c.bd∧bU θ j=some i:=⟨j,hj,hi⟩
  show(open Classical in if h:_ then _ else _)=_
  rw [dif_pos hex,Mh _ _ _ hex.choose_spec.2 hi]
 have VJ:∀i,i∈M→∃j,j∈c.bd∧bU θ j=some i:=fun i hi=>uH hM i hi
 have hjM:∀j i,j∈c.bd→bU θ j=some i→i∈M:=by
  intro j i hj hi
  obtain⟨b,hb,Np⟩:=jS hM j hj
  rw [hi]at Np
  injection Np with Np
  exact Np▸hb
 have hXs:∀i,i<st.rs.length→i ∉ M→X' i=X i:=by
  intro i hi hm
  show(open Classical in if h:_ then _ else _)=_
  rw [dif_neg (fun⟨j,hj,JN⟩=>hm (hjM j i hj JN)),if_pos hi]
 have VH:∀i,st.rs.length≤i→X' i=Xl (c.res.length+(i - st.rs.length)):=by
  intro i hi
  show(open Classical in if h:_ then _ else _)=_
  rw [dif_neg (fun⟨j,hj,JN⟩=>by have:=Pe i (hjM j i hj JN);omega),if_neg (by omega)]
 have Pa:∀j,j∈c.bd→j<ps.length:=by
  intro j hj
  obtain⟨b,_,hb⟩:=jS hM j hj
  exact Jt j b hb
 have Vg:∀j r,j∈c.bd→nth rsl j=some r→nth (rsl++out.news) j=some r:=fun j r hj hr=>by rw [aU,if_pos (aP hr)];exact hr
 have U0:∀j i r,j∈c.bd→bU θ j=some i→nth rs' i=some r→nth rsl j=some r:=by
  intro j i r hj hi hr
  obtain⟨r0,Og⟩:=bM (l:=rsl) (i:=j) (by rw [OM];exact Pa j hj)
  obtain⟨i',h1,h2⟩:=S6 j hj r0 Og
  rw [hi]at h1
  injection h1 with h1
  subst h1
  rw [hr]at h2
  injection h2 with h2
  rw [Og,h2]
 have hq:Ch (fun k=>∃j,j∈M∧X j k) w w':=Kw.ch.mono fun k ⟨j,hj,hk⟩=>by
  obtain⟨b,hb,Np⟩:=jS hM j hj
  exact⟨b,hb,by rw [Nq j b Np]at hk;exact hk⟩
 have PE:∀i,i∈M→∀k,X' i k→X i k∨w.heap.size≤k:=by
  intro i hi k hk
  obtain⟨j,hj,JN⟩:=VJ i hi
  rw [VI j i hj JN]at hk
  have:=Kw.grow j hj k hk
  rwa [Nq j i JN]at this
 have hnlen:(rs'++out.news).length=st.rs.length+out.news.length:=by rw [List.length_append,u1]
 have P8:∀i,st.rs.length≤i→i<(rs'++out.news).length→∀k,X' i k→w.heap.size≤k:=by
  intro i h1 h2 k hk
  rw [VH i h1]at hk
  exact Kw.new _ (by simp;omega) (by simp;omega) k hk
 have Kk:∀i,i<st.rs.length→i ∉ M→nth (rs'++out.news) i=nth st.rs i∧X' i=X i:=fun i hi hm=>⟨by rw [aU,if_pos (by omega)];exact u2 i hm,hXs i hi hm⟩
 have hinv:Inv w0 k0 X0 may (rs'++out.news) X' w':=by
  refine hI.step M hq (fun j hj=>⟨Pe j hj,eY (bP.1 JO j hj)⟩) (by omega) Kk ?_ PE P8 ?_
  ·intro i hi r hr
   by_cases Qe:i∈M
   ·obtain⟨j,hj,JN⟩:=VJ i Qe
    rw [aU,if_pos (by have:=Pe i Qe;omega)]at hr
    have h1:=U0 j i r hj JN hr
    rw [VI j i hj JN]
    exact Kw.sat.res j r (Vg j r hj h1)
   ·have hi:=hi.resolve_left Qe
    rw [aU,if_neg (by omega)]at hr
    rw [VH i hi]
    refine Kw.sat.res _ r ?_
    rw [aU,if_neg (by omega)]
    rw [show c.res.length+(i - st.rs.length) - rsl.length=i - rs'.length by omega]
    exact hr
  ·intro i j hi hj JI h1 h2 k hk
   have key:∀i,(i∈M∨st.rs.length≤i)→i<(rs'++out.news).length→∃a,X' i=Xl a∧a<(rsl++out.news).length∧((i∈M∧a∈c.bd∧bU θ a=some i)∨(st.rs.length≤i∧a=c.res.length+(i - st.rs.length))):=by
    intro i hi Ue
    by_cases Qe:i∈M
    ·obtain⟨a,ha,hai⟩:=VJ i Qe
     exact⟨a,VI a i ha hai,by have:=Pa a ha;simp;omega,.inl ⟨Qe,ha,hai⟩⟩
    ·have hi:=hi.resolve_left Qe
     exact⟨_,VH i hi,by simp;omega,.inr ⟨hi,rfl⟩⟩
   obtain⟨a,ea,la',ca⟩:=key i hi h1
   obtain⟨b,eb,lb,cb⟩:=key j hj h2
   rw [ea]at hk
   rw [eb]
   refine Kw.sat.dis a b la' lb (fun QS=>?_) k hk
   subst QS
   rcases ca with⟨m1,m2,m3⟩ | ⟨m1,m2⟩<;>rcases cb with⟨n1,n2,n3⟩ | ⟨n1,n2⟩
   ·rw [m3]at n3;injection n3 with n3;exact JI n3
   ·have:=Pa a m2;omega
   ·have:=Pa a n2;omega
   ·omega
 have hQ:=jQ (fun i r hr=>⟨_,_,hinv.sat.res i r hr⟩) hQ
 refine⟨out.res,_,_,X',M,(ru ..).symm,hQ,Kw.kr.imp (fun e=>by rw [e];rfl) Mi.knO,hinv,?_,rfl,Pe,fun i hi=>eY (bP.1 JO i hi),by simp only [];omega,Kk,PE,P8,hq,fun i a ha=>by
  by_cases hi:i∈M
  ·obtain⟨b,hb,hr⟩:=(u3 i hi).2 a ha
   exact⟨b,by rw [aU,if_pos (aP hb)];exact hb,hr⟩
  ·exact⟨a,by rw [(Kk i (aP ha) hi).1];exact ha,cl.refl a⟩⟩
 refine aw.app ?_ (aw.dE hk (fun i hi hm=>(Kk i hi hm).1) fun i hi a ha=>?_)
 ·intro key k' Jp
  obtain⟨i,i',o,k,⟨rfl,h1⟩ | ⟨rfl,h1⟩,h2,h3⟩:=gV Jp
  ·obtain⟨g,cs,T,v,e1,e2,e3⟩:=Kw.kc _ k h1 (fun _ e=>by cases e)
   obtain⟨i2,r',f1,f2,f3⟩:=Mi i _ e1
   rw [h2]at f1
   injection f1 with f1
   subst f1
   rcases f3 with rfl | ⟨_,_,_,_,_,_,_,hh,_⟩
   ·exact⟨g,cs,T,v,f2,e2,Mi.kn h3 e3⟩
   ·cases hh
  ·obtain⟨t,r,s,e1,e2⟩:=Kw.kc _ k h1 (fun _ e=>by cases e)
   obtain⟨i2,r',f1,f2,f3⟩:=Mi i _ e1
   rw [h2]at f1
   injection f1 with f1
   subst f1
   rcases f3 with rfl | ⟨_,_,_,_,_,_,_,hh,_⟩
   ·exact⟨t,r,s,f2,Mi.kn h3 e2⟩
   ·cases hh
 ·obtain⟨b,hb,hr⟩:=(u3 i hi).2 a ha
  exact⟨b,by rw [aU,if_pos (aP hb)];exact hb,hr⟩
end
end
end Go.Proofs.YtfgpafjlcgaimaaGreatDoor.V
