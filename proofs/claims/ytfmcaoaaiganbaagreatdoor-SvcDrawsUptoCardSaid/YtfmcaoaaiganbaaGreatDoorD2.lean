/- SvcDraws returns true for every input of bulk at most 1048576; each argument reads behind the call as it read before. -/
import Derived.Test.YtfmcaoaaiganbaaGreatDoorD1
import Derived.Test.YtfmcaoaaiganbaaGreatDoorProg
import Derived.KernelRfl
set_option linter.unusedVariables false
set_option linter.unusedSimpArgs false
namespace Go.Proofs.YtfmcaoaaiganbaaGreatDoor.V
open Go Go.RowKit
open Go.IntKind (i64 u32 u64)
open Enc (enc)
section
section
variable {U:Uni} {P:Program} {tbl:Tb U} {may:List Nat} {k0:Nat}
theorem er {α β:Type}(f:α→β):∀l,ay f l=l.map f
 | []=>rfl
 | a::l=>by simp [ay,er f l]
theorem aR {α β:Type}(f:α→β):∀(l:List α)(i:Nat),nth (ay f l) i=(nth l i).map f
 | [],_=>rfl
 | _::_,0=>rfl
 | _::l,i+1=>aR f l i
@[simp] theorem AS {α β:Type}(f:α→β):∀l:List α,(ay f l).length=l.length
 | []=>rfl
 | _::l=>by simp [ay,AS f l]
theorem cV {x:Nat}:∀ {l:List Nat},iC x l=true↔x∈l
 | []=>by simp [iC]
 | y::r=>by
  unfold iC
  split
  ·rename_i h
   have:=Nat.eq_of_beq_eq_true h
   simp [this]
  ·rename_i h
   have h':¬x=y:=by rintro rfl;simp at h
   rw [cV]
   simp [h']
theorem jL:∀ {l:List Nat},lv l=true→l.Nodup
 | [],_=>List.nodup_nil
 | x::r,h=>by
  unfold lv at h
  split at h
  ·cases h
  ·rename_i hm
   refine List.nodup_cons.2 ⟨fun hx=>?_,jL h⟩
   rw [cV.2 hx]at hm
   cases hm
theorem bD {α:Type} {f:α→Bool}:∀ {l:List α},gg f l=true↔∀x∈l,f x=true
 | []=>by simp [gg]
 | a::r=>by
  unfold gg
  split
  ·rename_i h
   rw [bD]
   simp [h]
  ·rename_i h
   simp [h]
theorem uc {α:Type} {f:α→Bool}:∀ {l:List α},jr f l=true↔∃x∈l,f x=true
 | []=>by simp [jr]
 | a::r=>by
  unfold jr
  split
  ·rename_i h
   simp [h]
  ·rename_i h
   rw [uc]
   simp [h]
theorem nK {α β:Type} {f:α→Option β}:∀ {l:List α} {r:List β},fk f l=some r→r.length=l.length∧∀i a,nth l i=some a→∃b,f a=some b∧nth r i=some b
 | [],r,h=>by
  simp only [fk,Option.some.injEq]at h
  subst h
  exact⟨rfl,fun i a hi=>by simp [nth]at hi⟩
 | a::l,r,h=>by
  unfold fk at h
  split at h
  ·rename_i b bs hb Rf
   injection h with h
   subst h
   obtain⟨h1,h2⟩:=nK Rf
   refine⟨by simp [h1],fun i x hx=>?_⟩
   cases i with
   | zero=>simp [nth]at hx;subst hx;exact⟨b,hb,rfl⟩
   | succ i=>exact h2 i x hx
  ·cases h
theorem dq {α:Type}:∀(n:Nat)(l:List α),gl n l=l.take n
 | 0,_=>by simp [gl]
 | n+1,[]=>by simp [gl]
 | n+1,a::l=>by simp [gl,dq n l]
theorem dU {α:Type}:∀(n:Nat)(l:List α),jy n l=l.drop n
 | 0,_=>by simp [jy]
 | n+1,[]=>by simp [jy]
 | n+1,a::l=>by simp [jy,dU n l]
theorem sw {α:Type}:∀(l:List α)(i:Nat)(x:α),bh l i x=l.set i x
 | [],_,_=>by simp [bh]
 | _::_,0,_=>rfl
 | _::l,i+1,x=>by simp [bh,sw l i x]
theorem lT:∀(vs:List Value)(cs:List Value)(o:Nat),setAt ⟨cs⟩ o vs=⟨ek cs o vs⟩
 | [],_,_=>rfl
 | v::r,cs,o=>by
  have e:(Array.mk cs).setIfInBounds o v=⟨bh cs o v⟩:=by apply Array.ext';simp [sw]
  simp only [setAt,ek,e]
  exact lT r _ _
@[simp] theorem yo {α:Type}:∀(vs:List α)(cs:List α)(o:Nat),(ek cs o vs).length=cs.length
 | [],_,_=>rfl
 | v::r,cs,o=>by simp [ek,yo r]
theorem jg {α:Type}:∀(vs:List α)(cs:List α)(o i:Nat),o+vs.length≤cs.length→nth (ek cs o vs) i=if o≤i∧i<o+vs.length then nth vs (i - o)else nth cs i
 | [],cs,o,i,h=>by
  simp only [ek,List.length_nil,Nat.add_zero]
  rw [if_neg (by omega)]
 | v::r,cs,o,i,h=>by
  simp only [List.length_cons]at h
  simp only [ek,List.length_cons]
  rw [jg r _ _ _ (by simp;omega),aJ]
  by_cases h1:o+1≤i∧i<o+1+r.length
  ·rw [if_pos h1,if_pos (by omega)]
   have:i - o=(i - (o+1))+1:=by omega
   rw [this];rfl
  ·rw [if_neg h1]
   by_cases h2:i=o
   ·subst h2
    rw [if_pos ⟨rfl,by omega⟩,if_pos (by omega)];simp [nth]
   ·rw [if_neg (by omega),if_neg (by omega)]
theorem cq {f:Key→Kn→Bool} {key:Key} {k:Kn}:∀ {l:List (Key×Kn)},(key,k)∈cT f l→(key,k)∈l∧f key k=true
 | [],h=>by cases h
 | (a,q)::r,h=>by
  unfold cT at h
  split at h
  ·rename_i hf
   rcases List.mem_cons.1 h with e | h
   ·injection e with e1 e2;subst e1;subst e2;exact⟨List.mem_cons_self ..,hf⟩
   ·have:=cq h;exact⟨List.mem_cons_of_mem _ this.1,this.2⟩
  ·have:=cq h;exact⟨List.mem_cons_of_mem _ this.1,this.2⟩
theorem Key.jN:∀ {a b:Key},a.eq b=true→a=b
 | .s a,.s b,h=>by rw [Nat.eq_of_beq_eq_true h]
 | .c a b,.c x y,h=>by
  simp only [Key.eq,Bool.and_eq_true]at h
  rw [Nat.eq_of_beq_eq_true h.1,Nat.eq_of_beq_eq_true h.2]
 | .l a b,.l x y,h=>by
  simp only [Key.eq,Bool.and_eq_true]at h
  rw [Nat.eq_of_beq_eq_true h.1,Nat.eq_of_beq_eq_true h.2]
 | .s _,.l _ _,h=>by cases h
 | .l _ _,.s _,h=>by cases h
 | .c _ _,.l _ _,h=>by cases h
 | .l _ _,.c _ _,h=>by cases h
 | .s _,.c _ _,h=>by cases h
 | .c _ _,.s _,h=>by cases h
theorem qb {key:Key} {k:Kn}:∀ {l:List (Key×Kn)},bI key l=some k→(key,k)∈l
 | [],h=>by cases h
 | (a,q)::r,h=>by
  unfold bI at h
  split at h
  ·rename_i he
   injection h with h
   subst h
   rw [Key.jN he]
   exact List.mem_cons_self ..
  ·exact List.mem_cons_of_mem _ (qb h)
theorem PK.jN:∀ {a b:PK},a.eq b=true→a=b
 | .loc a b,.loc x y,h=>by
  simp only [PK.eq,Bool.and_eq_true]at h
  rw [Nat.eq_of_beq_eq_true h.1,Nat.eq_of_beq_eq_true h.2]
 | .obj a b c,.obj x y z,h=>by
  simp only [PK.eq,Bool.and_eq_true]at h
  rw [Nat.eq_of_beq_eq_true h.1,Nat.eq_of_beq_eq_true h.2.1,Nat.eq_of_beq_eq_true h.2.2]
 | .sl a b,.sl x y,h=>by
  simp only [PK.eq,Bool.and_eq_true]at h
  rw [Nat.eq_of_beq_eq_true h.1,Nat.eq_of_beq_eq_true h.2]
 | .loc ..,.obj ..,h | .loc ..,.sl ..,h | .loc ..,.el ..,h | .obj ..,.loc ..,h | .obj ..,.sl ..,h | .obj ..,.el ..,h | .sl ..,.loc ..,h | .sl ..,.obj ..,h | .sl ..,.el ..,h | .el ..,.loc ..,h | .el ..,.obj ..,h | .el ..,.sl ..,h | .el ..,.el ..,h=>by cases h
theorem Kn.jN {a b:Kn}(h:a.eq b=true):a=b∧∃p,a= .p p:=by
 cases a<;>cases b<;>simp only [Kn.eq]at h<;>first | cases h | skip
 rename_i p q
 exact⟨by rw [PK.jN h],p,rfl⟩
def Kn.has(p:PK):Kn→Prop
 | .p k=>k=p
 | .t l=>∃j,nth l j=some (some p)
 | .ag l=>∃j,nth l j=some (some p)
 | .f a b=>(∃j,nth a j=some (some p))∨∃j,nth b j=some (some p)
 | .pan=>False
theorem fz.mono {rs rs':List (Res U)} {v:Value} {k:Kn}(h:fz rs v k)(hd:∀p,k.has p→∀u,den U rs p=some u→den U rs' p=some u):fz rs' v k:=by
 cases k with
 | pan=>exact h
 | p k=>exact hd k rfl _ h
 | t l=>
  obtain⟨vs,h1,h2⟩:=h
  exact⟨vs,h1,fun j k hj=>by obtain⟨u,hu,K5⟩:=h2 j k hj;exact⟨u,hu,hd k ⟨j,hj⟩ _ K5⟩⟩
 | ag l=>
  obtain⟨vs,h1,h2⟩:=h
  exact⟨vs,h1,fun j k hj=>by obtain⟨u,hu,K5⟩:=h2 j k hj;exact⟨u,hu,hd k ⟨j,hj⟩ _ K5⟩⟩
 | f a b=>
  obtain⟨f,fs,cs,h1,hl,h2,h3⟩:=h
  exact⟨f,fs,cs,h1,hl,fun j k hj=>by obtain⟨u,hu,K5⟩:=h2 j k hj;exact⟨u,hu,hd k (.inl ⟨j,hj⟩) _ K5⟩,fun j k hj=>by obtain⟨u,hu,K5⟩:=h3 j k hj;exact⟨u,hu,hd k (.inr ⟨j,hj⟩) _ K5⟩⟩
theorem eO {α:Type}:∀ {l:List α} {i:Nat} {x:α},nth l i=some x→x∈l
 | a::l,0,x,h=>by simp [nth]at h;subst h;exact List.mem_cons_self ..
 | a::l,i+1,x,h=>List.mem_cons_of_mem _ (eO (l:=l) h)
theorem Kn.vE {k:Kn} {i:Nat}(h:k.ofList i=false) {p:PK}(hp:k.has p):p.ofList i=false:=by
 have key:∀ {l:List (Option PK)},jr (pS i) l=false→∀j,nth l j=some (some p)→p.ofList i=false:=by
  intro l hl j hj
  cases he:p.ofList i
  ·rfl
  ·have:jr (pS i) l=true:=uc.2 ⟨some p,eO hj,he⟩
   rw [hl]at this
   cases this
 cases k with
 | pan=>exact hp.elim
 | p k=>cases hp;exact h
 | t l=>obtain⟨j,hj⟩:=hp;exact key h j hj
 | ag l=>obtain⟨j,hj⟩:=hp;exact key h j hj
 | f a b=>
  simp only [Kn.ofList]at h
  split at h
  ·cases h
  ·rename_i ha
   rcases hp with⟨j,hj⟩ | ⟨j,hj⟩
   ·exact key ha j hj
   ·exact key h j hj
inductive bQ:Res U→Res U→Prop
 | blk (g:Nat)(cs cs':List Value)(T:TypeId):cs.length=cs'.length→bQ (.blk g cs T) (.blk g cs' T)
 | ob (t:Nat)(r:Nat→Nat)(s s':U.ty t):bQ (.ob t r s) (.ob t r s')
 | lst (t:Nat)(own:Bool)(T:TypeId)(A A':Option Addr)(c c':Nat)(l l':List (U.el t)):bQ (.lst t own T A c l) (.lst t own T A' c' l')
theorem bQ.refl:∀a:Res U,bQ a a
 | .blk g cs T=>.blk g cs cs T rfl
 | .ob t r s=>.ob t r s s
 | .lst t own T A c l=>.lst t own T A A c c l l
theorem bQ.den {a b:Res U}(h:bQ a b) {p:PK} {v:Value}(hp:p.ofList p.id=false∨a=b)(hd:bm U p (some a)=some v):bm U p (some b)=some v:=by
 rcases hp with hp | rfl
 ·cases h<;>cases p<;>simp only [bm,PK.ofList,PK.id,reduceCtorEq]at hd hp ⊢ <;>first | exact hd | (simp at hp)
 ·exact hd
theorem tW {r r':Res U} {u:Upd U}(h:bU r u=some r'):bQ r r':=by
 cases r<;>cases u<;>simp only [bU]at h<;>first | cases h | skip
 ·split at h
  ·rename_i hb
   injection h with h;subst h
   exact .blk _ _ _ _ (Nat.eq_of_beq_eq_true hb).symm
  ·cases h
 ·split at h
  ·rename_i t r s t' s' ht
   subst ht
   injection h with h;subst h
   exact .ob _ _ _ _
  ·cases h
 ·split at h
  ·rename_i t own T A c l t' A' c' l' ht
   subst ht
   injection h with h;subst h
   exact .lst _ _ _ _ _ _ _ _ _
  ·cases h
theorem bQ.trans {a b c:Res U}(h:bQ a b)(k:bQ b c):bQ a c:=by
 cases h<;>cases k
 ·rename_i h1 _ h2;exact .blk _ _ _ _ (h1.trans h2)
 ·exact .ob _ _ _ _
 ·exact .lst _ _ _ _ _ _ _ _ _
theorem nX {rs rs':List (Res U)} {M:List Nat}(hs:∀i,i<rs.length→i ∉ M→nth rs' i=nth rs i)(hr:∀i,i∈M→∀a,nth rs i=some a→∃b,nth rs' i=some b∧bQ a b)
 {p:PK}(hp:p.id ∉ M∨p.ofList p.id=false) {v:Value}(hd:den U rs p=some v):den U rs' p=some v:=by
 unfold den at hd ⊢
 cases hn:nth rs p.id with
 | none=>rw [hn]at hd;cases p<;>simp [bm]at hd
 | some a=>
  rw [hn]at hd
  by_cases hm:p.id∈M
  ·obtain⟨b,hb,Mm⟩:=hr _ hm a hn
   rw [hb]
   exact Mm.den (.inl (hp.elim (fun h=>absurd hm h) id)) hd
  ·rw [hs _ (aH hn) hm,hn];exact hd
theorem cP.GR {rs:List (Res U)} {fr fr':Fr}(h:∀i,lk fr'.g i fr'.e=lk fr.g i fr.e) {key:Key} {k:Kn}(hp:cP rs fr key k):cP rs fr' key k:=by
 cases key with
 | s i=>show fz rs (lk fr'.g i fr'.e) k;rw [h];exact hp
 | c id off=>exact hp
 | l id path=>exact hp
theorem ar.same {rs:List (Res U)} {fr fr':Fr} {kn:List (Key×Kn)}(h:ar rs fr kn)(he:∀i,lk fr'.g i fr'.e=lk fr.g i fr.e):ar rs fr' kn:=fun key k hk=>(h key k hk).GR he
theorem ar.app {rs:List (Res U)} {fr:Fr} {a b:List (Key×Kn)}(h:ar rs fr a)(k:ar rs fr b):ar rs fr (a++b):=fun key q hq=>(List.mem_append.1 hq).elim (h key q) (k key q)
theorem ar.nil {rs:List (Res U)} {fr:Fr}:ar rs fr []:=fun _ _ h=>by cases h
theorem ar.get {rs:List (Res U)} {fr:Fr} {kn:List (Key×Kn)}(h:ar rs fr kn) {key:Key} {k:Kn}(hk:bI key kn=some k):cP rs fr key k:=h _ _ (qb hk)
theorem ar.kf {rs:List (Res U)} {fr:Fr} {kn:List (Key×Kn)}(h:ar rs fr kn)(x:Operand):KnO rs (ev fr x) (V.kf kn x):=by
 cases x with
 | tmp t=>
  show KnO rs (lk fr.g t fr.e) (bI (.s t) kn)
  cases hg:bI (.s t) kn with
  | none=>exact trivial
  | some k=>exact h.get hg
 | const v=>exact trivial
 | global g=>exact trivial
 | func f=>exact trivial
theorem ar.fY {rs rs':List (Res U)} {fr:Fr} {kn:List (Key×Kn)} {M:List Nat}(h:ar rs fr kn)(hs:∀i,i<rs.length→i ∉ M→nth rs' i=nth rs i)(hr:∀i,i∈M→∀a,nth rs i=some a→∃b,nth rs' i=some b∧bQ a b)
 {kn':List (Key×Kn)}(hk:∀key k,(key,k)∈kn'→(key,k)∈kn∧(∀p,k.has p→p.id ∉ M∨p.ofList p.id=false)∧∀id off,key= .c id off→id ∉ M∨∃g cs cs' T,nth rs id=some (.blk g cs T)∧nth rs' id=some (.blk g cs' T)∧nth cs' off=nth cs off):ar rs' fr kn':=by
 intro key k hm
 obtain⟨h1,h2,h3⟩:=hk key k hm
 have h0:=h key k h1
 have hd:∀p,k.has p→∀u,den U rs p=some u→den U rs' p=some u:=fun p hp u hu=>nX hs hr (h2 p hp) hu
 cases key with
 | s i=>exact fz.mono h0 hd
 | c id off=>
  obtain⟨g,cs,T,v,e1,e2,e3⟩:=h0
  rcases h3 id off rfl with h3 | ⟨g',cs1,RZ,T',e4,e5,e6⟩
  ·exact⟨g,cs,T,v,by rw [hs _ (aH e1) h3];exact e1,e2,e3.mono hd⟩
  ·rw [e1]at e4
   injection e4 with e4
   injection e4 with e4 e7 e8
   subst e4;subst e7;subst e8
   exact⟨g,RZ,T,v,e5,by rw [e6];exact e2,e3.mono hd⟩
 | l id path=>
  obtain⟨t,r,s,e1,e2⟩:=h0
  by_cases hm:id∈M
  ·obtain⟨b,hb,Mm⟩:=hr id hm _ e1
   cases Mm
   exact⟨t,r,_,hb,e2.mono hd⟩
  ·exact⟨t,r,s,by rw [hs _ (aH e1) hm];exact e1,e2.mono hd⟩
theorem pO {key:Key} {k:Kn}:∀ {M:List Nat} {kn:List (Key×Kn)},(key,k)∈cQ M kn→(key,k)∈kn∧∀i∈M,k.ofList i=false∧∀off,key≠ .c i off
 | [],kn,h=>⟨h,fun i hi=>by cases hi⟩
 | i::r,kn,h=>by
  unfold cQ at h
  obtain⟨h1,h2⟩:=pO h
  obtain⟨h3,h4⟩:=cq h1
  simp only [Bool.and_eq_true,Bool.not_eq_true']at h4
  refine⟨h3,fun j hj=>?_⟩
  rcases List.mem_cons.1 hj with rfl | hj
  ·refine⟨h4.1,fun off e=>?_⟩
   subst e
   simp at h4
  ·exact h2 j hj
theorem ar.cQ {rs rs':List (Res U)} {fr:Fr} {kn:List (Key×Kn)} {M:List Nat}(h:ar rs fr kn)(hs:∀i,i<rs.length→i ∉ M→nth rs' i=nth rs i)(hr:∀i,i∈M→∀a,nth rs i=some a→∃b,nth rs' i=some b∧bQ a b):ar rs' fr (V.cQ M kn):=by
 refine h.fY hs hr fun key k hk=>?_
 obtain⟨h1,h2⟩:=pO hk
 refine⟨h1,fun p hp=>?_,fun id off e=>?_⟩
 ·by_cases hm:p.id∈M
  ·exact .inr (Kn.vE (h2 _ hm).1 hp)
  ·exact .inl hm
 ·by_cases hm:id∈M
  ·exact absurd e ((h2 id hm).2 off)
  ·exact .inl hm
theorem AX {rs:List (Res U)} {fr fr':Fr} {kn:List (Key×Kn)} {d:Nat} {v:Value} {k:Option Kn}(h:ar rs fr kn)(hv:KnO rs v k)(h1:lk fr'.g d fr'.e=v)(h2:∀i,i≠d→lk fr'.g i fr'.e=lk fr.g i fr.e):ar rs fr' (tj (.s d) k kn):=by
 have key:ar rs fr' (cT (fun a _=>!(a.eq (.s d))) kn):=by
  intro a q hq
  obtain⟨hm,hf⟩:=cq hq
  have h0:=h a q hm
  cases a with
  | s i=>
   have IE:i≠d:=by rintro rfl;simp [Key.eq]at hf
   show fz rs (lk fr'.g i fr'.e) q
   rw [h2 i IE];exact h0
  | c id off=>exact h0
  | l id path=>exact h0
 unfold tj
 split
 ·exact key
 ·rename_i q
  intro a z hz
  rcases List.mem_cons.1 hz with e | hz
  ·injection e with e1 e2
   subst e1;subst e2
   show fz rs (lk fr'.g d fr'.e) z
   rw [h1];exact hv
  ·exact key a z hz
theorem ri(g:Nat→Value)(d i:Nat)(v:Value)(e:List (Nat×Value)):lk g i ((d,v)::e)=if i=d then v else lk g i e:=by
 simp only [lk]
 split
 ·rename_i h;rw [if_pos (Nat.eq_of_beq_eq_true h)]
 ·rename_i h;rw [if_neg (by rintro rfl;simp at h)]
theorem gr {n:Nat} {N:List Nat} {fr:Fr} {dst:Option Tmp} {v:Value} {k:Option Kn} {st:St U} {F:Fr→St U→Prop}(h:sI U n N fr dst v k st F)(hk:ar st.rs fr st.kn)(hv:KnO st.rs v k):
 fV n N fr dst v fun fr'=>∃st',st'.rs=st.rs∧st'.md=st.md∧ar st.rs fr' st'.kn∧fr'.ds=fr.ds∧F fr' st':=by
 unfold sI at h
 unfold fV at h ⊢
 cases dst with
 | none=>exact⟨st,rfl,rfl,hk,rfl,h⟩
 | some d=>
  dsimp only at h ⊢
  split at h
  ·rename_i hb
   have fin:∀u,u=v→F ⟨(d,u)::fr.e,fr.g,fr.ds⟩ {st with kn:=tj (.s d) k st.kn}→∃st':St U,st'.rs=st.rs∧st'.md=st.md∧ar st.rs ⟨(d,u)::fr.e,fr.g,fr.ds⟩ st'.kn∧fr.ds=fr.ds∧F ⟨(d,u)::fr.e,fr.g,fr.ds⟩ st':=by
    intro u hu hF
    subst hu
    exact⟨{st with kn:=tj (.s d) k st.kn},rfl,rfl,AX hk hv (by rw [ri,if_pos rfl]) (fun i hi=>by rw [ri,if_neg hi]),rfl,hF⟩
   split at h
   ·rename_i hN
    cases v with
    | int kk x=>intro z hz;exact fin _ (by rw [hz]) (h z hz)
    | bool x=>intro z hz;exact fin _ (by rw [hz]) (h z hz)
    | _=>exact fin _ rfl h
   ·exact fin _ rfl h
  ·exact h.elim
theorem iF {ops:Array Oper} {o:Oper} {fr:Fr} {yes no yes' no':Fr→Prop}(h:eG ops o fr yes no)(hy:∀fr',(∀i,lk fr'.g i fr'.e=lk fr.g i fr.e)→fr'.ds=fr.ds→yes fr'→yes' fr')(hn:∀fr',(∀i,lk fr'.g i fr'.e=lk fr.g i fr.e)→fr'.ds=fr.ds→no fr'→no' fr'):eG ops o fr yes' no':=by
 unfold eG at h ⊢
 split at h
 ·exact hy fr (fun _=>rfl) rfl h
 ·rename_i j want hg
  split at h
  ·rename_i d hd
   split at h
   ·rename_i b hb
    have hl:∀b',lk fr.g d fr.e= .bool b'→∀i,lk fr.g i ((d,.bool b')::fr.e)=lk fr.g i fr.e:=by
     intro b' KY i
     rw [ri]
     split
     ·rename_i e;rw [e,KY]
     ·rfl
    rcases dQ h with⟨rfl,h2⟩ | ⟨rfl,h2⟩
    ·refine ae (fun _=>?_) (fun e=>by cases e)
     cases want
     ·exact hn _ (hl _ hb) rfl h2
     ·exact hy _ (hl _ hb) rfl h2
    ·refine ae (fun e=>by cases e) (fun _=>?_)
     cases want
     ·exact hy _ (hl _ hb) rfl h2
     ·exact hn _ (hl _ hb) rfl h2
   ·exact hn fr (fun _=>rfl) rfl h
   ·exact h.elim
  ·exact h.elim
theorem yz {o:Oper} {ρ:Operand→Value} {F:Value→Prop}(hc:∀v,ρ (.const v)=v)(hl:∀t x,o.op≠ .load t x)(h:lW P o ρ F)(w:World):∃v,F v∧∀w',w'.os=w.os→w'.tape=w.tape→w'.output=w.output→(execOp ρ o).run P w'= .ok (.value v) w':=by
 have hw:lV P none o ρ {w with heap:= #[]} F False:=by
  unfold lW lV at h
  unfold lV
  generalize o.op=op at h hl ⊢
  cases op<;>first | exact h | exact absurd rfl (hl _ _)
 rcases lu hc hw with⟨v,hv,hr⟩ | hh
 ·exact⟨v,hv,fun w' h1 h2 h3=>hr w' ⟨h1,h2,h3,Nat.zero_le _,fun k hk=>absurd hk (Nat.not_lt_zero _)⟩⟩
 ·exact hh.elim
def rdX(o:Oper)(kn:List (Key×Kn))(X:Nat→Nat→Prop):Nat→Prop:=
 match o.op with
 | .load _ x=>(match V.kf kn x with
  | some (.p k)=>X k.id
  | _=>fun _=>False)
 | _=>fun _=>False
theorem vP {s:TypeId} {x:Value} {f:Nat} {F:Value→Prop}(h:g5 P s x f F):∃fields fd p,P.underlying s=some (.struct fields)∧fields[f]? =some fd∧x= .pointer (some p)∧F (.pointer (some (p.add fd.offset)))∧∀w,(Instr.fieldAt s x f).run P w= .ok (.pointer (some (p.add fd.offset))) w:=by
 have key:∀fields fd p,P.underlying s=some (.struct fields)→fields[f]? =some fd→x= .pointer (some p)→∀w,(Instr.fieldAt s x f).run P w= .ok (.pointer (some (p.add fd.offset))) w:=by
  intro fields fd p h1 h2 h3 w
  have h':g5 P s x f fun v=>v= .pointer (some (p.add fd.offset)):=by
   unfold g5 at h ⊢
   subst h3
   rw [h1]at h ⊢
   simp only at h ⊢
   rw [h2]at h ⊢
   simp only at h ⊢
   split at h
   ·rename_i i hi
    split at h
    ·exact ao p rfl rfl
    ·exact h.elim
   ·exact h.elim
  obtain⟨v,hv,hr⟩:=nU h'
  rw [hr w,hv]
 have h0:=h
 unfold g5 at h
 split at h
 ·rename_i fields hs
  split at h
  ·rename_i fd hf
   split at h
   ·split at h
    ·split at h
     ·obtain⟨p,hp,hF⟩:=bG h
      exact⟨fields,fd,p,hs,hf,by rw [hp],hF,key fields fd p hs hf (by rw [hp])⟩
     ·exact h.elim
    ·exact h.elim
   ·exact h.elim
  ·exact h.elim
 ·exact h.elim
theorem Ba {t:TypeId} {p:Addr} {i:Value} {F:Value→Prop}(h:mu P t (.pointer (some p)) i F):∃n e k ix,P.underlying t=some (.array n e)∧i= .int k ix∧F (.pointer (some (p.add (ix.toNat *aP P e))))∧∀w,(Instr.indexAt t (.pointer (some p)) i).run P w= .ok (.pointer (some (p.add (ix.toNat *aP P e)))) w:=by
 unfold mu at h
 cases hu:P.underlying t with
 | none=>rw [hu]at h;exact h.elim
 | some d=>
  rw [hu]at h
  cases d<;>first | exact h.elim | skip
  rename_i n e
  cases i<;>first | exact h.elim | skip
  rename_i k ix
  simp only at h
  split at h
  ·rename_i he
   obtain⟨hb,h⟩:=h
   obtain⟨q,hq,hF⟩:=bG h
   injection hq with hq
   subst hq
   refine⟨n,e,k,ix,rfl,rfl,hF,fun w=>?_⟩
   have h':mu P t (.pointer (some p)) (.int k ix) fun v=>v= .pointer (some (p.add (ix.toNat *aP P e))):=by
    unfold mu
    rw [hu]
    simp only [he]
    exact⟨hb,ao p rfl rfl⟩
   obtain⟨v,hv,hr⟩:=kz h'
   rw [hr w,hv]
  ·exact h.elim
theorem Ds {t e:TypeId} {A:Option Addr} {n c:Nat} {k:IntKind} {ix:Int} {p:Addr}(ht:P.underlying t=some (.slice e))(he:hasType P e=true)(hb:0≤ix∧ix<n)(hA:A=some p)(w:World):(Instr.indexAt t (.slice A n c) (.int k ix)).run P w= .ok (.pointer (some (p.add (ix.toNat *aP P e)))) w:=by
 have h':mu P t (.slice A n c) (.int k ix) fun v=>v= .pointer (some (p.add (ix.toNat *aP P e))):=by
  unfold mu
  rw [ht]
  simp only [he]
  exact⟨hb,ao p hA rfl⟩
 obtain⟨v,hv,hr⟩:=kz h'
 rw [hr w,hv]
theorem RS.rd {X:Nat→Prop} {w:World} {t:Nat} {own:Bool} {T:TypeId} {A:Option Addr} {c:Nat} {l:List (U.el t)}(h:RS X w (.lst t own T A c l)):Rd w X A l.length c l:=by
 cases own
 ·exact h
 ·have h1:Rd w (fun k=>X k∧k<w.heap.size) A l.length c l:=h.1.rd
  exact h1.mono (fun k hk=>hk.1) h.2
theorem RS.ls {X:Nat→Prop} {w:World} {r:Res U} {li:Nat} {L:Ls U.el}(h:RS X w r)(hl:eP r li=some L):Rd w X L.A L.l.length L.c L.l:=by
 unfold eP at hl
 split at hl
 ·injection hl with hl
  subst hl
  exact RS.rd h
 ·exact U.lX h hl
 ·cases hl
theorem bK {α:Type} {o:Option α} {F:α→Prop}(h:dH o F):∃a,o=some a∧F a:=by
 cases o with
 | none=>exact h.elim
 | some a=>exact⟨a,rfl,h⟩
theorem gw {t:TypeId} {cs:List Value} {off:Nat} {v:Value}(h:fH P t cs off=some v) {w:World} {p:Addr}(hp:∀j u,j<aP P t→nth cs (off+j)=some u→w.cell? (p.add j)=some u):(Instr.loadAt t (.pointer (some p))).run P w= .ok v w:=by
 unfold fH at h
 split at h
 ·rename_i hb
  simp only [Bool.and_eq_true]at hb
  obtain⟨h1,h2,h3,h4⟩:=hb
  have h4:off+aP P t≤cs.length:=Nat.le_of_ble_eq_true h4
  have Lc:eC (cj P t)=aP P t:=Nat.eq_of_beq_eq_true h3
  refine ir (s:=cj P t) h1 h2 h3 ?_
  have hd:∀j,nth (cs.drop off) j=nth cs (off+j):=fun j=>by rw [aB,aB,List.getElem?_drop]
  split at h
  ·rename_i s hs
   have:=hp 0 v (by rw [← Lc,hs];simp [eC]) (by simpa using h)
   rw [hs]
   simpa [eQ,Addr.add]using this
  ·rename_i l hs
   injection h with h
   subst h
   rw [hs]at Lc ⊢
   simp only [eC]at Lc
   have hlen:(cs.drop off |>.take l.length).length=l.length:=by simp;omega
   simp only [eQ,dq,dU,hlen,Nat.beq_refl]
   have key:∀(vs:List Value)(i:Nat),(∀j u,vs[j]? =some u→w.cell? (p.add (i+j))=some u)→fL w p i vs:=by
    intro vs
    induction vs with
    | nil=>intro _ _;exact trivial
    | cons x r ih=>
     intro i hh
     have h0:=hh 0 x rfl
     have h1:=ih (i+1) fun j u hu=>by rw [show i+1+j=i+(j+1)by omega];exact hh (j+1) u (by simpa using hu)
     cases r with
     | nil=>exact h0
     | cons y r=>exact⟨h0,h1⟩
   refine key _ 0 fun j u hu=>?_
   rw [Nat.zero_add]
   have hj:j<l.length:=by have:=(List.getElem?_eq_some_iff.1 hu).1;omega
   refine hp j u (by omega) ?_
   rw [aB,← List.getElem?_drop,← hu,List.getElem?_take,if_pos hj]
  ·rename_i n hs
   injection h with h
   subst h
   rw [hs]at Lc ⊢
   simp only [eC]at Lc
   refine⟨by simp [dq,dU];omega,fun j u hu=>?_⟩
   simp only [dq,dU]at hu
   have hj:j<n:=by
    have:=(Array.getElem?_eq_some_iff.1 hu).1
    simp at this
    omega
   refine hp j u (by omega) ?_
   rw [aB,← List.getElem?_drop]
   have:((cs.drop off).take n)[j]? =some u:=by simpa using hu
   rwa [List.getElem?_take,if_pos hj]at this
 ·cases h
theorem Kept.tQ {B:Nat→Prop} {w w':World}(k:Kept B w w') {p:Addr}(hp:B p.block) {v:Value}(h:w.cell? p=some v):w'.cell? p=some v:=(k.cell hp).trans h
theorem j5:∀ {n k j i:Nat},nth (upN n k) j=some i→i=n+j
 | n,0,j,i,h=>by simp [upN,nth]at h
 | n,k+1,0,i,h=>by simp [upN,nth]at h;omega
 | n,k+1,j+1,i,h=>by have:=j5 (n:=n+1) (k:=k) (j:=j) h;omega
theorem j6:∀(n k:Nat),(upN n k).length=k
 | _,0=>rfl
 | n,k+1=>by simp [upN,j6 (n+1) k]
theorem yA {o:Option Kn} {p:PK}(h:fW o=some p):o=some (.p p):=by
 unfold fW at h
 split at h
 ·injection h with h;rw [h]
 ·cases h
theorem yY {st:St U} {fr:Fr} {id off:Nat} {g:Nat} {cs:List Value} {T t:TypeId} {v:Value}(hk:ar st.rs fr st.kn)(hn:nth st.rs id=some (.blk g cs T))(hv:fH P t cs off=some v)(hs:il P t=false):KnO st.rs v (vS id off st.kn v):=by
 unfold vS
 split
 ·rename_i v2 RZ
  split
  ·refine⟨RZ,rfl,fun j p hj=>?_⟩
   rw [aR]at hj
   cases hu:nth (upN 0 RZ.toList.length) j with
   | none=>rw [hu]at hj;cases hj
   | some i=>
    rw [hu]at hj
    have HN:i=j:=by have:=j5 hu;omega
    subst HN
    have Ho:=aH hu
    rw [j6]at Ho
    injection hj with hj
    obtain⟨g',cs',T',u,e1,e2,e3⟩:=hk.get (yA hj)
    rw [hn]at e1
    injection e1 with e1
    injection e1 with _ e1 _
    subst e1
    refine⟨u,?_,e3⟩
    have key:∀m,i<(gl m (jy off cs)).length→(gl m (jy off cs))[i]? =some u:=fun m hm=>by
     rw [dq,dU]at hm ⊢
     rw [List.getElem?_take,if_pos (by simp at hm;omega),List.getElem?_drop,← aB]
     exact e2
    unfold fH at hv
    unfold il at hs
    split at hv
    ·split at hv
     ·rename_i h2;rw [h2]at hs;cases hs
     ·injection hv with hv;injection hv with hv
      subst hv
      simpa using key _ Ho
     ·injection hv with hv;injection hv with hv
      subst hv
      simpa using key _ Ho
    ·cases hv
  ·trivial
 ·trivial
theorem Fa {t:TypeId} {id li off:Nat} {i:Int} {r:Res U} {rs:List (Res U)} {X:Nat→Prop} {w:World} {L:Ls U.el} {y:U.el L.t} {v:Value}(hr:RS X w r)(hn:nth rs id=some r)(hL:eP r li=some L)(hy:L.l[i.toNat]? =some y)(hv:fH P t ((U.en L.t).enc y) off=some v):KnO rs v (neK U P t id li i off r):=by
 unfold neK
 split
 ·rename_i tt q s
  split
  ·rename_i hb
   simp only [Bool.and_eq_true]at hb
   obtain⟨h1,h2,h3⟩:=hb
   have h3:off=0:=Nat.eq_of_beq_eq_true h3
   subst h3
   obtain⟨L',e1,e2⟩:=U.sY (t:=tt) (r:=q) (s:=s) hr h1 hL hy
   have hu:v= .slice L'.A L'.l.length L'.c:=by
    rw [e2]at hv
    unfold fH at hv
    unfold il at h2
    split at hv
    ·split at hv
     ·injection hv with hv;exact hv.symm
     ·rename_i KJ;rw [KJ]at h2;cases h2
     ·rename_i KJ;rw [KJ]at h2;cases h2
    ·cases hv
   show den U rs (.sl id (i.toNat+1))=some v
   simp only [den,PK.id,hn,bm,eP,e1,hu]
  ·trivial
 ·trivial
theorem pZ {t:TypeId} {x:Value} {k:Option Kn} {st:St U} {X:Nat→Nat→Prop} {w:World} {K:Value→Option Kn→Prop}(hS:Sat st.rs X w) {fr:Fr}(hk:ar st.rs fr st.kn)(hx:KnO st.rs x k)(h:p6 U P t k st K):
 ∃v kv,K v kv∧KnO st.rs v kv∧∀w',Kept (match k with | some (.p k)=>X k.id | _=>fun _=>False) w w'→(Instr.loadAt t x).run P w'= .ok v w':=by
 unfold p6 at h
 split at h
 ·rename_i id off
  split at h
  ·rename_i g cs T hn
   obtain⟨v,hv,hK⟩:=bK h
   have hd:den U st.rs (.loc id off)=some x:=hx
   simp only [den,PK.id,hn,bm,Option.some.injEq]at hd
   subst hd
   obtain⟨hg,hX,hb⟩:=hS.res id _ hn
   refine⟨v,_,hK,?_,fun w' hw=>gw hv fun j u hj hu=>?_⟩
   ·cases hs:il P t
    ·exact yY hk hn hv hs
    ·simp only
     cases hq:bI (.c id off) st.kn with
     | none=>exact trivial
     | some q=>
      obtain⟨g',cs',T',u,e1,e2,e3⟩:=hk.get hq
      rw [hn]at e1
      injection e1 with e1
      injection e1 with _ e1 _
      subst e1
      have:v=u:=by
       unfold fH at hv
       unfold il at hs
       split at hv
       ·split at hv
        ·rw [e2]at hv;injection hv with hv;exact hv.symm
        ·rename_i KJ;rw [KJ]at hs;cases hs
        ·rename_i KJ;rw [KJ]at hs;cases hs
       ·cases hv
      rw [this];exact e3
   ·refine Kept.tQ hw (by rw [block_add];exact hg) ?_
    rw [bk]
    exact hb.cell (by rw [aB]at hu;simpa using hu)
  ·exact h.elim
 ·rename_i id path off
  split at h
  ·rename_i tt r s hn
   split at h
   rotate_left
   ·split at h
    ·rename_i c cs hwl
     obtain⟨hc,h⟩:=h
     obtain⟨v,hv,hK⟩:=bK h
     have hd:den U st.rs (.obj id path off)=some x:=hx
     simp only [den,PK.id,hn,bm,Option.some.injEq]at hd
     subst hd
     obtain⟨hX,H2⟩:=U.px (hS.res id _ hn) hwl hc
     refine⟨v,_,hK,trivial,fun w' hw=>gw hv fun j u hj hu=>?_⟩
     refine Kept.tQ hw (by rw [block_add];exact hX) ?_
     rw [Nat.zero_add,aB]at hu
     rw [bk]
     exact H2 j u hu
    ·exact h.elim
   ·rename_i f hf
    obtain⟨u,hu,h⟩:=bK h
    obtain⟨v,hv,hK⟩:=bK h
    have hd:den U st.rs (.obj id path off)=some x:=hx
    simp only [den,PK.id,hn,bm,Option.some.injEq]at hd
    subst hd
    obtain⟨hX,hc⟩:=U.nR (hS.res id _ hn) hf hu
    refine⟨v,_,hK,?_,fun w' hw=>gw hv fun j y hj hy=>?_⟩
    ·cases hs:il P t
     ·exact trivial
     ·have huv:u=v:=by
       unfold fH at hv
       unfold il at hs
       split at hv
       ·split at hv
        ·injection hv
        ·rename_i KJ;rw [KJ]at hs;cases hs
        ·rename_i KJ;rw [KJ]at hs;cases hs
       ·cases hv
      subst huv
      cases f with
      | v y=>exact trivial
      | o p o=>
       have Ng:den U st.rs (.obj id p o)=some u:=by
        simp only [den,PK.id,hn,bm]
        exact hu
       cases o with
       | succ o=>exact Ng
       | zero=>
        show KnO st.rs u (match bI (.l id p) st.kn with
         | some k=>some k
         | none=>some (.p (.obj id p 0)))
        cases hl:bI (.l id p) st.kn with
        | none=>exact Ng
        | some k=>
         obtain⟨t',r',s',e1,e2⟩:=hk.get hl
         rw [hn]at e1
         injection e1 with e1
         cases e1
         simp only [fvV,Option.some.injEq]at hu
         rw [← hu]
         exact e2
      | l i=>
       show den U st.rs (.sl id i)=_
       simp only [den,PK.id,hn,bm]
       simp only [fvV]at hu
       simp only [eP]
       cases hL:U.li tt r s i with
       | none=>rw [hL]at hu;cases hu
       | some L=>simp only [hL]at hu ⊢;exact hu
    ·cases j with
     | zero=>
      simp only [Nat.zero_add,nth,Option.some.injEq]at hy
      subst hy
      exact Kept.tQ hw (by rw [block_add];exact hX) hc
     | succ j=>simp [nth]at hy
  ·exact h.elim
 ·rename_i id li i off
  split at h
  ·rename_i r hn
   split at h
   ·rename_i L hL
    have hd:den U st.rs (.el id li i off)=some x:=hx
    simp only [den,PK.id,hn,bm,hL]at hd
    split at hd
    ·rename_i hb
     injection hd with hd
     subst hd
     have hr:=(hS.res id _ hn).ls hL
     obtain⟨p,y,hA,hy,hZ,hc⟩:=hr.ld hb.1 hb.2
     split at h
     ·rename_i _ ho
      have ho:off=0:=Nat.eq_of_beq_eq_true ho
      subst ho
      split at h
      ·rename_i h1
       have h1:(U.en L.t).size=1:=Nat.eq_of_beq_eq_true h1
       obtain⟨hle,h⟩:=h
       obtain⟨v,hv,hK⟩:=bK h
       refine⟨v,_,hK,trivial,fun w' hw=>gw hv fun j u hj hu=>?_⟩
       rw [Nat.zero_add,Bq,aR]at hu
       cases K5:nth (upN 0 (aP P t)) j with
       | none=>rw [K5]at hu;cases hu
       | some j'=>
        rw [K5]at hu
        have HN:j'=j:=by have:=j5 K5;omega
        subst HN
        have Ho:=aH K5
        rw [j6]at Ho
        injection hu with hu
        have hx2:=List.getElem?_eq_getElem (l:=L.l) (i:=i.toNat+j') (by omega)
        obtain⟨p',Lb,hZ',N5⟩:=hr.cell _ _ hx2
        rw [hA]at Lb
        injection Lb with Lb
        subst Lb
        have h0:=N5 0 (by show 0<(U.en L.t).size;omega)
        have e1:elA U L.t L.A i 0=p.add i.toNat:=by unfold elA;rw [hA,h1];simp [Addr.add]
        rw [e1]
        refine Kept.tQ hw (by rw [block_add,block_add];exact hZ) ?_
        have e2:(p.add ((i.toNat+j')*Enc.size (U.el L.t))).add 0=(p.add i.toNat).add j':=by
         rw [show Enc.size (U.el L.t)=1 from h1,add_add,add_add,Nat.mul_one,Nat.add_zero]
        rw [e2]at h0
        have hu:hd1 (enc (L.l.getD (i.toNat+j') (U.df L.t)))=u:=hu
        rw [h0,← hu,List.getD_eq_getElem?_getD,hx2]
        show(enc L.l[i.toNat+j'])[0]? =some (hd1 (enc L.l[i.toNat+j']))
        have hl:(enc L.l[i.toNat+j']).length=1:=by rw [bn];exact h1
        match he:enc L.l[i.toNat+j'],hl with
        | [a],_=>rfl
      ·exact h.elim
     obtain⟨v,hv,hK⟩:=bK h
     have hg:L.l.getD i.toNat (U.df L.t)=y:=by rw [List.getD_eq_getElem?_getD,hy];rfl
     refine⟨v,_,hK,Fa (hS.res id _ hn) hn hL hy (hg▸hv),fun w' hw=>gw hv fun j u hj hu=>?_⟩
     rw [hg]at hu
     have hjs:off+j<Enc.size (U.el L.t):=by have:=aH hu;rw [← bn y];exact this
     have h2:=hc (off+j) hjs
     refine Kept.tQ hw ?_ ?_
     ·unfold elA
      rw [hA]
      simp only [Option.getD_some,block_add]
      exact hZ
     ·unfold elA
      rw [hA]
      simp only [Option.getD_some]
      rw [add_add]
      rw [aB]at hu
      exact h2.trans hu
    ·cases hd
   ·exact h.elim
  ·exact h.elim
 ·exact h.elim
theorem tg(ρ:Operand→Value)(a:Array Operand):(⟨ay ρ a.toList⟩:Array Value)=a.map ρ:=by
 apply Array.ext'
 simp [er]
theorem tz {rs:List (Res U)} {cs:List Value}:∀ {l:List (Nat×PK)} {F:Prop},Fk rs cs l F→F∧∀o p,(o,p)∈l→den U rs p=nth cs o
 | [],F,h=>⟨h,fun _ _ h=>by cases h⟩
 | (a,b)::l,F,h=>by
  obtain⟨h1,h2⟩:=tz h.2
  refine⟨h1,fun o p hm=>?_⟩
  rcases List.mem_cons.1 hm with e | hm
  ·injection e with e1 e2;subst e1;subst e2;exact h.1
  ·exact h2 o p hm
theorem n9 {j:Nat} {p:PK}:∀ {l:List (Nat×PK)},rD j l=some p→(j,p)∈l
 | (a,b)::l,h=>by
  unfold rD at h
  split at h
  ·rename_i he
   injection h with h
   subst h
   rw [← Nat.eq_of_beq_eq_true he];exact List.mem_cons_self ..
  ·exact List.mem_cons_of_mem _ (n9 h)
theorem pY {o:Oper} {fr:Fr} {st:St U} {X:Nat→Nat→Prop} {w:World} {K:Value→Option Kn→Prop}(hS:Sat st.rs X w)(hk:ar st.rs fr st.kn)(h:kq U P o (ev fr) st K):
 ∃v k,K v k∧KnO st.rs v k∧∀w',Kept (rdX o st.kn X) w w'→(execOp (ev fr) o).run P w'= .ok (.value v) w':=by
 have hc:∀v,ev fr (.const v)=v:=fun _=>rfl
 have hp:∀F:Value→Prop,(∀t x,o.op≠ .load t x)→lW P o (ev fr) F→∃v,F v∧∀w',Kept (rdX o st.kn X) w w'→(execOp (ev fr) o).run P w'= .ok (.value v) w':=fun F hl hF=>by
  obtain⟨v,h1,h2⟩:=yz hc hl hF w
  exact⟨v,h1,fun w' hw=>h2 w' hw.os hw.tape hw.output⟩
 have hpn:(∀t x,o.op≠ .load t x)→lW P o (ev fr) (fun v=>K v none)→∃v k,K v k∧KnO st.rs v k∧∀w',Kept (rdX o st.kn X) w w'→(execOp (ev fr) o).run P w'= .ok (.value v) w':=fun hl hF=>by
  obtain⟨v,h1,h2⟩:=hp _ hl hF
  exact⟨v,none,h1,trivial,h2⟩
 obtain⟨dst,op,ty,pos,after,guard⟩:=o
 cases op<;>first
  | exact hpn (fun _ _ e=>by cases e) h
  | skip
 case move x=>exact⟨_,_,h,hk.kf x,fun _ _=>rfl⟩
 case assign x=>exact⟨_,_,h,hk.kf x,fun _ _=>rfl⟩
 case build t ps=>
  obtain⟨v,h1,h2⟩:=hp _ (fun _ _ e=>by cases e) h
  unfold Bu at h1
  split at h1
  ·exact⟨v,none,h1,trivial,h2⟩
  ·split at h1
   ·rename_i cs
    obtain⟨h1,h3⟩:=tz h1
    refine⟨_,_,h1,⟨cs,rfl,fun j k hj=>?_⟩,h2⟩
    rw [aR]at hj
    cases hn:nth (upN 0 cs.toList.length) j with
    | none=>rw [hn]at hj;cases hj
    | some i=>
     rw [hn]at hj
     have HN:i=j:=by have:=j5 hn;omega
     subst HN
     injection hj with hj
     have:=h3 _ _ (n9 hj)
     have Ho:=aH hn
     rw [j6]at Ho
     obtain⟨u,hu⟩:=bA (l:=cs.toList) (i:=i) Ho
     exact⟨u,by rw [aB]at hu;simpa using hu,by rw [this,hu]⟩
   ·exact h1.elim
 case load t x=>
  obtain⟨v,kv,h1,h2,h3⟩:=pZ hS hk (hk.kf x) h
  refine⟨v,kv,h1,h2,fun w' hw=>?_⟩
  have:=h3 w' hw
  simp [execOp,this]
 case nilCheck x=>
  simp only [kq]at h
  split at h
  ·rename_i p hx
   refine⟨_,_,h,by rw [← hx];exact hk.kf x,fun w' _=>?_⟩
   simp [execOp,hx]
  ·exact h.elim
 case fieldAddr s x f=>
  have h:g5 P s (ev fr x) f (fun v=>K v (rn P s f (V.kf st.kn x))):=h
  obtain⟨fields,fd,p,h1,h2,h3,h4,h5⟩:=vP h
  refine⟨_,_,h4,?_,fun w' _=>by simp [execOp,h5]⟩
  have hx:=hk.kf x
  rw [h3]at hx
  unfold rn
  split
  ·rename_i k Ij
   rw [Ij]at hx
   rw [h1]
   simp only [h2]
   have hx:den U st.rs k=some (.pointer (some p)):=hx
   cases k with
   | loc id off=>
    show den U st.rs _=_
    unfold den at hx ⊢
    simp only [PK.id]at hx ⊢
    cases hn:nth st.rs id with
    | none=>rw [hn]at hx;simp [bm]at hx
    | some r=>
     rw [hn]at hx
     cases r<;>simp only [bm,reduceCtorEq,Option.some.injEq,Value.pointer.injEq]at hx ⊢
     rw [← hx,bk]
   | el id li i off=>
    show den U st.rs _=_
    unfold den at hx ⊢
    simp only [PK.id]at hx ⊢
    cases hn:nth st.rs id with
    | none=>rw [hn]at hx;simp [bm]at hx
    | some r=>
     rw [hn]at hx
     simp only [bm]at hx ⊢
     cases hL:eP r li with
     | none=>rw [hL]at hx;cases hx
     | some L=>
      simp only [hL]at hx ⊢
      split at hx
      ·rename_i hb
       rw [if_pos hb]
       injection hx with hx
       injection hx with hx
       injection hx with hx
       rw [← hx]
       unfold elA
       rw [← add_add]
      ·cases hx
   | obj id path off=>
    show den U st.rs _=_
    unfold den at hx ⊢
    simp only [PK.id]at hx ⊢
    cases hn:nth st.rs id with
    | none=>rw [hn]at hx;simp [bm]at hx
    | some r=>
     rw [hn]at hx
     cases r<;>simp only [bm,reduceCtorEq,Option.some.injEq,Value.pointer.injEq]at hx ⊢
     rw [← hx,bk]
   | sl _ _=>exact trivial
  ·exact trivial
 case sliceToArrayPointer arr x=>
  simp only [kq]at h
  have hx:=hk.kf x
  split at h
  ·rename_i id li Ij
   rw [Ij]at hx
   have hx:den U st.rs (.sl id li)=some (ev fr x):=hx
   split at h
   ·rename_i r n e hn ht
    split at h
    ·rename_i L hL
     simp only [den,PK.id,hn,bm,hL,Option.some.injEq]at hx
     obtain⟨⟨h0,hle⟩,hK⟩:=h
     obtain⟨p,y,hA,_⟩:=((hS.res id _ hn).ls hL).ld (i:=0) (by omega) (by omega)
     have e1:elA U L.t L.A 0 0=p:=by unfold elA;rw [hA];simp [Addr.add]
     obtain⟨v,hv,Iy⟩:=hp (fun v=>v= .pointer (some p)) (fun _ _ e=>by cases e) (by
      show(match P.underlying arr,ev fr x with
       | some (.array n _),.slice a len _=>n≤len∧Value.pointer a= .pointer (some p)
       | _,_=>False)
      rw [ht,← hx,hA]
      exact⟨hle,rfl⟩)
     subst hv
     rw [e1]at hK
     refine⟨_,_,hK,?_,Iy⟩
     show den U st.rs (.el id li 0 0)=_
     simp only [den,PK.id,hn,bm,hL]
     rw [if_pos (by omega),e1]
    ·exact h.elim
   ·exact h.elim
  ·exact h.elim
 case indexAddr t x i=>
  simp only [kq]at h
  have hx:=hk.kf x
  split at h
  ·rename_i id li k ix Ij hi
   rw [Ij]at hx
   have hx:den U st.rs (.sl id li)=some (ev fr x):=hx
   split at h
   ·rename_i r e hn ht
    split at h
    ·rename_i L hL
     simp only [den,PK.id,hn,bm,hL,Option.some.injEq]at hx
     split at h
     ·rename_i he
      simp only [Bool.and_eq_true]at he
      have Hv:aP P e=(U.en L.t).size:=Nat.eq_of_beq_eq_true he.2
      obtain⟨hb,hK⟩:=h
      obtain⟨p,y,hA,_⟩:=((hS.res id _ hn).ls hL).ld hb.1 hb.2
      have hv:elA U L.t L.A ix 0=p.add (ix.toNat *aP P e):=by
       unfold elA
       rw [hA,Hv]
       simp [Addr.add]
      refine⟨_,_,hK,?_,fun w' _=>?_⟩
      ·show den U st.rs (.el id li ix 0)=_
       simp only [den,PK.id,hn,bm,hL]
       rw [if_pos hb]
      ·have:=Ds (P:=P) (c:=L.c) (k:=k) ht he.1 hb hA w'
       rw [hv]
       simp [execOp,← hx,hi,this]
     ·exact h.elim
    ·exact h.elim
   ·exact h.elim
  ·rename_i id path off k ix Ij hi
   rw [Ij]at hx
   have hx:den U st.rs (.obj id path off)=some (ev fr x):=hx
   split at h
   ·rename_i tt r s li n e hn K7 ht
    split at h
    ·rename_i L hL
     simp only [den,PK.id,hn,bm,Option.some.injEq]at hx
     split at h
     ·rename_i he
      simp only [Bool.and_eq_true]at he
      have Hv:aP P e=(U.en L.t).size:=Nat.eq_of_beq_eq_true he.2
      obtain⟨⟨hb,JQ⟩,hK⟩:=h
      unfold Uni.ix1 at K7
      rw [hn]at K7
      have hA:=U.nO K7 hL
      have hM:mu P t (ev fr x) (ev fr i) (fun v=>v= .pointer (some ((Addr.mk (r path) off none).add (ix.toNat *aP P e)))):=by
       unfold mu
       rw [ht,← hx,hi]
       simp only [he.1]
       exact⟨⟨hb.1,JQ⟩,ao _ rfl rfl⟩
      obtain⟨v,hv,Iy⟩:=kz hM
      have hvE:elA U L.t L.A ix 0=(Addr.mk (r path) off none).add (ix.toNat *aP P e):=by
       unfold elA
       rw [hA,Hv]
       simp [Addr.add]
      refine⟨_,_,hK,?_,fun w' _=>?_⟩
      ·show den U st.rs (.el id li ix 0)=_
       simp only [den,PK.id,hn,bm,eP,hL]
       rw [if_pos hb]
      ·rw [hvE,← hv]
       simp [execOp,Iy]
     ·exact h.elim
    ·exact h.elim
   ·exact h.elim
  ·rename_i id off k ix Ij hi
   rw [Ij]at hx
   have hx:den U st.rs (.loc id off)=some (ev fr x):=hx
   unfold den at hx
   simp only [PK.id]at hx
   cases hn:nth st.rs id with
   | none=>rw [hn]at hx;simp [bm]at hx
   | some r=>
    rw [hn]at hx
    cases r<;>simp only [bm,reduceCtorEq,Option.some.injEq]at hx
    rename_i g cs T
    rw [← hx]at h
    obtain⟨n,e,k',ix',h1,h2,h3,h4⟩:=Ba h
    rw [hi]at h2
    injection h2 with h2 h2'
    subst h2;subst h2'
    refine⟨_,_,h3,?_,fun w' _=>by simp [execOp,← hx,h4]⟩
    show den U st.rs _=_
    simp only [den,PK.id,hn,bm,Bg,h1]
    rw [bk]
  ·exact h.elim
 case extract x i=>
  simp only [kq]at h
  split at h
  ·rename_i vs hx
   obtain⟨v,hv,hK⟩:=bK h
   have JF:vs[i]? =some v:=by rw [aB]at hv;simpa using hv
   refine⟨v,_,hK,?_,fun w' _=>?_⟩
   ·unfold AY
    split
    ·rename_i l Ij
     split
     ·rename_i p hl
      have:=hk.kf x
      rw [Ij,hx]at this
      obtain⟨vs',e,hh⟩:=this
      injection e with e
      subst e
      obtain⟨u,hu,hd⟩:=hh i p hl
      rw [JF]at hu
      injection hu with hu
      subst hu
      exact hd
     ·exact trivial
    ·exact trivial
   ·simp [execOp,Instr.extract,hx,JF]
  ·exact h.elim
 case makeFunc f first cap=>
  refine⟨_,_,h,?_,fun w' _=>by rw [tg,tg];rfl⟩
  have key:∀(a:Array Operand)(j:Nat)(k:PK),nth (ay (fun x=>fW (V.kf st.kn x)) a.toList) j=some (some k)→∃u,(⟨ay (ev fr) a.toList⟩:Array Value)[j]? =some u∧den U st.rs k=some u:=by
   intro a j k hj
   rw [aR]at hj
   cases hn:nth a.toList j with
   | none=>rw [hn]at hj;cases hj
   | some x=>
    rw [hn]at hj
    injection hj with hj
    refine⟨ev fr x,?_,?_⟩
    ·rw [aB]at hn
     simp [er,hn]
    ·have:=hk.kf x
     unfold fW at hj
     dsimp only at hj
     split at hj
     ·rename_i q hq
      injection hj with hj
      subst hj
      rw [hq]at this
      exact this
     ·cases hj
  exact⟨_,_,_,rfl,by simp,key first,key cap⟩
 case binOp op t x y ty'=>
  simp only [kq]at h
  split at h
  ·exact h.elim
  ·exact hpn (fun _ _ e=>by cases e) h
 case slice t x lo hi mx=>
  cases lo with
  | some _=>exact h.elim
  | none=>cases hi with
   | some _=>exact h.elim
   | none=>cases mx with
    | some _=>exact h.elim
    | none=>
     simp only [kq]at h
     have hx:=hk.kf x
     split at h
     ·rename_i id path off Ij
      rw [Ij]at hx
      have hx:den U st.rs (.obj id path off)=some (ev fr x):=hx
      split at h
      ·rename_i tt r s li n e hn K7 ht
       split at h
       ·rename_i L hL
        simp only [den,PK.id,hn,bm,Option.some.injEq]at hx
        split at h
        ·rename_i he
         obtain⟨⟨⟨hl,hc⟩,SK⟩,hK⟩:=h
         unfold Uni.ix1 at K7
         rw [hn]at K7
         have hA:=U.nO K7 hL
         have hM:nk P t (ev fr x) none none none (fun v=>v= .slice L.A L.l.length L.c) False:=by
          unfold nk
          rw [ht,← hx]
          simp only [he,Option.isNone_none,Bool.true_or,Bool.and_self]
          refine ao _ rfl ?_
          unfold jT l8 n7
          intro a' Tj n' Mr c' N5
          subst Tj Mr N5
          rw [if_neg (by omega),hA,hl,hc]
          simp [Addr.add]
         rcases nh hM with⟨v,hv,Iy⟩ | h
         ·refine⟨_,_,hK,?_,fun w' _=>?_⟩
          ·show den U st.rs (.sl id li)=_
           simp only [den,PK.id,hn,bm,eP,hL]
          ·rw [← hv]
           simp [execOp,Iy]
         ·exact h.elim
        ·exact h.elim
       ·exact h.elim
      ·exact h.elim
     ·exact h.elim
end
end
end Go.Proofs.YtfmcaoaaiganbaaGreatDoor.V
namespace Go.Proofs.YtfmcaoaaiganbaaGreatDoor
open Go.Proofs.Tryz (prog)
open Go Go.RowKit V
open Go.IntKind (i64 u32 u64)
def ic(a b:Int):Int:=u32.wrap (a+b)
def mS(a b:Int):Int:=u32.wrap (BitVec.ofInt u32.bits a ^^^ BitVec.ofInt u32.bits b).toNat
def BD(a b:Int):Int:=u32.wrap (BitVec.ofInt u32.bits a &&& BitVec.ofInt u32.bits b).toNat
def GW(a:Int):Int:=u32.wrap (BitVec.ofInt u32.bits (if u32.signed then -1 else u32.max) ^^^ BitVec.ofInt u32.bits a).toNat
def oQ(w n:Int):Int:=u32.wrap (BitVec.ofInt u32.bits (w.fdiv (2 ^ (min n.toNat u32.bits))) ||| BitVec.ofInt u32.bits (u32.wrap (w*2 ^ (min (32 - n).toNat u32.bits)))).toNat
theorem fT {x:Int}(h:0≤x∧x<18446744073709551616):u64.wrap x=x:=by rw [IntKind.wrap_u64];omega
def sg0(a:Int):Int:=mS (mS (oQ a 7) (oQ a 18)) (a.fdiv (2 ^ 3))
def sg1(b:Int):Int:=mS (mS (oQ b 17) (oQ b 19)) (b.fdiv (2 ^ 10))
abbrev back(l:List Int)(t k:Int):Int:=l.getD (Int.toNat (i64.wrap (t - k))) 0
def EP(l:List Int)(t:Int):Int:=ic (ic (ic (back l t 16) (sg0 (back l t 15))) (back l t 7)) (sg1 (back l t 2))
def vw(b:List Int):Nat→List Int
 | 0=>b++List.replicate 48 0
 | k+1=>(vw b k).set (16+k) (EP (vw b k) ((16+k:Nat):Int))
@[ext] structure S8 where
 (a b c d e f g h:Int)
deriving DecidableEq
def S8.T1(k w:Int)(s:S8):Int:=ic (ic (ic (ic s.h (mS (mS (oQ s.e 6) (oQ s.e 11)) (oQ s.e 25))) (mS (BD s.e s.f) (BD (GW s.e) s.g))) k) w
def S8.T2(s:S8):Int:=ic (mS (mS (oQ s.a 2) (oQ s.a 13)) (oQ s.a 22)) (mS (mS (BD s.a s.b) (BD s.a s.c)) (BD s.b s.c))
def S8.rnd(k w:Int)(s:S8):S8:=⟨ic (s.T1 k w) s.T2,s.a,s.b,s.c,ic s.d (s.T1 k w),s.e,s.f,s.g⟩
def F1(K W:List Int)(s:S8):Nat→S8
 | 0=>s
 | t+1=>S8.rnd (K.getD t 0) (W.getD t 0) (F1 K W s t)
def S8.add(s v:S8):S8:=⟨ic v.a s.a,ic v.b s.b,ic v.c s.c,ic v.d s.d,ic v.e s.e,ic v.f s.f,ic v.g s.g,ic v.h s.h⟩
def G7(K:List Int)(s:S8)(b:List Int):S8:=s.add (F1 K (vw b 48) s 64)
def S8.first:S8:=⟨1779033703,3144134277,1013904242,2773480762,1359893119,2600822924,528734635,1541459225⟩
def S8.ok(s:S8):Prop:=(0≤s.a∧s.a<4294967296)∧(0≤s.b∧s.b<4294967296)∧(0≤s.c∧s.c<4294967296)∧(0≤s.d∧s.d<4294967296)∧(0≤s.e∧s.e<4294967296)∧(0≤s.f∧s.f<4294967296)∧(0≤s.g∧s.g<4294967296)∧(0≤s.h∧s.h<4294967296)
end Go.Proofs.YtfmcaoaaiganbaaGreatDoor
namespace Go.Proofs.YtfmcaoaaiganbaaGreatDoor.V
open Go Go.RowKit
open Go.IntKind (i64 u32 u64)
theorem tU:u32.bits=32:=rfl
theorem Bv:u64.bits=64:=rfl
def nor(x y:Int):Int:=((x.toNat ||| y.toNat:Nat):Int)
def Dm(x y:Int):Int:=((x.toNat &&& y.toNat:Nat):Int)
theorem dz {n:Nat} {x:Int}(h0:0≤x)(h:x<2 ^ n):(BitVec.ofInt n x).toNat=x.toNat:=by
 rw [BitVec.toNat_ofInt,Int.emod_eq_of_lt h0 (by exact_mod_cast h)]
theorem nB {x y:Int}(hx:0≤x∧x<4294967296)(hy:0≤y∧y<4294967296):u32.wrap (BitVec.ofInt u32.bits x ||| BitVec.ofInt u32.bits y).toNat=nor x y:=by
 have h:=BitVec.isLt (BitVec.ofInt 32 x ||| BitVec.ofInt 32 y)
 rw [tU,bM (by omega),BitVec.toNat_or,dz hx.1 hx.2,dz hy.1 hy.2];rfl
theorem rF {x y:Int}(hx:0≤x∧x<4294967296)(hy:0≤y∧y<4294967296):u32.wrap (BitVec.ofInt u32.bits x &&& BitVec.ofInt u32.bits y).toNat=Dm x y:=by
 have h:=BitVec.isLt (BitVec.ofInt 32 x &&& BitVec.ofInt 32 y)
 rw [tU,bM (by omega),BitVec.toNat_and,dz hx.1 hx.2,dz hy.1 hy.2];rfl
theorem ef(k:Nat) {a y:Int}(ha:0≤a)(hy:0≤y)(h:y<2 ^ k):nor (2 ^ k*a) y=2 ^ k*a+y:=by
 obtain⟨a,rfl⟩:=Int.eq_ofNat_of_zero_le ha
 obtain⟨y,rfl⟩:=Int.eq_ofNat_of_zero_le hy
 have h':y<2 ^ k:=by exact_mod_cast h
 have e:((2:Int) ^ k*(a:Int)).toNat=2 ^ k*a:=by
  rw [show(2:Int) ^ k*(a:Int)=((2 ^ k*a:Nat):Int)by push_cast;rfl,Int.toNat_natCast]
 unfold nor
 rw [e,Int.toNat_natCast,← Nat.two_pow_add_eq_or_of_lt h']
 push_cast;rfl
theorem kj(x y:Int):nor x y=nor y x:=by unfold nor;rw [Nat.or_comm]
theorem pU(k:Nat) {x:Int}(hx:0≤x):Dm x (2 ^ k - 1)=x % 2 ^ k:=by
 obtain⟨x,rfl⟩:=Int.eq_ofNat_of_zero_le hx
 have hp:0<2 ^ k:=Nat.two_pow_pos k
 have e:((2:Int) ^ k - 1).toNat=2 ^ k - 1:=by
  have:((2:Int) ^ k)=((2 ^ k:Nat):Int):=by push_cast;rfl
  omega
 unfold Dm
 rw [e,Int.toNat_natCast,Nat.and_two_pow_sub_one_eq_mod]
 push_cast;rfl
theorem nV {x:Int}(n:Nat):x.fdiv (2 ^ n)=x / 2 ^ n:=Int.fdiv_eq_ediv_of_nonneg x (Int.pow_nonneg (by omega))
end Go.Proofs.YtfmcaoaaiganbaaGreatDoor.V
namespace Go.Proofs.YtfmcaoaaiganbaaGreatDoor
open Go.Proofs.Tryz (prog)
open Go Go.RowKit V
open Go.IntKind (i64 u32 u64)
section
def Gy(K:List Int):Nat→S8→List U32→S8×List U32
 | 0,s,l=>(s,l)
 | f+1,s,l=>if 16≤l.length then Gy K f (G7 K s ((l.take 16).map U32.v)) (l.drop 16)else(s,l)
def BM(K:List Int)(s:S8)(l:List U32):S8×List U32:=Gy K (l.length / 16) s l
structure Dg where
 st:S8
 n:Int
 waits:List U32
namespace Dg
def new:Dg:=⟨S8.first,0,[]⟩
def add(K:List Int)(d:Dg)(l:List U32):Dg:=if(l.length:Int)>36028797018963968 - d.n then d else⟨(BM K d.st (d.waits++l)).1,d.n+l.length,(BM K d.st (d.waits++l)).2⟩
structure Ok(d:Dg):Prop where
 n:0≤d.n∧d.n≤36028797018963968
 len:d.waits.length=(d.n % 16).toNat
 st:d.st.ok
 words:∀x∈d.waits,0≤x.v∧x.v<4294967296
theorem qY:new.Ok:=⟨by decide,rfl,by unfold S8.ok new S8.first;decide,by simp [new]⟩
def jI(l:List U32):S8:=⟨(l.getD 0 ⟨0⟩).v,(l.getD 1 ⟨0⟩).v,(l.getD 2 ⟨0⟩).v,(l.getD 3 ⟨0⟩).v,(l.getD 4 ⟨0⟩).v,(l.getD 5 ⟨0⟩).v,(l.getD 6 ⟨0⟩).v,(l.getD 7 ⟨0⟩).v⟩
def nOf(l:List U32):Int:=(l.getD 8 ⟨0⟩).v*4294967296+(l.getD 9 ⟨0⟩).v
def load(l:List U32):Dg:=⟨jI l,nOf l,(l.drop 10).take (nOf l % 16).toNat⟩
theorem nOf_eq {l:List U32}(h:∀x∈l,0≤x.v∧x.v<4294967296)(hl:l.length=26):u64.wrap (BitVec.ofInt u64.bits (u64.wrap ((u64.wrap (l.getD 8 ⟨0⟩).v:Int)*2 ^ 32)) ||| BitVec.ofInt u64.bits (u64.wrap (l.getD 9 ⟨0⟩).v)).toNat=nOf l∧0≤nOf l∧nOf l<18446744073709551616:=by
 have h8:=h _ (List.getElem_mem (show 8<l.length by omega))
 have h9:=h _ (List.getElem_mem (show 9<l.length by omega))
 have e8:(l.getD 8 ⟨0⟩)=l[8]:=by simp [List.getD_eq_getElem?_getD,hl]
 have e9:(l.getD 9 ⟨0⟩)=l[9]:=by simp [List.getD_eq_getElem?_getD,hl]
 have hn:nOf l=l[8].v*(4294967296:Int)+l[9].v:=by unfold nOf;rw [e8,e9]
 refine⟨?_,by rw [hn];omega,by rw [hn];omega⟩
 rw [e8,e9,hn]
 generalize l[8].v=a at *
 generalize l[9].v=b at *
 rw [fT (x:=a) (by omega),fT (x:=b) (by omega),fT (x:=a*2 ^ 32) (by omega)]
 rw [Bv,BitVec.toNat_or,dz (by omega) (by omega),dz (by omega) (by omega)]
 have:=ef 32 (a:=a) (y:=b) (by omega) (by omega) (by omega)
 unfold nor at this
 rw [show a*2 ^ 32=2 ^ 32*a by omega,this,fT (by omega)]
 omega
def bu(l:List U32):Int:=
 if l.length≠26 then 20 else if nOf l>36028797018963968∨(nOf l<16∧jI l≠S8.first)then 20
 else if(l.drop (10+(nOf l % 16).toNat)).all (fun x=>x.v==0)then 0 else 20
def zero:Dg:=⟨⟨0,0,0,0,0,0,0,0⟩,0,[]⟩
def fH(l:List U32):Dg:=if bu l=0 then load l else zero
theorem kt {l:List U32}(h:¬l.length=26):bu l=20:=by unfold bu;rw [if_pos h]
theorem eR {l:List U32}(h:l.length=26)(hg:nOf l>36028797018963968∨(nOf l<16∧jI l≠S8.first)):bu l=20:=by unfold bu;rw [if_neg (by simpa using h),if_pos hg]
theorem nL {l:List U32}(h:l.length=26)(hg:¬(nOf l>36028797018963968∨(nOf l<16∧jI l≠S8.first)))(hz:∀(i:Nat)(x:U32),(l.drop (10+(nOf l % 16).toNat))[i]? =some x→x.v=0):bu l=0:=by
 unfold bu
 rw [if_neg (by simpa using h),if_neg hg,if_pos]
 rw [List.all_eq_true]
 intro x hx
 obtain⟨i,hi⟩:=List.getElem?_of_mem hx
 simpa using hz i x hi
theorem et {l:List U32}(h:l.length=26)(hg:¬(nOf l>36028797018963968∨(nOf l<16∧jI l≠S8.first))) {i:Nat} {x:U32}(hx:(l.drop (10+(nOf l % 16).toNat))[i]? =some x)(h0:¬x.v=0):bu l=20:=by
 unfold bu
 rw [if_neg (by simpa using h),if_neg hg,if_neg]
 rw [List.all_eq_true]
 intro hh
 exact h0 (by simpa using hh x (List.mem_of_getElem? hx))
theorem lo_eq {l:List U32}:(i64.wrap (10+nOf l % 16)).toNat=10+(nOf l % 16).toNat:=by rw [ah (by omega)];omega
end Dg
structure DgL where
 Y:Nat→Prop
 a:Option Addr
 n:Nat
 c:Nat
def DgL.X(L:DgL)(g:Nat):Nat→Prop:=fun k=>k=g∨L.Y k
structure po(w:World)(g:Nat)(L:DgL)(D:Dg):Prop where
 blk:∃T,Blk w g #[.int .u32 D.st.a,.int .u32 D.st.b,.int .u32 D.st.c,.int .u32 D.st.d,.int .u32 D.st.e,.int .u32 D.st.f,.int .u32 D.st.g,.int .u32 D.st.h,.int .i64 D.n,.slice L.a L.n L.c] T
 rd:Rd w L.Y L.a L.n L.c D.waits
 off:¬L.Y g
variable {w w':World} {g:Nat} {L:DgL} {D:Dg} {X:Nat→Prop}
theorem po.lt(h:po w g L D):∀k,L.X g k→k<w.heap.size:=by
 rintro k (rfl | hk)
 ·obtain⟨T,b⟩:=h.blk;exact b.lt
 ·exact h.rd.lt k hk
theorem po.ch(h:po w g L D)(hk:Ch X w w')(hx:∀k,L.X g k→¬X k):po w' g L D:=
 ⟨h.blk.imp fun _ b=>hk.blk b (hx g (.inl rfl)),h.rd.ch hk fun k hk=>hx k (.inr hk),h.off⟩
theorem po.pu(h:po w g L D)(hk:Pu w w'):po w' g L D:=h.ch hk (by simp)
end
structure Mem where
 S:Nat
 I:Nat
 pg:Bool→Nat→Nat→Int
namespace Mem
def cnt(m:Mem)(s:Bool):Nat:=match s with
 | true=>m.S
 | false=>m.I
def has(m:Mem)(s:Bool)(p:Int):Bool:=decide (0≤p∧p<(m.cnt s:Int))
def bS(o:Int):Bool:=decide (0≤o∧o<1024)
def ba(m:Mem)(s:Bool)(p o:Int):Int:=if m.has s p && bS o then m.pg s p.toNat o.toNat else 0
def tick(m:Mem)(_:Int):Mem:=m
def fill(m:Mem)(s:Bool)(p:Nat)(f:Nat→Int):Mem:= {m with pg:=fun s' p' o'=>if s'=s∧p'=p then f o' else m.pg s' p' o'}
def put(m:Mem)(s:Bool)(p o:Nat)(v:Int):Mem:=m.fill s p fun o'=>if o'=o then v else m.pg s p o'
def err(m:Mem)(s:Bool)(p o:Int):Int:=if m.has s p then(if bS o then 0 else 70)else 5
def write(m:Mem)(s:Bool)(p o v:Int):Mem:=if m.has s p && bS o then(m.put s p.toNat o.toNat v).tick 1 else m
def eM(m:Mem)(s:Bool)(p:Int):Int:=if m.has s p then 0 else 5
def zero(m:Mem)(s:Bool)(p:Int):Mem:=if m.has s p then(m.fill s p.toNat fun _=>0).tick 1024 else m
def fresh(S I:Nat):Mem:= {S,I,pg:=fun _ _ _=>0}
@[simp] theorem Gq(m:Mem)(n:Int)(s:Bool):(m.tick n).cnt s=m.cnt s:=by cases s<;>rfl
@[simp] theorem Gr(m:Mem)(s':Bool)(p:Nat)(f:Nat→Int)(s:Bool):(m.fill s' p f).cnt s=m.cnt s:=by cases s<;>rfl
@[simp] theorem GK(m:Mem)(s':Bool)(p o:Nat)(v:Int)(s:Bool):(m.put s' p o v).cnt s=m.cnt s:=by cases s<;>rfl
theorem b9 {m:Mem} {s:Bool} {p:Int}(h:m.has s p=true):0≤p∧p<(m.cnt s:Int):=by simpa [has]using h
theorem cr {m:Mem} {s:Bool} {p:Int}(h:m.has s p=true):p.toNat<m.cnt s:=by have:=b9 h;omega
theorem dR {o:Int}(h:bS o=true):0≤o∧o<1024:=by simpa [bS]using h
end Mem
end Go.Proofs.YtfmcaoaaiganbaaGreatDoor
namespace Go.Proofs.YtfmcaoaaiganbaaGreatDoor
open Go.Proofs.Tryz (prog)
open Go Go.RowKit V
open Go.IntKind (i64 u32 u64)
section
set_option maxRecDepth 100000
def aE:List Nat:= [2,3,4,5,6,7,8,9,10,11,12,13,14,15,16,17,18,19,20,21,22,23,24,25,26,27,28,29,30,31,32,33,34,35,36,37,38,39,40,41,42,43,44,45,46,47,48,49,50,51,52,53,54,55,56,57,58,59,60,61,62,63,64,65,66,67,68,69,70,71,72,73,74,75,76,77,78,79,80,81,82,83,84,85,86,87,88,89,90,91,92,93,94,95,96,97,98,99,100,101,102,103,104,105,106,107,108,109,110,111,112,113,114,115,116,117,118,119,120,121,122,123,124,125,126,127,128,129,130,131,132,133,134,135,136,137,138,139,140,141,142,143,144,145,146,147,148,149,150,151,152,153,154,155,156,157,158,159,160,161,162,163,164,165,166,167,168,169,170,171,172,173,174,175,176,177,178,179,180,181,182,183,184,185,186,187,188,189,190,191,192,193,194,195,196,197,198,199,200,201,202,203,204,205,206,207,208,209,210,211,212,213,214,215,216,217,218,219,220,221,222,223,224,225,226,227,228,229,230,231,232,233,234,235,236,237,238,239,263]
theorem au:cO prog aE=true:=by kernel_rfl
theorem aa:prog.follows .mixedOrders=true:=by kernel_rfl
def Cs(m:Option Addr)(fa:Bool)(fb:Int)(R:ax)(w:World):Prop:=
 ∀(gv:Nat)(wv:World),gv=w.heap.size→wv=w.alloc (.cells #[(.bool fa),(.int .i64 fb)] 39)→
 av m fun p7=>
 ∃x9A:Option Addr,∃R0:Nat,∃x9C:Nat,wv.cell? (p7.add 1)=some (.slice x9A R0 x9C)∧
 ∃H3:Bool,wv.cell? ((Addr.mk gv 0 none).add 0)=some (.bool H3)∧
 split H3 (
  av m fun NL=>
  ∃KR:Option Addr,∃LA:Nat,∃KQ:Nat,wv.cell? (NL.add 0)=some (.slice KR LA KQ)∧
  ∃J:Bool→World→Prop,(
   ∃Iu:Int,wv.cell? ((Addr.mk gv 0 none).add 1)=some (.int .i64 Iu)∧
   split (decide ((Iu:Int)<0)) (
    J true wv) (
    ∃IS:Int,wv.cell? ((Addr.mk gv 0 none).add 1)=some (.int .i64 IS)∧
    J (decide ((IS:Int)≥((LA:Nat):Int))) wv))∧∀(Hn:Nat→Value)(KB:Bool),∀Hb,J KB Hb→
  split KB (
   R (.pointer none) Hb) (
   ∃JB:Int,Hb.cell? ((Addr.mk gv 0 none).add 1)=some (.int .i64 JB)∧
   (0≤(JB:Int)∧(JB:Int)<((LA:Nat):Int))∧
   av KR fun MJ=>
   ∃HQ:Option Addr,Hb.cell? (MJ.add (Int.toNat JB*1))=some (.pointer HQ)∧
   R (.pointer HQ) Hb)) (
  ∃J:Bool→World→Prop,(
   ∃Iu:Int,wv.cell? ((Addr.mk gv 0 none).add 1)=some (.int .i64 Iu)∧
   split (decide ((Iu:Int)<0)) (
    J true wv) (
    ∃IS:Int,wv.cell? ((Addr.mk gv 0 none).add 1)=some (.int .i64 IS)∧
    J (decide ((IS:Int)≥((R0:Nat):Int))) wv))∧∀(Hn:Nat→Value)(KB:Bool),∀Hb,J KB Hb→
  split KB (
   R (.pointer none) Hb) (
   ∃JB:Int,Hb.cell? ((Addr.mk gv 0 none).add 1)=some (.int .i64 JB)∧
   (0≤(JB:Int)∧(JB:Int)<((R0:Nat):Int))∧
   av x9A fun MJ=>
   ∃HQ:Option Addr,Hb.cell? (MJ.add (Int.toNat JB*1))=some (.pointer HQ)∧
   R (.pointer HQ) Hb))
def FN:Ann:=(.node none .leaf (.node none .leaf (.node none .leaf (.node none (.node none (.node (some ⟨[(25,.one (.bool))],[16,17,18,19,20,21,22,23,24,25]⟩) .leaf .leaf) .leaf) .leaf))))
theorem MAt_eq(m:Option Addr)(fa:Bool)(fb:Int)(R:ax)(w:World):Cs m fa fb R w=vcF prog aE [] Tryz.f68 FN [(.pointer m),(.agg #[(.bool fa),(.int .i64 fb)])] R none w:=by kernel_rfl
theorem zL(m:Option Addr)(fa:Bool)(fb:Int) {R:ax} {w:World}(h:Cs m fa fb R w):Calls prog 68 #[(.pointer m),(.agg #[(.bool fa),(.int .i64 fb)])] w fun e w'=>∃v,e= .returned v∧R v w':=
 ai Tryz.func68 au aa ((MAt_eq m fa fb R w).mp h)
def xX(m:Option Addr)(fa:Bool)(fb:Int)(R:ax)(w:World):Prop:=
 ∀(gv:Nat)(wv:World),gv=w.heap.size→wv=w.alloc (.cells #[(.bool fa),(.int .i64 fb)] 39)→
 ∃x6a:Bool,∃x6b:Int,(wv.cell? ((Addr.mk gv 0 none).add 0)=some (.bool x6a)∧wv.cell? ((Addr.mk gv 0 none).add 1)=some (.int .i64 x6b))∧
 Calls prog 68 #[(.pointer m),(.agg #[(.bool x6a),(.int .i64 x6b)])] wv fun e Hb=>
 ∃x7:Option Addr,e= .returned (.pointer x7)∧
 R (.bool (!x7.isNone)) Hb
def D7:Ann:= .leaf
theorem MHas_eq(m:Option Addr)(fa:Bool)(fb:Int)(R:ax)(w:World):xX m fa fb R w=vcF prog aE [] Tryz.f183 D7 [(.pointer m),(.agg #[(.bool fa),(.int .i64 fb)])] R none w:=by kernel_rfl
theorem wq(m:Option Addr)(fa:Bool)(fb:Int) {R:ax} {w:World}(h:xX m fa fb R w):Calls prog 183 #[(.pointer m),(.agg #[(.bool fa),(.int .i64 fb)])] w fun e w'=>∃v,e= .returned v∧R v w':=
 ai Tryz.func183 au aa ((MHas_eq m fa fb R w).mp h)
def uV(n:Int)(R:ax)(w:World):Prop:=
 ∃NB:Option Addr,∃Mh:Nat,∃Of:Nat,∃wv,(Instr.makeSlice 123 (.int .i64 n) (.int .i64 n):Sem Value).run prog w= .ok (.slice NB Mh Of) wv∧
 ∃I:Nat→Int→World→Prop,(∃m,I m 0 wv)∧∀(m:Nat)(Ic:Nat→Value)(x9:Int),∀Hb,I m x9 Hb→
 split (decide ((x9:Int)<((Mh:Nat):Int))) (
  ∀(Hm:Nat)(He:World),Hm=Hb.heap.size→He=Hb.alloc (.cells (Array.replicate 1024 (.int .u32 0)) 200)→
  (0≤(x9:Int)∧(x9:Int)<((Mh:Nat):Int))∧
  av NB fun MK=>
  aD He (MK.add (Int.toNat x9*1)) [(.pointer (some (Addr.mk Hm 0 none)))] fun Hf=>
  ∃m1,m1<m∧I m1 (i64.wrap (x9+1)) Hf) (
  R (.slice NB Mh Of) Hb)
def Cr:Ann:=(.node none .leaf (.node none .leaf (.node none (.node none .leaf (.node none (.node (some ⟨[(9,.one (.int .i64))],[4,9,10,11,12,13,14,15,16,17]⟩) .leaf .leaf) .leaf)) .leaf)))
theorem MMade_eq(n:Int)(R:ax)(w:World):uV n R w=vcF prog aE [] Tryz.f78 Cr [(.int .i64 n)] R none w:=by kernel_rfl
theorem uW(n:Int) {R:ax} {w:World}(h:uV n R w):Calls prog 78 #[(.int .i64 n)] w fun e w'=>∃v,e= .returned v∧R v w':=
 ai Tryz.func78 au aa ((MMade_eq n R w).mp h)
def xW(aW:Int)(insecure:Int)(R:ax)(w:World):Prop:=
 ∃J:Bool→World→Prop,(
  split (decide ((aW:Int)<1)) (
   J true w) (
   split (decide ((aW:Int)>64)) (
    J true w) (
    split (decide ((insecure:Int)<1)) (
     J true w) (
     J (decide ((insecure:Int)>64)) w))))∧∀(Ic:Nat→Value)(Hz:Bool),∀wv,J Hz wv→
 split Hz (
  R (.tuple #[(.pointer none),(.int .i64 1)]) wv) (
  Calls prog 78 #[(.int .i64 aW)] wv fun e Hb=>
  ∃PU:Option Addr,∃PS:Nat,∃PT:Nat,e= .returned (.slice PU PS PT)∧
  Calls prog 78 #[(.int .i64 insecure)] Hb fun e He=>
  ∃KP:Option Addr,∃KO:Nat,∃Lo:Nat,e= .returned (.slice KP KO Lo)∧
  ∀(Hm:Nat)(Hf:World),Hm=He.heap.size→Hf=He.alloc (.cells #[(.slice PU PS PT),(.slice KP KO Lo),(.int .i64 0)] 125)→
  R (.tuple #[(.pointer (some (Addr.mk Hm 0 none))),(.int .i64 0)]) Hf)
def D6:Ann:=(.node none .leaf (.node none (.node none (.node (some ⟨[(19,.one (.bool))],[6,7,8,9,10,11,12,13,14,15,16,17,18,19]⟩) .leaf .leaf) .leaf) .leaf))
theorem MNew_eq(aW:Int)(insecure:Int)(R:ax)(w:World):xW aW insecure R w=vcF prog aE [] Tryz.f35 D6 [(.int .i64 aW),(.int .i64 insecure)] R none w:=by kernel_rfl
theorem wm(aW:Int)(insecure:Int) {R:ax} {w:World}(h:xW aW insecure R w):Calls prog 35 #[(.int .i64 aW),(.int .i64 insecure)] w fun e w'=>∃v,e= .returned v∧R v w':=
 ai Tryz.func35 au aa ((MNew_eq aW insecure R w).mp h)
def uT(m:Option Addr)(fa:Bool)(fb:Int)(off:Int)(R:ax)(w:World):Prop:=
 ∀(gv:Nat)(wv:World),gv=w.heap.size→wv=w.alloc (.cells #[(.bool fa),(.int .i64 fb)] 39)→
 ∃Lg:Bool,∃Lf:Int,(wv.cell? ((Addr.mk gv 0 none).add 0)=some (.bool Lg)∧wv.cell? ((Addr.mk gv 0 none).add 1)=some (.int .i64 Lf))∧
 Calls prog 68 #[(.pointer m),(.agg #[(.bool Lg),(.int .i64 Lf)])] wv fun e Hb=>
 ∃HE:Option Addr,e= .returned (.pointer HE)∧
 ∃J:Bool→World→Prop,(
  split HE.isNone (
   J true Hb) (
   split (decide ((off:Int)<0)) (
    J true Hb) (
    J (decide ((off:Int)≥1024)) Hb)))∧∀(Hn:Nat→Value)(KC:Bool),∀He,J KC He→
 split KC (
  R (.int .u32 0) He) (
  av HE fun p23=>
  (0≤(off:Int)∧(off:Int)<((1024:Nat):Int))∧
  ∃KB:Int,He.cell? (p23.add (Int.toNat off*1))=some (.int .u32 KB)∧
  R (.int .u32 KB) He)
def Cq:Ann:=(.node none .leaf (.node none .leaf (.node none (.node none (.node (some ⟨[(20,.one (.bool))],[11,12,13,14,15,16,17,18,19,20]⟩) .leaf .leaf) .leaf) .leaf)))
theorem MPeek_eq(m:Option Addr)(fa:Bool)(fb:Int)(off:Int)(R:ax)(w:World):uT m fa fb off R w=vcF prog aE [] Tryz.f26 Cq [(.pointer m),(.agg #[(.bool fa),(.int .i64 fb)]),(.int .i64 off)] R none w:=by kernel_rfl
theorem uU(m:Option Addr)(fa:Bool)(fb:Int)(off:Int) {R:ax} {w:World}(h:uT m fa fb off R w):Calls prog 26 #[(.pointer m),(.agg #[(.bool fa),(.int .i64 fb)]),(.int .i64 off)] w fun e w'=>∃v,e= .returned v∧R v w':=
 ai Tryz.func26 au aa ((MPeek_eq m fa fb off R w).mp h)
def uQ(m:Option Addr)(fa:Bool)(fb:Int)(off:Int)(R:ax)(w:World):Prop:=
 ∀(gv:Nat)(wv:World),gv=w.heap.size→wv=w.alloc (.cells #[(.bool fa),(.int .i64 fb)] 39)→
 ∃Ql:Bool,∃Qk:Int,(wv.cell? ((Addr.mk gv 0 none).add 0)=some (.bool Ql)∧wv.cell? ((Addr.mk gv 0 none).add 1)=some (.int .i64 Qk))∧
 Calls prog 67 #[(.pointer m),(.agg #[(.bool Ql),(.int .i64 Qk)]),(.int .i64 off)] wv fun e Hb=>
 ∃LB:Option Addr,∃KS:Int,e= .returned (.tuple #[(.pointer LB),(.int .i64 KS)])∧
 split ((KS:Int) !=0) (
  R (.tuple #[(.int .u32 0),(.int .i64 KS)]) Hb) (
  av LB fun Qu=>
  ∃Ht:Int,Hb.cell? Qu=some (.int .u32 Ht)∧
  R (.tuple #[(.int .u32 Ht),(.int .i64 0)]) Hb)
def Cp:Ann:= .leaf
theorem MRead_eq(m:Option Addr)(fa:Bool)(fb:Int)(off:Int)(R:ax)(w:World):uQ m fa fb off R w=vcF prog aE [] Tryz.f189 Cp [(.pointer m),(.agg #[(.bool fa),(.int .i64 fb)]),(.int .i64 off)] R none w:=by kernel_rfl
theorem uR(m:Option Addr)(fa:Bool)(fb:Int)(off:Int) {R:ax} {w:World}(h:uQ m fa fb off R w):Calls prog 189 #[(.pointer m),(.agg #[(.bool fa),(.int .i64 fb)]),(.int .i64 off)] w fun e w'=>∃v,e= .returned v∧R v w':=
 ai Tryz.func189 au aa ((MRead_eq m fa fb off R w).mp h)
def oI(m:Option Addr)(R:ax)(w:World):Prop:=
 av m fun p4=>
 ∃NB:Option Addr,∃Mh:Nat,∃Of:Nat,w.cell? (p4.add 0)=some (.slice NB Mh Of)∧
 R (.int .i64 ((Mh:Nat):Int)) w
def wk:Ann:= .leaf
theorem MSecure_eq(m:Option Addr)(R:ax)(w:World):oI m R w=vcF prog aE [] Tryz.f62 wk [(.pointer m)] R none w:=by kernel_rfl
theorem o8(m:Option Addr) {R:ax} {w:World}(h:oI m R w):Calls prog 62 #[(.pointer m)] w fun e w'=>∃v,e= .returned v∧R v w':=
 ai Tryz.func62 au aa ((MSecure_eq m R w).mp h)
def qy(m:Option Addr)(fa:Bool)(fb:Int)(times:Int)(R:ax)(w:World):Prop:=
 ∀(gv:Nat)(wv:World),gv=w.heap.size→wv=w.alloc (.cells #[(.bool fa),(.int .i64 fb)] 39)→
 ∃JC:Bool,∃IT:Int,(wv.cell? ((Addr.mk gv 0 none).add 0)=some (.bool JC)∧wv.cell? ((Addr.mk gv 0 none).add 1)=some (.int .i64 IT))∧
 Calls prog 68 #[(.pointer m),(.agg #[(.bool JC),(.int .i64 IT)])] wv fun e Hb=>
 ∃H3:Option Addr,e= .returned (.pointer H3)∧
 split H3.isNone (
  R (.tuple #[(.pointer none),(.int .i64 5)]) Hb) (
  av m fun p15=>
  ∃Iu:Int,Hb.cell? (p15.add 2)=some (.int .i64 Iu)∧
  av m fun Qu=>
  aD Hb (Qu.add 2) [(.int .i64 (i64.wrap (Iu+(i64.wrap (times*1024)))))] fun He=>
  R (.tuple #[(.pointer H3),(.int .i64 0)]) He)
def zK:Ann:= .leaf
theorem MWhole_eq(m:Option Addr)(fa:Bool)(fb:Int)(times:Int)(R:ax)(w:World):qy m fa fb times R w=vcF prog aE [] Tryz.f145 zK [(.pointer m),(.agg #[(.bool fa),(.int .i64 fb)]),(.int .i64 times)] R none w:=by kernel_rfl
theorem rW(m:Option Addr)(fa:Bool)(fb:Int)(times:Int) {R:ax} {w:World}(h:qy m fa fb times R w):Calls prog 145 #[(.pointer m),(.agg #[(.bool fa),(.int .i64 fb)]),(.int .i64 times)] w fun e w'=>∃v,e= .returned v∧R v w':=
 ai Tryz.func145 au aa ((MWhole_eq m fa fb times R w).mp h)
def uO(m:Option Addr)(fa:Bool)(fb:Int)(off:Int)(R:ax)(w:World):Prop:=
 ∀(gv:Nat)(wv:World),gv=w.heap.size→wv=w.alloc (.cells #[(.bool fa),(.int .i64 fb)] 39)→
 ∃JC:Bool,∃IT:Int,(wv.cell? ((Addr.mk gv 0 none).add 0)=some (.bool JC)∧wv.cell? ((Addr.mk gv 0 none).add 1)=some (.int .i64 IT))∧
 Calls prog 68 #[(.pointer m),(.agg #[(.bool JC),(.int .i64 IT)])] wv fun e Hb=>
 ∃H3:Option Addr,e= .returned (.pointer H3)∧
 split H3.isNone (
  R (.tuple #[(.pointer none),(.int .i64 5)]) Hb) (
  ∃J:Bool→World→Prop,(
   split (decide ((off:Int)<0)) (
    J true Hb) (
    J (decide ((off:Int)≥1024)) Hb))∧∀(Hn:Nat→Value)(Hz:Bool),∀He,J Hz He→
  split Hz (
   R (.tuple #[(.pointer none),(.int .i64 70)]) He) (
   av m fun Qu=>
   ∃PQ:Int,He.cell? (Qu.add 2)=some (.int .i64 PQ)∧
   av m fun Mk=>
   aD He (Mk.add 2) [(.int .i64 (i64.wrap (PQ+1)))] fun Hf=>
   av H3 fun MJ=>
   (0≤(off:Int)∧(off:Int)<((1024:Nat):Int))∧
   R (.tuple #[(.pointer (some (MJ.add (Int.toNat off*1)))),(.int .i64 0)]) Hf))
def Co:Ann:=(.node none .leaf (.node none .leaf (.node none .leaf (.node none (.node none (.node (some ⟨[(19,.one (.bool))],[14,15,16,17,18,19]⟩) .leaf .leaf) .leaf) .leaf))))
theorem MWord_eq(m:Option Addr)(fa:Bool)(fb:Int)(off:Int)(R:ax)(w:World):uO m fa fb off R w=vcF prog aE [] Tryz.f67 Co [(.pointer m),(.agg #[(.bool fa),(.int .i64 fb)]),(.int .i64 off)] R none w:=by kernel_rfl
theorem uP(m:Option Addr)(fa:Bool)(fb:Int)(off:Int) {R:ax} {w:World}(h:uO m fa fb off R w):Calls prog 67 #[(.pointer m),(.agg #[(.bool fa),(.int .i64 fb)]),(.int .i64 off)] w fun e w'=>∃v,e= .returned v∧R v w':=
 ai Tryz.func67 au aa ((MWord_eq m fa fb off R w).mp h)
def qx(m:Option Addr)(fa:Bool)(fb:Int)(off:Int)(v:Int)(R:ax)(w:World):Prop:=
 ∀(gv:Nat)(wv:World),gv=w.heap.size→wv=w.alloc (.cells #[(.bool fa),(.int .i64 fb)] 39)→
 ∃Iv:Bool,∃IG:Int,(wv.cell? ((Addr.mk gv 0 none).add 0)=some (.bool Iv)∧wv.cell? ((Addr.mk gv 0 none).add 1)=some (.int .i64 IG))∧
 Calls prog 67 #[(.pointer m),(.agg #[(.bool Iv),(.int .i64 IG)]),(.int .i64 off)] wv fun e Hb=>
 ∃Lz:Option Addr,∃JU:Int,e= .returned (.tuple #[(.pointer Lz),(.int .i64 JU)])∧
 split ((JU:Int)==0) (
  av Lz fun Qt=>
  aD Hb Qt [(.int .u32 v)] fun He=>
  R (.int .i64 JU) He) (
  R (.int .i64 JU) Hb)
def zJ:Ann:= .leaf
theorem MWrite_eq(m:Option Addr)(fa:Bool)(fb:Int)(off:Int)(v:Int)(R:ax)(w:World):qx m fa fb off v R w=vcF prog aE [] Tryz.f22 zJ [(.pointer m),(.agg #[(.bool fa),(.int .i64 fb)]),(.int .i64 off),(.int .u32 v)] R none w:=by kernel_rfl
theorem rV(m:Option Addr)(fa:Bool)(fb:Int)(off:Int)(v:Int) {R:ax} {w:World}(h:qx m fa fb off v R w):Calls prog 22 #[(.pointer m),(.agg #[(.bool fa),(.int .i64 fb)]),(.int .i64 off),(.int .u32 v)] w fun e w'=>∃v,e= .returned v∧R v w':=
 ai Tryz.func22 au aa ((MWrite_eq m fa fb off v R w).mp h)
def uM(m:Option Addr)(fa:Bool)(fb:Int)(R:ax)(w:World):Prop:=
 ∀(gv:Nat)(wv:World),gv=w.heap.size→wv=w.alloc (.cells #[(.bool fa),(.int .i64 fb)] 39)→
 ∃Lg:Bool,∃Lf:Int,(wv.cell? ((Addr.mk gv 0 none).add 0)=some (.bool Lg)∧wv.cell? ((Addr.mk gv 0 none).add 1)=some (.int .i64 Lf))∧
 Calls prog 145 #[(.pointer m),(.agg #[(.bool Lg),(.int .i64 Lf)]),(.int .i64 1)] wv fun e Hb=>
 ∃JC:Option Addr,∃IT:Int,e= .returned (.tuple #[(.pointer JC),(.int .i64 IT)])∧
 split ((IT:Int)==0) (
  av JC fun MK=>
  ∀Lx:Option Addr,Lx=(some (if 1024=0 then MK else MK.add (0*1)))→∀Lv:Nat,Lv=1024 - 0→∀Lw:Nat,Lw=1024 - 0→
  ∃He,(Builtin.clear_ #[31] 0 #[(.slice Lx Lv Lw)]:Sem Value).run prog Hb= .ok (.tuple #[]) He∧
  R (.int .i64 IT) He) (
  R (.int .i64 IT) Hb)
def Cn:Ann:= .leaf
theorem MZero_eq(m:Option Addr)(fa:Bool)(fb:Int)(R:ax)(w:World):uM m fa fb R w=vcF prog aE [] Tryz.f79 Cn [(.pointer m),(.agg #[(.bool fa),(.int .i64 fb)])] R none w:=by kernel_rfl
theorem uN(m:Option Addr)(fa:Bool)(fb:Int) {R:ax} {w:World}(h:uM m fa fb R w):Calls prog 79 #[(.pointer m),(.agg #[(.bool fa),(.int .i64 fb)])] w fun e w'=>∃v,e= .returned v∧R v w':=
 ai Tryz.func79 au aa ((MZero_eq m fa fb R w).mp h)
end
end Go.Proofs.YtfmcaoaaiganbaaGreatDoor
namespace Go.Proofs.YtfmcaoaaiganbaaGreatDoor
open Go.Proofs.Tryz (prog)
open Go Go.RowKit V
open Go.IntKind (i64 u32 u64)
section
structure dM where
 g:Nat
 a:Nat
 b:Nat
 pg:Bool→Nat→Nat
 n:Bool→Nat
def dM.row(L:dM)(s:Bool):Nat:=match s with
 | true=>L.a
 | false=>L.b
def dM.X(L:dM):Nat→Prop:=fun k=>k=L.g∨k=L.a∨k=L.b∨∃s i,i<L.n s∧k=L.pg s i
abbrev ptr(g:Nat):Value:= .pointer (some (Addr.mk g 0 none))
abbrev fr(s:Bool)(p:Int):Value:= .agg #[.bool s,.int .i64 p]
structure bV(w:World)(L:dM)(m:Mem):Prop where
 cnt:∀s,L.n s=m.cnt s
 hd:∃T:TypeId×Int,Blk w L.g #[.slice (some (Addr.mk L.a 0 none)) m.S m.S,.slice (some (Addr.mk L.b 0 none)) m.I m.I,.int .i64 T.2] T.1
 rows:∀s,∃T cs,Blk w (L.row s) cs T∧∀i,i<m.cnt s→cs[i]? =some (ptr (L.pg s i))
 pgs:∀s i,i<m.cnt s→∃T cs,Blk w (L.pg s i) cs T∧cs.size=1024∧∀o,o<1024→cs[o]? =some (.int .u32 (m.pg s i o))
 inj:∀s i s' i',i<m.cnt s→i'<m.cnt s'→L.pg s i=L.pg s' i'→s=s'∧i=i'
 dis:L.a≠L.g∧L.b≠L.g∧∀s i,i<m.cnt s→L.pg s i≠L.g∧L.pg s i≠L.a∧L.pg s i≠L.b
 u32:∀s i o,0≤m.pg s i o∧m.pg s i o<4294967296
 most:m.S≤64∧m.I≤64
theorem bV.inX {w:World} {L:dM} {m:Mem}(h:bV w L m) {s:Bool} {i:Nat}(hi:i<m.cnt s):L.X (L.pg s i):= .inr (.inr (.inr ⟨s,i,by rw [h.cnt];exact hi,rfl⟩))
theorem bV.kept {w w':World} {L:dM} {m:Mem} {B:Nat→Prop}(h:bV w L m)(hk:Kept B w w')(hb:∀k,L.X k→B k):bV w' L m:=by
 refine⟨h.cnt,?_,fun s=>?_,fun s i hi=>?_,h.inj,h.dis,h.u32,h.most⟩
 ·obtain⟨T,hd⟩:=h.hd
  exact⟨T,hd.kept hk (hb _ (.inl rfl))⟩
 ·obtain⟨T,cs,hr,h2⟩:=h.rows s
  exact⟨T,cs,hr.kept hk (hb _ (by cases s<;>simp [dM.X,dM.row])),h2⟩
 ·obtain⟨T,cs,hr,h2⟩:=h.pgs s i hi
  exact⟨T,cs,hr.kept hk (hb _ (h.inX hi)),h2⟩
theorem bV.lt {w:World} {L:dM} {m:Mem}(h:bV w L m):∀k,L.X k→k<w.heap.size:=by
 rintro k (rfl | rfl | rfl | ⟨s,i,hi,rfl⟩)
 ·obtain⟨T,hd⟩:=h.hd;exact hd.lt
 ·obtain⟨T,cs,hr,h2⟩:=h.rows true;exact hr.lt
 ·obtain⟨T,cs,hr,h2⟩:=h.rows false;exact hr.lt
 ·obtain⟨T,cs,hr,h2⟩:=h.pgs s i (by rw [← h.cnt];exact hi);exact hr.lt
theorem bV.ch {w w':World} {L:dM} {m:Mem} {Y:Nat→Prop}(h:bV w L m)(hk:Ch Y w w')(hb:∀k,L.X k→¬Y k):bV w' L m:=
 h.kept hk.kept fun k hx=>⟨h.lt k hx,hb k hx⟩
theorem bV.pu {w w':World} {L:dM} {m:Mem}(h:bV w L m)(hk:Pu w w'):bV w' L m:=h.ch hk (by simp)
theorem bV.Eo {w w2:World} {L:dM} {m:Mem}(h:bV w L m) {T:TypeId} {x:Int}(hs:bb w L.g #[.slice (some (Addr.mk L.a 0 none)) m.S m.S,.slice (some (Addr.mk L.b 0 none)) m.I m.I,.int .i64 x] T w2):bV w2 L m:=by
 have hk:∀k,k≠L.g→(fun k=>k≠L.g) k:=fun _ h=>h
 refine⟨h.cnt,⟨(T,x),hs.blk⟩,fun s=>?_,fun s i hi=>?_,h.inj,h.dis,h.u32,h.most⟩
 ·obtain⟨T,cs,hr,h2⟩:=h.rows s
  exact⟨T,cs,hs.old hr (by cases s<;>simp [dM.row,h.dis.1,h.dis.2.1]),h2⟩
 ·obtain⟨T,cs,hr,h2⟩:=h.pgs s i hi
  exact⟨T,cs,hs.old hr (h.dis.2.2 s i hi).1,h2⟩
theorem bV.ak {w w2:World} {L:dM} {m:Mem}(h:bV w L m) {s:Bool} {i:Nat}(hi:i<m.cnt s) {cs:Array Value} {T:TypeId} {f:Nat→Int}(hs:bb w (L.pg s i) cs T w2)(hc:cs.size=1024)(hf:∀o,o<1024→cs[o]? =some (.int .u32 (f o)))
 (hu:∀o,0≤f o∧f o<4294967296):bV w2 L (m.fill s i f):=by
 obtain⟨T0,hd⟩:=h.hd
 refine⟨fun s=>by rw [h.cnt];simp,⟨T0,hs.old hd (fun e=>(h.dis.2.2 s i hi).1 e.symm)⟩,fun s'=>?_,fun s' i' HX=>?_,fun s1 i1 s2 i2 h1 h2=>h.inj s1 i1 s2 i2 (by simpa using h1) (by simpa using h2),⟨h.dis.1,h.dis.2.1,fun s1 i1 h1=>h.dis.2.2 s1 i1 (by simpa using h1)⟩,fun s' i' o=>?_,h.most⟩
 ·obtain⟨T,cs,hr,h2⟩:=h.rows s'
  refine⟨T,cs,hs.old hr ?_,by simpa using h2⟩
  have:=(h.dis.2.2 s i hi).2
  cases s'<;>simp only [dM.row]
  ·exact fun e=>this.2 e.symm
  ·exact fun e=>this.1 e.symm
 ·have N1:i'<m.cnt s':=by simpa using HX
  by_cases hq:s'=s∧i'=i
  ·obtain⟨rfl,rfl⟩:=hq
   exact⟨T,cs,hs.blk,hc,fun o ho=>by rw [hf o ho];simp [Mem.fill]⟩
  ·obtain⟨T,cs,hr,h2,h3⟩:=h.pgs s' i' N1
   refine⟨T,cs,hs.old hr (fun e=>hq (h.inj _ _ _ _ N1 hi e)),h2,fun o ho=>?_⟩
   rw [h3 o ho]
   simp only [Mem.fill]
   rw [if_neg hq]
 ·simp only [Mem.fill]
  split
  ·exact hu o
  ·exact h.u32 _ _ _
theorem Gh {w:World} {g i:Nat} {cs:Array Value} {T:TypeId} {k:IntKind} {x:Int} {K:Int→Prop}(hb:Blk w g cs T)(hi:cs[i]? =some (.int k x))(hK:K x):
 av (some (Addr.mk g 0 none)) fun p=>∃x:Int,w.cell? (p.add i)=some (.int k x)∧K x:=ao _ rfl ⟨_,hb.at hi,hK⟩
theorem Fh {w:World} {g i:Nat} {cs:Array Value} {T:TypeId} {A:Option Addr} {n c:Nat} {K:Option Addr→Nat→Nat→Prop}(hb:Blk w g cs T)(hi:cs[i]? =some (.slice A n c))(hK:K A n c):
 av (some (Addr.mk g 0 none)) fun p=>∃(A:Option Addr)(n c:Nat),w.cell? (p.add i)=some (.slice A n c)∧K A n c:=ao _ rfl ⟨_,_,_,hb.at hi,hK⟩
section
variable {w:World} {L:dM} {m:Mem}
theorem mAt(h:bV w L m)(s:Bool)(p:Int):
 Calls prog 68 #[ptr L.g,fr s p] w fun e w'=>∃v,e= .returned v∧v= .pointer (if m.has s p then some (Addr.mk (L.pg s p.toNat) 0 none)else none)∧Pu w w':=by
 refine zL _ s p ?_
 intro g1 w1 hg hw
 have hM:=made hg hw
 have h1:=h.pu hM.pu
 obtain⟨T,hd⟩:=h1.hd
 refine Fh hd rfl ⟨_,hM.blk.at rfl,?_⟩
 have fin:∀(a n:Nat),n=m.cnt s→a=L.row s→
  ∃J:Bool→World→Prop,(
  ∃Iu:Int,w1.cell? ((Addr.mk g1 0 none).add 1)=some (.int .i64 Iu)∧
  split (decide ((Iu:Int)<0)) (
   J true w1) (
   ∃IS:Int,w1.cell? ((Addr.mk g1 0 none).add 1)=some (.int .i64 IS)∧
   J (decide ((IS:Int)≥((n:Nat):Int))) w1))∧∀(Hn:Nat→Value)(KB:Bool),∀Hb,J KB Hb→
  split KB (
   (∃v,v=(Value.pointer none)∧v= .pointer (if m.has s p then some (Addr.mk (L.pg s p.toNat) 0 none)else none)∧Pu w Hb)) (
   ∃JB:Int,Hb.cell? ((Addr.mk g1 0 none).add 1)=some (.int .i64 JB)∧
   (0≤(JB:Int)∧(JB:Int)<((n:Nat):Int))∧
   av (some (Addr.mk a 0 none)) fun MJ=>
   ∃HQ:Option Addr,Hb.cell? (MJ.add (Int.toNat JB*1))=some (.pointer HQ)∧
   (∃v,v=(Value.pointer HQ)∧v= .pointer (if m.has s p then some (Addr.mk (L.pg s p.toNat) 0 none)else none)∧Pu w Hb)):=by
  intro a n hn ha
  refine⟨fun b w'=>w1=w'∧b= !(m.has s p),⟨_,hM.blk.at rfl,ae (fun hb=>⟨rfl,?_⟩) (fun hb=>⟨_,hM.blk.at rfl,rfl,?_⟩)⟩,?_⟩
  ·simp at hb
   simp [Mem.has]
   omega
  ·simp at hb
   subst hn
   simp only [Mem.has,ge_iff_le]
   rw [Bool.eq_iff_iff]
   simp
   omega
  ·rintro _ x _ ⟨rfl,rfl⟩
   refine ae (fun hb=>⟨_,rfl,?_,hM.pu⟩) (fun hb=>?_)
   ·simp at hb;simp [hb]
   ·have KY:m.has s p=true:=by simpa using hb
    have hp:0≤p∧p<(n:Int):=by subst hn;simpa [Mem.has]using KY
    obtain⟨T2,cs,hr,hc⟩:=h1.rows s
    rw [← ha]at hr
    refine⟨_,hM.blk.at rfl,hp,ao _ rfl ⟨_,?_,_,rfl,by rw [if_pos KY],hM.pu⟩⟩
    rw [Nat.mul_one]
    exact hr.at (hc _ (by omega))
 refine ae (fun hb=>?_) (fun hb=>?_)
 ·subst hb
  exact Fh hd rfl (by
   obtain⟨J,hJ⟩:=fin L.a m.S rfl rfl
   refine⟨J,hJ.1,fun g x wv hj=>?_⟩
   have:=hJ.2 g x wv hj
   simpa using this)
 ·subst hb
  obtain⟨J,hJ⟩:=fin L.b m.I rfl rfl
  refine⟨J,hJ.1,fun g x wv hj=>?_⟩
  have:=hJ.2 g x wv hj
  simpa using this
theorem GY(h:bV w L m)(s:Bool)(p:Int):
 Calls prog 183 #[ptr L.g,fr s p] w fun e w'=>∃v,e= .returned v∧v= .bool (m.has s p)∧Pu w w':=by
 refine wq _ s p ?_
 intro g1 w1 hg hw
 have hM:=made hg hw
 refine⟨_,_,⟨hM.blk.at rfl,hM.blk.at rfl⟩,(mAt (h.pu hM.pu) s p).mono ?_⟩
 rintro e w2 ⟨_,rfl,rfl,hp⟩
 refine⟨_,rfl,?_,hM.pu.trans hp⟩
 cases m.has s p<;>rfl
theorem xx(h:bV w L m):Calls prog 62 #[ptr L.g] w fun e w'=>∃v,e= .returned v∧v= .int .i64 m.S∧w'=w:=by
 obtain⟨T,hd⟩:=h.hd
 exact o8 _ (Fh hd rfl ⟨rfl,rfl⟩)
theorem Ep(h:bV w L m)(s:Bool)(p o:Int):
 Calls prog 67 #[ptr L.g,fr s p,.int .i64 o] w fun e w'=>∃v,e= .returned v∧
  ((m.has s p && Mem.bS o)=true∧v= .tuple #[.pointer (some (Addr.mk (L.pg s p.toNat) o.toNat none)),.int .i64 0]∧bV w' L (m.tick 1)∧Ch L.X w w'∨
   (m.has s p && Mem.bS o)=false∧v= .tuple #[.pointer none,.int .i64 (m.err s p o)]∧m.err s p o≠0∧Pu w w'):=by
 refine uP _ s p o ?_
 intro g1 w1 hg hw
 have hM:=made hg hw
 refine⟨_,_,⟨hM.blk.at rfl,hM.blk.at rfl⟩,(mAt (h.pu hM.pu) s p).mono ?_⟩
 rintro e w2 ⟨_,rfl,rfl,hp⟩
 have HH:=hM.pu.trans hp
 refine⟨_,rfl,?_⟩
 cases hh:m.has s p with
 | false=>
  refine ae (fun _=>.inr ⟨rfl,?_,?_,HH⟩) (fun hb=>by simp at hb)
  ·simp [Mem.err,hh]
  ·simp [Mem.err,hh]
 | true=>
  refine ae (fun hb=>by simp at hb) (fun _=>?_)
  refine⟨fun b w'=>w2=w'∧b= !(Mem.bS o),ae (fun hb=>⟨rfl,?_⟩) (fun hb=>⟨rfl,?_⟩),?_⟩
  ·simp at hb;simp [Mem.bS];omega
  ·simp at hb;simp only [Mem.bS,ge_iff_le];rw [Bool.eq_iff_iff];simp;omega
  ·rintro _ x _ ⟨rfl,rfl⟩
   refine ae (fun hb=>?_) (fun hb=>?_)
   ·have ho:Mem.bS o=false:=by simpa using hb
    exact .inr ⟨by simp [ho],by simp [Mem.err,hh,ho],by simp [Mem.err,hh,ho],HH⟩
   ·have ho:Mem.bS o=true:=by simpa using hb
    have h2:=h.pu HH
    obtain⟨T,hd⟩:=h2.hd
    refine Gh hd rfl (ao _ rfl (bY hd (by simp) fun w3 hs=>?_))
    have KK:=Mem.dR ho
    refine ao _ rfl ⟨KK,.inl ⟨by simp [ho],?_,h2.Eo hs,?_⟩⟩
    ·rw [bk,Nat.zero_add,Nat.mul_one]
    ·exact(HH.mono (by simp)).stored hs (.inl (.inl rfl))
theorem AU(h:bV w L m)(s:Bool)(p o v:Int)(hv:0≤v∧v<4294967296):
 Calls prog 22 #[ptr L.g,fr s p,.int .i64 o,.int .u32 v] w fun e w'=>∃u,e= .returned u∧u= .int .i64 (m.err s p o)∧bV w' L (m.write s p o v)∧Ch L.X w w':=by
 refine rV _ s p o v ?_
 intro g1 w1 hg hw
 have hM:=made hg hw
 refine⟨_,_,⟨hM.blk.at rfl,hM.blk.at rfl⟩,(Ep (h.pu hM.pu) s p o).mono ?_⟩
 rintro e w2 ⟨_,rfl,⟨hh,rfl,h2,hc⟩ | ⟨hh,rfl,he,hp⟩⟩
 ·refine⟨_,_,rfl,ae (fun _=>?_) (fun hb=>by simp at hb)⟩
  have L9:Ch L.X w w2:=((Ch.refl _ w).made hM).trans hc
  simp only [Bool.and_eq_true]at hh
  have hi:=Mem.cr hh.1
  have ho:=Mem.dR hh.2
  obtain⟨T,cs,hr,Hv,H2⟩:=h2.pgs s p.toNat (by simpa using hi)
  refine ao _ rfl (ff hr (by simp;omega) fun w3 hs=>⟨?_,?_,?_⟩)
  ·simp [Mem.err,hh.1,hh.2]
  ·have:=h2.ak (f:=fun o'=>if o'=o.toNat then v else m.pg s p.toNat o') (by simpa using hi) hs (by simp [setAt,Hv]) (fun o' KK=>?_) (fun o'=>?_)
   ·simp only [Mem.write,hh.1,hh.2,Bool.and_self,if_true]
    exact this
   ·simp only [pI,Array.getElem?_setIfInBounds]
    by_cases e:o.toNat=o'
    ·rw [if_pos e,if_pos (by omega),if_pos e.symm]
    ·rw [if_neg e,if_neg (fun h=>e h.symm)]
     exact H2 o' KK
   ·split
    ·exact hv
    ·exact h.u32 _ _ _
  ·exact L9.stored hs (.inl (h.inX hi))
 ·refine⟨_,_,rfl,ae (fun hb=>absurd (by simpa using hb) he) (fun _=>⟨rfl,?_,?_⟩)⟩
  ·have:=(h.pu hM.pu).pu hp
   simpa [Mem.write,hh]using this
  ·exact(hM.pu.trans hp).mono (by simp)
theorem Ga(h:bV w L m)(s:Bool)(p o:Int):
 Calls prog 26 #[ptr L.g,fr s p,.int .i64 o] w fun e w'=>∃u,e= .returned u∧u= .int .u32 (m.ba s p o)∧Pu w w':=by
 refine uU _ s p o ?_
 intro g1 w1 hg hw
 have hM:=made hg hw
 refine⟨_,_,⟨hM.blk.at rfl,hM.blk.at rfl⟩,(mAt (h.pu hM.pu) s p).mono ?_⟩
 rintro e w2 ⟨_,rfl,rfl,hp⟩
 have HH:=hM.pu.trans hp
 refine⟨_,rfl,fun b w'=>w2=w'∧b= !(m.has s p && Mem.bS o),?_,?_⟩
 ·cases hh:m.has s p with
  | false=>exact ae (fun _=>⟨rfl,rfl⟩) (fun hb=>by simp at hb)
  | true=>
   refine ae (fun hb=>by simp at hb) (fun _=>ae (fun hb=>⟨rfl,?_⟩) (fun hb=>⟨rfl,?_⟩))
   ·simp at hb;simp [Mem.bS];omega
   ·simp at hb;simp only [Mem.bS,ge_iff_le];rw [Bool.eq_iff_iff];simp;omega
 ·rintro _ x _ ⟨rfl,rfl⟩
  refine ae (fun hb=>?_) (fun hb=>?_)
  ·have hh:(m.has s p && Mem.bS o)=false:=by rwa [Bool.not_eq_true']at hb
   exact⟨by simp [Mem.ba,hh],HH⟩
  ·have hh:(m.has s p && Mem.bS o)=true:=by simpa using hb
   have S0:=hh
   simp only [Bool.and_eq_true]at hh
   have hi:=Mem.cr hh.1
   have ho:=Mem.dR hh.2
   obtain⟨T,cs,hr,Hv,H2⟩:=(h.pu HH).pgs s p.toNat hi
   rw [if_pos hh.1]
   refine ao _ rfl ⟨ho,_,by rw [Nat.mul_one];exact hr.at (H2 _ (by omega)),?_,HH⟩
   simp only [Mem.ba,S0,if_true]
end
end
section
theorem wY:S1 prog 31 23 (.int .u32 0) 4:=S1.of (by kernel_rfl) (by kernel_rfl) rfl
theorem ES:S1 prog 123 119 (.pointer none) 8:=S1.of (by kernel_rfl) (by kernel_rfl) rfl
def fw(w:World)(g:Nat)(f:Nat→Int):Prop:=∃T cs,Blk w g cs T∧cs.size=1024∧∀o,o<1024→cs[o]? =some (.int .u32 (f o))
structure iQ(w:World)(g n k:Nat)(pg:Nat→Nat)(f:Nat→Nat→Int)(b:Nat):Prop where
 row:∃T cs,Blk w g cs T∧cs.size=n∧∀i,i<k→cs[i]? =some (ptr (pg i))
 pgs:∀i,i<k→fw w (pg i) (f i)
 inj:∀i j,i<k→j<k→pg i=pg j→i=j
 dis:∀i,i<k→pg i≠g
 low:b≤g∧∀i,i<k→b≤pg i
theorem fw.lt {w:World} {g:Nat} {f:Nat→Int}(h:fw w g f):g<w.heap.size:=by obtain⟨T,cs,hb,_⟩:=h;exact hb.lt
theorem fw.pu {w w':World} {g:Nat} {f:Nat→Int}(h:fw w g f)(hk:Pu w w'):fw w' g f:=by obtain⟨T,cs,hb,h2⟩:=h;exact⟨T,cs,hk.blk hb,h2⟩
theorem fw.old {w w':World} {g g':Nat} {f:Nat→Int} {cs:Array Value} {T:TypeId}(h:fw w g f)(hs:bb w g' cs T w')(IE:g≠g'):fw w' g f:=by obtain⟨T,cs,hb,h2⟩:=h;exact⟨T,cs,hs.old hb IE,h2⟩
theorem iQ.pu {w w':World} {g n k b:Nat} {pg:Nat→Nat} {f:Nat→Nat→Int}(h:iQ w g n k pg f b)(hk:Pu w w'):iQ w' g n k pg f b:=by
 obtain⟨⟨T,cs,hr,h2⟩,h3,h4,h5,h6⟩:=h
 exact⟨⟨T,cs,hk.blk hr,h2⟩,fun i hi=>(h3 i hi).pu hk,h4,h5,h6⟩
theorem iQ.more {w w1 w2:World} {g n k b p:Nat} {pg:Nat→Nat} {f:Nat→Nat→Int}(h:iQ w g n k pg f b)(hk:Pu w w1)(hp:fw w1 p (f k))(NV:w.heap.size≤p)(Ik:k<n)(hb:b≤w.heap.size):
 ∃T cs,Blk w1 g cs T∧k+1≤cs.size∧∀w2,bb w1 g (setAt cs k [ptr p]) T w2→iQ w2 g n (k+1) (fun i=>if i=k then p else pg i) f b:=by
 obtain⟨⟨T,cs,hr,Hv,h2⟩,h3,h4,h5,h6⟩:=h
 have hg:=hr.lt
 have hold:∀i,i<k→pg i≠p:=fun i hi=>by have:=(h3 i hi).lt;omega
 refine⟨T,cs,hk.blk hr,by omega,fun w2 hs=>⟨⟨T,_,hs.blk,by rw [dt];exact Hv,fun i hi=>?_⟩,fun i hi=>?_,fun i j hi hj=>?_,fun i hi=>?_,h6.1,fun i hi=>?_⟩⟩
 ·rw [cN _ _ _ _ (by simp;omega)]
  by_cases e:i=k
  ·subst e;simp
  ·rw [if_neg (by simp;omega),if_neg e]
   exact h2 i (by omega)
 ·by_cases e:i=k
  ·subst e
   rw [if_pos rfl]
   exact hp.old hs (by omega)
  ·rw [if_neg e]
   exact((h3 i (by omega)).pu hk).old hs (h5 i (by omega))
 ·by_cases e:i=k<;>by_cases e':j=k
  ·intro _;omega
  ·rw [if_pos e,if_neg e'];intro hh;exact absurd hh.symm (hold j (by omega))
  ·rw [if_neg e,if_pos e'];intro hh;exact absurd hh (hold i (by omega))
  ·rw [if_neg e,if_neg e'];exact h4 i j (by omega) (by omega)
 ·split
  ·omega
  ·exact h5 i (by omega)
 ·split
  ·omega
  ·exact h6.2 i (by omega)
section
variable {w:World} {L:dM} {m:Mem}
theorem Es(n:Nat)(hn:n≤64):
 Calls prog 78 #[.int .i64 n] w fun e w'=>∃v,e= .returned v∧∃g pg,v= .slice (some (Addr.mk g 0 none)) n n∧iQ w' g n n pg (fun _ _=>0) w.heap.size∧Pu w w':=by
 refine uW _ ?_
 refine rf ES (by omega) (by omega) (by omega) fun g w1 hM=>?_
 rw [Int.toNat_natCast]at hM ⊢
 refine⟨fun k x w'=>∃i:Nat,x=(i:Int)∧i≤n∧k=n - i∧(∃pg,iQ w' g n i pg (fun _ _=>0) w.heap.size)∧Pu w w',⟨n,0,rfl,by omega,by omega,⟨fun _=>0,⟨⟨_,_,hM.blk,by simp,by simp⟩,by simp,by simp,by simp,by have:=hM.num;omega,by simp⟩⟩,hM.pu⟩,?_⟩
 rintro k _ x w2 ⟨i,rfl,hi,rfl,⟨pg,hP⟩,MQ⟩
 refine ae (fun hb=>?_) (fun hb=>?_)
 ·have HX:i<n:=by simpa using hb
  intro p w3 hp ML
  have RW:=made hp ML
  obtain⟨T,cs,hr,Hv,QR⟩:=hP.more (w2:=w3) RW.pu ⟨_,_,RW.blk,by simp,fun o ho=>by simp [ho]⟩ (by rw [RW.num];omega) HX MQ.size
  refine⟨⟨by omega,by omega⟩,ao _ rfl ?_⟩
  rw [Nat.mul_one,Int.toNat_natCast]
  refine bY hr Hv fun w4 hs=>⟨n - (i+1),by omega,i+1,?_,HX,rfl,⟨_,QR _ hs⟩,?_⟩
  ·rw [ah (by omega)];omega
  ·have hg:w.heap.size≤g:=hP.low.1
   exact((MQ.made RW).mono (by simp):Ch (fun _=>False) w w3).stored hs (.inr hg)
 ·have:i=n:=by simp at hb;omega
  subst this
  exact⟨g,pg,rfl,hP,MQ⟩
theorem GX(s i:Int)(hs:1≤s∧s≤64)(hi:1≤i∧i≤64):
 Calls prog 35 #[.int .i64 s,.int .i64 i] w fun e w'=>∃v,e= .returned v∧∃L:dM,v= .tuple #[ptr L.g,.int .i64 0]∧bV w' L (Mem.fresh s.toNat i.toNat)∧(∀k,L.X k→w.heap.size≤k)∧Pu w w':=by
 refine wm s i ?_
 refine⟨fun b w'=>w=w'∧b=false,?_,?_⟩
 ·refine ae (fun hb=>by simp at hb;omega) (fun _=>ae (fun hb=>by simp at hb;omega) (fun _=>ae (fun hb=>by simp at hb;omega) (fun _=>⟨rfl,by simp;omega⟩)))
 rintro _ x _ ⟨rfl,rfl⟩
 refine ae (fun hb=>by cases hb) (fun _=>?_)
 obtain⟨S,rfl⟩:=Int.eq_ofNat_of_zero_le (show 0≤s by omega)
 obtain⟨I,rfl⟩:=Int.eq_ofNat_of_zero_le (show 0≤i by omega)
 refine(Es S (by omega)).mono ?_
 rintro e w1 ⟨_,rfl,a,pa,rfl,hA,HB⟩
 refine⟨_,_,_,rfl,(Es I (by omega)).mono ?_⟩
 rintro e w2 ⟨_,rfl,b,pb,rfl,hB,HH⟩
 refine⟨_,_,_,rfl,?_⟩
 intro g w3 hg ML
 have hM:=made hg ML
 have RY:=(hA.pu HH).pu hM.pu
 have hB3:=hB.pu hM.pu
 have Tg:∀j,j<S→pa j<w1.heap.size:=fun j hj=>(hA.pgs j hj).lt
 have HF:a<w1.heap.size:=by obtain⟨T,cs,hr,_⟩:=hA.row;exact hr.lt
 have Rg:∀j,j<I→pb j<w2.heap.size:=fun j hj=>(hB.pgs j hj).lt
 have hbg:b<w2.heap.size:=by obtain⟨T,cs,hr,_⟩:=hB.row;exact hr.lt
 have h12:=HH.size
 have h01:=HB.size
 have hgn:=hM.num
 refine⟨⟨g,a,b,fun s=>match s with | true=>pa | false=>pb,fun s=>match s with | true=>S | false=>I⟩,rfl,⟨fun s=>by cases s<;>rfl,⟨(_,_),hM.blk⟩,fun s=>?_,fun s i hi=>?_,fun s i s' i' hi HX e=>?_,⟨by show a≠g;omega,by show b≠g;omega,fun s i hi=>?_⟩,fun _ _ _=>by simp [Mem.fresh],by simp [Mem.fresh];omega⟩,?_,(HB.trans HH).made hM⟩
 ·cases s
  ·obtain⟨T,cs,hr,_,h2⟩:=hB3.row;exact⟨T,cs,hr,h2⟩
  ·obtain⟨T,cs,hr,_,h2⟩:=RY.row;exact⟨T,cs,hr,h2⟩
 ·cases s
  ·exact hB3.pgs i hi
  ·exact RY.pgs i hi
 ·cases s<;>cases s'<;>simp only [Mem.cnt,Mem.fresh,Int.toNat_natCast]at hi HX<;>simp only at e
  ·exact⟨rfl,hB.inj _ _ hi HX e⟩
  ·have:=hB.low.2 i hi;have:=Tg i' HX;omega
  ·have:=hB.low.2 i' HX;have:=Tg i hi;omega
  ·exact⟨rfl,hA.inj _ _ hi HX e⟩
 ·cases s<;>simp only [Mem.cnt,Mem.fresh,Int.toNat_natCast]at hi<;>simp only
  ·have:=hB.low.2 i hi;have:=Rg i hi;have:=hB.dis i hi
   refine⟨?_,?_,this⟩<;>omega
  ·have:=hA.low.2 i hi;have:=Tg i hi;have h3:=hA.dis i hi;have:=hB.low.1
   refine⟨?_,h3,?_⟩<;>omega
 ·rintro k (rfl | rfl | rfl | ⟨s,i,hi,rfl⟩)
  ·omega
  ·exact hA.low.1
  ·have:=hB.low.1;omega
  ·cases s<;>simp only [Mem.cnt,Mem.fresh,Int.toNat_natCast]at hi<;>simp only
   ·have:=hB.low.2 i hi;omega
   ·exact hA.low.2 i hi
theorem Fe(h:bV w L m)(s:Bool)(p t:Int):
 Calls prog 145 #[ptr L.g,fr s p,.int .i64 t] w fun e w'=>∃v,e= .returned v∧
  (m.has s p=true∧v= .tuple #[ptr (L.pg s p.toNat),.int .i64 0]∧bV w' L (m.tick (i64.wrap (t*1024)))∧Ch L.X w w'∨
   m.has s p=false∧v= .tuple #[.pointer none,.int .i64 5]∧Pu w w'):=by
 refine rW _ s p t ?_
 intro g1 w1 hg hw
 have hM:=made hg hw
 refine⟨_,_,⟨hM.blk.at rfl,hM.blk.at rfl⟩,(mAt (h.pu hM.pu) s p).mono ?_⟩
 rintro e w2 ⟨_,rfl,rfl,hp⟩
 have HH:=hM.pu.trans hp
 refine⟨_,rfl,?_⟩
 cases hh:m.has s p with
 | false=>exact ae (fun _=>.inr ⟨rfl,rfl,HH⟩) (fun hb=>by simp at hb)
 | true=>
  refine ae (fun hb=>by simp at hb) (fun _=>?_)
  have h2:=h.pu HH
  obtain⟨T,hd⟩:=h2.hd
  refine Gh hd rfl (ao _ rfl (bY hd (by simp) fun w3 hs=>.inl ⟨rfl,rfl,h2.Eo hs,?_⟩))
  exact(HH.mono (by simp)).stored hs (.inl (.inl rfl))
theorem F9(h:bV w L m)(s:Bool)(p:Int):
 Calls prog 79 #[ptr L.g,fr s p] w fun e w'=>∃v,e= .returned v∧v= .int .i64 (m.eM s p)∧bV w' L (m.zero s p)∧Ch L.X w w':=by
 refine uN _ s p ?_
 intro g1 w1 hg hw
 have hM:=made hg hw
 refine⟨_,_,⟨hM.blk.at rfl,hM.blk.at rfl⟩,(Fe (h.pu hM.pu) s p 1).mono ?_⟩
 rintro e w2 ⟨_,rfl,⟨hh,rfl,h2,hc⟩ | ⟨hh,rfl,hp⟩⟩
 ·refine⟨_,_,rfl,ae (fun _=>ao _ rfl ?_) (fun hb=>by simp at hb)⟩
  rintro A rfl N rfl C rfl
  have hi:=Mem.cr hh
  obtain⟨T,cs,hr,Hv,H2⟩:=h2.pgs s p.toNat (by simpa using hi)
  refine Bp (o:=0) wY rfl hr (by omega) (by omega) fun w3 hs=>⟨?_,?_,?_⟩
  ·simp [Mem.eM,hh]
  ·have:=h2.ak (f:=fun _=>0) (by simpa using hi) hs (by rw [dt];exact Hv) (fun o ho=>?_) (fun o=>by simp)
   ·simp only [Mem.zero,hh,if_true]
    exact this
   ·have hl:(List.replicate (1024 - 0) (Value.int .u32 0)).length=1024:=List.length_replicate ..
    rw [cN _ _ _ _ (by rw [hl];omega),if_pos (by rw [hl];omega),List.getElem?_replicate,if_pos (by omega)]
  ·exact(((Ch.refl _ w).made hM).trans hc).stored hs (.inl (h.inX hi))
 ·refine⟨_,_,rfl,ae (fun hb=>by simp at hb) (fun _=>⟨?_,?_,?_⟩)⟩
  ·simp [Mem.eM,hh]
  ·simpa [Mem.zero,hh]using (h.pu hM.pu).pu hp
  ·exact(hM.pu.trans hp).mono (by simp)
end
end
structure Ent where
 typ:Int
 owner:Int
 refs:Int
 state:Int
 aM:Bool
deriving DecidableEq
namespace Ent
abbrev free:Ent:=⟨0,0,0,0,false⟩
def ok(e:Ent):Bool:=
 decide (0≤e.typ∧e.typ≤6∧0≤e.owner∧e.owner≤63∧0≤e.refs∧e.refs≤63∧(e.typ=0→e.owner=0)∧(e.typ≠1→e.refs=0∧e.state=0)∧(e.typ=1→1≤e.state∧e.state≤3)∧(e.typ≠2→e.aM=false))
def w0(e:Ent):Int:=e.typ+16*e.state+65536*e.owner+(if e.aM then 256 else 0)
def w1(e:Ent):Int:=e.refs
def parts(a b:Int):Ent:=⟨a % 8,a / 65536 % 64,b % 64,a / 16 % 4,decide (a / 256 % 2=1)⟩
def dec(a b:Int):Ent:=if(parts a b).ok && decide ((parts a b).w0=a) && decide ((parts a b).w1=b)then parts a b else free
def eJ(a b:Int):Int:=if(parts a b).ok && decide ((parts a b).w0=a) && decide ((parts a b).w1=b)then 0 else 110
theorem cS {e:Ent}(h:e.ok=true):0≤e.typ∧e.typ≤6∧0≤e.owner∧e.owner≤63∧0≤e.refs∧e.refs≤63∧(e.typ=0→e.owner=0)∧(e.typ≠1→e.refs=0∧e.state=0)∧(e.typ=1→1≤e.state∧e.state≤3)∧(e.typ≠2→e.aM=false):=by
 simpa only [ok,decide_eq_true_eq]using h
theorem iB {e:Ent}(h:e.ok=true):0≤e.state∧e.state≤3:=by
 have:=cS h
 by_cases h1:e.typ=1<;>omega
theorem yD {e:Ent}(h:e.ok=true):parts e.w0 e.w1=e:=by
 have h1:=cS h
 have h2:=iB h
 obtain⟨t,o,r,s,n⟩:=e
 simp only at h1 h2
 cases n<;>simp only [parts,w0,w1,Ent.mk.injEq,decide_eq_true_eq,decide_eq_false_iff_not,if_true,Bool.false_eq_true,if_false]<;>omega
theorem xM {e:Ent}(h:e.ok=true):dec e.w0 e.w1=e∧eJ e.w0 e.w1=0:=by
 unfold dec eJ
 rw [yD h]
 simp [h]
theorem Ab {e:Ent}(h:e.ok=true):0≤e.w0∧e.w0<4294967296:=by
 have h1:=cS h
 have h2:=iB h
 unfold w0
 split<;>omega
theorem Aa {e:Ent}(h:e.ok=true):0≤e.w1∧e.w1<4294967296:=by
 have h1:=cS h
 unfold w1
 omega
theorem xI:free.ok=true:=by decide
theorem ga {a b:Int}(h:eJ a b=0):(dec a b).ok=true∧(dec a b).w0=a∧(dec a b).w1=b:=by
 unfold eJ at h
 unfold dec
 split at h
 ·rename_i hc
  rw [if_pos hc]
  simp only [Bool.and_eq_true,decide_eq_true_eq]at hc
  exact⟨hc.1.1,hc.1.2,hc.2⟩
 ·omega
end Ent
structure DB where
 mem:Mem
 aq:Int
 ent:Nat→Ent
namespace DB
def S(d:DB):Nat:=d.mem.S
def has(d:DB)(p:Int):Bool:=decide (0≤p∧p<(d.S:Int))
def at_(d:DB)(p:Int):Ent:=d.ent p.toNat
def set(d:DB)(p:Int)(e:Ent):DB:= {d with ent:=fun q=>if q=p.toNat then e else d.ent q}
def entry(d:DB)(p:Int):Ent:=if d.has p then d.at_ p else .free
def aU(d:DB)(p:Int):Int:=if d.has p then 0 else 5
def di(d:DB)(p:Int):Bool:=d.has p && (d.at_ p).typ==1
def aK(d:DB)(m:Mem):DB:=⟨m,d.aq,d.ent⟩
def dD(d:DB)(b:Int):DB:=⟨d.mem,b,d.ent⟩
def kh(d:DB)(f:Mem→Mem):DB:=d.aK (f d.mem)
def free(d:DB):Int:=(((List.range d.S).filter fun p=>(d.ent p).typ==0).length:Int)
def dZ(d:DB)(s:Int)(p:Nat):Bool:=(p:Int) !=s && (d.ent p).typ !=0 && (d.ent p).owner==s
def aI(d:DB)(s f:Int):Int:=
 if !d.has s || !d.has f then 5 else if s=f then 1 else if(d.at_ s).typ !=0 || (d.at_ f).typ !=0 then 120 else if d.aq≥64 then 240 else 0
def aZ(d:DB)(s f:Int):DB:=
 let d1:=(d.set s ⟨1,s,1,1,false⟩).set f ⟨3,s,0,0,false⟩
 (d1.aK (((d.mem.write true s 0 f).write true s 1 d.aq).write true s 2 0)).dD (d.aq+1)
def aw(d:DB)(s f:Int):DB:=if d.aI s f=0 then d.aZ s f else d
def turns(t:Int):Bool:=t==4 || t==5 || t==6
def bJ(d:DB)(p t s:Int):Int:=
 if !d.has p then 5 else if t !=2 && !turns t then 124 else if !d.di s || decide ((d.at_ s).refs≥63)then 122 else if(d.at_ p).typ !=0 then 120 else 0
def more(d:DB)(s k:Int):DB:=d.set s {d.at_ s with refs:=(d.at_ s).refs+k}
def dE(d:DB)(p t s:Int):DB:=(d.set p ⟨t,s,0,0,false⟩).more s 1
def take(d:DB)(p t s:Int):DB:=if d.bJ p t s=0 then d.dE p t s else d
def mF(d:DB)(p t:Int):Int:=if !d.has p then 5 else if !turns (d.at_ p).typ || !turns t then 124 else 0
def vm(d:DB)(p t:Int):DB:=(d.set p {d.at_ p with typ:=t}).kh (·.zero true p)
def CY(d:DB)(p t:Int):DB:=if d.mF p t=0 then d.vm p t else d
def xH(d:DB)(p:Int):Int:=
 if !d.has p then 5 else if(d.at_ p).typ=0 then 121 else if(d.at_ p).typ==1 && decide ((d.at_ p).refs>0)then 123 else 0
def Bc(d:DB)(p:Int):DB:=
 let d1:=d.set p .free
 (if(d.at_ p).typ !=1 && (d1.di (d.at_ p).owner && decide ((d1.at_ (d.at_ p).owner).refs>0))then d1.more (d.at_ p).owner (-1)else d1).kh (·.zero true p)
def G4(d:DB)(p:Int):DB:=if d.xH p=0 then d.Bc p else d
def aT(d:DB)(p s:Int):Int:=
 if !d.has p then 5 else if(d.at_ p).typ≠1 then 124 else if s !=3 && ((d.at_ p).state !=1 || s !=2)then 3 else 0
def setState(d:DB)(p s:Int):DB:=if d.aT p s=0 then d.set p {d.at_ p with state:=s}else d
def jv(d:DB)(p:Int):Int:=if !d.has p then 5 else if(d.at_ p).typ≠2 then 124 else 0
def vv(d:DB)(p:Int)(on:Bool):DB:=if d.jv p=0 then d.set p {d.at_ p with aM:=on}else d
def words(d:DB):List Int:=d.aq::(List.range d.S).flatMap fun p=>[(d.ent p).w0,(d.ent p).w1]
structure Ok(d:DB):Prop where
 ent:∀p,p<d.S→(d.ent p).ok=true∧(d.ent p).owner<d.S
 aq:0≤d.aq∧d.aq≤64
@[simp] theorem G9(d:DB)(p:Int)(e:Ent):(d.set p e).S=d.S:=rfl
@[simp] theorem GJ(d:DB)(p q:Int)(e:Ent):(d.set p e).has q=d.has q:=rfl
@[simp] theorem mem_set(d:DB)(p:Int)(e:Ent):(d.set p e).mem=d.mem:=rfl
@[simp] theorem Fz(d:DB)(p:Int)(e:Ent):(d.set p e).aq=d.aq:=rfl
@[simp] theorem td(d:DB)(m:Mem):(d.aK m).mem=m:=rfl
@[simp] theorem Bx(d:DB)(m:Mem):(d.aK m).aq=d.aq:=rfl
@[simp] theorem FB(d:DB)(m:Mem)(p:Int):(d.aK m).at_ p=d.at_ p:=rfl
@[simp] theorem FT(d:DB)(m:Mem):(d.aK m).S=m.S:=rfl
@[simp] theorem yG(d:DB)(b:Int):(d.dD b).mem=d.mem:=rfl
@[simp] theorem DA(d:DB)(b:Int):(d.dD b).aq=b:=rfl
@[simp] theorem Gv(d:DB)(b:Int)(p:Int):(d.dD b).at_ p=d.at_ p:=rfl
@[simp] theorem GL(d:DB)(b:Int):(d.dD b).S=d.S:=rfl
@[simp] theorem z9(d:DB)(m m':Mem):(d.aK m).aK m'=d.aK m':=rfl
theorem Dn(d:DB)(p:Int):d.mem.has true p=d.has p:=rfl
theorem b9 {d:DB} {p:Int}(h:d.has p=true):0≤p∧p<(d.S:Int):=by simpa [has]using h
theorem cr {d:DB} {p:Int}(h:d.has p=true):p.toNat<d.S:=by have:=b9 h;omega
theorem BA {d:DB} {p q:Int} {e:Ent}(hp:0≤p)(hq:0≤q):(d.set p e).at_ q=if q=p then e else d.at_ q:=by
 unfold at_ set
 by_cases h:q=p
 ·simp [h]
 ·simp only [h,if_false];rw [if_neg (by omega)]
theorem set_comm(d:DB) {p q:Int} {e f:Ent}(h:p.toNat≠q.toNat):(d.set p e).set q f=(d.set q f).set p e:=by
 simp only [set,DB.mk.injEq,true_and]
 funext k
 by_cases h1:k=q.toNat<;>by_cases h2:k=p.toNat<;>simp [h1,h2]<;>omega
theorem Gw {d:DB} {p q:Int} {e:Ent}(hp:d.has p=true)(hq:d.has q=true)(IE:¬(d.at_ p).typ=(d.at_ q).typ):(d.set p e).at_ q=d.at_ q:=by
 have h1:=b9 hp
 have h2:=b9 hq
 rw [BA h1.1 h2.1,if_neg (by rintro rfl;exact IE rfl)]
theorem fI {d:DB} {p:Int}(h:d.di p=true):d.has p=true∧(d.at_ p).typ=1:=by simpa [di]using h
theorem AK {t s:Int}(ht:t=2∨turns t=true)(hs:0≤s∧s≤63):(Ent.mk t s 0 0 false).ok=true:=by
 have:t=2∨t=4∨t=5∨t=6:=by simpa [turns,or_assoc]using ht
 simp only [Ent.ok,decide_eq_true_eq];simp;omega
theorem E8 {e:Ent} {t:Int}(h:e.ok=true)(he:turns e.typ=true)(ht:turns t=true):(Ent.mk t e.owner e.refs e.state e.aM).ok=true:=by
 have h1:=Ent.cS h
 have h2:e.typ=4∨e.typ=5∨e.typ=6:=by simpa [turns,or_assoc]using he
 have h3:t=4∨t=5∨t=6:=by simpa [turns,or_assoc]using ht
 simp only [Ent.ok,decide_eq_true_eq]
 refine⟨by omega,by omega,by omega,by omega,by omega,by omega,by omega,by omega,by omega,fun _=>h1.2.2.2.2.2.2.2.2.2 (by omega)⟩
theorem qX {e:Ent} {k:Int}(h:e.ok=true)(he:e.typ=1)(hk:0≤e.refs+k∧e.refs+k≤63):(Ent.mk e.typ e.owner (e.refs+k) e.state e.aM).ok=true:=by
 have h1:=Ent.cS h
 simp only [Ent.ok,decide_eq_true_eq]
 refine⟨by omega,by omega,by omega,by omega,by omega,by omega,by omega,by omega,by omega,fun _=>h1.2.2.2.2.2.2.2.2.2 (by omega)⟩
theorem Ek {e:Ent} {s:Int}(h:e.ok=true)(he:e.typ=1)(hs:1≤s∧s≤3):(Ent.mk e.typ e.owner e.refs s e.aM).ok=true:=by
 have h1:=Ent.cS h
 simp only [Ent.ok,decide_eq_true_eq]
 refine⟨by omega,by omega,by omega,by omega,by omega,by omega,by omega,by omega,by omega,fun _=>h1.2.2.2.2.2.2.2.2.2 (by omega)⟩
theorem vD {e:Ent} {b:Bool}(h:e.ok=true)(he:e.typ=2):(Ent.mk e.typ e.owner e.refs e.state b).ok=true:=by
 have h1:=Ent.cS h
 simp only [Ent.ok,decide_eq_true_eq]
 refine⟨by omega,by omega,by omega,by omega,by omega,by omega,by omega,by omega,by omega,fun h=>absurd he h⟩
theorem Ok.at_ {d:DB}(h:d.Ok) {p:Int}(hp:d.has p=true):(d.at_ p).ok=true∧(d.at_ p).owner<d.S∧0≤(d.at_ p).owner:=
 ⟨(h.ent _ (cr hp)).1,(h.ent _ (cr hp)).2,(Ent.cS (h.ent _ (cr hp)).1).2.2.1⟩
end DB
section
structure eT where
 g:Nat
 a:Nat
 M:dM
def eT.X(L:eT):Nat→Prop:=fun k=>k=L.g∨k=L.a∨L.M.X k
abbrev DB.n2(D:DB):Nat:=2*D.mem.S
structure DBP(w:World)(L:eT)(D:DB):Prop where
 hd:∃T,Blk w L.g #[.pointer (some (Addr.mk L.M.g 0 none)),.int .i64 D.aq,.slice (some (Addr.mk L.a 0 none)) D.n2 D.n2] T
 ws:∃T cs,Blk w L.a cs T∧cs.size=D.n2∧∀p,p<D.S→cs[2*p]? =some (.int .u32 (D.ent p).w0)∧cs[2*p+1]? =some (.int .u32 (D.ent p).w1)
 mem:bV w L.M D.mem
 ok:D.Ok
 dis:L.a≠L.g∧¬L.M.X L.g∧¬L.M.X L.a
section
variable {w w' w2:World} {L:eT} {D:DB} {Y:Nat→Prop}
theorem DBP.lt(h:DBP w L D):∀k,L.X k→k<w.heap.size:=by
 rintro k (rfl | rfl | hk)
 ·obtain⟨T,hd⟩:=h.hd;exact hd.lt
 ·obtain⟨T,cs,hr,_⟩:=h.ws;exact hr.lt
 ·exact h.mem.lt k hk
theorem DBP.ch(h:DBP w L D)(hk:Ch Y w w')(hb:∀k,L.X k→¬Y k):DBP w' L D:=by
 refine⟨?_,?_,h.mem.ch hk fun k hx=>hb k (.inr (.inr hx)),h.ok,h.dis⟩
 ·obtain⟨T,hd⟩:=h.hd;exact⟨T,hk.blk hd (hb _ (.inl rfl))⟩
 ·obtain⟨T,cs,hr,h2⟩:=h.ws;exact⟨T,cs,hk.blk hr (hb _ (.inr (.inl rfl))),h2⟩
theorem DBP.pu(h:DBP w L D)(hk:Pu w w'):DBP w' L D:=h.ch hk (by simp)
theorem DBP.S64(h:DBP w L D):D.S≤64:=h.mem.most.1
theorem DBP.kh(h:DBP w L D) {m:Mem}(hm:bV w' L.M m)(hc:Ch L.M.X w w')(hs:m.S=D.mem.S):DBP w' L (D.aK m):=by
 refine⟨?_,?_,hm,⟨fun p hp=>?_,h.ok.aq⟩,h.dis⟩
 ·obtain⟨T,hd⟩:=h.hd
  refine⟨T,?_⟩
  show Blk w' L.g #[_,_,.slice _ (2*m.S) (2*m.S)] T
  rw [hs];exact hc.blk hd h.dis.2.1
 ·obtain⟨T,cs,hr,h2⟩:=h.ws
  refine⟨T,cs,hc.blk hr h.dis.2.2,?_⟩
  show cs.size=2*m.S∧∀p,p<m.S→_
  rw [hs];exact h2
 ·have SE:p<m.S:=hp
  rw [hs]at SE
  have:=h.ok.ent p SE
  refine⟨this.1,?_⟩
  show _<(m.S:Int)
  rw [hs];exact this.2
theorem DBP.yp(h:DBP w L D) {x:Int} {T:TypeId}(hs:bb w L.g #[.pointer (some (Addr.mk L.M.g 0 none)),.int .i64 x,.slice (some (Addr.mk L.a 0 none)) D.n2 D.n2] T w2)(hx:0≤x∧x≤64):DBP w2 L (D.dD x):=by
 refine⟨⟨T,hs.blk⟩,?_,h.mem.ch hs.ch fun k hk e=>h.dis.2.1 (e▸hk),⟨h.ok.ent,hx⟩,h.dis⟩
 obtain⟨T,cs,hr,h2⟩:=h.ws
 exact⟨T,cs,hs.old hr h.dis.1,h2⟩
theorem DBP.EO(h:DBP w L D) {p:Int} {e:Ent}(hp:D.has p=true)(he:e.ok=true)(ho:e.owner<D.S) {cs:Array Value} {T:TypeId}(hb:Blk w L.a cs T)(hs:bb w L.a (setAt cs (2*p.toNat) [.int .u32 e.w0,.int .u32 e.w1]) T w2):DBP w2 L (D.set p e):=by
 obtain⟨T',cs',hr,Hv,h2⟩:=h.ws
 obtain⟨rfl,rfl⟩:=hb.inj hr
 have hn:=DB.cr hp
 refine⟨?_,⟨T,_,hs.blk,by rw [dt];exact Hv,fun q hq=>?_⟩,h.mem.ch hs.ch fun k hk e=>h.dis.2.2 (e▸hk),⟨fun q hq=>?_,h.ok.aq⟩,h.dis⟩
 ·obtain⟨T,hd⟩:=h.hd;exact⟨T,hs.old hd h.dis.1.symm⟩
 ·have hl:2*p.toNat+ [Value.int .u32 e.w0,Value.int .u32 e.w1].length≤cs.size:=by
   have h1:D.n2=2*D.S:=rfl
   rw [Hv,h1];simp only [List.length_cons,List.length_nil];omega
  rw [cN _ _ _ _ hl,cN _ _ _ _ hl]
  simp only [DB.set,List.length_cons,List.length_nil]
  by_cases QG:q=p.toNat
  ·subst QG
   simp
  ·rw [if_neg (by omega),if_neg (by omega:¬(2*p.toNat≤2*q+1∧2*q+1<2*p.toNat+(0+1+1)))]
   simp only [QG,if_false]
   exact h2 q hq
 ·simp only [DB.set]
  split
  ·exact⟨he,ho⟩
  ·exact h.ok.ent q hq
theorem Mem.dJ(m:Mem)(s:Bool)(p o v:Int):(m.write s p o v).S=m.S:=by unfold Mem.write;split<;>rfl
theorem Mem.wg(m:Mem)(s:Bool)(p:Int):(m.zero s p).S=m.S:=by unfold Mem.zero;split<;>rfl
theorem eT.inM(L:eT)(k:Nat)(h:L.M.X k):L.X k:= .inr (.inr h)
theorem rv(h:DBP w L D)(s:Bool)(p o v:Int)(hv:0≤v∧v<4294967296):
 Calls prog 22 #[ptr L.M.g,fr s p,.int .i64 o,.int .u32 v] w fun e w'=>∃u,e= .returned u∧u= .int .i64 (D.mem.err s p o)∧DBP w' L (D.aK (D.mem.write s p o v))∧Ch L.M.X w w':=
 (AU h.mem s p o v hv).mono fun e w' ⟨u,he,hu,hm,hc⟩=>⟨u,he,hu,h.kh hm hc (Mem.dJ ..),hc⟩
theorem dP(x:Int):0≤u32.wrap x∧u32.wrap x<4294967296:=by rw [u32_eq];omega
end
end
end Go.Proofs.YtfmcaoaaiganbaaGreatDoor
namespace Go.Proofs.YtfmcaoaaiganbaaGreatDoor
open Go.Proofs.Tryz (prog)
open Go Go.RowKit V
open Go.IntKind (i64 u32 u64)
section
set_option maxRecDepth 100000
def qA(t:Int)(R:ax)(w:World):Prop:=
 ∃J:Bool→World→Prop,(
  split ((t:Int)==4) (
   J true w) (
   split ((t:Int)==5) (
    J true w) (
    J ((t:Int)==6) w)))∧∀(Ic:Nat→Value)(x2:Bool),∀wv,J x2 wv→
 R (.bool x2) wv
def z0:Ann:=(.node none .leaf (.node none (.node (some ⟨[(2,.one (.bool))],[2,3,4,5,6,7,8,9,10,11,12]⟩) .leaf .leaf) .leaf))
theorem DTurns_eq(t:Int)(R:ax)(w:World):qA t R w=vcF prog aE [] Tryz.f87 z0 [(.int .i64 t)] R none w:=by kernel_rfl
theorem r8(t:Int) {R:ax} {w:World}(h:qA t R w):Calls prog 87 #[(.int .i64 t)] w fun e w'=>∃v,e= .returned v∧R v w':=
 ai Tryz.func87 au aa ((DTurns_eq t R w).mp h)
def oK(ak:Int)(R:ax)(w:World):Prop:=
 ∀(gv:Nat)(wv:World),gv=w.heap.size→wv=w.alloc (.cells (#[(.bool false),(.int .i64 0)]) 39)→
 aD wv (Addr.mk gv 0 none) [(.bool true),(.int .i64 ak)] fun Hb=>
 ∃KF:Bool,∃KE:Int,(Hb.cell? ((Addr.mk gv 0 none).add 0)=some (.bool KF)∧Hb.cell? ((Addr.mk gv 0 none).add 1)=some (.int .i64 KE))∧
 R (.agg #[(.bool KF),(.int .i64 KE)]) Hb
def wI:Ann:= .leaf
theorem DSecure_eq(ak:Int)(R:ax)(w:World):oK ak R w=vcF prog aE [] Tryz.f80 wI [(.int .i64 ak)] R none w:=by kernel_rfl
theorem pr(ak:Int) {R:ax} {w:World}(h:oK ak R w):Calls prog 80 #[(.int .i64 ak)] w fun e w'=>∃v,e= .returned v∧R v w':=
 ai Tryz.func80 au aa ((DSecure_eq ak R w).mp h)
def qB(d:Option Addr)(R:ax)(w:World):Prop:=
 av d fun p4=>
 ∃NB:Option Addr,∃Mh:Nat,∃Of:Nat,w.cell? (p4.add 2)=some (.slice NB Mh Of)∧
 R (.int .i64 (i64.wrap ((((Mh:Nat):Int):Int).tdiv 2))) w
def z2:Ann:= .leaf
theorem DPages_eq(d:Option Addr)(R:ax)(w:World):qB d R w=vcF prog aE [] Tryz.f70 z2 [(.pointer d)] R none w:=by kernel_rfl
theorem sd(d:Option Addr) {R:ax} {w:World}(h:qB d R w):Calls prog 70 #[(.pointer d)] w fun e w'=>∃v,e= .returned v∧R v w':=
 ai Tryz.func70 au aa ((DPages_eq d R w).mp h)
def ya(d:Option Addr)(ak:Int)(R:ax)(w:World):Prop:=
 ∃J:Bool→World→Prop,(
  split (decide ((ak:Int)≥0)) (
   Calls prog 70 #[(.pointer d)] w fun e wv=>
   ∃HE:Int,e= .returned (.int .i64 HE)∧
   J (decide ((ak:Int)<HE)) wv) (
   J false w))∧∀(Ic:Nat→Value)(x4:Bool),∀wv,J x4 wv→
 R (.bool x4) wv
def Ee:Ann:=(.node none .leaf (.node none (.node (some ⟨[(4,.one (.bool))],[4,5,6,7,8,9,10,11,12]⟩) .leaf .leaf) .leaf))
theorem DHas_eq(d:Option Addr)(ak:Int)(R:ax)(w:World):ya d ak R w=vcF prog aE [] Tryz.f84 Ee [(.pointer d),(.int .i64 ak)] R none w:=by kernel_rfl
theorem wP(d:Option Addr)(ak:Int) {R:ax} {w:World}(h:ya d ak R w):Calls prog 84 #[(.pointer d),(.int .i64 ak)] w fun e w'=>∃v,e= .returned v∧R v w':=
 ai Tryz.func84 au aa ((DHas_eq d ak R w).mp h)
def CN(d:Option Addr)(ak:Int)(R:ax)(w:World):Prop:=
 ∀(gv:Nat)(wv:World),gv=w.heap.size→wv=w.alloc (.cells (#[(.int .i64 0),(.int .i64 0),(.int .i64 0),(.int .i64 0),(.bool false)]) 127)→
 av d fun p9=>
 ∃NJ:Option Addr,∃NH:Nat,∃NI:Nat,wv.cell? (p9.add 2)=some (.slice NJ NH NI)∧
 (0≤(i64.wrap (2*ak):Int)∧(i64.wrap (2*ak):Int)≤((NH:Nat):Int))∧
 ∀Qi:Option Addr,Qi=(if NI=(Int.toNat (i64.wrap (2*ak)))then NJ else(NJ:Option Addr).map (·.add ((Int.toNat (i64.wrap (2*ak)))*1)))→∀Qh:Nat,Qh=NH - (Int.toNat (i64.wrap (2*ak)))→∀Sf:Nat,Sf=NI - (Int.toNat (i64.wrap (2*ak)))→
 2≤Qh∧
 av Qi fun MK=>
 ∃P8:Int,∃P7:Int,(wv.cell? (MK.add 0)=some (.int .u32 P8)∧wv.cell? (MK.add 1)=some (.int .u32 P7))∧
 Calls prog 146 #[(.agg #[(.int .u32 P8),(.int .u32 P7)])] wv fun e Hb=>
 ∃x17aa:Int,∃x17ab:Int,∃x17ac:Int,∃x17ad:Int,∃x17ae:Bool,∃MG:Int,e= .returned (.tuple #[(.agg #[(.int .i64 x17aa),(.int .i64 x17ab),(.int .i64 x17ac),(.int .i64 x17ad),(.bool x17ae)]),(.int .i64 MG)])∧
 ∀(Hm:Nat)(He:World),Hm=Hb.heap.size→He=Hb.alloc (.cells (#[(.int .i64 0),(.int .i64 0),(.int .i64 0),(.int .i64 0),(.bool false)]) 127)→
 aD He (Addr.mk Hm 0 none) [(.int .i64 x17aa),(.int .i64 x17ab),(.int .i64 x17ac),(.int .i64 x17ad),(.bool x17ae)] fun Hf=>
 ∃PZ:Int,∃PY:Int,∃PX:Int,∃PW:Int,∃PV:Bool,(Hf.cell? ((Addr.mk Hm 0 none).add 0)=some (.int .i64 PZ)∧Hf.cell? ((Addr.mk Hm 0 none).add 1)=some (.int .i64 PY)∧Hf.cell? ((Addr.mk Hm 0 none).add 2)=some (.int .i64 PX)∧Hf.cell? ((Addr.mk Hm 0 none).add 3)=some (.int .i64 PW)∧Hf.cell? ((Addr.mk Hm 0 none).add 4)=some (.bool PV))∧
 aD Hf (Addr.mk gv 0 none) [(.int .i64 PZ),(.int .i64 PY),(.int .i64 PX),(.int .i64 PW),(.bool PV)] fun Hl=>
 ∃KF:Int,∃KE:Int,∃LO:Int,∃LN:Int,∃LM:Bool,(Hl.cell? ((Addr.mk gv 0 none).add 0)=some (.int .i64 KF)∧Hl.cell? ((Addr.mk gv 0 none).add 1)=some (.int .i64 KE)∧Hl.cell? ((Addr.mk gv 0 none).add 2)=some (.int .i64 LO)∧Hl.cell? ((Addr.mk gv 0 none).add 3)=some (.int .i64 LN)∧Hl.cell? ((Addr.mk gv 0 none).add 4)=some (.bool LM))∧
 R (.agg #[(.int .i64 KF),(.int .i64 KE),(.int .i64 LO),(.int .i64 LN),(.bool LM)]) Hl
def FP:Ann:= .leaf
theorem DAt_eq(d:Option Addr)(ak:Int)(R:ax)(w:World):CN d ak R w=vcF prog aE [] Tryz.f85 FP [(.pointer d),(.int .i64 ak)] R none w:=by kernel_rfl
theorem z8(d:Option Addr)(ak:Int) {R:ax} {w:World}(h:CN d ak R w):Calls prog 85 #[(.pointer d),(.int .i64 ak)] w fun e w'=>∃v,e= .returned v∧R v w':=
 ai Tryz.func85 au aa ((DAt_eq d ak R w).mp h)
def xY(d:Option Addr)(ak:Int)(ea:Int)(eb:Int)(ec:Int)(ed:Int)(ee:Bool)(R:ax)(w:World):Prop:=
 ∀(gv:Nat)(wv:World),gv=w.heap.size→wv=w.alloc (.cells #[(.int .i64 ea),(.int .i64 eb),(.int .i64 ec),(.int .i64 ed),(.bool ee)] 127)→
 ∃Lg:Int,∃Lf:Int,∃OD:Int,∃OC:Int,∃OB:Bool,(wv.cell? ((Addr.mk gv 0 none).add 0)=some (.int .i64 Lg)∧wv.cell? ((Addr.mk gv 0 none).add 1)=some (.int .i64 Lf)∧wv.cell? ((Addr.mk gv 0 none).add 2)=some (.int .i64 OD)∧wv.cell? ((Addr.mk gv 0 none).add 3)=some (.int .i64 OC)∧wv.cell? ((Addr.mk gv 0 none).add 4)=some (.bool OB))∧
 Calls prog 147 #[(.agg #[(.int .i64 Lg),(.int .i64 Lf),(.int .i64 OD),(.int .i64 OC),(.bool OB)])] wv fun e Hb=>
 ∃x10aa:Int,∃x10ab:Int,∃IT:Int,e= .returned (.tuple #[(.agg #[(.int .u32 x10aa),(.int .u32 x10ab)]),(.int .i64 IT)])∧
 ∀(Hm:Nat)(He:World),Hm=Hb.heap.size→He=Hb.alloc (.cells (#[(.int .u32 0),(.int .u32 0)]) 184)→
 aD He (Addr.mk Hm 0 none) [(.int .u32 x10aa),(.int .u32 x10ab)] fun Hf=>
 ∃b:Nat→Nat→Prop,
 av d fun Qv=>
 b 3 ((Qv.add 2).block)∧
 ∃NG:Option Addr,∃ND:Nat,∃NF:Nat,Hf.drew.cell? (Qv.add 2)=some (.slice NG ND NF)∧
 (0≤(i64.wrap (2*ak):Int)∧(i64.wrap (2*ak):Int)≤((ND:Nat):Int))∧
 ∀MF:Option Addr,MF=(if NF=(Int.toNat (i64.wrap (2*ak)))then NG else(NG:Option Addr).map (·.add ((Int.toNat (i64.wrap (2*ak)))*1)))→∀JS:Nat,JS=ND - (Int.toNat (i64.wrap (2*ak)))→∀ME:Nat,ME=NF - (Int.toNat (i64.wrap (2*ak)))→
 ∀Lu:Option Addr,Lu=(some (if 2=0 then Addr.mk Hm 0 none else(Addr.mk Hm 0 none).add (0*1)))→∀Lr:Nat,Lr=2 - 0→∀Lt:Nat,Lt=2 - 0→
 ∃IS:Int,∃Hl,(Builtin.copy_ #[31,31] 3 #[(.slice MF JS ME),(.slice Lu Lr Lt)]:Sem Value).run prog Hf.drew= .ok (.int .i64 IS) Hl∧
 Kept (fm b [0,1]) Hf.drew Hl∧∃b1:Nat→Nat→Prop,(∀i k,b i k→b1 i k)∧
 R (.tuple #[]) Hl
def Ec:Ann:= .leaf
theorem DSet_eq(d:Option Addr)(ak:Int)(ea:Int)(eb:Int)(ec:Int)(ed:Int)(ee:Bool)(R:ax)(w:World):xY d ak ea eb ec ed ee R w=vcF prog aE [] Tryz.f86 Ec [(.pointer d),(.int .i64 ak),(.agg #[(.int .i64 ea),(.int .i64 eb),(.int .i64 ec),(.int .i64 ed),(.bool ee)])] R none w:=by kernel_rfl
theorem wH(d:Option Addr)(ak:Int)(ea:Int)(eb:Int)(ec:Int)(ed:Int)(ee:Bool) {R:ax} {w:World}(h:xY d ak ea eb ec ed ee R w):Calls prog 86 #[(.pointer d),(.int .i64 ak),(.agg #[(.int .i64 ea),(.int .i64 eb),(.int .i64 ec),(.int .i64 ed),(.bool ee)])] w fun e w'=>∃v,e= .returned v∧R v w':=
 ai Tryz.func86 au aa ((DSet_eq d ak ea eb ec ed ee R w).mp h)
def qD(d:Option Addr)(ak:Int)(R:ax)(w:World):Prop:=
 ∀(gv:Nat)(wv:World),gv=w.heap.size→wv=w.alloc (.cells (#[(.int .i64 0),(.int .i64 0),(.int .i64 0),(.int .i64 0),(.bool false)]) 127)→
 Calls prog 84 #[(.pointer d),(.int .i64 ak)] wv fun e Hb=>
 ∃x8:Bool,e= .returned (.bool x8)∧
 split (!x8) (
  aD Hb (Addr.mk gv 0 none) [(.int .i64 0),(.int .i64 0),(.int .i64 0),(.int .i64 0),(.bool false)] fun He=>
  ∃KF:Int,∃KE:Int,∃LO:Int,∃LN:Int,∃LM:Bool,(He.cell? ((Addr.mk gv 0 none).add 0)=some (.int .i64 KF)∧He.cell? ((Addr.mk gv 0 none).add 1)=some (.int .i64 KE)∧He.cell? ((Addr.mk gv 0 none).add 2)=some (.int .i64 LO)∧He.cell? ((Addr.mk gv 0 none).add 3)=some (.int .i64 LN)∧He.cell? ((Addr.mk gv 0 none).add 4)=some (.bool LM))∧
  R (.tuple #[(.agg #[(.int .i64 KF),(.int .i64 KE),(.int .i64 LO),(.int .i64 LN),(.bool LM)]),(.int .i64 5)]) He) (
  Calls prog 85 #[(.pointer d),(.int .i64 ak)] Hb fun e He=>
  ∃Iv:Int,∃IG:Int,∃LF:Int,∃LD:Int,∃LC:Bool,e= .returned (.agg #[(.int .i64 Iv),(.int .i64 IG),(.int .i64 LF),(.int .i64 LD),(.bool LC)])∧
  aD He (Addr.mk gv 0 none) [(.int .i64 Iv),(.int .i64 IG),(.int .i64 LF),(.int .i64 LD),(.bool LC)] fun Hf=>
  ∃KF:Int,∃KE:Int,∃LO:Int,∃LN:Int,∃LM:Bool,(Hf.cell? ((Addr.mk gv 0 none).add 0)=some (.int .i64 KF)∧Hf.cell? ((Addr.mk gv 0 none).add 1)=some (.int .i64 KE)∧Hf.cell? ((Addr.mk gv 0 none).add 2)=some (.int .i64 LO)∧Hf.cell? ((Addr.mk gv 0 none).add 3)=some (.int .i64 LN)∧Hf.cell? ((Addr.mk gv 0 none).add 4)=some (.bool LM))∧
  R (.tuple #[(.agg #[(.int .i64 KF),(.int .i64 KE),(.int .i64 LO),(.int .i64 LN),(.bool LM)]),(.int .i64 0)]) Hf)
def z4:Ann:= .leaf
theorem DEntry_eq(d:Option Addr)(ak:Int)(R:ax)(w:World):qD d ak R w=vcF prog aE [] Tryz.f71 z4 [(.pointer d),(.int .i64 ak)] R none w:=by kernel_rfl
theorem sf(d:Option Addr)(ak:Int) {R:ax} {w:World}(h:qD d ak R w):Calls prog 71 #[(.pointer d),(.int .i64 ak)] w fun e w'=>∃v,e= .returned v∧R v w':=
 ai Tryz.func71 au aa ((DEntry_eq d ak R w).mp h)
def mm(d:Option Addr)(ak:Int)(R:ax)(w:World):Prop:=
 ∃J:Bool→World→Prop,(
  Calls prog 84 #[(.pointer d),(.int .i64 ak)] w fun e wv=>
  ∃x7:Bool,e= .returned (.bool x7)∧
  split x7 (
   Calls prog 85 #[(.pointer d),(.int .i64 ak)] wv fun e Hb=>
   ∃LG:Int,∃MH:Int,∃Sj:Int,∃Si:Int,∃Sg:Bool,e= .returned (.agg #[(.int .i64 LG),(.int .i64 MH),(.int .i64 Sj),(.int .i64 Si),(.bool Sg)])∧
   J ((LG:Int)==1) Hb) (
   J false wv))∧∀(Ic:Nat→Value)(x4:Bool),∀wv,J x4 wv→
 R (.bool x4) wv
def vd:Ann:=(.node none .leaf (.node none (.node (some ⟨[(4,.one (.bool))],[4,5,6,7,8,9,10,11,12,13,14]⟩) .leaf .leaf) .leaf))
theorem DIsSpace_eq(d:Option Addr)(ak:Int)(R:ax)(w:World):mm d ak R w=vcF prog aE [] Tryz.f88 vd [(.pointer d),(.int .i64 ak)] R none w:=by kernel_rfl
theorem oM(d:Option Addr)(ak:Int) {R:ax} {w:World}(h:mm d ak R w):Calls prog 88 #[(.pointer d),(.int .i64 ak)] w fun e w'=>∃v,e= .returned v∧R v w':=
 ai Tryz.func88 au aa ((DIsSpace_eq d ak R w).mp h)
def u9(d:Option Addr)(space:Int)(more:Int)(R:ax)(w:World):Prop:=
 Calls prog 85 #[(.pointer d),(.int .i64 space)] w fun e wv=>
 ∃Lg:Int,∃Lf:Int,∃OD:Int,∃OC:Int,∃OB:Bool,e= .returned (.agg #[(.int .i64 Lg),(.int .i64 Lf),(.int .i64 OD),(.int .i64 OC),(.bool OB)])∧
 ∀(gv:Nat)(Hb:World),gv=wv.heap.size→Hb=wv.alloc (.cells (#[(.int .i64 0),(.int .i64 0),(.int .i64 0),(.int .i64 0),(.bool false)]) 127)→
 aD Hb (Addr.mk gv 0 none) [(.int .i64 Lg),(.int .i64 Lf),(.int .i64 OD),(.int .i64 OC),(.bool OB)] fun He=>
 ∃H3:Int,He.cell? ((Addr.mk gv 0 none).add 2)=some (.int .i64 H3)∧
 aD He ((Addr.mk gv 0 none).add 2) [(.int .i64 (i64.wrap (H3+more)))] fun Hf=>
 ∃P6:Int,∃MG:Int,∃P5:Int,∃P4:Int,∃P3:Bool,(Hf.cell? ((Addr.mk gv 0 none).add 0)=some (.int .i64 P6)∧Hf.cell? ((Addr.mk gv 0 none).add 1)=some (.int .i64 MG)∧Hf.cell? ((Addr.mk gv 0 none).add 2)=some (.int .i64 P5)∧Hf.cell? ((Addr.mk gv 0 none).add 3)=some (.int .i64 P4)∧Hf.cell? ((Addr.mk gv 0 none).add 4)=some (.bool P3))∧
 Calls prog 86 #[(.pointer d),(.int .i64 space),(.agg #[(.int .i64 P6),(.int .i64 MG),(.int .i64 P5),(.int .i64 P4),(.bool P3)])] Hf fun e Hl=>
 e= .returned (.tuple #[])∧
 R (.tuple #[]) Hl
def CL:Ann:= .leaf
theorem DRefs_eq(d:Option Addr)(space:Int)(more:Int)(R:ax)(w:World):u9 d space more R w=vcF prog aE [] Tryz.f89 CL [(.pointer d),(.int .i64 space),(.int .i64 more)] R none w:=by kernel_rfl
theorem vb(d:Option Addr)(space:Int)(more:Int) {R:ax} {w:World}(h:u9 d space more R w):Calls prog 89 #[(.pointer d),(.int .i64 space),(.int .i64 more)] w fun e w'=>∃v,e= .returned v∧R v w':=
 ai Tryz.func89 au aa ((DRefs_eq d space more R w).mp h)
def u5(d:Option Addr)(ak:Int)(t:Int)(space:Int)(R:ax)(w:World):Prop:=
 Calls prog 84 #[(.pointer d),(.int .i64 ak)] w fun e wv=>
 ∃HU:Bool,e= .returned (.bool HU)∧
 ∀x9:Bool,x9=(!HU)→
 split x9 (
  R (.int .i64 5) wv) (
  ∃J:Bool→World→Prop,(
   split ((t:Int) !=2) (
    Calls prog 87 #[(.int .i64 t)] wv fun e Hb=>
    ∃Hz:Bool,e= .returned (.bool Hz)∧
    ∀H4:Bool,H4=(!Hz)→
    J H4 Hb) (
    ∀H4:Bool,H4=false→
    J H4 wv))∧∀(Ic:Nat→Value)(H4:Bool),∀Hb,J H4 Hb→
  split H4 (
   R (.int .i64 124) Hb) (
   ∃J1:Bool→World→Prop,(
    Calls prog 88 #[(.pointer d),(.int .i64 space)] Hb fun e He=>
    ∃KB:Bool,e= .returned (.bool KB)∧
    split (!KB) (
     ∀Ht:Bool,Ht=true→
     J1 Ht He) (
     Calls prog 85 #[(.pointer d),(.int .i64 space)] He fun e Hf=>
     ∃Se:Int,∃Sd:Int,∃PE:Int,∃Sc:Int,∃Sb:Bool,e= .returned (.agg #[(.int .i64 Se),(.int .i64 Sd),(.int .i64 PE),(.int .i64 Sc),(.bool Sb)])∧
     ∀Ht:Bool,Ht=(decide ((PE:Int)≥63))→
     J1 Ht Hf))∧∀(Hn:Nat→Value)(Ht:Bool),∀He,J1 Ht He→
   split Ht (
    R (.int .i64 122) He) (
    Calls prog 85 #[(.pointer d),(.int .i64 ak)] He fun e Hf=>
    ∃Pj:Int,∃R5:Int,∃R4:Int,∃R3:Int,∃R2:Bool,e= .returned (.agg #[(.int .i64 Pj),(.int .i64 R5),(.int .i64 R4),(.int .i64 R3),(.bool R2)])∧
    ∀M6:Bool,M6=((Pj:Int) !=0)→
    split M6 (
     R (.int .i64 120) Hf) (
     Calls prog 86 #[(.pointer d),(.int .i64 ak),(.agg #[(.int .i64 t),(.int .i64 space),(.int .i64 0),(.int .i64 0),(.bool false)])] Hf fun e Hl=>
     e= .returned (.tuple #[])∧
     Calls prog 89 #[(.pointer d),(.int .i64 space),(.int .i64 1)] Hl fun e HG=>
     e= .returned (.tuple #[])∧
     R (.int .i64 0) HG))))
def CK:Ann:=(.node none .leaf (.node none (.node none (.node none .leaf (.node none .leaf (.node none (.node (some ⟨[(14,.one (.bool))],[14,15,16,17,18,19,20,21]⟩) .leaf .leaf) (.node none .leaf (.node none (.node (some ⟨[(22,.one (.bool))],[22,23,24,25,26,27,28,29,30,31,32,33]⟩) .leaf .leaf) .leaf))))) .leaf) .leaf))
theorem DTake_eq(d:Option Addr)(ak:Int)(t:Int)(space:Int)(R:ax)(w:World):u5 d ak t space R w=vcF prog aE [9,14,22,34] Tryz.f42 CK [(.pointer d),(.int .i64 ak),(.int .i64 t),(.int .i64 space)] R none w:=by kernel_rfl
theorem u6(d:Option Addr)(ak:Int)(t:Int)(space:Int) {R:ax} {w:World}(h:u5 d ak t space R w):Calls prog 42 #[(.pointer d),(.int .i64 ak),(.int .i64 t),(.int .i64 space)] w fun e w'=>∃v,e= .returned v∧R v w':=
 ai Tryz.func42 au aa ((DTake_eq d ak t space R w).mp h)
def kY(d:Option Addr)(space:Int)(s:Int)(R:ax)(w:World):Prop:=
 Calls prog 84 #[(.pointer d),(.int .i64 space)] w fun e wv=>
 ∃HE:Bool,e= .returned (.bool HE)∧
 split (!HE) (
  R (.int .i64 5) wv) (
  Calls prog 85 #[(.pointer d),(.int .i64 space)] wv fun e Hb=>
  ∃LB:Int,∃KS:Int,∃Qg:Int,∃Qf:Int,∃Qe:Bool,e= .returned (.agg #[(.int .i64 LB),(.int .i64 KS),(.int .i64 Qg),(.int .i64 Qf),(.bool Qe)])∧
  ∀(gv:Nat)(He:World),gv=Hb.heap.size→He=Hb.alloc (.cells (#[(.int .i64 0),(.int .i64 0),(.int .i64 0),(.int .i64 0),(.bool false)]) 127)→
  aD He (Addr.mk gv 0 none) [(.int .i64 LB),(.int .i64 KS),(.int .i64 Qg),(.int .i64 Qf),(.bool Qe)] fun Hf=>
  ∃Iu:Int,Hf.cell? ((Addr.mk gv 0 none).add 0)=some (.int .i64 Iu)∧
  ∀HA:Bool,HA=((Iu:Int) !=1)→
  split HA (
   R (.int .i64 124) Hf) (
   ∃J:Bool→World→Prop,(
    split ((s:Int) !=3) (
     ∃Ln:Int,Hf.cell? ((Addr.mk gv 0 none).add 3)=some (.int .i64 Ln)∧
     split ((Ln:Int) !=1) (
      ∀Hz:Bool,Hz=true→
      J Hz Hf) (
      ∀Hz:Bool,Hz=((s:Int) !=2)→
      J Hz Hf)) (
     ∀Hz:Bool,Hz=false→
     J Hz Hf))∧∀(Hn:Nat→Value)(Hz:Bool),∀Hl,J Hz Hl→
   split Hz (
    R (.int .i64 3) Hl) (
    aD Hl ((Addr.mk gv 0 none).add 3) [(.int .i64 s)] fun HG=>
    ∃Ps:Int,∃Pr:Int,∃Pq:Int,∃Pp:Int,∃Po:Bool,(HG.cell? ((Addr.mk gv 0 none).add 0)=some (.int .i64 Ps)∧HG.cell? ((Addr.mk gv 0 none).add 1)=some (.int .i64 Pr)∧HG.cell? ((Addr.mk gv 0 none).add 2)=some (.int .i64 Pq)∧HG.cell? ((Addr.mk gv 0 none).add 3)=some (.int .i64 Pp)∧HG.cell? ((Addr.mk gv 0 none).add 4)=some (.bool Po))∧
    Calls prog 86 #[(.pointer d),(.int .i64 space),(.agg #[(.int .i64 Ps),(.int .i64 Pr),(.int .i64 Pq),(.int .i64 Pp),(.bool Po)])] HG fun e ID=>
    e= .returned (.tuple #[])∧
    R (.int .i64 0) ID)))
def sb:Ann:=(.node none .leaf (.node none .leaf (.node none .leaf (.node none (.node none (.node none .leaf (.node none .leaf (.node none (.node (some ⟨[(19,.one (.bool))],[19,20,21,22,23,24,25,26,27,28,29,30]⟩) .leaf .leaf) .leaf))) .leaf) .leaf))))
theorem DSetState_eq(d:Option Addr)(space:Int)(s:Int)(R:ax)(w:World):kY d space s R w=vcF prog aE [15,19] Tryz.f48 sb [(.pointer d),(.int .i64 space),(.int .i64 s)] R none w:=by kernel_rfl
theorem mC(d:Option Addr)(space:Int)(s:Int) {R:ax} {w:World}(h:kY d space s R w):Calls prog 48 #[(.pointer d),(.int .i64 space),(.int .i64 s)] w fun e w'=>∃v,e= .returned v∧R v w':=
 ai Tryz.func48 au aa ((DSetState_eq d space s R w).mp h)
def jD(d:Option Addr)(space:Int)(first:Int)(R:ax)(w:World):Prop:=
 ∃J:Bool→World→Prop,(
  Calls prog 84 #[(.pointer d),(.int .i64 space)] w fun e wv=>
  ∃HE:Bool,e= .returned (.bool HE)∧
  split (!HE) (
   ∀x7:Bool,x7=true→
   J x7 wv) (
   Calls prog 84 #[(.pointer d),(.int .i64 first)] wv fun e Hb=>
   ∃HA:Bool,e= .returned (.bool HA)∧
   ∀x7:Bool,x7=(!HA)→
   J x7 Hb))∧∀(Ic:Nat→Value)(x7:Bool),∀wv,J x7 wv→
 split x7 (
  R (.int .i64 5) wv) (
  ∀Jd:Bool,Jd=((space:Int)==first)→
  split Jd (
   R (.int .i64 1) wv) (
   ∃J1:Bool→World→Prop,(
    Calls prog 85 #[(.pointer d),(.int .i64 space)] wv fun e Hb=>
    ∃Ll:Int,∃MA:Int,∃Mz:Int,∃My:Int,∃Mx:Bool,e= .returned (.agg #[(.int .i64 Ll),(.int .i64 MA),(.int .i64 Mz),(.int .i64 My),(.bool Mx)])∧
    split ((Ll:Int) !=0) (
     ∀Ht:Bool,Ht=true→
     J1 Ht Hb) (
     Calls prog 85 #[(.pointer d),(.int .i64 first)] Hb fun e He=>
     ∃PB:Int,∃R9:Int,∃R8:Int,∃R7:Int,∃R6:Bool,e= .returned (.agg #[(.int .i64 PB),(.int .i64 R9),(.int .i64 R8),(.int .i64 R7),(.bool R6)])∧
     ∀Ht:Bool,Ht=((PB:Int) !=0)→
     J1 Ht He))∧∀(Hn:Nat→Value)(Ht:Bool),∀Hb,J1 Ht Hb→
   split Ht (
    R (.int .i64 120) Hb) (
    av d fun p37=>
    ∃HS:Int,Hb.cell? (p37.add 1)=some (.int .i64 HS)∧
    ∀Pt:Bool,Pt=(decide ((HS:Int)≥64))→
    split Pt (
     R (.int .i64 240) Hb) (
     Calls prog 86 #[(.pointer d),(.int .i64 space),(.agg #[(.int .i64 1),(.int .i64 space),(.int .i64 1),(.int .i64 1),(.bool false)])] Hb fun e He=>
     e= .returned (.tuple #[])∧
     Calls prog 86 #[(.pointer d),(.int .i64 first),(.agg #[(.int .i64 3),(.int .i64 space),(.int .i64 0),(.int .i64 0),(.bool false)])] He fun e Hf=>
     e= .returned (.tuple #[])∧
     ∃b:Nat→Nat→Prop,
     av d fun p52=>
     b 3 ((p52.add 0).block)∧
     ∃OO:Option Addr,Hf.drew.cell? (p52.add 0)=some (.pointer OO)∧
     Calls prog 80 #[(.int .i64 space)] Hf.drew fun e Hl=>
     ∃ON:Bool,∃OM:Int,e= .returned (.agg #[(.bool ON),(.int .i64 OM)])∧
     Kept (fm b [0,1,2,3,6,7]) Hf.drew Hl∧∃b1:Nat→Nat→Prop,(∀i k,b i k→b1 i k)∧
     Calls prog 22 #[(.pointer OO),(.agg #[(.bool ON),(.int .i64 OM)]),(.int .i64 0),(.int .u32 (u32.wrap first))] Hl fun e HG=>
     ∃x59:Int,e= .returned (.int .i64 x59)∧
     Kept (fm b1 [0]) Hl HG∧∃b2:Nat→Nat→Prop,(∀i k,b1 i k→b2 i k)∧
     ∃b3:Nat→Nat→Prop,
     av d fun p61=>
     b3 3 ((p61.add 0).block)∧
     ∃I8:Option Addr,HG.drew.cell? (p61.add 0)=some (.pointer I8)∧
     av d fun p67=>
     b3 9 ((p67.add 1).block)∧
     ∃x69:Int,HG.drew.cell? (p67.add 1)=some (.int .i64 x69)∧
     Calls prog 80 #[(.int .i64 space)] HG.drew fun e ID=>
     ∃OL:Bool,∃OK:Int,e= .returned (.agg #[(.bool OL),(.int .i64 OK)])∧
     Kept (fm b3 [0,1,2,3,6,7,8,9,10]) HG.drew ID∧∃b4:Nat→Nat→Prop,(∀i k,b3 i k→b4 i k)∧
     Calls prog 22 #[(.pointer I8),(.agg #[(.bool OL),(.int .i64 OK)]),(.int .i64 1),(.int .u32 (u32.wrap x69))] ID fun e IX=>
     ∃x71:Int,e= .returned (.int .i64 x71)∧
     Kept (fm b4 [0,6,7]) ID IX∧∃b5:Nat→Nat→Prop,(∀i k,b4 i k→b5 i k)∧
     ∃b6:Nat→Nat→Prop,
     av d fun p73=>
     b6 3 ((p73.add 0).block)∧
     ∃x75:Option Addr,IX.drew.cell? (p73.add 0)=some (.pointer x75)∧
     Calls prog 80 #[(.int .i64 space)] IX.drew fun e Ja=>
     ∃OF:Bool,∃OE:Int,e= .returned (.agg #[(.bool OF),(.int .i64 OE)])∧
     Kept (fm b6 [0,1,2,3]) IX.drew Ja∧∃b7:Nat→Nat→Prop,(∀i k,b6 i k→b7 i k)∧
     Calls prog 22 #[(.pointer x75),(.agg #[(.bool OF),(.int .i64 OE)]),(.int .i64 2),(.int .u32 0)] Ja fun e K2=>
     ∃x78:Int,e= .returned (.int .i64 x78)∧
     Kept (fm b7 [0]) Ja K2∧∃b8:Nat→Nat→Prop,(∀i k,b7 i k→b8 i k)∧
     av d fun p80=>
     ∃x82:Int,K2.cell? (p80.add 1)=some (.int .i64 x82)∧
     av d fun p84=>
     aD K2 (p84.add 1) [(.int .i64 (i64.wrap (x82+1)))] fun KT=>
     R (.int .i64 0) KT))))
def pq:Ann:=(.node none .leaf (.node none (.node none (.node none (.node (some ⟨[(7,.one (.bool))],[7,8,9,10,11,12,13,14,15,16,17]⟩) .leaf .leaf) (.node none .leaf (.node none .leaf (.node none .leaf (.node none (.node (some ⟨[(22,.one (.bool))],[22,23,24,25,26,27,28,29,30,31,32,33,34]⟩) .leaf .leaf) .leaf))))) .leaf) .leaf))
theorem DTakeSpace_eq(d:Option Addr)(space:Int)(first:Int)(R:ax)(w:World):jD d space first R w=vcF prog aE [7,18,22,35] Tryz.f40 pq [(.pointer d),(.int .i64 space),(.int .i64 first)] R none w:=by kernel_rfl
theorem lO(d:Option Addr)(space:Int)(first:Int) {R:ax} {w:World}(h:jD d space first R w):Calls prog 40 #[(.pointer d),(.int .i64 space),(.int .i64 first)] w fun e w'=>∃v,e= .returned v∧R v w':=
 ai Tryz.func40 au aa ((DTakeSpace_eq d space first R w).mp h)
end
section
set_option maxRecDepth 100000
def qw(aW:Int)(insecure:Int)(R:ax)(w:World):Prop:=
 ∃J:Bool→World→Prop,(
  split (decide ((aW:Int)<1)) (
   J true w) (
   split (decide ((aW:Int)>64)) (
    J true w) (
    split (decide ((insecure:Int)<1)) (
     J true w) (
     J (decide ((insecure:Int)>64)) w))))∧∀(Ic:Nat→Value)(IS:Bool),∀wv,J IS wv→
 split IS (
  R (.tuple #[(.pointer none),(.int .i64 1)]) wv) (
  ∀(Hm:Nat)(Hb:World),Hm=wv.heap.size→Hb=wv.alloc (.cells #[(.slice none 0 0),(.int .i64 aW),(.int .i64 0)] 153)→
  ∀i:Int,i=0→
  ∃I:Nat→Int→World→Prop,(∃m,I m i Hb)∧∀(m:Nat)(I7:Nat→Value)(i1:Int),∀He,I m i1 He→
  split (decide ((i1:Int)<(i64.wrap (aW+insecure)))) (
   ∃Pn:Option Addr,∃Pk:Nat,∃Pm:Nat,He.cell? ((Addr.mk Hm 0 none).add 0)=some (.slice Pn Pk Pm)∧
   ∀(Jc:Nat)(Hf:World),Jc=He.heap.size→Hf=He.alloc (.cells #[(.slice none 0 0)] 31)→
   ∃Ph:Option Addr,∃Pf:Nat,∃Pg:Nat,∃Hl,(Builtin.append_ #[25,25] 25 #[(.slice Pn Pk Pm),(.slice (some (Addr.mk Jc 0 none)) 1 1)]:Sem Value).run prog Hf= .ok (.slice Ph Pf Pg) Hl∧
   aD Hl ((Addr.mk Hm 0 none).add 0) [(.slice Ph Pf Pg)] fun HG=>
   ∀i2:Int,i2=(i64.wrap (i1+1))→
   ∃m1,m1<m∧I m1 i2 HG) (
   R (.tuple #[(.pointer (some (Addr.mk Hm 0 none))),(.int .i64 0)]) He))
def zH:Ann:=(.node none .leaf (.node none (.node none (.node (some ⟨[(21,.one (.bool))],[8,9,10,11,12,13,14,15,16,17,18,19,20,21]⟩) .leaf .leaf) .leaf) (.node none .leaf (.node none (.node none .leaf (.node none (.node (some ⟨[(7,.one (.int .i64))],[7,25,26,27,28,29,30,31,32,33,34,35,36,37,38,39,40]⟩) .leaf .leaf) .leaf)) .leaf))))
theorem R07New_eq(aW:Int)(insecure:Int)(R:ax)(w:World):qw aW insecure R w=vcF prog aE [7] Tryz.f38 zH [(.int .i64 aW),(.int .i64 insecure)] R none w:=by kernel_rfl
theorem rS(aW:Int)(insecure:Int) {R:ax} {w:World}(h:qw aW insecure R w):Calls prog 38 #[(.int .i64 aW),(.int .i64 insecure)] w fun e w'=>∃v,e= .returned v∧R v w':=
 ai Tryz.func38 au aa ((R07New_eq aW insecure R w).mp h)
def mi(m:Option Addr)(fa:Bool)(fb:Int)(R:ax)(w:World):Prop:=
 ∀(gv:Nat)(wv:World),gv=w.heap.size→wv=w.alloc (.cells #[(.bool fa),(.int .i64 fb)] 100)→
 ∃x6:Int,wv.cell? ((Addr.mk gv 0 none).add 1)=some (.int .i64 x6)∧
 split (decide ((x6:Int)<0)) (
  R (.int .i64 (-1)) wv) (
  ∃x9:Bool,wv.cell? ((Addr.mk gv 0 none).add 0)=some (.bool x9)∧
  split x9 (
   ∃H3:Int,wv.drew.cell? ((Addr.mk gv 0 none).add 1)=some (.int .i64 H3)∧
   av m fun NL=>
   ∃HA:Int,wv.drew.cell? (NL.add 1)=some (.int .i64 HA)∧
   split (decide ((H3:Int)<HA)) (
    ∃Jd:Int,wv.drew.cell? ((Addr.mk gv 0 none).add 1)=some (.int .i64 Jd)∧
    R (.int .i64 Jd) wv.drew) (
    R (.int .i64 (-1)) wv.drew)) (
   ∃KC:Int,wv.drew.cell? ((Addr.mk gv 0 none).add 1)=some (.int .i64 KC)∧
   av m fun Qt=>
   ∃MC:Option Addr,∃Lm:Nat,∃MB:Nat,wv.drew.cell? (Qt.add 0)=some (.slice MC Lm MB)∧
   av m fun p27=>
   ∃Lk:Int,wv.drew.cell? (p27.add 1)=some (.int .i64 Lk)∧
   split (decide ((KC:Int)<(i64.wrap (((Lm:Nat):Int) - Lk)))) (
    av m fun Sq=>
    ∃Pt:Int,wv.drew.drew.cell? (Sq.add 1)=some (.int .i64 Pt)∧
    ∃x37:Int,wv.drew.drew.cell? ((Addr.mk gv 0 none).add 1)=some (.int .i64 x37)∧
    R (.int .i64 (i64.wrap (Pt+x37))) wv.drew.drew) (
    R (.int .i64 (-1)) wv.drew)))
def uI:Ann:= .leaf
theorem R07Place_eq(m:Option Addr)(fa:Bool)(fb:Int)(R:ax)(w:World):mi m fa fb R w=vcF prog aE [] Tryz.f99 uI [(.pointer m),(.agg #[(.bool fa),(.int .i64 fb)])] R none w:=by kernel_rfl
theorem oF(m:Option Addr)(fa:Bool)(fb:Int) {R:ax} {w:World}(h:mi m fa fb R w):Calls prog 99 #[(.pointer m),(.agg #[(.bool fa),(.int .i64 fb)])] w fun e w'=>∃v,e= .returned v∧R v w':=
 ai Tryz.func99 au aa ((R07Place_eq m fa fb R w).mp h)
def oC(m:Option Addr)(fa:Bool)(fb:Int)(R:ax)(w:World):Prop:=
 ∀(gv:Nat)(wv:World),gv=w.heap.size→wv=w.alloc (.cells #[(.bool fa),(.int .i64 fb)] 100)→
 ∃x7a:Bool,∃x7b:Int,(wv.cell? ((Addr.mk gv 0 none).add 0)=some (.bool x7a)∧wv.cell? ((Addr.mk gv 0 none).add 1)=some (.int .i64 x7b))∧
 Calls prog 99 #[(.pointer m),(.agg #[(.bool x7a),(.int .i64 x7b)])] wv fun e Hb=>
 ∃x8:Int,e= .returned (.int .i64 x8)∧
 split (decide ((x8:Int)<0)) (
  R (.int .i64 5) Hb) (
  av m fun NL=>
  ∃HA:Int,Hb.cell? (NL.add 2)=some (.int .i64 HA)∧
  av m fun p17=>
  aD Hb (p17.add 2) [(.int .i64 (i64.wrap (HA+1024)))] fun He=>
  av m fun p20=>
  ∃Lq:Option Addr,∃Lp:Nat,∃MD:Nat,He.cell? (p20.add 0)=some (.slice Lq Lp MD)∧
  (0≤(x8:Int)∧(x8:Int)<((Lp:Nat):Int))∧
  av Lq fun p24=>
  aD He (p24.add (Int.toNat x8*1)) [(.slice none 0 0)] fun Hf=>
  R (.int .i64 0) Hf)
def wj:Ann:= .leaf
theorem R07Zero_eq(m:Option Addr)(fa:Bool)(fb:Int)(R:ax)(w:World):oC m fa fb R w=vcF prog aE [] Tryz.f82 wj [(.pointer m),(.agg #[(.bool fa),(.int .i64 fb)])] R none w:=by kernel_rfl
theorem o7(m:Option Addr)(fa:Bool)(fb:Int) {R:ax} {w:World}(h:oC m fa fb R w):Calls prog 82 #[(.pointer m),(.agg #[(.bool fa),(.int .i64 fb)])] w fun e w'=>∃v,e= .returned v∧R v w':=
 ai Tryz.func82 au aa ((R07Zero_eq m fa fb R w).mp h)
def kQ(m:Option Addr)(R:ax)(w:World):Prop:=
 av m fun p4=>
 ∃x6:Int,w.cell? (p4.add 1)=some (.int .i64 x6)∧
 R (.int .i64 x6) w
def rR:Ann:= .leaf
theorem R07Secure_eq(m:Option Addr)(R:ax)(w:World):kQ m R w=vcF prog aE [] Tryz.f81 rR [(.pointer m)] R none w:=by kernel_rfl
theorem my(m:Option Addr) {R:ax} {w:World}(h:kQ m R w):Calls prog 81 #[(.pointer m)] w fun e w'=>∃v,e= .returned v∧R v w':=
 ai Tryz.func81 au aa ((R07Secure_eq m R w).mp h)
def mh(m:Option Addr)(fa:Bool)(fb:Int)(off:Int)(v:Int)(R:ax)(w:World):Prop:=
 ∀(gv:Nat)(wv:World),gv=w.heap.size→wv=w.alloc (.cells #[(.bool fa),(.int .i64 fb)] 100)→
 ∃LG:Bool,∃MH:Int,(wv.cell? ((Addr.mk gv 0 none).add 0)=some (.bool LG)∧wv.cell? ((Addr.mk gv 0 none).add 1)=some (.int .i64 MH))∧
 Calls prog 99 #[(.pointer m),(.agg #[(.bool LG),(.int .i64 MH)])] wv fun e Hb=>
 ∃HU:Int,e= .returned (.int .i64 HU)∧
 split (decide ((HU:Int)<0)) (
  R (.int .i64 5) Hb) (
  ∃J:Bool→World→Prop,(
   split (decide ((off:Int)<0)) (
    J true Hb) (
    J (decide ((off:Int)≥1024)) Hb))∧∀(Hn:Nat→Value)(KC:Bool),∀He,J KC He→
  split KC (
   R (.int .i64 70) He) (
   av m fun Qt=>
   ∃Ln:Int,He.cell? (Qt.add 2)=some (.int .i64 Ln)∧
   av m fun p26=>
   aD He (p26.add 2) [(.int .i64 (i64.wrap (Ln+1)))] fun Hf=>
   av m fun MJ=>
   ∃PD:Option Addr,∃PC:Nat,∃Sa:Nat,Hf.cell? (MJ.add 0)=some (.slice PD PC Sa)∧
   (0≤(HU:Int)∧(HU:Int)<((PC:Nat):Int))∧
   av PD fun Sq=>
   ∃Mw:Option Addr,∃Lj:Nat,∃Mv:Nat,Hf.cell? (Sq.add (Int.toNat HU*1))=some (.slice Mw Lj Mv)∧
   split ((((Lj:Nat):Int):Int)==0) (
    ∃b:Nat→Nat→Prop,
    av m fun p38=>
    b 3 ((p38.add 0).block)∧
    ∃O5:Option Addr,∃O4:Nat,∃R1:Nat,Hf.drew.cell? (p38.add 0)=some (.slice O5 O4 R1)∧
    ∃OU:Option Addr,∃OS:Nat,∃OT:Nat,∃Hl,(Instr.makeSlice 31 (.int .i64 1024) (.int .i64 1024):Sem Value).run prog Hf.drew= .ok (.slice OU OS OT) Hl∧
    Kept (fm b [0,1,2,3,4]) Hf.drew Hl∧∃b1:Nat→Nat→Prop,(∀i k,b i k→b1 i k)∧
    (0≤(HU:Int)∧(HU:Int)<((O4:Nat):Int))∧
    av O5 fun p43=>
    aD Hl (p43.add (Int.toNat HU*1)) [(.slice OU OS OT)] fun HG=>
    ∃b2:Nat→Nat→Prop,(∀i k,b1 i k→b2 i k)∧
    av m fun Qs=>
    ∃Li:Option Addr,∃Lh:Nat,∃NC:Nat,HG.cell? (Qs.add 0)=some (.slice Li Lh NC)∧
    (0≤(HU:Int)∧(HU:Int)<((Lh:Nat):Int))∧
    av Li fun Qr=>
    ∃IQ:Option Addr,∃Ie:Nat,∃Jt:Nat,HG.cell? (Qr.add (Int.toNat HU*1))=some (.slice IQ Ie Jt)∧
    (0≤(off:Int)∧(off:Int)<((Ie:Nat):Int))∧
    av IQ fun Qq=>
    aD HG (Qq.add (Int.toNat off*1)) [(.int .u32 v)] fun ID=>
    R (.int .i64 0) ID) (
    av m fun Qs=>
    ∃Li:Option Addr,∃Lh:Nat,∃NC:Nat,Hf.cell? (Qs.add 0)=some (.slice Li Lh NC)∧
    (0≤(HU:Int)∧(HU:Int)<((Lh:Nat):Int))∧
    av Li fun Qr=>
    ∃IQ:Option Addr,∃Ie:Nat,∃Jt:Nat,Hf.cell? (Qr.add (Int.toNat HU*1))=some (.slice IQ Ie Jt)∧
    (0≤(off:Int)∧(off:Int)<((Ie:Nat):Int))∧
    av IQ fun Qq=>
    aD Hf (Qq.add (Int.toNat off*1)) [(.int .u32 v)] fun Hl=>
    R (.int .i64 0) Hl)))
def uG:Ann:=(.node none .leaf (.node none .leaf (.node none .leaf (.node none (.node none (.node (some ⟨[(20,.one (.bool))],[15,16,17,18,19,20]⟩) .leaf .leaf) .leaf) .leaf))))
theorem R07Write_eq(m:Option Addr)(fa:Bool)(fb:Int)(off:Int)(v:Int)(R:ax)(w:World):mh m fa fb off v R w=vcF prog aE [] Tryz.f55 uG [(.pointer m),(.agg #[(.bool fa),(.int .i64 fb)]),(.int .i64 off),(.int .u32 v)] R none w:=by kernel_rfl
theorem oE(m:Option Addr)(fa:Bool)(fb:Int)(off:Int)(v:Int) {R:ax} {w:World}(h:mh m fa fb off v R w):Calls prog 55 #[(.pointer m),(.agg #[(.bool fa),(.int .i64 fb)]),(.int .i64 off),(.int .u32 v)] w fun e w'=>∃v,e= .returned v∧R v w':=
 ai Tryz.func55 au aa ((R07Write_eq m fa fb off v R w).mp h)
end
end Go.Proofs.YtfmcaoaaiganbaaGreatDoor
namespace Go.Proofs.YtfmcaoaaiganbaaGreatDoor
open Go.Proofs.Tryz (prog)
open Go Go.RowKit V
open Go.IntKind (i64 u32 u64)
section
namespace Mem
def idx(m:Mem)(s:Bool)(p:Nat):Nat:=match s with
 | true=>p
 | false=>m.S+p
def word(m:Mem)(i o:Nat):Int:=if i<m.S then m.pg true i o else m.pg false (i - m.S) o
def place(m:Mem)(s:Bool)(p:Int):Int:=if m.has s p then(m.idx s p.toNat:Int)else -1
theorem xF(m:Mem)(p:Nat):m.idx false p=m.S+p:=rfl
theorem xE(m:Mem)(p:Nat):m.idx true p=p:=rfl
theorem Gs(m:Mem):m.cnt false=m.I:=rfl
theorem Ev(m:Mem):m.cnt true=m.S:=rfl
theorem qH(m:Mem) {i:Nat}(h:i<m.S)(o:Nat):m.word i o=m.pg true i o:=if_pos h
theorem qI(m:Mem) {i:Nat}(h:¬i<m.S)(o:Nat):m.word i o=m.pg false (i - m.S) o:=if_neg h
theorem so(m:Mem) {s:Bool} {p:Nat}(hp:p<m.cnt s)(o:Nat):m.word (m.idx s p) o=m.pg s p o:=by
 cases s
 ·rw [xF,qI m (by omega),show m.S+p - m.S=p by omega]
 ·rw [xE,qH m hp]
theorem vK(m:Mem) {s:Bool} {p:Nat}(hp:p<m.cnt s):m.idx s p<m.S+m.I:=by
 cases s
 ·rw [Gs]at hp;rw [xF];omega
 ·rw [Ev]at hp;rw [xE];omega
theorem jb(m:Mem) {s:Bool} {p:Nat}(hp:p<m.cnt s)(f:Nat→Int) {i:Nat}(o:Nat):(m.fill s p f).word i o=if i=m.idx s p then f o else m.word i o:=by
 by_cases h:i<m.S
 ·rw [qH _ (show i<(m.fill s p f).S from h),qH m h]
  cases s
  ·rw [xF,if_neg (by omega)];simp [fill]
  ·rw [xE];simp [fill]
 ·rw [qI _ (show ¬i<(m.fill s p f).S from h),qI m h]
  show(m.fill s p f).pg false (i - m.S) o=_
  cases s
  ·rw [xF]
   by_cases h2:i=m.S+p
   ·rw [if_pos h2];simp [fill,h2]
   ·rw [if_neg h2];simp only [fill];rw [if_neg (by rintro⟨_,h3⟩;omega)]
  ·rw [xE,if_neg (by rw [Ev]at hp;omega)];simp [fill]
end Mem
structure dL where
 g:Nat
 a:Nat
 c:Nat
 n:Nat
 pg:Nat→Option (Nat×Nat)
def Db:Option (Nat×Nat)→Value
 | none=>.slice none 0 0
 | some (b,c)=>.slice (some (Addr.mk b 0 none)) 1024 c
def dL.X(L:dL):Nat→Prop:=fun k=>k=L.g∨k=L.a∨∃i c,i<L.n∧L.pg i=some (k,c)
def PgB(w:World)(b:Nat)(f:Nat→Int):Prop:=∃T cs,Blk w b cs T∧1024≤cs.size∧∀o,o<1024→cs[o]? =some (.int .u32 (f o))
structure bF(w:World)(g:Nat)(L:dL)(m:Mem):Prop where
 gq:L.g=g
 n:L.n=m.S+m.I
 hd:∃T:TypeId×Int,Blk w L.g #[.slice (some (Addr.mk L.a 0 none)) L.n L.c,.int .i64 m.S,.int .i64 T.2] T.1
 row:∃T cs,Blk w L.a cs T∧L.n≤cs.size∧∀i,i<L.n→cs[i]? =some (Db (L.pg i))
 nil:∀i,i<L.n→L.pg i=none→∀o,m.word i o=0
 pgs:∀i b c,i<L.n→L.pg i=some (b,c)→PgB w b (m.word i)
 inj:∀i j b c c',i<L.n→j<L.n→L.pg i=some (b,c)→L.pg j=some (b,c')→i=j
 dis:L.a≠L.g∧∀i b c,i<L.n→L.pg i=some (b,c)→b≠L.g∧b≠L.a
 u32:∀s i o,0≤m.pg s i o∧m.pg s i o<4294967296
 most:m.S≤64∧m.I≤64
section
variable {w w' w2:World} {g:Nat} {L:dL} {m:Mem} {Y:Nat→Prop}
theorem PgB.lt {b:Nat} {f:Nat→Int}(h:PgB w b f):b<w.heap.size:=by obtain⟨T,cs,hb,_⟩:=h;exact hb.lt
theorem PgB.ch {b:Nat} {f:Nat→Int}(h:PgB w b f)(hk:Ch Y w w')(hb:¬Y b):PgB w' b f:=by obtain⟨T,cs,hc,h2⟩:=h;exact⟨T,cs,hk.blk hc hb,h2⟩
theorem bF.lt(h:bF w g L m):∀k,L.X k→k<w.heap.size:=by
 rintro k (rfl | rfl | ⟨i,c,hi,hp⟩)
 ·obtain⟨T,hd⟩:=h.hd;exact hd.lt
 ·obtain⟨T,cs,hr,_⟩:=h.row;exact hr.lt
 ·exact(h.pgs i k c hi hp).lt
theorem bF.ch(h:bF w g L m)(hk:Ch Y w w')(hb:∀k,L.X k→¬Y k):bF w' g L m:=by
 refine⟨h.gq,h.n,?_,?_,h.nil,fun i b c hi hp=>(h.pgs i b c hi hp).ch hk (hb _ (.inr (.inr ⟨i,c,hi,hp⟩))),h.inj,h.dis,h.u32,h.most⟩
 ·obtain⟨T,hd⟩:=h.hd;exact⟨T,hk.blk hd (hb _ (.inl rfl))⟩
 ·obtain⟨T,cs,hr,h2⟩:=h.row;exact⟨T,cs,hk.blk hr (hb _ (.inr (.inl rfl))),h2⟩
theorem bF.pu(h:bF w g L m)(hk:Pu w w'):bF w' g L m:=h.ch hk (by simp)
theorem bF.tick(h:bF w g L m) {x:Int} {T:TypeId}(hs:bb w L.g #[.slice (some (Addr.mk L.a 0 none)) L.n L.c,.int .i64 m.S,.int .i64 x] T w2):bF w2 g L m:=by
 refine⟨h.gq,h.n,⟨(T,x),hs.blk⟩,?_,h.nil,fun i b c hi hp=>(h.pgs i b c hi hp).ch hs.ch (h.dis.2 i b c hi hp).1,h.inj,h.dis,h.u32,h.most⟩
 obtain⟨T',cs,hr,h2⟩:=h.row
 exact⟨T',cs,hs.old hr h.dis.1,h2⟩
def dL.put(L:dL)(i:Nat)(v:Option (Nat×Nat)):dL:= {L with pg:=fun j=>if j=i then v else L.pg j}
theorem dL.Ez {L:dL} {i:Nat} {v:Option (Nat×Nat)} {k:Nat}(h:(L.put i v).X k):L.X k∨∃c,v=some (k,c):=by
 rcases h with h | h | ⟨j,c,hj,hp⟩
 ·exact .inl (.inl h)
 ·exact .inl (.inr (.inl h))
 ·simp only [dL.put]at hp
  split at hp
  ·exact .inr ⟨c,hp⟩
  ·exact .inl (.inr (.inr ⟨j,c,hj,hp⟩))
theorem bF.lay(h:bF w g L m) {s:Bool} {p:Nat}(hp:p<m.cnt s) {v:Option (Nat×Nat)} {f:Nat→Int}(hf:∀o,0≤f o∧f o<4294967296)
 (hv:v=none→∀o,f o=0)(hb:∀b c,v=some (b,c)→PgB w b f∧¬L.X b) {cs:Array Value} {T:TypeId}(hr:Blk w L.a cs T)(hs:bb w L.a (setAt cs (m.idx s p) [Db v]) T w2):
 bF w2 g (L.put (m.idx s p) v) (m.fill s p f):=by
 have hi:=m.vK hp
 obtain⟨T',cs',Hk,Hv,h2⟩:=h.row
 obtain⟨rfl,rfl⟩:=hr.inj Hk
 have hn:=h.n
 refine⟨h.gq,h.n,?_,⟨T,_,hs.blk,by rw [dt];exact Hv,fun i HX=>?_⟩,fun i HX hq o=>?_,fun i b c HX hq=>?_,fun i j b c c' HX MU h3 h4=>?_,⟨h.dis.1,fun i b c HX hq=>?_⟩,fun s' i o=>?_,h.most⟩
 ·obtain⟨T'',hd⟩:=h.hd;exact⟨T'',hs.old hd h.dis.1.symm⟩
 ·rw [cN _ _ _ _ (by simp;omega)]
  simp only [dL.put,List.length_cons,List.length_nil]
  by_cases e:i=m.idx s p
  ·subst e;simp
  ·rw [if_neg (by omega),if_neg e];exact h2 i HX
 ·rw [m.jb hp]
  simp only [dL.put]at hq
  split at hq
  ·rename_i e;rw [if_pos e];exact hv hq o
  ·rename_i e;rw [if_neg e];exact h.nil i HX hq o
 ·have e0:(m.fill s p f).word i=if i=m.idx s p then f else m.word i:=by
   funext o;rw [m.jb hp];split<;>rfl
  rw [e0]
  simp only [dL.put]at hq
  split at hq
  ·rename_i e;rw [if_pos e];exact(hb b c hq).1.ch hs.ch fun e2=>(hb b c hq).2 (.inr (.inl e2))
  ·rename_i e;rw [if_neg e];exact(h.pgs i b c HX hq).ch hs.ch (h.dis.2 i b c HX hq).2
 ·simp only [dL.put]at h3 h4
  split at h3<;>split at h4
  ·omega
  ·exact absurd (.inr (.inr ⟨j,c',MU,h4⟩)) (hb b c h3).2
  ·exact absurd (.inr (.inr ⟨i,c,HX,h3⟩)) (hb b c' h4).2
  ·exact h.inj i j b c c' HX MU h3 h4
 ·simp only [dL.put]at hq
  split at hq
  ·have:=(hb b c hq).2
   exact⟨fun e=>this (.inl e),fun e=>this (.inr (.inl e))⟩
  ·exact h.dis.2 i b c HX hq
 ·simp only [Mem.fill]
  split
  ·exact hf o
  ·exact h.u32 s' i o
theorem bF.GS(h:bF w g L m) {s:Bool} {p:Nat}(hp:p<m.cnt s) {b c:Nat}(hb:L.pg (m.idx s p)=some (b,c)) {f:Nat→Int}(hf:∀o,0≤f o∧f o<4294967296) {cs:Array Value} {T:TypeId}(Hv:1024≤cs.size)(hc:∀o,o<1024→cs[o]? =some (.int .u32 (f o)))
 (hs:bb w b cs T w2):bF w2 g L (m.fill s p f):=by
 have hi:=m.vK hp
 have hn:=h.n
 have hd':=h.dis.2 _ b c (by omega) hb
 refine⟨h.gq,h.n,?_,?_,fun i HX hq o=>?_,fun i b' c' HX hq=>?_,h.inj,h.dis,fun s' i o=>?_,h.most⟩
 ·obtain⟨T'',hd⟩:=h.hd;exact⟨T'',hs.old hd hd'.1.symm⟩
 ·obtain⟨T',cs',hr,h2⟩:=h.row;exact⟨T',cs',hs.old hr hd'.2.symm,h2⟩
 ·rw [m.jb hp]
  by_cases e:i=m.idx s p
  ·subst e;rw [hb]at hq;cases hq
  ·rw [if_neg e];exact h.nil i HX hq o
 ·have e0:(m.fill s p f).word i=if i=m.idx s p then f else m.word i:=by
   funext o;rw [m.jb hp];split<;>rfl
  rw [e0]
  by_cases e:i=m.idx s p
  ·subst e
   rw [hb]at hq
   injection hq with hq
   injection hq with RG KJ
   subst RG
   rw [if_pos rfl];exact⟨T,cs,hs.blk,Hv,hc⟩
  ·rw [if_neg e]
   exact(h.pgs i b' c' HX hq).ch hs.ch fun e2=>e (h.inj i _ b' c' c HX (by omega) hq (e2▸hb))
 ·simp only [Mem.fill]
  split
  ·exact hf o
  ·exact h.u32 s' i o
end
end
section
set_option maxRecDepth 10000
set_option maxHeartbeats 1000000
theorem yy {g:Nat} {L:dL} {m:Mem} {w:World}(h:bF w g L m):
 Calls prog 81 #[(.pointer (some (Addr.mk g 0 none)))] w fun e w'=>∃v,e= .returned v∧v= .int .i64 m.S∧w'=w:=by
 refine my (some (Addr.mk g 0 none)) ?_
 obtain⟨_,dhd_h⟩:=(by have h9:=h.hd;rwa [h.gq]at h9:∃T:TypeId×Int,Blk _ _ #[_,_,.int .i64 T.2] T.1)
 refine ao _ rfl ⟨_,dhd_h.at rfl,?_⟩
 exact⟨rfl,rfl⟩
theorem sH {g:Nat} {L:dL} {m:Mem} {w:World}(h:bF w g L m)(fa:Bool)(fb:Int):
 Calls prog 99 #[(.pointer (some (Addr.mk g 0 none))),(.agg #[(.bool fa),(.int .i64 fb)])] w fun e w'=>∃v,e= .returned v∧v= .int .i64 (m.place fa fb)∧Pu w w':=by
 refine oF (some (Addr.mk g 0 none)) _ _ ?_
 have h1:=h.n
 have h2:=h.most
 have hp:=Ch.refl (fun _=>False) w
 have Ix:=h.lt
 refine mkd fun gv wv Hg=>?_
 have Ha:=Hg.blk
 refine⟨_,Ha.at rfl,?_⟩
 refine aA (fun c1=>?_) (fun c1=>?_)
 ·have hp:=Ch.made hp Hg
  exact⟨congrArg (Value.int .i64) (by unfold Mem.place Mem.has Mem.cnt Mem.idx;cases fa<;>simp_all [IntKind.wrap_i64]<;>omega),hp⟩
 ·refine⟨_,Ha.at rfl,?_⟩
  refine ae (fun c2=>?_) (fun c2=>?_)
  ·have Ha:=Blk.drew Ha
   have h:=(h.pu Hg.pu).pu (Pu.dh _)
   obtain⟨_,dhd_h⟩:=(by have h9:=h.hd;rwa [h.gq]at h9:∃T:TypeId×Int,Blk _ _ #[_,_,.int .i64 T.2] T.1)
   refine⟨_,Ha.at rfl,ao _ rfl ⟨_,dhd_h.at rfl,?_⟩⟩
   refine aA (fun c3=>?_) (fun c3=>?_)
   ·refine⟨_,Ha.at rfl,?_⟩
    have hp:=Ch.drew (Ch.made hp Hg)
    exact⟨congrArg (Value.int .i64) (by unfold Mem.place Mem.has Mem.cnt Mem.idx;cases fa<;>simp_all [IntKind.wrap_i64]<;>omega),hp⟩
   ·have hp:=Ch.drew (Ch.made hp Hg)
    exact⟨congrArg (Value.int .i64) (by unfold Mem.place Mem.has Mem.cnt Mem.idx;cases fa<;>simp_all [IntKind.wrap_i64]<;>omega),hp⟩
  ·have Ha:=Blk.drew Ha
   have h:=(h.pu Hg.pu).pu (Pu.dh _)
   obtain⟨_,dhd_h⟩:=(by have h9:=h.hd;rwa [h.gq]at h9:∃T:TypeId×Int,Blk _ _ #[_,_,.int .i64 T.2] T.1)
   refine⟨_,Ha.at rfl,ao _ rfl ⟨_,_,_,dhd_h.at rfl,ao _ rfl ⟨_,dhd_h.at rfl,?_⟩⟩⟩
   refine aA (fun c4=>?_) (fun c4=>?_)
   ·refine ao _ rfl ?_
    have dhd_h:=Blk.drew dhd_h
    have Ha:=Blk.drew Ha
    refine⟨_,dhd_h.at rfl,⟨_,Ha.at rfl,?_⟩⟩
    have hp:=Ch.drew (Ch.drew (Ch.made hp Hg))
    exact⟨congrArg (Value.int .i64) (by unfold Mem.place Mem.has Mem.cnt Mem.idx;cases fa<;>simp_all [IntKind.wrap_i64]<;>omega),hp⟩
   ·have hp:=Ch.drew (Ch.made hp Hg)
    exact⟨congrArg (Value.int .i64) (by unfold Mem.place Mem.has Mem.cnt Mem.idx;cases fa<;>simp_all [IntKind.wrap_i64]<;>omega),hp⟩
end
section
section
variable {w:World} {g:Nat} {L:dL} {m:Mem}
theorem pR {s:Bool} {p:Int}:(m.place s p<0)↔m.has s p=false:=by
 unfold Mem.place
 cases h:m.has s p
 ·simp
 ·simp
theorem pQ {s:Bool} {p:Int}(h:m.has s p=true):m.place s p=(m.idx s p.toNat:Int):=by unfold Mem.place;rw [if_pos h]
theorem bF.slot(h:bF w g L m) {s:Bool} {p:Nat}(hp:p<m.cnt s):∃T cs,Blk w L.a cs T∧L.n≤cs.size∧m.idx s p<L.n∧cs[m.idx s p]? =some (Db (L.pg (m.idx s p))):=by
 obtain⟨T,cs,hr,Hv,h2⟩:=h.row
 have hi:=m.vK hp
 have hn:=h.n
 exact⟨T,cs,hr,Hv,by omega,h2 _ (by omega)⟩
def pn(L L1:dL)(w:World):Prop:=∀k,L1.X k→L.X k∨w.heap.size≤k
theorem pn.refl(L:dL)(w:World):pn L L w:=fun _ h=>.inl h
theorem Da(h:bF w g L m)(s:Bool)(p:Int):
 Calls prog 82 #[ptr g,fr s p] w fun e w'=>∃u,e= .returned u∧∃L1,u= .int .i64 (m.eM s p)∧bF w' g L1 (m.zero s p)∧pn L L1 w∧Ch L.X w w':=by
 refine o7 _ s p ?_
 refine mkd fun g1 w1 m1=>?_
 refine⟨_,_,⟨m1.blk.at rfl,m1.blk.at rfl⟩,(sH (h.pu m1.pu) s p).mono ?_⟩
 rintro e w2 ⟨_,rfl,rfl,q2⟩
 have p2:Ch L.X w w2:=((Ch.refl L.X w).made m1).pu q2
 have h2:=(h.pu m1.pu).pu q2
 have hg:=h2.gq
 subst hg
 refine⟨_,rfl,?_⟩
 cases hh:m.has s p with
 | false=>
  refine ae (fun _=>⟨L,by simp [Mem.eM,hh],by simpa [Mem.zero,hh]using h2,pn.refl _ _,p2⟩) (fun hb=>by simp [pR,hh]at hb)
 | true=>
  have hn:=Mem.cr hh
  have hpl:=pQ hh
  have ei:(m.place s p).toNat=m.idx s p.toNat:=by omega
  refine ae (fun hb=>?_) (fun _=>?_)
  ·have:m.place s p<0:=by simpa using hb
   omega
  obtain⟨T,hd⟩:=h2.hd
  refine ao _ rfl ⟨_,hd.at rfl,ao _ rfl (bY hd (by simp) fun w3 s3=>?_)⟩
  have h3:bF w3 L.g L (m.tick 1024):=h2.tick s3
  obtain⟨T',hd'⟩:=h3.hd
  obtain⟨T2,cs,hr,Hv,hi,hc⟩:=h3.slot (s:=s) (p:=p.toNat) (by simpa using hn)
  have HX:m.idx s p.toNat<L.n:=hi
  refine ao _ rfl ⟨_,_,_,hd'.at rfl,by omega,ao _ rfl ?_⟩
  rw [Nat.mul_one,ei]
  refine bY hr (by simp;omega) fun w4 s4=>?_
  have h4:=h3.lay (s:=s) (p:=p.toNat) (v:=none) (f:=fun _=>0) (by simpa using hn) (fun _=>by omega) (fun _ _=>rfl) (fun b c e=>by cases e) hr s4
  refine⟨L.put (m.idx s p.toNat) none,by simp [Mem.eM,hh],?_,fun k hk=>.inl ((dL.Ez (v:=none) hk).elim id fun⟨c,h⟩=>by cases h),(p2.stored s3 (.inl (.inl rfl))).stored s4 (.inl (.inr (.inl rfl)))⟩
  simp only [Mem.zero,hh,if_true]
  exact h4
theorem C1:S1 prog 25 31 (.slice none 0 0) 24:=S1.of (by kernel_rfl) (by kernel_rfl) rfl
theorem Ay(h:bF w g L m)(s:Bool)(p o v:Int)(hv:0≤v∧v<4294967296):
 Calls prog 55 #[ptr g,fr s p,.int .i64 o,.int .u32 v] w fun e w'=>∃u,e= .returned u∧∃L1,u= .int .i64 (m.err s p o)∧bF w' g L1 (m.write s p o v)∧pn L L1 w∧Ch L.X w w':=by
 refine oE _ s p o v ?_
 refine mkd fun g1 w1 m1=>?_
 refine⟨_,_,⟨m1.blk.at rfl,m1.blk.at rfl⟩,(sH (h.pu m1.pu) s p).mono ?_⟩
 rintro e w2 ⟨_,rfl,rfl,q2⟩
 have p2:Ch L.X w w2:=((Ch.refl L.X w).made m1).pu q2
 have h2:=(h.pu m1.pu).pu q2
 have hg:=h2.gq
 subst hg
 refine⟨_,rfl,?_⟩
 cases hh:m.has s p with
 | false=>
  refine ae (fun _=>⟨L,by simp [Mem.err,hh],by simpa [Mem.write,hh]using h2,pn.refl _ _,p2⟩) (fun hb=>by simp [pR,hh]at hb)
 | true=>
  have hn:=Mem.cr hh
  have hpl:=pQ hh
  have ei:(m.place s p).toNat=m.idx s p.toNat:=by omega
  refine ae (fun hb=>?_) (fun _=>?_)
  ·have:m.place s p<0:=by simpa using hb
   omega
  refine⟨fun b w'=>w2=w'∧b= !(Mem.bS o),ae (fun hb=>⟨rfl,?_⟩) (fun hb=>⟨rfl,?_⟩),?_⟩
  ·simp at hb;simp [Mem.bS];omega
  ·simp at hb;simp only [Mem.bS,ge_iff_le];rw [Bool.eq_iff_iff];simp;omega
  rintro _ x _ ⟨rfl,rfl⟩
  refine br (fun ho=>?_) (fun ho=>?_)
  ·exact⟨L,by simp [Mem.err,hh,ho],by simpa [Mem.write,hh,ho]using h2,pn.refl _ _,p2⟩
  have KK:=Mem.dR ho
  obtain⟨T,hd⟩:=h2.hd
  refine ao _ rfl ⟨_,hd.at rfl,ao _ rfl (bY hd (by simp) fun w3 s3=>?_)⟩
  have h3:=h2.tick s3
  have p3:Ch L.X w w3:=p2.stored s3 (.inl (.inl rfl))
  have NW:p.toNat<(m.tick 1).cnt s:=by simpa using hn
  have Lc:bF w3 L.g L (m.tick 1):=h3
  obtain⟨T',hd'⟩:=Lc.hd
  obtain⟨T2,cs,hr,Hv,hi,hc⟩:=Lc.slot NW
  have ei':(m.place s p).toNat=(m.tick 1).idx s p.toNat:=ei
  have hpl':m.place s p=((m.tick 1).idx s p.toNat:Int):=hpl
  refine ao _ rfl ⟨_,_,_,hd'.at rfl,by omega,ao _ rfl ?_⟩
  have fin:∀(L1:dL)(w5:World)(b c:Nat),bF w5 L.g L1 (m.tick 1)→pn L L1 w→Ch L.X w w5→L1.pg ((m.tick 1).idx s p.toNat)=some (b,c)→
   av (some (Addr.mk L.g 0 none)) fun Qs=>
   ∃(A:Option Addr)(N C:Nat),w5.cell? (Qs.add 0)=some (.slice A N C)∧
   (0≤(m.place s p:Int)∧(m.place s p:Int)<((N:Nat):Int))∧
   av A fun Qr=>
   ∃(A2:Option Addr)(N2 C2:Nat),w5.cell? (Qr.add (Int.toNat (m.place s p)*1))=some (.slice A2 N2 C2)∧
   (0≤(o:Int)∧(o:Int)<((N2:Nat):Int))∧
   av A2 fun Qq=>
   aD w5 (Qq.add (Int.toNat o*1)) [(.int .u32 v)] fun ID=>
   ∃L1,Value.int .i64 0= .int .i64 (m.err s p o)∧bF ID L.g L1 (m.write s p o v)∧pn L L1 w∧Ch L.X w ID:=by
   intro L1 w5 b c h5 hgr RR LY
   obtain⟨T5,hd5⟩:=h5.hd
   have hg5:=h5.gq
   obtain⟨T6,cs6,hr6,hsz6,hi6,hc6⟩:=h5.slot NW
   rw [LY]at hc6
   obtain⟨T7,cs7,hb7,Sy,hw7⟩:=h5.pgs _ b c hi6 LY
   rw [hg5]at hd5
   refine ao _ rfl ⟨_,_,_,hd5.at rfl,by omega,ao _ rfl ⟨some (Addr.mk b 0 none),1024,c,by rw [Nat.mul_one,ei'];exact hr6.at hc6,by omega,ao _ rfl ?_⟩⟩
   rw [Nat.mul_one]
   refine bY hb7 (by simp;omega) fun w6 s6=>?_
   have hX:L1.X b:= .inr (.inr ⟨_,c,hi6,LY⟩)
   refine⟨L1,by simp [Mem.err,hh,ho],?_,hgr,RR.stored s6 (hgr b hX)⟩
   have:=h5.GS (s:=s) (p:=p.toNat) (f:=fun o'=>if o'=o.toNat then v else m.pg s p.toNat o') NW LY (fun o'=>by split;exact hv;exact h.u32 _ _ _) (cs:=setAt cs7 o.toNat [.int .u32 v]) (by rw [dt];exact Sy) (fun o' QL=>?_) s6
   ·simp only [Mem.write,hh,ho,Bool.and_self,if_true];exact this
   ·rw [cN _ _ _ _ (by simp;omega)]
    simp only [List.length_cons,List.length_nil]
    by_cases e:o'=o.toNat
    ·rw [if_pos (by omega),if_pos e];simp [e]
    ·rw [if_neg (by omega),if_neg e,hw7 o' QL,Mem.so _ NW];rfl
  cases KI:L.pg ((m.tick 1).idx s p.toNat)with
  | some bc=>
   obtain⟨b,c⟩:=bc
   rw [KI]at hc
   refine⟨some (Addr.mk b 0 none),1024,c,by rw [Nat.mul_one,ei'];exact hr.at hc,ae (fun hb=>by simp at hb) (fun _=>?_)⟩
   exact fin L w3 b c Lc (pn.refl _ _) p3 KI
  | none=>
   rw [KI]at hc
   refine⟨none,0,0,by rw [Nat.mul_one,ei'];exact hr.at hc,ae (fun _=>?_) (fun hb=>by simp at hb)⟩
   have hLX:∀k,L.X k→k<w3.heap.size:=Lc.lt
   refine⟨fun _ k=>k=L.g,ao _ rfl ⟨block_add _ _,_,_,_,hd'.drew.at rfl,?_⟩⟩
   refine rf (P:=prog) wY (by omega) (by omega) (by omega) fun b w4 m4=>?_
   have p4:Ch L.X w w4:=p3.drew.made m4
   have h4:=(Lc.pu (Pu.dh w3)).pu m4.pu
   refine⟨m4.kept.mono fun k hk=>(show k=L.g by simpa [fm]using hk)▸hLX _ (.inl rfl),fun _ k=>k=L.g,fun _ _ h=>h,by omega,ao _ rfl ?_⟩
   obtain⟨T8,cs8,hr8,hsz8,hi8,hc8⟩:=h4.slot NW
   refine bY hr8 (by simp;omega) fun w5 s5=>?_
   rw [Nat.mul_one,ei']at s5
   have hbn:¬L.X b:=fun hx=>by have:=hLX b hx;have h9:=m4.num;have h10:w3.drew.heap.size=w3.heap.size:=rfl;omega
   have h5:=h4.lay (s:=s) (p:=p.toNat) (v:=some (b,1024)) (f:=(m.tick 1).pg s p.toNat) NW (fun o=>h4.u32 _ _ _) (fun e=>by cases e)
    (fun b' c' e=>by
     injection e with e;injection e with e1 e2;subst e1
     refine⟨⟨_,_,m4.blk,by rw [Array.size_replicate];omega,fun o' QL=>?_⟩,hbn⟩
     have:=h4.nil _ hi8 KI o'
     rw [Mem.so _ NW]at this
     rw [this,Array.getElem?_replicate,if_pos (by omega)]) hr8 s5
   have Q8:(m.tick 1).fill s p.toNat ((m.tick 1).pg s p.toNat)=m.tick 1:=by
    simp only [Mem.fill,Mem.tick];congr 1;funext s' p' o';split
    ·rename_i e;rw [e.1,e.2]
    ·rfl
   rw [Q8]at h5
   refine⟨fun _ k=>k=L.g,fun _ _ h=>h,?_⟩
   refine fin _ w5 b 1024 h5 (fun k hk=>?_) (p4.stored s5 (.inl (.inr (.inl rfl)))) (by simp [dL.put])
   rcases dL.Ez hk with h6 | ⟨c6,h6⟩
   ·exact .inl h6
   ·injection h6 with h6;injection h6 with h6 _;subst h6
    right
    have:=m4.num;have h9:=p3.size;rw [this];exact h9
theorem EZ(s i:Int)(hs:1≤s∧s≤64)(hi:1≤i∧i≤64):
 Calls prog 38 #[.int .i64 s,.int .i64 i] w fun e w'=>∃v,e= .returned v∧∃g L,v= .tuple #[ptr g,.int .i64 0]∧bF w' g L (Mem.fresh s.toNat i.toNat)∧(∀k,L.X k→w.heap.size≤k)∧Pu w w':=by
 refine rS s i ?_
 refine⟨fun b w'=>w=w'∧b=false,?_,?_⟩
 ·refine ae (fun hb=>by simp at hb;omega) (fun _=>ae (fun hb=>by simp at hb;omega) (fun _=>ae (fun hb=>by simp at hb;omega) (fun _=>⟨rfl,by simp;omega⟩)))
 rintro _ x _ ⟨rfl,rfl⟩
 refine gR ?_
 obtain⟨S,rfl⟩:=Int.eq_ofNat_of_zero_le (show 0≤s by omega)
 obtain⟨I,rfl⟩:=Int.eq_ofNat_of_zero_le (show 0≤i by omega)
 refine mkd fun gv w1 m1=>?_
 rintro _ rfl
 have hsn:SN prog 25 31 (.slice none 0 0) 1 24:=C1.sn
 refine⟨fun k x W=>∃(j:Nat)(A:Option Addr)(c:Nat),k=S+I - j∧x=(j:Int)∧j≤S+I∧de W (fun k=>w.heap.size≤k∧k≠gv) 31 1 A j c (List.replicate j (.slice none 0 0))∧(∃T,Blk W gv #[.slice A j c,.int .i64 S,.int .i64 0] T)∧Pu w W,
  ⟨_,0,none,0,rfl,rfl,by omega,de.nil,⟨_,m1.blk⟩,m1.pu⟩,?_⟩
 rintro _ _ _ w2 ⟨j,A,c,rfl,rfl,hj,ho,⟨T,hb⟩,hp⟩
 rw [ah (x:=(S:Int)+(I:Int)) (by omega)]
 refine aA (fun c1=>?_) (fun c1=>?_)
 ·refine⟨_,_,_,hb.at rfl,?_⟩
  refine mkd fun g3 w3 m3=>?_
  have hgv:gv<w2.heap.size:=hb.lt
  refine vT hsn (ho.pu m3.pu) (news:= [.slice none 0 0]) (m:=1) rfl (fun q u hu=>by
   match q with
   | 0=>simp at hu;subst hu;exact m3.blk.at rfl
   | q+1=>simp at hu) (by simp [Value.oneCell']) (by omega) (by omega) fun A' c' w4 Oo q4=>?_
  have hlo:=m1.lo (Ch.refl (fun _=>False) w)
  have hp4:Pu w w4:=(hp.made m3).call q4 fun k ⟨b,hA,hk⟩=>.inr (by have:=ho.2 b hA;omega)
  have Tf:Blk w4 gv #[.slice A j c,.int .i64 S,.int .i64 0] T:=q4.blk (m3.old hb) fun⟨b,hA,hk⟩=>(ho.2 b hA).2 hk
  refine bY Tf (by simp) fun w5 s5=>?_
  rintro _ rfl
  have hm3:=m3.num
  refine⟨S+I - (j+1),by omega,j+1,A',c',rfl,by rw [ah (by omega)];omega,by omega,?_,⟨T,s5.blk⟩,hp4.stored s5 (.inr hlo)⟩
  have h6:de w4 (fun k=>w.heap.size≤k∧k≠gv) 31 1 A' (j+1) c' (List.replicate (j+1) (.slice none 0 0)):=by
   rw [List.replicate_succ']
   exact Oo.mono fun k hk=>hk.elim id fun e=>by subst e;have:=hp.size;have:=m3.size;omega
  exact h6.ch s5.ch fun k hk e=>hk.2 e
 ·have:j=S+I:=by omega
  subst this
  obtain⟨g0,cur,hA,hZ,hbk,Hv,ht⟩:=ho.blk (by omega)
  subst hA
  have hg0:g0<w2.heap.size:=hbk.lt
  refine⟨gv,⟨gv,g0,c,S+I,fun _=>none⟩,rfl,⟨rfl,rfl,⟨(T,_),hb⟩,⟨_,cur,hbk,by rw [Nat.mul_one]at Hv;exact Hv,fun q hq=>?_⟩,fun q hq _ o=>(by unfold Mem.word;split<;>rfl),fun q b c hq h=>(by cases h),fun q j b c c' hq hj h=>(by cases h),⟨hZ.2,fun q b c hq h=>(by cases h)⟩,fun _ _ _=>by simp [Mem.fresh],by simp [Mem.fresh];omega⟩,?_,hp⟩
  ·have h7:(cur.toList.take ((S+I)*1))[q]? =some (.slice none 0 0):=by
    have QH:q<S+I:=hq
    rw [ht,List.getElem?_replicate,if_pos QH]
   rw [List.getElem?_take]at h7
   split at h7
   ·simpa [Db]using h7
   ·cases h7
  ·rintro k (rfl | rfl | ⟨q,c',_,hq⟩)
   ·exact m1.lo (Ch.refl (fun _=>False) w)
   ·exact hZ.1
   ·cases hq
end
end
end Go.Proofs.YtfmcaoaaiganbaaGreatDoor
namespace Go.Proofs.YtfmcaoaaiganbaaGreatDoor
open Go.Proofs.Tryz (prog)
open Go Go.RowKit V
open Go.IntKind (i64 u32 u64)
open Enc (enc)
section
instance:Enc Ent:=⟨fun e=>[.int .i64 e.typ,.int .i64 e.owner,.int .i64 e.refs,.int .i64 e.state,.bool e.aM],5,fun _=>rfl,by simp [Value.oneCell'],by omega⟩
structure ow where
 g:Nat
 e:Nat
 c:Nat
 M:dL
def ow.X(L:ow):Nat→Prop:=fun k=>k=L.g∨k=L.e∨L.M.X k
abbrev DB.aj(D:DB):List Ent:=(List.range D.S).map D.ent
structure ig(w:World)(g:Nat)(L:ow)(D:DB):Prop where
 gq:L.g=g
 hd:∃T,Blk w L.g #[.pointer (some (Addr.mk L.M.g 0 none)),.slice (some (Addr.mk L.e 0 none)) D.S L.c,.int .i64 D.aq] T
 es:Own w (fun k=>k=L.e) 157 (some (Addr.mk L.e 0 none)) D.S L.c D.aj
 mem:bF w L.M.g L.M D.mem
 ok:D.Ok
 pos:1≤D.S
 dis:L.e≠L.g∧¬L.M.X L.g∧¬L.M.X L.e
section
variable {w w' w2:World} {g:Nat} {L:ow} {D:DB} {Y:Nat→Prop}
theorem ig.hd'(h:ig w g L D):∃T,Blk w g #[.pointer (some (Addr.mk L.M.g 0 none)),.slice (some (Addr.mk L.e 0 none)) D.S L.c,.int .i64 D.aq] T:=h.gq▸h.hd
theorem ig.lt(h:ig w g L D):∀k,L.X k→k<w.heap.size:=by
 rintro k (rfl | rfl | hk)
 ·obtain⟨T,hd⟩:=h.hd;exact hd.lt
 ·obtain⟨g',hA,hZ,hl⟩:=h.es.lt h.pos
  have:g'=L.e:=hZ
  omega
 ·exact h.mem.lt k hk
theorem ig.ch(h:ig w g L D)(hk:Ch Y w w')(hb:∀k,L.X k→¬Y k):ig w' g L D:=by
 refine⟨h.gq,?_,h.es.ch hk fun k e=>hb k (.inr (.inl e)),h.mem.ch hk fun k hx=>hb k (.inr (.inr hx)),h.ok,h.pos,h.dis⟩
 obtain⟨T,hd⟩:=h.hd;exact⟨T,hk.blk hd (hb _ (.inl rfl))⟩
theorem ig.pu(h:ig w g L D)(hk:Pu w w'):ig w' g L D:=h.ch hk (by simp)
theorem ig.S64(h:ig w g L D):D.S≤64:=h.mem.most.1
theorem ow.inM(L:ow)(k:Nat)(h:L.M.X k):L.X k:= .inr (.inr h)
theorem ig.kh(h:ig w g L D) {m:Mem} {M:dL}(hm:bF w' L.M.g M m)(hc:Ch L.M.X w w')(hg:∀k,M.X k→L.M.X k∨w.heap.size≤k)(hs:m.S=D.mem.S):ig w' g {L with M:=M} (D.aK m)∧(∀k,ow.X {L with M:=M} k→L.X k∨w.heap.size≤k):=by
 have hn:∀k,L.X k→¬L.M.X k→¬M.X k:=fun k hk hx hm'=>(hg k hm').elim hx fun h'=>absurd (h.lt k hk) (Nat.not_lt.2 h')
 have IJ:DB.aj (D.aK m)=D.aj:=by show List.map D.ent (List.range m.S)=List.map D.ent (List.range D.mem.S);rw [hs]
 have hS:DB.S (D.aK m)=D.S:=hs
 refine⟨⟨h.gq,?_,?_,?_,⟨fun p hp=>?_,h.ok.aq⟩,by rw [hS];exact h.pos,⟨h.dis.1,hn _ (.inl rfl) h.dis.2.1,hn _ (.inr (.inl rfl)) h.dis.2.2⟩⟩,?_⟩
 ·obtain⟨T,hd⟩:=h.hd
  refine⟨T,?_⟩
  rw [hS]
  show Blk w' L.g #[.pointer (some (Addr.mk M.g 0 none)),_,_] T
  rw [hm.gq]
  exact hc.blk hd h.dis.2.1
 ·rw [IJ,hS]
  exact h.es.ch hc fun k e=>e▸h.dis.2.2
 ·show bF w' M.g M m
  have:=hm.gq
  rw [this];exact hm
 ·rw [hS]at hp ⊢
  exact h.ok.ent p hp
 ·rintro k (hk | hk | hk)
  ·exact .inl (.inl hk)
  ·exact .inl (.inr (.inl hk))
  ·exact(hg k hk).imp (fun h=>.inr (.inr h)) id
theorem ig.yp(h:ig w g L D) {x:Int} {T:TypeId}(hs:bb w g #[.pointer (some (Addr.mk L.M.g 0 none)),.slice (some (Addr.mk L.e 0 none)) D.S L.c,.int .i64 x] T w2)(hx:0≤x∧x≤64):ig w2 g L (D.dD x):=by
 have hg:=h.gq
 subst hg
 exact⟨rfl,⟨T,hs.blk⟩,h.es.ch hs.ch fun k e e2=>h.dis.1 (by rw [← e,e2]),h.mem.ch hs.ch fun k hk e=>h.dis.2.1 (e▸hk),⟨h.ok.ent,hx⟩,h.pos,h.dis⟩
theorem DB.tA(D:DB) {p:Int}(e:Ent):(D.set p e).aj=D.aj.set p.toNat e:=by
 apply List.ext_getElem?
 intro i
 show((List.range D.S).map (D.set p e).ent)[i]? =_
 rw [List.getElem?_set,List.getElem?_map,List.getElem?_map]
 by_cases hi:i<D.S
 ·rw [List.getElem?_range hi]
  simp only [DB.set,Option.map_some]
  by_cases h2:p.toNat=i
  ·rw [if_pos h2.symm,if_pos h2,if_pos (by simp;omega)]
  ·rw [if_neg (fun e=>h2 e.symm),if_neg h2]
 ·rw [List.getElem?_eq_none (by simp;omega)]
  simp;omega
end
end
section
structure Fl where
 rs:List U32
 pc:Int
 z:Bool
 n:Bool
 l:Bool
namespace Fl
def Ok(s:Fl):Prop:=s.rs.length=15
def oP(s:Fl)(i:Nat)(x:U32):Fl:= {s with rs:=List.set s.rs i x}
def zero:Fl:=⟨[U32.mk 0,U32.mk 0,U32.mk 0,U32.mk 0,U32.mk 0,U32.mk 0,U32.mk 0,U32.mk 0,U32.mk 0,U32.mk 0,U32.mk 0,U32.mk 0,U32.mk 0,U32.mk 0,U32.mk 0],0,false,false,false⟩
def norm(s:Fl):Fl:= {s with rs:=ay (fun j=>U32.mk (s.rs.getD j (U32.mk 0)).v) (upN 0 15)}
theorem norm_eq {s:Fl}(h:s.Ok):s.norm=s:=by
 obtain⟨rs,pc,z,n,l⟩:=s
 match rs,h with
 | [_,_,_,_,_,_,_,_,_,_,_,_,_,_,_],_=>rfl
theorem Di(s:Fl):s.norm.Ok:=rfl
def words(s:Fl):List Value:=ay (fun j=>.int .u32 (s.rs.getD j (U32.mk 0)).v) (upN 0 15)
def cells(s:Fl):List Value:=s.words++ [.int .u32 s.pc,.bool s.z,.bool s.n,.bool s.l]
theorem words_eq {s:Fl}(h:s.Ok):s.words=s.rs.map fun x=>.int .u32 x.v:=by
 obtain⟨rs,pc,z,n,l⟩:=s
 match rs,h with
 | [_,_,_,_,_,_,_,_,_,_,_,_,_,_,_],_=>rfl
theorem k8(s:Fl):s.words.length=15:=rfl
theorem yX {s:Fl}(h:s.Ok) {i:Nat} {x:U32}(hx:s.rs[i]? =some x):s.cells[i]? =some (.int .u32 x.v):=by
 have hi:i<15:=by have:=(List.getElem?_eq_some_iff.1 hx).1;rw [h]at this;exact this
 rw [cells,List.getElem?_append_left (by rw [k8];exact hi),words_eq h,List.getElem?_map,hx];rfl
theorem yW {s:Fl}(h:s.Ok) {i:Nat}(hi:i<15)(x:U32):(s.oP i x).cells=s.cells.set i (.int .u32 x.v):=by
 have h2:(s.oP i x).Ok:=by show(List.set s.rs i x).length=15;rw [List.length_set];exact h
 rw [cells,words_eq h2,cells,words_eq h,List.set_append_left _ _ (by rw [List.length_map,h];exact hi)]
 show(List.set s.rs i x).map _++_=_
 rw [List.map_set];rfl
end Fl
theorem te {α β:Type} {f:α→β} {u:β}:∀ {l:List α},u∈ay f l→∃a,u=f a
 | a::l,h=>by
  rcases List.mem_cons.1 h with e | h
  ·exact⟨a,e⟩
  ·exact te (l:=l) h
instance:Enc Fl:=⟨Fl.cells,19,fun _=>rfl,fun x u h=>by
 rcases List.mem_append.1 h with h | h
 ·obtain⟨a,rfl⟩:=te h
  rfl
 ·simp only [List.mem_cons,List.not_mem_nil,or_false]at h
  rcases h with rfl | rfl | rfl | rfl<;>rfl,by omega⟩
structure FlP(w:World)(g:Nat)(s:Fl):Prop where
 len:s.Ok
 blk:∃T,Blk w g ⟨s.cells⟩ T
section
variable {w:World} {g:Nat} {s:Fl} {K:World→Prop}
theorem FlP.st(h:FlP w g s) {i:Nat} {v:Value} {s':Fl}(hi:i<19)(h2:s'.Ok)(hc:s'.cells=s.cells.set i v)(hK:∀w',FlP w' g s'→Ch (fun k=>k=g) w w'→K w'):aD w ⟨g,i,none⟩ [v] K:=by
 obtain⟨T,hb⟩:=h.blk
 exact ff hb (by show i+1≤s.cells.length;show i+1≤19;omega) fun w2 st=>hK w2 ⟨h2,T,by rw [hc];exact st.blk.cast (by rw [pI];simp)⟩ st.ch
theorem FlP.li(h:FlP w g s) {X:Nat→Prop}(hX:∀k,k=g↔X k):Rd w X (some (Addr.mk g 0 none)) s.rs.length s.rs.length s.rs:=by
 obtain⟨T,hb⟩:=h.blk
 refine⟨rfl,Nat.le_refl _,fun k hk=>by rw [(hX k).2 hk];exact hb.lt,fun i x hi=>⟨_,rfl,(hX _).1 rfl,fun j hj=>?_⟩⟩
 have hj:j=0:=by have:Enc.size U32=1:=rfl;omega
 subst hj
 rw [bk,Nat.zero_add,show Enc.size U32=1 from rfl,Nat.mul_one]
 show w.cell? ⟨g,i,none⟩=some (.int .u32 x.v)
 exact hb.cell (by simpa using Fl.yX h.len hi)
theorem FlP.stR(h:FlP w g s) {X:Nat→Prop}(hX:∀k,k=g↔X k) {i:Nat} {x y:U32}(hx:s.rs[i]? =some x) {o:Nat} {vs:List Value}(ho:o+vs.length≤1)(hy:enc y=(enc x).take o++vs++(enc x).drop (o+vs.length))(hK:∀w',(∀k,k=g↔X k)∧FlP w' g (s.oP i y)→Ch X w w'→K w'):
 aD w (((Addr.mk g 0 none).add (i*1)).add o) vs K:=by
 have hi:i<15:=by have:=(List.getElem?_eq_some_iff.1 hx).1;rw [h.len]at this;exact this
 have hlen:(s.oP i y).Ok:=by show(List.set s.rs i y).length=15;rw [List.length_set];exact h.len
 obtain⟨T,hb⟩:=h.blk
 rw [bk,Nat.zero_add,Nat.mul_one]
 have ex:enc x= [.int .u32 x.v]:=rfl
 have ey:enc y= [.int .u32 y.v]:=rfl
 rw [ex,ey]at hy
 have Hv:∀j,j≤19→j≤(⟨s.cells⟩:Array Value).size:=fun j hj=>hj
 have same:x=y→s.oP i y=s:=fun e=>by
  subst e
  have:s.rs.set i x=s.rs:=by
   apply List.ext_getElem?
   intro j
   rw [List.getElem?_set]
   split
   ·rename_i e;subst e;rw [if_pos (by rw [h.len];exact hi),hx]
   ·rfl
  unfold Fl.oP;rw [this]
 match vs,o,ho with
 | [v],0,_=>
  simp at hy
  subst hy
  exact(FlP.st h (i:=i) (by omega) hlen (Fl.yW h.len hi y) fun w' h' q=>hK w' ⟨hX,h'⟩ (q.mono fun k hk=>(hX k).1 hk))
 | [],0,_=>
  simp at hy
  refine⟨g,i,_,T,rfl,hb,by simpa using Hv i (by omega),fun w2 st=>hK w2 ⟨hX,by rw [same (by cases x;cases y;simp at hy;rw [hy])];exact⟨h.len,T,st.blk⟩⟩ (st.ch.mono fun k hk=>(hX k).1 hk)⟩
 | [],1,_=>
  simp at hy
  refine⟨g,i+1,_,T,rfl,hb,by simpa using Hv (i+1) (by omega),fun w2 st=>hK w2 ⟨hX,by rw [same (by cases x;cases y;simp at hy;rw [hy])];exact⟨h.len,T,st.blk⟩⟩ (st.ch.mono fun k hk=>(hX k).1 hk)⟩
theorem FlP.all(h:FlP w g s) {s':Fl}(h2:s'.Ok)(hK:∀w',FlP w' g s'→Ch (fun k=>k=g) w w'→K w'):aD w ⟨g,0,none⟩ s'.cells K:=by
 obtain⟨T,hb⟩:=h.blk
 exact pH hb rfl fun w2 st=>hK w2 ⟨h2,T,st.blk.cast (by simp)⟩ st.ch
end
theorem Fl.Du {s:Fl}(h:s.Ok)(he:aY ⟨s.cells⟩ ⟨Fl.zero.cells⟩=true):s=Fl.zero:=by
 obtain⟨rs,pc,z,n,l⟩:=s
 match rs,h with
 | [⟨a0⟩,⟨a1⟩,⟨a2⟩,⟨a3⟩,⟨a4⟩,⟨a5⟩,⟨a6⟩,⟨a7⟩,⟨a8⟩,⟨a9⟩,⟨b0⟩,⟨b1⟩,⟨b2⟩,⟨b3⟩,⟨b4⟩],_=>
  simp [aY,eqL,js,Fl.cells,Fl.words,ay,upN,Fl.zero]at he ⊢
  simp [he]
def tF:List Value→Option Fl
 | [.int .u32 a0,.int .u32 a1,.int .u32 a2,.int .u32 a3,.int .u32 a4,.int .u32 a5,.int .u32 a6,.int .u32 a7,.int .u32 a8,.int .u32 a9,.int .u32 b0,.int .u32 b1,.int .u32 b2,.int .u32 b3,.int .u32 b4,.int .u32 pc,.bool z,.bool n,.bool l]=>
  some ⟨[⟨a0⟩,⟨a1⟩,⟨a2⟩,⟨a3⟩,⟨a4⟩,⟨a5⟩,⟨a6⟩,⟨a7⟩,⟨a8⟩,⟨a9⟩,⟨b0⟩,⟨b1⟩,⟨b2⟩,⟨b3⟩,⟨b4⟩],pc,z,n,l⟩
 | _=>none
theorem lB {cs:List Value} {s:Fl}(h:tF cs=some s):cs=s.cells∧s.Ok:=by
 unfold tF at h
 split at h
 ·injection h with h
  subst h
  exact⟨rfl,rfl⟩
 ·cases h
end
section
structure Pd where
 n:Nat
 aq:Int
 ent:Nat→Ent
namespace Pd
def on(E:Pd)(m:Mem):DB:=⟨m,E.aq,E.ent⟩
def aj(E:Pd):List Ent:=(List.range E.n).map E.ent
def set(E:Pd)(i:Nat)(e:Ent):Pd:= {E with ent:=fun q=>if q=i then e else E.ent q}
def dD(E:Pd)(x:Int):Pd:= {E with aq:=x}
structure Ok(E:Pd):Prop where
 ent:∀p,p<E.n→(E.ent p).ok=true∧(E.ent p).owner<E.n
 aq:0≤E.aq∧E.aq≤64
 most:E.n≤64
@[simp] theorem bN(E:Pd):E.aj.length=E.n:=by simp [aj]
theorem nW {E:Pd} {i:Nat}(h:i<E.n):E.aj[i]? =some (E.ent i):=by simp [aj,h]
theorem bt {E:Pd} {p:Int} {d:Ent}(h:0≤p∧p<((E.n:Nat):Int)):E.aj.getD p.toNat d=E.ent p.toNat:=by
 rw [List.getD_eq_getElem?_getD,nW (by omega)];rfl
theorem tA(E:Pd)(i:Nat)(e:Ent):(E.set i e).aj=E.aj.set i e:=by
 apply List.ext_getElem?
 intro j
 show((List.range E.n).map (E.set i e).ent)[j]? =_
 rw [List.getElem?_set,List.getElem?_map]
 by_cases hj:j<E.n
 ·rw [List.getElem?_range hj]
  simp only [Option.map_some,set,bN,nW hj]
  by_cases HN:i=j
  ·subst HN;simp [hj]
  ·rw [if_neg (fun h=>HN h.symm),if_neg HN]
 ·rw [List.getElem?_eq_none (by simp;omega),List.getElem?_eq_none (l:=E.aj) (by simp;omega)]
  simp
  intro h1
  omega
end Pd
def DB.pd(D:DB):Pd:=⟨D.S,D.aq,D.ent⟩
theorem Pd.ep(E:Pd)(m:Mem)(h:E.n=m.S):(E.on m).pd=E:=by
 cases E;simp only [on]at *;simp [DB.pd,DB.S,← h]
theorem Pd.du(E:Pd)(m:Mem):(E.on m).mem=m:=rfl
theorem Pd.oS(E:Pd)(m:Mem)(h:E.n=m.S):(E.on m).S=E.n:=h.symm
theorem Pd.fX(E:Pd)(m:Mem)(p:Int)(h:E.n=m.S):(E.on m).has p=decide (0≤p∧p<((E.n:Nat):Int)):=by unfold DB.has;rw [oS E m h]
theorem Pd.gu(E:Pd)(m:Mem)(p:Int):(E.on m).at_ p=E.ent p.toNat:=rfl
theorem Pd.dG(E:Pd)(m:Mem)(p:Int)(e:Ent):(E.on m).set p e=(E.set p.toNat e).on m:=rfl
theorem Pd.kg(E:Pd)(m:Mem)(f:Mem→Mem):(E.on m).kh f=E.on (f m):=rfl
theorem Pd.nE(E:Pd)(m m':Mem):(E.on m).aK m'=E.on m':=rfl
theorem Pd.sQ(E:Pd)(m:Mem)(b:Int):(E.on m).dD b=(E.dD b).on m:=rfl
theorem Pd.CR(E:Pd)(b:Int):(E.dD b).n=E.n:=rfl
theorem Pd.pT(E:Pd)(m:Mem):(E.on m).aq=E.aq:=rfl
theorem Pd.jt(E:Pd)(i:Nat)(e:Ent):(E.set i e).n=E.n:=rfl
theorem Pd.dX(E:Pd)(i j:Nat)(e:Ent):(E.set i e).ent j=if j=i then e else E.ent j:=rfl
theorem Pd.vu(E:Pd)(i:Nat)(e:Ent):(E.set i e).aq=E.aq:=rfl
structure PdP(w:World)(g a mg:Nat)(E:Pd):Prop where
 hd:∃T,Blk w g #[.pointer (some (Addr.mk mg 0 none)),.int .i64 E.aq,.slice (some (Addr.mk a 0 none)) (2*E.n) (2*E.n)] T
 ws:∃T cs,Blk w a cs T∧cs.size=2*E.n∧∀p,p<E.n→cs[2*p]? =some (.int .u32 (E.ent p).w0)∧cs[2*p+1]? =some (.int .u32 (E.ent p).w1)
 ok:E.Ok
 ne:a≠g
structure kO(w:World)(g mg e c:Nat)(E:Pd):Prop where
 hd:∃T,Blk w g #[.pointer (some (Addr.mk mg 0 none)),.slice (some (Addr.mk e 0 none)) E.n c,.int .i64 E.aq] T
 es:Own w (fun k=>k=e) 157 (some (Addr.mk e 0 none)) E.n c E.aj
 ok:E.Ok
 ne:e≠g
 pos:1≤E.n
section
variable {w w':World} {g a mg e c:Nat} {E:Pd} {Y:Nat→Prop}
theorem PdP.ch(h:PdP w g a mg E)(q:Ch Y w w')(hg:¬Y g)(ha:¬Y a):PdP w' g a mg E:=by
 obtain⟨T,hd⟩:=h.hd
 obtain⟨T2,cs,hr,h2⟩:=h.ws
 exact⟨⟨T,q.blk hd hg⟩,⟨T2,cs,q.blk hr ha,h2⟩,h.ok,h.ne⟩
theorem kO.ch(h:kO w g mg e c E)(q:Ch Y w w')(hg:¬Y g)(he:¬Y e):kO w' g mg e c E:=by
 obtain⟨T,hd⟩:=h.hd
 exact⟨⟨T,q.blk hd hg⟩,h.es.ch q fun k hk=>hk▸he,h.ok,h.ne,h.pos⟩
theorem PdP.lt(h:PdP w g a mg E):g<w.heap.size∧a<w.heap.size:=by
 obtain⟨T,hd⟩:=h.hd
 obtain⟨T2,cs,hr,h2⟩:=h.ws
 exact⟨hd.lt,hr.lt⟩
theorem kO.lt(h:kO w g mg e c E):g<w.heap.size∧e<w.heap.size:=by
 obtain⟨T,hd⟩:=h.hd
 obtain⟨g',hA,hZ,hl⟩:=h.es.lt h.pos
 have:g'=e:=hZ
 exact⟨hd.lt,by omega⟩
theorem PdP.db {L:dM} {m:Mem}(h:PdP w g a L.g E)(hm:bV w L m)(hn:E.n=m.S)(hx:¬L.X g∧¬L.X a):DBP w ⟨g,a,L⟩ (E.on m):=by
 have hS:(E.on m).S=E.n:=hn.symm
 refine⟨?_,?_,hm,⟨fun p hp=>?_,h.ok.aq⟩,h.ne,hx.1,hx.2⟩
 ·show ∃T,Blk w g #[_,_,.slice _ (2*m.S) (2*m.S)] T
  rw [← hn];exact h.hd
 ·show ∃T cs,Blk w a cs T∧cs.size=2*m.S∧∀p,p<m.S→_
  rw [← hn];exact h.ws
 ·rw [hS]at hp ⊢
  exact h.ok.ent p hp
theorem DBP.pd {L:eT} {D:DB}(h:DBP w L D):PdP w L.g L.a L.M.g D.pd:=⟨h.hd,h.ws,⟨h.ok.ent,h.ok.aq,h.mem.most.1⟩,h.dis.1⟩
theorem PdP.yp(h:PdP w g a mg E) {x:Int}(hx:0≤x∧x≤64) {K:World→Prop}(hK:∀w',PdP w' g a mg (E.dD x)→Ch (fun k=>k=g) w w'→K w'):aD w ⟨g,1,none⟩ [.int .i64 x] K:=by
 obtain⟨T,hd⟩:=h.hd
 obtain⟨T2,cs,hr,h2⟩:=h.ws
 exact ff hd (by simp) fun w2 s=>hK w2 ⟨⟨T,s.blk⟩,⟨T2,cs,s.old hr h.ne,h2⟩,⟨h.ok.ent,hx,h.ok.most⟩,h.ne⟩ s.ch
theorem kO.yp(h:kO w g mg e c E) {x:Int}(hx:0≤x∧x≤64) {K:World→Prop}(hK:∀w',kO w' g mg e c (E.dD x)→Ch (fun k=>k=g) w w'→K w'):aD w ⟨g,2,none⟩ [.int .i64 x] K:=by
 obtain⟨T,hd⟩:=h.hd
 exact ff hd (by simp) fun w2 s=>hK w2 ⟨⟨T,s.blk⟩,h.es.ch s.ch fun k hk e2=>h.ne (by rw [← hk,e2]),⟨h.ok.ent,hx,h.ok.most⟩,h.ne,h.pos⟩ s.ch
theorem kO.EO(h:kO w g mg e c E) {i:Nat} {x y:Ent}(hx:E.aj[i]? =some x) {o:Nat} {vs:List Value}(ho:o+vs.length≤5)(hy:enc y=(enc x).take o++vs++(enc x).drop (o+vs.length))(Im:y.ok=true∧y.owner<(E.n:Int)) {K:World→Prop}
 (hK:∀w',kO w' g mg e c (E.set i y)→Ch (fun k=>k=e) w w'→K w'):aD w (((Addr.mk e 0 none).add (i*5)).add o) vs K:=by
 have hi:i<E.n:=by
  have:=(List.getElem?_eq_some_iff.1 hx).1
  simpa using this
 obtain⟨T,hd⟩:=h.hd
 refine h.es.st rfl hi hx ho hy fun w2 Jb hc=>hK w2 ⟨⟨T,hc.blk hd fun e=>h.ne e.symm⟩,by rw [Pd.tA];exact Jb,⟨fun p hp=>?_,h.ok.aq,h.ok.most⟩,h.ne,h.pos⟩ hc
 show(if p=i then y else E.ent p).ok=true∧_
 split
 ·rename_i Om
  refine⟨Im.1,?_⟩
  show(if p=i then y else E.ent p).owner<_
  rw [if_pos Om];exact Im.2
 ·rename_i Om
  refine⟨(h.ok.ent p hp).1,?_⟩
  show(if p=i then y else E.ent p).owner<_
  rw [if_neg Om];exact(h.ok.ent p hp).2
end
def rL(w:World)(g:Nat)(s:List U32):Prop:=∃T,Blk w g (eN (s.map U32.v)) T
def tD:List Value→Option (List U32)
 | []=>some []
 | .int .u32 x::r=>(match tD r with
  | some l=>some (U32.mk x::l)
  | none=>none)
 | _=>none
theorem kB:∀ {cs:List Value} {l:List U32},tD cs=some l→cs=(l.map U32.v).map (Value.int .u32)
 | [],l,h=>by simp only [tD,Option.some.injEq]at h;subst h;rfl
 | v::r,l,h=>by
  unfold tD at h
  split at h
  ·rename_i e;cases e
  ·rename_i x r' e
   injection e with e1 e2
   subst e1;subst e2
   split at h
   ·rename_i l' hl
    injection h with h
    subst h
    rw [kB hl];rfl
   ·cases h
  ·cases h
theorem EV {w:World} {g mg e c:Nat} {E:Pd} {X:Nat→Prop}(hX:∀k,(k=g∨k=e)↔X k)(h:kO w g mg e c E):Rd w X (some (Addr.mk e 0 none)) E.aj.length c E.aj:=by
 rw [Pd.bN]
 exact h.es.rd.mono (fun k hk=>(hX k).1 (.inr hk.1)) fun k hk=>by rcases(hX k).2 hk with rfl | rfl;exact h.lt.1;exact h.lt.2
theorem EW {w:World} {g mg e c:Nat} {E:Pd}(h:kO w g mg e c E):w.cell? ⟨g,0,none⟩=some (.pointer (some ⟨mg,0,none⟩))∧w.cell? ⟨g,1,none⟩=some (.slice (some ⟨e,0,none⟩) E.aj.length c)∧w.cell? ⟨g,2,none⟩=some (.int .i64 E.aq):=by
 obtain⟨T,hd⟩:=h.hd
 rw [Pd.bN]
 exact⟨hd.cell rfl,hd.cell rfl,hd.cell rfl⟩
theorem F4 {w:World} {g a mg:Nat} {E:Pd}(h:PdP w g a mg E):w.cell? ⟨g,0,none⟩=some (.pointer (some ⟨mg,0,none⟩))∧w.cell? ⟨g,1,none⟩=some (.int .i64 E.aq):=by
 obtain⟨T,hd⟩:=h.hd
 exact⟨hd.cell rfl,hd.cell rfl⟩
theorem C6 {w:World} {g:Nat} {s:List U32} {X:Nat→Prop}(hX:∀k,k=g↔X k)(h:rL w g s):Rd w X (some (Addr.mk g 0 none)) s.length s.length s:=by
 obtain⟨T,hb⟩:=h
 refine⟨rfl,Nat.le_refl _,fun k hk=>by rw [(hX k).2 hk];exact hb.lt,fun i x hi=>⟨_,rfl,(hX _).1 rfl,fun j hj=>?_⟩⟩
 have hj:j=0:=by have:Enc.size U32=1:=rfl;omega
 subst hj
 have hl:i<s.length:=(List.getElem?_eq_some_iff.1 hi).1
 rw [bk,Nat.zero_add,show Enc.size U32=1 from rfl,Nat.mul_one]
 show w.cell? ⟨g,i,none⟩=some (.int .u32 x.v)
 refine hb.cell ?_
 rw [ny (by simpa using hl),List.getD_eq_getElem?_getD,List.getElem?_map,hi];rfl
theorem C5 {w:World} {g i:Nat} {s:List U32} {X:Nat→Prop}(hX:∀k,k=g↔X k)(h:rL w g s) {x y:U32}(hx:s[i]? =some x) {o:Nat} {vs:List Value}(ho:o+vs.length≤1)(hy:enc y=(enc x).take o++vs++(enc x).drop (o+vs.length)) {K:World→Prop}(hK:∀w',(∀k,k=g↔X k)∧rL w' g (s.set i y)→Ch X w w'→K w'):
 aD w (((Addr.mk g 0 none).add (i*1)).add o) vs K:=by
 obtain⟨T,hb⟩:=h
 have hl:i<s.length:=(List.getElem?_eq_some_iff.1 hx).1
 have hc:∀w2,bb w g (eN ((s.set i y).map U32.v)) T w2→K w2:=fun w2 st=>hK w2 ⟨hX,T,st.blk⟩ (st.ch.mono fun k hk=>(hX k).1 hk)
 rw [bk,Nat.zero_add,Nat.mul_one]
 have ex:enc x= [.int .u32 x.v]:=rfl
 have ey:enc y= [.int .u32 y.v]:=rfl
 rw [ex,ey]at hy
 match vs,o,ho with
 | [v],0,_=>
  simp at hy
  subst hy
  refine⟨g,i,_,T,rfl,hb,by simp;omega,fun w2 st=>hc w2 ?_⟩
  rw [List.map_set,← Av];exact st
 | [],0,_=>
  simp at hy
  refine⟨g,i,_,T,rfl,hb,by simp;omega,fun w2 st=>hc w2 ?_⟩
  have:s.set i y=s:=by
   have:y=x:=by cases x;cases y;simp at hy;rw [hy]
   rw [this];exact List.ext_getElem? fun j=>by rw [List.getElem?_set];split;(rename_i e;subst e;(try rw [if_pos hl]);rw [hx]);rfl
  rw [this];exact st
 | [],1,_=>
  simp at hy
  refine⟨g,i+1,_,T,rfl,hb,by simp;omega,fun w2 st=>hc w2 ?_⟩
  have:s.set i y=s:=by
   have:y=x:=by cases x;cases y;simp at hy;rw [hy]
   rw [this];exact List.ext_getElem? fun j=>by rw [List.getElem?_set];split;(rename_i e;subst e;(try rw [if_pos hl]);rw [hx]);rfl
  rw [this];exact st
theorem C4 {w:World} {g n:Nat} {s:List U32} {X:Nat→Prop}(hX:∀k,k=g↔X k)(h:rL w g s)(hn:s.length=n):X g∧∀j u,(ay (fun j=>Value.int .u32 (s.getD j (U32.mk 0)).v) (upN 0 n))[j]? =some u→w.cell? ⟨g,0+j,none⟩=some u:=by
 obtain⟨T,hb⟩:=h
 refine⟨(hX _).1 rfl,fun j u hj=>?_⟩
 rw [← aB,aR]at hj
 cases Mq:nth (upN 0 n) j with
 | none=>rw [Mq]at hj;cases hj
 | some i=>
  rw [Mq]at hj
  have HN:i=j:=by have:=j5 Mq;omega
  have Ho:=aH Mq
  rw [j6]at Ho
  subst HN
  injection hj with hj
  rw [← hj,Nat.zero_add]
  refine hb.cell ?_
  rw [ny (by simp;omega),List.getD_eq_getElem?_getD,List.getElem?_map]
  show _=some (Value.int .u32 (s.getD i (U32.mk 0)).v)
  rw [List.getD_eq_getElem?_getD]
  cases s[i]? <;>rfl
theorem C3 {w:World} {g:Nat} {s l:List U32} {vs:List Value} {X:Nat→Prop}(hX:∀k,k=g↔X k)(h:rL w g s)(hl:tD vs=some l)(hn:s.length=l.length) {K:World→Prop}(hK:∀w',(∀k,k=g↔X k)∧rL w' g l→Ch X w w'→K w'):aD w ⟨g,0,none⟩ vs K:=by
 obtain⟨T,hb⟩:=h
 have e:=kB hl
 have e2:vs=(eN (l.map U32.v)).toList:=by rw [e];simp [eN]
 rw [e2]
 exact yk hb (by simp;omega) fun w2 st=>hK w2 ⟨hX,T,st.blk⟩ (st.ch.mono fun k hk=>(hX k).1 hk)
def Mem.Wf(m:Mem):Prop:=(∀s i o,0≤m.pg s i o∧m.pg s i o<4294967296)∧m.S≤64∧m.I≤64
end
section
structure Hd where
 A:Option Addr
 n:Nat
 c:Nat
instance:Enc Hd:=⟨fun x=>[.slice x.A x.n x.c],1,fun _=>rfl,by simp [Value.oneCell'],by omega⟩
structure Nst where
 A:Option Addr
 c:Nat
 hs:List Hd
 ls:List (List U32)
 own:Bool
namespace Nst
def hd(s:Nst)(k:Nat):Hd:=s.hs.getD k ⟨none,0,0⟩
def l(s:Nst)(k:Nat):List U32:=s.ls.getD k []
def set(s:Nst)(k i:Nat)(x:U32):Nst:= {s with ls:=s.ls.set k ((s.l k).set i x)}
structure Ok(s:Nst):Prop where
 len:s.ls.length=s.hs.length
 n:∀k,k<s.hs.length→(s.hd k).n=(s.l k).length
theorem Ok.n_eq {s:Nst}(h:s.Ok)(k:Nat):(s.hs.getD k ⟨none,0,0⟩).n=(s.l k).length:=by
 by_cases hk:k<s.hs.length
 ·exact h.n k hk
 ·unfold l
  rw [List.getD_eq_getElem?_getD,List.getElem?_eq_none (by omega),List.getD_eq_getElem?_getD,List.getElem?_eq_none (by rw [h.len];omega)];rfl
theorem Et(s:Nst) {k i j:Nat} {x:U32}(hk:k<s.ls.length):(s.set k i x).l j=if j=k then(s.l k).set i x else s.l j:=by
 unfold l set
 simp only
 rw [List.getD_eq_getElem?_getD,List.getElem?_set]
 by_cases h:j=k
 ·subst h
  rw [if_pos rfl,if_pos hk,if_pos rfl];rfl
 ·rw [if_neg (fun e=>h e.symm),if_neg h,List.getD_eq_getElem?_getD]
end Nst
structure rU(w:World)(s:Nst)(X Z:Nat→Prop)(g:Nat→Nat)(f:Nat→List U32):Prop where
 out:Rd w Z s.A s.hs.length s.c s.hs
 z:∀k,Z k→X k
 inn:∀k,k<s.hs.length→¬Z (g k)∧X (g k)∧(s.hd k).A=some ⟨g k,0,none⟩∧(∃c,Own w (fun i=>i=g k) 23 (some ⟨g k,0,none⟩) (f k).length c (f k))∧(s.hd k).n≤(f k).length∧s.l k=(f k).take (s.hd k).n
 ne:∀j k,j<s.hs.length→k<s.hs.length→j≠k→g j≠g k
structure gh(w:World)(s:Nst)(X:Nat→Prop):Prop where
 ok:s.Ok
 lt:∀k,X k→k<w.heap.size
 out:Rd w X s.A s.hs.length s.c s.hs
 inn:∀k,k<s.hs.length→Rd w X (s.hd k).A (s.hd k).n (s.hd k).c (s.l k)
 own:s.own=true→∃Z g f,rU w s X Z g f
section
variable {w w':World} {s:Nst} {X Y Z:Nat→Prop} {g:Nat→Nat} {f:Nat→List U32}
theorem rU.ch(h:rU w s X Z g f)(q:Ch Y w w')(hb:∀k,X k→¬Y k):rU w' s X Z g f:=
 ⟨h.out.ch q fun k hk=>hb k (h.z k hk),h.z,fun k hk=>by
  obtain⟨h1,h2,h3,⟨c,h4⟩,h5⟩:=h.inn k hk
  exact⟨h1,h2,h3,⟨c,h4.ch q fun i hi=>hi▸hb _ h2⟩,h5⟩,h.ne⟩
theorem gh.ch(h:gh w s X)(q:Ch Y w w')(hb:∀k,X k→¬Y k):gh w' s X:=
 ⟨h.ok,fun k hk=>Nat.lt_of_lt_of_le (h.lt k hk) q.size,h.out.ch q hb,fun k hk=>(h.inn k hk).ch q hb,fun e=>by
  obtain⟨Z,g,f,ho⟩:=h.own e
  exact⟨Z,g,f,ho.ch q hb⟩⟩
theorem Rd.take {A:Option Addr} {n m c:Nat} {l:List U32}(h:Rd w X A n c l)(hm:m≤n):Rd w X A m c (l.take m):=
 ⟨by rw [List.length_take,h.len];omega,Nat.le_trans hm h.cap,h.lt,fun i x hx=>by
  rw [List.getElem?_take]at hx
  split at hx
  ·exact h.cell i x hx
  ·cases hx⟩
theorem rU.rd(h:rU w s X Z g f)(Ho:∀k,X k→k<w.heap.size) {k:Nat}(hk:k<s.hs.length)(hc:(s.hd k).n≤(s.hd k).c):Rd w X (s.hd k).A (s.hd k).n (s.hd k).c (s.l k):=by
 obtain⟨h1,h2,h3,⟨c,h4⟩,h5,h6⟩:=h.inn k hk
 have hr:=Rd.take h4.rd h5
 rw [← h3,← h6]at hr
 exact⟨hr.len,hc,Ho,fun i x hx=>by
  obtain⟨p,e1,e2,e3⟩:=hr.cell i x hx
  exact⟨p,e1,by rw [e2.1];exact h2,e3⟩⟩
def Nst.li(s:Nst)(i:Nat):List U32:=s.l i
theorem gh.ne(h:gh w s X) {i:Nat} {x:Hd}(hx:s.hs[i]? =some x):enc x= [.slice (s.hd i).A (s.l i).length (s.hd i).c]:=by
 have hi:=(List.getElem?_eq_some_iff.1 hx).1
 have e:s.hd i=x:=by unfold Nst.hd;rw [List.getD_eq_getElem?_getD,hx];rfl
 rw [← h.ok.n i hi,e];rfl
theorem gh.st(h:gh w s X)(ho:s.own=true) {k i:Nat}(hk:k<s.hs.length) {x y:U32}(hx:(s.l k)[i]? =some x) {off:Nat} {vs:List Value}(NS:off+vs.length≤1)(hy:enc y=(enc x).take off++vs++(enc x).drop (off+vs.length)) {K:World→Prop}(hK:∀w',gh w' (s.set k i y) X→Ch X w w'→K w'):
 aD w ((((s.hd k).A.getD ⟨0,0,none⟩).add (i*1)).add off) vs K:=by
 obtain⟨Z,g,f,hO⟩:=h.own ho
 obtain⟨h1,h2,h3,⟨c,h4⟩,h5,h6⟩:=hO.inn k hk
 have Q5:i<(s.hd k).n:=by
  have:=(List.getElem?_eq_some_iff.1 hx).1
  rw [← h.ok.n k hk]at this;exact this
 have S2:(f k)[i]? =some x:=by rw [h6,List.getElem?_take,if_pos Q5]at hx;exact hx
 have hl:s.ls.length=s.hs.length:=h.ok.len
 rw [h3]
 refine h4.st rfl (i:=i) (by omega) S2 (o:=off) (vs:=vs) (y:=y) NS hy fun w2 Jb q=>?_
 have q2:Ch X w w2:=q.mono fun j hj=>hj▸h2
 have Hv:∀j,X j→j<w2.heap.size:=fun j hj=>Nat.lt_of_lt_of_le (h.lt j hj) q.size
 have O2:rU w2 (s.set k i y) X Z g (fun j=>if j=k then(f k).set i y else f j):=by
  refine⟨hO.out.ch q fun j hj e=>h1 (e▸hj),hO.z,fun j hj=>?_,hO.ne⟩
  obtain⟨a1,a2,a3,⟨c',a4⟩,a5,a6⟩:=hO.inn j hj
  rw [s.Et (by omega:k<s.ls.length)]
  by_cases e:j=k
  ·subst e
   simp only [if_true]
   refine⟨a1,a2,a3,⟨c,by rw [List.length_set];exact Jb⟩,by rw [List.length_set];exact a5,?_⟩
   show(s.l j).set i y=_
   rw [h6,List.take_set];rfl
  ·simp only [if_neg e]
   exact⟨a1,a2,a3,⟨c',a4.ch q fun b hb e2=>hO.ne j k hj hk e (by rw [← hb,← e2])⟩,a5,a6⟩
 have Im:(s.set k i y).Ok:=⟨by show(s.ls.set k _).length=_;rw [List.length_set];exact hl,fun j hj=>by
  rw [s.Et (by omega:k<s.ls.length)]
  by_cases e:j=k
  ·subst e;rw [if_pos rfl,List.length_set];exact h.ok.n j hj
  ·rw [if_neg e];exact h.ok.n j hj⟩
 have LZ:Rd w2 X s.A s.hs.length s.c s.hs:=by
  have:=hO.out.ch q fun j hj e=>h1 (e▸hj)
  exact⟨this.len,this.cap,Hv,fun a b K8=>by
   obtain⟨p,e1,e2,e3⟩:=this.cell a b K8
   exact⟨p,e1,hO.z _ e2,e3⟩⟩
 exact hK w2 ⟨Im,Hv,LZ,fun j hj=>O2.rd Hv hj (h.inn j hj).cap,fun _=>⟨Z,g,_,O2⟩⟩ q2
end
end
end Go.Proofs.YtfmcaoaaiganbaaGreatDoor
namespace Go.Proofs.YtfmcaoaaiganbaaGreatDoor.V
open Go Go.RowKit
open Go.IntKind (i64 u32 u64)
open Enc (enc)
structure Els where
 el:Nat→Type
 en:(t:Nat)→Enc (el t)
 df:(t:Nat)→el t
 dec:(t:Nat)→List Value→Option (el t)
 ga:∀ {t:Nat} {cs:List Value} {x:el t},dec t cs=some x→(en t).enc x=cs
structure Kind(E:Els) where
 ty:Type
 pred:(Nat→Nat)→ty→(Nat→Prop)→World→Prop
 ch:∀ {r:Nat→Nat} {s:ty} {X Y:Nat→Prop} {w w':World},pred r s X w→Ch Y w w'→(∀k,X k→¬Y k)→pred r s X w'
 lt:∀ {r:Nat→Nat} {s:ty} {X:Nat→Prop} {w:World},pred r s X w→∀k,X k→k<w.heap.size
 li:(Nat→Nat)→ty→Nat→Option (Ls E.el):=fun _ _ _=>none
 lX:∀ {r:Nat→Nat} {s:ty} {X:Nat→Prop} {w:World} {i:Nat} {L:Ls E.el},pred r s X w→li r s i=some L→ @Rd (E.el L.t) (E.en L.t) w X L.A L.l.length L.c L.l:=by intro _ _ _ _ _ _ _ h;cases h
 ne:Nat→Bool:=fun _=>false
 sY:∀ {r:Nat→Nat} {s:ty} {X:Nat→Prop} {w:World} {j i:Nat} {L:Ls E.el} {x:E.el L.t},pred r s X w→ne j=true→li r s j=some L→L.l[i]? =some x→∃L':Ls E.el,li r s (i+1)=some L'∧(E.en L.t).enc x= [.slice L'.A L'.l.length L'.c]:=by intro _ _ _ _ _ _ _ _ _ h;cases h
 fs:(Nat→Nat)→ty→Nat→Nat→Value→Option (Prop×ty):=fun _ _ _ _ _=>none
 nP:∀ {r:Nat→Nat} {s s':ty} {X:Nat→Prop} {w:World} {path off:Nat} {v:Value} {c:Prop},pred r s X w→fs r s path off v=some (c,s')→c→∀ {K:World→Prop},(∀w',pred r s' X w'→Ch X w w'→K w')→aD w ⟨r path,off,none⟩ [v] K:=by intro _ _ _ _ _ _ _ _ _ _ h;cases h
 st:(Nat→Nat)→ty→Nat→Nat→(tt:Nat)→E.el tt→Option (Prop×ty):=fun _ _ _ _ _ _=>none
 j9:∀ {r:Nat→Nat} {s s':ty} {X:Nat→Prop} {w:World} {j i:Nat} {L:Ls E.el} {x y:E.el L.t} {off:Nat} {vs:List Value} {c:Prop},pred r s X w→li r s j=some L→L.l[i]? =some x→off+vs.length≤(E.en L.t).size→(E.en L.t).enc y=((E.en L.t).enc x).take off++vs++((E.en L.t).enc x).drop (off+vs.length)→st r s j i L.t y=some (c,s')→c→∀ {K:World→Prop},(∀w',pred r s' X w'→Ch X w w'→K w')→aD w (((L.A.getD ⟨0,0,none⟩).add (i*(E.en L.t).size)).add off) vs K:=by intro _ _ _ _ _ _ _ _ _ _ _ _ _ _ _ _ _ _ h;cases h
 iv:Bool:=false
 inv:ty→Prop:=fun _=>True
 eF:∀ {r:Nat→Nat} {s:ty} {X:Nat→Prop} {w:World},pred r s X w→inv s:=by intros;trivial
 fo:(Nat→Nat)→ty→Nat→Nat→Option FV:=fun _ _ _ _=>none
 nR:∀ {r:Nat→Nat} {s:ty} {X:Nat→Prop} {w:World} {path off:Nat} {f:FV} {v:Value},pred r s X w→fo r s path off=some f→fvV r (li r s) f=some v→X (r path)∧w.cell? ⟨r path,off,none⟩=some v:=by intro _ _ _ _ _ _ _ _ _ h;cases h
 ix:Nat→Nat→Option Nat:=fun _ _=>none
 nO:∀ {r:Nat→Nat} {s:ty} {path off i:Nat} {L:Ls E.el},ix path off=some i→li r s i=some L→L.A=some ⟨r path,off,none⟩:=by intro _ _ _ _ _ _ h;cases h
 wl:(Nat→Nat)→ty→Nat→Nat→Nat→Option (Prop×List Value):=fun _ _ _ _ _=>none
 px:∀ {r:Nat→Nat} {s:ty} {X:Nat→Prop} {w:World} {path off n:Nat} {c:Prop} {cs:List Value},pred r s X w→wl r s path off n=some (c,cs)→c→X (r path)∧∀j u,cs[j]? =some u→w.cell? ⟨r path,off+j,none⟩=some u:=by intro _ _ _ _ _ _ _ _ _ _ h;cases h
 ws:(Nat→Nat)→ty→Nat→Nat→List Value→Option (Prop×ty):=fun _ _ _ _ _=>none
 mT:∀ {r:Nat→Nat} {s s':ty} {X:Nat→Prop} {w:World} {path off:Nat} {vs:List Value} {c:Prop},pred r s X w→ws r s path off vs=some (c,s')→c→∀ {K:World→Prop},(∀w',pred r s' X w'→Ch X w w'→K w')→aD w ⟨r path,off,none⟩ vs K:=by intro _ _ _ _ _ _ _ _ _ _ h;cases h
 mp:ty→Option (List (Int×Value)):=fun _=>none
 ta:∀ {r:Nat→Nat} {s:ty} {X:Nat→Prop} {w:World} {l:List (Int×Value)},pred r s X w→mp s=some l→jX w (r 0) l:=by intro _ _ _ _ _ _ h;cases h
def Kind.none(E:Els):Kind E where
 ty:=Unit
 pred:=fun _ _ X _=>∀k,¬X k
 ch:=fun h _ _=>h
 lt:=fun h k hk=>absurd hk (h k)
def Uni.of(E:Els)(K:Nat→Kind E)(cd:TypeId→Option Nat)(mko:TypeId→List Value→Option ((t:Nat)×(K t).ty))(qZ:∀ {T:TypeId} {cs:List Value} {q:(t:Nat)×(K t).ty} {w:World} {g:Nat},mko T cs=some q→Blk w g ⟨cs⟩ T→(K q.1).pred (fun _=>g) q.2 (fun k=>k=g) w):Uni where
 ty:=fun t=>(K t).ty
 pred:=fun t=>(K t).pred
 ch:=fun {t}=>(K t).ch
 lt:=fun {t}=>(K t).lt
 el:=E.el
 en:=E.en
 df:=E.df
 dec:=E.dec
 ga:=E.ga
 cd:=cd
 li:=fun t=>(K t).li
 lX:=fun {t}=>(K t).lX
 ne:=fun t=>(K t).ne
 sY:=fun {t}=>(K t).sY
 fs:=fun t=>(K t).fs
 nP:=fun {t}=>(K t).nP
 st:=fun t=>(K t).st
 j9:=fun {t}=>(K t).j9
 iv:=fun t=>(K t).iv
 inv:=fun t=>(K t).inv
 eF:=fun {t}=>(K t).eF
 fo:=fun t=>(K t).fo
 nR:=fun {t}=>(K t).nR
 mp:=fun t=>(K t).mp
 ta:=fun {t}=>(K t).ta
 mko:=mko
 qZ:=qZ
 ix:=fun t=>(K t).ix
 nO:=fun {t}=>(K t).nO
 wl:=fun t=>(K t).wl
 px:=fun {t}=>(K t).px
 ws:=fun t=>(K t).ws
 mT:=fun {t}=>(K t).mT
section
section
variable {U:Uni} {P:Program} {tbl:Tb U} {may:List Nat} {k0:Nat}
def Ext(θ θ':Th):Prop:=∀j i,bH θ j=some i→bH θ' j=some i
theorem Ext.refl(θ:Th):Ext θ θ:=fun _ _ h=>h
theorem Ext.trans {a b c:Th}(h:Ext a b)(k:Ext b c):Ext a c:=fun j i hj=>k j i (h j i hj)
theorem fc {j id:Nat} {θ:Th} {F:Th→Prop}(h:jH j id θ F):∃θ',F θ'∧Ext θ θ'∧bH θ' j=some id:=by
 unfold jH at h
 split at h
 ·rename_i hn
  refine⟨_,h,fun j' i hj=>?_,?_⟩
  ·unfold bH
   split
   ·rename_i he
    rw [← Nat.eq_of_beq_eq_true he,hn]at hj
    cases hj
   ·exact hj
  ·simp [bH]
 ·rename_i i hi
  split at h
  ·rename_i he
   exact⟨θ,h,Ext.refl θ,by rw [hi,Nat.eq_of_beq_eq_true he]⟩
  ·exact h.elim
theorem jc {j i:Nat}:∀ {θ:Th},bH θ j=some i→(j,i)∈θ
 | [],h=>by cases h
 | (a,b)::r,h=>by
  unfold bH at h
  split at h
  ·rename_i he
   injection h with h
   rw [← h,Nat.eq_of_beq_eq_true he]
   exact List.mem_cons_self ..
  ·exact List.mem_cons_of_mem _ (jc h)
theorem EK {θ:Th}(hn:lv (ay (·.2) θ)=true) {a b i:Nat}(ha:bH θ a=some i)(hb:bH θ b=some i):a=b:=by
 have h1:=jc ha
 have h2:=jc hb
 have h3:=jL hn
 rw [er]at h3
 have key:∀(l:Th),(l.map (·.2)).Nodup→(a,i)∈l→(b,i)∈l→a=b:=by
  intro l
  induction l with
  | nil=>intro _ h;cases h
  | cons x r ih=>
   intro hd h1 h2
   rw [List.map_cons,List.nodup_cons]at hd
   rcases List.mem_cons.1 h1 with e1 | h1
   ·rcases List.mem_cons.1 h2 with e2 | h2
    ·rw [← e1]at e2;injection e2 with e2;exact e2.symm
    ·exact absurd (List.mem_map.2 ⟨(b,i),h2,by rw [← e1]⟩) hd.1
   ·rcases List.mem_cons.1 h2 with e2 | h2
    ·exact absurd (List.mem_map.2 ⟨(a,i),h1,by rw [← e2]⟩) hd.1
    ·exact ih hd.2 h1 h2
 exact key θ h3 h1 h2
theorem PK.qS {f:Nat→Option Nat} {p q:PK}(h:p.ren f=some q):f p.id=some q.id:=by
 cases p<;>simp only [PK.ren,Option.map_eq_some_iff]at h<;>obtain⟨i,hi,rfl⟩:=h<;>exact hi
theorem PK.Ax {f g:Nat→Option Nat}(h:∀j i,f j=some i→g j=some i) {p q:PK}(hp:p.ren f=some q):p.ren g=some q:=by
 cases p<;>simp only [PK.ren,Option.map_eq_some_iff]at hp ⊢ <;>obtain⟨i,hi,rfl⟩:=hp<;>exact⟨i,h _ _ hi,rfl⟩
def Rel(r r':Res U):Prop:=r=r'∨∃(t:Nat)(own:Bool)(T T':TypeId)(A:Option Addr)(c:Nat)(l:List (U.el t)),r= .lst t false T A c l∧r'= .lst t own T' A c l
theorem Rel.den {r r':Res U}(h:Rel r r') {f:Nat→Option Nat} {p q:PK}(hp:p.ren f=some q):bm U p (some r)=bm U q (some r'):=by
 rcases h with rfl | ⟨t,own,T,T',A,c,l,rfl,rfl⟩
 ·cases p<;>simp only [PK.ren,Option.map_eq_some_iff]at hp<;>obtain⟨i,hi,rfl⟩:=hp<;>cases r<;>rfl
 ·cases p<;>simp only [PK.ren,Option.map_eq_some_iff]at hp<;>obtain⟨i,hi,rfl⟩:=hp<;>rfl
def Emb(f:Nat→Option Nat)(L G:List (Res U)):Prop:=∀j r,nth L j=some r→∃i r',f j=some i∧nth G i=some r'∧Rel r r'
theorem Emb.dn {f:Nat→Option Nat} {L G:List (Res U)}(h:Emb f L G) {p q:PK}(hp:p.ren f=some q) {v:Value}(hd:den U L p=some v):den U G q=some v:=by
 unfold V.den at hd ⊢
 cases hn:nth L p.id with
 | none=>rw [hn]at hd;cases p<;>simp [bm]at hd
 | some r=>
  rw [hn]at hd
  obtain⟨i,r',h1,h2,h3⟩:=h _ _ hn
  rw [PK.qS hp]at h1
  injection h1 with h1
  subst h1
  rw [h2,← h3.den hp]
  exact hd
theorem cm {f:Nat→Option Nat} {l:List (Option PK)} {j:Nat} {q:PK}(h:nth (ay (nC f) l) j=some (some q)):∃p,nth l j=some (some p)∧p.ren f=some q:=by
 rw [aR]at h
 cases hn:nth l j with
 | none=>rw [hn]at h;cases h
 | some o=>
  rw [hn]at h
  injection h with h
  cases o with
  | none=>cases h
  | some p=>exact⟨p,rfl,h⟩
theorem Emb.kn {f:Nat→Option Nat} {L G:List (Res U)}(h:Emb f L G) {k k':Kn}(hk:k.ren f=some k') {v:Value}(hv:fz L v k):fz G v k':=by
 cases k with
 | pan=>exact hv.elim
 | p p=>
  simp only [Kn.ren,Option.map_eq_some_iff]at hk
  obtain⟨q,hq,rfl⟩:=hk
  exact h.dn hq hv
 | t l=>
  simp only [Kn.ren,Option.some.injEq]at hk
  subst hk
  obtain⟨vs,e,hh⟩:=hv
  refine⟨vs,e,fun j q hj=>?_⟩
  obtain⟨p,hp,hq⟩:=cm hj
  obtain⟨u,hu,hd⟩:=hh j p hp
  exact⟨u,hu,h.dn hq hd⟩
 | ag l=>
  simp only [Kn.ren,Option.some.injEq]at hk
  subst hk
  obtain⟨vs,e,hh⟩:=hv
  refine⟨vs,e,fun j q hj=>?_⟩
  obtain⟨p,hp,hq⟩:=cm hj
  obtain⟨u,hu,hd⟩:=hh j p hp
  exact⟨u,hu,h.dn hq hd⟩
 | f a b=>
  simp only [Kn.ren,Option.some.injEq]at hk
  subst hk
  obtain⟨fn,fs,cs,e,hl,h1,h2⟩:=hv
  refine⟨fn,fs,cs,e,by simpa using hl,fun j q hj=>?_,fun j q hj=>?_⟩
  ·obtain⟨p,hp,hq⟩:=cm hj
   obtain⟨u,hu,hd⟩:=h1 j p hp
   exact⟨u,hu,h.dn hq hd⟩
  ·obtain⟨p,hp,hq⟩:=cm hj
   obtain⟨u,hu,hd⟩:=h2 j p hp
   exact⟨u,hu,h.dn hq hd⟩
theorem Emb.knO {f:Nat→Option Nat} {L G:List (Res U)}(h:Emb f L G) {k:Option Kn} {v:Value}(hv:KnO L v k):KnO G v (xB f k):=by
 cases k with
 | none=>exact trivial
 | some k=>
  show KnO G v (k.ren f)
  cases hk:k.ren f with
  | none=>exact trivial
  | some k'=>exact h.kn hk hv
theorem gy {f:Nat→Option Nat} {key:Key} {k':Kn}:∀ {l:List (Key×Kn)},(key,k')∈ib f l→∃i i' o k,((key= .c i' o∧(Key.c i o,k)∈l)∨(key= .l i' o∧(Key.l i o,k)∈l))∧f i=some i'∧k.ren f=some k'
 | [],h=>by cases h
 | (.s _,_)::r,h=>by
  obtain⟨i,i',o,k,h1,h3⟩:=gy (l:=r) h
  exact⟨i,i',o,k,h1.imp (fun h=>⟨h.1,List.mem_cons_of_mem _ h.2⟩) (fun h=>⟨h.1,List.mem_cons_of_mem _ h.2⟩),h3⟩
 | (.c i o,k)::r,h=>by
  have tail:(key,k')∈ib f r→∃i1 i' o1 k1,((key= .c i' o1∧(Key.c i1 o1,k1)∈(Key.c i o,k)::r)∨(key= .l i' o1∧(Key.l i1 o1,k1)∈(Key.c i o,k)::r))∧f i1=some i'∧k1.ren f=some k':=fun h=>by
   obtain⟨i,i',o,k,h1,h3⟩:=gy (l:=r) h
   exact⟨i,i',o,k,h1.imp (fun h=>⟨h.1,List.mem_cons_of_mem _ h.2⟩) (fun h=>⟨h.1,List.mem_cons_of_mem _ h.2⟩),h3⟩
  simp only [ib]at h
  split at h
  ·rename_i i' k2 hi hk
   rcases List.mem_cons.1 h with e | h
   ·injection e with e1 e2
    subst e1;subst e2
    exact⟨i,i',o,k,.inl ⟨rfl,List.mem_cons_self ..⟩,hi,hk⟩
   ·exact tail h
  ·exact tail h
 | (.l i o,k)::r,h=>by
  have tail:(key,k')∈ib f r→∃i1 i' o1 k1,((key= .c i' o1∧(Key.c i1 o1,k1)∈(Key.l i o,k)::r)∨(key= .l i' o1∧(Key.l i1 o1,k1)∈(Key.l i o,k)::r))∧f i1=some i'∧k1.ren f=some k':=fun h=>by
   obtain⟨i,i',o,k,h1,h3⟩:=gy (l:=r) h
   exact⟨i,i',o,k,h1.imp (fun h=>⟨h.1,List.mem_cons_of_mem _ h.2⟩) (fun h=>⟨h.1,List.mem_cons_of_mem _ h.2⟩),h3⟩
  simp only [ib]at h
  split at h
  ·rename_i i' k2 hi hk
   rcases List.mem_cons.1 h with e | h
   ·injection e with e1 e2
    subst e1;subst e2
    exact⟨i,i',o,k,.inr ⟨rfl,List.mem_cons_self ..⟩,hi,hk⟩
   ·exact tail h
  ·exact tail h
def AvD(θ:Th)(v:Value)(k:Option PK):AV→Prop
 | .v x=>x=v
 | .k p=>∃q,k=some q∧p.ren (bH θ)=some q
theorem AvD.mono {θ θ':Th}(h:Ext θ θ') {v:Value} {k:Option PK} {a:AV}(ha:AvD θ v k a):AvD θ' v k a:=by
 cases a with
 | v x=>exact ha
 | k p=>obtain⟨q,h1,h2⟩:=ha;exact⟨q,h1,PK.Ax h h2⟩
def wR(θ:Th)(vs:List Value)(kc:Nat→Option PK)(i:Nat)(az:List AV):Prop:=az.length=vs.length∧∀j a v,nth az j=some a→nth vs j=some v→AvD θ v (kc (i+j)) a
theorem wR.mono {θ θ':Th}(h:Ext θ θ') {vs:List Value} {kc:Nat→Option PK} {i:Nat} {az:List AV}(ha:wR θ vs kc i az):wR θ' vs kc i az:=⟨ha.1,fun j a v h1 h2=>(ha.2 j a v h1 h2).mono h⟩
theorem xR {T:Type} {c:CP} {J:c.T T} {v:Value} {k:Option PK} {θ:Th} {F:T→Th→Prop}(h:apC c J v k θ F):∃J' θ' a,F J' θ'∧Ext θ θ'∧(∀G:T→AV→Prop,alC c J G→G J' a)∧AvD θ' v k a:=by
 cases c with
 | int kk=>
  cases v<;>simp only [apC]at h<;>skip
  rename_i k' x
  split at h
  ·rename_i he
   obtain rfl:=kx he
   exact⟨_,θ,.v (.int kk x),h,Ext.refl θ,fun G hG=>hG x,rfl⟩
  ·exact h.elim
 | bool=>
  cases v<;>simp only [apC]at h<;>skip
  exact⟨_,θ,_,h,Ext.refl θ,fun G hG=>hG _,rfl⟩
 | str=>
  cases v<;>simp only [apC]at h<;>skip
  exact⟨_,θ,_,h,Ext.refl θ,fun G hG=>hG _,rfl⟩
 | any=>exact⟨_,θ,.v v,h,Ext.refl θ,fun G hG=>hG _,rfl⟩
 | hdr=>
  cases v<;>simp only [apC]at h<;>skip
  exact⟨_,θ,_,h,Ext.refl θ,fun G hG=>hG _ _ _,rfl⟩
 | nsl=>
  simp only [apC]at h
  split at h
  ·exact⟨_,θ,_,h,Ext.refl θ,fun G hG=>hG,rfl⟩
  ·exact h.elim
 | nil=>
  simp only [apC]at h
  split at h
  ·exact⟨_,θ,_,h,Ext.refl θ,fun G hG=>hG,rfl⟩
  ·exact h.elim
 | fn f=>
  simp only [apC]at h
  split at h
  ·split at h
   ·rename_i he
    obtain rfl:=Nat.eq_of_beq_eq_true he
    exact⟨_,θ,_,h,Ext.refl θ,fun G hG=>hG,rfl⟩
   ·exact h.elim
  ·exact h.elim
 | ptr j=>
  simp only [apC]at h
  split at h
  ·rename_i id
   obtain⟨θ',h1,h2,h3⟩:=fc h
   exact⟨_,θ',_,h1,h2,fun G hG=>hG,_,rfl,by simp [PK.ren,h3]⟩
  ·exact h.elim
 | obj j path=>
  simp only [apC]at h
  split at h
  ·rename_i id p
   split at h
   ·rename_i he
    obtain⟨θ',h1,h2,h3⟩:=fc h
    exact⟨_,θ',_,h1,h2,fun G hG=>hG,_,rfl,by simp [PK.ren,h3,Nat.eq_of_beq_eq_true he]⟩
   ·exact h.elim
  ·exact h.elim
 | sl j=>
  simp only [apC]at h
  split at h
  ·rename_i id
   obtain⟨θ',h1,h2,h3⟩:=fc h
   exact⟨_,θ',_,h1,h2,fun G hG=>hG,_,rfl,by simp [PK.ren,h3]⟩
  ·exact h.elim
theorem oa {T:Type}:∀ {l:List CP} {J:wQ l T} {vs:List Value} {kc:Nat→Option PK} {i:Nat} {θ:Th} {F:T→Th→Prop},DG l J vs kc i θ F→∃J' θ' az,F J' θ'∧Ext θ θ'∧(∀G:T→List AV→Prop,v5 l J G→G J' az)∧wR θ' vs kc i az
 | [],J,[],kc,i,θ,F,h=>⟨J,θ,[],h,Ext.refl θ,fun G hG=>hG,rfl,fun j a v ha=>by simp [nth]at ha⟩
 | [],_,_::_,_,_,_,_,h=>h.elim
 | c::l,J,[],_,_,_,_,h=>h.elim
 | c::l,J,v::vs,kc,i,θ,F,h=>by
  obtain⟨J1,θ1,a,h1,e1,g1,d1⟩:=xR h
  obtain⟨J2,θ2,az,h2,e2,g2,d2⟩:=oa h1
  refine⟨J2,θ2,a::az,h2,e1.trans e2,fun G hG=>g2 (fun J'' vs=>G J'' (a::vs)) (g1 (fun J' a'=>v5 l J' fun J'' vs=>G J'' (a'::vs)) hG),?_,fun j b u hb hu=>?_⟩
  ·simp [d2.1]
  ·cases j with
   | zero=>
    simp only [nth,Option.some.injEq]at hb hu
    subst hb;subst hu
    exact d1.mono e2
   | succ j=>
    have:=d2.2 j b u hb hu
    rwa [show i+1+j=i+(j+1)by omega]at this
def AaD(θ:Th)(v:Value)(k:Option Kn):AA→Prop
 | .one a=>AvD θ v (fW k) a
 | .agg az=>∃cs,v= .agg cs∧wR θ cs.toList (FE k) 0 az
theorem AaD.mono {θ θ':Th}(h:Ext θ θ') {v:Value} {k:Option Kn} {a:AA}(ha:AaD θ v k a):AaD θ' v k a:=by
 cases a with
 | one a=>exact AvD.mono h ha
 | agg az=>obtain⟨cs,e,hh⟩:=ha;exact⟨cs,e,hh.mono h⟩
theorem ua {T:Type}:∀ {l:List AP} {J:wS U l T} {vs:List Value} {ks:List (Option Kn)} {θ:Th} {F:T→Th→Prop},ub l J vs ks θ F→∃J' θ' az,F J' θ'∧Ext θ θ'∧(∀G:T→List AA→Prop,rI l J G→G J' az)∧az.length=vs.length∧∀j a v,nth az j=some a→nth vs j=some v→∃k,nth ks j=some k∧AaD θ' v k a
 | [],J,[],ks,θ,F,h=>⟨J,θ,[],h,Ext.refl θ,fun G hG=>hG,rfl,fun j a v ha=>by simp [nth]at ha⟩
 | [],_,_::_,_,_,_,h=>by simp [ub]at h
 | _::_,_,[],_,_,_,h=>by simp [ub]at h
 | _::_,_,_::_,[],_,_,h=>by simp [ub]at h
 | a::l,J,v::vs,k::ks,θ,F,h=>by
  simp only [ub]at h
  have one:∃J' θ' x,ub l J' vs ks θ' F∧Ext θ θ'∧(∀G:wS U l T→AA→Prop,alA a J G→G J' x)∧AaD θ' v k x:=by
   cases a with
   | one c=>
    obtain⟨J1,θ1,x,h1,e1,g1,d1⟩:=xR (show apC c J v (fW k) θ _ from h)
    exact⟨J1,θ1,.one x,h1,e1,fun G hG=>g1 (fun J' y=>G J' (.one y)) hG,d1⟩
   | agg cs=>
    simp only [apA]at h
    split at h
    ·rename_i vs'
     obtain⟨J1,θ1,x,h1,e1,g1,d1⟩:=oa h
     exact⟨J1,θ1,.agg x,h1,e1,fun G hG=>g1 (fun J' y=>G J' (.agg y)) hG,vs',rfl,d1⟩
    ·exact h.elim
   | enc tt=>
    simp only [apA]at h
    split at h
    ·rename_i cs
     split at h
     ·rename_i x hx
      have e:=U.ga hx
      refine⟨_,θ,.agg (ay .v ((U.en tt).enc x)),h,Ext.refl θ,fun G hG=>hG x,cs,rfl,?_,fun j a v ha hv=>?_⟩
      ·rw [e,er,List.length_map]
      ·rw [e,aR,hv]at ha
       injection ha with ha
       subst ha;rfl
     ·exact h.elim
    ·exact h.elim
  obtain⟨J1,θ1,x,h1,e1,g1,d1⟩:=one
  obtain⟨J2,θ2,az,h2,e2,g2,l2,d2⟩:=ua h1
  refine⟨J2,θ2,x::az,h2,e1.trans e2,fun G hG=>g2 (fun J'' vs=>G J'' (x::vs)) (g1 (fun J' a'=>rI l J' fun J'' vs=>G J'' (a'::vs)) hG),by simp [l2],fun j b u hb hu=>?_⟩
  cases j with
  | zero=>
   simp only [nth,Option.some.injEq]at hb hu
   subst hb;subst hu
   exact⟨k,rfl,d1.mono e2⟩
  | succ j=>exact d2 j b u hb hu
def LkD(θ:Th)(kl:Nat→Option PK)(lk:List (Nat×Nat×Nat)):Prop:=∀p j q,(p,j,q)∈lk→∃i,kl p=some (.obj i q 0)∧bH θ j=some i
def PrD(θ:Th)(kc kl:Nat→Option PK):PR U→Res U→Prop
 | .ob t r s lk,x=>x= .ob t r s∧LkD θ kl lk
 | .blk g az T,x=>∃cs,x= .blk g cs T∧wR θ cs kc 0 az
 | .lst t own T A c l,x=>∃own' T',x= .lst t own' T' A c l∧(own=true→own'=true∧T'=T)
theorem PrD.mono {θ θ':Th}(h:Ext θ θ') {kc kl:Nat→Option PK} {p:PR U} {x:Res U}(hp:PrD θ kc kl p x):PrD θ' kc kl p x:=by
 cases p with
 | ob t r s lk=>exact⟨hp.1,fun p j q hm=>by obtain⟨i,h1,h2⟩:=hp.2 p j q hm;exact⟨i,h1,h _ _ h2⟩⟩
 | blk g az T=>obtain⟨cs,e,hh⟩:=hp;exact⟨cs,e,hh.mono h⟩
 | lst t own T A c l=>exact hp
def EX:RP→Bool
 | .lst _ own _=>!own
 | _=>false
def E0:PR U→Bool
 | .lst _ own _ _ _ _=>!own
 | _=>false
theorem tZ:∀ {l:List (Nat×Nat×Nat)} {kl:Nat→Option PK} {θ:Th} {F:Th→Prop},DF l kl θ F→∃θ',F θ'∧Ext θ θ'∧LkD θ' kl l
 | [],kl,θ,F,h=>⟨θ,h,Ext.refl θ,fun _ _ _ hm=>by cases hm⟩
 | (p,j,q)::l,kl,θ,F,h=>by
  simp only [DF]at h
  split at h
  ·rename_i i q' hk
   split at h
   ·rename_i hq
    have hq:=Nat.eq_of_beq_eq_true hq
    subst hq
    obtain⟨θ1,h1,e1,g1⟩:=fc h
    obtain⟨θ2,h2,e2,g2⟩:=tZ h1
    refine⟨θ2,h2,e1.trans e2,fun p' j' q'' hm=>?_⟩
    rcases List.mem_cons.1 hm with e | hm
    ·injection e with ea eb
     injection eb with eb ec
     subst ea;subst eb;subst ec
     exact⟨i,hk,e2 _ _ g1⟩
    ·exact g2 _ _ _ hm
   ·exact h.elim
  ·exact h.elim
theorem DE {T:Type} {p:RP} {J:p.T U T} {r:Option (Res U)} {kc kl:Nat→Option PK} {θ:Th} {F:T→Th→Prop}(h:apR p J r kc kl θ F):∃J' θ' x y,r=some x∧F J' θ'∧Ext θ θ'∧(∀G:T→PR U→Prop,alR p J G→G J' y)∧PrD θ' kc kl y x∧E0 y=EX p:=by
 cases p with
 | ob t lk=>
  cases r with
  | none=>exact h.elim
  | some x=>
   cases x<;>simp only [apR]at h<;>skip
   rename_i t' r s
   split at h
   ·rename_i ht
    subst ht
    obtain⟨θ1,h1,e1,g1⟩:=tZ h
    exact⟨_,θ1,_,.ob t' r s lk,rfl,h1,e1,fun G hG=>hG r s,⟨rfl,g1⟩,rfl⟩
   ·exact h.elim
 | blk l T'=>
  cases r with
  | none=>exact h.elim
  | some x=>
   cases x<;>simp only [apR]at h<;>skip
   rename_i g cs T''
   split at h
   ·rename_i ht
    obtain⟨J1,θ1,az,h1,e1,g1,d1⟩:=oa h
    exact⟨J1,θ1,_,.blk g az T',rfl,h1,e1,fun G hG=>g1 (fun J' cs=>G J' (.blk g cs T')) (hG g),⟨cs,by rw [Nat.eq_of_beq_eq_true ht],d1⟩,rfl⟩
   ·exact h.elim
 | lst t own T'=>
  cases r with
  | none=>exact h.elim
  | some x=>
   cases x<;>simp only [apR]at h<;>skip
   rename_i t' own' T'' A c l
   split at h
   ·rename_i hb
    split at h
    ·rename_i ht
     subst ht
     refine⟨_,θ,_,.lst t' own T' A c l,rfl,h,Ext.refl θ,fun G hG=>hG A c l,⟨own',T'',rfl,fun ho=>?_⟩,rfl⟩
     subst ho
     simp only [Bool.not_true,Bool.false_or,Bool.and_eq_true]at hb
     exact⟨hb.1,Nat.eq_of_beq_eq_true hb.2⟩
    ·exact h.elim
   ·exact h.elim
theorem tY {T:Type} {rs:List (Res U)} {kn:List (Key×Kn)}:∀ {l:List RP} {J:zz U l T} {j0:Nat} {θ:Th} {F:T→Th→Prop},DD rs kn l J j0 θ F→∃J' θ' ps,F J' θ'∧Ext θ θ'∧(∀G:T→List (PR U)→Prop,rH l J G→G J' ps)∧ps.length=l.length∧
 ∀j p,nth ps j=some p→∃id x,bH θ' (j0+j)=some id∧nth rs id=some x∧PrD θ' (fun o=>fW (bI (.c id o) kn)) (fun q=>fW (bI (.l id q) kn)) p x∧∃q,nth l j=some q∧E0 p=EX q
 | [],J,j0,θ,F,h=>⟨J,θ,[],h,Ext.refl θ,fun G hG=>hG,rfl,fun j p hp=>by simp [nth]at hp⟩
 | p::l,J,j0,θ,F,h=>by
  simp only [DD]at h
  split at h
  ·rename_i id SX
   obtain⟨J1,θ1,x,y,e0,h1,e1,g1,d1,q1⟩:=DE h
   obtain⟨J2,θ2,ps,h2,e2,g2,l2,d2⟩:=tY h1
   refine⟨J2,θ2,y::ps,h2,e1.trans e2,fun G hG=>g2 (fun J'' xs=>G J'' (y::xs)) (g1 (fun J' y'=>rH l J' fun J'' xs=>G J'' (y'::xs)) hG),by simp [l2],fun j q hq=>?_⟩
   cases j with
   | zero=>
    simp only [nth,Option.some.injEq]at hq
    subst hq
    exact⟨id,x,e2 _ _ (e1 _ _ SX),e0,d1.mono e2,p,rfl,q1⟩
   | succ j=>
    obtain⟨id',x',h3,h4,h5,h6⟩:=d2 j q hq
    exact⟨id',x',by rw [show j0+(j+1)=j0+1+j by omega];exact h3,h4,h5,h6⟩
  ·exact h.elim
theorem qm {rs:List (Res U)}:∀ {l:List (Nat×Nat)} {θ:Th} {F:Th→Prop},xQ rs l θ F→∃θ',F θ'∧Ext θ θ'
 | [],θ,F,h=>⟨θ,h,Ext.refl θ⟩
 | (j,t)::l,θ,F,h=>by
  simp only [xQ]at h
  split at h
  ·obtain⟨θ1,h1,e1,_⟩:=fc h
   obtain⟨θ2,h2,e2⟩:=qm h1
   exact⟨θ2,h2,e1.trans e2⟩
  ·exact h.elim
structure cz(w0:World)(k0:Nat)(X0:Nat→Nat→Prop)(may:List Nat)(fr:Fr)(st:St U)(X:Nat→Nat→Prop)(w:World)(st':St U)(X':Nat→Nat→Prop)(w':World)(M:List Nat):Prop where
 inv:Inv w0 k0 X0 may st'.rs X' w'
 kn:ar st'.rs fr st'.kn
 md:st'.md=M++st.md
 mlt:∀i,i∈M→i<st.rs.length
 can:∀i,i∈M→i∈may∨k0≤i
 len:st.rs.length≤st'.rs.length
 same:∀i,i<st.rs.length→i ∉ M→nth st'.rs i=nth st.rs i∧X' i=X i
 grow:∀i,i∈M→∀k,X' i k→X i k∨w.heap.size≤k
 new:∀i,st.rs.length≤i→i<st'.rs.length→∀k,X' i k→w.heap.size≤k
 ch:Ch (fun k=>∃j,j∈M∧X j k) w w'
 root:∀i a,nth st.rs i=some a→∃b,nth st'.rs i=some b∧bQ a b
theorem ez {i:Nat}(h:jR may k0 i=true):i∈may∨k0≤i:=by
 unfold jR at h
 split at h
 ·rename_i hb;exact .inr (Nat.le_of_ble_eq_true hb)
 ·exact .inl (cV.1 h)
theorem dA:∀ {M:List Nat} {us:List (Upd U)} {rs rs':List (Res U)},aV rs M us=some rs'→rs'.length=rs.length∧(∀i,i ∉ M→nth rs' i=nth rs i)∧∀i,i∈M→i<rs.length∧∀a,nth rs i=some a→∃b,nth rs' i=some b∧bQ a b
 | [],[],rs,rs',h=>by
  simp only [aV,Option.some.injEq]at h
  subst h
  exact⟨rfl,fun _ _=>rfl,fun i hi=>by cases hi⟩
 | [],_::_,_,_,h=>by simp [aV]at h
 | _::_,[],_,_,h=>by simp [aV]at h
 | i::M,u::us,rs,rs',h=>by
  simp only [aV]at h
  split at h
  ·rename_i r hr
   split at h
   ·rename_i r' Hk
    obtain⟨h1,h2,h3⟩:=dA h
    have hi:=aH hr
    simp only [nq]at h1 h3
    have e:∀j,nth (bh rs i r') j=if j=i then some r' else nth rs j:=fun j=>by
     rw [aJ]
     by_cases hj:j=i
     ·rw [if_pos ⟨hj,hi⟩,if_pos hj]
     ·rw [if_neg (fun hh=>hj hh.1),if_neg hj]
    refine⟨h1,fun j hj=>?_,fun j hj=>?_⟩
    ·rw [List.mem_cons,not_or]at hj
     rw [h2 j hj.2,e,if_neg hj.1]
    ·refine⟨?_,fun a ha=>?_⟩
     ·rcases List.mem_cons.1 hj with rfl | hj
      ·exact hi
      ·exact(h3 j hj).1
     ·by_cases HT:j=i
      ·subst HT
       rw [hr]at ha
       injection ha with ha
       subst ha
       have Mm:=tW Hk
       by_cases hm:j∈M
       ·obtain⟨b,hb,hrb⟩:=(h3 j hm).2 r' (by rw [e,if_pos rfl])
        exact⟨b,hb,Mm.trans hrb⟩
       ·exact⟨r',by rw [h2 j hm,e,if_pos rfl],Mm⟩
      ·have hm:j∈M:=(List.mem_cons.1 hj).resolve_left HT
       exact(h3 j hm).2 a (by rw [e,if_neg HT];exact ha)
   ·cases h
  ·cases h
theorem me {f:Nat→Option Nat}(JH:∀a b i,f a=some i→f b=some i→a=b):∀ {ms M:List Nat} {us:List (Upd U)} {L L' G G':List (Res U)},fk f ms=some M→aV L ms us=some L'→aV G M us=some G'→Emb f L G→(∀j,j∈ms→∀r,nth L j=some r→∃i,f j=some i∧nth G i=some r)→
 Emb f L' G'∧∀j,j∈ms→∀r,nth L' j=some r→∃i,f j=some i∧nth G' i=some r
 | [],M,us,L,L',G,G',hM,hL,hG,hE,hR=>by
  simp only [fk,Option.some.injEq]at hM
  subst hM
  cases us with
  | cons u us=>simp [aV]at hL
  | nil=>
   simp only [aV,Option.some.injEq]at hL hG
   subst hL;subst hG
   exact⟨hE,fun j hj=>by cases hj⟩
 | m::ms,M,us,L,L',G,G',hM,hL,hG,hE,hR=>by
  simp only [fk]at hM
  split at hM
  ·rename_i i M' hi hM'
   injection hM with hM
   subst hM
   cases us with
   | nil=>simp [aV]at hL
   | cons u us=>
    simp only [aV]at hL hG
    split at hL
    ·rename_i r hr
     split at hL
     ·rename_i r1 MP
      obtain⟨i',h1,h2⟩:=hR m (List.mem_cons_self ..) r hr
      rw [hi]at h1
      injection h1 with h1
      subst h1
      rw [h2]at hG
      simp only [MP]at hG
      have RK:=aH hr
      have RN:=aH h2
      have key:∀j x,nth (bh L m r1) j=some x→(j=m∧x=r1)∨(j≠m∧nth L j=some x):=by
       intro j x hx
       rw [aJ]at hx
       by_cases hj:j=m
       ·rw [if_pos ⟨hj,RK⟩]at hx
        injection hx with hx
        exact .inl ⟨hj,hx.symm⟩
       ·rw [if_neg (fun hh=>hj hh.1)]at hx
        exact .inr ⟨hj,hx⟩
      have keyG:∀j,nth (bh G i r1) j=if j=i then some r1 else nth G j:=fun j=>by
       rw [aJ]
       by_cases hj:j=i
       ·rw [if_pos ⟨hj,RN⟩,if_pos hj]
       ·rw [if_neg (fun hh=>hj hh.1),if_neg hj]
      have r1':=me JH hM' hL hG (fun j x hx=>by
       rcases key j x hx with⟨rfl,rfl⟩ | ⟨hj,hx⟩
       ·exact⟨i,_,hi,by rw [keyG,if_pos rfl],.inl rfl⟩
       ·obtain⟨a,b,h3,h4,h5⟩:=hE j x hx
        exact⟨a,b,h3,by rw [keyG,if_neg (by rintro rfl;exact hj (JH _ _ _ h3 hi))];exact h4,h5⟩) (fun j hj x hx=>by
       rcases key j x hx with⟨rfl,rfl⟩ | ⟨MU,hx⟩
       ·exact⟨i,hi,by rw [keyG,if_pos rfl]⟩
       ·obtain⟨a,h3,h4⟩:=hR j (List.mem_cons_of_mem _ hj) x hx
        exact⟨a,h3,by rw [keyG,if_neg (by rintro rfl;exact MU (JH _ _ _ h3 hi))];exact h4⟩)
      refine⟨r1'.1,fun j hj x hx=>?_⟩
      by_cases Nl:j∈ms
      ·exact r1'.2 j Nl x hx
      ·have SU:j=m:=(List.mem_cons.1 hj).resolve_right Nl
       subst SU
       have a1:=(dA hL).2.1 j Nl
       rw [hx,aJ,if_pos ⟨rfl,RK⟩]at a1
       injection a1 with a1
       subst a1
       have hiM:i ∉ M':=by
        intro hh
        have:∀ {l M':List Nat},fk f l=some M'→i∈M'→∃a∈l,f a=some i:=by
         intro l
         induction l with
         | nil=>intro M' h hh;simp only [fk,Option.some.injEq]at h;subst h;cases hh
         | cons a l ih=>
          intro M' h hh
          simp only [fk]at h
          split at h
          ·rename_i b bs hb Rf
           injection h with h
           subst h
           rcases List.mem_cons.1 hh with rfl | hh
           ·exact⟨a,List.mem_cons_self ..,hb⟩
           ·obtain⟨c,hc,S4⟩:=ih Rf hh
            exact⟨c,List.mem_cons_of_mem _ hc,S4⟩
          ·cases h
        obtain⟨a,ha,Q9⟩:=this hM' hh
        exact Nl (JH _ _ _ Q9 hi▸ha)
       refine⟨i,hi,?_⟩
       rw [(dA hG).2.1 i hiM,keyG,if_pos rfl]
     ·cases hL
    ·cases hL
  ·cases hM
theorem tf {α β:Type} {f:α→Option β}:∀ {l:List α} {r:List β},fk f l=some r→∀b,b∈r→∃a,a∈l∧f a=some b
 | [],r,h,b,hb=>by
  simp only [fk,Option.some.injEq]at h
  subst h
  cases hb
 | a::l,r,h,b,hb=>by
  simp only [fk]at h
  split at h
  ·rename_i c cs hc H2
   injection h with h
   subst h
   rcases List.mem_cons.1 hb with rfl | hb
   ·exact⟨a,List.mem_cons_self ..,hc⟩
   ·obtain⟨x,hx,S2⟩:=tf H2 b hb
    exact⟨x,List.mem_cons_of_mem _ hx,S2⟩
  ·cases h
theorem ji {α β:Type} {f:α→Option β}:∀ {l:List α} {r:List β},fk f l=some r→∀a,a∈l→∃b,b∈r∧f a=some b
 | [],r,h,a,ha=>by cases ha
 | a::l,r,h,x,hx=>by
  simp only [fk]at h
  split at h
  ·rename_i c cs hc H2
   injection h with h
   subst h
   rcases List.mem_cons.1 hx with rfl | hx
   ·exact⟨c,List.mem_cons_self ..,hc⟩
   ·obtain⟨b,hb,hfb⟩:=ji H2 x hx
    exact⟨b,List.mem_cons_of_mem _ hb,hfb⟩
  ·cases h
theorem gB {ps:List (PR U)} {j:Nat}:nth (cv ps) j=(nth ps j).map (PR.fin (ay PR.gn ps)):=by
 unfold cv
 exact aR _ _ _
@[simp] theorem FR(ps:List (PR U)):(cv ps).length=ps.length:=by unfold cv;simp
theorem mN(ps:List (PR U))(p:PK):den U (cv ps) p=den U (ay PR.gn ps) p:=by
 unfold den
 rw [gB,aR]
 cases nth ps p.id with
 | none=>rfl
 | some y=>cases y<;>cases p<;>rfl
theorem xz {i:Nat} {key:Key} {k:Kn}:∀ {l:List (Nat×Nat×Nat)},(key,k)∈lkK i l→∃p j q,(p,j,q)∈l∧key= .l i p∧k= .p (.obj j q 0)
 | (p,j,q)::l,h=>by
  rcases List.mem_cons.1 h with e | h
  ·injection e with e1 e2
   exact⟨p,j,q,List.mem_cons_self ..,e1,e2⟩
  ·obtain⟨p',j',q',h1,h2⟩:=xz (l:=l) h
   exact⟨p',j',q',List.mem_cons_of_mem _ h1,h2⟩
theorem gx {key:Key} {k:Kn}:∀ {l:List (PR U)} {i:Nat},(key,k)∈rj i l→∃j t r s lk p j' q,nth l j=some (.ob t r s lk)∧(p,j',q)∈lk∧key= .l (i+j) p∧k= .p (.obj j' q 0)
 | [],_,h=>by cases h
 | .ob t r s lk::l,i,h=>by
  rcases List.mem_append.1 h with h | h
  ·obtain⟨p,j',q,h1,h2,h3⟩:=xz h
   exact⟨0,t,r,s,lk,p,j',q,rfl,h1,h2,h3⟩
  ·obtain⟨j,t,r,s,lk,p,j',q,h1,h2,h3,h4⟩:=gx (l:=l) h
   exact⟨j+1,t,r,s,lk,p,j',q,h1,h2,by rw [h3];congr 1;omega,h4⟩
 | .blk _ _ _::l,i,h=>by
  obtain⟨j,t,r,s,lk,p,j',q,h1,h2,h3,h4⟩:=gx (l:=l) h
  exact⟨j+1,t,r,s,lk,p,j',q,h1,h2,by rw [h3];congr 1;omega,h4⟩
 | .lst _ _ _ _ _ _::l,i,h=>by
  obtain⟨j,t,r,s,lk,p,j',q,h1,h2,h3,h4⟩:=gx (l:=l) h
  exact⟨j+1,t,r,s,lk,p,j',q,h1,h2,by rw [h3];congr 1;omega,h4⟩
theorem qe(f:Nat→Option Nat)(k:Option Kn)(v:Value):iI (xB f k) v=iI k v:=by
 cases k with
 | none=>rfl
 | some k=>
  cases k with
  | p p=>show iI ((p.ren f).map .p) v=_;cases p.ren f<;>rfl
  | _=>rfl
theorem dI {rs:List (Res U)} {v:Value} {k:Option Kn}(h:KnO rs v k):Ending.returned v=iI k v:=by
 cases k with
 | none=>rfl
 | some k=>cases k<;>first | rfl | exact h.elim
theorem qj {f:Nat} {args:List Value} {ks:List (Option Kn)} {st:St U} {K:dC U} {w0:World} {X0 X:Nat→Nat→Prop} {w:World} {fr:Fr}(H8:∀f c,tbl.c f=some c→LV U P f c)(hI:Inv w0 k0 X0 may st.rs X w)(hk:ar st.rs fr st.kn)
 (QY:∀j v k,nth args j=some v→nth ks j=some k→KnO st.rs v k)(h:call2 U tbl may k0 f args ks st K):
 Calls P f ⟨args⟩ w fun e w'=>∃v k st' X' M,e=iI k v∧K v k st'∧(k=some .pan∨KnO st'.rs v k)∧cz w0 k0 X0 may fr st X w st' X' w' M:=by
 unfold call2 at h
 split at h
 ·exact h.elim
 rename_i c hc
 have hlv:=H8 f c hc
 obtain⟨B1,θ1,az,h,e1,g1,la,da⟩:=ua h
 obtain⟨θ2,h,e2⟩:=qm h
 obtain⟨B2,θ,ps,h,e3,g3,lp,dp⟩:=tY h
 split at h
 case h_2=>exact h.elim
 rename_i M hb hM
 simp only [Bool.and_eq_true]at hb
 obtain⟨IW,S6,IA⟩:=hb
 split at h
 case h_2=>exact h.elim
 rename_i HO
 have JH:∀a b i,bH θ a=some i→bH θ b=some i→a=b:=fun a b i=>EK IW
 have Ho:∀j i,bH θ j=some i→j<ps.length:=fun j i hj=>by
  have:=bD.1 S6 _ (jc hj)
  rw [lp]
  simpa [Nat.blt_eq]using this
 have Ji:∀ {p q v},p.ren (bH θ)=some q→den U st.rs q=some v→den U (ay PR.gn ps) p=some v:=by
  intro p q v hp hd
  obtain⟨y,hy⟩:=bA (Ho _ _ (PK.qS hp))
  obtain⟨id,x,h1,h2,h3,_⟩:=dp _ y hy
  rw [Nat.zero_add,PK.qS hp]at h1
  injection h1 with h1
  subst h1
  unfold den at hd ⊢
  rw [h2]at hd
  rw [aR,hy,← hd]
  simp only [Option.map_some]
  cases y with
  | ob t r s lk=>
   cases h3.1
   cases p<;>simp only [PK.ren,Option.map_eq_some_iff]at hp<;>obtain⟨i,hi,rfl⟩:=hp<;>rfl
  | blk g as' T=>
   obtain⟨cs,rfl,_⟩:=h3
   cases p<;>simp only [PK.ren,Option.map_eq_some_iff]at hp<;>obtain⟨i,hi,rfl⟩:=hp<;>rfl
  | lst t own T A c' l=>
   obtain⟨own',T',rfl,_⟩:=h3
   cases p<;>simp only [PK.ren,Option.map_eq_some_iff]at hp<;>obtain⟨i,hi,rfl⟩:=hp<;>rfl
 have hav:∀ {v:Value} {k:Option PK} {a:AV},AvD θ v k a→(∀p,k=some p→den U st.rs p=some v)→gD (ay PR.gn ps) a=v:=by
  intro v k a ha Nj
  cases a with
  | v x=>exact ha
  | k p=>
   obtain⟨q,hq,hr⟩:=ha
   show(den U _ p).getD undef=v
   rw [Ji hr (Nj q hq)];rfl
 have Rh:∀ {vs:List Value} {kc:Nat→Option PK} {az:List AV},wR θ vs kc 0 az→(∀j v p,nth vs j=some v→kc j=some p→den U st.rs p=some v)→ay (gD (ay PR.gn ps)) az=vs:=by
  intro vs kc az hd Nj
  apply List.ext_getElem?
  intro j
  rw [← aB,← aB,aR]
  cases ha:nth az j with
  | none=>
   have:vs.length≤j:=by
    rw [← hd.1]
    apply Nat.le_of_not_lt
    intro hh
    obtain⟨x,hx⟩:=bA hh
    rw [hx]at ha;cases ha
   rw [nG this];rfl
  | some a=>
   obtain⟨v,hv⟩:=bA (l:=vs) (i:=j) (by rw [← hd.1];exact aH ha)
   rw [hv]
   have hd':=hd.2 j a v ha hv
   rw [Nat.zero_add]at hd'
   exact congrArg some (hav hd' (fun p hp=>Nj j v p hv hp))
 have I6:ay (oe (ay PR.gn ps)) az=args:=by
  apply List.ext_getElem?
  intro j
  rw [← aB,← aB,aR]
  cases ha:nth az j with
  | none=>
   have:args.length≤j:=by
    rw [← la]
    apply Nat.le_of_not_lt
    intro hh
    obtain⟨x,hx⟩:=bA hh
    rw [hx]at ha;cases ha
   rw [nG this];rfl
  | some a=>
   obtain⟨v,hv⟩:=bA (l:=args) (i:=j) (by rw [← la];exact aH ha)
   rw [hv]
   obtain⟨k,HI,hd⟩:=da j a v ha hv
   have hd:=hd.mono (e2.trans e3)
   have Ik:=QY j v k hv HI
   cases a with
   | one a=>
    refine congrArg some (hav hd fun p hp=>?_)
    unfold fW at hp
    split at hp
    ·injection hp with hp;subst hp;exact Ik
    ·cases hp
   | agg as'=>
    obtain⟨cs,rfl,hd2⟩:=hd
    have h9:=Rh hd2 (fun j v p hv hp=>by
     unfold FE at hp
     split at hp
     ·rename_i l _
      obtain⟨cs',e,hh⟩:=Ik
      injection e with e
      subst e
      split at hp
      ·rename_i o ho
       subst hp
       obtain⟨u,hu,hd⟩:=hh _ _ ho
       rw [aB]at hv
       have:some v=some u:=by rw [← hv,← hu];simp
       injection this with this
       rw [this];exact hd
      ·cases hp
     ·cases hp)
    show some (Value.agg ⟨ay _ as'⟩)=_
    rw [h9]
 have JY:Emb (bH θ) (cv ps) st.rs:=by
  intro j r hr
  rw [gB]at hr
  cases hy:nth ps j with
  | none=>rw [hy]at hr;cases hr
  | some y=>
   rw [hy]at hr
   injection hr with hr
   obtain⟨id,x,h1,h2,h3,_⟩:=dp _ y hy
   rw [Nat.zero_add]at h1
   refine⟨id,x,h1,h2,?_⟩
   cases y with
   | ob t r' s lk=>exact .inl (by rw [← hr,h3.1];rfl)
   | blk g as' T=>
    obtain⟨cs,rfl,hd⟩:=h3
    left
    rw [← hr]
    show Res.blk g (ay _ as') T=_
    rw [Rh hd fun o v p hv hp=>?_]
    unfold fW at hp
    split at hp
    ·rename_i q hq
     injection hp with hp
     subst hp
     obtain⟨g',cs',T',u,e4,e5,e6⟩:=hk.get hq
     rw [h2]at e4
     injection e4 with e4
     injection e4 with _ e4 _
     subst e4
     rw [hv]at e5
     injection e5 with e5
     subst e5
     exact e6
    ·cases hp
   | lst t own T A c' l=>
    obtain⟨own',T',rfl,ho⟩:=h3
    cases own with
    | false=>exact .inr ⟨t,own',T,T',A,c',l,hr.symm,rfl⟩
    | true=>
     obtain⟨ho1,Jb⟩:=ho rfl
     left
     rw [← hr,ho1,Jb];rfl
 have SL:∀j,j∈c.aS→∀r,nth (cv ps) j=some r→∃i,bH θ j=some i∧nth st.rs i=some r:=by
  intro j hj r hr
  obtain⟨i,r',h1,h2,h3⟩:=JY j r hr
  refine⟨i,h1,?_⟩
  rcases h3 with rfl | ⟨t,own,T,T',A,c',l,rfl,rfl⟩
  ·exact h2
  ·exfalso
   have hm:=bD.1 IA j hj
   rw [gB]at hr
   cases hy:nth ps j with
   | none=>rw [hy]at hr;cases hr
   | some y=>
    rw [hy]at hr
    injection hr with hr
    obtain⟨_,_,_,_,_,q,hq,SC⟩:=dp j y hy
    rw [hq]at hm
    have Su:E0 y=true:=by
     cases y<;>simp only [PR.fin,reduceCtorEq]at hr
     injection hr with e1 e2
     subst e2;rfl
    rw [Su]at SC
    cases q<;>simp [EX]at SC
    subst SC
    simp at hm
 have K9:∀j i,bH θ j=some i→X ((bH θ j).getD 0)=X i:=fun j i hj=>by simp [hj]
 have hsat:Sat (cv ps) (fun j=>X ((bH θ j).getD 0)) w:=by
  refine⟨fun j r hr=>?_,fun i j hi hj HN k II=>?_⟩
  ·obtain⟨i,r',h1,h2,h3⟩:=JY j r hr
   rw [K9 j i h1]
   have:=hI.sat.res i r' h2
   rcases h3 with rfl | ⟨t,own,T,T',A,c',l,rfl,rfl⟩
   ·exact this
   ·exact this.rd
  ·obtain⟨x,hx⟩:=bA hi
   obtain⟨y,hy⟩:=bA hj
   obtain⟨a,_,h1,h2,_⟩:=JY i x hx
   obtain⟨b,_,h3,h4,_⟩:=JY j y hy
   rw [K9 i a h1]at II
   rw [K9 j b h3]
   exact hI.sat.dis a b (aH h2) (aH h4) (fun e=>HN (JH i j a h1 (e▸h3))) k II
 have Ow:=g3 _ (g1 _ hlv)
 have RL:ar (cv ps) fr0 (rj 0 ps):=by
  intro key k hm
  obtain⟨j,t,r,s,lk,p,j',q,e1,e2,rfl,rfl⟩:=gx hm
  rw [Nat.zero_add]
  obtain⟨id,x,h1,h2,h3,_⟩:=dp _ _ e1
  rw [Nat.zero_add]at h1
  obtain⟨h3,h4⟩:=h3
  obtain⟨i,h5,h6⟩:=h4 _ _ _ e2
  refine⟨t,r,s,by rw [gB,e1];rfl,?_⟩
  dsimp only at h5
  unfold fW at h5
  split at h5
  ·rename_i k' Jq
   injection h5 with h5
   subst h5
   obtain⟨t',r',s',g1,g2⟩:=hk.get Jq
   rw [h2,h3]at g1
   injection g1 with g1
   cases g1
   show den U (cv ps) (.obj j' q 0)=_
   rw [mN]
   exact Ji (p:= .obj j' q 0) (q:= .obj i q 0) (by simp [PK.ren,h6]) g2
  ·cases h5
 have Js:=Ow _ h _ w hsat RL
 rw [I6]at Js
 refine Js.mono fun e w' hp=>?_
 obtain⟨out,rsl,Xl,rfl,hQ,H9,Iz⟩:=hp
 split at hQ
 case h_2=>exact hQ.elim
 rename_i rs' LU
 obtain⟨S5,QS⟩:=me JH hM H9 LU JY SL
 obtain⟨u1,u2,u3⟩:=dA LU
 obtain⟨v1,v2,v3⟩:=dA H9
 have MY:∀i,i∈M→i<st.rs.length:=fun i hi=>(u3 i hi).1
 have hkl:c.res.length=ps.length:=lp.symm
 have Mo:rsl.length=ps.length:=by rw [v1];simp
 have JI:Emb (wV θ c.res.length st.rs.length) (rsl++out.news) (rs'++out.news):=by
  intro j r hr
  rw [aO]at hr
  unfold wV
  by_cases hj:j<rsl.length
  ·rw [if_pos hj]at hr
   obtain⟨i,r',h1,h2,h3⟩:=S5 j r hr
   have hb:Nat.blt j c.res.length=true:=by rw [Nat.blt_eq];omega
   rw [hb]
   exact⟨i,r',h1,by rw [aO,if_pos (aH h2)];exact h2,h3⟩
  ·rw [if_neg hj]at hr
   have hb:Nat.blt j c.res.length=false:=by
    cases hb:Nat.blt j c.res.length
    ·rfl
    ·rw [Nat.blt_eq]at hb;omega
   rw [hb]
   refine⟨_,r,rfl,?_,.inl rfl⟩
   rw [aO,if_neg (by omega),u1]
   rw [show st.rs.length+(j - c.res.length) - st.rs.length=j - rsl.length by omega]
   exact hr
 let X':Nat→Nat→Prop:=fun i=>open Classical in if h:∃j,j∈c.aS∧bH θ j=some i then Xl h.choose else if i<st.rs.length then X i else Xl (c.res.length+(i - st.rs.length))
 have Tn:∀j i,j∈c.aS→bH θ j=some i→X' i=Xl j:=by
  intro j i hj hi
  have hex:∃j,j∈c.aS∧bH θ j=some i:=⟨j,hj,hi⟩
  show(open Classical in if h:_ then _ else _)=_
  rw [dif_pos hex,JH _ _ _ hex.choose_spec.2 hi]
 have Tq:∀i,i∈M→∃j,j∈c.aS∧bH θ j=some i:=fun i hi=>tf hM i hi
 have hjM:∀j i,j∈c.aS→bH θ j=some i→i∈M:=by
  intro j i hj hi
  obtain⟨b,hb,JQ⟩:=ji hM j hj
  rw [hi]at JQ
  injection JQ with JQ
  exact JQ▸hb
 have hXs:∀i,i<st.rs.length→i ∉ M→X' i=X i:=by
  intro i hi hm
  show(open Classical in if h:_ then _ else _)=_
  rw [dif_neg (fun⟨j,hj,HT⟩=>hm (hjM j i hj HT)),if_pos hi]
 have Tm:∀i,st.rs.length≤i→X' i=Xl (c.res.length+(i - st.rs.length)):=by
  intro i hi
  show(open Classical in if h:_ then _ else _)=_
  rw [dif_neg (fun⟨j,hj,HT⟩=>by have:=MY i (hjM j i hj HT);omega),if_neg (by omega)]
 have MT:∀j,j∈c.aS→j<ps.length:=by
  intro j hj
  obtain⟨b,_,hb⟩:=ji hM j hj
  exact Ho j b hb
 have SO:∀j r,j∈c.aS→nth rsl j=some r→nth (rsl++out.news) j=some r:=fun j r hj hr=>by rw [aO,if_pos (aH hr)];exact hr
 have Sz:∀j i r,j∈c.aS→bH θ j=some i→nth rs' i=some r→nth rsl j=some r:=by
  intro j i r hj hi hr
  obtain⟨r0,NQ⟩:=bA (l:=rsl) (i:=j) (by rw [Mo];exact MT j hj)
  obtain⟨i',h1,h2⟩:=QS j hj r0 NQ
  rw [hi]at h1
  injection h1 with h1
  subst h1
  rw [hr]at h2
  injection h2 with h2
  rw [NQ,h2]
 have hq:Ch (fun k=>∃j,j∈M∧X j k) w w':=Iz.ch.mono fun k ⟨j,hj,hk⟩=>by
  obtain⟨b,hb,JQ⟩:=ji hM j hj
  exact⟨b,hb,by rw [K9 j b JQ]at hk;exact hk⟩
 have Nn:∀i,i∈M→∀k,X' i k→X i k∨w.heap.size≤k:=by
  intro i hi k hk
  obtain⟨j,hj,HT⟩:=Tq i hi
  rw [Tn j i hj HT]at hk
  have:=Iz.grow j hj k hk
  rwa [K9 j i HT]at this
 have hnlen:(rs'++out.news).length=st.rs.length+out.news.length:=by rw [List.length_append,u1]
 have NV:∀i,st.rs.length≤i→i<(rs'++out.news).length→∀k,X' i k→w.heap.size≤k:=by
  intro i h1 h2 k hk
  rw [Tm i h1]at hk
  exact Iz.new _ (by simp;omega) (by simp;omega) k hk
 have Il:∀i,i<st.rs.length→i ∉ M→nth (rs'++out.news) i=nth st.rs i∧X' i=X i:=fun i hi hm=>⟨by rw [aO,if_pos (by omega)];exact u2 i hm,hXs i hi hm⟩
 have hinv:Inv w0 k0 X0 may (rs'++out.news) X' w':=by
  refine hI.step M hq (fun j hj=>⟨MY j hj,ez (bD.1 HO j hj)⟩) (by omega) Il ?_ Nn NV ?_
  ·intro i hi r hr
   by_cases N0:i∈M
   ·obtain⟨j,hj,HT⟩:=Tq i N0
    rw [aO,if_pos (by have:=MY i N0;omega)]at hr
    have h1:=Sz j i r hj HT hr
    rw [Tn j i hj HT]
    exact Iz.sat.res j r (SO j r hj h1)
   ·have hi:=hi.resolve_left N0
    rw [aO,if_neg (by omega)]at hr
    rw [Tm i hi]
    refine Iz.sat.res _ r ?_
    rw [aO,if_neg (by omega)]
    rw [show c.res.length+(i - st.rs.length) - rsl.length=i - rs'.length by omega]
    exact hr
  ·intro i j hi hj HN h1 h2 k hk
   have key:∀i,(i∈M∨st.rs.length≤i)→i<(rs'++out.news).length→∃a,X' i=Xl a∧a<(rsl++out.news).length∧((i∈M∧a∈c.aS∧bH θ a=some i)∨(st.rs.length≤i∧a=c.res.length+(i - st.rs.length))):=by
    intro i hi RN
    by_cases N0:i∈M
    ·obtain⟨a,ha,hai⟩:=Tq i N0
     exact⟨a,Tn a i ha hai,by have:=MT a ha;simp;omega,.inl ⟨N0,ha,hai⟩⟩
    ·have hi:=hi.resolve_left N0
     exact⟨_,Tm i hi,by simp;omega,.inr ⟨hi,rfl⟩⟩
   obtain⟨a,ea,la',ca⟩:=key i hi h1
   obtain⟨b,eb,lb,cb⟩:=key j hj h2
   rw [ea]at hk
   rw [eb]
   refine Iz.sat.dis a b la' lb (fun K8=>?_) k hk
   subst K8
   rcases ca with⟨m1,m2,m3⟩ | ⟨m1,m2⟩<;>rcases cb with⟨n1,n2,n3⟩ | ⟨n1,n2⟩
   ·rw [m3]at n3;injection n3 with n3;exact HN n3
   ·have:=MT a m2;omega
   ·have:=MT a n2;omega
   ·omega
 have hQ:=jh (fun i r hr=>⟨_,_,hinv.sat.res i r hr⟩) hQ
 refine⟨out.res,_,_,X',M,(qe ..).symm,hQ,Iz.kr.imp (fun e=>by rw [e];rfl) JI.knO,hinv,?_,rfl,MY,fun i hi=>ez (bD.1 HO i hi),by simp only [];omega,Il,Nn,NV,hq,fun i a ha=>by
  by_cases hi:i∈M
  ·obtain⟨b,hb,hr⟩:=(u3 i hi).2 a ha
   exact⟨b,by rw [aO,if_pos (aH hb)];exact hb,hr⟩
  ·exact⟨a,by rw [(Il i (aH ha) hi).1];exact ha,bQ.refl a⟩⟩
 refine ar.app ?_ (ar.cQ hk (fun i hi hm=>(Il i hi hm).1) fun i hi a ha=>?_)
 ·intro key k' Hu
  obtain⟨i,i',o,k,⟨rfl,h1⟩ | ⟨rfl,h1⟩,h2,h3⟩:=gy Hu
  ·obtain⟨g,cs,T,v,e1,e2,e3⟩:=Iz.kc _ k h1 (fun _ e=>by cases e)
   obtain⟨i2,r',f1,f2,f3⟩:=JI i _ e1
   rw [h2]at f1
   injection f1 with f1
   subst f1
   rcases f3 with rfl | ⟨_,_,_,_,_,_,_,hh,_⟩
   ·exact⟨g,cs,T,v,f2,e2,JI.kn h3 e3⟩
   ·cases hh
  ·obtain⟨t,r,s,e1,e2⟩:=Iz.kc _ k h1 (fun _ e=>by cases e)
   obtain⟨i2,r',f1,f2,f3⟩:=JI i _ e1
   rw [h2]at f1
   injection f1 with f1
   subst f1
   rcases f3 with rfl | ⟨_,_,_,_,_,_,_,hh,_⟩
   ·exact⟨t,r,s,f2,JI.kn h3 e2⟩
   ·cases hh
 ·obtain⟨b,hb,hr⟩:=(u3 i hi).2 a ha
  exact⟨b,by rw [aO,if_pos (aH hb)];exact hb,hr⟩
end
end
end Go.Proofs.YtfmcaoaaiganbaaGreatDoor.V
