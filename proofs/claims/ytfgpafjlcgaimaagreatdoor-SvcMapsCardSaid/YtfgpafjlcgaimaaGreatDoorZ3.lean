/- SvcMaps returns true for every input, and each argument reads behind the call as it read before. -/
import Derived.Test.YtfgpafjlcgaimaaGreatDoorZ2
import Derived.Great.BuildSlice
import Derived.ProofKit
import Derived.SizedLaws
import Derived.OpenShut
import Derived.LaidMore
import Derived.MakeChecks
import Derived.Handed
import Derived.Deep.SlicePairs
import Derived.KernelRfl
set_option linter.unusedVariables false
set_option linter.unusedSimpArgs false
namespace Go.Proofs.YtfgpafjlcgaimaaGreatDoor.V
open Go Go.RowKit
open Go.IntKind (i64 u32 u64)
open Enc (enc)
section
section
variable {U:Uni} {P:Program} {tbl:Tb U} {may:List Nat} {k0:Nat}
variable {w0:World} {X0 X:Nat→Nat→Prop} {w:World} {fr:Fr} {st:St U} {Qp:Option (List PanicEntry→World→Prop)}
theorem sD:∀ {vs:List Value} {F:Prop},(∀v,v∈vs→one? v True)→F→my vs F
 | [],_,_,h=>h
 | v::r,F,h1,h=>by
  have h2:=nN (h1 v (List.mem_cons_self ..))
  have h3:=sD (F:=F) (fun u hu=>h1 u (List.mem_cons_of_mem _ hu)) h
  unfold my one?
  cases v<;>first | exact h3 | exact absurd rfl (h2.2.1 _) | exact absurd rfl (h2.2.2 _)
theorem oo(hI:Inv w0 k0 X0 may st.rs X w)(hk:aw st.rs fr st.kn) {i:Nat} {a b:Res U}(ha:nth st.rs i=some a)(hc:lQ may k0 i=true) {w':World}(q:Ch (X i) w w')(OK:cl a b)(hb:RS (X i) w' b) {kn':List (Key×Kn)}(Kr:aw (bt st.rs i b) fr kn'):
 cU w0 k0 X0 may fr st X w ⟨bt st.rs i b,kn',i::st.md⟩ X w' [i]:=by
 have hi:=aP ha
 have hinv:=hI.set hi (eY hc) q hb (fun k hk=>.inl hk)
 have e:iz X i (X i)=X:=by
  funext j
  unfold iz
  split
  ·rename_i h;rw [h]
  ·rfl
 rw [e]at hinv
 exact⟨hinv,Kr,rfl,fun j hj=>by simp at hj;subst hj;exact hi,fun j hj=>by simp at hj;subst hj;exact eY hc,by simp,fun j hj JN=>⟨by rw [aV,if_neg (fun hh=>JN (by simp [hh.1]))],rfl⟩,fun _ _ _ h=>.inl h,fun j h1 h2=>by simp at h2;omega,q.mono fun k hk=>⟨i,by simp,hk⟩,fun j c hj=>by
  by_cases JN:j=i
  ·subst JN
   rw [ha]at hj
   injection hj with hj
   subst hj
   exact⟨b,by rw [aV,if_pos ⟨rfl,hi⟩],OK⟩
  ·exact⟨c,by rw [aV,if_neg (fun hh=>JN hh.1)];exact hj,cl.refl c⟩⟩
theorem mj(hI:Inv w0 k0 X0 may st.rs X w)(hk:aw st.rs fr st.kn) {r:Res U} {Z:Nat→Prop} {w':World}(q:Pu w w')(hr:RS Z w' r)(hz:∀k,Z k→w.heap.size≤k) {kn':List (Key×Kn)}(Kr:aw (st.rs++ [r]) fr kn'):
 cU w0 k0 X0 may fr st X w ⟨st.rs++ [r],kn',st.md⟩ (iz X st.rs.length Z) w' []:=
 ⟨hI.more q hr hz,Kr,rfl,fun j hj=>(by cases hj),fun j hj=>(by cases hj),by simp,fun i hi _=>⟨by rw [aU,if_pos hi],gg _ _ (by omega)⟩,fun i hi=>(by cases hi),fun i h1 h2 k hk=>by
  simp at h2
  obtain rfl:i=st.rs.length:=by omega
  rw [updX_eq]at hk
  exact hz k hk,q.mono fun k h=>h.elim,fun i a ha=>⟨a,by rw [aU,if_pos (aP ha)];exact ha,cl.refl a⟩⟩
theorem nP(hk:aw st.rs fr st.kn)(r:Res U):aw (st.rs++ [r]) fr st.kn:=
 hk.ef (M:= []) (fun i hi _=>by rw [aU,if_pos hi]) (fun i hi=>by cases hi) fun key k h=>⟨h,fun p _=>.inl (by simp),fun id off _=>.inl (by simp)⟩
theorem Blk.rs {g:Nat} {cs:Array Value} {T:TypeId} {w':World}(h:Blk w' g cs T):RS (U:=U) (fun k=>k=g) w' (.blk g cs.toList T):=⟨rfl,fun _ h=>h,h⟩
theorem mU {α:Type}(vs L:List α)(off:Nat)(h:off+vs.length≤L.length):fp L off vs=L.take off++vs++L.drop (off+vs.length):=by
 apply List.ext_getElem?
 intro j
 rw [← aH,jP _ _ _ _ h,List.append_assoc]
 by_cases h3:off≤j∧j<off+vs.length
 ·rw [if_pos h3,List.getElem?_append_right (by simp;omega),List.getElem?_append_left (by simp;omega),aH]
  congr 1
  simp
  omega
 ·rw [if_neg h3,aH]
  by_cases h4:j<off
  ·rw [List.getElem?_append_left (by simp;omega),List.getElem?_take,if_pos h4]
  ·rw [List.getElem?_append_right (by simp;omega),List.getElem?_append_right (by simp;omega),List.getElem?_drop]
   congr 1
   simp
   omega
theorem fW.cells {rs:List (Res U)} {v:Value} {k:Kn}(h:fW rs v k)(Vd:∀l,k≠ .ag l):v.cells= #[v]:=by
 cases k with
 | pan=>exact h.elim
 | ag l=>exact absurd rfl (Vd l)
 | p k=>
  have h:bF U k (nth rs k.id)=some v:=h
  cases hn:nth rs k.id with
  | none=>rw [hn]at h;cases k<;>simp [bF]at h
  | some r=>
   rw [hn]at h
   cases k with
   | loc _ _=>cases r<;>simp only [bF,reduceCtorEq,Option.some.injEq]at h;subst h;rfl
   | obj _ _ _=>cases r<;>simp only [bF,reduceCtorEq,Option.some.injEq]at h;subst h;rfl
   | sl _ li=>
    simp only [bF]at h
    split at h
    ·injection h with h;subst h;rfl
    ·cases h
   | el _ li _ _=>
    simp only [bF]at h
    split at h
    ·split at h
     ·injection h with h;subst h;rfl
     ·cases h
    ·cases h
 | t l=>obtain⟨vs,rfl,_⟩:=h;rfl
 | f a b=>obtain⟨f,fs,cs,rfl,_,_⟩:=h;rfl
theorem kI {id:Nat} {key:Key} {q:Kn}:∀ {l:List (Option PK)} {o:Nat},(key,q)∈sY id o l→∃j p,key= .c id (o+j)∧q= .p p∧nth l j=some (some p)
 | [],_,h=>by cases h
 | none::l,o,h=>by
  obtain⟨j,p,h1,h2,h3⟩:=kI (l:=l) (o:=o+1) h
  exact⟨j+1,p,by rw [h1];congr 1;omega,h2,h3⟩
 | some p::l,o,h=>by
  rcases List.mem_cons.1 h with e | h
  ·injection e with e1 e2
   exact⟨0,p,e1,e2,rfl⟩
  ·obtain⟨j,p,h1,h2,h3⟩:=kI (l:=l) (o:=o+1) h
   exact⟨j+1,p,by rw [h1];congr 1;omega,h2,h3⟩
theorem nd {rs:List (Res U)} {v:Value} {ky:Option Kn}(hv:KnO rs v ky) {id off:Nat} {sc:Bool} {key:Key} {q:Kn}(h:(key,q)∈cellsOf id off sc ky):∃j u,key= .c id (off+j)∧nth v.cells.toList j=some u∧fW rs u q:=by
 have one:∀ {k:Kn},ky=some k→(∀l,k≠ .ag l)→(key,q)∈(match sc with | true=>[(Key.c id off,k)] | false=>[])→∃j u,key= .c id (off+j)∧nth v.cells.toList j=some u∧fW rs u q:=by
  intro k hk Vd hm
  subst hk
  split at hm
  ·simp only [List.mem_singleton,Prod.mk.injEq]at hm
   obtain⟨rfl,rfl⟩:=hm
   exact⟨0,v,rfl,by rw [fW.cells hv Vd];rfl,hv⟩
  ·cases hm
 cases ky with
 | none=>cases h
 | some k=>
  cases k with
  | pan=>cases h
  | ag l=>
   obtain⟨j,p,h1,h2,h3⟩:=kI h
   obtain⟨cs,rfl,hh⟩:=hv
   obtain⟨u,hu,hd⟩:=hh j p h3
   subst h2
   exact⟨j,u,h1,by show nth cs.toList j=_;rw [aH];simpa using hu,hd⟩
  | p p=>exact one rfl (fun l e=>by cases e) h
  | t l=>exact one rfl (fun l e=>by cases e) h
  | f a b=>exact one rfl (fun l e=>by cases e) h
theorem aw.roots {rs rs':List (Res U)} {fr:Fr} {kn:List (Key×Kn)}(h:aw rs fr kn)(hr:∀i a,nth rs i=some a→∃b,nth rs' i=some b∧(a=b∨∃t own T A c l l',a= .lst t own T A c l∧b= .lst t own T A c l'∧l'.length=l.length)):aw rs' fr kn:=by
 have hd:∀p u,den U rs p=some u→den U rs' p=some u:=by
  intro p u hu
  unfold den at hu ⊢
  cases hn:nth rs p.id with
  | none=>rw [hn]at hu;cases p<;>simp [bF]at hu
  | some a=>
   rw [hn]at hu
   obtain⟨b,hb,rfl | ⟨t,own,T,A,c,l,l',rfl,rfl,hl⟩⟩:=hr _ _ hn
   ·rw [hb];exact hu
   ·rw [hb,← hu];cases p<;>simp only [bF,gE,hl]
 intro key k hk
 have h0:=h key k hk
 cases key with
 | s i=>exact fW.mono h0 fun p _=>hd p
 | c id off=>
  obtain⟨g,cs,T,v,e1,e2,e3⟩:=h0
  obtain⟨b,hb,rfl | ⟨_,_,_,_,_,_,_,hh,_⟩⟩:=hr _ _ e1
  ·exact⟨g,cs,T,v,hb,e2,e3.mono fun p _=>hd p⟩
  ·cases hh
 | l id path=>
  obtain⟨t,r,s,e1,e2⟩:=h0
  obtain⟨b,hb,rfl | ⟨_,_,_,_,_,_,_,hh,_⟩⟩:=hr _ _ e1
  ·exact⟨t,r,s,hb,e2.mono fun p _=>hd p⟩
  ·cases hh
theorem gN {t:TypeId} {x y:Operand} {p:Addr} {fr:Fr} {dst:Option Tmp} {ty:TypeId} {pos:String} {after:Array Edge} {gd:Option (Nat×Bool)} {Y:Bool} {K:ax}(hx:ev fr x= .pointer (some p))(J0:EG P t=false)(Js:Nat.beq (ev fr y).cells.toList.length (aZ P t)=true)(hT:hasType P t=true)
 (h1:∀v,v∈(ev fr y).cells.toList→one? v True)(h:aI w p (ev fr y).cells.toList fun w'=>K undef w'):opW P Y Qp ⟨dst,.store t x y,ty,pos,after,gd⟩ (ev fr) w K:=by
 refine yK (C:= []) rfl ?_
 show(match ev fr x with
  | .pointer a=>match cB P t with
   | .row n=>(match hasType P t && Nat.beq n (aZ P t),ev fr y with
    | true,.agg cs=>aq a fun p=>cs.size=n∧(∀v∈cs.toList,one? v True)∧aI w p cs.toList fun w'=>K undef w'
    | _,_=>False)
   | _=>match Nat.beq (ev fr y).cells.toList.length (aZ P t) && hasType P t with
    | true=>aq a fun p=>my (ev fr y).cells.toList (aI w p (ev fr y).cells.toList fun w'=>K undef w')
    | false=>False
  | _=>False)
 rw [hx]
 unfold EG at J0
 cases hs:cB P t with
 | row n=>rw [hs]at J0;cases J0
 | one s=>simp only [Js,hT];exact ai p rfl (sD h1 h)
 | agg l=>simp only [Js,hT];exact ai p rfl (sD h1 h)
theorem step_done {K:dY U} {st':St U} {X':Nat→Nat→Prop} {w':World} {M l:List Nat} {v:Value} {k:Option Kn}(hs:cU w0 k0 X0 may fr st X w st' X' w' M)(hv:KnO st'.rs v k)(h:nmL st'.rs l fun JL=>K v k ⟨JL,st'.kn,st'.md⟩):
 ∃k st' X' M,K v k st'∧KnO st'.rs v k∧cU w0 k0 X0 may fr st X w st' X' w' M:=
 ⟨k,st',X',M,jQ (F:=fun JL=>K v k ⟨JL,st'.kn,st'.md⟩) (fun i r hr=>⟨_,_,hs.inv.sat.res i r hr⟩) h,hv,hs⟩
theorem sG {tt:Nat} {r:Nat→Nat} {s s':U.ty tt} {id:Nat} {K:dY U}(hI:Inv w0 k0 X0 may st.rs X w)(hk:aw st.rs fr st.kn)(hn:nth st.rs id=some (.ob tt r s))(JO:lQ may k0 id=true) {w2:World}(hq:Ch (X id) w w2)(Jw:U.pred tt r s' (X id) w2)
 (hK:nmL (bt st.rs id (.ob tt r s')) [id] fun JL=>K undef none ⟨JL,dE [id] st.kn,id::st.md⟩):
 ∃k st' X' M,K undef k st'∧KnO st'.rs undef k∧cU w0 k0 X0 may fr st X w st' X' w2 M:=by
 refine step_done (k:=none) (st':=⟨bt st.rs id (.ob tt r s'),dE [id] st.kn,id::st.md⟩) (oo hI hk hn JO hq (.ob tt r s s') Jw ?_) trivial hK
 refine hk.dE (M:= [id]) (fun i _ hi=>by rw [aV,if_neg (fun hh=>hi (by simp [hh.1]))]) fun i hi a ha=>?_
 simp only [List.mem_singleton]at hi
 subst hi
 rw [hn]at ha
 injection ha with ha
 subst ha
 exact⟨_,by rw [aV,if_pos ⟨rfl,aP hn⟩],.ob tt r s s'⟩
theorem wS {t:TypeId} {x y:Operand} {p:Addr} {n:Nat} {cs:Array Value} {fr:Fr} {dst:Option Tmp} {ty:TypeId} {pos:String} {after:Array Edge} {gd:Option (Nat×Bool)} {Y:Bool} {K:ax}(hx:ev fr x= .pointer (some p))(J0:cB P t= .row n)(hy:ev fr y= .agg cs)(hn:Nat.beq n (aZ P t)=true)(hc:cs.size=n)(hT:hasType P t=true)
 (h1:∀v,v∈cs.toList→one? v True)(h:aI w p cs.toList fun w'=>K undef w'):opW P Y Qp ⟨dst,.store t x y,ty,pos,after,gd⟩ (ev fr) w K:=by
 refine yK (C:= []) rfl ?_
 show(match ev fr x with
  | .pointer a=>match cB P t with
   | .row n=>(match hasType P t && Nat.beq n (aZ P t),ev fr y with
    | true,.agg cs=>aq a fun p=>cs.size=n∧(∀v∈cs.toList,one? v True)∧aI w p cs.toList fun w'=>K undef w'
    | _,_=>False)
   | _=>match Nat.beq (ev fr y).cells.toList.length (aZ P t) && hasType P t with
    | true=>aq a fun p=>my (ev fr y).cells.toList (aI w p (ev fr y).cells.toList fun w'=>K undef w')
    | false=>False
  | _=>False)
 rw [hx,J0,hy]
 simp only [hT,hn,Bool.and_self]
 exact ai p rfl ⟨hc,h1,h⟩
theorem tX {t:TypeId} {x y:Operand} {K:dY U}(hI:Inv w0 k0 X0 may st.rs X w)(hk:aw st.rs fr st.kn)(h:ss U P may k0 t (kf st.kn x) (ev fr y) st K) {Y:Bool} {dst:Option Tmp} {ty:TypeId} {pos:String} {after:Array Edge} {gd:Option (Nat×Bool)}:
 opW P Y Qp ⟨dst,.store t x y,ty,pos,after,gd⟩ (ev fr) w fun v w'=>∃k st' X' M,K v k st'∧KnO st'.rs v k∧cU w0 k0 X0 may fr st X w st' X' w' M:=by
 unfold ss at h
 have Kq:=hk.kf x
 split at h
 ·rename_i n id path off cs J0 Kr hy
  rw [Kr]at Kq
  split at h
  ·rename_i tt r s hb hn JO
   obtain⟨h,h1⟩:=eT h
   simp only [Bool.and_eq_true]at hb
   split at h
   ·rename_i c s' KL
    obtain⟨hc,hK⟩:=h
    have hd:den U st.rs (.obj id path off)=some (ev fr x):=Kq
    simp only [den,PK.id,hn,bF,Option.some.injEq]at hd
    have hp:U.pred tt r s (X id) w:=hI.sat.res id _ hn
    exact wS (p:=⟨r path,off,none⟩) hd.symm J0 hy hb.2.1 (by have:=Nat.eq_of_beq_eq_true hb.2.2;simpa using this) hb.1 h1 (U.nX hp KL hc fun w2 Jw hq=>sG hI hk hn JO hq Jw hK)
   ·exact h.elim
  ·exact h.elim
 ·exact h.elim
theorem wT {t:TypeId} {x y:Operand} {K:dY U}(hI:Inv w0 k0 X0 may st.rs X w)(hk:aw st.rs fr st.kn)(h:wU U P may k0 t (kf st.kn x) (ev fr y) (kf st.kn y) st K) {Y:Bool} {dst:Option Tmp} {ty:TypeId} {pos:String} {after:Array Edge} {gd:Option (Nat×Bool)}:
 opW P Y Qp ⟨dst,.store t x y,ty,pos,after,gd⟩ (ev fr) w fun v w'=>∃k st' X' M,K v k st'∧KnO st'.rs v k∧cU w0 k0 X0 may fr st X w st' X' w' M:=by
 unfold wU at h
 split at h
 ·exact tX hI hk h
 split at h
 ·exact h.elim
 rename_i Kl
 simp only [Bool.and_eq_true,Bool.not_eq_true']at Kl
 obtain⟨J0,Js,hT⟩:=Kl
 have KE:(ev fr y).cells.toList.length=aZ P t:=Nat.eq_of_beq_eq_true Js
 have Kq:=hk.kf x
 have hky:=hk.kf y
 split at h
 ·rename_i id off Kr
  rw [Kr]at Kq
  split at h
  ·rename_i g cs T hn JO
   split at h
   ·rename_i hb
    obtain⟨h,h1⟩:=eT h
    have hb:off+aZ P t≤cs.length:=Nat.le_of_ble_eq_true hb
    have hd:den U st.rs (.loc id off)=some (ev fr x):=Kq
    simp only [den,PK.id,hn,bF,Option.some.injEq]at hd
    obtain⟨hg,hX,Qm⟩:=hI.sat.res id _ hn
    refine gN hd.symm J0 Js hT h1 ⟨g,off,⟨cs⟩,T,rfl,Qm,by simpa [KE]using hb,fun w2 hs=>?_⟩
    rw [mV]at hs
    have q:Ch (X id) w w2:=(bm.ch hs).mono fun k e=>e▸hg
    refine⟨none,_,X,[id],h,trivial,oo hI hk hn JO q (.blk g cs (fp cs off (ev fr y).cells.toList) T (by simp)) (show RS (X id) w2 (.blk g (fp cs off (ev fr y).cells.toList) T)from⟨hg,hX,hs.blk⟩) ?_⟩
    have JR:∀i,i∈ [id]→∀a,nth st.rs i=some a→∃b,nth (bt st.rs id (.blk g (fp cs off (ev fr y).cells.toList) T)) i=some b∧cl a b:=by
     intro i hi a ha
     simp at hi
     subst hi
     rw [hn]at ha
     injection ha with ha
     subst ha
     exact⟨_,by rw [aV,if_pos ⟨rfl,aP hn⟩],.blk _ _ _ _ (by simp)⟩
    have O8:∀i,i<st.rs.length→i ∉ [id]→nth (bt st.rs id (.blk g (fp cs off (ev fr y).cells.toList) T)) i=nth st.rs i:=fun i _ hi=>by rw [aV,if_neg (fun hh=>hi (by simp [hh.1]))]
    have S0:∀ {k:Kn} {v:Value},fW st.rs v k→∀p,k.has p→p.id ∉ [id]∨p.ofList p.id=false:=by
     intro k v LA p hp
     by_cases QI:p.id=id
     ·right
      cases ho:p.ofList p.id
      ·rfl
      ·exfalso
       have hdd:∃u,den U st.rs p=some u:=by
        cases k with
        | pan=>exact hp.elim
        | p k=>cases hp;exact⟨_,LA⟩
        | t l=>obtain⟨j,hj⟩:=hp;obtain⟨vs,_,h3⟩:=LA;obtain⟨u,_,hu⟩:=h3 j p hj;exact⟨u,hu⟩
        | ag l=>obtain⟨j,hj⟩:=hp;obtain⟨vs,_,h3⟩:=LA;obtain⟨u,_,hu⟩:=h3 j p hj;exact⟨u,hu⟩
        | f a b=>
         obtain⟨f,fs,cs,_,_,h3,h4⟩:=LA
         rcases hp with⟨j,hj⟩ | ⟨j,hj⟩
         ·obtain⟨u,_,hu⟩:=h3 j p hj;exact⟨u,hu⟩
         ·obtain⟨u,_,hu⟩:=h4 j p hj;exact⟨u,hu⟩
       obtain⟨u,hu⟩:=hdd
       unfold den at hu
       rw [QI,hn]at hu
       cases p<;>simp_all [bF,PK.ofList,PK.id,gE]
     ·exact .inl (by simpa using QI)
    refine aw.app ?_ (hk.ef O8 JR fun key k hm=>?_)
    ·intro key q hq
     obtain⟨j,u0,rfl,hu0,LA⟩:=nd hky hq
     refine⟨g,_,T,u0,by rw [aV,if_pos ⟨rfl,aP hn⟩],?_,LA.mono fun p hp u hu=>o4 O8 JR (S0 LA p hp) hu⟩
     have hj:=aP hu0
     rw [jP _ _ _ _ (by omega),if_pos ⟨by omega,by omega⟩,show off+j - off=j by omega,hu0]
    ·obtain⟨PA,Lp⟩:=cK hm
     have h0:=hk _ _ PA
     refine⟨PA,?_,fun id' off' e=>?_⟩
     ·cases key with
      | s i=>exact S0 h0
      | c i o=>obtain⟨_,_,_,_,_,_,h0⟩:=h0;exact S0 h0
      | l i o=>obtain⟨_,_,_,_,h0⟩:=h0;exact S0 h0
     ·subst e
      by_cases hi:id'=id
      ·subst hi
       right
       obtain⟨g',cs',T',v,e1,_⟩:=h0
       rw [hn]at e1
       injection e1 with e1
       injection e1 with e1 e2 e3
       subst e1;subst e2;subst e3
       refine⟨g,cs,_,T,hn,by rw [aV,if_pos ⟨rfl,aP hn⟩],?_⟩
       rw [jP _ _ _ _ (by omega),if_neg]
       simp only [Key.yU,Nat.beq_refl,Bool.true_and,Bool.not_eq_true',Bool.and_eq_false_iff]at Lp
       rintro⟨h3,h4⟩
       rcases Lp with h5 | h5
       ·rw [Nat.ble_eq_true_of_le h3]at h5;cases h5
       ·have:Nat.blt off' (off+aZ P t)=true:=by rw [Nat.blt_eq];omega
        rw [this]at h5;cases h5
      ·exact .inl (by simpa using hi)
   ·exact h.elim
  ·exact h.elim
 ·rename_i id i off Kr
  rw [Kr]at Kq
  split at h
  ·rename_i tt T A c l hn JO
   split at h
   ·rename_i hb
    obtain⟨h,h1⟩:=eT h
    have hb:off+aZ P t≤(U.en tt).size:=Nat.le_of_ble_eq_true hb
    obtain⟨x',US,hK⟩:=cr h
    have hd:den U st.rs (.el id 0 i off)=some (ev fr x):=Kq
    simp only [den,PK.id,hn,bF,gE]at hd
    split at hd
    case isFalse=>cases hd
    rename_i hr
    injection hd with hd
    obtain⟨ho,Jt⟩:Own w (X id) T A l.length c l∧∀k,X id k→k<w.heap.size:=hI.sat.res id _ hn
    have QK:i.toNat<l.length:=by omega
    obtain⟨g,hA,hZ,Vr⟩:=ho.lt (by omega)
    have Ub:=ho.len
    have Ks:l[i.toNat]? =some (l.getD i.toNat (U.df tt)):=by rw [List.getD_eq_getElem?_getD,List.getElem?_eq_getElem (by omega)];rfl
    have Qh:=U.iP US
    have hel:(U.en tt).enc (l.getD i.toNat (U.df tt))=enc (l.getD i.toNat (U.df tt)):=rfl
    have hlen:(enc (l.getD i.toNat (U.df tt))).length=(U.en tt).size:=bz _
    have P3:enc x'=(enc (l.getD i.toNat (U.df tt))).take off++(ev fr y).cells.toList++(enc (l.getD i.toNat (U.df tt))).drop (off+(ev fr y).cells.toList.length):=by
     show(U.en tt).enc x'=_
     rw [Qh,hel]
     exact mU _ _ _ (by rw [hlen,KE];exact hb)
    refine gN (p:=elA U tt A i off) hd.symm J0 Js hT h1 ?_
    have KL:=ho.st (p:=Addr.mk g 0 none) hA QK Ks (o:=off) (vs:=(ev fr y).cells.toList) (by rw [KE];exact hb) P3 (K:=fun w2=>∃k st' X' M,K undef k st'∧KnO st'.rs undef k∧cU w0 k0 X0 may fr st X w st' X' w2 M) (fun w2 Mu hq=>by
     refine step_done (k:=none) (st':=⟨bt st.rs id (.lst tt true T A c (l.set i.toNat x')),st.kn,id::st.md⟩) (oo hI hk hn JO hq (.lst tt true T A A c c l (l.set i.toNat x')) (show RS (X id) w2 (.lst tt true T A c (l.set i.toNat x'))from⟨by rw [List.length_set];exact Mu,fun k hk=>Nat.lt_of_lt_of_le (Jt k hk) hq.size⟩) ?_) trivial hK
     refine hk.roots fun j a ha=>?_
     by_cases hj:j=id
     ·subst hj
      rw [hn]at ha
      injection ha with ha
      exact⟨_,by rw [aV,if_pos ⟨rfl,aP hn⟩],.inr ⟨_,_,_,_,_,_,_,ha.symm,rfl,List.length_set ..⟩⟩
     ·exact⟨a,by rw [aV,if_neg (fun hh=>hj hh.1)];exact ha,.inl rfl⟩)
    unfold elA
    rw [hA]
    exact KL
   ·exact h.elim
  ·rename_i tt r s hn JO
   split at h
   ·rename_i L hL
    split at h
    ·rename_i hb
     obtain⟨h,h1⟩:=eT h
     have hb:off+aZ P t≤(U.en L.t).size:=Nat.le_of_ble_eq_true hb
     obtain⟨x',US,h⟩:=cr h
     split at h
     ·rename_i c s' KL
      obtain⟨hc,hK⟩:=h
      have hd:den U st.rs (.el id 0 i off)=some (ev fr x):=Kq
      simp only [den,PK.id,hn,bF,gE,hL]at hd
      split at hd
      case isFalse=>cases hd
      rename_i hr
      injection hd with hd
      have hp:U.pred tt r s (X id) w:=hI.sat.res id _ hn
      have Ks:L.l[i.toNat]? =some (L.l.getD i.toNat (U.df L.t)):=by rw [List.getD_eq_getElem?_getD,List.getElem?_eq_getElem (by omega)];rfl
      have Qh:=U.iP US
      have hlen:((U.en L.t).enc (L.l.getD i.toNat (U.df L.t))).length=(U.en L.t).size:=(U.en L.t).len _
      have P3:(U.en L.t).enc x'=((U.en L.t).enc (L.l.getD i.toNat (U.df L.t))).take off++(ev fr y).cells.toList++((U.en L.t).enc (L.l.getD i.toNat (U.df L.t))).drop (off+(ev fr y).cells.toList.length):=by
       rw [Qh]
       exact mU _ _ _ (by rw [hlen,KE];exact hb)
      refine gN (p:=elA U L.t L.A i off) hd.symm J0 Js hT h1 ?_
      exact U.oq hp hL Ks (by rw [KE];exact hb) P3 KL hc fun w2 Jw hq=>sG hI hk hn JO hq Jw hK
     ·exact h.elim
    ·exact h.elim
   ·exact h.elim
  ·exact h.elim
 ·rename_i id path off Kr
  rw [Kr]at Kq
  split at h
  ·rename_i tt r s v hn JO Kg
   obtain⟨h,h1⟩:=eT h
   split at h
   ·rename_i c s' KL
    obtain⟨hc,hK⟩:=h
    have hd:den U st.rs (.obj id path off)=some (ev fr x):=Kq
    simp only [den,PK.id,hn,bF,Option.some.injEq]at hd
    have hp:U.pred tt r s (X id) w:=hI.sat.res id _ hn
    rw [Kg]at KE
    refine gN (p:=⟨r path,off,none⟩) hd.symm J0 Js hT (by rw [Kg];exact h1) ?_
    rw [Kg]
    exact U.oV hp KL hc fun w2 Jw hq=>sG hI hk hn JO hq Jw hK
   ·exact h.elim
  ·rename_i tt r s v v2 vs hn JO Kg
   obtain⟨h,h1⟩:=eT h
   split at h
   ·rename_i c s' KL
    obtain⟨hc,hK⟩:=h
    have hd:den U st.rs (.obj id path off)=some (ev fr x):=Kq
    simp only [den,PK.id,hn,bF,Option.some.injEq]at hd
    have hp:U.pred tt r s (X id) w:=hI.sat.res id _ hn
    refine gN (p:=⟨r path,off,none⟩) hd.symm J0 Js hT (by rw [Kg];exact h1) ?_
    rw [Kg]
    exact U.nX hp KL hc fun w2 Jw hq=>sG hI hk hn JO hq Jw hK
   ·exact h.elim
  ·exact h.elim
 ·exact h.elim
theorem Al {t:TypeId} {z:Value}(h:(P.info? t).bind (·.zero)=some z)(w:World):(Instr.alloc t true (.tuple #[])).run P w= .ok (.pointer (some ⟨w.heap.size,0,none⟩)) (w.alloc (.cells z.cells t)):=by
 cases hi:P.info? t with
 | none=>rw [hi]at h;cases h
 | some i=>
  rw [hi]at h
  have h:i.zero=some z:=h
  have hz:(zeroValue t).run P w= .ok z w:=by
   unfold zeroValue
   rw [Sem.run_bind,run_typeInfo (w:=w) hi,Result.andThen_ok,h]
   rfl
  unfold Instr.alloc
  rw [Sem.run_bind,hz,Result.andThen_ok]
  rfl
theorem uB {cs:List Value} {T:TypeId} {ck:Option Kn} {K:dY U}(hI:Inv w0 k0 X0 may st.rs X w)(hk:aw st.rs fr st.kn) {v0:Value}(Kl:KnO st.rs v0 ck)(Kg:ck=none∨v0.cells.toList=cs)(h:ER U cs T ck st K):
 ∃k st' X' M,K (.pointer (some ⟨w.heap.size,0,none⟩)) k st'∧KnO st'.rs (.pointer (some ⟨w.heap.size,0,none⟩)) k∧cU w0 k0 X0 may fr st X w st' X' (w.alloc (.cells ⟨cs⟩ T)) M:=by
 have hm:Made w w.heap.size ⟨cs⟩ T (w.alloc (.cells ⟨cs⟩ T)):=made rfl rfl
 unfold ER at h
 split at h
 ·rename_i t s hmk
  have Lq:nth (st.rs++ [Res.ob t (fun _=>w.heap.size) s]) st.rs.length=some (.ob t (fun _=>w.heap.size) s):=by rw [aU,if_neg (by omega),Nat.sub_self];rfl
  refine step_done (mj hI hk hm.pu (Z:=fun k=>k=w.heap.size) (show RS (fun k=>k=w.heap.size) _ (.ob t (fun _=>w.heap.size) s)from U.sI hmk hm.blk) (fun k e=>by rw [e];exact Nat.le_refl _) (nP hk _)) ?_ (h w.heap.size)
  show den U _ (.obj _ 0 0)=_
  simp only [den,PK.id,Lq,bF]
 have Lq:nth (st.rs++ [Res.blk w.heap.size cs T]) st.rs.length=some (.blk w.heap.size cs T):=by rw [aU,if_neg (by omega),Nat.sub_self];rfl
 refine⟨_,_,_,[],h w.heap.size,?_,mj hI hk hm.pu (Z:=fun k=>k=w.heap.size) (show RS (fun k=>k=w.heap.size) _ (.blk w.heap.size cs T)from⟨rfl,fun _ h=>h,hm.blk⟩) (fun k e=>by rw [e];exact Nat.le_refl _) (aw.app ?_ (nP hk _))⟩
 ·show den U _ (.loc _ 0)=_
  simp only [den,PK.id,Lq,bF]
 ·intro key q hq
  obtain⟨j,u,rfl,hu,LA⟩:=nd Kl hq
  rcases Kg with rfl | Kg
  ·cases hq
  rw [Kg]at hu
  rw [Nat.zero_add]
  exact⟨_,cs,T,u,Lq,hu,LA.mono fun p hp u hu=>o4 (M:= []) (fun i hi _=>by rw [aU,if_pos hi]) (fun i hi=>by cases hi) (.inl (by simp)) hu⟩
theorem uY {tt:Nat}:∀ {n:Nat} {cs:List Value} {l:List (U.el tt)},z9 U tt n cs=some l→l.length=n∧l.flatMap enc=cs
 | 0,[],l,h=>by simp only [z9,Option.some.injEq]at h;subst h;exact⟨rfl,rfl⟩
 | 0,_::_,l,h=>by simp [z9]at h
 | n+1,cs,l,h=>by
  simp only [z9]at h
  split at h
  ·rename_i x r hx hr
   injection h with h
   subst h
   obtain⟨h1,h2⟩:=uY hr
   refine⟨by simp [h1],?_⟩
   have h3:enc x=gL (U.en tt).size cs:=U.iP hx
   rw [List.flatMap_cons,h2,h3,dP,eE,List.take_append_drop]
  ·cases h
theorem ow {t e:TypeId} {tt:Nat} {ie:TypeInfo} {z:Value}(h:B4 U P t=some (e,tt,ie,z)):SN P t e z (U.en tt).size ie.bytes∧P.info? e=some ie∧ie.zero=some z∧ie.size=(U.en tt).size∧0<ie.bytes:=by
 unfold B4 at h
 split at h
 ·rename_i e' hu
  split at h
  ·rename_i tt' ie' _ hi
   split at h
   ·rename_i z' hz
    split at h
    ·rename_i hb
     simp only [Option.some.injEq,Prod.mk.injEq]at h
     obtain⟨rfl,rfl,rfl,rfl⟩:=h
     simp only [Bool.and_eq_true]at hb
     have h1:=Nat.eq_of_beq_eq_true hb.1
     have h2:=Nat.eq_of_beq_eq_true hb.2.1
     have h3:0<ie'.bytes:=by simpa [Nat.blt_eq]using hb.2.2
     exact⟨⟨hu,⟨ie',hi,hz,h1,rfl⟩,by rw [← h1,← h2];simp,(U.en tt').pos⟩,hi,hz,h1,h3⟩
    ·cases h
   ·cases h
  ·cases h
 ·cases h
theorem B3 {tt:Nat} {x:Operand} {F:List (U.el tt)→Prop}(hS:Sat st.rs X w)(hk:aw st.rs fr st.kn)(h:GF U tt (ev fr x) (kf st.kn x) st F):∃(l:List (U.el tt))(A:Option Addr)(c:Nat)(Y:Nat→Prop),ev fr x= .slice A l.length c∧Rd w Y A l.length c l∧F l:=by
 have Kq:=hk.kf x
 unfold GF at h
 split at h
 ·rename_i id li Kr
  rw [Kr]at Kq
  have hd:den U st.rs (.sl id li)=some (ev fr x):=Kq
  split at h
  ·rename_i r hn
   split at h
   ·rename_i L hL
    simp only [den,PK.id,hn,bF,hL,Option.some.injEq]at hd
    split at h
    ·rename_i ht
     have hr:=(hS.res id _ hn).ls hL
     obtain⟨t',A,c,l⟩:=L
     cases ht
     exact⟨l,A,c,_,hd.symm,hr,h⟩
    ·exact h.elim
   ·exact h.elim
  ·exact h.elim
 ·split at h
  ·rename_i d hx
   exact⟨[],none,d,_,hx,Rd.nil,h⟩
  ·exact h.elim
theorem uJ {rs:List (Res U)} {r:Res U}:nth (rs++ [r]) rs.length=some r:=by rw [aU,if_neg (by omega),Nat.sub_self];rfl
theorem oL {tt:Nat} {T:TypeId} {A:Option Addr} {c:Nat} {l:List (U.el tt)} {K:dY U}(hI:Inv w0 k0 X0 may st.rs X w)(hk:aw st.rs fr st.kn) {w':World}(q:Pu w w') {Z:Nat→Prop}(ho:Own w' Z T A l.length c l)(hz:∀k,Z k→w.heap.size≤k) {v:Value}(hv:v= .slice A l.length c)
 (h:nmL (st.rs++ [.lst tt true T A c l]) [st.rs.length] fun JL=>K v (some (.p (.sl st.rs.length 0))) ⟨JL,st.kn,st.md⟩):
 ∃k st' X' M,K v k st'∧KnO st'.rs v k∧cU w0 k0 X0 may fr st X w st' X' w' M:=by
 refine step_done (st':=⟨st.rs++ [.lst tt true T A c l],st.kn,st.md⟩) (mj hI hk q (Z:=fun k=>Z k∧k<w'.heap.size) (show RS (fun k=>Z k∧k<w'.heap.size) _ (.lst tt true T A c l)from⟨ho.narrow,fun k hk=>hk.2⟩) (fun k hk=>hz k hk.1) (nP hk _)) ?_ h
 show den U _ (.sl _ 0)=_
 simp only [den,PK.id,uJ,bF,gE,hv]
theorem zI(hI:Inv w0 k0 X0 may st.rs X w) {i:Nat} {a b:Res U}(ha:nth st.rs i=some a)(hc:lQ may k0 i=true) {w':World}(q:Ch (X i) w w')(OK:cl a b) {Z:Nat→Prop}(hb:RS Z w' b)(hz:∀k,Z k→X i k∨w.heap.size≤k) {kn':List (Key×Kn)}(Kr:aw (bt st.rs i b) fr kn'):
 cU w0 k0 X0 may fr st X w ⟨bt st.rs i b,kn',i::st.md⟩ (iz X i Z) w' [i]:=by
 have hi:=aP ha
 exact⟨hI.set hi (eY hc) q hb hz,Kr,rfl,fun j hj=>by simp at hj;subst hj;exact hi,fun j hj=>by simp at hj;subst hj;exact eY hc,by simp,fun j hj JN=>⟨by rw [aV,if_neg (fun hh=>JN (by simp [hh.1]))],gg _ _ (by simpa using JN)⟩,fun j hj k hk=>by
  simp at hj;subst hj;rw [updX_eq]at hk;exact hz k hk,fun j h1 h2=>by simp at h2;omega,q.mono fun k hk=>⟨i,by simp,hk⟩,fun j c hj=>by
  by_cases JN:j=i
  ·subst JN
   rw [ha]at hj
   injection hj with hj
   subst hj
   exact⟨b,by rw [aV,if_pos ⟨rfl,hi⟩],OK⟩
  ·exact⟨c,by rw [aV,if_neg (fun hh=>JN hh.1)];exact hj,cl.refl c⟩⟩
theorem xq {tt:Nat} {z:Value} {x:U.el tt}(hx:enc x=z.cells.toList)(n:Nat):(List.replicate n x).flatMap enc=(madeCells z.cells (n*(U.en tt).size)).toList:=by
 have hs:z.cells.size=(U.en tt).size:=by have:=bz x;rw [hx]at this;simpa using this
 have hp:0<Enc.size (U.el tt):=Enc.pos
 apply List.ext_getElem?
 intro j
 by_cases hj:j<n*Enc.size (U.el tt)
 ·have hq:j / Enc.size (U.el tt)<n:=(Nat.div_lt_iff_lt_mul hp).2 hj
  have hr:j % Enc.size (U.el tt)<Enc.size (U.el tt):=Nat.mod_lt _ hp
  have h4:=flat_get (List.replicate n x) (j / Enc.size (U.el tt)) (j % Enc.size (U.el tt)) x (by rw [List.getElem?_replicate,if_pos hq]) hr
  have h5:j / Enc.size (U.el tt)*Enc.size (U.el tt)+j % Enc.size (U.el tt)=j:=by rw [Nat.mul_comm];exact Nat.div_add_mod j _
  rw [h5]at h4
  rw [h4,hx]
  have Mg:j<n*(U.en tt).size:=hj
  have Jg:j % (U.en tt).size<z.cells.size:=by rw [hs];exact hr
  have e1:(madeCells z.cells (n*(U.en tt).size)).toList[j]? =some (z.cells[j % z.cells.size]!):=by
   simp [madeCells,Mg]
  rw [e1,hs]
  show z.cells.toList[j % (U.en tt).size]? =_
  rw [Array.getElem?_toList,Array.getElem?_eq_getElem Jg,getElem!_pos z.cells _ Jg]
 ·rw [List.getElem?_eq_none (by rw [gX,List.length_replicate];omega),List.getElem?_eq_none (by rw [Array.length_toList,size_madeCells];exact Nat.le_of_not_lt hj)]
def Ba(fr:Fr)(w0:World)(k0:Nat)(X0:Nat→Nat→Prop)(may:List Nat)(st:St U)(X:Nat→Nat→Prop)(w:World)(K:dY U):Option (List PanicEntry→World→Prop):=
 some fun ch w'=>∃v st' X' M,ch= [⟨v,false,false⟩]∧K v (some .pan) st'∧cU w0 k0 X0 may fr st X w st' X' w' M
theorem Cj {Y:Bool} {q:List PanicEntry→World→Prop} {o:Oper} {ρ:Operand→Value} {K:ax}(h:opW P Y (some q) o ρ w K)(hq:∀ch w',q ch w'→False):opW P Y none o ρ w K:=by
 refine⟨h.1,?_⟩
 have h2:=h.2
 generalize (execOp ρ o).run P w=r at h2 ⊢
 cases r with
 | ok nx w'=>
  cases nx<;>simp only [Out]at h2 ⊢
  case value v=>exact h2
  case skip=>exact h2
  case enter f args=>exact h2.mono fun e w'' he=>he.imp id fun⟨ch,_,h2⟩=>(hq _ _ h2).elim
  case round l f tmps assign body=>exact⟨h2.1,h2.2.mono fun e w'' he=>he.imp id fun⟨ch,_,h2⟩=>(hq _ _ h2).elim⟩
 | halt x w'=>
  cases x<;>simp only [Out]at h2 ⊢
  exact(hq _ _ h2).elim
theorem yJ {Y:Bool} {q q':List PanicEntry→World→Prop} {o:Oper} {ρ:Operand→Value} {K:ax}(h:opW P Y (some q) o ρ w K)(hq:∀ch w',q ch w'→q' ch w'):opW P Y (some q') o ρ w K:=by
 refine⟨h.1,?_⟩
 have h2:=h.2
 generalize (execOp ρ o).run P w=r at h2 ⊢
 cases r with
 | ok nx w'=>
  cases nx<;>simp only [Out]at h2 ⊢
  case value v=>exact h2
  case skip=>exact h2
  case enter f args=>exact h2.mono fun e w'' he=>he.imp id fun⟨ch,h1,h2⟩=>⟨ch,h1,hq _ _ h2⟩
  case round l f tmps assign body=>exact⟨h2.1,h2.2.mono fun e w'' he=>he.imp id fun⟨ch,h1,h2⟩=>⟨ch,h1,hq _ _ h2⟩⟩
 | halt x w'=>
  cases x<;>simp only [Out]at h2 ⊢
  exact hq _ _ h2
theorem oH {Y:Bool} {Qp:Option (List PanicEntry→World→Prop)} {o:Oper} {ρ:Operand→Value} {K K':ax}(h:opW P Y Qp o ρ w K)(hK:∀v w',K v w'→K' v w'):opW P Y Qp o ρ w K':=by
 refine⟨h.1,?_⟩
 have h2:=h.2
 generalize (execOp ρ o).run P w=r at h2 ⊢
 cases r with
 | ok nx w'=>
  cases nx<;>simp only [Out]at h2 ⊢
  case value v=>exact hK _ _ h2
  case skip=>exact hK _ _ h2
  case enter f args=>exact h2.mono fun e w'' he=>he.imp (fun⟨v,h1,h2⟩=>⟨v,h1,hK _ _ h2⟩) id
  case round l f tmps assign body=>exact⟨h2.1,h2.2.mono fun e w'' he=>he.imp (fun⟨v,h1,h2⟩=>⟨v,h1,hK _ _ h2⟩) id⟩
 | halt x w'=>
  cases x<;>simp only [Out]at h2 ⊢
  exact h2
theorem Inv.F8 {rs rs':List (Res U)}(h:Inv w0 k0 X0 may rs X w)(hl:rs'.length≤rs.length)(he:∀i,i<rs'.length→nth rs' i=nth rs i)(hk:k0≤rs'.length):Inv w0 k0 X0 may rs' X w:=
 ⟨⟨fun i r hr=>h.sat.res i r (by rw [← he i (aP hr)];exact hr),fun i j hi hj=>h.sat.dis i j (by omega) (by omega)⟩,h.ch,h.old,fun i h1 h2=>h.new i h1 (by omega),hk⟩
theorem yF {k:Option Kn} {B:Prop}(h:xg k False B):B:=by
 unfold xg at h
 split at h
 ·exact h.elim
 ·exact h
theorem CI:∀ {s:Sh} {F:Value→Prop},H9 s F→∃v,F v
 | .int _,_,⟨_,h⟩=>⟨_,h⟩
 | .bool,_,⟨_,h⟩=>⟨_,h⟩
 | .str,_,⟨_,h⟩=>⟨_,h⟩
 | .ptr,_,⟨_,h⟩=>⟨_,h⟩
 | .slice,_,⟨_,h⟩=>⟨_,h⟩
 | .map,_,⟨_,h⟩=>⟨_,h⟩
 | .val,_,⟨_,h⟩=>⟨_,h⟩
theorem yH {α:Type} {F:α→Prop}:∀ {l:List α},orL F l→∃a,F a
 | [a],h=>⟨a,h⟩
 | a::b::r,h=>by
  rcases h with h | h
  ·exact⟨a,h⟩
  ·exact yH (l:=b::r) h
theorem EX {args:List Operand}(hk:aw st.rs fr st.kn):∀j v k,nth (aD (ev fr) args) j=some v→nth (aD (V.kf st.kn) args) j=some k→KnO st.rs v k:=by
 intro j v k h1 h2
 rw [ba]at h1 h2
 cases hn:nth args j with
 | none=>rw [hn]at h1;cases h1
 | some x=>
  rw [hn]at h1 h2
  injection h1 with h1
  injection h2 with h2
  subst h1;subst h2
  exact hk.kf x
theorem Cx {rs:List (Res U)} {a1 a2:List Value} {k1 k2:List (Option Kn)}(hl:a1.length=k1.length)(h1:∀j v k,nth a1 j=some v→nth k1 j=some k→KnO rs v k)(h2:∀j v k,nth a2 j=some v→nth k2 j=some k→KnO rs v k):∀j v k,nth (a1++a2) j=some v→nth (k1++k2) j=some k→KnO rs v k:=by
 intro j v k hj JG
 rw [aU]at hj JG
 by_cases hc:j<a1.length
 ·rw [if_pos hc]at hj
  rw [if_pos (by omega)]at JG
  exact h1 j v k hj JG
 ·rw [if_neg hc]at hj
  rw [if_neg (by omega),← hl]at JG
  exact h2 _ v k hj JG
theorem Gm {K:dY U} {Y:Bool} {dst:Option Tmp} {ty:TypeId} {pos:String} {after:Array Edge} {gd:Option (Nat×Bool)} {f:Operand} {args:Array Operand} {ats:Array TypeId} {f':Nat} {first cap:Array Value} {ks:List (Option Kn)}(JZ:∀f c,tbl.c f=some c→LV U P f c∧bB P f=true)(hI:Inv w0 k0 X0 may st.rs X w)(hk:aw st.rs fr st.kn)(hf:ev fr f= .func (.func f') first cap)
 (Td:∀j v k,nth (first.toList++(aD (ev fr) args.toList++cap.toList)) j=some v→nth ks j=some k→KnO st.rs v k)(h:call2 U tbl may k0 f' (first.toList++(aD (ev fr) args.toList++cap.toList)) ks st K):
 opW P Y (Ba fr w0 k0 X0 may st X w K) {dst:=dst,op:= .call {callee:= .value f,args:=args,argTypes:=ats},type:=ty,pos:=pos,after:=after,guard:=gd} (ev fr) w fun v w'=>∃k st' X' M,K v k st'∧KnO st'.rs v k∧cU w0 k0 X0 may fr st X w st' X' w' M:=by
 have Lt:bB P f'=true:=by
  unfold call2 at h
  split at h
  ·exact h.elim
  ·rename_i c hc;exact(JZ f' c hc).2
 refine⟨rfl,?_⟩
 have h1:=dq (P:=P) (C:= [f']) (f:=f') (by simp [dy,Lt]) (by simp) (first++args.map (ev fr)++cap) w
 have hr:(execOp (ev fr) {dst:=dst,op:= .call {callee:= .value f,args:=args,argTypes:=ats},type:=ty,pos:=pos,after:=after,guard:=gd}).run P w= .ok (.enter f' (first++args.map (ev fr)++cap)) w:=by
  simp only [execOp,resolve,hf,Deferred.ofValue]
  rw [Sem.run_bind]
  exact h1
 rw [hr]
 have ha:(⟨first.toList++(aD (ev fr) args.toList++cap.toList)⟩:Array Value)=first++args.map (ev fr)++cap:=by
  apply Array.ext'
  simp [eV]
 have:=rC (fun f c h=>(JZ f c h).1) hI hk Td h
 rw [ha]at this
 refine this.mono fun e w' hp=>?_
 obtain⟨v,k,st',X',M,rfl,h2,h3,h4⟩:=hp
 rcases h3 with rfl | h3
 ·exact .inr ⟨_,rfl,v,st',X',M,rfl,h2,h4⟩
 ·refine .inl ⟨v,?_,k,st',X',M,h2,h3,h4⟩
  cases k with
  | none=>rfl
  | some k=>cases k<;>first | rfl | exact h3.elim
theorem Im {K:dY U} {Y:Bool} {dst:Option Tmp} {ty:TypeId} {pos:String} {after:Array Edge} {gd:Option (Nat×Bool)} {x:Operand} {name:String} {args:Array Operand} {ats:Array TypeId} {t:TypeId} {u:Value} {f':Nat} {ks:List (Option Kn)}(JZ:∀f c,tbl.c f=some c→LV U P f c∧bB P f=true)(hI:Inv w0 k0 X0 may st.rs X w)(hk:aw st.rs fr st.kn)(hx:ev fr x= .iface t u)(hm:uF P t name=some f')
 (Td:∀j v k,nth (u::aD (ev fr) args.toList) j=some v→nth ks j=some k→KnO st.rs v k)(h:call2 U tbl may k0 f' (u::aD (ev fr) args.toList) ks st K):
 opW P Y (Ba fr w0 k0 X0 may st X w K) {dst:=dst,op:= .call {callee:= .invoke x name,args:=args,argTypes:=ats},type:=ty,pos:=pos,after:=after,guard:=gd} (ev fr) w fun v w'=>∃k st' X' M,K v k st'∧KnO st'.rs v k∧cU w0 k0 X0 may fr st X w st' X' w' M:=by
 have Lt:bB P f'=true:=by
  unfold call2 at h
  split at h
  ·exact h.elim
  ·rename_i c hc;exact(JZ f' c hc).2
 refine⟨rfl,?_⟩
 have h1:=dq (P:=P) (C:= [f']) (f:=f') (by simp [dy,Lt]) (by simp) (#[u]++args.map (ev fr)) w
 have he:(#[ev fr x]++args.map (ev fr)).extract 1 (#[ev fr x]++args.map (ev fr)).size=args.map (ev fr):=by
  apply Array.ext'
  simp
  exact List.take_of_length_le (by simp)
 have hr:(execOp (ev fr) {dst:=dst,op:= .call {callee:= .invoke x name,args:=args,argTypes:=ats},type:=ty,pos:=pos,after:=after,guard:=gd}).run P w= .ok (.enter f' (#[u]++args.map (ev fr))) w:=by
  simp only [execOp,resolve]
  rw [Sem.run_bind]
  show(invoke (.fn (.method name) #[]) (#[ev fr x]++args.map (ev fr))).run P w=_
  have e0:(#[ev fr x]++args.map (ev fr))[0]? =some (.iface t u):=by rw [hx,Array.getElem?_append_left (by simp)];rfl
  simp only [invoke,e0,he]
  simp only [callMethod]
  rw [Sem.run_bind]
  have hp:(program:Sem Program).run P w= .ok P w:=rfl
  rw [hp]
  change Sem.run P (method (P.types.size+Made.depth) t u name>>=fun p=>callFunc p.1 (#[p.2]++Array.map (ev fr) args)) w=_
  rw [Sem.run_bind,ri hm]
  exact h1
 rw [hr]
 have ha:(⟨u::aD (ev fr) args.toList⟩:Array Value)= #[u]++args.map (ev fr):=by
  apply Array.ext'
  simp [eV]
 have:=rC (fun f c h=>(JZ f c h).1) hI hk Td h
 rw [ha]at this
 refine this.mono fun e w' hp=>?_
 obtain⟨v,k,st',X',M,rfl,h2,h3,h4⟩:=hp
 rcases h3 with rfl | h3
 ·exact .inr ⟨_,rfl,v,st',X',M,rfl,h2,h4⟩
 ·refine .inl ⟨v,?_,k,st',X',M,h2,h3,h4⟩
  cases k with
  | none=>rfl
  | some k=>cases k<;>first | rfl | exact h3.elim
theorem vi {K:dY U} {Y:Bool} {dst:Option Tmp} {ty:TypeId} {pos:String} {after:Array Edge} {gd:Option (Nat×Bool)} {f:Operand} {args:Array Operand} {ats:Array TypeId}(JZ:∀f c,tbl.c f=some c→LV U P f c∧bB P f=true)(hI:Inv w0 k0 X0 may st.rs X w)(hk:aw st.rs fr st.kn)
 (h:zh U tbl may k0 (ev fr f) (aD (ev fr) args.toList) (aD (V.kf st.kn) args.toList) st K):
 opW P Y (Ba fr w0 k0 X0 may st X w K) {dst:=dst,op:= .call {callee:= .value f,args:=args,argTypes:=ats},type:=ty,pos:=pos,after:=after,guard:=gd} (ev fr) w fun v w'=>∃k st' X' M,K v k st'∧KnO st'.rs v k∧cU w0 k0 X0 may fr st X w st' X' w' M:=by
 obtain⟨r,h1,hK⟩:=CI h
 obtain⟨⟨f',az,bs⟩,h2⟩:=yH h1
 dsimp only at h2
 split at h2
 ·rename_i hd
  simp only [Bool.and_eq_true]at hd
  obtain⟨hf,h2⟩:=h2
  have pk:∀ {l:List PK},gF (z8 st.rs) l=true→∀j v k,nth (aD (dv st.rs) l) j=some v→nth (aD (fun p=>some (Kn.p p)) l) j=some k→KnO st.rs v k:=by
   intro l hl j v k hj JG
   rw [ba]at hj JG
   cases hn:nth l j with
   | none=>rw [hn]at hj;cases hj
   | some p=>
    rw [hn]at hj JG
    injection hj with hj
    injection JG with JG
    subst hj;subst JG
    have:=bP.1 hl p (fv hn)
    unfold z8 at this
    show den U st.rs p=some (dv st.rs p)
    unfold dv
    split at this
    ·rename_i u hu;rw [hu];rfl
    ·cases this
  refine oH (yJ (q':=fun ch w'=>∃v st' X' M,ch= [⟨v,false,false⟩]∧K v (some .pan) st'∧cU w0 k0 X0 may fr st X w st' X' w' M) (hq:=fun ch w' ⟨_,_,_,_,_,h,_⟩=>h.elim) (Gm (K:=_) (first:=⟨aD (dv st.rs) az⟩) (cap:=⟨aD (dv st.rs) bs⟩) JZ hI hk hf (Cx (by simp) (pk hd.1) (Cx (by simp) (EX hk) (pk hd.2))) h2)) fun v w' hp=>?_
  obtain⟨k,st',X',M,g1,g2,g3⟩:=hp
  have g1:=yF g1
  split at g1
  ·rename_i hl
   subst g1
   simp only [Bool.and_eq_true]at hl
   have l1:=Nat.eq_of_beq_eq_true hl.1
   have l2:=Nat.eq_of_beq_eq_true hl.2
   have hM:M= []:=by
    have:=g3.md
    rw [this,List.length_append]at l2
    exact List.eq_nil_of_length_eq_zero (by omega)
   subst hM
   refine⟨none,st,X',[],hK,trivial,g3.inv.F8 (by omega) (fun i hi=>(g3.same i hi (by simp)).1.symm) hI.len,hk,rfl,fun i hi=>(by cases hi),fun i hi=>(by cases hi),Nat.le_refl _,fun i hi _=>⟨rfl,(g3.same i hi (by simp)).2⟩,fun i hi=>(by cases hi),fun i h1 h2=>by omega,g3.ch,fun i a ha=>⟨a,ha,cl.refl a⟩⟩
  ·exact g1.elim
 ·exact h2.elim
theorem nO:∀ {rs:List (Res U)} {r:Nat→Nat} {l:List (Int×Value)},mpL U rs=some (r,l)→∃i t s,nth rs i=some (.ob t r s)∧U.mp t s=some l
 | [],r,l,h=>by cases h
 | .ob t r0 s::rs,r,l,h=>by
  simp only [mpL]at h
  split at h
  ·rename_i m hm
   simp only [Option.some.injEq,Prod.mk.injEq]at h
   obtain⟨rfl,rfl⟩:=h
   exact⟨0,t,s,rfl,hm⟩
  ·obtain⟨i,t,s,h1,h2⟩:=nO h
   exact⟨i+1,t,s,h1,h2⟩
 | .blk .. ::rs,r,l,h=>by
  simp only [mpL]at h
  obtain⟨i,t,s,h1,h2⟩:=nO h
  exact⟨i+1,t,s,h1,h2⟩
 | .lst .. ::rs,r,l,h=>by
  simp only [mpL]at h
  obtain⟨i,t,s,h1,h2⟩:=nO h
  exact⟨i+1,t,s,h1,h2⟩
theorem ml {b:Bool} {x y:Prop}(h:split b x y)(hb:b=true):x:=(eB h).elim (·.2) fun h=>by rw [hb]at h;cases h.1
theorem fz {b:Bool} {x y:Prop}(h:split b x y)(hb:b=false):y:=(eB h).elim (fun h=>by rw [hb]at h;cases h.1) (·.2)
theorem yP:∀ {l:List (Int×Value)} {i:Int} {z:Value} {F:Value→Bool→Prop},lkS l i z F→F ((lkF l i).getD z) (lkF l i).isSome
 | [],i,z,F,h=>h
 | (a,v)::r,i,z,F,h=>by
  unfold lkS at h
  unfold lkF
  by_cases e:i=a
  ·rw [if_pos e];exact ml h (decide_eq_true e)
  ·rw [if_neg e];exact yP (fz h (decide_eq_false e))
theorem EV {T:TypeId} {z:Value}(h:lkT P T=some z)(w:World):∃K E,P.underlying T=some (.map K E)∧P.underlying K=some (.int .u32)∧(zeroValue E).run P w= .ok z w:=by
 unfold lkT at h
 split at h
 ·rename_i K E hT
  split at h
  ·rename_i hK
   cases hi:P.info? E with
   | none=>rw [hi]at h;cases h
   | some i=>
    rw [hi]at h
    exact⟨K,E,hT,hK,by simp [zeroValue,typeInfo,hi,show i.zero=some z from h]⟩
  ·cases h
 ·cases h
theorem Cq {o:Oper} {K:dY U} {Y:Bool}(JZ:∀f c,tbl.c f=some c→LV U P f c∧bB P f=true)(hI:Inv w0 k0 X0 may st.rs X w)(hk:aw st.rs fr st.kn)(h:GZ U P tbl may k0 o (ev fr) st K):
 opW P Y (Ba fr w0 k0 X0 may st X w K) o (ev fr) w fun v w'=>∃k st' X' M,K v k st'∧KnO st'.rs v k∧cU w0 k0 X0 may fr st X w st' X' w' M:=by
 obtain⟨dst,op,ty,pos,after,gd⟩:=o
 cases op<;>simp only [GZ]at h<;>skip
 case panic x=>
  refine⟨rfl,?_⟩
  split at h
  ·rename_i t v hx
   have hr:(execOp (ev fr) ⟨dst,.panic x,ty,pos,after,gd⟩).run P w= .halt (.panic (.iface t v)) w:=by
    simp [execOp,hx,Instr.panic,goPanic]
   rw [hr]
   exact⟨_,st,X,[],rfl,h,hI,hk,rfl,fun i hi=>(by cases hi),fun i hi=>(by cases hi),Nat.le_refl _,fun _ _ _=>⟨rfl,rfl⟩,fun i hi=>(by cases hi),fun i h1 h2=>by omega,Ch.refl _ _,fun i a ha=>⟨a,ha,cl.refl a⟩⟩
  ·exact h.elim
 case store t x y=>exact wT hI hk h
 case alloc t=>
  split at h
  ·rename_i z hz
   refine⟨rfl,?_⟩
   have hr:(execOp (ev fr) ⟨dst,.alloc t,ty,pos,after,gd⟩).run P w= .ok (.value (.pointer (some ⟨w.heap.size,0,none⟩))) (w.alloc (.cells z.cells t)):=by
    simp [execOp,Al hz]
   rw [hr]
   exact uB hI hk (v0:=undef) (ck:=none) trivial (.inl rfl) h
  ·exact h.elim
 case box t x=>
  refine⟨rfl,?_⟩
  have hr:(execOp (ev fr) ⟨dst,.box t x,ty,pos,after,gd⟩).run P w= .ok (.value (.pointer (some ⟨w.heap.size,0,none⟩))) (w.alloc (.cells (ev fr x).cells t)):=rfl
  rw [hr]
  exact uB hI hk (hk.kf x) (.inr rfl) h
 case call c=>
  obtain⟨cal,args,ats⟩:=c
  simp only at h
  split at h
  ·rename_i f
   split at h
   ·exact vi JZ hI hk h
   split at h
   ·rename_i f' first cap hf
    refine Gm JZ hI hk hf (fun j v k hj JG=>?_) h
    ·
     have K4:∀j v k,nth (aD (ev fr) args.toList) j=some v→nth (aD (V.kf st.kn) args.toList) j=some k→KnO st.rs v k:=by
      intro j v k h1 h2
      rw [ba]at h1 h2
      cases hn:nth args.toList j with
      | none=>rw [hn]at h1;cases h1
      | some x=>
       rw [hn]at h1 h2
       injection h1 with h1
       injection h2 with h2
       subst h1;subst h2
       exact hk.kf x
     have hfk:=hk.kf f
     have app:∀ {a1 a2:List Value} {k1 k2:List (Option Kn)},a1.length=k1.length→(∀j v k,nth a1 j=some v→nth k1 j=some k→KnO st.rs v k)→(∀j v k,nth a2 j=some v→nth k2 j=some k→KnO st.rs v k)→∀j v k,nth (a1++a2) j=some v→nth (k1++k2) j=some k→KnO st.rs v k:=by
      intro a1 a2 k1 k2 hl h1 h2 j v k hj JG
      rw [aU]at hj JG
      by_cases hc:j<a1.length
      ·rw [if_pos hc]at hj
       rw [if_pos (by omega)]at JG
       exact h1 j v k hj JG
      ·rw [if_neg hc]at hj
       rw [if_neg (by omega),← hl]at JG
       exact h2 _ v k hj JG
     have pt:∀ {vs:Array Value} {l:List (Option PK)},(∀j k,nth l j=some (some k)→∃u,vs[j]? =some u∧den U st.rs k=some u)→∀j v k,nth vs.toList j=some v→nth (aD (fun o:Option PK=>o.map Kn.p) l) j=some k→KnO st.rs v k:=by
      intro vs l hh j v k hj JG
      rw [ba]at JG
      cases hn:nth l j with
      | none=>rw [hn]at JG;cases JG
      | some o=>
       rw [hn]at JG
       injection JG with JG
       subst JG
       cases o with
       | none=>exact trivial
       | some p=>
        obtain⟨u,hu,hd⟩:=hh j p hn
        rw [aH]at hj
        simp at hj
        rw [hu]at hj
        injection hj with hj
        subst hj
        exact hd
     have no:∀ {vs:List Value},∀j v k,nth vs j=some v→nth (aD (fun _:Value=>(none:Option Kn)) vs) j=some k→KnO st.rs v k:=by
      intro vs j v k hj JG
      rw [ba,hj]at JG
      injection JG with JG
      subst JG
      exact trivial
     unfold H6 at JG
     split at JG
     ·rename_i a b hkf
      rw [hkf,hf]at hfk
      obtain⟨_,fs,cs,e,⟨Nc,Mw⟩,h3,h4⟩:=hfk
      injection e with _ e1 e2
      subst e1;subst e2
      exact app (by simp [Nc]) (pt h3) (app (by simp) K4 (pt h4)) j v k hj JG
     ·exact app (by simp) no (app (by simp) K4 no) j v k hj JG
   ·exact h.elim
  ·rename_i x name
   split at h
   ·rename_i t u hx
    split at h
    ·rename_i f' hm
     refine Im JZ hI hk hx hm (fun j v k hj JG=>?_) h
     cases j with
     | zero=>
      simp only [nth,Option.some.injEq]at JG
      subst JG
      exact trivial
     | succ j=>
      simp only [nth]at hj JG
      rw [ba]at hj JG
      cases hn:nth args.toList j with
      | none=>rw [hn]at hj;cases hj
      | some y=>
       rw [hn]at hj JG
       injection hj with hj
       injection JG with JG
       subst hj;subst JG
       exact hk.kf y
    ·exact h.elim
   ·exact h.elim
  ·split at h
   ·rename_i x y t t' ha hat
    split at h
    ·rename_i e tt ie z QG SL
     have SL:=Nat.eq_of_beq_eq_true SL
     subst SL
     obtain⟨PS,hi,hz,Js,Pc⟩:=ow QG
     obtain⟨l2,B,d,Y2,hy,LF,h⟩:=B3 hI.sat hk h
     have VF:args= #[x,y]:=by apply Array.ext';simpa using ha
     have hat':ats= #[t,t]:=by apply Array.ext';simpa using hat
     subst VF;subst hat'
     have key:∀ {A:Option Addr} {m c:Nat} {K':Value→World→Prop},ev fr x= .slice A m c→(∃(A':Option Addr)(n' c':Nat)(w2:World),(Builtin.append_ #[t,t] ty #[.slice A m c,.slice B l2.length d]:Sem Value).run P w= .ok (.slice A' n' c') w2∧K' (.slice A' n' c') w2)→
      opW P Y (Ba fr w0 k0 X0 may st X w K) {dst:=dst,op:= .call {callee:= .builtin .append,args:= #[x,y],argTypes:= #[t,t]},type:=ty,pos:=pos,after:=after,guard:=gd} (ev fr) w K':=by
      intro A m c K' hx hh
      obtain⟨A',n',c',w2,hr,hK⟩:=hh
      refine⟨rfl,?_⟩
      rw [kT (s:=Builtin.append_ #[t,t] ty #[.slice A m c,.slice B l2.length d]) (by simp [sk,hx,hy]) w hr]
      exact hK
     split at h
     ·rename_i id Kr
      split at h
      ·rename_i tt' T A0 c0 l hn JO
       split at h
       ·rename_i hT
        have hT:=Nat.eq_of_beq_eq_true hT
        subst hT
        split at h
        ·rename_i SL
         subst SL
         obtain⟨QR,h⟩:=h
         have Kq:=hk.kf x
         rw [Kr]at Kq
         have hd:den U st.rs (.sl id 0)=some (ev fr x):=Kq
         simp only [den,PK.id,hn,bF,gE,Option.some.injEq]at hd
         obtain⟨ho,Jt⟩:Own w (X id) T A0 l.length c0 l∧∀k,X id k→k<w.heap.size:=hI.sat.res id _ hn
         have MF:l.length+l2.length≤9223372036854775807:=by
          have:=Nat.le_mul_of_pos_right (l.length+l2.length) Pc
          omega
         have fin:∀(A':Option Addr)(c':Nat)(w2:World)(Z:Nat→Prop),Own w2 Z T A' (l++l2).length c' (l++l2)→(∀k,Z k→X id k∨w.heap.size≤k)→Ch (X id) w w2→∃k st' X' M,K (.slice A' (l++l2).length c') k st'∧KnO st'.rs (.slice A' (l++l2).length c') k∧cU w0 k0 X0 may fr st X w st' X' w2 M:=by
          intro A' c' w2 Z Mu SH hq
          have JR:cl (Res.lst tt' true T A0 c0 l) (.lst tt' true T A' c' (l++l2)):= .lst _ _ _ _ _ _ _ _ _
          have hat:nth (bt st.rs id (Res.lst tt' true T A' c' (l++l2))) id=some (.lst tt' true T A' c' (l++l2)):=by rw [aV,if_pos ⟨rfl,aP hn⟩]
          refine step_done (st':=⟨bt st.rs id (.lst tt' true T A' c' (l++l2)),dE [id] st.kn,id::st.md⟩) (k:=some (.p (.sl id 0))) (zI hI hn JO hq JR (Z:=fun k=>Z k∧k<w2.heap.size) (show RS _ w2 (.lst tt' true T A' c' (l++l2))from⟨Mu.narrow,fun k hk=>hk.2⟩) (fun k hk=>SH k hk.1) ?_) ?_ (h A' c')
          rotate_left
          ·show den U _ (.sl id 0)=_
           simp only [den,PK.id,hat,bF,gE]
          ·refine hk.dE (M:= [id]) (fun i _ hi=>by rw [aV,if_neg (fun hh=>hi (by simp [hh.1]))]) fun i hi a ha=>?_
           simp at hi
           subst hi
           rw [hn]at ha
           injection ha with ha
           subst ha
           exact⟨_,hat,JR⟩
         refine key hd.symm ?_
         refine Own.apps (ho.mono (Y:=fun k=>X id k∨w.heap.size≤k) fun k hk=>.inl hk) PS LF MF QR (.inr (Nat.le_refl _)) (fun A' c' w2 Mu hq=>?_) (fun h0 hB=>?_)
         ·rw [← List.length_append]at Mu ⊢
          refine fin A' c' w2 _ Mu (fun k hk=>hk) ⟨hq.kept.mono fun k hk=>⟨hk.1,fun hh=>hh.elim hk.2 (fun hh=>absurd hk.1 (Nat.not_lt.2 hh))⟩⟩
         ·have Mw:l2= []:=List.eq_nil_of_length_eq_zero h0
          subst Mw
          refine⟨_,_,_,_,run_append_nothing w t t ty T ie PS.und hi A0 l.length c0 ho.own.CT _ (Src.ofNil _ PS.und d),?_⟩
          have:=fin A0 c0 w (X id) (by rw [List.append_nil];exact ho) (fun k hk=>.inl hk) (Ch.refl _ _)
          rw [List.append_nil]at this
          exact this
        ·exact h.elim
       ·exact h.elim
      ·exact h.elim
     ·split at h
      ·rename_i hx
       obtain⟨QR,h⟩:=h
       have MF:l2.length≤9223372036854775807:=by
        have:=Nat.le_mul_of_pos_right l2.length Pc
        omega
       refine key hx ?_
       refine tf PS LF MF QR fun A' c' w2 Mu hq=>?_
       exact oL hI hk hq Mu (fun k hk=>hk.1) rfl (h A' c')
      ·exact h.elim
     ·exact h.elim
    ·exact h.elim
   ·exact h.elim
  ·exact h.elim
 case buildSlice t len parts=>
  split at h
  ·rename_i e tt ie z QG
   obtain⟨PS,hi,hz,Js,Pc⟩:=ow QG
   split at h
   ·rename_i cells hf hb
    split at h
    ·rename_i l hl
     simp only [Bool.and_eq_true]at hb
     have h1:0<len:=by simpa [Nat.blt_eq]using hb.1
     have h2:len*ie.size≤16777216:=Nat.le_of_ble_eq_true hb.2
     have SW:0<ie.size:=by rw [Js];exact(U.en tt).pos
     have hls:0<len*ie.size:=Nat.mul_pos h1 SW
     obtain⟨Ub,hlf⟩:=uY hl
     refine⟨rfl,?_⟩
     have hr:(execOp (ev fr) {dst:=dst,op:= .buildSlice t len parts,type:=ty,pos:=pos,after:=after,guard:=gd}).run P w= .ok (.value (.slice (some ⟨w.heap.size,0,none⟩) len len)) (w.alloc (.cells cells e)):=by
      have:=Go.run_buildSlice (P:=P) w t e len (parts.map fun(ix:Nat×Operand)=>(ix.1,ev fr ix.2)) cells ie z PS.und hi hz (by omega) (by omega) hf
      simp only [execOp]
      rw [Sem.run_bind,this]
      rfl
     rw [hr]
     have Kg:cells.size=len*(U.en tt).size:=by
      rw [← Array.length_toList,← hlf,gX,Ub]
     have J0:=World.ownsRow_lit (base:=0) (e:=e) (size:=(U.en tt).size) w cells len (Nat.zero_le _) (by
      have:=Nat.le_mul_of_pos_right len SW
      simp only [maxLen];omega) Kg
     refine oL hI hk (Z:=fun k=>k=w.heap.size) (show Pu w (w.alloc (.cells cells e))from(made (w2:=w.alloc (.cells cells e)) rfl rfl).pu) ⟨⟨?_,fun a ha=>by injection ha with ha;rw [← ha]⟩,rfl⟩ (fun k e=>by rw [e];exact Nat.le_refl _) (by rw [Ub]) (h w.heap.size)
     rw [hlf,Ub]
     exact J0
    ·exact h.elim
   ·exact h.elim
  ·exact h.elim
 case lookup T x ix ok=>
  cases ok with
  | false=>exact h.elim
  | true=>
   simp only at h
   split at h
   ·rename_i g i z r l hx hi hz hm
    obtain⟨rfl,h⟩:=h
    obtain⟨j,t,s,hn,hmp⟩:=nO hm
    obtain⟨K,E,h1,h2,h3⟩:=EV hz w
    have hr:=zN h1 h2 h3 (U.uD (hI.sat.res j _ hn) hmp) i
    refine⟨rfl,?_⟩
    rw [kT (s:=Instr.lookup T (.map (some (r 0))) (.int .u32 i) true) (by simp [sk,hx,hi]) w hr]
    exact⟨none,st,X,[],yP h,trivial,hI,hk,rfl,fun i hi=>(by cases hi),fun i hi=>(by cases hi),Nat.le_refl _,fun _ _ _=>⟨rfl,rfl⟩,fun i hi=>(by cases hi),fun i h1 h2=>by omega,Ch.refl _ _,fun i a ha=>⟨a,ha,cl.refl a⟩⟩
   ·exact h.elim
 case makeSlice t l c=>
  split at h
  ·rename_i a b e tt ie z hla hlb QG
   obtain⟨PS,hi,hz,Js,Pc⟩:=ow QG
   split at h
   ·rename_i x hx
    obtain⟨⟨rfl,h0,hb⟩,h⟩:=h
    have MF:a≤9223372036854775807:=by
     have h9:(1:Int)*a≤(ie.bytes:Int)*a:=Int.mul_le_mul_of_nonneg_right (by omega) h0
     omega
    have hr:=run_make (P:=P) w t e ie z PS.und hi hz .i64 .i64 a a h0 (Int.le_refl _) hb MF
    refine⟨rfl,?_⟩
    rw [kT (s:=Instr.makeSlice t (.int .i64 a) (.int .i64 a)) (by simp [sk,hla,hlb]) w hr]
    have Ky:=xq (x:=x) (U.iP hx) a.toNat
    have hlen:(List.replicate a.toNat x).length=a.toNat:=List.length_replicate
    rw [Js]
    have J0:=World.ownsRow_lit (base:=0) (e:=e) (size:=(U.en tt).size) w (madeCells z.cells (a.toNat *(U.en tt).size)) a.toNat (Nat.zero_le _) (by simp only [maxLen];omega) (size_madeCells _ _)
    refine oL hI hk (Z:=fun k=>k=w.heap.size) (l:=List.replicate a.toNat x) (c:=a.toNat) (T:=e) (A:=some ⟨w.heap.size,0,none⟩) ((made (w2:=w.alloc (.cells (madeCells z.cells (a.toNat *(U.en tt).size)) e)) rfl rfl).pu) ⟨⟨?_,fun a ha=>by injection ha with ha;rw [← ha]⟩,rfl⟩ (fun k e=>by rw [e];exact Nat.le_refl _) (by rw [hlen]) ?_
    ·rw [Ky,hlen]
     exact J0
    ·have:=h w.heap.size
     rw [hlen]at this
     exact this
   ·exact h.elim
  ·exact h.elim
theorem yL {o:Oper} {K:dY U} {Y:Bool}(JZ:∀f c,tbl.c f=some c→LV U P f c∧bB P f=true)(hI:Inv w0 k0 X0 may st.rs X w)(hk:aw st.rs fr st.kn)(h:op2 U P tbl may k0 o (ev fr) st K):
 opW P Y (Ba fr w0 k0 X0 may st X w K) o (ev fr) w fun v w'=>∃k st' X' M,K v k st'∧KnO st'.rs v k∧cU w0 k0 X0 may fr st X w st' X' w' M:=by
 unfold op2 at h
 split at h
 ·exact Cq JZ hI hk h
 ·obtain⟨v,k,h1,h2,h3⟩:=rj hI.sat hk h
  have hr:=h3 w (Kept.refl _ _)
  refine⟨?_,?_⟩
  ·obtain⟨dst,op,ty,pos,after,gd⟩:=o
   cases op<;>first | rfl | skip
   exact absurd (show mY P _ _ _ from h) (fun hh=>hh.elim)
  ·rw [hr]
   exact⟨k,st,X,[],h1,h2,hI,hk,rfl,fun i hi=>(by cases hi),fun i hi=>(by cases hi),Nat.le_refl _,fun _ _ _=>⟨rfl,rfl⟩,fun i hi=>(by cases hi),fun i h1 h2=>by omega,Ch.refl _ _,fun i a ha=>⟨a,ha,cl.refl a⟩⟩
structure Steps(w0:World)(k0:Nat)(X0:Nat→Nat→Prop)(may:List Nat)(st:St U)(X:Nat→Nat→Prop)(st':St U)(X':Nat→Nat→Prop)(w':World):Prop where
 inv:Inv w0 k0 X0 may st'.rs X' w'
 len:st.rs.length≤st'.rs.length
 md:∃L,st'.md=L++st.md∧(∀i,i∈L→i∈may∨k0≤i)∧∀i,i<st.rs.length→i ∉ L→nth st'.rs i=nth st.rs i∧X' i=X i
 root:∀i a,nth st.rs i=some a→∃b,nth st'.rs i=some b∧cl a b
theorem Steps.refl(h:Inv w0 k0 X0 may st.rs X w):Steps w0 k0 X0 may st X st X w:=⟨h,Nat.le_refl _,⟨[],rfl,fun i hi=>(by cases hi),fun _ _ _=>⟨rfl,rfl⟩⟩,fun i a ha=>⟨a,ha,cl.refl a⟩⟩
theorem Steps.trans {N3 Ka:St U} {X1 X2:Nat→Nat→Prop} {w1 w2:World}(h:Steps w0 k0 X0 may st X N3 X1 w1)(k:Steps w0 k0 X0 may N3 X1 Ka X2 w2):Steps w0 k0 X0 may st X Ka X2 w2:=by
 obtain⟨L,hL,cL,hl⟩:=h.md
 obtain⟨M,hM,cM,hm⟩:=k.md
 exact⟨k.inv,Nat.le_trans h.len k.len,⟨M++L,by rw [hM,hL,List.append_assoc],fun i hi=>(List.mem_append.1 hi).elim (cM i) (cL i),fun i hi hn=>by
  rw [List.mem_append,not_or]at hn
  obtain⟨e1,e2⟩:=hm i (Nat.lt_of_lt_of_le hi h.len) hn.1
  obtain⟨e3,e4⟩:=hl i hi hn.2
  exact⟨e1.trans e3,e2.trans e4⟩⟩,fun i a ha=>by
  obtain⟨b,hb,hr⟩:=h.root i a ha
  obtain⟨c,hc,Py⟩:=k.root i b hb
  exact⟨c,hc,hr.trans Py⟩⟩
theorem cU.steps {st':St U} {X':Nat→Nat→Prop} {w':World} {M:List Nat}(h:cU w0 k0 X0 may fr st X w st' X' w' M):Steps w0 k0 X0 may st X st' X' w':=⟨h.inv,h.len,⟨M,h.md,h.can,fun i hi hm=>h.same i hi hm⟩,h.root⟩
theorem Steps.kn {st' Ka:St U} {X':Nat→Nat→Prop} {w':World}(h:Steps w0 k0 X0 may st X st' X' w')(h1:Ka.rs=st'.rs)(h2:Ka.md=st'.md):Steps w0 k0 X0 may st X Ka X' w':=by
 obtain⟨a,b,c,d⟩:=h
 exact⟨by rw [h1];exact a,by rw [h1];exact b,by rw [h1,h2];exact c,by rw [h1];exact d⟩
variable {n:Nat} {N:List Nat} {ops:Array Oper}
theorem fA {dst:Option Tmp} {v:Value} {F G:Fr→Prop}(h:gB n N fr dst v F)(hF:∀fr',F fr'→G fr'):gB n N fr dst v G:=by
 unfold gB at h ⊢
 cases dst with
 | none=>exact hF _ h
 | some d=>
  simp only at h ⊢
  split at h
  ·split at h
   ·cases v with
    | int k x=>exact fun z hz=>hF _ (h z hz)
    | bool x=>exact fun z hz=>hF _ (h z hz)
    | _=>exact hF _ h
   ·exact hF _ h
  ·exact h.elim
def Aft(w0:World)(k0:Nat)(X0:Nat→Nat→Prop)(may:List Nat)(st:St U)(X:Nat→Nat→Prop)(ds:List Deferred)(K:Fr→St U→Prop)(fr':Fr)(w':World):Prop:=
 ∃st' X',Steps w0 k0 X0 may st X st' X' w'∧aw st'.rs fr' st'.kn∧fr'.ds=ds∧K fr' st'
def BQ(M:Fr→Oper→World→ax→Prop)(n:Nat)(N:List Nat)(ops:Array Oper)(K:Fr→World→Prop):List Oper→Fr→World→Prop
 | [],fr,w=>K fr w
 | o::rest,fr,w=>fh ops o fr
  (fun fr=>M fr o w (fun v w'=>gB n N fr o.dst v fun fr'=>BQ M n N ops K rest fr' w'))
  (fun fr=>gB n N fr o.dst undef fun fr'=>BQ M n N ops K rest fr' w)
def ki(n:Nat)(ws:List Nat)(a0:Act)(Q:QF):Exit→Act→World→Prop
 | .outgrown,_,_=>False
 | x,a,w=>∃fr,Rep n fr a∧Q x fr w∧Agr ws a0 a
theorem kq {Qp:Fr→List PanicEntry→World→Prop} {K:Fr→World→Prop} {ws:List Nat} {a0:Act} {r:Option Nat}:
 ∀(l:List Oper),(∀o∈l,∀d,o.dst=some d→d∈ws)→∀(fr:Fr)(a:Act)(w:World),Rep n fr a→Agr ws a0 a→BQ (fun fr o w K=>opW P true (some (Qp fr)) o (ev fr) w K) n N ops K l fr w→
  wpListIn (WF r) 0 P ops (ki n ws a0 fun x fr w=>match x with | .normal=>K fr w | .panic ch=>Qp fr ch w | _=>False) l a w
 | [],_,fr,a,w,hr,ha,h=>⟨fr,hr,h,ha⟩
 | o::rest,hd,fr,a,w,hr,ha,h=>by
  obtain⟨fr',Jg,hh⟩:=iL hr h
  simp only [wpListIn]
  rcases hh with⟨hw,hh⟩ | ⟨hw,hh⟩
  ·rw [if_pos hw]
   refine yI (K:=fun fr' w'=>BQ (fun fr o w K=>opW P true (some (Qp fr)) o (ev fr) w K) n N ops K rest fr' w') Jg ha (hd o (List.mem_cons_self ..)) hh ?_ ?_
   ·intro JQ a2 w2 h2 h3 h4
    exact kq rest (fun o' MT=>hd o' (List.mem_cons_of_mem _ MT)) JQ a2 w2 h2 h3 h4
   ·intro ch w' hq
    exact⟨fr',Jg,hq,ha⟩
  ·rw [if_neg (by rw [hw];simp)]
   obtain⟨JQ,h2,h3⟩:=eQ Jg hh
   exact⟨iR,kq rest (fun o' MT=>hd o' (List.mem_cons_of_mem _ MT)) JQ _ w h2 (ha.trans (Agr.put a o.dst undef (hd o (List.mem_cons_self ..)))) h3⟩
theorem Cg {k:Option Kn} {A B:Prop} {rs:List (Res U)} {v:Value}(h:xg k A B)(hk:KnO rs v k):B:=by
 unfold xg at h
 split at h
 ·exact hk.elim
 ·exact h
theorem n4 {K:Fr→St U→Prop} {Kp:List PanicEntry→Fr→St U→Prop}(JZ:∀f c,tbl.c f=some c→LV U P f c∧bB P f=true):∀(l:List Oper)(fr:Fr)(st0 st:St U)(Xs X:Nat→Nat→Prop)(w:World)(ds:List Deferred),Steps w0 k0 X0 may st0 Xs st X w→aw st.rs fr st.kn→fr.ds=ds→zz U P tbl may k0 n N ops K Kp l fr st→
 BQ (fun fr o w K=>opW P true (some fun ch w'=>Aft w0 k0 X0 may st0 Xs ds (Kp ch) fr w') o (ev fr) w K) n N ops (Aft w0 k0 X0 may st0 Xs ds K) l fr w
 | [],fr,st0,st,Xs,X,w,ds,hS,hk,hd,h=>⟨st,X,hS,hk,hd,h⟩
 | o::rest,fr,st0,st,Xs,X,w,ds,hS,hk,hd,h=>by
  refine js h (fun fr' hl KG h=>?_) (fun fr' hl KG h=>?_)
  ·have Lr:=hk.same hl
   refine oH (yJ (yL JZ hS.inv Lr h) ?_) fun v w' hp=>?_
   ·rintro ch w' ⟨v,st',X',M,rfl,h1,h3⟩
    exact⟨st',X',hS.trans h3.steps,h3.kn,by rw [KG,hd],h1⟩
   ·obtain⟨k,st',X',M,h1,h2,h3⟩:=hp
    refine fA (gR (Cg h1 h2) h3.kn h2) fun JQ hp=>?_
    obtain⟨Ka,e1,e2,h4,h5,h6⟩:=hp
    exact n4 JZ rest JQ st0 Ka Xs X' w' ds ((hS.trans h3.steps).kn e1 e2) (by rw [e1];exact h4) (by rw [h5,KG,hd]) h6
  ·have Lr:=hk.same hl
   refine fA (gR h Lr trivial) fun JQ hp=>?_
   obtain⟨Ka,e1,e2,h4,h5,h6⟩:=hp
   exact n4 JZ rest JQ st0 Ka Xs X w ds (hS.kn e1 e2) (by rw [e1];exact h4) (by rw [h5,KG,hd]) h6
theorem Inv.drew(h:Inv w0 k0 X0 may st.rs X w):Inv w0 k0 X0 may st.rs X w.drew:=h.pu (Pu.cu w)
structure BOk(V:List Nat)(rd:List (Nat×List Nat))(b:Nat→Nat→Prop)(rs:List (Res U))(X:Nat→Nat→Prop)(w:World):Prop where
 has:∀i id k,id∈mW i rd→id<rs.length→X id k→b i k
 all:∀i k,i∈V→b i k
 only:∀i k,i ∉ V→b i k→k<w.heap.size∧∀j,j<rs.length→X j k→j∈mW i rd
end
end
end Go.Proofs.YtfgpafjlcgaimaaGreatDoor.V
namespace Go.Proofs.YtfgpafjlcgaimaaGreatDoor.V
open Go Go.RowKit
open Go.IntKind (i64 u32 u64)
section
section
variable {U:Uni} {P:Program} {tbl:Tb U} {may:List Nat} {k0:Nat}
variable {w0:World} {X0 X:Nat→Nat→Prop} {w:World} {fr:Fr} {st:St U} {n:Nat} {N:List Nat} {ops:Array Oper}
def MSw(P:Program):HB:=fun B o ρ w F=>∃v,F v∧∀w',Kept (held B w) w w'→(execOp ρ o).run P w'= .ok (.value v) w'
theorem rI {F G:Nat→Prop}:∀ {l:List Nat},xN F l→(∀i,F i→G i)→xN G l
 | [],_,_=>trivial
 | [_],h,hg=>hg _ h
 | _::j::r,h,hg=>⟨hg _ h.1,rI (l:=j::r) h.2 hg⟩
theorem vt {b:Nat→Nat→Prop}:∀ {l:List Nat} {k:Nat},cn b l k→∃i,i∈l∧b i k
 | [i],k,h=>⟨i,by simp,h⟩
 | i::j::r,k,h=>by
  rcases h with h | h
  ·exact⟨i,by simp,h⟩
  ·obtain⟨i',h1,h2⟩:=vt (l:=j::r) h
   exact⟨i',List.mem_cons_of_mem _ h1,h2⟩
theorem BY {α:Type}(M L:List α):gL ((M++L).length - L.length) (M++L)=M:=by
 rw [dP,List.length_append,Nat.add_sub_cancel,List.take_left]
theorem He {rs:List (Res U)} {p:PK} {v:Value}(h:den U rs p=some v):p.id<rs.length:=by
 unfold den at h
 cases hn:nth rs p.id with
 | none=>rw [hn]at h;cases p<;>simp [bF]at h
 | some r=>exact aP hn
theorem BOk.step {V:List Nat} {rd:List (Nat×List Nat)} {b:Nat→Nat→Prop}(hb:BOk V rd b st.rs X w) {st':St U} {X':Nat→Nat→Prop} {w':World} {M:List Nat}(hs:cU w0 k0 X0 may fr st X w st' X' w' M):
 BOk V rd (fun i k=>b i k∨∃id,id∈mW i rd∧id<st'.rs.length∧X' id k) st'.rs X' w':=by
 refine⟨fun i id k h1 h2 h3=>.inr ⟨id,h1,h2,h3⟩,fun i k h=>.inl (hb.all i k h),fun i k hi hk=>?_⟩
 rcases hk with hk | ⟨id,h1,h2,h3⟩
 ·obtain⟨h4,h5⟩:=hb.only i k hi hk
  refine⟨Nat.lt_of_lt_of_le h4 hs.ch.size,fun j hj hx=>?_⟩
  by_cases Qd:j<st.rs.length
  ·by_cases hm:j∈M
   ·rcases hs.grow j hm k hx with h6 | h6
    ·exact h5 j Qd h6
    ·omega
   ·rw [(hs.same j Qd hm).2]at hx
    exact h5 j Qd hx
  ·have:=hs.new j (Nat.le_of_not_lt Qd) hj k hx
   omega
 ·refine⟨hs.inv.sat.lt h2 k h3,fun j hj hx=>?_⟩
  by_cases JN:id=j
  ·rw [← JN];exact h1
  ·exact absurd hx (hs.inv.sat.dis id j h2 hj JN k h3)
theorem xJ {V:List Nat} {rd:List (Nat×List Nat)} {M beh:List Nat}(h:xK V rd M beh=true):∀i,i∈beh→i ∉ V∧∀j,j∈M→j ∉ mW i rd:=by
 intro i hi
 have:=bP.1 h i hi
 simp only [Bool.and_eq_true,Bool.not_eq_true']at this
 refine⟨fun hv=>?_,fun j hj hr=>?_⟩
 ·rw [dF.2 hv]at this;cases this.1
 ·have h2:=bP.1 this.2 j hj
  rw [dF.2 hr]at h2;cases h2
theorem BOk.kept {V:List Nat} {rd:List (Nat×List Nat)} {b:Nat→Nat→Prop}(hb:BOk V rd b st.rs X w) {st':St U} {X':Nat→Nat→Prop} {w':World} {M:List Nat}(hs:cU w0 k0 X0 may fr st X w st' X' w' M) {beh:List Nat}(h:xK V rd M beh=true):Kept (cn b beh) w w':=by
 refine hs.ch.kept.mono fun k hk=>?_
 obtain⟨i,hi,hbi⟩:=vt hk
 obtain⟨h1,h2⟩:=xJ h i hi
 obtain⟨h3,h4⟩:=hb.only i k h1 hbi
 exact⟨h3,fun⟨j,hj,hx⟩=>h2 j hj (h4 j (hs.mlt j hj) hx)⟩
theorem EH {o:Oper} {kn:List (Key×Kn)} {x:Nat}(h:rdX o kn X x):∃t a p,o.op= .load t a∧kf kn a=some (.p p)∧X p.id x:=by
 unfold rdX at h
 cases SX:o.op<;>simp only [SX]at h
 rename_i t a
 cases hk:V.kf kn a with
 | none=>simp only [hk]at h
 | some k=>cases k<;>simp only [hk]at h;exact⟨t,a,_,rfl,hk,h⟩
theorem BS {all:Bool} {V:List Nat} {rd:List (Nat×List Nat)} {K:Fr→St U→Prop}(JZ:∀f c,tbl.c f=some c→LV U P f c∧bB P f=true):
 ∀(fuel:Nat)(listed:Array Bool)(fr:Fr)(st0 st:St U)(Xs X:Nat→Nat→Prop)(w:World)(ds:List Deferred)(b:Nat→Nat→Prop),(all=false→BOk V rd b st.rs X w)→(all=true→∀i k,b i k)→Steps w0 k0 X0 may st0 Xs st X w→aw st.rs fr st.kn→fr.ds=ds→
  qi U P tbl may k0 n N ops all V rd K fuel listed fr st→
  ny P (fun o ρ w K=>opW P false none o ρ w K) (MSw P) n N ops (Aft w0 k0 X0 may st0 Xs ds K) fuel (some b) listed fr w:=by
 intro fuel
 induction fuel with
 | zero=>
  intro listed fr st0 st Xs X w ds b hb JF hS hk hd h
  simp only [qi]at h
  simp only [ny]
  split at h
  ·rename_i LF
   try simp only [LF]
   exact⟨st,X,hS,hk,hd,h⟩
  ·exact h.elim
 | succ fuel ih=>
  intro listed fr st0 st Xs X w ds b hb JF hS hk hd h
  simp only [qi]at h
  simp only [ny]
  split at h
  ·rename_i LF
   try simp only [LF]
   exact⟨st,X,hS,hk,hd,h⟩
  ·rename_i i0 r0 LF
   try simp only [LF]
   split at h
   ·rename_i i Tp
    try simp only [Tp]
    split at h
    ·rename_i o ho
     try simp only [ho]
     refine js h (fun fr' hl KG hq=>?_) (fun fr' hl KG h=>?_)
     ·have Lr:=hk.same hl
      clear h
      have h:=hq
      clear hq
      cases Jp:CA o with
      | true=>simp only [Jp]at h
      | false=>
      cases OL:GP all V rd i o st.kn with
      | false=>simp only [Jp,OL]at h
      | true=>
       simp only [Jp,OL]at h
       obtain⟨v,k,h1,h2,h3⟩:=rj hS.inv.sat Lr h
       refine⟨v,?_,fun w' hw=>h3 w' (hw.mono fun x hx=>?_)⟩
       ·refine fA (gR h1 Lr h2) fun JQ hp=>?_
        obtain⟨Ka,e1,e2,h4,h5,h6⟩:=hp
        exact ih _ JQ st0 Ka Xs X w ds b (by rw [e1];exact hb) JF (hS.kn e1 e2) (by rw [e1];exact h4) (by rw [h5,KG,hd]) h6
       ·show b i x
        obtain⟨t,a,p,SX,hp,hx⟩:=EH hx
        unfold GP at OL
        simp only [SX,hp]at OL
        by_cases ha:all=true
        ·exact JF ha i x
        have hb:=hb (by simpa using ha)
        split at OL
        ·rename_i hv
         rcases Bool.or_eq_true_iff.1 hv with hv | hv
         ·exact absurd hv ha
         ·exact hb.all i x (dF.1 hv)
        ·have hpk:=Lr.kf a
         rw [hp]at hpk
         exact hb.has i p.id x (dF.1 OL) (He (show den U st.rs p=some _ from hpk)) hx
     ·refine fA (gR h (hk.same hl) trivial) fun JQ hp=>?_
      obtain⟨Ka,e1,e2,h4,h5,h6⟩:=hp
      exact ih _ JQ st0 Ka Xs X w ds b (by rw [e1];exact hb) JF (hS.kn e1 e2) (by rw [e1];exact h4) (by rw [h5,KG,hd]) h6
    ·exact h.elim
   ·split at h
    ·exact h.elim
    ·rename_i QP _
     try simp only [QP]
     refine rI h fun i h=>?_
     split at h
     ·rename_i o ho
      try simp only [ho]
      refine js h (fun fr' hl KG h=>?_) (fun fr' hl KG h=>?_)
      ·have Lr:=hk.same hl
       refine oH (Cj (yL JZ hS.inv Lr h) fun ch w' ⟨_,_,_,_,_,h,_⟩=>h.elim) fun v w' hp=>?_
       obtain⟨k,st',X',M,h1,h2,h3⟩:=hp
       have h1:=yF h1
       split at h1
       ·rename_i hap
        rw [h3.md,BY]at hap
        refine fA (gR h1 h3.kn h2) fun JQ hp=>?_
        obtain⟨Ka,e1,e2,h4,h5,h6⟩:=hp
        have hb:=hb rfl
        have Mz:=hb.step h3
        have QO:=ih (listed.setIfInBounds i true) JQ st0 Ka Xs X' w' ds _ (fun _=>by rw [e1];exact Mz) (fun ha=>by cases ha) ((hS.trans h3.steps).kn e1 e2) (by rw [e1];exact h4) (by rw [h5,KG,hd]) h6
        unfold yN
        simp only
        split
        ·exact⟨_,fun i k Vo=>.inl Vo,QO⟩
        ·exact⟨hb.kept h3 hap,_,fun i k Vo=>.inl Vo,QO⟩
       ·exact h1.elim
      ·refine fA (gR h (hk.same hl) trivial) fun JQ hp=>?_
       obtain⟨Ka,e1,e2,h4,h5,h6⟩:=hp
       exact ih _ JQ st0 Ka Xs X w ds b (by rw [e1];exact hb) JF (hS.kn e1 e2) (by rw [e1];exact h4) (by rw [h5,KG,hd]) h6
     ·exact h.elim
variable (U P tbl may k0 w0 X0 n)in
def pF(c:Code)(V:QF2 U→Fr→St U→Prop):Prop:=
 ∀(Q:QF2 U)(fr:Fr)(st:St U)(X:Nat→Nat→Prop)(a:Act)(w:World),Rep n fr a→Inv w0 k0 X0 may st.rs X w→aw st.rs fr st.kn→V Q fr st→
  c.wpIn (WF none) 0 P (ki n (writes c) a fun x fr' w'=>Aft w0 k0 X0 may st X fr.ds (fun fr' st'=>Q x fr' st') fr' w') a w
theorem Real.two {ws:List Nat} {a0:Act} {Q:QF} {e:Exit} {a':Act} {w':World}(h:Real n ws a0 none Q e a' w'):ki n ws a0 Q e a' w':=by
 cases e<;>first | exact h | exact h.1.elim
theorem ki.mono {ws ws':List Nat} {a0:Act} {Q Q':QF} {e:Exit} {a':Act} {w':World}(h:ki n ws a0 Q e a' w')(hw:∀i,i∈ws→i∈ws')(hQ:∀x fr w,Q x fr w→Q' x fr w):ki n ws' a0 Q' e a' w':=by
 cases e<;>first | exact h | (obtain⟨fr,h1,h2,h3⟩:=h;exact⟨fr,h1,hQ _ _ _ h2,h3.mono hw⟩)
theorem Aft.mono {ds:List Deferred} {K K':Fr→St U→Prop} {fr':Fr} {w':World}(h:Aft w0 k0 X0 may st X ds K fr' w')(hK:∀fr st,K fr st→K' fr st):Aft w0 k0 X0 may st X ds K' fr' w':=by
 obtain⟨st',X',h1,h2,h3,h4⟩:=h
 exact⟨st',X',h1,h2,h3,hK _ _ h4⟩
theorem Aft.pre {N3:St U} {X1:Nat→Nat→Prop} {w1:World} {ds:List Deferred} {K:Fr→St U→Prop} {fr':Fr} {w':World}(hs:Steps w0 k0 X0 may st X N3 X1 w1)(h:Aft w0 k0 X0 may N3 X1 ds K fr' w'):Aft w0 k0 X0 may st X ds K fr' w':=by
 obtain⟨st',X',h1,h2,h3,h4⟩:=h
 exact⟨st',X',hs.trans h1,h2,h3,h4⟩
theorem ql {id:Nat} {Q:QF2 U} {a:Act}(JZ:∀f c,tbl.c f=some c→LV U P f c∧bB P f=true)(hr:Rep n fr a)(hI:Inv w0 k0 X0 may st.rs X w)(hk:aw st.rs fr st.kn)(h:zz U P tbl may k0 n N ops (Q .normal) (fun ch=>Q (.panic ch)) ops.toList fr st):
 (Code.region id ops false).wpIn (WF none) 0 P (ki n (writes (.region id ops false)) a fun x fr' w'=>Aft w0 k0 X0 may st X fr.ds (fun fr' st'=>Q x fr' st') fr' w') a w:=by
 have hv:=n4 (n:=n) (N:=N) (ops:=ops) JZ ops.toList fr st st X X w fr.ds (Steps.refl hI) hk rfl h
 exact wpIn_mono (wpIn_region_list (kq (ws:=writes (.region id ops false)) (a0:=a) ops.toList (fun o ho d hd=>List.mem_filterMap.2 ⟨o,ho,hd⟩) fr a w hr (Agr.refl _ _) hv)) fun e a' w' he=>by
  cases e<;>first | exact he | (obtain⟨_,_,h,_⟩:=he;exact h.elim)
theorem sy {id:Nat} {Q:QF2 U} {a:Act} {V:List Nat} {rd:List (Nat×List Nat)}(JZ:∀f c,tbl.c f=some c→LV U P f c∧bB P f=true)(hm:P.follows .mixedOrders=true)(hs:Region.noSelect ops=true)(KS:dg ops.toList=true)(hr:Rep n fr a)(hI:Inv w0 k0 X0 may st.rs X w)(hk:aw st.rs fr st.kn) {all:Bool}
 (h:qi U P tbl may k0 n N ops all V rd (Q .normal) ops.size (Array.replicate ops.size false) fr st):
 (Code.region id ops true).wpIn (WF none) 0 P (ki n (writes (.region id ops true)) a fun x fr' w'=>Aft w0 k0 X0 may st X fr.ds (fun fr' st'=>Q x fr' st') fr' w') a w:=by
 have VN:=Inv.drew hI
 have hS:Steps w0 k0 X0 may st X st X w.drew:=Steps.refl VN
 have hv:=BS (n:=n) (N:=N) (ops:=ops) JZ ops.size (Array.replicate ops.size false) fr st st X X w.drew fr.ds (fun i k=>i∈V∨all=true∨∃id,id∈mW i rd∧id<st.rs.length∧X id k) (fun ha=>⟨fun i id k h1 h2 h3=>.inr (.inr ⟨id,h1,h2,h3⟩),fun i k h=>.inl h,fun i k hi hk=>by
  rcases hk with hk | hk | ⟨id,h1,h2,h3⟩
  ·exact absurd hk hi
  ·rw [ha]at hk;cases hk
  ·refine⟨VN.sat.lt h2 k h3,fun j hj hx=>?_⟩
   by_cases JN:id=j
   ·rw [← JN];exact h1
   ·exact absurd hx (VN.sat.dis id j h2 hj JN k h3)⟩) (fun ha i k=>.inr (.inl ha)) hS hk rfl h
 exact wpIn_mono (gH hm ll (fun o ho=>fI KS o (Array.mem_toList_iff.2 ho)) (oa (ws:=writes (.region id ops true)) (a0:=a) (Qp:=none) (M:=fun o ρ w K=>opW P false none o ρ w K) (MS:=MSw P) (fun _ _ _ _ h=>h) (fun _ _ _ _ _ h=>h) hs (fun i o ho d hd=>oN ho hd) ops.size _ (fun _ _ _=>True) _ fr a w.drew (fm.none _ _) (kj.none _ _) hr (Agr.refl _ _) hv)) fun e a' w' he=>Real.two (jk he)
end
end
section
section
variable {U:Uni} {P:Program} {tbl:Tb U} {may:List Nat} {k0:Nat}
variable {w0:World} {X0 X:Nat→Nat→Prop} {w:World} {fr:Fr} {st:St U} {n:Nat} {N:List Nat} {ops:Array Oper}
theorem tV {T:Type}:∀ {l:List (Nat×Sh2)} {J:SlT l T} {fr:Fr} {F:T→Prop},Gw l J fr F→∃J' vs,F J'∧(∀G:T→List (Nat×Value)→Prop,alS l J G→G J' vs)∧∀s v,(s,v)∈vs→lk fr.g s fr.e=v
 | [],J,fr,F,h=>⟨J,[],h,fun G hG=>hG,fun s v hv=>by cases hv⟩
 | (s,sh)::r,J,fr,F,h=>by
  obtain⟨J1,h1,g1⟩:=rE h
  obtain⟨J2,vs,h2,g2,e2⟩:=tV h1
  refine⟨J2,(s,lk fr.g s fr.e)::vs,h2,fun G hG=>g2 (fun J'' vs=>G J'' ((s,lk fr.g s fr.e)::vs)) (g1 (fun J' v=>alS r J' fun J'' vs=>G J'' ((s,v)::vs)) hG),fun s' v hv=>?_⟩
  rcases List.mem_cons.1 hv with e | hv
  ·injection e with e1 e2;rw [e1,e2]
  ·exact e2 s' v hv
def cw(kn:List (Key×Kn))(id:Nat):Nat→List AV→List Value→Prop
 | _,[],[]=>True
 | i,.v x::r,v::vs=>x=v∧cw kn id (i+1) r vs
 | i,.k p::r,_::vs=>bW (.c id i) kn=some (.p p)∧cw kn id (i+1) r vs
 | _,_,_=>False
theorem od {T:Type} {id:Nat} {kn:List (Key×Kn)}:∀ {l:List CS} {J:CST l T} {i:Nat} {vs:List Value} {F:T→Prop},wP id kn l J i vs F→∃J' az,F J'∧(∀G:T→List AV→Prop,Db l J G→G J' az)∧cw kn id i az vs∧∀n,gm n l=true→∀p,AV.k p∈az→p.id<n
 | [],J,i,[],F,h=>⟨J,[],h,fun G hG=>hG,trivial,fun _ _ p hp=>by cases hp⟩
 | [],_,_,_::_,_,h=>h.elim
 | .v _::_,_,_,[],_,h=>h.elim
 | .k _::_,_,_,[],_,h=>h.elim
 | .v s::r,J,i,v::vs,F,h=>by
  obtain⟨J1,h1,g1⟩:=lR h
  obtain⟨J2,az,h2,g2,d2,b2⟩:=od h1
  refine⟨J2,.v v::az,h2,fun G hG=>g2 (fun J'' vs=>G J'' (.v v::vs)) (g1 (fun J' v=>Db r J' fun J'' l=>G J'' (.v v::l)) hG),⟨rfl,d2⟩,fun n hn p hp=>?_⟩
  rcases List.mem_cons.1 hp with e | hp
  ·cases e
  ·exact b2 n hn p hp
 | .k p::r,J,i,v::vs,F,h=>by
  simp only [wP]at h
  split at h
  ·rename_i q hq
   split at h
   ·rename_i he
    obtain⟨J2,az,h2,g2,d2,b2⟩:=od h
    refine⟨J2,.k p::az,h2,fun G hG=>g2 (fun J'' vs=>G J'' (.k p::vs)) hG,⟨by rw [hq,(Kn.kG he).1],d2⟩,fun n hn p' hp=>?_⟩
    simp only [gm]at hn
    split at hn
    ·rename_i Jt
     rcases List.mem_cons.1 hp with e | hp
     ·injection e with e;subst e;simpa [Nat.blt_eq]using Jt
     ·exact b2 n hn p' hp
    ·cases hn
   ·exact h.elim
  ·exact h.elim
def UpD(rs:List (Res U))(kn:List (Key×Kn))(id:Nat):UP U→Prop
 | .ob t s=>∃r,nth rs id=some (.ob t r s)
 | .blk az=>∃g cs T,nth rs id=some (.blk g cs T)∧cw kn id 0 az cs
 | .lst t A c l=>∃own T,nth rs id=some (.lst t own T A c l)
theorem kV {T:Type} {rs:List (Res U)} {kn:List (Key×Kn)}:∀ {l:List (Nat×RSh)} {J:vR U l T} {F:T→Prop},nA rs kn l J F→∃J' us,F J'∧(∀G:T→List (Nat×UP U)→Prop,Ao l J G→G J' us)∧us.map (·.1)=l.map (·.1)∧(∀id u,(id,u)∈us→UpD rs kn id u)∧
 ∀n,de n l=true→∀id u,(id,u)∈us→id<n∧∀az,u= .blk az→∀p,AV.k p∈az→p.id<n
 | [],J,F,h=>⟨J,[],h,fun G hG=>hG,rfl,fun id u hu=>(by cases hu),fun _ _ id u hu=>by cases hu⟩
 | (id,.ob t)::r,J,F,h=>by
  simp only [nA]at h
  split at h
  ·rename_i t' r' s hn
   split at h
   ·rename_i ht
    subst ht
    obtain⟨J2,us,h2,g2,m2,d2,b2⟩:=kV h
    refine⟨J2,(id,.ob t' s)::us,h2,fun G hG=>g2 (fun J'' vs=>G J'' ((id,.ob t' s)::vs)) (hG s),by simp [m2],fun i u hu=>?_,fun n hb i u hu=>?_⟩
    ·rcases List.mem_cons.1 hu with e | hu
     ·injection e with e1 e2;subst e1;subst e2;exact⟨r',hn⟩
     ·exact d2 i u hu
    ·simp only [de]at hb
     split at hb
     ·rename_i Jt
      rcases List.mem_cons.1 hu with e | hu
      ·injection e with e1 e2;subst e1;subst e2;exact⟨by simpa [Nat.blt_eq]using Jt,fun az e=>by cases e⟩
      ·exact b2 n hb i u hu
     ·cases hb
   ·exact h.elim
  ·exact h.elim
 | (id,.blk l)::r,J,F,h=>by
  simp only [nA]at h
  split at h
  ·rename_i g cs T' hn
   obtain⟨J1,az,h1,g1,d1,b1⟩:=od h
   obtain⟨J2,us,h2,g2,m2,d2,b2⟩:=kV h1
   refine⟨J2,(id,.blk az)::us,h2,fun G hG=>g2 (fun J'' vs=>G J'' ((id,.blk az)::vs)) (g1 (fun J' cs=>Ao r J' fun J'' us=>G J'' ((id,.blk cs)::us)) hG),by simp [m2],fun i u hu=>?_,fun n hb i u hu=>?_⟩
   ·rcases List.mem_cons.1 hu with e | hu
    ·injection e with e1 e2;subst e1;subst e2;exact⟨g,cs,T',hn,d1⟩
    ·exact d2 i u hu
   ·simp only [de]at hb
    split at hb
    ·rename_i Jt
     simp only [Bool.and_eq_true]at Jt
     rcases List.mem_cons.1 hu with e | hu
     ·injection e with e1 e2;subst e1;subst e2
      exact⟨by simpa [Nat.blt_eq]using Jt.1,fun as' e p hp=>by injection e with e;subst e;exact b1 n Jt.2 p hp⟩
     ·exact b2 n hb i u hu
    ·cases hb
  ·exact h.elim
 | (id,.lst t)::r,J,F,h=>by
  simp only [nA]at h
  split at h
  ·rename_i t' own T' A c l hn
   split at h
   ·rename_i ht
    subst ht
    obtain⟨J2,us,h2,g2,m2,d2,b2⟩:=kV h
    refine⟨J2,(id,.lst t' A c l)::us,h2,fun G hG=>g2 (fun J'' vs=>G J'' ((id,.lst t' A c l)::vs)) (hG A c l),by simp [m2],fun i u hu=>?_,fun n hb i u hu=>?_⟩
    ·rcases List.mem_cons.1 hu with e | hu
     ·injection e with e1 e2;subst e1;subst e2;exact⟨own,T',hn⟩
     ·exact d2 i u hu
    ·simp only [de]at hb
     split at hb
     ·rename_i Jt
      rcases List.mem_cons.1 hu with e | hu
      ·injection e with e1 e2;subst e1;subst e2;exact⟨by simpa [Nat.blt_eq]using Jt,fun az e=>by cases e⟩
      ·exact b2 n hb i u hu
     ·cases hb
   ·exact h.elim
  ·exact h.elim
theorem sP {f:Nat→Res U→Option (Res U)}:∀ {i:Nat} {l l':List (Res U)},lay f i l=some l'→l'.length=l.length∧∀j r,nth l j=some r→∃r',f (i+j) r=some r'∧nth l' j=some r'
 | i,[],l',h=>by
  simp only [lay,Option.some.injEq]at h
  subst h
  exact⟨rfl,fun j r hr=>by simp [nth]at hr⟩
 | i,r::l,l',h=>by
  simp only [lay]at h
  split at h
  ·rename_i r' l2 h1 h2
   injection h with h
   subst h
   obtain⟨e1,e2⟩:=sP h2
   refine⟨by simp [e1],fun j x hx=>?_⟩
   cases j with
   | zero=>simp [nth]at hx;subst hx;exact⟨r',h1,rfl⟩
   | succ j=>
    obtain⟨y,h3,h4⟩:=e2 j x hx
    exact⟨y,by rw [show i+(j+1)=i+1+j by omega];exact h3,h4⟩
  ·cases h
theorem gJ {i:Nat} {u:UP U}:∀ {us:List (Nat×UP U)},iY i us=some u→(i,u)∈us
 | [],h=>by cases h
 | (j,x)::r,h=>by
  unfold iY at h
  split at h
  ·rename_i he
   injection h with h
   rw [← h,Nat.eq_of_beq_eq_true he]
   exact List.mem_cons_self ..
  ·exact List.mem_cons_of_mem _ (gJ h)
theorem oe {i:Nat}:∀ {us:List (Nat×UP U)},iY i us=none→i ∉ us.map (·.1)
 | [],_=>by simp
 | (j,x)::r,h=>by
  unfold iY at h
  split at h
  ·cases h
  ·rename_i he
   rw [List.map_cons,List.mem_cons,not_or]
   exact⟨by rintro rfl;simp at he,oe h⟩
theorem mD {kn:List (Key×Kn)} {s:Nat} {k:Kn}:∀ {l:List (Nat×Kn)},yR kn l=true→(s,k)∈l→∃p,k= .p p∧bW (.s s) kn=some (.p p)
 | [],_,h=>by cases h
 | (a,q)::r,h,hm=>by
  simp only [yR]at h
  split at h
  ·rename_i x hx
   split at h
   ·rename_i he
    rcases List.mem_cons.1 hm with e | hm
    ·injection e with e1 e2
     subst e1;subst e2
     obtain⟨e3,p,e4⟩:=Kn.kG he
     exact⟨p,by rw [← e3,e4],by rw [hx,e4]⟩
    ·exact mD h hm
   ·cases h
  ·cases h
theorem iI {m:Nat} {s:Nat} {p:PK}:∀ {l:List (Nat×Kn)},lD m l=true→(s,Kn.p p)∈l→p.id<m
 | [],_,h=>by cases h
 | (a,.p q)::r,h,hm=>by
  simp only [lD]at h
  split at h
  ·rename_i Jt
   rcases List.mem_cons.1 hm with e | hm
   ·injection e with e1 e2;injection e2 with e2;subst e2;simpa [Nat.blt_eq]using Jt
   ·exact iI h hm
  ·cases h
 | (a,.t _)::r,h,_=>by cases h
 | (a,.ag _)::r,h,_=>by cases h
 | (a,.f _ _)::r,h,_=>by cases h
theorem ot {key:Key} {k:Kn}:∀ {l:List (Nat×Kn)},(key,k)∈wW l→∃s,key= .s s∧(s,k)∈l
 | [],h=>by cases h
 | (s,q)::r,h=>by
  rcases List.mem_cons.1 h with e | h
  ·injection e with e1 e2;subst e1;subst e2;exact⟨s,rfl,List.mem_cons_self ..⟩
  ·obtain⟨s',h1,h2⟩:=ot (l:=r) h;exact⟨s',h1,List.mem_cons_of_mem _ h2⟩
theorem eD {rs:List (Res U)} {s:Nat} {v:Value}:∀ {l:List (Nat×Kn)},(s,v)∈jr rs l→∃p,(s,Kn.p p)∈l∧v=(den U rs p).getD undef
 | [],h=>by cases h
 | (a,.p q)::r,h=>by
  rcases List.mem_cons.1 h with e | h
  ·injection e with e1 e2;subst e1;subst e2;exact⟨q,List.mem_cons_self ..,rfl⟩
  ·obtain⟨p,h1,h2⟩:=eD (l:=r) h;exact⟨p,List.mem_cons_of_mem _ h1,h2⟩
 | (a,.t _)::r,h=>by obtain⟨p,h1,h2⟩:=eD (l:=r) h;exact⟨p,List.mem_cons_of_mem _ h1,h2⟩
 | (a,.ag _)::r,h=>by obtain⟨p,h1,h2⟩:=eD (l:=r) h;exact⟨p,List.mem_cons_of_mem _ h1,h2⟩
 | (a,.f _ _)::r,h=>by obtain⟨p,h1,h2⟩:=eD (l:=r) h;exact⟨p,List.mem_cons_of_mem _ h1,h2⟩
 | (a,.pan)::r,h=>by obtain⟨p,h1,h2⟩:=eD (l:=r) h;exact⟨p,List.mem_cons_of_mem _ h1,h2⟩
theorem cw.Gv {kn:List (Key×Kn)} {id:Nat} {V:PK→Value}:∀ {i:Nat} {az:List AV} {vs:List Value},cw kn id i az vs→(∀j p v,nth az j=some (.k p)→nth vs j=some v→V p=v)→aD (fun a=>match a with | .v x=>x | .k p=>V p) az=vs
 | _,[],[],_,_=>rfl
 | _,[],_::_,h,_=>by simp [cw]at h
 | _,_::_,[],h,_=>by rename_i a l;cases a<;>simp [cw]at h
 | i,.v x::r,v::vs,h,hv=>by
  simp only [cw]at h
  simp only [aD,h.1]
  rw [cw.Gv h.2 fun j p v h1 h2=>hv (j+1) p v h1 h2]
 | i,.k p::r,v::vs,h,hv=>by
  simp only [cw]at h
  simp only [aD]
  rw [hv 0 p v rfl rfl,cw.Gv h.2 fun j p v h1 h2=>hv (j+1) p v h1 h2]
theorem cw.kn {kn:List (Key×Kn)} {id:Nat}:∀ {i j:Nat} {az:List AV} {vs:List Value} {p:PK},cw kn id i az vs→nth az j=some (.k p)→bW (.c id (i+j)) kn=some (.p p)
 | _,_,[],_,_,_,h=>by simp [nth]at h
 | i,0,.v _::_,_::_,_,_,h=>by simp [nth]at h
 | i,0,.k p::r,v::vs,p',hd,h=>by
  simp only [cw]at hd
  simp only [nth,Option.some.injEq,AV.k.injEq]at h
  subst h
  exact hd.1
 | i,j+1,.v _::r,_::vs,p,hd,h=>by
  simp only [cw]at hd
  have:=cw.kn hd.2 (show nth r j=some (.k p)from h)
  rwa [show i+1+j=i+(j+1)by omega]at this
 | i,j+1,.k _::r,_::vs,p,hd,h=>by
  simp only [cw]at hd
  have:=cw.kn hd.2 (show nth r j=some (.k p)from h)
  rwa [show i+1+j=i+(j+1)by omega]at this
 | _,_,.v _::_,[],_,hd,_=>by simp [cw]at hd
 | _,_,.k _::_,[],_,hd,_=>by simp [cw]at hd
theorem kJ {id:Nat} {key:Key} {k:Kn}:∀ {i:Nat} {l:List CS},(key,k)∈sZ id i l→∃j p,key= .c id (i+j)∧k= .p p∧nth l j=some (.k p)
 | _,[],h=>by cases h
 | i,.v _::r,h=>by
  obtain⟨j,p,h1,h2,h3⟩:=kJ (l:=r) h
  exact⟨j+1,p,by rw [h1];congr 1;omega,h2,h3⟩
 | i,.k q::r,h=>by
  rcases List.mem_cons.1 h with e | h
  ·injection e with e1 e2;exact⟨0,q,e1,e2,rfl⟩
  ·obtain⟨j,p,h1,h2,h3⟩:=kJ (l:=r) h
   exact⟨j+1,p,by rw [h1];congr 1;omega,h2,h3⟩
theorem jO {key:Key} {k:Kn}:∀ {l:List (Nat×RSh)},(key,k)∈yy l→∃id cs j p,(id,RSh.blk cs)∈l∧key= .c id j∧k= .p p∧nth cs j=some (.k p)
 | [],h=>by cases h
 | (id,.blk cs)::r,h=>by
  rcases List.mem_append.1 h with h | h
  ·obtain⟨j,p,h1,h2,h3⟩:=kJ h
   exact⟨id,cs,j,p,List.mem_cons_self ..,by simpa using h1,h2,h3⟩
  ·obtain⟨a,b,c,d,h1,h2⟩:=jO (l:=r) h;exact⟨a,b,c,d,List.mem_cons_of_mem _ h1,h2⟩
 | (id,.ob _)::r,h=>by obtain⟨a,b,c,d,h1,h2⟩:=jO (l:=r) h;exact⟨a,b,c,d,List.mem_cons_of_mem _ h1,h2⟩
 | (id,.lst _)::r,h=>by obtain⟨a,b,c,d,h1,h2⟩:=jO (l:=r) h;exact⟨a,b,c,d,List.mem_cons_of_mem _ h1,h2⟩
theorem sq {T:Type} {id:Nat} {kn:List (Key×Kn)}:∀ {l:List CS} {J:CST l T} {i:Nat} {vs:List Value} {F:T→Prop},wP id kn l J i vs F→(∃J',F J')∧∀j p,nth l j=some (.k p)→bW (.c id (i+j)) kn=some (.p p)
 | [],J,i,[],F,h=>⟨⟨J,h⟩,fun j p hp=>by simp [nth]at hp⟩
 | [],_,_,_::_,_,h=>h.elim
 | .v _::_,_,_,[],_,h=>h.elim
 | .k _::_,_,_,[],_,h=>h.elim
 | .v s::r,J,i,v::vs,F,h=>by
  obtain⟨J1,h1,_⟩:=lR h
  obtain⟨h2,h3⟩:=sq h1
  refine⟨h2,fun j p hp=>?_⟩
  cases j with
  | zero=>simp [nth]at hp
  | succ j=>have:=h3 j p hp;rwa [show i+1+j=i+(j+1)by omega]at this
 | .k q::r,J,i,v::vs,F,h=>by
  simp only [wP]at h
  split at h
  ·rename_i x hx
   split at h
   ·rename_i he
    obtain⟨h2,h3⟩:=sq h
    refine⟨h2,fun j p hp=>?_⟩
    cases j with
    | zero=>simp only [nth,Option.some.injEq,CS.k.injEq]at hp;subst hp;rw [Nat.add_zero,hx,(Kn.kG he).1]
    | succ j=>have:=h3 j p hp;rwa [show i+1+j=i+(j+1)by omega]at this
   ·exact h.elim
  ·exact h.elim
theorem nI {T:Type} {rs:List (Res U)} {kn:List (Key×Kn)}:∀ {l:List (Nat×RSh)} {J:vR U l T} {F:T→Prop},nA rs kn l J F→∀id cs,(id,RSh.blk cs)∈l→∀j p,nth cs j=some (.k p)→bW (.c id j) kn=some (.p p)
 | [],_,_,_,_,_,h=>by cases h
 | (id,.ob t)::r,J,F,h,i,cs,hm=>by
  simp only [nA]at h
  split at h
  ·split at h
   ·exact nI h i cs ((List.mem_cons.1 hm).resolve_left fun e=>by cases e)
   ·exact h.elim
  ·exact h.elim
 | (id,.lst t)::r,J,F,h,i,cs,hm=>by
  simp only [nA]at h
  split at h
  ·split at h
   ·exact nI h i cs ((List.mem_cons.1 hm).resolve_left fun e=>by cases e)
   ·exact h.elim
  ·exact h.elim
 | (id,.blk l)::r,J,F,h,i,cs,hm=>by
  simp only [nA]at h
  split at h
  ·obtain⟨⟨J',h1⟩,h2⟩:=sq h
   intro j p hp
   rcases List.mem_cons.1 hm with e | hm
   ·injection e with e1 e2
    injection e2 with e2
    subst e1;subst e2
    have:=h2 j p hp
    rwa [Nat.zero_add]at this
   ·exact nI h1 i cs hm j p hp
  ·exact h.elim
theorem cl.Fb {x:Res U} {g:Nat} {cs:List Value} {T:TypeId}(h:cl x (.blk g cs T)):∃TG,x= .blk g TG T∧TG.length=cs.length:=by
 cases h
 rename_i c hc
 exact⟨c,rfl,hc⟩
theorem u5 {ct:wK} {J:JT2 U ct} {stb st':St U} {fr fr':Fr} {a a':Act} {w':World} {X X':Nat→Nat→Prop} {ws:List Nat}(hr:Rep n fr a)(Jg:Rep n fr' a')(JE:Agr ws a a')(KP:o5 ct.wr2 ws=true)
 (Ud:aw stb.rs fr stb.kn)(Lr:aw st'.rs fr' st'.kn)(hI:Inv w0 k0 X0 may st'.rs X' w')(hlen:stb.rs.length≤st'.rs.length)(hmd:∀i,i<stb.rs.length→i ∉ st'.md→i ∉ aD (·.1) ct.rsh→nth st'.rs i=nth stb.rs i∧X' i=X i)(JR:∀i a,nth stb.rs i=some a→∃b,nth st'.rs i=some b∧cl a b)(Vk:k0≤stb.rs.length)
 (hu:mh ct stb.rs.length J fr' st') {F:List (Nat×Value)→St U→Prop}(JF:xO ct J stb fr.e F):
 ∃e Ka,F e Ka∧Rep n ⟨e,fun i=>a'.tmps.getD i undef,fr.ds⟩ a'∧Inv w0 k0 X0 may Ka.rs X' w'∧aw Ka.rs ⟨e,fun i=>a'.tmps.getD i undef,fr.ds⟩ Ka.kn∧Ka.md= []∧Ka.rs.length=stb.rs.length∧(∀i,i<stb.rs.length→i ∉ aD (·.1) ct.rsh→nth Ka.rs i=nth stb.rs i∧X' i=X i)∧∀i a,nth stb.rs i=some a→∃b,nth Ka.rs i=some b∧cl a b:=by
 unfold mh at hu
 split at hu
 case h_2=>exact hu.elim
 rename_i Kl
 simp only [Bool.and_eq_true]at Kl
 obtain⟨Te,S7,SR,Tf⟩:=Kl
 obtain⟨J1,vs,h1,g1,e1⟩:=tV hu
 have Om:=nI h1
 obtain⟨p,us,hp,g2,m2,d2,b2⟩:=kV h1
 have JF:=g2 _ (g1 _ JF) hp
 split at JF
 case h_2=>exact JF.elim
 rename_i Nk Nc
 split at JF
 case h_2=>exact JF.elim
 rename_i JL Mw
 obtain⟨l1,f1⟩:=sP Nc
 obtain⟨l2,f2⟩:=sP Mw
 have Tm:aD (·.1) ct.rsh=us.map (·.1):=by rw [eV,m2]
 have r1:∀i x,nth stb.rs i=some x→∃y z,nth Nk i=some y∧nth st'.rs i=some z∧((∀az,iY i us≠some (.blk az))→y=z)∧((∃az,iY i us=some (.blk az))→y=x):=by
  intro i x hx
  obtain⟨y,hy,UQ⟩:=f1 i x hx
  rw [Nat.zero_add]at hy
  obtain⟨z,hz,Ps⟩:=JR i x hx
  refine⟨y,z,UQ,hz,?_,?_⟩
  ·intro hnb
   unfold G3 at hy
   cases hg:iY i us with
   | none=>
    rw [hg]at hy
    simp only [Option.some.injEq]at hy
    subst hy
    have P7:=oe hg
    have:i ∉ st'.md:=fun hm=>by
     have:=bP.1 S7 i hm
     rw [Tm]at this
     rcases Bool.or_eq_true_iff.1 this with h | h
     ·have:=Nat.le_of_ble_eq_true h;have:=aP hx;omega
     ·exact P7 (dF.1 h)
    have h2:=(hmd i (aP hx) this (by rw [Tm];exact P7)).1
    rw [hz,hx]at h2
    injection h2 with h2
    exact h2.symm
   | some u=>
    rw [hg]at hy
    have hd:=d2 i u (gJ hg)
    cases u with
    | ob t s=>
     obtain⟨r,hr⟩:=hd
     rw [hz]at hr
     injection hr with hr
     subst hr
     have h2:cq x (.ob t s)=some y:=hy
     cases Ps
     simp only [cq,dif_pos]at h2
     injection h2 with h2
     exact h2.symm
    | blk az=>exact absurd hg (hnb az)
    | lst t A c l=>
     obtain⟨own,T,hr⟩:=hd
     rw [hz]at hr
     injection hr with hr
     subst hr
     have h2:cq x (.lst t A c l)=some y:=hy
     cases Ps
     simp only [cq,dif_pos]at h2
     injection h2 with h2
     exact h2.symm
  ·rintro⟨az,hg⟩
   unfold G3 at hy
   rw [hg]at hy
   simp only [Option.some.injEq]at hy
   exact hy.symm
 have Ld:∀q:PK,q.id<stb.rs.length→den U Nk q=den U st'.rs q:=by
  intro q hq
  obtain⟨x,hx⟩:=bM hq
  obtain⟨y,z,hy,hz,ha,hb⟩:=r1 _ x hx
  unfold den
  rw [hy,hz]
  cases hg:iY q.id us with
  | none=>rw [ha (fun az e=>by rw [hg]at e;cases e)]
  | some u=>
   cases u with
   | ob t s=>rw [ha (fun az e=>by rw [hg]at e;cases e)]
   | lst t A c l=>rw [ha (fun az e=>by rw [hg]at e;cases e)]
   | blk az=>
    have UO:=hb ⟨az,hg⟩
    subst UO
    obtain⟨z',Mo,Ps⟩:=JR _ _ hx
    rw [hz]at Mo
    injection Mo with Mo
    subst Mo
    obtain⟨g,cs,T,hc,_⟩:=d2 _ _ (gJ hg)
    rw [hz]at hc
    injection hc with hc
    subst hc
    cases Ps
    cases q<;>rfl
 have r2:∀i,i<stb.rs.length→nth JL i=nth st'.rs i:=by
  intro i hi
  obtain⟨x,hx⟩:=bM hi
  obtain⟨y,z,hy,hz,ha,hb⟩:=r1 i x hx
  obtain⟨v,hv,MR⟩:=f2 i y hy
  rw [Nat.zero_add]at hv
  rw [MR,hz]
  unfold H2 at hv
  cases hg:iY i us with
  | none=>
   rw [hg]at hv
   simp only [Option.some.injEq]at hv
   rw [← hv,ha (fun az e=>by rw [hg]at e;cases e)]
  | some u=>
   rw [hg]at hv
   cases u with
   | ob t s=>simp only [Option.some.injEq]at hv;rw [← hv,ha (fun az e=>by rw [hg]at e;cases e)]
   | lst t A c l=>simp only [Option.some.injEq]at hv;rw [← hv,ha (fun az e=>by rw [hg]at e;cases e)]
   | blk az=>
    have UO:=hb ⟨az,hg⟩
    subst UO
    obtain⟨z',Mo,Ps⟩:=JR _ _ hx
    rw [hz]at Mo
    injection Mo with Mo
    subst Mo
    obtain⟨g,cs,T,hc,hcd⟩:=d2 _ _ (gJ hg)
    rw [hz]at hc
    injection hc with hc
    subst hc
    have Qm:=(b2 _ SR _ _ (gJ hg)).2 az rfl
    have Qi:aD (g6 Nk) az=cs:=by
     have:=hcd.Gv (V:=fun p=>(den U Nk p).getD undef) (fun j p v hj hv=>by
      have hk:=hcd.kn hj
      obtain⟨g',cs',T',u,q1,q2,q3⟩:=Lr.get hk
      rw [hz]at q1
      injection q1 with q1
      injection q1 with _ q1 _
      subst q1
      rw [Nat.zero_add]at q2
      rw [hv]at q2
      injection q2 with q2
      subst q2
      have q3:den U st'.rs p=some v:=q3
      rw [Ld p (Qm p (fv hj)),q3]
      rfl)
     have e:(fun a=>match a with | .v x=>x | .k p=>(den U Nk p).getD undef)=g6 Nk:=by funext a;cases a<;>rfl
     rw [e]at this
     exact this
    have hv:cq y (.blk (aD (g6 Nk) az))=some v:=hv
    rw [Qi]at hv
    obtain⟨TG,rfl,hle⟩:=Ps.Fb
    simp only [cq,hle,Nat.beq_refl]at hv
    exact hv.symm
 have S9:JL.length=stb.rs.length:=by rw [l2,l1]
 have Oo:∀q:PK,q.id<stb.rs.length→den U JL q=den U st'.rs q:=fun q hq=>by unfold den;rw [r2 _ hq]
 obtain⟨MU,KG⟩:=mG KP
 have LA:∀s v,(s,v)∈vs++jr JL ct.kns→lk fr'.g s fr'.e=v:=by
  intro s v hm
  rcases List.mem_append.1 hm with hm | hm
  ·exact e1 s v hm
  ·obtain⟨q,hq,rfl⟩:=eD hm
   obtain⟨q',SV,hg⟩:=mD Te hq
   injection SV with SV
   subst SV
   have:den U st'.rs q=some (lk fr'.g s fr'.e):=Lr.get hg
   rw [Oo q (iI Tf hq),this]
   rfl
 have Lc:Rep n ⟨vs++jr JL ct.kns++forget ct.wr2 fr.e,fun i=>a'.tmps.getD i undef,fr.ds⟩ a':=sw hr Jg (JE.mono MU) KG LA
 have Uc:∀i,lk (fun i=>a'.tmps.getD i undef) i (vs++jr JL ct.kns++forget ct.wr2 fr.e)=lk fr'.g i fr'.e:=fun i=>by rw [← Jg.get];exact(Lc.get i).symm
 have Kk:∀i,i<stb.rs.length→i ∉ aD (·.1) ct.rsh→nth JL i=nth stb.rs i∧X' i=X i:=by
  intro i hi P7
  rw [r2 i hi]
  refine hmd i hi (fun hm=>?_) P7
  have:=bP.1 S7 i hm
  rcases Bool.or_eq_true_iff.1 this with h | h
  ·have:=Nat.le_of_ble_eq_true h;omega
  ·exact P7 (dF.1 h)
 have Oe:∀i a,nth stb.rs i=some a→∃b,nth JL i=some b∧cl a b:=by
  intro i x hx
  obtain⟨z,hz,Ps⟩:=JR i x hx
  exact⟨z,by rw [r2 i (aP hx)];exact hz,Ps⟩
 have hIt:Inv w0 k0 X0 may JL X' w':=hI.F8 (by omega) (fun i hi=>r2 i (by omega)) (by omega)
 have JF:=gW (fun r hr=>by
  obtain⟨i,hi⟩:=oA hr
  exact⟨_,_,hIt.sat.res i r hi⟩) JF
 refine⟨_,_,JF,Lc,hIt,?_,rfl,S9,Kk,Oe⟩
 refine aw.app ?_ (aw.app ?_ ?_)
 ·intro key k hm
  obtain⟨s,rfl,hs⟩:=ot hm
  obtain⟨q,rfl,hg⟩:=mD Te hs
  show den U JL q=some (lk _ s _)
  rw [Uc,Oo q (iI Tf hs)]
  exact Lr.get hg
 ·intro key k hm
  obtain⟨id,cs,j,q,h3,rfl,rfl,h5⟩:=jO hm
  have hg:=Om id cs h3 j q h5
  obtain⟨g,cs',T,v,q1,q2,q3⟩:=Lr.get hg
  have Ot:id<stb.rs.length∧q.id<stb.rs.length:=by
   have key:∀(l:List (Nat×RSh)),de stb.rs.length l=true→(id,RSh.blk cs)∈l→id<stb.rs.length∧gm stb.rs.length cs=true:=by
    intro l
    induction l with
    | nil=>intro _ h;cases h
    | cons x r ih=>
     intro hb hm
     obtain⟨i,x⟩:=x
     cases x with
     | ob t=>
      simp only [de]at hb
      split at hb
      ·exact ih hb ((List.mem_cons.1 hm).resolve_left fun e=>by cases e)
      ·cases hb
     | lst t=>
      simp only [de]at hb
      split at hb
      ·exact ih hb ((List.mem_cons.1 hm).resolve_left fun e=>by cases e)
      ·cases hb
     | blk l=>
      simp only [de]at hb
      split at hb
      ·rename_i Jt
       simp only [Bool.and_eq_true]at Jt
       rcases List.mem_cons.1 hm with e | hm
       ·injection e with e1 e2;injection e2 with e2;subst e1;subst e2
        exact⟨by simpa [Nat.blt_eq]using Jt.1,Jt.2⟩
       ·exact ih hb hm
      ·cases hb
   obtain⟨h6,h7⟩:=key ct.rsh SR h3
   refine⟨h6,?_⟩
   have key2:∀(l:List CS)(j:Nat),gm stb.rs.length l=true→nth l j=some (.k q)→q.id<stb.rs.length:=by
    intro l
    induction l with
    | nil=>intro j _ h;simp [nth]at h
    | cons x r ih=>
     intro j hb hj
     cases x with
     | v s=>
      cases j with
      | zero=>simp [nth]at hj
      | succ j=>exact ih j hb hj
     | k p'=>
      simp only [gm]at hb
      split at hb
      ·rename_i Jt
       cases j with
       | zero=>simp only [nth,Option.some.injEq,CS.k.injEq]at hj;subst hj;simpa [Nat.blt_eq]using Jt
       | succ j=>exact ih j hb hj
      ·cases hb
   exact key2 cs j h7 h5
  exact⟨g,cs',T,v,by rw [r2 id Ot.1];exact q1,q2,by show den U JL q=_;rw [Oo q Ot.2];exact q3⟩
 ·have KF:=aw.dE (M:=aD (·.1) ct.rsh) Ud (rs':=JL) (fun i hi hm=>(Kk i hi hm).1) (fun i _ x hx=>Oe i x hx)
  intro key k hm
  obtain⟨PA,Lp⟩:=cK hm
  have h0:=KF key k PA
  cases key with
  | s i=>
   have P7:i ∉ ct.wr2:=by
    intro hh
    have Lp:(!jq i ct.wr2)=true:=Lp
    rw [dF.2 hh]at Lp
    cases Lp
   show fW JL (lk _ i _) k
   have:lk (fun i=>a'.tmps.getD i undef) i (vs++jr JL ct.kns++forget ct.wr2 fr.e)=lk fr.g i fr.e:=by
    rw [Uc,← Jg.get,← hr.get]
    exact JE.tmps i fun hi=>P7 (MU i hi)
   rw [this]
   exact h0
  | c id off=>exact h0
  | l id path=>exact h0
end
end
section
section
variable {U:Uni} {P:Program} {tbl:Tb U} {may:List Nat} {k0:Nat}
variable {w0:World} {X0 X:Nat→Nat→Prop} {w:World} {fr:Fr} {st:St U} {n:Nat} {N:List Nat} {ops:Array Oper}
theorem Steps.back {N3:St U} {X':Nat→Nat→Prop} {w':World}(h:Steps w0 k0 X0 may {st with md:= []} X N3 X' w'):Steps w0 k0 X0 may st X (iH U N3 st.md) X' w':=by
 obtain⟨a,b,⟨L,h1,h2,h3⟩,d⟩:=h
 refine⟨a,b,⟨L,?_,h2,h3⟩,d⟩
 show N3.md++st.md=L++st.md
 rw [h1];simp
theorem Cp {s j:Nat} {st st':St U} {X:Nat→Nat→Prop}(h:xn k0 s j st=some st')(hI:Inv w0 k0 X0 may st.rs X w)(hk:aw st.rs fr st.kn):∃X',Steps w0 k0 X0 may st X st' X' w∧aw st'.rs fr st'.kn:=by
 unfold xn at h
 split at h
 ·rename_i i Kr
  split at h
  ·injection h with h;subst h;exact⟨X,Steps.refl hI,hk⟩
  ·rename_i JI
   have JI:i≠j:=fun e=>by rw [e,Nat.beq_refl]at JI;cases JI
   split at h
   ·rename_i t T A c l t' T' A' c' l' hi hj
    split at h
    ·rename_i hb
     injection h with h;subst h
     simp only [Bool.and_eq_true]at hb
     obtain⟨⟨b1,b2⟩,b3,b4⟩:=hb
     obtain rfl:=Nat.eq_of_beq_eq_true b3
     obtain rfl:=Nat.eq_of_beq_eq_true b4
     have b1:=Nat.le_of_ble_eq_true b1
     have b2:=Nat.le_of_ble_eq_true b2
     have li:=aP hi
     have lj:=aP hj
     have nj:nth (bt (bt st.rs j (.lst t true T A c l)) i (.lst t true T none 0 [])) j=some (.lst t true T A c l):=by
      rw [aV,if_neg (by rintro⟨e,_⟩;exact JI e.symm),aV,if_pos ⟨rfl,lj⟩]
     have ni:nth (bt (bt st.rs j (.lst t true T A c l)) i (.lst t true T none 0 [])) i=some (.lst t true T none 0 []):=by
      rw [aV,if_pos ⟨rfl,by rw [oy];exact li⟩]
     have no:∀k,k≠i→k≠j→nth (bt (bt st.rs j (.lst t true T A c l)) i (.lst t true T none 0 [])) k=nth st.rs k:=fun k h1 h2=>by
      rw [aV,if_neg (fun e=>h1 e.1),aV,if_neg (fun e=>h2 e.1)]
     have mem:∀k,k∈ [i,j]→k=i∨k=j:=by simp
     have xi:iz (iz X j (X i)) i (fun _=>False) i=fun _=>False:=updX_eq ..
     have xj:iz (iz X j (X i)) i (fun _=>False) j=X i:=by rw [gg _ _ (Ne.symm JI),updX_eq]
     have xo:∀k,k ∉ [i,j]→iz (iz X j (X i)) i (fun _=>False) k=X k:=fun k hk=>by
      have:k≠i∧k≠j:=by simpa using hk
      rw [gg _ _ this.1,gg _ _ this.2]
     have hlen:(bt (bt st.rs j (Res.lst t true T A c l)) i (.lst t true T none 0 [])).length=st.rs.length:=by simp
     have JR:∀k a,nth st.rs k=some a→∃b,nth (bt (bt st.rs j (.lst t true T A c l)) i (.lst t true T none 0 [])) k=some b∧cl a b:=fun k a ha=>by
      by_cases e1:k=i
      ·subst e1;rw [hi]at ha;injection ha with ha;subst ha;exact⟨_,ni,cl.lst ..⟩
      by_cases e2:k=j
      ·subst e2;rw [hj]at ha;injection ha with ha;subst ha;exact⟨_,nj,cl.lst ..⟩
      exact⟨a,by rw [no k e1 e2];exact ha,cl.refl a⟩
     refine⟨iz (iz X j (X i)) i (fun _=>False),⟨?_,by rw [hlen];exact Nat.le_refl _,⟨[i,j],rfl,fun k hk=>.inr (by rcases mem k hk with rfl | rfl<;>assumption),fun k _ hk=>⟨no k (fun e=>hk (by simp [e])) (fun e=>hk (by simp [e])),xo k hk⟩⟩,JR⟩,?_⟩
     ·obtain⟨sat,ch,old,new,len⟩:=hI
      have sub:∀k,k<st.rs.length→∀b,iz (iz X j (X i)) i (fun _=>False) k b→(k=j∧X i b)∨(k≠j∧k≠i∧X k b):=fun k _ b hb=>by
       by_cases e1:k=i
       ·subst e1;rw [xi]at hb;exact hb.elim
       by_cases e2:k=j
       ·subst e2;rw [xj]at hb;exact .inl ⟨rfl,hb⟩
       rw [xo k (by simp [e1,e2])]at hb;exact .inr ⟨e2,e1,hb⟩
      refine⟨⟨fun k r hr=>?_,fun a b ha hb QS k hka Ud=>?_⟩,ch,fun k Lr b hb=>?_,fun k h1 h2 b hb=>?_,by rw [hlen];exact len⟩
      ·by_cases e1:k=i
       ·subst e1;rw [ni]at hr;injection hr with hr;subst hr;rw [xi]
        exact(⟨Own.nil,fun k hk=>hk.elim⟩:RS (fun _=>False) w (.lst t true T none 0 []:Res U))
       by_cases e2:k=j
       ·subst e2;rw [nj]at hr;injection hr with hr;subst hr;rw [xj];exact sat.res i _ hi
       rw [no k e1 e2]at hr;rw [xo k (by simp [e1,e2])];exact sat.res k r hr
      ·rw [hlen]at ha hb
       rcases sub a ha k hka with⟨rfl,h1⟩ | ⟨h0,h00,h1⟩
       ·rcases sub b hb k Ud with⟨rfl,h2⟩ | ⟨_,h3,h2⟩
        ·exact QS rfl
        ·exact sat.dis i b li hb (Ne.symm h3) k h1 h2
       ·rcases sub b hb k Ud with⟨rfl,h2⟩ | ⟨_,h3,h2⟩
        ·exact sat.dis a i ha li h00 k h1 h2
        ·exact sat.dis a b ha hb QS k h1 h2
      ·rw [xo k (by simp;omega)]at hb;exact old k Lr b hb
      ·rw [hlen]at h2
       rcases sub k h2 b hb with⟨rfl,h⟩ | ⟨_,_,h⟩
       ·exact new i b1 li b h
       ·exact new k h1 h2 b h
     ·have all:∀ {P:Key×Kn→Prop} {x:Key×Kn} {l:List (Key×Kn)},P x→(∀y,y∈l→P y)→∀y,y∈x::l→P y:=fun h1 h2 y hy=>(List.mem_cons.1 hy).elim (fun e=>e▸h1) (h2 y)
      refine fun key k hm=>all (P:=fun x=>cW _ fr x.1 x.2) ?_ ?_ (key,k) hm
      ·have h0:den U st.rs (.sl i 0)=some (lk fr.g s fr.e):=hk.get Kr
       show den U _ (.sl j 0)=some (lk fr.g s fr.e)
       rw [← h0]
       simp only [den,PK.id,nj,hi,bF,gE]
      ·have:=hk.dE (M:= [i,j]) (rs':=bt (bt st.rs j (.lst t true T A c l)) i (.lst t true T none 0 [])) (fun k _ hk=>no k (fun e=>hk (by simp [e])) (fun e=>hk (by simp [e]))) (fun k _ a ha=>JR k a ha)
       exact fun x hx=>this x.1 x.2 hx
    ·cases h
   ·cases h
 ·cases h
theorem Ap {key:Key} {tt:Nat} {T:TypeId} {st:St U} {X:Nat→Nat→Prop}(hv:qI fr st key=some (.slice none 0 0))(hI:Inv w0 k0 X0 may st.rs X w)(hk:aw st.rs fr st.kn):∃X',Steps w0 k0 X0 may st X ⟨st.rs++ [.lst tt true T none 0 []],(key,.p (.sl st.rs.length 0))::dD (fun a _=>!(a.eq key)) st.kn,st.md⟩ X' w∧aw (st.rs++ [.lst tt true T none 0 []]) fr ((key,.p (.sl st.rs.length 0))::dD (fun a _=>!(a.eq key)) st.kn):=by
 have Mf:RS (fun _=>False) w (.lst tt true T none 0 []:Res U):=⟨Own.nil,fun k hk=>hk.elim⟩
 have Lq:nth (st.rs++ [Res.lst tt true T none 0 []]) st.rs.length=some (.lst tt true T none 0 []):=uJ
 have hI2:=hI.more (Ch.refl _ _) Mf (fun k hk=>hk.elim)
 have JH:=nP hk (Res.lst tt true T none 0 [])
 have hd:den U (st.rs++ [Res.lst tt true T none 0 []]) (.sl st.rs.length 0)=some (.slice none 0 0):=by
  simp only [den,PK.id,Lq,bF,gE,List.length_nil]
 refine⟨iz X st.rs.length fun _=>False,⟨hI2,by simp,⟨[],rfl,fun i hi=>(by cases hi),fun i hi _=>⟨by show nth (st.rs++_) i=_;rw [aU,if_pos hi],gg _ _ (by omega)⟩⟩,fun i a ha=>⟨a,by show nth (st.rs++_) i=_;rw [aU,if_pos (aP ha)];exact ha,cl.refl a⟩⟩,?_⟩
 intro key' k hm
 rcases List.mem_cons.1 hm with e | hm
 ·injection e with e1 e2
  subst e1;subst e2
  cases key' with
  | s i=>
   simp only [qI,Option.some.injEq]at hv
   show den U _ _=some (lk fr.g i fr.e)
   rw [hv];exact hd
  | c id off=>
   simp only [qI]at hv
   split at hv
   ·rename_i g cs T' hn
    exact⟨g,cs,T',_,by rw [aU,if_pos (aP hn)];exact hn,hv,hd⟩
   ·cases hv
  | l id path=>simp only [qI,reduceCtorEq]at hv
 ·exact JH _ _ (cK hm).1
theorem fO:∀ {l:List (Key×Nat×TypeId)} {st:St U} {X:Nat→Nat→Prop} {F:St U→Prop},iQ k0 fr l st F→Inv w0 k0 X0 may st.rs X w→aw st.rs fr st.kn→∃st' X',F st'∧Steps w0 k0 X0 may st X st' X' w∧aw st'.rs fr st'.kn
 | [],st,X,F,h,hI,hk=>⟨st,X,h,Steps.refl hI,hk⟩
 | (key,tt,T)::r,st,X,F,h,hI,hk=>by
  have old:(match qI fr st key with
   | some (.slice none 0 0)=>iQ k0 fr r ⟨st.rs++ [.lst tt true T none 0 []],(key,.p (.sl st.rs.length 0))::dD (fun a _=>!(a.eq key)) st.kn,st.md⟩ F
   | _=>False)→∃st' X',F st'∧Steps w0 k0 X0 may st X st' X' w∧aw st'.rs fr st'.kn:=fun h=>by
   split at h
   ·rename_i hv
    obtain⟨X1,h1,h2⟩:=Ap (tt:=tt) (T:=T) hv hI hk
    obtain⟨st',X',hF,h3,h4⟩:=fO h h1.inv h2
    exact⟨st',X',hF,h1.trans h3,h4⟩
   ·exact h.elim
  cases key with
  | s s=>
   cases hb:Nat.ble 1000 tt with
   | true=>
    simp only [iQ,hb]at h
    unfold yx at h
    split at h
    ·obtain⟨hd,h⟩:=h
     have JH:aw st.rs fr ((.s s,.p (.sl (tt - 1000) 0))::st.kn):=fun key k hm=>by
      rcases List.mem_cons.1 hm with e | hm
      ·injection e with e1 e2
       subst e1;subst e2
       exact hd
      ·exact hk key k hm
     obtain⟨st',X',hF,h3,h4⟩:=fO h hI JH
     exact⟨st',X',hF,⟨h3.inv,h3.len,h3.md,h3.root⟩,h4⟩
    ·split at h
     ·rename_i N3 hm
      obtain⟨X1,h1,h2⟩:=Cp hm hI hk
      obtain⟨st',X',hF,h3,h4⟩:=fO h h1.inv h2
      exact⟨st',X',hF,h1.trans h3,h4⟩
     ·exact h.elim
   | false=>simp only [iQ,hb]at h;exact old h
  | c id off=>cases hb:Nat.ble 1000 tt<;>simp only [iQ,hb]at h<;>exact old h
  | l id path=>cases hb:Nat.ble 1000 tt<;>simp only [iQ,hb]at h<;>exact old h
theorem Gu {c:Code} {Q:QF2 U} {a:Act} {st':St U} {X':Nat→Nat→Prop} {ws:List Nat}(hS:Steps w0 k0 X0 may st X st' X' w)(h:c.wpIn (WF none) 0 P (ki n ws a fun x JQ w2=>Aft w0 k0 X0 may st' X' fr.ds (fun fr' st'=>Q x fr' st') JQ w2) a w):
 c.wpIn (WF none) 0 P (ki n ws a fun x JQ w2=>Aft w0 k0 X0 may st X fr.ds (fun fr' st'=>Q x fr' st') JQ w2) a w:=by
 refine wpIn_mono h fun x a' w' he=>?_
 cases x
 case outgrown=>exact he
 all_goals
  obtain⟨fr',Jg,hq,JE⟩:=he
  exact⟨fr',Jg,hq.pre hS,JE⟩
theorem Aq {c:Code} {an:An} {V:QF2 U→Fr→St U→Prop}(h:pF U P may k0 w0 X0 n c V):pF U P may k0 w0 X0 n c fun Q fr st=>n0 U k0 an Q fr st fun Q st=>V Q fr st:=by
 intro Q fr st X a w hr hI hk hv
 simp only [n0]at hv
 obtain⟨st',X',hv,h1,h2⟩:=fO hv hI hk
 refine wpIn_mono (h Q fr st' X' a w hr h1.inv h2 hv) fun x a' w' he=>?_
 cases x
 case outgrown=>exact he
 all_goals
  obtain⟨fr',Jg,hq,JE⟩:=he
  exact⟨fr',Jg,hq.pre h1,JE⟩
theorem eF {c:Code} {an:An} {V:QF2 U→Fr→St U→Prop}(h:pF U P may k0 w0 X0 n c V):pF U P may k0 w0 X0 n c fun Q fr st=>fC U may k0 c an Q fr st fun Q st=>V Q fr st:=by
 refine Aq (V:=fun Q fr st=>nZ U may k0 c an Q fr st fun Q st=>V Q fr st) ?_
 intro Q fr st X a w hr hI hk hv
 simp only [nZ]at hv
 split at hv
 ·exact h Q fr st X a w hr hI hk hv
 ·rename_i ct hct
  split at hv
  ·rename_i KP
   simp only [Bool.and_eq_true]at KP
   obtain⟨KP,JO⟩:=KP
   obtain⟨J,h1,h2⟩:=hv
   have QO:=h _ fr {st with md:= []} X a w hr hI hk h1
   refine wpIn_mono QO fun x a' w' he=>?_
   have other:∀fr',(Aft w0 k0 X0 may {st with md:= []} X fr.ds (fun fr' st'=>Q x fr' (iH U st' st.md)) fr' w')→Aft w0 k0 X0 may st X fr.ds (fun fr' st'=>Q x fr' st') fr' w':=by
    rintro fr' ⟨st',X',g1,g2,g3,g4⟩
    exact⟨iH U st' st.md,X',g1.back,g2,g3,g4⟩
   cases x
   case normal=>
    obtain⟨fr',Jg,⟨st',X',g1,g2,g3,g4⟩,JE⟩:=he
    obtain⟨L,hL,cL,hl⟩:=g1.md
    have hL:st'.md=L:=by rw [hL];simp
    obtain⟨e,Ka,f1,f2,f3,f4,f5,f6,f7,f8⟩:=u5 (stb:=st) (X:=X) hr Jg JE KP hk g2 g1.inv g1.len (fun i hi hm _=>hl i hi (by rw [← hL];exact hm)) g1.root hI.len g4 (h2 _)
    refine⟨_,f2,⟨iH U Ka (aD (·.1) ct.rsh++st.md),X',⟨f3,by show st.rs.length≤Ka.rs.length;omega,⟨aD (·.1) ct.rsh,?_,fun i hi=>eY (bP.1 JO i hi),f7⟩,f8⟩,f4,rfl,f1⟩,JE⟩
    show Ka.md++(aD (·.1) ct.rsh++st.md)=_
    rw [f5];rfl
   case outgrown=>exact he
   all_goals
    obtain⟨fr',Jg,hq,JE⟩:=he
    exact⟨fr',Jg,other fr' hq,JE⟩
  ·exact hv.elim
theorem cZ(JZ:∀f c,tbl.c f=some c→LV U P f c∧bB P f=true)(hm:P.follows .mixedOrders=true):∀(c:Code)(an:An),pF U P may k0 w0 X0 n c (fun Q fr st=>iu U P tbl may k0 n N c an Q fr st)
 | .skip,an=>fun Q fr st X a w hr hI hk hv=>wpIn_skip ⟨fr,hr,⟨st,X,Steps.refl hI,hk,rfl,hv⟩,Agr.refl _ _⟩
 | .region id ops false,an=>eF (c:= .region id ops false) (V:=fun Q fr st=>zz U P tbl may k0 n N ops (Q .normal) (fun ch=>Q (.panic ch)) ops.toList fr st) fun Q fr st X a w hr hI hk hv=>ql JZ hr hI hk hv
 | .region id ops true,an=>eF (c:= .region id ops true) (V:=fun Q fr st=>match Region.noSelect ops,dg ops.toList with
  | true,true=>qi U P tbl may k0 n N ops (jx P ops.toList) an.V an.rd (Q .normal) ops.size (Array.replicate ops.size false) fr st
  | _,_=>False) fun Q fr st X a w hr hI hk hv=>by
  dsimp only at hv
  split at hv
  ·rename_i hs KS
   exact sy JZ hm hs KS hr hI hk hv
  ·exact hv.elim
 | .seq x y,an=>eF (c:= .seq x y) (V:=fun Q fr st=>iu U P tbl may k0 n N x an.l (fun e fr' st'=>match e with | .normal=>iu U P tbl may k0 n N y an.r Q fr' st' | e=>Q e fr' st') fr st) fun Q fr st X a w hr hI hk hv=>by
  refine wpIn_seq (wpIn_mono (cZ JZ hm x an.l _ fr st X a w hr hI hk hv) fun e a' w' he=>?_)
  cases e
  case normal=>
   obtain⟨fr',Jg,⟨st',X',g1,g2,g3,g4⟩,JE⟩:=he
   refine wpIn_mono (cZ JZ hm y an.r Q fr' st' X' a' w' Jg g1.inv g2 g4) fun e a2 w2 he=>?_
   cases e<;>first
    | exact he.elim
    | (obtain⟨JQ,h1,h2,h3⟩:=he
       exact⟨JQ,h1,g3▸h2.pre g1,(JE.mono fun i hi=>List.mem_append_left _ hi).trans (h3.mono fun i hi=>List.mem_append_right _ hi)⟩)
  all_goals first
   | exact he.elim
   | (obtain⟨JQ,h1,h2,h3⟩:=he
      exact⟨JQ,h1,h2,h3.mono fun i hi=>List.mem_append_left _ hi⟩)
 | .cond c x y,an=>eF (c:= .cond c x y) (V:=fun Q fr st=>match ev fr c with
  | .bool b=>split b (iu U P tbl may k0 n N x an.l Q fr st) (iu U P tbl may k0 n N y an.r Q fr st)
  | _=>False) fun Q fr st X a w hr hI hk hv=>by
  dsimp only at hv
  split at hv
  ·rename_i b hb
   rw [← hr.eval]at hb
   rcases eB hv with⟨rfl,MR⟩ | ⟨rfl,MR⟩
   ·exact wpIn_cond_true hb (wpIn_mono (cZ JZ hm x an.l Q fr st X a w hr hI hk MR) fun e a' w' he=>he.mono (fun i hi=>List.mem_append_left _ hi) (fun _ _ _ h=>h))
   ·exact wpIn_cond_false hb (wpIn_mono (cZ JZ hm y an.r Q fr st X a w hr hI hk MR) fun e a' w' he=>he.mono (fun i hi=>List.mem_append_right _ hi) (fun _ _ _ h=>h))
  ·exact hv.elim
 | .block id c,an=>eF (c:= .block id c) (V:=fun Q fr st=>iu U P tbl may k0 n N c an.l (fun e fr' st'=>match e with
  | .exit id'=>(match Nat.beq id' id with | true=>Q .normal fr' st' | false=>Q (.exit id') fr' st')
  | e=>Q e fr' st') fr st) fun Q fr st X a w hr hI hk hv=>by
  refine wpIn_block (wpIn_mono (cZ JZ hm c an.l _ fr st X a w hr hI hk hv) fun e a' w' he=>?_)
  cases e
  case exit id'=>
   obtain⟨fr',Jg,hq,JE⟩:=he
   simp only [Exit.inBlock]
   split
   ·rename_i hi
    subst hi
    exact⟨fr',Jg,hq.mono fun fr st Md=>(by dsimp only at Md;rw [Nat.beq_refl]at Md;exact Md),JE⟩
   ·rename_i hi
    refine⟨fr',Jg,hq.mono fun fr st Md=>?_,JE⟩
    dsimp only at Md
    split at Md
    ·rename_i hb;exact absurd (Nat.eq_of_beq_eq_true hb) hi
    ·exact Md
  all_goals exact he
 | .loop c,an=>fun Q fr st00 X00 a w hr VM Vj hv=>by
  simp only [iu,n0]at hv
  obtain⟨st,X,hv,Tz,hk⟩:=fO hv VM Vj
  have hI:=Tz.inv
  refine Gu Tz ?_
  split at hv
  ·exact hv.elim
  ·rename_i ct hct
   split at hv
   ·rename_i KP
    simp only [Bool.and_eq_true]at KP
    obtain⟨KP,JO⟩:=KP
    obtain⟨I,⟨m0,h0⟩,K1⟩:=hv
    refine kS (fun m a' w'=>∃fr' st' X',Rep n fr' a'∧(Inv w0 k0 X0 may st'.rs X' w'∧st.rs.length≤st'.rs.length∧(∀i,i<st.rs.length→i ∉ st'.md→i ∉ aD (·.1) ct.rsh→nth st'.rs i=nth st.rs i∧X' i=X i)∧∀i a,nth st.rs i=some a→∃b,nth st'.rs i=some b∧cl a b)∧aw st'.rs fr' st'.kn∧mh ct st.rs.length (I m) fr' st'∧Agr (writes c) a a') m0 ⟨fr,{st with md:= []},X,hr,⟨hI,Nat.le_refl _,fun _ _ _ _=>⟨rfl,rfl⟩,fun i a ha=>⟨a,ha,cl.refl a⟩⟩,hk,h0,Agr.refl _ _⟩ ?_
    rintro m a1 w1 ⟨fr1,N3,X1,O9,⟨Lo,O8,Px,TZ⟩,J7,hu,JE⟩
    obtain⟨e,Ka,f1,f2,f3,f4,f5,f6,f7,f8⟩:=u5 (stb:=st) (X:=X) hr O9 JE KP hk J7 Lo O8 Px TZ hI.len hu (K1 m _)
    refine wpIn_mono (cZ JZ hm c an.l _ _ Ka X1 a1 w1 f2 f3 f4 f1) fun x a' w' he=>?_
    have join:∀ {MN:St U} {X3:Nat→Nat→Prop},Steps w0 k0 X0 may Ka X1 MN X3 w'→∃L3,MN.md=L3∧(∀i,i∈L3→i∈may∨k0≤i)∧∀i,i<st.rs.length→i ∉ L3→i ∉ aD (·.1) ct.rsh→nth MN.rs i=nth st.rs i∧X3 i=X i:=by
     intro MN X3 Px
     obtain⟨L3,TA,VQ,Nn⟩:=Px.md
     refine⟨L3,by rw [TA,f5];simp,VQ,fun i hi hn ON=>?_⟩
     obtain⟨e1,e2⟩:=Nn i (by omega) hn
     obtain⟨e3,e4⟩:=f7 i hi ON
     exact⟨e1.trans e3,e2.trans e4⟩
    have rootj:∀ {MN:St U} {X3:Nat→Nat→Prop},Steps w0 k0 X0 may Ka X1 MN X3 w'→∀i a,nth st.rs i=some a→∃b,nth MN.rs i=some b∧cl a b:=by
     intro MN X3 Px i x hx
     obtain⟨b,hb,hr⟩:=f8 i x hx
     obtain⟨c',Qj,Jg⟩:=Px.root i b hb
     exact⟨c',Qj,hr.trans Jg⟩
    have out:∀ {K:Fr→St U→Prop} {fr':Fr},Aft w0 k0 X0 may Ka X1 fr.ds (fun fr' st'=>K fr' (iH U st' (aD (·.1) ct.rsh++st.md))) fr' w'→Aft w0 k0 X0 may st X fr.ds K fr' w':=by
     rintro K fr' ⟨MN,X3,g1,g2,g3,g4⟩
     obtain⟨L3,TA,VQ,Nn⟩:=join g1
     refine⟨iH U MN (aD (·.1) ct.rsh++st.md),X3,⟨g1.inv,?_,⟨L3++aD (·.1) ct.rsh,?_,fun i hi=>(List.mem_append.1 hi).elim (VQ i) (fun hi=>eY (bP.1 JO i hi)),fun i hi hn=>?_⟩,fun i x hx=>rootj g1 i x hx⟩,g2,g3,g4⟩
     ·show st.rs.length≤MN.rs.length
      have:=g1.len;omega
     ·show MN.md++(_++_)=_
      rw [TA,List.append_assoc]
     ·rw [List.mem_append,not_or]at hn
      exact Nn i hi hn.1 hn.2
    cases x
    case normal=>
     obtain⟨fr',Jg,⟨MN,X3,g1,g2,g3,m',Jt,hu'⟩,MA⟩:=he
     obtain⟨L3,TA,_,Nn⟩:=join g1
     exact⟨m',Jt,fr',MN,X3,Jg,⟨g1.inv,by have:=g1.len;omega,fun i hi hn ON=>Nn i hi (by rw [← TA];exact hn) ON,rootj g1⟩,g2,hu',JE.trans MA⟩
    case outgrown=>exact he
    all_goals
     obtain⟨fr',Jg,hq,MA⟩:=he
     exact⟨fr',Jg,out hq,JE.trans MA⟩
   ·exact hv.elim
 | .exit id,an=>fun Q fr st X a w hr hI hk hv=>wpIn_exit ⟨fr,hr,⟨st,X,Steps.refl hI,hk,rfl,hv⟩,Agr.refl _ _⟩
 | .ret,an=>fun Q fr st X a w hr hI hk hv=>wpIn_ret ⟨fr,hr,⟨st,X,Steps.refl hI,hk,rfl,hv⟩,Agr.refl _ _⟩
 | .scope c,an=>by
  refine eF (c:= .scope c) (V:=fun Q fr st=>iu U P tbl may k0 n N c an.l (fun e fr' st'=>match e with
   | .goto _=>False
   | e=>Q e fr' st') fr st) fun Q fr st X a w hr hI hk hv=>?_
  refine(wpIn_wide (n:=0)).2 (wp_scope_straight ((wpIn_wide (n:=0)).1 (wpIn_mono (cZ JZ hm c an.l _ fr st X a w hr hI hk hv) fun e a' w' he=>?_)))
  cases e
  case goto l=>obtain⟨_,_,⟨_,_,_,_,_,h⟩,_⟩:=he;exact h.elim
  all_goals exact he
 | .label _,an=>fun Q fr st X a w hr hI hk hv=>wpIn_label ⟨fr,hr,⟨st,X,Steps.refl hI,hk,rfl,hv⟩,Agr.refl _ _⟩
 | .rangeFunc _ _ _ _,an=>fun Q fr st X a w hr hI hk hv=>hv.elim
 | .goto _,an=>fun Q fr st X a w hr hI hk hv=>hv.elim
 | .refuse _,an=>fun Q fr st X a w hr hI hk hv=>hv.elim
end
end
end Go.Proofs.YtfgpafjlcgaimaaGreatDoor.V
namespace Go.Proofs.YtfgpafjlcgaimaaGreatDoor.V
open Go Go.RowKit
open Go.IntKind (i64 u32 u64)
open Enc (enc)
section
section
variable {U:Uni} {P:Program} {tbl:Tb U} {may:List Nat} {k0:Nat}
variable {w0:World} {X0 X:Nat→Nat→Prop} {w:World} {fr:Fr} {st:St U} {n:Nat} {N:List Nat}
theorem zZ {t:TypeId} {k:Option Kn} {x:Value} {K:Value→Option Kn→Prop}(h:rl U P t k st K)(hx:KnO st.rs x k):∃q,x= .pointer (some q):=by
 unfold rl at h
 split at h
 ·rename_i id off
  split at h
  ·rename_i g cs T hn
   have hd:den U st.rs (.loc id off)=some x:=hx
   simp only [den,PK.id,hn,bF,Option.some.injEq]at hd
   exact⟨_,hd.symm⟩
  ·exact h.elim
 ·rename_i id path off
  split at h
  ·rename_i tt r s hn
   have hd:den U st.rs (.obj id path off)=some x:=hx
   simp only [den,PK.id,hn,bF,Option.some.injEq]at hd
   exact⟨_,hd.symm⟩
  ·exact h.elim
 ·rename_i id li i off
  split at h
  ·rename_i r hn
   split at h
   ·rename_i L hL
    have hd:den U st.rs (.el id li i off)=some x:=hx
    simp only [den,PK.id,hn,bF,hL]at hd
    split at hd
    ·injection hd with hd;exact⟨_,hd.symm⟩
    ·cases hd
   ·exact h.elim
  ·exact h.elim
 ·exact h.elim
theorem iD {tmps:Array Value}(ht:∀i,tmps.getD i undef=lk fr.g i fr.e)(hS:Sat st.rs X w)(hk:aw st.rs fr st.kn):∀(rs:List ResultVar) {F:List Value→List (Option Kn)→Prop},jj U P fr st rs F→
 ∃vs ks,F vs ks∧vs.length=ks.length∧(∀j v k,nth vs j=some v→nth ks j=some k→KnO st.rs v k)∧(rs.mapM (jf tmps)).run P w= .ok vs w
 | [],F,h=>⟨[],[],h,rfl,fun j v k hv=>by simp [nth]at hv,rfl⟩
 | .tmp t::r,F,h=>by
  obtain⟨vs,ks,hF,hl,Kr,hr⟩:=iD ht hS hk r h
  refine⟨_,_,hF,by simp [hl],fun j v k hv JG=>?_,?_⟩
  ·cases j with
   | zero=>
    simp only [nth,Option.some.injEq]at hv JG
    subst hv;subst JG
    cases hg:bW (.s t) st.kn with
    | none=>exact trivial
    | some q=>exact hk.get hg
   | succ j=>exact Kr j v k hv JG
  ·have h1:(jf tmps (.tmp t)).run P w= .ok (lk fr.g t fr.e) w:=by rw [← ht];rfl
   rw [List.mapM_cons,Sem.run_bind,h1]
   show(Sem.run P (do let bs ← r.mapM (jf tmps);pure (lk fr.g t fr.e::bs)) w)=_
   rw [Sem.run_bind,hr]
   rfl
 | .cell a t::r,F,h=>by
  simp only [jj]at h
  have hx:KnO st.rs (lk fr.g a fr.e) (bW (.s a) st.kn):=by
   cases hg:bW (.s a) st.kn with
   | none=>exact trivial
   | some q=>exact hk.get hg
  obtain⟨q,hq⟩:=zZ h hx
  obtain⟨v,kv,hF,LA,Ki⟩:=rk hS hk hx h
  obtain⟨vs,ks,hF,hl,Kr,hr⟩:=iD ht hS hk r hF
  refine⟨_,_,hF,by simp [hl],fun j u k hv JG=>?_,?_⟩
  ·cases j with
   | zero=>
    simp only [nth,Option.some.injEq]at hv JG
    subst hv;subst JG
    exact LA
   | succ j=>exact Kr j u k hv JG
  ·have h2:=Ki w (Kept.refl _ _)
   rw [hq]at h2
   have h1:(jf tmps (.cell a t)).run P w= .ok v w:=by
    show(do loadVar t (← asAddr (tmps.getD a undef)):Sem Value).run P w=_
    rw [ht,hq]
    exact h2
   rw [List.mapM_cons,Sem.run_bind,h1]
   show(Sem.run P (do let bs ← r.mapM (jf tmps);pure (v::bs)) w)=_
   rw [Sem.run_bind,hr]
   rfl
theorem ue {fn:Func} {tmps:Array Value} {vs:List Value}(hr:(fn.results.toList.mapM (jf tmps)).run P w= .ok vs w):(results fn tmps).run P w= .ok (match vs with | [v]=>v | vs=>.tuple ⟨vs⟩) w:=by
 have hm:(fn.results.mapM (jf tmps)).run P w= .ok ⟨vs⟩ w:=by
  rw [Array.mapM_eq_mapM_toList]
  simp [hr]
 have Of:results fn tmps=(do let vs ← fn.results.mapM (jf tmps);pure (if h:vs.size=1 then vs[0]else .tuple vs)):=by
  unfold results jf
  congr 1
 rw [Of,Sem.run_bind,hm]
 cases vs with
 | nil=>rfl
 | cons v r=>
  cases r with
  | nil=>rfl
  | cons u r=>rfl
theorem te {a b:Res U}(h:cl a b):cq a (qL U b)=some b:=by
 cases h
 ·rename_i h
  simp only [cq,qL,h,Nat.beq_refl]
 ·simp [cq,qL]
 ·simp [cq,qL]
theorem ke {G:List (Res U)}:∀ {ms:List Nat} {us:List (Res U)} {L:List (Res U)},fK (nth G) ms=some us→(∀i,i∈ms→∀b,nth G i=some b→∃a,nth L i=some a∧cl a b)→∃L',bh L ms (aD (qL U) us)=some L'∧L'.length=L.length∧(∀i,i∈ms→nth L' i=nth G i)∧∀i,i ∉ ms→nth L' i=nth L i
 | [],us,L,hM,h=>by
  simp only [fK,Option.some.injEq]at hM
  subst hM
  exact⟨L,rfl,rfl,fun i hi=>(by cases hi),fun _ _=>rfl⟩
 | m::ms,us,L,hM,h=>by
  simp only [fK]at hM
  split at hM
  ·rename_i b bs hb Ql
   injection hM with hM
   subst hM
   obtain⟨a,ha,hr⟩:=h m (List.mem_cons_self ..) b hb
   have Ua:=aP ha
   have e:∀j,nth (bt L m b) j=if j=m then some b else nth L j:=fun j=>by
    rw [aV]
    by_cases hj:j=m
    ·rw [if_pos ⟨hj,Ua⟩,if_pos hj]
    ·rw [if_neg (fun hh=>hj hh.1),if_neg hj]
   obtain⟨L',h1,h2,h3,h4⟩:=ke (L:=bt L m b) Ql fun i hi x hx=>by
    rw [e]
    by_cases hj:i=m
    ·subst hj
     rw [hb]at hx
     injection hx with hx
     subst hx
     exact⟨b,by rw [if_pos rfl],cl.refl b⟩
    ·rw [if_neg hj];exact h i (List.mem_cons_of_mem _ hi) x hx
   refine⟨L',?_,by rw [h2];simp,fun i hi=>?_,fun i hi=>?_⟩
   ·simp only [aD,bh,ha,te hr]
    exact h1
   ·by_cases hm:i∈ms
    ·exact h3 i hm
    ·have:i=m:=(List.mem_cons.1 hi).resolve_right hm
     subst this
     rw [h4 i hm,e,if_pos rfl,hb]
   ·rw [List.mem_cons,not_or]at hi
    rw [h4 i hi.2,e,if_neg hi.1]
  ·cases hM
theorem qW {i:Nat}:∀ {l:List Nat} {p q:Nat},posOf i l p=some q→p≤q∧nth l (q - p)=some i
 | [],_,_,h=>by cases h
 | j::r,p,q,h=>by
  simp only [posOf]at h
  split at h
  ·rename_i he
   injection h with h
   subst h
   exact⟨Nat.le_refl _,by rw [Nat.sub_self,Nat.eq_of_beq_eq_true he];rfl⟩
  ·obtain⟨h1,h2⟩:=qW h
   refine⟨by omega,?_⟩
   rw [show q - p=(q - (p+1))+1 by omega]
   exact h2
theorem uy {α β:Type} {f:α→Option β} {l:List α} {r:List β}(h:fK f l=some r) {i:Nat} {a:α}(ha:nth l i=some a):f a=nth r i:=by
 obtain⟨b,h1,h2⟩:=(oP h).2 i a ha
 rw [h1,h2]
theorem Cr {α β:Type} {f:α→Option β} {l:List α} {r:List β}(h:fK f l=some r):r.length=l.length:=(oP h).1
theorem mE {rs:List (Res U)} {key:Key} {k:Kn}:∀ {l:List (Key×Kn)},na rs l=true→(key,k)∈l→(∃p v,k= .p p∧den U rs p=some v)∨∃l,k= .ag l∧∀j p,nth l j=some (some p)→∃v,den U rs p=some v
 | [],_,h=>by cases h
 | (a,.p p)::r,h,hm=>by
  simp only [na]at h
  split at h
  ·rename_i v hv
   rcases List.mem_cons.1 hm with e | hm
   ·injection e with e1 e2;subst e2;exact .inl ⟨p,v,rfl,hv⟩
   ·exact mE h hm
  ·cases h
 | (a,.t _)::r,h,_=>by cases h
 | (a,.ag l)::r,h,hm=>by
  simp only [na]at h
  split at h
  ·rename_i hl
   rcases List.mem_cons.1 hm with e | hm
   ·injection e with e1 e2;subst e2
    refine .inr ⟨l,rfl,fun j p hj=>?_⟩
    have:=bP.1 hl _ (fv hj)
    simp only [z8]at this
    split at this
    ·rename_i v hv;exact⟨v,hv⟩
    ·cases this
   ·exact mE h hm
  ·cases h
 | (a,.f _ _)::r,h,_=>by cases h
theorem ln {key:Key} {k:Kn}:∀ {l:List (Option Kn)} {i:Nat},(key,k)∈qn i l→∃j,key= .s (i+j)∧nth l j=some (some k)
 | [],_,h=>by cases h
 | none::r,i,h=>by
  obtain⟨j,h1,h2⟩:=ln (l:=r) h
  exact⟨j+1,by rw [h1];congr 1;omega,h2⟩
 | some q::r,i,h=>by
  rcases List.mem_cons.1 h with e | h
  ·injection e with e1 e2;subst e2;exact⟨0,e1,rfl⟩
  ·obtain⟨j,h1,h2⟩:=ln (l:=r) h
   exact⟨j+1,by rw [h1];congr 1;omega,h2⟩
theorem pn {id:Nat} {key:Key} {k:Kn}:∀ {l:List AV} {i:Nat},(key,k)∈Fe id i l→∃j p,key= .c id (i+j)∧k= .p p∧nth l j=some (.k p)
 | [],_,h=>by cases h
 | .v _::r,i,h=>by
  obtain⟨j,p,h1,h2,h3⟩:=pn (l:=r) h
  exact⟨j+1,p,by rw [h1];congr 1;omega,h2,h3⟩
 | .k q::r,i,h=>by
  rcases List.mem_cons.1 h with e | h
  ·injection e with e1 e2;exact⟨0,q,e1,e2,rfl⟩
  ·obtain⟨j,p,h1,h2,h3⟩:=pn (l:=r) h
   exact⟨j+1,p,by rw [h1];congr 1;omega,h2,h3⟩
theorem jl {key:Key} {k:Kn}:∀ {l:List (PR U)} {i:Nat},(key,k)∈w8 i l→∃j g az T o p,nth l j=some (.blk g az T)∧key= .c (i+j) o∧k= .p p∧nth az o=some (.k p)
 | [],_,h=>by cases h
 | .blk g az T::r,i,h=>by
  rcases List.mem_append.1 h with h | h
  ·obtain⟨o,p,h1,h2,h3⟩:=pn h
   exact⟨0,g,az,T,o,p,rfl,by rw [h1];simp,h2,h3⟩
  ·obtain⟨j,a,b,c,o,p,h1,h2,h3⟩:=jl (l:=r) h
   exact⟨j+1,a,b,c,o,p,h1,by rw [h2];congr 1;omega,h3⟩
 | .ob .. ::r,i,h=>by
  obtain⟨j,a,b,c,o,p,h1,h2,h3⟩:=jl (l:=r) h
  exact⟨j+1,a,b,c,o,p,h1,by rw [h2];congr 1;omega,h3⟩
 | .lst .. ::r,i,h=>by
  obtain⟨j,a,b,c,o,p,h1,h2,h3⟩:=jl (l:=r) h
  exact⟨j+1,a,b,c,o,p,h1,by rw [h2];congr 1;omega,h3⟩
theorem vx {T:Type} {c:CP} {J:c.T T} {F G:T→AV→Prop}(h:alC c J F)(hg:∀a b,F a b→G a b):alC c J G:=by
 cases c<;>simp only [alC]at h ⊢ <;>first | exact fun x=>hg _ _ (h x) | exact fun x y z=>hg _ _ (h x y z) | exact hg _ _ h
theorem mK {T:Type}:∀ {l:List CP} {J:yq l T} {F G:T→List AV→Prop},xP l J F→(∀a b,F a b→G a b)→xP l J G
 | [],_,_,_,h,hg=>hg _ _ h
 | c::l,J,F,G,h,hg=>vx (c:=c) h fun _ _ h=>mK h fun _ _ h=>hg _ _ h
theorem Dc {T:Type} {a:AP} {J:a.T U T} {F G:T→AA→Prop}(h:alA a J F)(hg:∀a b,F a b→G a b):alA a J G:=by
 cases a with
 | one c=>exact vx (c:=c) h fun _ _ h=>hg _ _ h
 | agg l=>exact mK (l:=l) h fun _ _ h=>hg _ _ h
 | enc tt=>exact fun x=>hg _ _ (h x)
theorem rL {T:Type}:∀ {l:List AP} {J:yu U l T} {F G:T→List AA→Prop},tj l J F→(∀a b,F a b→G a b)→tj l J G
 | [],_,_,_,h,hg=>hg _ _ h
 | c::l,J,F,G,h,hg=>Dc (a:=c) h fun _ _ h=>rL h fun _ _ h=>hg _ _ h
theorem Da {T:Type} {p:RP} {J:p.T U T} {F G:T→PR U→Prop}(h:alR p J F)(hg:∀a b,F a b→G a b):alR p J G:=by
 cases p with
 | ob t=>exact fun r s=>hg _ _ (h r s)
 | blk l T=>exact fun g=>mK (h g) fun _ _ h=>hg _ _ h
 | lst t own T=>exact fun A c l=>hg _ _ (h A c l)
theorem rK {T:Type}:∀ {l:List RP} {J:AU U l T} {F G:T→List (PR U)→Prop},th l J F→(∀a b,b.length=l.length→F a b→G a b)→th l J G
 | [],_,_,_,h,hg=>hg _ _ rfl h
 | c::l,J,F,G,h,hg=>Da (p:=c) h fun _ _ h=>rK h fun _ _ hl h=>hg _ _ (by simp [hl]) h
theorem uQ {bd rets:List Nat} {Q:Ou U→Prop} {v:Value} {k:Option Kn} {Lb:List (Res U)} {X':Nat→Nat→Prop} {w':World}(h:G8 U k0 bd rets Q v k st)(Vk:Lb.length=k0)(hs:Steps w k0 X bd ⟨Lb,[],[]⟩ X st X' w')(hk:aw st.rs fr st.kn)(hv:k=some .pan∨KnO st.rs v k)(Kx:∀i,i∈bd→i<k0):
 ∃out rs' X'',jv k v=jv out.kr out.res∧Q out∧bh Lb bd out.upd=some rs'∧nt Lb bd X w out w' rs' X'':=by
 unfold G8 at h
 split at h
 case h_2=>exact h.elim
 rename_i us ns hus T4 Kl
 simp only [Bool.and_eq_true]at Kl
 obtain⟨On,KS⟩:=Kl
 have On:∀i,i∈rets→k0≤i:=fun i hi=>Nat.le_of_ble_eq_true (bP.1 On i hi)
 have KS:=kD KS
 obtain⟨L,hL,cL,hl⟩:=hs.md
 have Kk:∀i,i<k0→i ∉ bd→nth st.rs i=nth Lb i∧X' i=X i:=by
  intro i hi hm
  refine hl i (by simp only [];omega) fun Lp=>?_
  rcases cL i Lp with h | h
  ·exact hm h
  ·omega
 obtain⟨rs',J8,Ta,MU,U6⟩:=ke (L:=Lb) hus fun i hi b hb=>by
  obtain⟨a,ha⟩:=bM (l:=Lb) (i:=i) (by rw [Vk];exact Kx i hi)
  obtain⟨b',Mz,hr⟩:=hs.root i a ha
  rw [hb]at Mz
  injection Mz with Mz
  subst Mz
  exact⟨a,ha,hr⟩
 have Od:∀i,i<k0→nth rs' i=nth st.rs i:=by
  intro i hi
  by_cases hm:i∈bd
  ·exact MU i hm
  ·rw [U6 i hm,(Kk i hi hm).1]
 have S0:ns.length=rets.length:=Cr T4
 have OM:rs'.length=k0:=by rw [Ta,Vk]
 have P6:∀i j,kB k0 rets i=some j→nth (rs'++ns) j=nth st.rs i:=by
  intro i j JI
  unfold kB at JI
  split at JI
  ·rename_i hb
   have hb:i<k0:=by simpa [Nat.blt_eq]using hb
   injection JI with JI
   subst JI
   rw [aU,if_pos (by omega),Od i hb]
  ·simp only [Option.map_eq_some_iff]at JI
   obtain⟨p,hp,rfl⟩:=JI
   obtain⟨_,Jw⟩:=qW hp
   rw [Nat.sub_zero]at Jw
   rw [aU,if_neg (by omega),show k0+p - rs'.length=p by omega,← uy T4 Jw]
 have Ld:∀ {p q:PK} {u:Value},p.ren (kB k0 rets)=some q→den U st.rs p=some u→den U (rs'++ns) q=some u:=by
  intro p q u hp hd
  have h1:=P6 _ _ (PK.sx hp)
  unfold den at hd ⊢
  rw [h1,← hd]
  cases p<;>simp only [PK.ren,Option.map_eq_some_iff]at hp<;>obtain⟨i,hi,rfl⟩:=hp<;>simp only [PK.id]<;>cases nth st.rs _<;>first | rfl | (rename_i r;cases r<;>rfl)
 have Qc:∀ {v:Value} {k k':Kn},k.ren (kB k0 rets)=some k'→fW st.rs v k→fW (rs'++ns) v k':=by
  intro v k k' hk hv
  cases k with
  | pan=>exact hv.elim
  | p p=>
   simp only [Kn.ren,Option.map_eq_some_iff]at hk
   obtain⟨q,hq,rfl⟩:=hk
   exact Ld hq hv
  | t l=>
   simp only [Kn.ren,Option.some.injEq]at hk
   subst hk
   obtain⟨vs,e,hh⟩:=hv
   refine⟨vs,e,fun j q hj=>?_⟩
   obtain⟨p,hp,hq⟩:=cH hj
   obtain⟨u,hu,hd⟩:=hh j p hp
   exact⟨u,hu,Ld hq hd⟩
  | ag l=>
   simp only [Kn.ren,Option.some.injEq]at hk
   subst hk
   obtain⟨vs,e,hh⟩:=hv
   refine⟨vs,e,fun j q hj=>?_⟩
   obtain⟨p,hp,hq⟩:=cH hj
   obtain⟨u,hu,hd⟩:=hh j p hp
   exact⟨u,hu,Ld hq hd⟩
  | f a b=>
   simp only [Kn.ren,Option.some.injEq]at hk
   subst hk
   obtain⟨fn,fs,cs,e,hl,h1,h2⟩:=hv
   refine⟨fn,fs,cs,e,by simpa using hl,fun j q hj=>?_,fun j q hj=>?_⟩
   ·obtain⟨p,hp,hq⟩:=cH hj
    obtain⟨u,hu,hd⟩:=h1 j p hp
    exact⟨u,hu,Ld hq hd⟩
   ·obtain⟨p,hp,hq⟩:=cH hj
    obtain⟨u,hu,hd⟩:=h2 j p hp
    exact⟨u,hu,Ld hq hd⟩
 let X'':Nat→Nat→Prop:=fun i=>if i<k0 then X' i else match nth rets (i - k0)with
  | some r=>X' r
  | none=>fun _=>False
 have hX:∀i,i<k0→X'' i=X' i:=fun i hi=>if_pos hi
 have hXr:∀i r,¬i<k0→nth rets (i - k0)=some r→X'' i=X' r:=fun i r hi hr=>by
  show(if i<k0 then _ else _)=_
  rw [if_neg hi,hr]
 have MX:∀i,i<(rs'++ns).length→∃r,X'' i=X' r∧nth (rs'++ns) i=nth st.rs r∧r<st.rs.length∧((i<k0∧r=i)∨(¬i<k0∧k0≤r∧nth rets (i - k0)=some r)):=by
  intro i hi
  by_cases h1:i<k0
  ·refine⟨i,hX i h1,by rw [aU,if_pos (by omega),Od i h1],?_,.inl ⟨h1,rfl⟩⟩
   have:=hs.len
   simp only at this
   omega
  ·simp at hi
   obtain⟨r,hr⟩:=bM (l:=rets) (i:=i - k0) (by omega)
   have hn:=uy T4 hr
   obtain⟨y,hy⟩:=bM (l:=ns) (i:=i - k0) (by omega)
   rw [hy]at hn
   exact⟨r,hXr i r h1 hr,by rw [aU,if_neg (by omega),show i - rs'.length=i - k0 by omega,hy,hn],aP hn,.inr ⟨h1,On r (fv hr),hr⟩⟩
 refine⟨_,rs',X'',(ru ..).symm,h,J8,⟨⟨fun i r hr=>?_,fun i j hi hj JI k OP=>?_⟩,hs.inv.ch,fun i hi hm=>?_,fun i hm k OP=>?_,fun i h1 h2 k OP=>?_,?_,fun key q hq T4=>?_⟩⟩
 ·obtain⟨m,e1,e2,_⟩:=MX i (aP hr)
  rw [e1]
  exact hs.inv.sat.res m r (by rw [← e2];exact hr)
 ·obtain⟨a,a1,a2,a3,a4⟩:=MX i hi
  obtain⟨b,b1,b2,b3,b4⟩:=MX j hj
  rw [a1]at OP
  rw [b1]
  refine hs.inv.sat.dis a b a3 b3 (fun QS=>?_) k OP
  subst QS
  rcases a4 with⟨a5,a6⟩ | ⟨a5,a6,a7⟩<;>rcases b4 with⟨b5,b6⟩ | ⟨b5,b6,b7⟩
  ·exact JI (a6.symm.trans b6)
  ·omega
  ·omega
  ·have inj:∀(l:List Nat)(x y r:Nat),l.Nodup→nth l x=some r→nth l y=some r→x=y:=by
    intro l
    induction l with
    | nil=>intro x y r _ h;simp [nth]at h
    | cons z l ih=>
     intro x y r hn h1 h2
     rw [List.nodup_cons]at hn
     cases x with
     | zero=>
      simp only [nth,Option.some.injEq]at h1
      subst h1
      cases y with
      | zero=>rfl
      | succ y=>exact absurd (fv (l:=l) h2) hn.1
     | succ x=>
      cases y with
      | zero=>
       simp only [nth,Option.some.injEq]at h2
       subst h2
       exact absurd (fv (l:=l) h1) hn.1
      | succ y=>rw [ih x y r hn.2 h1 h2]
   have:=inj rets _ _ _ KS a7 b7
   omega
 ·rw [hX i (by omega)]
  exact(Kk i (by omega) hm).2
 ·rw [hX i (Kx i hm)]at OP
  exact hs.inv.old i (Kx i hm) k OP
 ·obtain⟨m,e1,e2,e3,e4⟩:=MX i (by simp only [List.length_append];simp only at h2;omega)
  rw [e1]at OP
  rcases e4 with⟨e5,e6⟩ | ⟨e5,e6,_⟩
  ·omega
  ·exact hs.inv.new m e6 e3 k OP
 ·rcases hv with rfl | hv
  ·exact .inl rfl
  right
  cases k with
  | none=>exact trivial
  | some k=>
   show KnO _ v (k.ren _)
   cases hkr:k.ren (kB k0 rets)with
   | none=>exact trivial
   | some k'=>exact Qc hkr hv
 ·obtain⟨i0,i',o',k1,⟨rfl,e2⟩ | ⟨rfl,e2⟩,e3,e4⟩:=gV hq
  ·obtain⟨PA,_⟩:=cK e2
   obtain⟨g,cs,T,u,q1,q2,q3⟩:=hk _ _ PA
   exact⟨g,cs,T,u,by show nth (rs'++ns) _=_;rw [P6 _ _ e3];exact q1,q2,Qc e4 q3⟩
  ·obtain⟨PA,_⟩:=cK e2
   obtain⟨t,r,s,q1,q2⟩:=hk _ _ PA
   exact⟨t,r,s,by show nth (rs'++ns) _=_;rw [P6 _ _ e3];exact q1,Qc e4 q2⟩
theorem zc {fn:Func} {rets:List Nat} {Q:Ou U→Prop} {Lb:List (Res U)} {bd:List Nat} {kn0:List (Key×Kn)} {a':Act} {w':World} {st':St U} {X':Nat→Nat→Prop}(OM:Lb.length=k0)(Kx:∀i,i∈bd→i<k0)(hr:Rep n fr a')(hs:Steps w k0 X bd ⟨Lb,kn0,[]⟩ X st' X' w')(hk:aw st'.rs fr st'.kn)
 (Of:ug U P k0 bd rets Q fn fr st'):∃v,(results fn a'.tmps).run P w'= .ok v w'∧bn Lb bd X w Q (.returned v) w':=by
 obtain⟨vs,ks,hF,hlen,LA,Ki⟩:=iD hr.get hs.inv.sat hk _ Of
 refine⟨_,ue Ki,?_⟩
 have SQ:Steps w k0 X bd ⟨Lb,[],[]⟩ X st' X' w':=⟨hs.inv,hs.len,hs.md,hs.root⟩
 have go:∀ {v k},CH U k0 bd rets Q v k st'→KnO st'.rs v k→∃out rs' X',Ending.returned v=jv out.kr out.res∧Q out∧bh Lb bd out.upd=some rs'∧nt Lb bd X w out w' rs' X':=by
  intro v k Mx QM
  obtain⟨out,rs',X'',h1,h2,h3,h4⟩:=uQ Mx OM SQ hk (.inr QM) Kx
  exact⟨out,rs',X'',by rw [← h1];cases k with | none=>rfl | some k=>cases k<;>first | rfl | exact QM.elim,h2,h3,h4⟩
 have tup:∀ {vs:List Value} {ks:List (Option Kn)},vs.length=ks.length→(∀j v k,nth vs j=some v→nth ks j=some k→KnO st'.rs v k)→KnO st'.rs (.tuple ⟨vs⟩) (some (.t (aD gC ks))):=by
  intro vs ks hlen LA
  refine⟨⟨vs⟩,rfl,fun j p hj=>?_⟩
  rw [ba]at hj
  cases hn:nth ks j with
  | none=>rw [hn]at hj;cases hj
  | some k=>
   rw [hn]at hj
   injection hj with hj
   obtain⟨v,hv⟩:=bM (l:=vs) (i:=j) (by rw [hlen];exact aP hn)
   refine⟨v,by rw [aH]at hv;simpa using hv,?_⟩
   have:=LA j v k hv hn
   unfold gC at hj
   split at hj
   ·injection hj with hj;subst hj;exact this
   ·cases hj
 cases vs with
 | nil=>
  cases ks with
  | nil=>exact go hF (tup rfl LA)
  | cons _ _=>simp at hlen
 | cons v r=>
  cases ks with
  | nil=>simp at hlen
  | cons k s=>
   cases r with
   | nil=>
    cases s with
    | nil=>exact go hF (LA 0 v k rfl rfl)
    | cons _ _=>simp at hlen
   | cons u r=>
    cases s with
    | nil=>simp at hlen
    | cons _ _=>exact go hF (tup hlen LA)
theorem Eu {f:Nat} {fn:Func} {c:Ctr U} {V:Code→(Ou U→Prop)→Fr→St U→Prop} {W:List Value→List (Option Kn)→List (Res U)→List (Key×Kn)→(Ou U→Prop)→Prop}(hf:P.funcs[f]? =some fn)
 (hV:∀(code:Code)(Q:Ou U→Prop)(Lb:List (Res U))(X:Nat→Nat→Prop)(w:World)(kn:List (Key×Kn))(fr:Fr)(a:Act),Lb.length=c.res.length→Inv w c.res.length X c.bd Lb X w→Rep fn.ntmps fr a→aw Lb fr kn→fr.ds= []→V code Q fr ⟨Lb,kn,[]⟩→code.wpIn (WF none) 0 P (bodyPostM (WF none) 0 P fn (bn Lb c.bd X w Q)) a w)
 (hW:∀args ks rs kc Q,W args ks rs kc Q→∃code,fn.body=some code∧Nat.ble args.length fn.ntmps=true∧na rs (qn 0 ks++kc)=true∧V code Q ⟨num 0 args,fun _=>undef,[]⟩ ⟨rs,qn 0 ks++kc,[]⟩)
 (h:tj c.args c.body fun B az=>th c.res B fun B ps=>∀Q:Ou U→Prop,B Q→sU (cN ps) (W (aD (px (aD PR.gO ps)) az) (aD Ar az) (cN ps) (w8 0 ps++sN 0 ps) Q)):LV U P f c:=by
 refine rL h fun B az h=>rK h fun B ps hl h=>?_
 intro Q hQ X w hsat hlkp
 have h:=gW (fun r hr=>by
  obtain⟨j,hj,he⟩:=List.mem_iff_getElem.1 hr
  exact⟨_,_,hsat.res j r (by rw [aH,List.getElem?_eq_getElem hj,he])⟩) (h Q hQ)
 obtain⟨code,hb,hnt,hkd,h⟩:=hW _ _ _ _ _ h
 have OO:(aD (px (aD PR.gO ps)) az).length≤fn.ntmps:=Nat.le_of_ble_eq_true hnt
 have OM:(cN ps).length=c.res.length:=by simp [hl]
 have hI:Inv w c.res.length X c.bd (cN ps) X w:=⟨hsat,Ch.refl _ _,fun i _ k hk=>.inl hk,fun i h1 h2=>by omega,by omega⟩
 generalize K4:aD (px (aD PR.gO ps)) az=args at h OO ⊢
 have Kr:aw (cN ps) ⟨num 0 args,fun _=>undef,[]⟩ (qn 0 (aD Ar az)++(w8 0 ps++sN 0 ps)):=by
  intro key k Jp
  rcases mE hkd Jp with⟨p,v,rfl,hd⟩ | ⟨l,rfl,hd⟩
  rotate_left
  ·rcases List.mem_append.1 Jp with Jp | Jp
   ·obtain⟨j,rfl,hj⟩:=ln Jp
    rw [Nat.zero_add]
    rw [ba]at hj
    cases ha:nth az j with
    | none=>rw [ha]at hj;cases hj
    | some a=>
     rw [ha]at hj
     injection hj with hj
     obtain⟨as',rfl,rfl⟩:∃as',a= .agg as'∧l=aD avK as':=by
      unfold Ar at hj
      split at hj
      ·cases hj
      ·cases hj
      ·split at hj
       ·injection hj with hj;injection hj with hj;exact⟨_,rfl,hj.symm⟩
       ·cases hj
     have hv:nth args j=some (.agg ⟨aD (g6 (aD PR.gO ps)) as'⟩):=by rw [← K4,ba,ha];rfl
     have Jt:=aP hv
     refine⟨⟨aD (g6 (aD PR.gO ps)) as'⟩,?_,fun j' k hk=>?_⟩
     ·show lk _ j (num 0 args)=_
      rw [oR,dif_pos ⟨Nat.zero_le _,by simpa using Jt⟩]
      rw [aH,List.getElem?_eq_getElem Jt]at hv
      simpa using hv
     ·obtain⟨u,hu⟩:=hd j' k hk
      refine⟨u,?_,hu⟩
      rw [ba]at hk
      cases hn:nth as' j' with
      | none=>rw [hn]at hk;cases hk
      | some b=>
       rw [hn]at hk
       injection hk with hk
       cases b with
       | v x=>cases hk
       | k p=>
        injection hk with hk
        subst hk
        have h9:nth (aD (g6 (aD PR.gO ps)) as') j'=some u:=by
         rw [ba,hn]
         show some ((den U (aD PR.gO ps) p).getD undef)=_
         rw [← nS,hu];rfl
        rw [aH]at h9
        simpa using h9
   ·rcases List.mem_append.1 Jp with Jp | Jp
    ·obtain⟨_,_,_,_,_,_,_,_,h3,_⟩:=jl Jp
     cases h3
    ·have h9:=gU Jp
     obtain⟨_,_,_,_,_,_,_,_,_,_,h3,h4⟩:=h9
     cases h4
  rcases List.mem_append.1 Jp with Jp | Jp
  ·obtain⟨j,rfl,hj⟩:=ln Jp
   rw [Nat.zero_add]
   rw [ba]at hj
   cases ha:nth az j with
   | none=>rw [ha]at hj;cases hj
   | some a=>
    rw [ha]at hj
    injection hj with hj
    have VD:a= .one (.k p):=by
     unfold Ar at hj
     split at hj
     ·injection hj with hj;injection hj with hj;rw [hj]
     ·cases hj
     ·split at hj<;>cases hj
    subst VD
    show den U (cN ps) p=some (lk _ j (num 0 args))
    have hv:nth args j=some v:=by
     rw [← K4,ba,ha]
     show some ((den U (aD PR.gO ps) p).getD undef)=_
     rw [← nS,hd];rfl
    have Jt:=aP hv
    rw [oR,dif_pos ⟨Nat.zero_le _,by simpa using Jt⟩,hd]
    rw [aH,List.getElem?_eq_getElem Jt]at hv
    rw [← hv]
    simp
  rcases List.mem_append.1 Jp with Jp | Jp
  rotate_left
  ·have h0:=hlkp _ _ Jp
   obtain⟨_,_,_,_,_,_,_,_,_,_,rfl,_⟩:=gU Jp
   exact h0
  ·obtain⟨j,g,as',T,o,q,h1,h2,h3,h4⟩:=jl Jp
   injection h3 with h3
   subst h3
   rw [h2,Nat.zero_add]
   refine⟨g,aD (g6 (aD PR.gO ps)) as',T,v,?_,?_,hd⟩
   ·rw [gZ,h1];rfl
   ·rw [ba,h4]
    show some ((den U (aD PR.gO ps) p).getD undef)=_
    rw [← nS,hd];rfl
 refine(callsIn_wide (n:=0)).1 (callsIn_of_wp_marks (F:=WF none) hf hb trivial ?_)
 have Lc:Rep fn.ntmps ⟨num 0 args,fun _=>undef,[]⟩ {tmps:=(⟨args⟩:Array Value)++Array.replicate (fn.ntmps - (⟨args⟩:Array Value).size) undef,defers:= []}:=by
  refine⟨by simp;omega,fun i=>?_,rfl⟩
  rw [oR]
  simp only [Nat.zero_le,Nat.sub_zero,true_and,Array.getD_eq_getD_getElem?]
  by_cases hi:i<args.length
  ·rw [dif_pos hi,Array.getElem?_append_left (by simpa using hi)]
   simp [hi]
  ·rw [dif_neg hi,Array.getElem?_append_right (by simpa using hi)]
   rw [Array.getElem?_replicate]
   split<;>rfl
 exact hV code Q (cN ps) X w _ _ _ OM hI Lc Kr rfl h
theorem Ev {f:Nat} {fn:Func} {an:An} {rets:List Nat} {c:Ctr U}(hf:P.funcs[f]? =some fn)(hm:P.follows .mixedOrders=true)(JZ:∀f c,tbl.c f=some c→LV U P f c∧bB P f=true)(Kx:gF (fun i=>Nat.blt i c.res.length) c.bd=true)(h:Vc2 U P tbl N fn an rets c):LV U P f c:=by
 have Mv:∀i,i∈c.bd→i<c.res.length:=fun i hi=>by simpa [Nat.blt_eq]using bP.1 Kx i hi
 refine Eu (V:=fun code Q fr st=>iu U P tbl c.bd c.res.length fn.ntmps N code an (fun e fr st=>match fr.ds,e with
  | [],.normal=>ug U P c.res.length c.bd rets Q fn fr st
  | [],.ret=>ug U P c.res.length c.bd rets Q fn fr st
  | [],.panic [⟨v,false,false⟩]=>CH U c.res.length c.bd rets Q v (some .pan) st
  | _,_=>False) fr st) hf ?_ (fun args ks rs kc Q h=>?_) h
 ·intro code Q Lb X w kn fr a OM hI Lc Kr KG h
  refine wpIn_mono (cZ JZ hm code an _ _ _ X _ w Lc hI Kr h) fun e a' w' he=>?_
  cases e
  case normal=>
   obtain⟨fr',hr,⟨st',X',g1,g2,g3,g4⟩,_⟩:=he
   have g3:fr'.ds= []:=g3.trans KG
   rw [g3]at g4
   show LeavesInM (WF none) 0 P fn a'.tmps _ a'.defers .returning w'
   rw [hr.defers,g3]
   exact zc OM Mv hr g1 g2 g4
  case ret=>
   obtain⟨fr',hr,⟨st',X',g1,g2,g3,g4⟩,_⟩:=he
   have g3:fr'.ds= []:=g3.trans KG
   rw [g3]at g4
   show LeavesInM (WF none) 0 P fn a'.tmps _ a'.defers .returning w'
   rw [hr.defers,g3]
   exact zc OM Mv hr g1 g2 g4
  case panic ch=>
   obtain⟨fr',hr,⟨st',X',g1,g2,g3,g4⟩,_⟩:=he
   have g3:fr'.ds= []:=g3.trans KG
   rw [g3]at g4
   rcases ch with _ | ⟨⟨v,_ | _,_ | _⟩,_ | ⟨c2,r⟩⟩<;>first | exact g4.elim | skip
   obtain⟨out,rs',X'',h1,h2,h3,h4⟩:=uQ g4 OM ⟨g1.inv,g1.len,g1.md,g1.root⟩ g2 (.inl rfl) Mv
   show LeavesInM (WF none) 0 P fn a'.tmps _ a'.defers (.panicking [⟨v,false,false⟩]) w'
   rw [hr.defers,g3]
   exact⟨out,rs',X'',h1,h2,h3,h4⟩
  case outgrown=>exact he.elim
  all_goals
   obtain⟨fr',hr,⟨st',X',g1,g2,g3,g4⟩,_⟩:=he
   have g3:fr'.ds= []:=g3.trans KG
   rw [g3]at g4
   exact g4.elim
 ·unfold HI at h
  split at h
  case h_2=>exact h.elim
  rename_i code hb Kl
  simp only [Bool.and_eq_true]at Kl
  exact⟨code,hb,Kl.1,Kl.2,h⟩
def zE {U:Uni}:List (Nat×Ctr U)→Nat→Option (Ctr U)
 | [],_=>none
 | (g,c)::r,f=>match Nat.beq g f with
  | true=>some c
  | false=>zE r f
abbrev aQ {U:Uni}(l:List (Nat×Ctr U)):Tb U:=⟨zE l,.bool,[]⟩
def wR(U:Uni)(P:Program):List (Nat×Ctr U)→Prop
 | []=>True
 | (f,c)::r=>LV U P f c∧wR U P r
theorem qM {c:Ctr U} {f:Nat}:∀ {tb:List (Nat×Ctr U)},zE tb f=some c→wR U P tb→gF (fun p=>bB P p.1) tb=true→LV U P f c∧bB P f=true
 | [],h,_,_=>by cases h
 | (g,d)::r,h,ha,hb=>by
  unfold zE at h
  have hc:=bP.1 hb
  split at h
  ·rename_i he
   injection h with h
   rw [← h,← Nat.eq_of_beq_eq_true he]
   exact⟨ha.1,hc _ (List.mem_cons_self ..)⟩
  ·exact qM h ha.2 (bP.2 fun x hx=>hc x (List.mem_cons_of_mem _ hx))
theorem verify {f:Nat} {fn:Func} {an:An} {rets:List Nat} {c:Ctr U} {tb:List (Nat×Ctr U)} {sh:Sh} {al:List (Nat×List PK×List PK)}(hf:P.funcs[f]? =some fn)(hm:P.follows .mixedOrders=true)(ht:wR U P tb)(hb:(gF (fun p=>bB P p.1) tb && gF (fun i=>Nat.blt i c.res.length) c.bd)=true)(h:Vc2 U P ⟨zE tb,sh,al⟩ N fn an rets c):LV U P f c:=by
 rw [Bool.and_eq_true]at hb
 exact Ev hf hm (fun f c Vt=>qM Vt ht hb.1) hb.2 h
theorem bn.pu {rs:List (Res U)} {X:Nat→Nat→Prop} {w w':World} {Q:Ou U→Prop} {v:Value} {k:Option Kn}(hs:Sat rs X w)(q:Pu w w')(hQ:Q ⟨v,k,[],[],[]⟩)(hk:KnO rs v k):bn rs [] X w Q (.returned v) w':=by
 have SQ:Sat (rs++ []) X w':=by
  rw [List.append_nil]
  exact⟨fun i r hr=>(hs.res i r hr).ch q (fun _ _ h=>h),hs.dis⟩
 refine⟨_,rs,X,dG hk,hQ,rfl,⟨SQ,q.mono fun k hk=>hk.elim,fun _ _ _=>rfl,fun i hi=>(by cases hi),fun i h1 h2=>by simp at h2;omega,.inr (by simpa using hk),fun _ k hk=>by cases hk⟩⟩
theorem bn.one {t:Nat} {r:Nat→Nat} {s s':U.ty t} {X:Nat→Nat→Prop} {w w':World} {Q:Ou U→Prop} {v:Value} {k:Option Kn} {Z:Nat→Prop}(q:Ch (X 0) w w')(hp:U.pred t r s' Z w')(hz:∀k,Z k→X 0 k∨w.heap.size≤k)(hQ:Q ⟨v,k,[.ob t s'],[],[]⟩)(hk:KnO [.ob t r s'] v k):bn [.ob t r s] [0] X w Q (.returned v) w':=by
 have J8:bh [Res.ob t r s] [0] [.ob t s']=some [.ob t r s']:=by simp [bh,cq,nth,bt]
 refine⟨_,_,fun i=>if i=0 then Z else X i,dG hk,hQ,J8,⟨⟨fun i r' hr=>?_,fun i j hi hj JI=>?_⟩,q.mono fun k hk=>⟨0,by simp,hk⟩,fun i hi hm=>?_,fun i hi k hk=>?_,fun i h1 h2=>by simp at h1 h2;omega,.inr hk,fun _ k hk=>by cases hk⟩⟩
 ·cases i with
  | zero=>simp only [List.append_nil,nth,Option.some.injEq]at hr;subst hr;exact hp
  | succ i=>simp [nth]at hr
 ·simp at hi hj;omega
 ·simp at hi hm;omega
 ·simp at hi;subst hi;exact hz k hk
theorem bn.new {t:Nat} {r:Nat→Nat} {s':U.ty t} {X:Nat→Nat→Prop} {w w':World} {Q:Ou U→Prop} {v:Value} {k:Option Kn} {Z:Nat→Prop}(q:Pu w w')(hp:U.pred t r s' Z w')(hz:∀k,Z k→w.heap.size≤k)(hQ:Q ⟨v,k,[],[.ob t r s'],[]⟩)(hk:KnO [.ob t r s'] v k):bn [] [] X w Q (.returned v) w':=by
 refine⟨_,[],fun i=>if i=0 then Z else X i,dG hk,hQ,rfl,⟨⟨fun i r' hr=>?_,fun i j hi hj JI=>?_⟩,q.mono fun k hk=>hk.elim,fun i hi hm=>?_,fun i hi=>(by cases hi),fun i h1 h2 k hk=>?_,.inr hk,fun _ k hk=>by cases hk⟩⟩
 ·cases i with
  | zero=>simp only [List.nil_append,nth,Option.some.injEq]at hr;subst hr;exact hp
  | succ i=>simp [nth]at hr
 ·simp at hi hj;omega
 ·simp at hi
 ·simp at h2;subst h2;exact hz k hk
theorem af {a b:Prop}(h:a)(k:a→b):a∧b:=⟨h,k h⟩
theorem KnO.tup {U:Uni} {rs:List (Res U)} {vs:Array Value}:∀(l:List (Option PK)),(∀o∈l,o=none)→KnO rs (.tuple vs) (some (.t l)):=fun l h=>⟨vs,rfl,fun j k hj=>by have:=h _ (fv hj);cases this⟩
theorem allEq {α:Sort _} {a:α} {F:α→Prop}(h:F a):∀x,x=a→F x:=fun _ e=>e▸h
theorem ab {α:Type} {a b:α} {l m:List α}(h:a=b)(k:l=m):a::l=b::m:=by rw [h,k]
theorem bq {α:Type} {F:(α→Prop)→Prop} {G:α→Prop}(e:α)(h1:F (fun x=>x=e))(h2:G e):∃J:α→Prop,F J∧∀(_:Nat→Value)(x:α),J x→G x:=⟨_,h1,fun _ _ h=>h▸h2⟩
theorem nE {α:Type} {F:(α→Prop)→Prop} {G:α→Prop}(h:F G):∃J:α→Prop,F J∧∀(_:Nat→Value)(x:α),J x→G x:=⟨_,h,fun _ _ h=>h⟩
theorem dup2 {α β:Type} {F:(α→β→Prop)→Prop} {G:α→β→Prop}(h:F G):∃J:α→β→Prop,F J∧∀(_:Nat→Value)(x:α)(y:β),J x y→G x y:=⟨_,h,fun _ _ _ h=>h⟩
theorem bf {U:Uni} {Q:Ou U→Prop} {a b:Bool} {k:Option Kn} {u:List (Upd U)} {n:List (Res U)} {kc:List (Key×Kn)}(h:Q ⟨.bool a,k,u,n,kc⟩)(h1:a=b):Q ⟨.bool b,k,u,n,kc⟩:=h1▸h
theorem eo {U:Uni} {Q:Ou U→Prop} {i:IntKind} {a b:Int} {k:Option Kn} {u:List (Upd U)} {n:List (Res U)} {kc:List (Key×Kn)}(h:Q ⟨.int i a,k,u,n,kc⟩)(h1:a=b):Q ⟨.int i b,k,u,n,kc⟩:=h1▸h
theorem av {U:Uni} {Q:Ou U→Prop} {a b:Value} {k:Option Kn} {u u':List (Upd U)} {n n':List (Res U)} {kc:List (Key×Kn)}(h:Q ⟨a,k,u,n,kc⟩)(h1:a=b)(h2:u=u')(h3:n=n'):Q ⟨b,k,u',n',kc⟩:=by rw [← h1,← h2,← h3];exact h
end
theorem aW {a b:Int}(h:a=b):Value.int .i64 a=Value.int .i64 b:=congrArg _ h
theorem fu {a b:Int}(h:a=b):Value.int .u32 a=Value.int .u32 b:=congrArg _ h
theorem eQb {a b:Bool}(h:a=b):Value.bool a=Value.bool b:=congrArg _ h
end
end Go.Proofs.YtfgpafjlcgaimaaGreatDoor.V
namespace Go.Proofs.YtfgpafjlcgaimaaGreatDoor
open Go.Proofs.Tryz (prog)
open Go Go.RowKit V
open Go.IntKind (i64 u32 u64)
open Enc (enc)
structure br where
 k:Int
 a:Int
 b:Int
 c:Int
 v:Int
 wA:Option Addr
 wN:Nat
 wC:Nat
instance:Enc br:=⟨fun x=>[.int .i64 x.k,.int .i64 x.a,.int .i64 x.b,.int .i64 x.c,.int .u32 x.v,.slice x.wA x.wN x.wC],6,fun _=>rfl,by simp [Value.oneCell'],by omega⟩
def UEl:Nat→Type
 | 0=>I64
 | 1=>U32
 | 2=>U8
 | 3=>Bl
 | 4=>Ent
 | 5=>br
 | 6=>Fl
 | _=>I64
@[reducible] def UEn:(t:Nat)→Enc (UEl t)
 | 0=>inferInstanceAs (Enc I64)
 | 1=>inferInstanceAs (Enc U32)
 | 2=>inferInstanceAs (Enc U8)
 | 3=>inferInstanceAs (Enc Bl)
 | 4=>inferInstanceAs (Enc Ent)
 | 5=>inferInstanceAs (Enc br)
 | 6=>inferInstanceAs (Enc Fl)
 | _+7=>inferInstanceAs (Enc I64)
def UDf:(t:Nat)→UEl t
 | 0=>I64.mk 0
 | 1=>U32.mk 0
 | 2=>U8.mk 0
 | 3=>Bl.mk false
 | 4=>Ent.free
 | 5=>⟨0,0,0,0,0,none,0,0⟩
 | 6=>Fl.zero
 | _+7=>I64.mk 0
def DC:(t:Nat)→List Value→Option (UEl t)
 | 0,[.int .i64 x]=>some (I64.mk x)
 | 1,[.int .u32 x]=>some (U32.mk x)
 | 2,[.int .u8 x]=>some (U8.mk x)
 | 3,[.bool x]=>some (Bl.mk x)
 | 4,[.int .i64 a,.int .i64 b,.int .i64 c,.int .i64 d,.bool e]=>some (Ent.mk a b c d e)
 | 5,[.int .i64 a,.int .i64 b,.int .i64 c,.int .i64 d,.int .u32 e,.slice x y z]=>some (br.mk a b c d e x y z)
 | _,_=>none
theorem fQ {t:Nat} {cs:List Value} {x:UEl t}(h:DC t cs=some x):(UEn t).enc x=cs:=by
 unfold DC at h
 split at h<;>first | (injection h with h;subst h;rfl) | cases h
def Iw:(t:Nat)→List Value→Option (UEl t)
 | 6,cs=>uZ cs
 | t,cs=>DC t cs
theorem FC:∀ {t:Nat} {cs:List Value} {x:UEl t},Iw t cs=some x→(UEn t).enc x=cs
 | 6,_,_,h=>(mF h).1.symm
 | 0,_,_,h=>fQ (t:=0) h
 | 1,_,_,h=>fQ (t:=1) h
 | 2,_,_,h=>fQ (t:=2) h
 | 3,_,_,h=>fQ (t:=3) h
 | 4,_,_,h=>fQ (t:=4) h
 | 5,_,_,h=>fQ (t:=5) h
 | t+7,_,_,h=>fQ (t:=t+7) h
def UE:Els:=⟨UEl,UEn,UDf,Iw,FC⟩
def IS:Kind UE where
 ty:=Mem
 pred:=fun r s X w=>∃L:dA,r 0=L.g∧(∀k,L.X k↔X k)∧bH w L s
 ch:=fun⟨L,h1,h2,h3⟩ q hb=>⟨L,h1,h2,h3.ch q fun k hk=>hb k ((h2 k).1 hk)⟩
 lt:=fun⟨_,_,h2,h3⟩ k hk=>h3.lt k ((h2 k).2 hk)
 iv:=true
 inv:=Mem.Wf
 fL:=fun⟨_,_,_,h⟩=>⟨h.u32,h.cF⟩
def kPd:Kind UE where
 ty:=Pd
 pred:=fun r s X w=>∃a,(∀k,(k=r 0∨k=a)↔X k)∧PdP w (r 0) a (r 1) s
 ch:=fun⟨a,h1,h2⟩ q hb=>⟨a,h1,h2.ch q (hb _ ((h1 _).1 (.inl rfl))) (hb _ ((h1 _).1 (.inr rfl)))⟩
 lt:=fun⟨a,h1,h2⟩ k hk=>by rcases(h1 k).2 hk with rfl | rfl;exact h2.lt.1;exact h2.lt.2
 iv:=true
 inv:=Pd.Ok
 fL:=fun⟨_,_,h⟩=>h.ok
 fo:=fun _ s path off=>match path,off with
  | 0,0=>some (.o 1 0)
  | 0,1=>some (.v (.int .i64 s.au))
  | _,_=>none
 oX:=by
  rintro r s X w path off f v ⟨a,hX,hD⟩ hf hv
  have h:=HS hD
  split at hf
  ·injection hf with hf;subst hf;simp only [fvV]at hv
   exact⟨(hX _).1 (.inl rfl),by rw [← hv];exact h.1⟩
  ·injection hf with hf;subst hf;simp only [fvV]at hv
   exact⟨(hX _).1 (.inl rfl),by rw [← hv];exact h.2⟩
  ·cases hf
 fs:=fun _ s path off v=>match path,off,v with
  | 0,1,.int .i64 x=>some (0≤x∧x≤64,s.eh x)
  | _,_,_=>none
 oV:=by
  rintro r s s' X w path off v c ⟨a,hX,hD⟩ hf hc K hK
  split at hf
  ·simp only [Option.some.injEq,Prod.mk.injEq]at hf
   obtain⟨rfl,rfl⟩:=hf
   exact hD.zK hc fun w' h' q=>hK w' ⟨a,hX,h'⟩ (q.mono fun k hk=>(hX k).1 (.inl hk))
  ·cases hf
def H4:Kind UE where
 ty:=Mem
 pred:=fun r s X w=>∃L:et,(∀k,L.X k↔X k)∧bS w (r 0) L s
 ch:=fun⟨L,h2,h3⟩ q hb=>⟨L,h2,h3.ch q fun k hk=>hb k ((h2 k).1 hk)⟩
 lt:=fun⟨_,h2,h3⟩ k hk=>h3.lt k ((h2 k).2 hk)
 iv:=true
 inv:=Mem.Wf
 fL:=fun⟨_,_,h⟩=>⟨h.u32,h.cF⟩
def IQ:Kind UE where
 ty:=Pd
 pred:=fun r s X w=>(∀k,(k=r 0∨k=r 2)↔X k)∧lY w (r 0) (r 1) (r 2) (r 3) s
 ch:=fun⟨h1,h2⟩ q hb=>⟨h1,h2.ch q (hb _ ((h1 _).1 (.inl rfl))) (hb _ ((h1 _).1 (.inr rfl)))⟩
 lt:=fun⟨h1,h2⟩ k hk=>by rcases(h1 k).2 hk with rfl | rfl;exact h2.lt.1;exact h2.lt.2
 li:=fun r s i=>match i with
  | 0=>some ⟨4,some ⟨r 2,0,none⟩,r 3,s.ao⟩
  | _=>none
 oS:=by
  rintro r s X w i L h hl
  split at hl
  ·injection hl with hl;subst hl;exact GM h.1 h.2
  ·cases hl
 st:=fun _ s j i tt=>match j,tt with
  | 0,4=>fun x=>some ((Ent.ok x=true∧Ent.owner x<((s.n:Nat):Int)),s.set i x)
  | _,_=>fun _=>none
 oq:=by
  rintro r s s' X w j i L x y off vs c h hl hx ho hy hs hc K hK
  split at hl
  ·injection hl with hl
   subst hl
   simp only [Option.some.injEq,Prod.mk.injEq]at hs
   obtain⟨rfl,rfl⟩:=hs
   exact h.2.GH hx ho hy hc fun w' h' q=>hK w' ⟨h.1,h'⟩ (q.mono fun k hk=>(h.1 k).1 (.inr hk))
  ·cases hl
 iv:=true
 inv:=Pd.Ok
 fL:=fun⟨_,h⟩=>h.ok
 fo:=fun _ s path off=>match path,off with
  | 0,0=>some (.o 1 0)
  | 0,1=>some (.l 0)
  | 0,2=>some (.v (.int .i64 s.au))
  | _,_=>none
 oX:=by
  rintro r s X w path off f v ⟨hX,hD⟩ hf hv
  have h:=GN hD
  split at hf
  ·injection hf with hf;subst hf;simp only [fvV]at hv
   exact⟨(hX _).1 (.inl rfl),by rw [← hv];exact h.1⟩
  ·injection hf with hf;subst hf;simp only [fvV]at hv
   exact⟨(hX _).1 (.inl rfl),by rw [← hv];exact h.2.1⟩
  ·injection hf with hf;subst hf;simp only [fvV]at hv
   exact⟨(hX _).1 (.inl rfl),by rw [← hv];exact h.2.2⟩
  ·cases hf
 fs:=fun _ s path off v=>match path,off,v with
  | 0,2,.int .i64 x=>some (0≤x∧x≤64,s.eh x)
  | _,_,_=>none
 oV:=by
  rintro r s s' X w path off v c ⟨hX,hD⟩ hf hc K hK
  split at hf
  ·simp only [Option.some.injEq,Prod.mk.injEq]at hf
   obtain⟨rfl,rfl⟩:=hf
   exact hD.zK hc fun w' h' q=>hK w' ⟨hX,h'⟩ (q.mono fun k hk=>(hX k).1 (.inl hk))
  ·cases hf
def IT:Kind UE where
 ty:=Dg
 pred:=fun r s X w=>∃L:DgL,(∀k,L.X (r 0) k↔X k)∧qD w (r 0) L s
 ch:=fun⟨L,h2,h3⟩ q hb=>⟨L,h2,h3.ch q fun k hk=>hb k ((h2 k).1 hk)⟩
 lt:=fun⟨_,h2,h3⟩ k hk=>h3.lt k ((h2 k).2 hk)
def H3(b:Nat):Kind UE where
 ty:=List Int
 pred:=fun _ s X w=>(∀k,k=b↔X k)∧tr w b s
 ch:=fun⟨h2,h3⟩ q hb=>⟨h2,h3.ch q fun k hk=>hb k ((h2 k).1 hk)⟩
 lt:=fun⟨h2,h3⟩ k hk=>h3.lt k ((h2 k).2 hk)
def kU:Kind UE where
 ty:=List U32
 pred:=fun r s X w=>(∀k,k=r 0↔X k)∧tq w (r 0) s
 ch:=fun⟨h2,T,h3⟩ q hb=>⟨h2,T,q.blk h3 (hb _ ((h2 _).1 rfl))⟩
 lt:=fun⟨h2,T,h3⟩ k hk=>by rw [(h2 k).2 hk];exact h3.lt
 li:=fun r s i=>match i with
  | 0=>some ⟨1,some ⟨r 0,0,none⟩,s.length,s⟩
  | _=>none
 oS:=by
  rintro r s X w i L h hl
  split at hl
  ·injection hl with hl;subst hl;exact EE h.1 h.2
  ·cases hl
 st:=fun _ s j i tt=>match j,tt with
  | 0,1=>fun x=>some (True,s.set i x)
  | _,_=>fun _=>none
 oq:=by
  rintro r s s' X w j i L x y off vs c h hl hx ho hy hs hc K hK
  split at hl
  ·injection hl with hl
   subst hl
   simp only [Option.some.injEq,Prod.mk.injEq]at hs
   obtain⟨rfl,rfl⟩:=hs
   exact ED h.1 h.2 hx ho hy hK
  ·cases hl
 ix:=fun path off=>match path,off with
  | 0,0=>some 0
  | _,_=>none
 oU:=by
  rintro r s path off i L h hl
  split at h
  ·injection h with h;subst h
   injection hl with hl;subst hl;rfl
  ·cases h
 wl:=fun _ s path off n=>match path,off with
  | 0,0=>some (s.length=n,aD (fun j=>.int .u32 (s.getD j (U32.mk 0)).v) (upN 0 n))
  | _,_=>none
 qH:=by
  rintro r s X w path off n c cs h hw hc
  split at hw
  ·simp only [Option.some.injEq,Prod.mk.injEq]at hw
   obtain⟨rfl,rfl⟩:=hw
   exact EC h.1 h.2 hc
  ·cases hw
 ws:=fun _ s path off vs=>match path,off with
  | 0,0=>(match uX vs with
   | some l=>some (s.length=l.length,l)
   | none=>none)
  | _,_=>none
 nX:=by
  rintro r s s' X w path off vs c h hs hc K hK
  split at hs
  ·split at hs
   ·rename_i l hl
    simp only [Option.some.injEq,Prod.mk.injEq]at hs
    obtain⟨rfl,rfl⟩:=hs
    exact EB h.1 h.2 hl hc hK
   ·cases hs
  ·cases hs
def kFl:Kind UE where
 ty:=Fl
 pred:=fun r s X w=>(∀k,k=r 0↔X k)∧FlP w (r 0) s
 ch:=fun⟨h2,h3,T,h4⟩ q hb=>⟨h2,h3,T,q.blk h4 (hb _ ((h2 _).1 rfl))⟩
 lt:=fun⟨h2,_,T,h3⟩ k hk=>by rw [(h2 k).2 hk];exact h3.lt
 li:=fun r s i=>match i with
  | 0=>some ⟨1,some ⟨r 0,0,none⟩,s.rs.length,s.rs⟩
  | _=>none
 oS:=by
  rintro r s X w i L h hl
  split at hl
  ·injection hl with hl;subst hl;exact h.2.li h.1
  ·cases hl
 fs:=fun _ s path off v=>match path,off,v with
  | 0,15,.int .u32 x=>some (True,{s with pc:=x})
  | 0,16,.bool x=>some (True,{s with z:=x})
  | 0,17,.bool x=>some (True,{s with n:=x})
  | 0,18,.bool x=>some (True,{s with l:=x})
  | _,_,_=>none
 oV:=by
  rintro r s s' X w path off v c h hf hc K hK
  split at hf
  all_goals first
   | cases hf;done
   | (simp only [Option.some.injEq,Prod.mk.injEq]at hf
      obtain⟨rfl,rfl⟩:=hf
      exact FlP.st h.2 (by omega) (by exact h.2.len) (by rfl) fun w' h' q=>hK w' ⟨h.1,h'⟩ (q.mono fun k hk=>(h.1 k).1 hk))
 st:=fun _ s j i tt=>match j,tt with
  | 0,1=>fun x=>some (True,s.qj i x)
  | _,_=>fun _=>none
 oq:=by
  rintro r s s' X w j i L x y off vs c h hl hx ho hy hs hc K hK
  split at hl
  ·injection hl with hl
   subst hl
   simp only [Option.some.injEq,Prod.mk.injEq]at hs
   obtain⟨rfl,rfl⟩:=hs
   exact h.2.stR h.1 hx ho hy hK
  ·cases hl
 iv:=true
 inv:=Fl.Ok
 fL:=fun h=>h.2.len
 fo:=fun _ s path off=>match path,off with
  | 0,15=>some (.v (.int .u32 s.pc))
  | 0,16=>some (.v (.bool s.z))
  | 0,17=>some (.v (.bool s.n))
  | 0,18=>some (.v (.bool s.l))
  | _,_=>none
 oX:=by
  rintro r s X w path off f v ⟨hX,hl,T,hb⟩ hf hv
  split at hf
  all_goals first
   | cases hf;done
   | (injection hf with hf
      subst hf
      simp only [fvV,Option.some.injEq]at hv
      exact⟨(hX _).1 rfl,by rw [← hv];exact hb.cell rfl⟩)
 ix:=fun path off=>match path,off with
  | 0,0=>some 0
  | _,_=>none
 oU:=by
  rintro r s path off i L h hl
  split at h
  ·injection h with h;subst h
   injection hl with hl;subst hl;rfl
  ·cases h
 wl:=fun _ s path off n=>match path,off,n with
  | 0,0,19=>some (True,s.cells)
  | _,_,_=>none
 qH:=by
  rintro r s X w path off n c cs ⟨hX,hl,T,hb⟩ hw hc
  split at hw
  ·simp only [Option.some.injEq,Prod.mk.injEq]at hw
   obtain⟨rfl,rfl⟩:=hw
   exact⟨(hX _).1 rfl,fun j u hj=>by rw [Nat.zero_add];exact hb.cell (by simpa using hj)⟩
  ·cases hw
 ws:=fun _ _ path off vs=>match path,off with
  | 0,0=>(match uZ vs with
   | some l=>some (True,l)
   | none=>none)
  | _,_=>none
 nX:=by
  rintro r s s' X w path off vs c h hs hc K hK
  split at hs
  ·split at hs
   ·rename_i l hl
    simp only [Option.some.injEq,Prod.mk.injEq]at hs
    obtain⟨rfl,rfl⟩:=hs
    obtain⟨e,h2⟩:=mF hl
    subst e
    exact h.2.all h2 fun w' h' q=>hK w' ⟨h.1,h'⟩ (q.mono fun k hk=>(h.1 k).1 hk)
   ·cases hs
  ·cases hs
def clL:List (Int×Value):= [(1,.func (.func 105) #[] #[]),(2,.func (.func 106) #[] #[]),(3,.func (.func 107) #[] #[]),(4,.func (.func 108) #[] #[]),(5,.func (.func 109) #[] #[]),(6,.func (.func 110) #[] #[]),(7,.func (.func 111) #[] #[])]
def kCl:Kind UE where
 ty:=Unit
 pred:=fun r _ X w=>(∀k,k=r 0↔X k)∧kQ w (r 0) clL
 ch:=fun⟨h1,h2⟩ q hb=>⟨h1,h2.ch q (hb _ ((h1 _).1 rfl))⟩
 lt:=fun⟨h1,h2⟩ k hk=>by rw [(h1 k).2 hk];exact h2.lt
 mp:=fun _=>some clL
 uD:=fun h e=>by injection e with e;rw [← e];exact h.2
def UK:Nat→Kind UE
 | 0=>IS
 | 1=>kPd
 | 2=>H4
 | 3=>IQ
 | 4=>IT
 | 5=>H3 0
 | 6=>H3 1
 | 7=>kU
 | 10=>kFl
 | 12=>kCl
 | _=>Kind.none UE
abbrev cT(t:Nat)(r:Nat→Nat)(s:(UK t).ty)(X:Nat→Prop)(w:World):Prop:=(UK t).pred r s X w
theorem Hp {t:Nat} {r:Nat→Nat} {s:(UK t).ty} {X:Nat→Prop} {w:World}(h:cT t r s X w):(UK t).inv s:=(UK t).fL h
def UMk:TypeId→List Value→Option ((t:Nat)×(UK t).ty)
 | 171,cs=>(match uX cs with
  | some l=>some ⟨7,l⟩
  | none=>none)
 | 25,cs=>(match uX cs with
  | some l=>some ⟨7,l⟩
  | none=>none)
 | 34,cs=>(match uZ cs with
  | some s=>some ⟨10,s⟩
  | none=>none)
 | _,_=>none
theorem Ho {T:TypeId} {cs:List Value} {q:(t:Nat)×(UK t).ty} {w:World} {g:Nat}(h:UMk T cs=some q)(hb:Blk w g ⟨cs⟩ T):(UK q.1).pred (fun _=>g) q.2 (fun k=>k=g) w:=by
 unfold UMk at h
 split at h
 ·split at h
  ·rename_i l hl
   injection h with h
   subst h
   have:=lI hl
   subst this
   exact(⟨fun k=>Iff.rfl,_,hb.cast (by simp [cf])⟩:(∀k,k=g↔k=g)∧tq w g l)
  ·cases h
 ·split at h
  ·rename_i l hl
   injection h with h
   subst h
   have:=lI hl
   subst this
   exact(⟨fun k=>Iff.rfl,_,hb.cast (by simp [cf])⟩:(∀k,k=g↔k=g)∧tq w g l)
  ·cases h
 ·split at h
  ·rename_i s hs
   injection h with h
   subst h
   obtain⟨rfl,h2⟩:=mF hs
   exact(⟨fun k=>Iff.rfl,h2,_,hb⟩:(∀k,k=g↔k=g)∧FlP w g s)
  ·cases h
 ·cases h
def Un:Uni:=Uni.of UE UK (fun t=>match t with
 | 3=>some 0
 | 22=>some 1
 | 4=>some 3
 | 59=>some 4
 | 159=>some 4
 | 66=>some 5
 | _=>none) UMk Ho
theorem uO0 {a b:Mem}(h:a=b):Upd.ob (U:=Un) 0 a= .ob 0 b:=congrArg (Upd.ob (U:=Un) 0) h
theorem rO0 {r:Nat→Nat} {a b:Mem}(h:a=b):Res.ob (U:=Un) 0 r a= .ob 0 r b:=congrArg (Res.ob (U:=Un) 0 r) h
theorem uO1 {a b:Pd}(h:a=b):Upd.ob (U:=Un) 1 a= .ob 1 b:=congrArg (Upd.ob (U:=Un) 1) h
theorem rO1 {r:Nat→Nat} {a b:Pd}(h:a=b):Res.ob (U:=Un) 1 r a= .ob 1 r b:=congrArg (Res.ob (U:=Un) 1 r) h
theorem uO2 {a b:Mem}(h:a=b):Upd.ob (U:=Un) 2 a= .ob 2 b:=congrArg (Upd.ob (U:=Un) 2) h
theorem rO2 {r:Nat→Nat} {a b:Mem}(h:a=b):Res.ob (U:=Un) 2 r a= .ob 2 r b:=congrArg (Res.ob (U:=Un) 2 r) h
theorem uO3 {a b:Pd}(h:a=b):Upd.ob (U:=Un) 3 a= .ob 3 b:=congrArg (Upd.ob (U:=Un) 3) h
theorem rO3 {r:Nat→Nat} {a b:Pd}(h:a=b):Res.ob (U:=Un) 3 r a= .ob 3 r b:=congrArg (Res.ob (U:=Un) 3 r) h
end Go.Proofs.YtfgpafjlcgaimaaGreatDoor
namespace Go.Proofs.YtfgpafjlcgaimaaGreatDoor
open Go.Proofs.Tryz (prog)
open Go Go.RowKit V Go.ChangeShapes Go.WideShapes Go.ChangeAt
open Go.IntKind (i64 u32 u64)
open Enc (enc)
theorem wf_u32 {x:Int}(h:(Lit.int .u32 x).wf=true):0≤x∧x<4294967296:=by
 have:0≤x∧x≤4294967295:=by simpa [Lit.wf,IntKind.min,IntKind.max,IntKind.signed,IntKind.bits]using h
 omega
end Go.Proofs.YtfgpafjlcgaimaaGreatDoor
namespace Go.Proofs.YtfgpafjlcgaimaaGreatDoor
open Go.Proofs.Tryz (prog)
open Go Go.RowKit V
open Go.IntKind (i64 u32 u64)
namespace Mem
def bL(m:Mem):Nat→Mem
 | 0=>m
 | k+1=>(bL m k).zero true k
theorem Gs(m:Mem)(s:Bool)(p:Int):(m.zero s p).S=m.S:=by unfold zero;split<;>rfl
theorem Gt(m:Mem)(s:Bool)(p:Int):(m.zero s p).I=m.I:=by unfold zero;split<;>rfl
@[simp] theorem ir(m:Mem):∀k,(m.bL k).S=m.S
 | 0=>rfl
 | k+1=>by rw [bL,Gs,ir m k]
@[simp] theorem Ep(m:Mem):∀k,(m.bL k).I=m.I
 | 0=>rfl
 | k+1=>by rw [bL,Gt,Ep m k]
theorem nV(m:Mem) {p:Int}(h:0≤p∧p<9000000000000000000):m.bL (i64.wrap (p+1)).toNat=(m.bL p.toNat).zero true p:=by
 rw [ak (by omega),show(p+1).toNat=p.toNat+1 by omega,bL,show((p.toNat:Nat):Int)=p by omega]
end Mem
def DB.new(m:Mem):DB:=⟨m.bL m.S,0,fun _=>.free⟩
theorem DB.uA(m:Mem):(DB.new m).S=m.S:=m.ir _
theorem DB.sH(m:Mem)(h:1≤m.S):(DB.new m).Ok:=⟨fun p hp=>⟨Ent.yZ,by show(0:Int)<((DB.new m).S:Nat);rw [DB.uA];omega⟩,by show(0:Int)≤0∧(0:Int)≤64;omega⟩
def DB.ws(D:DB):List Int:=(List.range D.S).flatMap fun p=>[(D.ent p).w0,(D.ent p).w1]
theorem kY {α:Type}(f g:Nat→α):∀n,((List.range n).flatMap fun p=>[f p,g p]).length=2*n
 | 0=>rfl
 | n+1=>by rw [List.range_succ,List.flatMap_append,List.length_append,kY f g n];simp;omega
theorem nK {α:Type}(f g:Nat→α):∀n i,i<2*n→((List.range n).flatMap fun p=>[f p,g p])[i]? =some (if i % 2=0 then f (i / 2)else g (i / 2))
 | 0,i,h=>by omega
 | n+1,i,h=>by
  rw [List.range_succ,List.flatMap_append]
  by_cases hi:i<2*n
  ·rw [List.getElem?_append_left (by rw [kY];exact hi),nK f g n i hi]
  ·rw [List.getElem?_append_right (by rw [kY];omega),kY]
   by_cases h2:i=2*n
   ·subst h2
    have e1:2*n % 2=0:=by omega
    have e2:2*n / 2=n:=by omega
    simp [e1,e2]
   ·have:i=2*n+1:=by omega
    subst this
    have e1:(2*n+1) % 2=1:=by omega
    have e2:(2*n+1) / 2=n:=by omega
    simp [e1,e2]
theorem DB.kp(D:DB):D.ws.length=2*D.S:=kY _ _ _
theorem DB.words_eq(D:DB):D.words=D.au::D.ws:=rfl
theorem DBP.ints {w:World} {L:eg} {D:DB}(h:DBP w L D):cS w (fun k=>k=L.a) .u32 (some (Addr.mk L.a 0 none)) D.n2 D.n2 D.ws:=by
 obtain⟨T,cs,hb,hs,hc⟩:=h.ws
 refine cS.blk (Z:=fun k=>k=L.a) (m:=0) hb rfl (Nat.le_refl _) (D.kp) fun j x hj=>?_
 have Mg:j<2*D.S:=by rw [← D.kp];exact(List.getElem?_eq_some_iff.1 hj).1
 have h2:=nK (fun p=>(D.ent p).w0) (fun p=>(D.ent p).w1) D.S j Mg
 have h3:D.ws[j]? =_:=h2
 rw [hj]at h3
 injection h3 with h3
 have hp:=hc (j / 2) (by omega)
 rw [Nat.zero_add,h3]
 split
 ·have:=hp.1
  rwa [show 2*(j / 2)=j by omega]at this
 ·have:=hp.2
  rwa [show 2*(j / 2)+1=j by omega]at this
theorem DB.lay {D:DB} {n:Nat}(hn:n=1+2*D.S):oz ((List.replicate n 0).set 0 D.au) 1 (D.ws.take (min (2*D.S) (n - 1)))=D.words:=by
 subst hn
 rw [List.take_of_length_le (by rw [D.kp];omega),show 1+2*D.S=(2*D.S)+1 by omega,List.replicate_succ,List.set_cons_zero]
 have:=ub [D.au] D.ws [] (List.replicate (2*D.S) 0) (by rw [D.kp];simp)
 simpa [D.words_eq]using this
theorem DB.mf(D:DB):D.words.length=1+2*D.S:=by rw [D.words_eq,List.length_cons,D.kp];omega
def DB.cR(D:DB)(s:Int)(n:Nat):List I64:=((List.range n).filter (D.eK s)).map fun(p:Nat)=>I64.mk (p:Int)
theorem DB.uv(D:DB)(s:Int) {p:Int}(h:0≤p∧p<64):D.cR s (i64.wrap (p+1)).toNat=if D.eK s p.toNat then D.cR s p.toNat++ [I64.mk p]else D.cR s p.toNat:=by
 unfold DB.cR
 rw [ak (by omega),show(p+1).toNat=p.toNat+1 by omega,List.range_succ,List.filter_append,List.map_append]
 cases hq:D.eK s p.toNat
 ·simp [List.filter,hq]
 ·simp [List.filter,hq,show((p.toNat:Nat):Int)=p by omega]
theorem DB.xh(D:DB)(s:Int)(n:Nat):(D.cR s n).length≤n:=by
 unfold DB.cR
 rw [List.length_map]
 exact Nat.le_trans (List.length_filter_le _ _) (by simp)
def DB.wd(l:List U32)(i:Nat):Int:=(l.getD i ⟨0⟩).v
def DB.load(m:Mem)(l:List U32):DB:=⟨m,DB.wd l 0,fun p=>Ent.dec (DB.wd l (1+2*p)) (DB.wd l (2+2*p))⟩
def DB.CJ(m:Mem)(l:List U32)(p:Nat):Bool:=Ent.fk (DB.wd l (1+2*p)) (DB.wd l (2+2*p))==0 && decide ((Ent.dec (DB.wd l (1+2*p)) (DB.wd l (2+2*p))).owner<m.S)
def DB.bK(m:Mem)(l:List U32):Int:=
 if l.length≠1+2*m.S then 110 else if DB.wd l 0>64 then 110 else if(List.range m.S).all (DB.CJ m l)then 0 else 110
theorem yz {n:Nat} {v:Value} {i:Nat}(h:i<n):(Array.replicate n v)[i]? =some v:=by simp [h]
end Go.Proofs.YtfgpafjlcgaimaaGreatDoor
namespace Go.Proofs.YtfgpafjlcgaimaaGreatDoor
open Go.Proofs.Tryz (prog)
open Go Go.RowKit V
open Go.IntKind (i64 u32 u64)
section
set_option maxRecDepth 100000
set_option maxHeartbeats 1000000
attribute [local irreducible] Vc2 VcD
attribute [local grind=] Pd.cg Pd.bI Pd.gD Pd.gS Pd.eU Pd.dR Pd.ek Pd.eI Pd.j6 DB.dM
attribute [local grind .] Pd.Ok.ent
attribute [local grind→] Pd.Ok.cF
def fT:Ctr Un:=⟨[.one (.obj 0 0),.agg [.bool,.int .i64],.one (.int .i64),.one (.int .u32)],[],[.ob 2 []],[0],fun fa fb off v rm m K=>(0≤(v:Int)∧(v:Int)<4294967296)∧K ⟨(.int .i64 (m.err fa fb off)),none,[.ob 2 (m.write fa fb off v)],[],[]⟩⟩
theorem pO:LV Un prog 50 fT:=by
 show ∀(fa:Bool)(fb:Int)(off:Int)(v:Int)(rm:Nat→Nat)(m:Mem),∀Q:Ou Un→Prop,((0≤(v:Int)∧(v:Int)<4294967296)∧Q ⟨(.int .i64 (m.err fa fb off)),none,[.ob 2 (m.write fa fb off v)],[],[]⟩)→∀(X:Nat→Nat→Prop)(w:World),Sat (U:=Un) [(.ob 2 rm m)] X w→aw (U:=Un) [(.ob 2 rm m)] fr0 []→Calls prog 50 #[(.pointer (some (Addr.mk (rm 0) 0 none))),(.agg #[(.bool fa),(.int .i64 fb)]),(.int .i64 off),(.int .u32 v)] w (bn (U:=Un) [(.ob 2 rm m)] [0] X w Q)
 intro fa fb off v rm m Q hQ X w hs hl
 obtain⟨hv,hQ⟩:=hQ
 obtain⟨L,hX,hM⟩:=(hs.res 0 _ rfl:cT 2 rm m (X 0) w)
 refine(Ce hM fa fb off v hv).mono ?_
 rintro e w' ⟨u,rfl,L1,rfl,h2,hg,q⟩
 exact bn.one (Z:=L1.X) (q.mono fun k hk=>(hX k).1 hk) (show cT 2 rm _ L1.X w' from⟨L1,fun _=>Iff.rfl,h2⟩) (fun k hk=>(hg k hk).imp (fun h=>(hX k).1 h) id) hQ trivial
def mN:Ctr Un:=⟨[.one (.obj 0 0),.agg [.bool,.int .i64]],[],[.ob 2 []],[0],fun fa fb rm m K=>K ⟨(.int .i64 (m.bJ fa fb)),none,[.ob 2 (m.zero fa fb)],[],[]⟩⟩
theorem A7:LV Un prog 69 mN:=by
 show ∀(fa:Bool)(fb:Int)(rm:Nat→Nat)(m:Mem),∀Q:Ou Un→Prop,(Q ⟨(.int .i64 (m.bJ fa fb)),none,[.ob 2 (m.zero fa fb)],[],[]⟩)→∀(X:Nat→Nat→Prop)(w:World),Sat (U:=Un) [(.ob 2 rm m)] X w→aw (U:=Un) [(.ob 2 rm m)] fr0 []→Calls prog 69 #[(.pointer (some (Addr.mk (rm 0) 0 none))),(.agg #[(.bool fa),(.int .i64 fb)])] w (bn (U:=Un) [(.ob 2 rm m)] [0] X w Q)
 intro fa fb rm m Q hQ X w hs hl
 obtain⟨L,hX,hM⟩:=(hs.res 0 _ rfl:cT 2 rm m (X 0) w)
 refine(EI hM fa fb).mono ?_
 rintro e w' ⟨u,rfl,L1,rfl,h2,hg,q⟩
 exact bn.one (Z:=L1.X) (q.mono fun k hk=>(hX k).1 hk) (show cT 2 rm _ L1.X w' from⟨L1,fun _=>Iff.rfl,h2⟩) (fun k hk=>(hg k hk).imp (fun h=>(hX k).1 h) id) hQ trivial
def dS:Ctr Un:=⟨[.one (.int .i64)],[],[],[],fun p K=>K ⟨(.agg #[(.bool true),(.int .i64 p)]),none,[],[],[]⟩⟩
def xS(p:Int)(Q:Ou Un→Prop):Prop:=
 ∀(gv:Nat),
 Q ⟨(.agg #[(.bool true),(.int .i64 p)]),none,[],[],[]⟩
theorem xT:Vc2 Un prog (aQ []) [] Tryz.f70 .leaf [] dS=(∀p,∀Q,(dS.body p Q)→xS p Q):=by kernel_rfl
theorem pM:LV Un prog 70 dS:=verify Tryz.func70 aa (tb:= []) trivial (by kernel_rfl) (xT.mpr fun p Q h gv=>h)
section
attribute [local grind=] DB.turns
end
def lZ:Ctr Un:=⟨[.one (.obj 0 0),.one (.int .i64),.one (.int .i64)],[],[.ob 3 []],[],fun p t r E K=>K ⟨(.bool (decide (0≤p∧p<(E.n:Int)) && (E.ent p.toNat).typ==t)),none,[],[],[]⟩⟩
def FF(p:Int)(t:Int)(r:Nat→Nat)(E:Pd)(Q:Ou Un→Prop):Prop:=
 Pd.Ok E→
 ∃J:Bool→Prop,(
  split (decide (p≥0)) (
   split (decide (p<((Pd.ao E).length:Int))) (
    (0≤p∧p<((Pd.ao E).length:Int))∧
    J (((Pd.ao E).getD p.toNat Ent.free).typ==t)) (
    J false)) (
   J false))∧∀(JW:Nat→Value)(x6:Bool),J x6→
 Q ⟨(.bool x6),none,[],[],[]⟩
theorem FG:Vc2 Un prog (aQ []) [] Tryz.f75 (.r' (.two (.node [] (some ⟨[(6,(.one .bool))],[],upN 6 24,[]⟩) [] [] .leaf .leaf) .leaf)) [] lZ=(∀p t r (E:Pd),∀Q,(lZ.body p t r E Q)→FF p t r E Q):=by kernel_rfl
theorem FE:LV Un prog 75 lZ:=verify Tryz.func75 aa (tb:= []) trivial (by kernel_rfl) (FG.mpr fun p t r E Q h f1=>bq ((decide ((p:Int)≥0)) && ((decide ((p:Int)<(((Pd.ao E).length:Nat):Int))) && ((((Pd.ao E).getD p.toNat Ent.free).typ:Int)==t))) (ae (fun c1=>ae (fun c2=>af (by grind) fun s2=>(by grind)) fun c2=>(by grind)) fun c1=>(by grind))<| bf h (by grind))
def ia:Ctr Un:=⟨[.one (.obj 0 0),.one (.int .i64),.one (.int .i64),.one (.int .i64)],[],[.ob 3 [(1,1,0)],.ob 2 []],[0,1],fun p t o r E rm m K=>E.n=m.S∧K ⟨(.int .i64 ((E.on m).bY p t o)),none,[.ob 3 (((E.on m).take p t o).pd),.ob 2 (((E.on m).take p t o).mem)],[],[]⟩⟩
def AX(p:Int)(t:Int)(o:Int)(r:Nat→Nat)(E:Pd)(rm:Nat→Nat)(m:Mem)(Q:Ou Un→Prop):Prop:=
 Pd.Ok E→
 Mem.Wf m→
 ∃J:Bool→Prop,(
  split (decide (p<0)) (
   J true) (
   J (decide (p≥((Pd.ao E).length:Int)))))∧∀(JW:Nat→Value)(MM:Bool),J MM→
 split MM (
  Q ⟨(.int .i64 5),none,[.ob 3 E,.ob 2 m],[],[]⟩) (
  ∃J1:Bool→Prop,(
   split (t !=2) (
    split (t !=4) (
     split (t !=5) (
      J1 (t !=6)) (
      J1 false)) (
     J1 false)) (
    J1 false))∧∀(Ji:Nat→Value)(Po:Bool),J1 Po→
  split Po (
   Q ⟨(.int .i64 124),none,[.ob 3 E,.ob 2 m],[],[]⟩) (
   ∃J2:Bool→Prop,(
    split (!(decide (0≤o∧o<E.n) && (E.ent o.toNat).typ==1)) (
     J2 true) (
     (0≤o∧o<((Pd.ao E).length:Int))∧
     J2 (decide (((Pd.ao E).getD o.toNat Ent.free).refs≥63))))∧∀(KH:Nat→Value)(x50:Bool),J2 x50→
   split x50 (
    Q ⟨(.int .i64 122),none,[.ob 3 E,.ob 2 m],[],[]⟩) (
    (0≤p∧p<((Pd.ao E).length:Int))∧
    split (((Pd.ao E).getD p.toNat Ent.free).typ !=0) (
     Q ⟨(.int .i64 120),none,[.ob 3 E,.ob 2 m],[],[]⟩) (
     (0≤p∧p<((Pd.ao E).length:Int))∧
     (Ent.ok (Ent.mk t o 0 0 false)=true∧Ent.owner (Ent.mk t o 0 0 false)<(Pd.n E:Int))∧
     ∀(E1:Pd),E1=(Pd.set E p.toNat (Ent.mk t o 0 0 false))→
     Pd.Ok E1→
     (0≤o∧o<((Pd.ao E1).length:Int))∧
     (0≤o∧o<((Pd.ao E1).length:Int))∧
     (Ent.ok (Ent.mk (((Pd.ao E1).getD o.toNat Ent.free).typ) (((Pd.ao E1).getD o.toNat Ent.free).owner) (i64.wrap ((((Pd.ao E1).getD o.toNat Ent.free).refs)+1)) (((Pd.ao E1).getD o.toNat Ent.free).state) (((Pd.ao E1).getD o.toNat Ent.free).aS))=true∧Ent.owner (Ent.mk (((Pd.ao E1).getD o.toNat Ent.free).typ) (((Pd.ao E1).getD o.toNat Ent.free).owner) (i64.wrap ((((Pd.ao E1).getD o.toNat Ent.free).refs)+1)) (((Pd.ao E1).getD o.toNat Ent.free).state) (((Pd.ao E1).getD o.toNat Ent.free).aS))<(Pd.n E1:Int))∧
     ∀(E2:Pd),E2=(Pd.set E1 o.toNat (Ent.mk (((Pd.ao E1).getD o.toNat Ent.free).typ) (((Pd.ao E1).getD o.toNat Ent.free).owner) (i64.wrap ((((Pd.ao E1).getD o.toNat Ent.free).refs)+1)) (((Pd.ao E1).getD o.toNat Ent.free).state) (((Pd.ao E1).getD o.toNat Ent.free).aS)))→
     Pd.Ok E2→
     Q ⟨(.int .i64 0),none,[.ob 3 E2,.ob 2 m],[],[]⟩))))
theorem AY:Vc2 Un prog (aQ [(75,lZ)]) [] Tryz.f39 (.r' (.two (.two (.node [] (some ⟨[(20,(.one .bool))],[],upN 10 11,[]⟩) [] [] .leaf .leaf) .leaf) (.two (.two (.node [] (some ⟨[(34,(.one .bool))],[],upN 21 14,[]⟩) [] [] .leaf .leaf) .leaf) (.r' (.two (.two (.node [] (some ⟨[(50,(.one .bool))],[],upN 38 13,[]⟩) [] [] .leaf .leaf) .leaf) .leaf))))) [] ia=(∀p t o r (E:Pd) rm (m:Mem),∀Q,(ia.body p t o r E rm m Q)→AX p t o r E rm m Q):=by kernel_rfl
section
attribute [local grind=] DB.take DB.bY DB.ej DB.more DB.Cl DB.turns
theorem AW:LV Un prog 39 ia:=verify Tryz.func39 aa (tb:= [(75,lZ)]) ⟨FE,trivial⟩ (by kernel_rfl) (AY.mpr fun p t o r E rm m Q h=>by
 obtain⟨I6,h⟩:=h
 exact fun f1 f2=>bq ((decide ((p:Int)<0)) || (decide ((p:Int)≥(((Pd.ao E).length:Nat):Int)))) (ae (fun c1=>(by grind)) fun c1=>(by grind))<| aM (fun c2=>av h (aW (by grind)) (ab (uO3 (by grind)) (ab (uO2 (by grind)) rfl)) rfl) fun c2=>bq (((t:Int) !=2) && (((t:Int) !=4) && (((t:Int) !=5) && ((t:Int) !=6)))) (ae (fun c3=>ae (fun c4=>ae (fun c5=>(by grind)) fun c5=>(by grind)) fun c4=>(by grind)) fun c3=>(by grind))<| cP (fun c6=>av h (aW (by grind)) (ab (uO3 (by grind)) (ab (uO2 (by grind)) rfl)) rfl) fun c6=>bq ((!(decide (0≤o∧o<(E.n:Int)) && (E.ent o.toNat).typ==1)) || (decide ((((Pd.ao E).getD o.toNat Ent.free).refs:Int)≥63))) (ae (fun c7=>(by grind)) fun c7=>af (by grind) fun s3=>(by grind))<| aM (fun c8=>av h (aW (by grind)) (ab (uO3 (by grind)) (ab (uO2 (by grind)) rfl)) rfl) fun c8=>af (by grind) fun s4=>aG (fun c9=>av h (aW (by grind)) (ab (uO3 (by grind)) (ab (uO2 (by grind)) rfl)) rfl) fun c9=>af ‹_› fun s5=>af (by grind) fun s6 E1 Jn f7=>af (by grind) fun s8=>af ‹_› fun s9=>af (by(have he:E1.ent o.toNat=E.ent o.toNat:=by grind);(have h5:=f1.ent o.toNat (by grind));have h6:=Ent.dC h5.1;rw [Pd.bI (by grind),he,ak (by omega)];exact⟨DB.sF h5.1 (by grind) (by grind),by rw [Jn];exact h5.2⟩) fun N5 E2 JA f11=>av h (aW (by grind)) (ab (uO3 (by(have h8:=Ent.dC (f1.ent o.toNat (by grind)).1);have h9:E1.ent o.toNat=E.ent o.toNat:=(by grind);rw [DB.take,if_pos (by grind),DB.ej,Pd.ek,DB.more,Pd.ek,Pd.eU _ _ (by exact I6),← Jn,JA,Pd.bI (by grind),ak (by rw [h9];omega)];rfl)) (ab (uO2 (by grind)) rfl)) rfl)
end
section
attribute [local grind=] DB.dZ DB.dw DB.iA Pd.jn Mem.tl DB.Ck Mem.bJ DB.iG
end
def dJ:Ctr Un:=⟨[.one (.obj 0 0),.one (.int .i64),.one (.int .i64)],[],[.ob 3 [(1,1,0)],.ob 2 []],[0,1],fun p t r E rm m K=>E.n=m.S∧K ⟨(.int .i64 ((E.on m).bj p t)),none,[.ob 3 (((E.on m).setState p t).pd),.ob 2 (((E.on m).setState p t).mem)],[],[]⟩⟩
def qy(p:Int)(t:Int)(r:Nat→Nat)(E:Pd)(rm:Nat→Nat)(m:Mem)(Q:Ou Un→Prop):Prop:=
 Pd.Ok E→
 Mem.Wf m→
 ∃J:Bool→Prop,(
  split (decide (p<0)) (
   J true) (
   J (decide (p≥((Pd.ao E).length:Int)))))∧∀(JW:Nat→Value)(Kj:Bool),J Kj→
 split Kj (
  Q ⟨(.int .i64 5),none,[.ob 3 E,.ob 2 m],[],[]⟩) (
  (0≤p∧p<((Pd.ao E).length:Int))∧
  split (((Pd.ao E).getD p.toNat Ent.free).typ !=1) (
   Q ⟨(.int .i64 124),none,[.ob 3 E,.ob 2 m],[],[]⟩) (
   ∃J1:Bool→Prop,(
    split (t !=3) (
     split (t !=2) (
      J1 true) (
      (0≤p∧p<((Pd.ao E).length:Int))∧
      J1 (((Pd.ao E).getD p.toNat Ent.free).state !=1))) (
     J1 false))∧∀(Ji:Nat→Value)(KC:Bool),J1 KC→
   split KC (
    Q ⟨(.int .i64 3),none,[.ob 3 E,.ob 2 m],[],[]⟩) (
    (0≤p∧p<((Pd.ao E).length:Int))∧
    (Ent.ok (Ent.mk (((Pd.ao E).getD p.toNat Ent.free).typ) (((Pd.ao E).getD p.toNat Ent.free).owner) (((Pd.ao E).getD p.toNat Ent.free).refs) t (((Pd.ao E).getD p.toNat Ent.free).aS))=true∧Ent.owner (Ent.mk (((Pd.ao E).getD p.toNat Ent.free).typ) (((Pd.ao E).getD p.toNat Ent.free).owner) (((Pd.ao E).getD p.toNat Ent.free).refs) t (((Pd.ao E).getD p.toNat Ent.free).aS))<(Pd.n E:Int))∧
    ∀(E1:Pd),E1=(Pd.set E p.toNat (Ent.mk (((Pd.ao E).getD p.toNat Ent.free).typ) (((Pd.ao E).getD p.toNat Ent.free).owner) (((Pd.ao E).getD p.toNat Ent.free).refs) t (((Pd.ao E).getD p.toNat Ent.free).aS)))→
    Pd.Ok E1→
    Q ⟨(.int .i64 0),none,[.ob 3 E1,.ob 2 m],[],[]⟩)))
theorem qz:Vc2 Un prog (aQ []) [] Tryz.f45 (.r' (.two (.two (.node [] (some ⟨[(17,(.one .bool))],[],upN 7 11,[]⟩) [] [] .leaf .leaf) .leaf) (.r' (.two (.two (.node [] (some ⟨[(43,(.one .bool))],[],upN 27 17,[]⟩) [] [] .leaf .leaf) .leaf) .leaf)))) [] dJ=(∀p t r (E:Pd) rm (m:Mem),∀Q,(dJ.body p t r E rm m Q)→qy p t r E rm m Q):=by kernel_rfl
section
attribute [local grind=] DB.setState DB.bj DB.Gb
theorem qx:LV Un prog 45 dJ:=verify Tryz.func45 aa (tb:= []) trivial (by kernel_rfl) (qz.mpr fun p t r E rm m Q h=>by
 obtain⟨I6,h⟩:=h
 exact fun f1 f2=>bq ((decide ((p:Int)<0)) || (decide ((p:Int)≥(((Pd.ao E).length:Nat):Int)))) (ae (fun c1=>(by grind)) fun c1=>(by grind))<| aM (fun c2=>av h (aW (by grind)) (ab (uO3 (by grind)) (ab (uO2 (by grind)) rfl)) rfl) fun c2=>af (by grind) fun s3=>aG (fun c3=>av h (aW (by grind)) (ab (uO3 (by grind)) (ab (uO2 (by grind)) rfl)) rfl) fun c3=>bq (((t:Int) !=3) && (((t:Int) !=2) || ((((Pd.ao E).getD p.toNat Ent.free).state:Int) !=1))) (ae (fun c4=>ae (fun c5=>(by grind)) fun c5=>af ‹_› fun s4=>(by grind)) fun c4=>(by grind))<| cP (fun c6=>av h (aW (by grind)) (ab (uO3 (by grind)) (ab (uO2 (by grind)) rfl)) rfl) fun c6=>af ‹_› fun s5=>af (by grind) fun s6 E1 Jn f7=>av h (aW (by grind)) (ab (uO3 (by grind)) (ab (uO2 (by grind)) rfl)) rfl)
end
section
attribute [local grind=] DB.wY DB.j8 DB.xl
end
section
attribute [local grind=] DB.IU DB.yY DB.CG DB.more Pd.jn Mem.tl DB.sF Ent.yZ
end
def dt:Ctr Un:=⟨[.one (.obj 0 0),.one (.int .i64),.one (.int .i64)],[],[.ob 3 [(1,1,0)],.ob 2 []],[0,1],fun p q r E rm m K=>E.n=m.S∧K ⟨(.int .i64 ((E.on m).aR p q)),none,[.ob 3 (((E.on m).ay p q).pd),.ob 2 (((E.on m).ay p q).mem)],[],[]⟩⟩
def pI(p:Int)(q:Int)(r:Nat→Nat)(E:Pd)(rm:Nat→Nat)(m:Mem)(Q:Ou Un→Prop):Prop:=
 Pd.Ok E→
 Mem.Wf m→
 ∃J:Bool→Prop,(
  split (decide (p<0)) (
   J true) (
   split (decide (p≥((Pd.ao E).length:Int))) (
    J true) (
    split (decide (q<0)) (
     J true) (
     J (decide (q≥((Pd.ao E).length:Int)))))))∧∀(JW:Nat→Value)(JK:Bool),J JK→
 split JK (
  Q ⟨(.int .i64 5),none,[.ob 3 E,.ob 2 m],[],[]⟩) (
  split (p==q) (
   Q ⟨(.int .i64 1),none,[.ob 3 E,.ob 2 m],[],[]⟩) (
   ∃J1:Bool→Prop,(
    (0≤p∧p<((Pd.ao E).length:Int))∧
    split (((Pd.ao E).getD p.toNat Ent.free).typ !=0) (
     J1 true) (
     (0≤q∧q<((Pd.ao E).length:Int))∧
     J1 (((Pd.ao E).getD q.toNat Ent.free).typ !=0)))∧∀(Ji:Nat→Value)(x53:Bool),J1 x53→
   split x53 (
    Q ⟨(.int .i64 120),none,[.ob 3 E,.ob 2 m],[],[]⟩) (
    split (decide ((Pd.au E)≥64)) (
     Q ⟨(.int .i64 240),none,[.ob 3 E,.ob 2 m],[],[]⟩) (
     (0≤q∧q<((Pd.ao E).length:Int))∧
     (Ent.ok (Ent.mk 3 p 0 0 false)=true∧Ent.owner (Ent.mk 3 p 0 0 false)<(Pd.n E:Int))∧
     ∀(E1:Pd),E1=(Pd.set E q.toNat (Ent.mk 3 p 0 0 false))→
     Pd.Ok E1→
     (0≤p∧p<((Pd.ao E1).length:Int))∧
     (Ent.ok (Ent.mk 1 p 1 1 false)=true∧Ent.owner (Ent.mk 1 p 1 1 false)<(Pd.n E1:Int))∧
     ∀(E2:Pd),E2=(Pd.set E1 p.toNat (Ent.mk 1 p 1 1 false))→
     Pd.Ok E2→
     (0≤(u32.wrap q)∧(u32.wrap q)<4294967296)∧
     ∀(m1:Mem),m1=(m.write true p 0 (u32.wrap q))→
     Mem.Wf m1→
     (0≤(u32.wrap (Pd.au E2))∧(u32.wrap (Pd.au E2))<4294967296)∧
     ∀(m2:Mem),m2=(m1.write true p 1 (u32.wrap (Pd.au E2)))→
     Mem.Wf m2→
     (0≤(0:Int)∧(0:Int)<4294967296)∧
     ∀(m3:Mem),m3=(m2.write true p 2 0)→
     Mem.Wf m3→
     (0≤(i64.wrap ((Pd.au E2)+1))∧(i64.wrap ((Pd.au E2)+1))≤64)∧
     ∀(E3:Pd),E3=(Pd.eh E2 (i64.wrap ((Pd.au E2)+1)))→
     Pd.Ok E3→
     Q ⟨(.int .i64 0),none,[.ob 3 E3,.ob 2 m3],[],[]⟩))))
theorem pK:Vc2 Un prog (aQ [(70,dS),(50,fT)]) [] Tryz.f37 (.r' (.two (.two (.node [] (some ⟨[(30,(.one .bool))],[],upN 7 24,[]⟩) [] [] .leaf .leaf) .leaf) (.r' (.two (.two (.node [] (some ⟨[(53,(.one .bool))],[],upN 34 20,[]⟩) [] [] .leaf .leaf) .leaf) (.r' (.r' (.r' (.two (.node [] none [] [(3,[0])] .leaf .leaf) (.two (.node [] none [] [(3,[0]),(9,[0])] .leaf .leaf) (.two (.node [] none [] [(3,[0])] .leaf .leaf) .leaf)))))))))) [] dt=(∀p q r (E:Pd) rm (m:Mem),∀Q,(dt.body p q r E rm m Q)→pI p q r E rm m Q):=by kernel_rfl
section
attribute [local grind=] DB.ay DB.aR DB.bp Pd.oI Pd.ux Pd.rf Pd.Es Mem.cV ak cJ Ent.ok Pd.wX DB.mem_set DB.zX DB.di
attribute [local grind→] Pd.Ok.au
theorem pH:LV Un prog 37 dt:=verify Tryz.func37 aa (tb:= [(70,dS),(50,fT)]) ⟨pM,pO,trivial⟩ (by kernel_rfl) (pK.mpr fun p q r E rm m Q h=>by
 obtain⟨I6,h⟩:=h
 exact fun f1 f2=>bq ((decide ((p:Int)<0)) || ((decide ((p:Int)≥(((Pd.ao E).length:Nat):Int))) || ((decide ((q:Int)<0)) || (decide ((q:Int)≥(((Pd.ao E).length:Nat):Int)))))) (ae (fun c1=>(by grind)) fun c1=>ae (fun c2=>(by grind)) fun c2=>ae (fun c3=>(by grind)) fun c3=>(by grind))<| aM (fun c4=>av h (aW (by grind)) (ab (uO3 (by grind)) (ab (uO2 (by grind)) rfl)) rfl) fun c4=>aE (fun c5=>av h (aW (by grind)) (ab (uO3 (by grind)) (ab (uO2 (by grind)) rfl)) rfl) fun c5=>bq (((((Pd.ao E).getD p.toNat Ent.free).typ:Int) !=0) || ((((Pd.ao E).getD q.toNat Ent.free).typ:Int) !=0)) (af (by grind) fun s3=>ae (fun c6=>(by grind)) fun c6=>af (by grind) fun s4=>(by grind))<| aM (fun c7=>av h (aW (by grind)) (ab (uO3 (by grind)) (ab (uO2 (by grind)) rfl)) rfl) fun c7=>aB (fun c8=>av h (aW (by grind)) (ab (uO3 (by grind)) (ab (uO2 (by grind)) rfl)) rfl) fun c8=>af (by grind) fun s5=>af (by grind) fun s6 E1 Jn f7=>af (by grind) fun s8=>af (by grind) fun s9 E2 JA f10=>af (gK _) fun Ly m1 I9 f12=>af (gK _) fun Nj m2 Ke f14=>af (by omega) fun O4 m3 Jj f16=>af (by grind) fun TT E3 Nd f18=>av h (aW (by grind)) (ab (uO3 (by(rw [DB.ay,if_pos (by grind)];dsimp only [DB.bp];rw [DB.set_comm _ (by grind),Pd.ek,Pd.ek,Pd.oI,Pd.ux,Pd.eU _ _ (by simp only [Mem.cV];exact I6),← Jn,← JA,Nd,ak (by have:=f10.au;omega),JA,Jn];rfl))) (ab (uO2 (by(rw [DB.ay,if_pos (by grind)];dsimp only [DB.bp,DB.eh,DB.aT];(have hb:E2.au=E.au:=by rw [JA,Jn];rfl);(have h7:=f1.au);(have h8:=f1.cF);rw [Jj,Ke,I9,cJ (x:=E2.au) (by rw [hb];omega),cJ (x:=q) (by grind),hb];rfl))) rfl)) rfl)
end
def own(D:DB)(s:Int):List I64:=if D.dM s then D.cR s D.S else []
end
end Go.Proofs.YtfgpafjlcgaimaaGreatDoor
namespace Go.Proofs.YtfgpafjlcgaimaaGreatDoor
open Go.Proofs.Tryz (prog)
open Go Go.RowKit V
open Go.IntKind (i64 u32 u64)
namespace Ent
theorem or0 {e:Ent}(h:e.ok=true):u32.wrap (BitVec.ofInt u32.bits (u32.wrap (BitVec.ofInt u32.bits (u32.wrap ((u32.wrap e.typ:Int)*2 ^ 0)) ||| BitVec.ofInt u32.bits (u32.wrap ((u32.wrap e.state:Int)*2 ^ 4))).toNat) ||| BitVec.ofInt u32.bits (u32.wrap ((u32.wrap e.owner:Int)*2 ^ 16))).toNat=e.typ+16*e.state+65536*e.owner:=by
 have h1:=dC h
 have h2:=jo h
 rw [cJ (x:=e.typ) (by omega),cJ (x:=e.state) (by omega),cJ (x:=e.owner) (by omega),cJ (x:=e.typ*2 ^ 0) (by omega),cJ (x:=e.state*2 ^ 4) (by omega),cJ (x:=e.owner*2 ^ 16) (by omega),mw (x:=e.typ*2 ^ 0) (by omega) (by omega),lq,
  show e.state*2 ^ 4=2 ^ 4*e.state by omega,eM 4 (by omega) (by omega) (by omega),mw (by omega) (by omega),lq,show e.owner*2 ^ 16=2 ^ 16*e.owner by omega,eM 16 (by omega) (by omega) (by omega)]
 omega
theorem or1 {x:Int}(h:∃a b:Int,x=a+512*b∧0≤a∧a<256∧0≤b∧b<8388608):u32.wrap (BitVec.ofInt u32.bits x ||| BitVec.ofInt u32.bits 256).toNat=x+256:=by
 obtain⟨a,b,rfl,h1,h2,h3,h4⟩:=h
 have e1:nor (2 ^ 8*1) a=2 ^ 8*1+a:=eM 8 (by omega) h1 h2
 have e2:nor (2 ^ 9*b) a=2 ^ 9*b+a:=eM 9 h3 h1 (by omega)
 have e3:nor (2 ^ 9*b) (256+a)=2 ^ 9*b+(256+a):=eM 9 h3 (by omega) (by omega)
 rw [mw (by omega) (by omega)]
 have assoc:∀x y z:Int,nor (nor x y) z=nor x (nor y z):=by
  intro x y z;unfold nor;simp [Nat.or_assoc]
 rw [show a+512*b=2 ^ 9*b+a by omega,← e2,assoc,lq a 256,show nor 256 a=256+a by simpa using e1,e3,e2]
 omega
theorem mask(k:Nat) {x:Int}(m:Int)(hm:m=2 ^ k - 1)(hk:k≤31)(hx:0≤x∧x<4294967296):i64.wrap (u32.wrap (BitVec.ofInt u32.bits x &&& BitVec.ofInt u32.bits m).toNat)=x % 2 ^ k:=by
 have h2:(2:Int) ^ k≤2 ^ 31:=by exact_mod_cast Nat.pow_le_pow_right (n:=2) (by omega) hk
 have h3:(0:Int)<2 ^ k:=Int.pow_pos (by omega)
 have h4:=Int.emod_nonneg x (Int.ne_of_gt h3)
 have h5:=Int.emod_lt_of_pos x h3
 subst hm
 rw [nT hx (by omega),mB k hx.1,ak (by omega)]
theorem HW(k:Nat) {x:Int}(m:Int)(hm:m=2 ^ k - 1)(hk:k≤31)(hx:0≤x∧x<4294967296):u32.wrap (BitVec.ofInt u32.bits x &&& BitVec.ofInt u32.bits m).toNat=x % 2 ^ k:=by
 have h2:(2:Int) ^ k≤2 ^ 31:=by exact_mod_cast Nat.pow_le_pow_right (n:=2) (by omega) hk
 have h3:(0:Int)<2 ^ k:=Int.pow_pos (by omega)
 subst hm
 rw [nT hx (by omega),mB k hx.1]
theorem jN {x:Int}(n:Nat)(hx:0≤x∧x<4294967296):0≤x.fdiv (2 ^ n)∧x.fdiv (2 ^ n)<4294967296:=by
 rw [ka]
 have h3:(0:Int)<2 ^ n:=Int.pow_pos (by omega)
 refine⟨Int.ediv_nonneg hx.1 (by omega),?_⟩
 have:=Int.ediv_le_self (2 ^ n) hx.1
 omega
theorem parts_eq {a b:Int}(ha:0≤a∧a<4294967296)(hb:0≤b∧b<4294967296):
 i64.wrap (u32.wrap (BitVec.ofInt u32.bits ((a:Int).fdiv (2 ^ 0)) &&& BitVec.ofInt u32.bits 7).toNat)=(parts a b).typ∧
 i64.wrap (u32.wrap (BitVec.ofInt u32.bits ((a:Int).fdiv (2 ^ 16)) &&& BitVec.ofInt u32.bits 63).toNat)=(parts a b).owner∧
 i64.wrap (u32.wrap (BitVec.ofInt u32.bits b &&& BitVec.ofInt u32.bits 63).toNat)=(parts a b).refs∧
 i64.wrap (u32.wrap (BitVec.ofInt u32.bits ((a:Int).fdiv (2 ^ 4)) &&& BitVec.ofInt u32.bits 3).toNat)=(parts a b).state∧
 ((u32.wrap (BitVec.ofInt u32.bits ((a:Int).fdiv (2 ^ 8)) &&& BitVec.ofInt u32.bits 1).toNat:Int)==1)=(parts a b).aS:=by
 refine⟨?_,?_,?_,?_,?_⟩
 ·rw [mask 3 7 (by decide) (by decide) (jN 0 ha),ka];simp [parts]
 ·rw [mask 6 63 (by decide) (by decide) (jN 16 ha),ka];simp [parts]
 ·rw [mask 6 63 (by decide) (by decide) hb];simp [parts]
 ·rw [mask 2 3 (by decide) (by decide) (jN 4 ha),ka];simp [parts]
 ·rw [HW 1 1 (by decide) (by decide) (jN 8 ha),ka];simp only [parts];rw [Bool.eq_iff_iff];simp
theorem eqW(a b c d:Int):aK #[.int .u32 a,.int .u32 b] #[.int .u32 c,.int .u32 d]=(decide (a=c) && decide (b=d)):=by
 simp [aK,eqL,gI];rfl
end Ent
def zU(w:Int):Bool:=decide (w % 256=1∧w / 256<64)
def aL(w:Int):Int:=if zU w then w / 256 else 0
def iZ(w:Int):Int:=if w=0 then 92 else if zU w then 0 else 90
def fj(p:Int):Int:=if 0≤p∧p<64 then 256*p+1 else 0
def dj(p:Int):Int:=if 0≤p∧p<64 then 0 else 4
structure Mp where
 aO:Bool
 ah:Int
 write:Bool
 exec:Bool
deriving DecidableEq
def Mp.bits(m:Mp):Int:=(if m.aO then 2 else 0)+(if m.write then 4 else 0)+(if m.exec then 8 else 0)
def Mp.err(m:Mp):Int:=if 0≤m.ah∧m.ah<64 then(if m.exec && !m.aO then 1 else 0)else 4
def Mp.word(m:Mp):Int:=if m.err=0 then 256*m.ah+1+m.bits else 0
abbrev Mp.nil:Mp:=⟨false,0,false,false⟩
def Mp.yX(w:Int):Mp:=⟨decide (w / 2 % 2=1),w / 256,decide (w / 4 % 2=1),decide (w / 8 % 2=1)⟩
def sB(w:Int):Bool:=decide ((Mp.yX w).err=0∧(Mp.yX w).word=w)
def bo(w:Int):Mp:=if w≠0∧sB w then Mp.yX w else Mp.nil
def gi(w:Int):Int:=if w=0 then 92 else if sB w then 0 else 90
theorem Ci {p:Int}(h:0≤p∧p<64):u32.wrap (BitVec.ofInt u32.bits (u32.wrap ((u32.wrap p:Int)*2 ^ 8)) ||| BitVec.ofInt u32.bits 1).toNat=256*p+1:=by
 rw [cJ (x:=p) (by omega),cJ (x:=p*2 ^ 8) (by omega),mw (by omega) (by omega),show p*2 ^ 8=2 ^ 8*p by omega,eM 8 (by omega) (by omega) (by omega)];omega
theorem xk(k:Nat)(b:Int)(hb:b=2 ^ k)(hk:k≤3) {p a:Int}(h:0≤p∧p<64)(ha:0≤a∧a<b):u32.wrap (BitVec.ofInt u32.bits (256*p+a) ||| BitVec.ofInt u32.bits b).toNat=256*p+(a+b):=by
 subst hb
 have h3:(2:Int) ^ k≤2 ^ 3:=by exact_mod_cast Nat.pow_le_pow_right (n:=2) (by omega) hk
 have h4:(0:Int)<2 ^ k:=Int.pow_pos (by omega)
 have assoc:∀x y z:Int,nor (nor x y) z=nor x (nor y z):=by
  intro x y z;unfold nor;simp [Nat.or_assoc]
 have e1:nor (2 ^ k*1) a=2 ^ k*1+a:=eM k (by omega) ha.1 ha.2
 have e2:nor (2 ^ 8*p) a=2 ^ 8*p+a:=eM 8 h.1 ha.1 (by omega)
 have e3:nor (2 ^ 8*p) (2 ^ k+a)=2 ^ 8*p+(2 ^ k+a):=eM 8 h.1 (by omega) (by omega)
 rw [Int.mul_one]at e1
 rw [mw (by omega) (by omega),show 256*p+a=2 ^ 8*p+a by omega,← e2,assoc,lq a,e1,e3]
 omega
theorem dz(k:Nat)(b:Int)(hb:b=2 ^ k)(hk:k≤30) {x:Int}(hx:0≤x∧x<4294967296):((u32.wrap (BitVec.ofInt u32.bits x &&& BitVec.ofInt u32.bits b).toNat:Int) !=0)=decide (x / b % 2=1):=by
 subst hb
 rw [Bool.eq_iff_iff]
 simp only [bne_iff_ne,ne_eq,decide_eq_true_eq]
 show(¬u32.wrap (BitVec.ofInt u32.bits x &&& BitVec.ofInt u32.bits (2 ^ k)).toNat=0)↔x / 2 ^ k % 2=1
 have h3:(2:Int) ^ k≤2 ^ 30:=by exact_mod_cast Nat.pow_le_pow_right (n:=2) (by omega) hk
 have h4:(0:Int)<2 ^ k:=Int.pow_pos (by omega)
 rw [nT hx (by omega)]
 unfold ES
 obtain⟨x,rfl⟩:=Int.eq_ofNat_of_zero_le hx.1
 have e:((2:Int) ^ k).toNat=2 ^ k:=by rw [show(2:Int) ^ k=((2 ^ k:Nat):Int)by push_cast;rfl,Int.toNat_natCast]
 rw [e,Int.toNat_natCast]
 have h5:x &&& 2 ^ k=if x.testBit k then 2 ^ k else 0:=by
  apply Nat.eq_of_testBit_eq
  intro j
  rw [Nat.testBit_and,Nat.testBit_two_pow]
  by_cases hj:k=j
  ·subst hj
   cases hb:x.testBit k<;>simp
  ·cases hb:x.testBit k<;>simp [hj,Nat.testBit_two_pow]
 have h6:x.testBit k=decide (x / 2 ^ k % 2=1):=Nat.testBit_eq_decide_div_mod_eq
 rw [h5,h6]
 have h7:((x:Int) / 2 ^ k % 2=1)↔(x / 2 ^ k % 2=1):=by
  rw [show(x:Int) / 2 ^ k % 2=((x / 2 ^ k % 2:Nat):Int)by push_cast;rfl]
  omega
 rw [h7]
 have h8:0<2 ^ k:=Nat.two_pow_pos k
 by_cases h9:x / 2 ^ k % 2=1
 ·simp [h9];omega
 ·simp [h9]
namespace File
def flags(f:Fl):Int:=if f.z then 1 else(if f.n then 2 else 0)+(if f.l then 4 else 0)
def fi(w:Int):Bool:=decide (w=0∨w=1∨w=2∨w=4∨w=6)
def eN(w:Int):Int:=if fi w then 0 else 80
def dN(f:Fl)(w:Int):Fl:=if fi w then {f with z:=decide (w=1),n:=decide (w=2∨w=6),l:=decide (w=4∨w=6)}else Fl.zero
def ez(l:List U32):Int:=if l.length=17 then eN (l.getD 16 ⟨0⟩).v else 80
def bare(l:List U32):Fl:=⟨l.take 15,(l.getD 15 ⟨0⟩).v,false,false,false⟩
def unpack(l:List U32):Fl:=if l.length=17 then dN (bare l) (l.getD 16 ⟨0⟩).v else Fl.zero
theorem uM {f:Fl} {w:Int}(h:fi w=false):dN f w=Fl.zero:=by unfold dN;rw [h];rfl
theorem uO {w:Int}(h:fi w=false):eN w=80:=by unfold eN;rw [h];rfl
theorem xz {f:Fl} {w:Int}(h:fi w=true):dN f w= {f with z:=decide (w=1),n:=decide (w=2∨w=6),l:=decide (w=4∨w=6)}:=by unfold dN;rw [h];rfl
theorem xA {w:Int}(h:fi w=true):eN w=0:=by unfold eN;rw [h];rfl
theorem mS {l:List U32}(h:l.length=17):unpack l=dN (bare l) (l.getD 16 ⟨0⟩).v∧ez l=eN (l.getD 16 ⟨0⟩).v:=⟨if_pos h,if_pos h⟩
theorem og {l:List U32}(h:¬l.length=17):unpack l=Fl.zero∧ez l=80:=⟨if_neg h,if_neg h⟩
theorem xy {l:List U32}(hw:∀x∈l,0≤x.v∧x.v<4294967296)(i:Nat):0≤(l.getD i ⟨0⟩).v∧(l.getD i ⟨0⟩).v<4294967296:=by
 rw [List.getD_eq_getElem?_getD]
 cases h:l[i]? with
 | none=>simp
 | some x=>exact hw x (List.mem_of_getElem? h)
theorem uN {w:Int}(h:0≤w∧w<4294967296):(if decide (w / 1 % 2=1)then(1:Int)else(if decide (w / 2 % 2=1)then 2 else 0)+(if decide (w / 4 % 2=1)then 4 else 0))=w↔fi w=true:=by
 simp only [fi,decide_eq_true_eq]
 constructor
 ·intro h1;split at h1<;>(try split at h1)<;>(try split at h1)<;>omega
 ·intro h1;rcases h1 with rfl | rfl | rfl | rfl | rfl<;>decide
theorem z6 {w:Int}(h:fi w=true):decide (w / 1 % 2=1)=decide (w=1)∧decide (w / 2 % 2=1)=decide (w=2∨w=6)∧decide (w / 4 % 2=1)=decide (w=4∨w=6):=by
 simp only [fi,decide_eq_true_eq]at h
 rcases h with rfl | rfl | rfl | rfl | rfl<;>decide
def part(l:List U32)(i:Int):Fl:=⟨l.take i.toNat++List.replicate (15 - i.toNat) (U32.mk 0),0,false,false,false⟩
theorem bare_eq {l:List U32}(h:l.length=17):Fl.mk [U32.mk ((l.getD 0 (U32.mk 0)).v),U32.mk ((l.getD 1 (U32.mk 0)).v),U32.mk ((l.getD 2 (U32.mk 0)).v),U32.mk ((l.getD 3 (U32.mk 0)).v),U32.mk ((l.getD 4 (U32.mk 0)).v),U32.mk ((l.getD 5 (U32.mk 0)).v),U32.mk ((l.getD 6 (U32.mk 0)).v),U32.mk ((l.getD 7 (U32.mk 0)).v),U32.mk ((l.getD 8 (U32.mk 0)).v),U32.mk ((l.getD 9 (U32.mk 0)).v),U32.mk ((l.getD 10 (U32.mk 0)).v),U32.mk ((l.getD 11 (U32.mk 0)).v),U32.mk ((l.getD 12 (U32.mk 0)).v),U32.mk ((l.getD 13 (U32.mk 0)).v),U32.mk ((l.getD 14 (U32.mk 0)).v)] ((l.getD (Int.toNat 15) (U32.mk 0)).v) false false false=bare l:=by
 match l,h with
 | [_,_,_,_,_,_,_,_,_,_,_,_,_,_,_,_,_],_=>rfl
theorem oZ {l:List U32}(h:l.length=17)(w:Int):(dN (bare l) w).Ok:=by
 unfold dN
 split
 ·show(l.take 15).length=15;rw [List.length_take];omega
 ·rfl
end File
def fZ(f:Int→Bool)(lo hi:Int):Bool:=(List.range (hi - lo).toNat).all fun i=>f (lo+(i:Int))
theorem bO {f:Int→Bool} {lo hi:Int}:fZ f lo hi=true↔∀x,lo≤x→x<hi→f x=true:=by
 unfold fZ
 rw [List.all_eq_true]
 constructor
 ·intro h x h1 h2
  have:=h (x - lo).toNat (List.mem_range.2 (by omega))
  rwa [show lo+(((x - lo).toNat:Nat):Int)=x by omega]at this
 ·intro h i hi
  have:=List.mem_range.1 hi
  exact h _ (by omega) (by omega)
theorem g7 {f:Int→Bool} {lo hi:Int}(h:hi≤lo):fZ f lo hi=true:=bO.2 fun x h1 h2=>by omega
theorem eG {f:Int→Bool} {lo hi:Int}(h:fZ f lo hi=true)(hf:f hi=true) {Jv:Int}(e:Jv=hi+1):fZ f lo Jv=true:=
 bO.2 fun x h1 h2=>by
  by_cases hx:x=hi
  ·subst hx;exact hf
  ·exact bO.1 h x h1 (by omega)
theorem fN {f:Int→Bool} {lo hi x:Int}(h1:lo≤x)(h2:x<hi)(hf:f x=false):fZ f lo hi=false:=by
 cases h:fZ f lo hi
 ·rfl
 ·have:=bO.1 h x h1 h2
  rw [hf]at this
  exact this.symm
def cm(f:Int→Bool)(n:Int):Int:=(((List.range n.toNat).countP fun(i:Nat)=>f (i:Int):Nat):Int)
theorem Ae {f:Int→Bool}:cm f 0=0:=rfl
theorem cQ {f:Int→Bool} {n:Int}(h:0≤n):cm f (n+1)=cm f n+(if f n then 1 else 0):=by
 unfold cm
 rw [show(n+1).toNat=n.toNat+1 by omega,List.range_succ,List.countP_append,Int.natCast_add]
 congr 1
 rw [List.countP_cons,List.countP_nil,show((n.toNat:Nat):Int)=n by omega]
 cases f n<;>simp
theorem gn {f:Int→Bool} {n:Int}:0≤cm f n:=by unfold cm;omega
theorem lK {f:Int→Bool} {n:Int}(h:0≤n):cm f n≤n:=by
 unfold cm
 have:=List.countP_le_length (p:=fun i=>f ((i:Nat):Int)) (l:=List.range n.toNat)
 rw [List.length_range]at this
 omega
theorem o8 {f g:Int→Bool} {n:Int}(h:∀x,0≤x→x<n→f x=g x):cm f n=cm g n:=by
 unfold cm
 congr 1
 apply List.countP_congr
 intro i hi
 have:=List.mem_range.1 hi
 rw [h _ (by omega) (by omega)]
namespace DB
def word(D:DB)(p o:Int):Int:=D.mem.bQ true p o
def zero(D:DB)(p lo hi:Int):Bool:=fZ (fun o=>D.word p o==0) lo hi
def is(D:DB)(p t:Int):Bool:=D.has p && (D.at_ p).typ==t
def of(D:DB)(p t o:Int):Bool:=D.is p t && (D.at_ p).owner==o
def alive(D:DB)(p:Int):Bool:=D.is (D.at_ p).owner 1 && (D.at_ (D.at_ p).owner).state !=3
def some_(D:DB)(p lo:Int)(n:Nat):List U32:=(List.range n).map fun(i:Nat)=>⟨D.word p (lo+(i:Int))⟩
def iy(D:DB)(p:Int):Bool:=
 decide (D.word p 1<D.au) && decide (D.word p 2≤4096) && fZ (fun q=>!((D.at_ q).typ==1 && D.word q 1==D.word p 1)) 0 p
def BT(D:DB)(p:Int):Bool:=Dg.bK (D.some_ p 11 26)==0 && D.zero p 3 11
def sm(D:DB)(p:Int):Bool:=
 D.zero p 37 1024 && (if(D.at_ p).state=1 then D.BT p else if(D.at_ p).state=2 then D.zero p 11 37 else D.BT p || D.zero p 11 37)
def so(D:DB)(p:Int):Bool:=(D.at_ p).state==3 || (cm (fun q=>D.of q 3 p) D.S==1 && D.of (D.word p 0) 3 p)
def named(D:DB)(p:Int)(n q:Int):Int:=cm (fun i=>D.word p i !=0 && aL (D.word p i)==q) n
def iF(D:DB)(p i:Int):Bool:=D.word p i==0 || (iZ (D.word p i)==0 && D.of (aL (D.word p i)) 4 (D.at_ p).owner)
def iw(D:DB)(p:Int):Bool:=
 D.zero p 256 1024 && (fZ (D.iF p) 0 256 && fZ (fun q=>!(decide (D.named p 256 q>1) || (D.of q 4 (D.at_ p).owner && D.named p 256 q==0))) 0 D.S)
def lv(D:DB)(p j:Int):Bool:=
 D.word p j==0 || (gi (D.word p j)==0 && (if(bo (D.word p j)).aO then D.of (bo (D.word p j)).ah 5 (D.at_ p).owner else decide ((bo (D.word p j)).ah<D.mem.I)))
def qK(D:DB)(p:Int):Bool:=fZ (D.lv p) 0 1024
def iK(D:DB)(p q j:Int):Bool:=gi (D.word q j)==0 && ((bo (D.word q j)).aO && (bo (D.word q j)).ah==p)
def gj(D:DB)(p n:Int):Int:=((List.range n.toNat).map fun(q:Nat)=>if D.of (q:Int) 4 (D.at_ p).owner then cm (D.iK p (q:Int)) 1024 else 0).sum
def qJ(D:DB)(p:Int):Bool:=D.gj p D.S==1
def nH(D:DB)(p:Int):Bool:=
 D.zero p 18 1024 && (if(D.at_ p).aS then File.ez (D.some_ p 1 17)==0 && !(D.is (D.at_ p).owner 1 && (D.at_ (D.at_ p).owner).state==1)else D.zero p 1 18)
def clause(D:DB)(c p:Int):Bool:=
 let t:=(D.at_ p).typ
 if c=1 then t !=1 || (D.at_ p).owner==p
 else if c=2 then t !=0 || D.zero p 0 1024
 else if c=3 then t==1 || (t==0 || D.is (D.at_ p).owner 1)
 else if c=4 then t !=1 || (D.at_ p).refs==((D.cR p D.S).length:Int)
 else if c=5 then t !=1 || D.iy p
 else if c=6 then t !=1 || D.sm p
 else if c=7 then t !=1 || D.so p
 else if c=8 then t !=3 || (!D.alive p || D.iw p)
 else if c=9 then t !=4 || (!D.alive p || D.qK p)
 else if c=10 then t !=5 || (!D.alive p || D.qJ p)
 else if c=11 then t !=2 || D.nH p
 else t !=6 || D.zero p 0 1024
def iJ(D:DB)(c:Int):Bool:=fZ (D.clause c) 0 D.S
def sO(f:Int→Bool):Nat→Int→Int
 | 0,p=>p
 | n+1,p=>if f p then sO f n (p+1)else p
def eO(D:DB):Nat→Int→Int×Int
 | 0,_=>(0,0)
 | n+1,c=>if D.iJ c then eO D n (c+1)else(c,sO (D.clause c) D.S 0)
def broken(D:DB):Int×Int:=D.eO 12 1
end DB
theorem DB.leastN_eq {f:Int→Bool}:∀ {n:Nat} {lo x:Int},fZ f lo x=true→f x=false→lo≤x→x<lo+n→sO f n lo=x
 | 0,lo,x,_,_,h1,h2=>by omega
 | n+1,lo,x,h,hf,h1,h2=>by
  unfold sO
  by_cases hx:lo=x
  ·subst hx;rw [hf];rfl
  ·rw [if_pos (bO.1 h lo (by omega) (by omega))]
   exact leastN_eq (bO.2 fun y a b=>bO.1 h y (by omega) b) hf (by omega) (by omega)
theorem u6 {f g:Int→Bool} {n:Int}(h0:0≤n)(h:∀x,0≤x→x<n→f x=true→g x=true):cm f n≤cm g n∧(cm f n=cm g n→∀x,0≤x→x<n→g x=true→f x=true):=by
 obtain⟨m,rfl⟩:=Int.eq_ofNat_of_zero_le h0
 induction m with
 | zero=>exact⟨Int.le_refl _,fun _ x a b=>by omega⟩
 | succ m ih=>
  have h1:=ih (by omega) (fun x a b=>h x a (by omega))
  have e1:=cQ (f:=f) (n:=(m:Int)) (by omega)
  have e2:=cQ (f:=g) (n:=(m:Int)) (by omega)
  have hm:=h (m:Int) (by omega) (by omega)
  rw [show((m+1:Nat):Int)=(m:Int)+1 by omega,e1,e2]
  cases hf:f (m:Int)<;>cases hg:g (m:Int)<;>simp only [hf,hg,if_true,Bool.false_eq_true,if_false]at hm ⊢
  ·refine⟨by omega,fun e x a b hx=>?_⟩
   by_cases UR:x=m
   ·subst UR;rw [hg]at hx;exact absurd hx (by simp)
   ·exact h1.2 (by omega) x a (by omega) hx
  ·exact⟨by omega,fun e=>by omega⟩
  ·exact absurd (hm trivial) (by simp)
  ·refine⟨by omega,fun e x a b hx=>?_⟩
   by_cases UR:x=m
   ·subst UR;exact hf
   ·exact h1.2 (by omega) x a (by omega) hx
end Go.Proofs.YtfgpafjlcgaimaaGreatDoor
namespace Go.Proofs.YtfgpafjlcgaimaaGreatDoor
open Go.Proofs.Tryz (prog)
open Go Go.RowKit V
open Go.IntKind (i64 u32 u64)
section
set_option maxRecDepth 100000
set_option maxHeartbeats 1000000
attribute [local irreducible] Vc2 VcD
theorem Ent.eqC(a b c d a' b' c' d':Int)(e e':Bool):aK #[.int .i64 a,.int .i64 b,.int .i64 c,.int .i64 d,.bool e] #[.int .i64 a',.int .i64 b',.int .i64 c',.int .i64 d',.bool e']=decide (a=a'∧b=b'∧c=c'∧d=d'∧e=e'):=by
 simp [aK,eqL,gI];rw [Bool.eq_iff_iff];simp
theorem Ent.CD {e:Ent}:(if e.ok then(0:Int)else 110)=0↔e.ok=true:=by cases e.ok<;>simp
def l8:Ctr Un:=⟨[.one (.int .i64)],[],[],[],fun n K=>K ⟨(.bool (decide (0≤n∧n≤63))),none,[],[],[]⟩⟩
def F1(n:Int)(Q:Ou Un→Prop):Prop:=
 ∃J:Bool→Prop,(
  split (decide (n≥0)) (
   J (decide (n≤63))) (
   J false))∧∀(JW:Nat→Value)(x2:Bool),J x2→
 Q ⟨(.bool x2),none,[],[],[]⟩
theorem F2:Vc2 Un prog (aQ []) [] Tryz.f159 (.r' (.two (.node [] (some ⟨[(2,(.one .bool))],[],upN 2 7,[]⟩) [] [] .leaf .leaf) .leaf)) [] l8=(∀n,∀Q,(l8.body n Q)→F1 n Q):=by kernel_rfl
theorem F0:LV Un prog 159 l8:=verify Tryz.func159 aa (tb:= []) trivial (by kernel_rfl) (F2.mpr fun n Q h=>bq ((decide ((n:Int)≥0)) && (decide ((n:Int)≤63))) (ae (fun c1=>(by show _=_;rw [Bool.eq_iff_iff];simp_all<;>omega)) fun c1=>(by show _=_;rw [Bool.eq_iff_iff];simp_all<;>omega))<| bf h (by rw [Bool.eq_iff_iff];simp))
def jI:Ctr Un:=⟨[.agg [.int .i64,.int .i64,.int .i64,.int .i64,.bool]],[],[],[],fun ea eb ec ed ee K=>K ⟨(.int .i64 (if(Ent.mk ea eb ec ed ee).ok then 0 else 110)),none,[],[],[]⟩⟩
def Eh(ea:Int)(eb:Int)(ec:Int)(ed:Int)(ee:Bool)(Q:Ou Un→Prop):Prop:=
 ∀(gv:Nat),
 ∀(I8:Nat),
 ∃J:Bool→Prop,(
  split (decide (ea≥0)) (
   ∀ok:Bool,ok=(decide ((ea:Int)<7))→
   J ok) (
   ∀ok:Bool,ok=false→
   J ok))∧∀(KH:Nat→Value)(ok:Bool),J ok→
 ∃J1:Bool→Int→Int→Int→Int→Bool→Prop,(
  split (ea !=0) (
   ∃J2:Bool→Prop,(
    split ok (
     ∀Ln:Bool,Ln=(decide (0≤eb∧eb≤63))→
     J2 Ln) (
     ∀Ln:Bool,Ln=false→
     J2 Ln))∧∀(Nh:Nat→Value)(Ln:Bool),J2 Ln→
   J1 Ln ea eb 0 0 false) (
   J1 ok ea 0 0 0 false))∧∀(Nh:Nat→Value)(Ln:Bool) OE OD Mr Ph (Pg:Bool),J1 Ln OE OD Mr Ph Pg→
 ∀JK:Bool,JK=((ea:Int)==1)→
 split JK (
  ∃J2:Bool→Prop,(
   split Ln (
    split (decide (0≤ec∧ec≤63)) (
     split (decide (ed>0)) (
      ∀MQ:Bool,MQ=(decide ((ed:Int)<4))→
      J2 MQ) (
      ∀MQ:Bool,MQ=false→
      J2 MQ)) (
     ∀MQ:Bool,MQ=false→
     J2 MQ)) (
    ∀MQ:Bool,MQ=false→
    J2 MQ))∧∀(KR:Nat→Value)(MQ:Bool),J2 MQ→
  ∃J3:Bool→Prop,(
   split (!MQ) (
    J3 true) (
    J3 (!(aK #[(.int .i64 ea),(.int .i64 eb),(.int .i64 ec),(.int .i64 ed),(.bool ee)] #[(.int .i64 OE),(.int .i64 OD),(.int .i64 ec),(.int .i64 ed),(.bool Pg)]))))∧∀(VX:Nat→Value)(Pj:Bool),J3 Pj→
  split Pj (
   Q ⟨(.int .i64 110),none,[],[],[]⟩) (
   Q ⟨(.int .i64 0),none,[],[],[]⟩)) (
  ∀Q7:Bool,Q7=((ea:Int)==2)→
  split Q7 (
   ∃J2:Bool→Prop,(
    split (!Ln) (
     J2 true) (
     J2 (!(aK #[(.int .i64 ea),(.int .i64 eb),(.int .i64 ec),(.int .i64 ed),(.bool ee)] #[(.int .i64 OE),(.int .i64 OD),(.int .i64 Mr),(.int .i64 Ph),(.bool ee)]))))∧∀(KR:Nat→Value)(Pj:Bool),J2 Pj→
   split Pj (
    Q ⟨(.int .i64 110),none,[],[],[]⟩) (
    Q ⟨(.int .i64 0),none,[],[],[]⟩)) (
   ∃J2:Bool→Prop,(
    split (!Ln) (
     J2 true) (
     J2 (!(aK #[(.int .i64 ea),(.int .i64 eb),(.int .i64 ec),(.int .i64 ed),(.bool ee)] #[(.int .i64 OE),(.int .i64 OD),(.int .i64 Mr),(.int .i64 Ph),(.bool Pg)]))))∧∀(KR:Nat→Value)(Pj:Bool),J2 Pj→
   split Pj (
    Q ⟨(.int .i64 110),none,[],[],[]⟩) (
    Q ⟨(.int .i64 0),none,[],[],[]⟩)))
theorem Ei:Vc2 Un prog (aQ [(159,l8)]) [4,30,54] Tryz.f147 (.r' (.r' (.two (.node [] (some ⟨[(4,(.one .bool))],[],[4]++upN 8 8,[]⟩) [] [] .leaf .leaf) (.two (.r' (.node [] (some ⟨[(4,(.one .bool))],[],[4]++upN 19 9,[(1,(.blk [(.v (.int .i64)),(.v (.int .i64)),(.v (.int .i64)),(.v (.int .i64)),(.v .bool)]))]⟩) [] [] (.r' (.node [] (some ⟨[(4,(.one .bool))],[],[4]++upN 22 6,[]⟩) [] [] .leaf .leaf)) .leaf)) (.two (.r' (.two (.r' (.two (.two (.node [] none [] [(1,[0]),(3,[0])] .leaf .leaf) (.node [] (some ⟨[(4,(.one .bool))],[],[4]++upN 38 16,[]⟩) [] [] .leaf .leaf)) .leaf)) .leaf)) (.two (.two (.node [] (some ⟨[(65,(.one .bool))],[],upN 59 7,[]⟩) [] [] .leaf .leaf) .leaf) .leaf)))))) [] jI=(∀ea eb ec ed ee,∀Q,(jI.body ea eb ec ed ee Q)→Eh ea eb ec ed ee Q):=by kernel_rfl
section
attribute [local grind=] Ent.ok Ent.eqC
theorem Eg:LV Un prog 147 jI:=verify Tryz.func147 aa (tb:= [(159,l8)]) ⟨F0,trivial⟩ (by kernel_rfl) (Ei.mpr fun ea eb ec ed ee Q h gv I8=>bq ((decide ((ea:Int)≥0)) && (decide ((ea:Int)<7))) (ae (fun c1=>allEq<| (by grind)) fun c1=>allEq<| (by grind))<| ⟨fun Ln OE OD Mr Ph Pg=>(Ln=(decide (0≤ea∧ea<7) && (ea==0 || decide (0≤eb∧eb≤63))))∧(OE=ea∧OD=(if ea=0 then 0 else eb)∧Mr=0∧Ph=0∧Pg=false),aG (fun c2=>bq (((decide ((ea:Int)≥0)) && (decide ((ea:Int)<7))) && (decide (0≤eb∧eb≤63))) (ae (fun c3=>allEq<| (by grind)) fun c3=>allEq<| (by grind))<| ⟨(by grind),(by grind)⟩) fun c2=>⟨(by grind),(by grind)⟩,fun _ Ln OE OD Mr Ph Pg ⟨g1,g2⟩=>allEq<| aE (fun c4=>bq (Ln && ((decide (0≤ec∧ec≤63)) && ((decide ((ed:Int)>0)) && (decide ((ed:Int)<4))))) (ae (fun c5=>ae (fun c6=>ae (fun c7=>allEq<| (by grind)) fun c7=>allEq<| (by grind)) fun c6=>allEq<| (by grind)) fun c5=>allEq<| (by grind))<| bq ((!(Ln && ((decide (0≤ec∧ec≤63)) && ((decide ((ed:Int)>0)) && (decide ((ed:Int)<4)))))) || (!(aK #[(.int .i64 ea),(.int .i64 eb),(.int .i64 ec),(.int .i64 ed),(.bool ee)] #[(.int .i64 OE),(.int .i64 OD),(.int .i64 ec),(.int .i64 ed),(.bool Pg)]))) (ae (fun c8=>(by grind)) fun c8=>(by grind))<| aM (fun c9=>eo h (by grind)) fun c9=>eo h (by grind)) fun c4=>allEq<| aE (fun Mn=>bq ((!Ln) || (!(aK #[(.int .i64 ea),(.int .i64 eb),(.int .i64 ec),(.int .i64 ed),(.bool ee)] #[(.int .i64 OE),(.int .i64 OD),(.int .i64 Mr),(.int .i64 Ph),(.bool ee)]))) (ae (fun Ng=>(by grind)) fun Ng=>(by grind))<| aM (fun QT=>eo h (by grind)) fun QT=>eo h (by grind)) fun Mn=>bq ((!Ln) || (!(aK #[(.int .i64 ea),(.int .i64 eb),(.int .i64 ec),(.int .i64 ed),(.bool ee)] #[(.int .i64 OE),(.int .i64 OD),(.int .i64 Mr),(.int .i64 Ph),(.bool Pg)]))) (ae (fun OQ=>(by grind)) fun OQ=>(by grind))<| aM (fun TJ=>eo h (by grind)) fun TJ=>eo h (by grind)⟩)
end
section
attribute [local grind=] Ent.ok
end
def ik:Ctr Un:=⟨[.agg [.int .i64,.int .i64,.int .i64,.int .i64,.bool]],[],[],[],fun ea eb ec ed ee K=>∀(x:Int)(y:Int)(z:Int),((x=(if(Ent.mk ea eb ec ed ee).ok then(Ent.mk ea eb ec ed ee).w0 else 0)∧y=(if(Ent.mk ea eb ec ed ee).ok then(Ent.mk ea eb ec ed ee).w1 else 0)∧z=(if(Ent.mk ea eb ec ed ee).ok then 0 else 110)))→K ⟨(.tuple #[(.agg #[(.int .u32 x),(.int .u32 y)]),(.int .i64 z)]),(some (.t [none,none])),[],[],[]⟩⟩
def Bz(ea:Int)(eb:Int)(ec:Int)(ed:Int)(ee:Bool)(Q:Ou Un→Prop):Prop:=
 ∀(gv:Nat),
 ∀(I8:Nat),
 split (((if(Ent.mk ea eb ec ed ee).ok then 0 else 110):Int) !=0) (
  Q ⟨(.tuple #[(.agg #[(.int .u32 0),(.int .u32 0)]),(.int .i64 110)]),(some (.t [none,none])),[],[],[]⟩) (
  ∀wv:Int,wv=(u32.wrap (BitVec.ofInt u32.bits (u32.wrap (BitVec.ofInt u32.bits (u32.wrap ((u32.wrap ea:Int)*2 ^ 0)) ||| BitVec.ofInt u32.bits (u32.wrap ((u32.wrap ed:Int)*2 ^ 4))).toNat) ||| BitVec.ofInt u32.bits (u32.wrap ((u32.wrap eb:Int)*2 ^ 16))).toNat)→
  split ee (
   ∀I2:Int,I2=(u32.wrap (BitVec.ofInt u32.bits wv ||| BitVec.ofInt u32.bits 256).toNat)→
   Q ⟨(.tuple #[(.agg #[(.int .u32 I2),(.int .u32 (u32.wrap ec))]),(.int .i64 0)]),(some (.t [none,none])),[],[],[]⟩) (
   Q ⟨(.tuple #[(.agg #[(.int .u32 wv),(.int .u32 (u32.wrap ec))]),(.int .i64 0)]),(some (.t [none,none])),[],[],[]⟩))
theorem BA:Vc2 Un prog (aQ [(147,jI)]) [4] Tryz.f119 .leaf [] ik=(∀ea eb ec ed ee,∀Q,(ik.body ea eb ec ed ee Q)→Bz ea eb ec ed ee Q):=by kernel_rfl
theorem rZ:LV Un prog 119 ik:=verify Tryz.func119 aa (tb:= [(147,jI)]) ⟨Eg,trivial⟩ (by kernel_rfl) (BA.mpr fun ea eb ec ed ee Q h gv I8=>aG (fun c1=>(h 0 0 110 (by grind))) fun c1=>allEq<| ae (fun c2=>allEq<| av (h (u32.wrap (BitVec.ofInt u32.bits (u32.wrap (BitVec.ofInt u32.bits (u32.wrap (BitVec.ofInt u32.bits (u32.wrap ((u32.wrap ea:Int)*2 ^ 0)) ||| BitVec.ofInt u32.bits (u32.wrap ((u32.wrap ed:Int)*2 ^ 4))).toNat) ||| BitVec.ofInt u32.bits (u32.wrap ((u32.wrap eb:Int)*2 ^ 16))).toNat) ||| BitVec.ofInt u32.bits 256).toNat) (u32.wrap ec) 0 (by have hk:=Ent.CD.1 c1;have h1:=Ent.dC hk;have h2:=Ent.jo hk;simp only at h1 h2;rw [if_pos hk,if_pos hk,if_pos hk];refine⟨?_,cJ (x:=ec) (by omega),rfl⟩;have h3:=Ent.or0 hk;simp only at h3;rw [h3,Ent.or1 ⟨ea+16*ed,128*eb,by omega⟩];simp [Ent.w0,c2])) (congrArg (fun l=>Value.tuple (List.toArray l)) (ab (congrArg (fun l=>Value.agg (List.toArray l)) (ab rfl (ab (fu (by rfl)) rfl))) (ab rfl rfl))) rfl rfl) fun c2=>av (h (u32.wrap (BitVec.ofInt u32.bits (u32.wrap (BitVec.ofInt u32.bits (u32.wrap ((u32.wrap ea:Int)*2 ^ 0)) ||| BitVec.ofInt u32.bits (u32.wrap ((u32.wrap ed:Int)*2 ^ 4))).toNat) ||| BitVec.ofInt u32.bits (u32.wrap ((u32.wrap eb:Int)*2 ^ 16))).toNat) (u32.wrap ec) 0 (by have hk:=Ent.CD.1 c1;have h1:=Ent.dC hk;have h2:=Ent.jo hk;simp only at h1 h2;rw [if_pos hk,if_pos hk,if_pos hk];refine⟨?_,cJ (x:=ec) (by omega),rfl⟩;have h3:=Ent.or0 hk;simp only at h3;rw [h3];simp [Ent.w0,c2])) (congrArg (fun l=>Value.tuple (List.toArray l)) (ab (congrArg (fun l=>Value.agg (List.toArray l)) (ab rfl (ab (fu (by rfl)) rfl))) (ab rfl rfl))) rfl rfl)
theorem Ent.Fa {a b x y z:Int}(h:x=(if(parts a b).ok then(parts a b).w0 else 0)∧y=(if(parts a b).ok then(parts a b).w1 else 0)∧z=(if(parts a b).ok then 0 else 110))(c:(z !=0)=true∨(!(aK #[.int .u32 x,.int .u32 y] #[.int .u32 a,.int .u32 b]))=true):dec a b=free∧fk a b=110:=by
 obtain⟨rfl,rfl,rfl⟩:=h
 rw [eqW]at c
 cases hk:(parts a b).ok<;>simp [hk]at c
 ·simp [dec,fk,hk]
 ·have h2:¬((parts a b).w0=a∧(parts a b).w1=b):=by rcases c with c | c<;>simp [c]
  simp [dec,fk,hk,h2]
theorem Ent.CM {a b x y z:Int}(h:x=(if(parts a b).ok then(parts a b).w0 else 0)∧y=(if(parts a b).ok then(parts a b).w1 else 0)∧z=(if(parts a b).ok then 0 else 110))(c:(z !=0)=false∧(!(aK #[.int .u32 x,.int .u32 y] #[.int .u32 a,.int .u32 b]))=false):dec a b=parts a b∧fk a b=0:=by
 obtain⟨rfl,rfl,rfl⟩:=h
 rw [eqW]at c
 cases hk:(parts a b).ok<;>simp [hk]at c
 simp [dec,fk,hk,c]
def mO:Ctr Un:=⟨[.agg [.int .u32,.int .u32]],[],[],[],fun wa wb K=>(0≤(wa:Int)∧(wa:Int)<4294967296)∧(0≤(wb:Int)∧(wb:Int)<4294967296)∧K ⟨(.tuple #[(.agg #[(.int .i64 ((Ent.dec wa wb).typ)),(.int .i64 ((Ent.dec wa wb).owner)),(.int .i64 ((Ent.dec wa wb).refs)),(.int .i64 ((Ent.dec wa wb).state)),(.bool ((Ent.dec wa wb).aS))]),(.int .i64 (Ent.fk wa wb))]),(some (.t [none,none])),[],[],[]⟩⟩
def BC(wa:Int)(wb:Int)(Q:Ou Un→Prop):Prop:=
 ∀(gv:Nat),
 ∀(I8:Nat),
 (0≤(0:Int)∧(0:Int)<(2:Int))∧
 ∀JS:Int,JS=(i64.wrap (u32.wrap (BitVec.ofInt u32.bits ((wa:Int).fdiv (2 ^ 0)) &&& BitVec.ofInt u32.bits 7).toNat))→
 (0≤(0:Int)∧(0:Int)<(2:Int))∧
 ∀Li:Int,Li=(i64.wrap (u32.wrap (BitVec.ofInt u32.bits ((wa:Int).fdiv (2 ^ 4)) &&& BitVec.ofInt u32.bits 3).toNat))→
 (0≤(0:Int)∧(0:Int)<(2:Int))∧
 ∀Kh:Bool,Kh=((u32.wrap (BitVec.ofInt u32.bits ((wa:Int).fdiv (2 ^ 8)) &&& BitVec.ofInt u32.bits 1).toNat:Int)==1)→
 (0≤(0:Int)∧(0:Int)<(2:Int))∧
 ∀Lh:Int,Lh=(i64.wrap (u32.wrap (BitVec.ofInt u32.bits ((wa:Int).fdiv (2 ^ 16)) &&& BitVec.ofInt u32.bits 63).toNat))→
 (0≤(1:Int)∧(1:Int)<(2:Int))∧
 ∀JK:Int,JK=(i64.wrap (u32.wrap (BitVec.ofInt u32.bits wb &&& BitVec.ofInt u32.bits 63).toNat))→
 ∀(KU:Nat),
 ∀(x:Int)(y:Int)(z:Int),
 ((x=(if(Ent.mk JS Lh JK Li Kh).ok then(Ent.mk JS Lh JK Li Kh).w0 else 0)∧y=(if(Ent.mk JS Lh JK Li Kh).ok then(Ent.mk JS Lh JK Li Kh).w1 else 0)∧z=(if(Ent.mk JS Lh JK Li Kh).ok then 0 else 110)))→
 ∀(KT:Nat),
 ∃J:Bool→Prop,(
  split (z !=0) (
   J true) (
   J (!(aK #[(.int .u32 x),(.int .u32 y)] #[(.int .u32 wa),(.int .u32 wb)]))))∧∀(KR:Nat→Value)(KC:Bool),J KC→
 split KC (
  Q ⟨(.tuple #[(.agg #[(.int .i64 0),(.int .i64 0),(.int .i64 0),(.int .i64 0),(.bool false)]),(.int .i64 110)]),(some (.t [none,none])),[],[],[]⟩) (
  Q ⟨(.tuple #[(.agg #[(.int .i64 JS),(.int .i64 Lh),(.int .i64 JK),(.int .i64 Li),(.bool Kh)]),(.int .i64 0)]),(some (.t [none,none])),[],[],[]⟩)
theorem BD:Vc2 Un prog (aQ [(119,ik)]) [11,16,21,26,30] Tryz.f63 (.r' (.r' (.two (.r' (.two (.node [] (some ⟨[(43,(.one .bool))],[],upN 37 7,[]⟩) [] [] .leaf .leaf) .leaf)) .leaf))) [] mO=(∀wa wb,∀Q,(mO.body wa wb Q)→BC wa wb Q):=by kernel_rfl
theorem BB:LV Un prog 63 mO:=verify Tryz.func63 aa (tb:= [(119,ik)]) ⟨rZ,trivial⟩ (by kernel_rfl) (BD.mpr fun wa wb Q h=>by
 obtain⟨e1,e2,e3,e4,e5⟩:=Ent.parts_eq h.1 h.2.1
 obtain⟨I6,Ja,h⟩:=h
 exact fun gv I8=>af (by omega) fun s1 JS KN=>af ‹_› fun s2 Li PO=>af ‹_› fun s3 Kh PM=>af ‹_› fun s4 Lh PL=>af (by omega) fun s5 JK PJ KU x y z f6=>(by rw [e1]at KN;rw [e2]at PL;rw [e3]at PJ;rw [e4]at PO;rw [e5]at PM;subst KN PL PJ PO PM;exact fun KT=>bq (((z:Int) !=0) || (!(aK #[(.int .u32 x),(.int .u32 y)] #[(.int .u32 wa),(.int .u32 wb)]))) (ae (fun c1=>(by grind)) fun c1=>(by grind))<| aM (fun c2=>(by have hd:=Ent.Fa (a:=wa) (b:=wb) f6 c2;exact av h (by rw [hd.1,hd.2]<;>rfl) rfl rfl)) fun c2=>(by have hd:=Ent.CM (a:=wa) (b:=wb) f6 c2;exact av h (by rw [hd.1,hd.2]<;>rfl) rfl rfl)))
theorem puC {P:Program} {f:Nat} {args:Array Value} {w:World} {v:Value} {k:Option Kn}(h:∀X:Nat→Nat→Prop,Sat (U:=Un) [] X w→aw (U:=Un) [] fr0 []→Calls P f args w (bn (U:=Un) [] [] X w (fun o=>o=⟨v,k,[],[],[]⟩)))(hk:jv k v= .returned v:=by rfl):Calls P f args w fun e w'=>∃u,e= .returned u∧u=v∧Pu w w':=by
 refine(h (fun _ _=>False) ⟨fun i r h=>by simp [nth]at h,fun _ _ _ _ _ _ h=>h.elim⟩ (fun _ _ h=>by cases h)).mono ?_
 rintro e w' ⟨out,rs',X',rfl,rfl,_,hp⟩
 exact⟨_,hk,rfl,hp.ch.mono fun k ⟨j,hj,_⟩=>by cases hj⟩
theorem E8 {w:World}(ea eb ec ed:Int)(ee:Bool):
 Calls prog 119 #[(.agg #[(.int .i64 ea),(.int .i64 eb),(.int .i64 ec),(.int .i64 ed),(.bool ee)])] w fun e w'=>∃v,e= .returned v∧v= .tuple #[(.agg #[(.int .u32 (if(Ent.mk ea eb ec ed ee).ok then(Ent.mk ea eb ec ed ee).w0 else 0)),(.int .u32 (if(Ent.mk ea eb ec ed ee).ok then(Ent.mk ea eb ec ed ee).w1 else 0))]),(.int .i64 (if(Ent.mk ea eb ec ed ee).ok then 0 else 110))]∧Pu w w':=
 puC fun X=>rZ ea eb ec ed ee (fun o=>o=_) (fun x y z h=>by obtain⟨rfl,rfl,rfl⟩:=h;rfl) X w
theorem E9 {w:World}(wa wb:Int)(ha:0≤wa∧wa<4294967296)(hb:0≤wb∧wb<4294967296):
 Calls prog 63 #[(.agg #[(.int .u32 wa),(.int .u32 wb)])] w fun e w'=>∃v,e= .returned v∧v=(.tuple #[(.agg #[(.int .i64 ((Ent.dec wa wb).typ)),(.int .i64 ((Ent.dec wa wb).owner)),(.int .i64 ((Ent.dec wa wb).refs)),(.int .i64 ((Ent.dec wa wb).state)),(.bool ((Ent.dec wa wb).aS))]),(.int .i64 (Ent.fk wa wb))])∧Pu w w':=
 puC fun X=>BB wa wb (fun o=>o=_) ⟨ha,hb,rfl⟩ X w
end
section
set_option maxRecDepth 100000
end
section
set_option maxRecDepth 100000
def py(ma:Bool)(mb:Int)(mc:Bool)(md:Bool)(R:ax)(w:World):Prop:=
 ∀(gv:Nat)(wv:World),gv=w.heap.size→wv=w.alloc (.cells #[(.bool ma),(.int .i64 mb),(.bool mc),(.bool md)] 49)→
 ∃J:Bool→World→Prop,(
  ∃x9:Int,wv.cell? (((Addr.mk gv 0 none).add 0).add 1)=some (.int .i64 x9)∧
  split (decide ((x9:Int)<0)) (
   J true wv) (
   ∃JU:Int,wv.cell? (((Addr.mk gv 0 none).add 0).add 1)=some (.int .i64 JU)∧
   J (decide ((JU:Int)>63)) wv))∧∀(Ji:Nat→Value)(Li:Bool),∀I2,J Li I2→
 split Li (
  R (.tuple #[(.int .u32 0),(.int .i64 4)]) I2) (
  ∃J1:Bool→World→Prop,(
   ∃La:Bool,I2.cell? ((Addr.mk gv 0 none).add 3)=some (.bool La)∧
   split La (
    ∃Jo:Bool,I2.cell? (((Addr.mk gv 0 none).add 0).add 0)=some (.bool Jo)∧
    J1 (!Jo) I2) (
    J1 false I2))∧∀(KH:Nat→Value)(ND:Bool),∀I3,J1 ND I3→
  split ND (
   R (.tuple #[(.int .u32 0),(.int .i64 1)]) I3) (
   ∃M0:Int,I3.cell? (((Addr.mk gv 0 none).add 0).add 1)=some (.int .i64 M0)∧
   ∀I5:Int,I5=(u32.wrap (BitVec.ofInt u32.bits (u32.wrap ((u32.wrap M0:Int)*2 ^ 8)) ||| BitVec.ofInt u32.bits 1).toNat)→
   ∃RL:Bool,I3.cell? (((Addr.mk gv 0 none).add 0).add 0)=some (.bool RL)∧
   ∃JX:Bool,I3.cell? ((Addr.mk gv 0 none).add 2)=some (.bool JX)∧
   ∃JM:Bool,I3.cell? ((Addr.mk gv 0 none).add 3)=some (.bool JM)∧
   ∀(KT:Nat)(Jh:World),KT=I3.heap.size→Jh=I3.alloc (.cells #[(.bool RL),(.int .u32 2),(.bool JX),(.int .u32 4),(.bool JM),(.int .u32 8)] 230)→
   ∃I:Nat→Int→Int→World→Prop,(∃m,I m I5 0 Jh)∧∀(m:Nat)(KR:Nat→Value)(Ju:Int)(KC:Int),∀Kf,I m Ju KC Kf→
   split (decide ((KC:Int)<((3:Nat):Int))) (
    (0≤(KC:Int)∧(KC:Int)<((3:Nat):Int))∧
    ∃Q9:Bool,∃Q8:Int,(Kf.cell? (((Addr.mk KT 0 none).add (Int.toNat KC*2)).add 0)=some (.bool Q9)∧Kf.cell? (((Addr.mk KT 0 none).add (Int.toNat KC*2)).add 1)=some (.int .u32 Q8))∧
    ∀(Nt:Nat)(KA:World),Nt=Kf.heap.size→KA=Kf.alloc (.cells (#[(.bool false),(.int .u32 0)]) 230)→
    aI KA (Addr.mk Nt 0 none) [(.bool Q9),(.int .u32 Q8)] fun KI=>
    ∃x48:Bool,KI.cell? ((Addr.mk Nt 0 none).add 0)=some (.bool x48)∧
    split x48 (
     ∃x51:Int,KI.cell? ((Addr.mk Nt 0 none).add 1)=some (.int .u32 x51)∧
     ∀Ni:Int,Ni=(u32.wrap (BitVec.ofInt u32.bits Ju ||| BitVec.ofInt u32.bits x51).toNat)→
     ∃m1,m1<m∧I m1 Ni (i64.wrap (KC+1)) KI) (
     ∃m1,m1<m∧I m1 Ju (i64.wrap (KC+1)) KI)) (
    R (.tuple #[(.int .u32 Ju),(.int .i64 0)]) Kf)))
def xQ:Ann:=(.node none .leaf (.node none (.node none (.node (some ⟨[(16,.one (.bool))],[7,8,9,10,11,12,13,14,15,16]⟩) .leaf .leaf) .leaf) (.node none (.node none (.node (some ⟨[(24,.one (.bool))],[17,18,19,20,21,22,23,24]⟩) .leaf .leaf) .leaf) (.node none .leaf (.node none (.node none .leaf (.node none (.node (some ⟨[(4,.one (.int .u32)),(43,.one (.int .i64))],[4,6,43,44,45,46,47,48,49,50,51,52,53]⟩) .leaf .leaf) .leaf)) .leaf)))))
theorem WSecond_eq(ma:Bool)(mb:Int)(mc:Bool)(md:Bool)(R:ax)(w:World):py ma mb mc md R w=vcF prog aJ [4] Tryz.f118 xQ [(.agg #[(.bool ma),(.int .i64 mb),(.bool mc),(.bool md)])] R none w:=by kernel_rfl
theorem qp(ma:Bool)(mb:Int)(mc:Bool)(md:Bool) {R:ax} {w:World}(h:py ma mb mc md R w):Calls prog 118 #[(.agg #[(.bool ma),(.int .i64 mb),(.bool mc),(.bool md)])] w fun e w'=>∃v,e= .returned v∧R v w':=
 aj Tryz.func118 ar aa ((WSecond_eq ma mb mc md R w).mp h)
end
end Go.Proofs.YtfgpafjlcgaimaaGreatDoor
namespace Go.Proofs.YtfgpafjlcgaimaaGreatDoor
open Go.Proofs.Tryz (prog)
open Go Go.RowKit V
open Go.IntKind (i64 u32 u64)
section
set_option maxRecDepth 10000
set_option maxHeartbeats 1000000
theorem Et {w:World}(ma:Bool)(mb:Int)(mc:Bool)(md:Bool):
 Calls prog 118 #[(.agg #[(.bool ma),(.int .i64 mb),(.bool mc),(.bool md)])] w fun e w'=>∃v,e= .returned v∧v= .tuple #[(.int .u32 ((Mp.mk ma mb mc md).word)),(.int .i64 ((Mp.mk ma mb mc md).err))]∧Pu w w':=by
 refine qp _ _ _ _ ?_
 have hp:=Ch.refl (fun _=>False) w
 refine mkd fun gv wv I7=>?_
 have I0:=I7.blk
 refine⟨fun x w'=>x=((decide ((mb:Int)<0)) || (decide ((mb:Int)>63)))∧Pu wv w',?_,?_⟩
 ·refine⟨_,I0.at2 rfl,?_⟩
  refine ae (fun c1=>?_) (fun c1=>?_)
  ·exact⟨by simp only [c1,Bool.true_and,Bool.and_true,Bool.false_and,Bool.and_false,Bool.true_or,Bool.or_true,Bool.false_or,Bool.or_false,Bool.not_true,Bool.not_false,if_true,if_false,Bool.false_eq_true],Ch.refl _ _⟩
  ·refine⟨_,I0.at2 rfl,?_⟩
   exact⟨by simp only [c1,Bool.true_and,Bool.and_true,Bool.false_and,Bool.and_false,Bool.true_or,Bool.or_true,Bool.false_or,Bool.or_false,Bool.not_true,Bool.not_false,if_true,if_false,Bool.false_eq_true],Ch.refl _ _⟩
 rintro _ _ I2 ⟨rfl,I4⟩
 refine aM (fun c2=>?_) (fun c2=>?_)
 ·have hp:=Ch.pu (Ch.made hp I7) I4
  exact⟨congrArg Value.tuple (qo (congrArg (Value.int .u32) (by grind [Mp.word,Mp.err,Mp.bits])) (congrArg (Value.int .i64) (by grind [Mp.word,Mp.err,Mp.bits]))),hp⟩
 ·refine⟨fun x w'=>x=(md && (!ma))∧Pu I2 w',?_,?_⟩
  ·have I0:=Pu.blk I4 I0
   refine⟨_,I0.at rfl,?_⟩
   refine ae (fun c3=>?_) (fun c3=>?_)
   ·refine⟨_,I0.at2 rfl,?_⟩
    exact⟨by simp only [c3,Bool.true_and,Bool.and_true,Bool.false_and,Bool.and_false,Bool.true_or,Bool.or_true,Bool.false_or,Bool.or_false,Bool.not_true,Bool.not_false,if_true,if_false,Bool.false_eq_true],Ch.refl _ _⟩
   ·exact⟨by simp only [c3,Bool.true_and,Bool.and_true,Bool.false_and,Bool.and_false,Bool.true_or,Bool.or_true,Bool.false_or,Bool.or_false,Bool.not_true,Bool.not_false,if_true,if_false,Bool.false_eq_true],Ch.refl _ _⟩
  rintro _ _ I3 ⟨rfl,Jm⟩
  refine cP (fun c4=>?_) (fun c4=>?_)
  ·have hp:=Ch.pu (Ch.pu (Ch.made hp I7) I4) Jm
   exact⟨congrArg Value.tuple (qo (congrArg (Value.int .u32) (by grind [Mp.word,Mp.err,Mp.bits])) (congrArg (Value.int .i64) (by grind [Mp.word,Mp.err,Mp.bits]))),hp⟩
  ·have KF:0≤mb∧mb<64:=by grind
   have I0:=Pu.blk Jm (Pu.blk I4 I0)
   refine⟨_,I0.at2 rfl,?_⟩
   rintro _ rfl
   refine⟨_,I0.at2 rfl,⟨_,I0.at rfl,⟨_,I0.at rfl,?_⟩⟩⟩
   refine mkd fun KT Jh Oa=>?_
   have Jf:=Oa.blk
   have hp:=Ch.made (Ch.pu (Ch.pu (Ch.made hp I7) I4) Jm) Oa
   have I0:=Made.old Oa I0
   refine⟨fun mz Ju KC W=>Ch (fun _=>False) w W∧(∃T,Blk W gv #[(.bool ma),(.int .i64 mb),(.bool mc),(.bool md)] T)∧(∃T,Blk W KT #[(.bool ma),(.int .u32 2),(.bool mc),(.int .u32 4),(.bool md),(.int .u32 8)] T)∧((mz=3∧Ju=(256*mb+1)∧KC=0)∨(mz=2∧Ju=(256*mb+(1+(if ma then 2 else 0)))∧KC=1)∨(mz=1∧Ju=(256*mb+(1+(if ma then 2 else 0)+(if mc then 4 else 0)))∧KC=2)∨(mz=0∧Ju=(256*mb+(1+(if ma then 2 else 0)+(if mc then 4 else 0)+(if md then 8 else 0)))∧KC=3)),⟨_,hp,⟨_,I0⟩,⟨_,Jf⟩,.inl ⟨rfl,by exact Ci KF,rfl⟩⟩,?_⟩
   rintro _ _ Ju KC Kf ⟨hp,⟨_,I0⟩,⟨_,Jf⟩,hU⟩
   rcases hU with⟨rfl,rfl,rfl⟩ | ⟨rfl,rfl,rfl⟩ | ⟨rfl,rfl,rfl⟩ | ⟨rfl,rfl,rfl⟩
   ·refine jM ⟨by decide,⟨_,_,⟨Jf.at2 rfl,Jf.at2 rfl⟩,?_⟩⟩
    refine mkd fun Nt KA Jb=>?_
    have Kc:=Jb.lo hp
    have JC:=Jb.ne I0
    have ne_gv3_gv5:=Jb.ne Jf
    have JP:=Jb.blk
    refine bE JP (by simp) fun KI Jl=>?_
    have JP:Blk KI Nt #[(.bool ma),(.int .u32 2)] _:=Jl.blk
    refine⟨_,JP.at rfl,?_⟩
    refine ae (fun c5=>?_) (fun c5=>?_)
    ·refine⟨_,JP.at rfl,?_⟩
     rintro _ rfl
     have hp:=Ch.call (Ch.made hp Jb) Jl.ch (by exact fun k e=>.inr (e▸Kc))
     have I0:=Ch.blk Jl.ch (Made.old Jb I0) (JC)
     have Jf:=Ch.blk Jl.ch (Made.old Jb Jf) (ne_gv3_gv5)
     exact⟨2,by decide,hp,⟨_,I0⟩,⟨_,Jf⟩,.inr (.inl ⟨rfl,by(rw [xk 1 2 (by decide) (by omega) KF (a:=1) (by constructor<;>grind)];simp only [c2,c4,c5,if_true];done),rfl⟩)⟩
    ·have hp:=Ch.call (Ch.made hp Jb) Jl.ch (by exact fun k e=>.inr (e▸Kc))
     have I0:=Ch.blk Jl.ch (Made.old Jb I0) (JC)
     have Jf:=Ch.blk Jl.ch (Made.old Jb Jf) (ne_gv3_gv5)
     exact⟨2,by decide,hp,⟨_,I0⟩,⟨_,Jf⟩,.inr (.inl ⟨rfl,by(simp [c2,c4,c5];done),rfl⟩)⟩
   ·refine jM ⟨by decide,⟨_,_,⟨Jf.at2 rfl,Jf.at2 rfl⟩,?_⟩⟩
    refine mkd fun Nt KA Jb=>?_
    have Kc:=Jb.lo hp
    have JC:=Jb.ne I0
    have ne_gv3_gv5:=Jb.ne Jf
    have JP:=Jb.blk
    refine bE JP (by simp) fun KI Jl=>?_
    have JP:Blk KI Nt #[(.bool mc),(.int .u32 4)] _:=Jl.blk
    refine⟨_,JP.at rfl,?_⟩
    refine ae (fun c6=>?_) (fun c6=>?_)
    ·refine⟨_,JP.at rfl,?_⟩
     rintro _ rfl
     have hp:=Ch.call (Ch.made hp Jb) Jl.ch (by exact fun k e=>.inr (e▸Kc))
     have I0:=Ch.blk Jl.ch (Made.old Jb I0) (JC)
     have Jf:=Ch.blk Jl.ch (Made.old Jb Jf) (ne_gv3_gv5)
     exact⟨1,by decide,hp,⟨_,I0⟩,⟨_,Jf⟩,.inr (.inr (.inl ⟨rfl,by(rw [xk 2 4 (by decide) (by omega) KF (a:=(1+(if ma then 2 else 0))) (by constructor<;>grind)];simp only [c2,c4,c6,if_true];done),rfl⟩))⟩
    ·have hp:=Ch.call (Ch.made hp Jb) Jl.ch (by exact fun k e=>.inr (e▸Kc))
     have I0:=Ch.blk Jl.ch (Made.old Jb I0) (JC)
     have Jf:=Ch.blk Jl.ch (Made.old Jb Jf) (ne_gv3_gv5)
     exact⟨1,by decide,hp,⟨_,I0⟩,⟨_,Jf⟩,.inr (.inr (.inl ⟨rfl,by(simp [c2,c4,c6];done),rfl⟩))⟩
   ·refine jM ⟨by decide,⟨_,_,⟨Jf.at2 rfl,Jf.at2 rfl⟩,?_⟩⟩
    refine mkd fun Nt KA Jb=>?_
    have Kc:=Jb.lo hp
    have JC:=Jb.ne I0
    have ne_gv3_gv5:=Jb.ne Jf
    have JP:=Jb.blk
    refine bE JP (by simp) fun KI Jl=>?_
    have JP:Blk KI Nt #[(.bool md),(.int .u32 8)] _:=Jl.blk
    refine⟨_,JP.at rfl,?_⟩
    refine ae (fun c7=>?_) (fun c7=>?_)
    ·refine⟨_,JP.at rfl,?_⟩
     rintro _ rfl
     have hp:=Ch.call (Ch.made hp Jb) Jl.ch (by exact fun k e=>.inr (e▸Kc))
     have I0:=Ch.blk Jl.ch (Made.old Jb I0) (JC)
     have Jf:=Ch.blk Jl.ch (Made.old Jb Jf) (ne_gv3_gv5)
     exact⟨0,by decide,hp,⟨_,I0⟩,⟨_,Jf⟩,.inr (.inr (.inr (⟨rfl,by(rw [xk 3 8 (by decide) (by omega) KF (a:=(1+(if ma then 2 else 0)+(if mc then 4 else 0))) (by constructor<;>grind)];simp only [c2,c4,c7,if_true];done),rfl⟩)))⟩
    ·have hp:=Ch.call (Ch.made hp Jb) Jl.ch (by exact fun k e=>.inr (e▸Kc))
     have I0:=Ch.blk Jl.ch (Made.old Jb I0) (JC)
     have Jf:=Ch.blk Jl.ch (Made.old Jb Jf) (ne_gv3_gv5)
     exact⟨0,by decide,hp,⟨_,I0⟩,⟨_,Jf⟩,.inr (.inr (.inr (⟨rfl,by(simp [c2,c4,c7];done),rfl⟩)))⟩
   ·refine iB ?_
    exact⟨congrArg Value.tuple (qo (congrArg (Value.int .u32) (by grind [Mp.word,Mp.err,Mp.bits])) (congrArg (Value.int .i64) (by grind [Mp.word,Mp.err,Mp.bits]))),hp⟩
end
end Go.Proofs.YtfgpafjlcgaimaaGreatDoor
namespace Go.Proofs.YtfgpafjlcgaimaaGreatDoor
open Go.Proofs.Tryz (prog)
open Go Go.RowKit V
open Go.IntKind (i64 u32 u64)
section
set_option maxRecDepth 100000
set_option maxHeartbeats 1000000
attribute [local irreducible] Vc2 VcD
def jA:Ctr Un:=⟨[.one (.int .i64)],[],[],[],fun p K=>K ⟨(.tuple #[(.int .u32 (fj p)),(.int .i64 (dj p))]),(some (.t [none,none])),[],[],[]⟩⟩
def Dk(p:Int)(Q:Ou Un→Prop):Prop:=
 ∃J:Bool→Prop,(
  split (decide (p<0)) (
   J true) (
   J (decide (p≥64))))∧∀(JW:Nat→Value)(x9:Bool),J x9→
 split x9 (
  Q ⟨(.tuple #[(.int .u32 0),(.int .i64 4)]),(some (.t [none,none])),[],[],[]⟩) (
  Q ⟨(.tuple #[(.int .u32 (u32.wrap (BitVec.ofInt u32.bits (u32.wrap ((u32.wrap p)*2 ^ 8)) ||| BitVec.ofInt u32.bits 1).toNat)),(.int .i64 0)]),(some (.t [none,none])),[],[],[]⟩)
theorem Dl:Vc2 Un prog (aQ []) [] Tryz.f146 (.r' (.two (.two (.node [] (some ⟨[(9,(.one .bool))],[],upN 4 6,[]⟩) [] [] .leaf .leaf) .leaf) .leaf)) [] jA=(∀p,∀Q,(jA.body p Q)→Dk p Q):=by kernel_rfl
theorem Dj:LV Un prog 146 jA:=verify Tryz.func146 aa (tb:= []) trivial (by kernel_rfl) (Dl.mpr fun p Q h=>bq ((decide ((p:Int)<0)) || (decide ((p:Int)≥64))) (ae (fun c1=>(by grind)) fun c1=>(by grind))<| aM (fun c2=>av h (by(have h:¬(0≤p∧p<64):=by grind);simp [fj,dj,h]) rfl rfl) fun c2=>av h (by(have h:0≤p∧p<64:=by grind);rw [Ci h];simp [fj,dj,h]) rfl rfl)
def dH:Ctr Un:=⟨[.one (.int .u32),.one (.int .i64),.one (.fn 146)],[],[],[],fun v x K=>∀(ra:Int)(re:Int),((ra=(if v≠0∧dj x=0∧fj x=v then x else 0)∧re=(if v=0 then 92 else if dj x=0∧fj x=v then 0 else 90)))→K ⟨(.tuple #[(.int .i64 ra),(.int .i64 re)]),(some (.t [none,none])),[],[],[]⟩⟩
def qs(v:Int)(x:Int)(Q:Ou Un→Prop):Prop:=
 split (v==0) (
  Q ⟨(.tuple #[(.int .i64 0),(.int .i64 92)]),(some (.t [none,none])),[],[],[]⟩) (
  ∃J:Bool→Prop,(
   split ((dj x) !=0) (
    J true) (
    J ((fj x) !=v)))∧∀(JW:Nat→Value)(Lh:Bool),J Lh→
  split Lh (
   Q ⟨(.tuple #[(.int .i64 0),(.int .i64 90)]),(some (.t [none,none])),[],[],[]⟩) (
   Q ⟨(.tuple #[(.int .i64 x),(.int .i64 0)]),(some (.t [none,none])),[],[],[]⟩))
theorem qt:Vc2 Un prog (aQ [(146,jA)]) [] Tryz.f145 (.r' (.r' (.r' (.two (.r' (.two (.node [] (some ⟨[(26,(.one .bool))],[],upN 20 7,[]⟩) [] [] .leaf .leaf) .leaf)) .leaf)))) [] dH=(∀v x,∀Q,(dH.body v x Q)→qs v x Q):=by kernel_rfl
theorem qq:LV Un prog 145 dH:=verify Tryz.func145 aa (tb:= [(146,jA)]) ⟨Dj,trivial⟩ (by kernel_rfl) (qt.mpr fun v x Q h=>by
 try skip
 exact aE (fun c1=>(h 0 92 (by omega))) fun c1=>bq ((((dj x):Int) !=0) || (((fj x):Int) !=v)) (ae (fun c2=>(by grind)) fun c2=>(by grind))<| aM (fun c3=>(h 0 90 (by grind))) fun c3=>(h x 0 (by grind)))
def cv:Ctr Un:=⟨[.one (.int .u32)],[],[],[],fun v K=>(0≤(v:Int)∧(v:Int)<4294967296)∧K ⟨(.tuple #[(.int .i64 (aL v)),(.int .i64 (iZ v))]),(some (.t [none,none])),[],[],[]⟩⟩
def qu(v:Int)(Q:Ou Un→Prop):Prop:=
 ∀(ra:Int)(re:Int),
 ((ra=(if v≠0∧dj (i64.wrap (v.fdiv (2 ^ 8)))=0∧fj (i64.wrap (v.fdiv (2 ^ 8)))=v then(i64.wrap (v.fdiv (2 ^ 8)))else 0)∧re=(if v=0 then 92 else if dj (i64.wrap (v.fdiv (2 ^ 8)))=0∧fj (i64.wrap (v.fdiv (2 ^ 8)))=v then 0 else 90)))→
 Q ⟨(.tuple #[(.int .i64 ra),(.int .i64 re)]),(some (.t [none,none])),[],[],[]⟩
theorem qv:Vc2 Un prog (aQ [(145,dH)]) [] Tryz.f114 .leaf [] cv=(∀v,∀Q,(cv.body v Q)→qu v Q):=by kernel_rfl
theorem kg:LV Un prog 114 cv:=verify Tryz.func114 aa (tb:= [(145,dH)]) ⟨qq,trivial⟩ (by kernel_rfl) (qv.mpr fun v Q h=>by
 obtain⟨I6,h⟩:=h
 exact fun ra re f1=>(by(have e0:i64.wrap ((v:Int).fdiv (2 ^ 8))=v / 256:=by rw [ka,ak (by omega)];rfl);rw [e0]at f1;(have h1:(dj (v / 256)=0∧fj (v / 256)=v)↔zU v=true:=(by simp only [dj,fj,zU,decide_eq_true_eq];constructor<;>intro h<;>grind));(have h2:v=0→zU v=false:=by intro h;subst h;decide);exact av h (by simp only [h1]at f1;rw [f1.1,f1.2];simp only [aL,iZ]<;>grind) rfl rfl))
def g8:Ctr Un:=⟨[.agg [.bool,.int .i64,.bool,.bool]],[],[],[],fun ma mb mc md K=>K ⟨(.tuple #[(.int .u32 ((Mp.mk ma mb mc md).word)),(.int .i64 ((Mp.mk ma mb mc md).err))]),(some (.t [none,none])),[],[],[]⟩⟩
theorem rR:LV Un prog 118 g8:=by
 show ∀(ma:Bool)(mb:Int)(mc:Bool)(md:Bool),∀Q:Ou Un→Prop,(Q ⟨(.tuple #[(.int .u32 ((Mp.mk ma mb mc md).word)),(.int .i64 ((Mp.mk ma mb mc md).err))]),(some (.t [none,none])),[],[],[]⟩)→∀(X:Nat→Nat→Prop)(w:World),Sat (U:=Un) [] X w→aw (U:=Un) [] fr0 []→Calls prog 118 #[(.agg #[(.bool ma),(.int .i64 mb),(.bool mc),(.bool md)])] w (bn (U:=Un) [] [] X w Q)
 intro ma mb mc md Q hQ X w hs hl
 refine(Et ma mb mc md).mono ?_
 rintro e w' ⟨u,rfl,rfl,q⟩
 exact bn.pu hs q hQ (KnO.tup _ (by simp))
def cj:Ctr Un:=⟨[.one (.int .u32),.agg [.bool,.int .i64,.bool,.bool],.one (.fn 118)],[],[],[],fun v ma mb mc md K=>∀(ra:Bool)(rb:Int)(rc:Bool)(rd:Bool)(re:Int),((Mp.mk ra rb rc rd=(if v≠0∧(Mp.mk ma mb mc md).err=0∧(Mp.mk ma mb mc md).word=v then(Mp.mk ma mb mc md)else Mp.nil)∧re=(if v=0 then 92 else if(Mp.mk ma mb mc md).err=0∧(Mp.mk ma mb mc md).word=v then 0 else 90)))→K ⟨(.tuple #[(.agg #[(.bool ra),(.int .i64 rb),(.bool rc),(.bool rd)]),(.int .i64 re)]),(some (.t [none,none])),[],[],[]⟩⟩
def kN(v:Int)(ma:Bool)(mb:Int)(mc:Bool)(md:Bool)(Q:Ou Un→Prop):Prop:=
 ∀(gv:Nat),
 ∀(I8:Nat),
 ∀(KU:Nat),
 split (v==0) (
  Q ⟨(.tuple #[(.agg #[(.bool false),(.int .i64 0),(.bool false),(.bool false)]),(.int .i64 92)]),(some (.t [none,none])),[],[],[]⟩) (
  ∃J:Bool→Prop,(
   split ((Mp.mk ma mb mc md).err !=0) (
    J true) (
    J ((Mp.mk ma mb mc md).word !=v)))∧∀(Nh:Nat→Value)(Lh:Bool),J Lh→
  split Lh (
   Q ⟨(.tuple #[(.agg #[(.bool false),(.int .i64 0),(.bool false),(.bool false)]),(.int .i64 90)]),(some (.t [none,none])),[],[],[]⟩) (
   Q ⟨(.tuple #[(.agg #[(.bool ma),(.int .i64 mb),(.bool mc),(.bool md)]),(.int .i64 0)]),(some (.t [none,none])),[],[],[]⟩))
theorem kO:Vc2 Un prog (aQ [(118,g8)]) [] Tryz.f117 (.r' (.r' (.r' (.two (.r' (.two (.node [] (some ⟨[(26,(.one .bool))],[],upN 20 7,[]⟩) [] [] .leaf .leaf) .leaf)) .leaf)))) [] cj=(∀v ma mb mc md,∀Q,(cj.body v ma mb mc md Q)→kN v ma mb mc md Q):=by kernel_rfl
theorem kM:LV Un prog 117 cj:=verify Tryz.func117 aa (tb:= [(118,g8)]) ⟨rR,trivial⟩ (by kernel_rfl) (kO.mpr fun v ma mb mc md Q h gv I8 KU=>aE (fun c1=>(h false 0 false false 92 (by(grind)))) fun c1=>bq ((((Mp.mk ma mb mc md).err:Int) !=0) || (((Mp.mk ma mb mc md).word:Int) !=v)) (ae (fun c2=>(by grind)) fun c2=>(by grind))<| aM (fun c3=>(h false 0 false false 90 (by(grind)))) fun c3=>(h ma mb mc md 0 (by(grind))))
def bD:Ctr Un:=⟨[.one (.int .u32)],[],[],[],fun v K=>(0≤(v:Int)∧(v:Int)<4294967296)∧K ⟨(.tuple #[(.agg #[(.bool ((bo v).aO)),(.int .i64 ((bo v).ah)),(.bool ((bo v).write)),(.bool ((bo v).exec))]),(.int .i64 (gi v))]),(some (.t [none,none])),[],[],[]⟩⟩
def pz(v:Int)(Q:Ou Un→Prop):Prop:=
 ∀(gv:Nat),
 ∀x7:Bool,x7=((u32.wrap (BitVec.ofInt u32.bits v &&& BitVec.ofInt u32.bits 2).toNat:Int) !=0)→
 ∀Jz:Int,Jz=(i64.wrap ((v:Int).fdiv (2 ^ 8)))→
 ∀JU:Bool,JU=((u32.wrap (BitVec.ofInt u32.bits v &&& BitVec.ofInt u32.bits 4).toNat:Int) !=0)→
 ∀Kj:Bool,Kj=((u32.wrap (BitVec.ofInt u32.bits v &&& BitVec.ofInt u32.bits 8).toNat:Int) !=0)→
 ∀(ra:Bool)(rb:Int)(rc:Bool)(rd:Bool)(re:Int),
 ((Mp.mk ra rb rc rd=(if v≠0∧(Mp.mk x7 Jz JU Kj).err=0∧(Mp.mk x7 Jz JU Kj).word=v then(Mp.mk x7 Jz JU Kj)else Mp.nil)∧re=(if v=0 then 92 else if(Mp.mk x7 Jz JU Kj).err=0∧(Mp.mk x7 Jz JU Kj).word=v then 0 else 90)))→
 Q ⟨(.tuple #[(.agg #[(.bool ra),(.int .i64 rb),(.bool rc),(.bool rd)]),(.int .i64 re)]),(some (.t [none,none])),[],[],[]⟩
theorem pA:Vc2 Un prog (aQ [(117,cj)]) [7,10,14,17] Tryz.f59 .leaf [] bD=(∀v,∀Q,(bD.body v Q)→pz v Q):=by kernel_rfl
theorem fP:LV Un prog 59 bD:=verify Tryz.func59 aa (tb:= [(117,cj)]) ⟨kM,trivial⟩ (by kernel_rfl) (pA.mpr fun v Q h=>by
 obtain⟨I6,h⟩:=h
 exact fun gv x7 Tx Jz PQ JU KM Kj PN ra rb rc rd re f1=>(by(have e0:i64.wrap ((v:Int).fdiv (2 ^ 8))=v / 256:=by rw [ka,ak (by omega)];rfl);(rw [dz 1 2 (by decide) (by omega) I6]at Tx);rw [e0]at PQ;(rw [dz 2 4 (by decide) (by omega) I6]at KM);(rw [dz 3 8 (by decide) (by omega) I6]at PN);(have hg:Mp.mk x7 Jz JU Kj=Mp.yX v:=by rw [Tx,PQ,KM,PN];rfl);rw [hg]at f1;exact av h (by(have hm:bo v=Mp.mk ra rb rc rd∧gi v=re:=by grind [bo,gi,sB]);rw [hm.1,hm.2]) rfl rfl))
def jH:Ctr Un:=⟨[.enc 6],[],[],[],fun f K=>K ⟨(.int .u32 (File.flags f)),none,[],[],[]⟩⟩
def Ee(f:Fl)(Q:Ou Un→Prop):Prop:=
 ∀(gv:Nat),
 ∀(s:Fl),s=(Fl.norm f)→
 Fl.Ok s→
 split (Fl.z s) (
  Q ⟨(.int .u32 1),none,[],[],[]⟩) (
  ∀wv:Int,wv=0→
  split (Fl.n s) (
   ∀I2:Int,I2=(u32.wrap (BitVec.ofInt u32.bits wv ||| BitVec.ofInt u32.bits 2).toNat)→
   split (Fl.l s) (
    ∀I3:Int,I3=(u32.wrap (BitVec.ofInt u32.bits I2 ||| BitVec.ofInt u32.bits 4).toNat)→
    Q ⟨(.int .u32 I3),none,[],[],[]⟩) (
    Q ⟨(.int .u32 I2),none,[],[],[]⟩)) (
   split (Fl.l s) (
    ∀I2:Int,I2=(u32.wrap (BitVec.ofInt u32.bits wv ||| BitVec.ofInt u32.bits 4).toNat)→
    Q ⟨(.int .u32 I2),none,[],[],[]⟩) (
    Q ⟨(.int .u32 wv),none,[],[],[]⟩)))
theorem Ef:Vc2 Un prog (aQ []) [3] Tryz.f161 .leaf [] jH=(∀(f:Fl),∀Q,(jH.body f Q)→Ee f Q):=by kernel_rfl
theorem Ed:LV Un prog 161 jH:=verify Tryz.func161 aa (tb:= []) trivial (by kernel_rfl) (Ef.mpr fun f Q h gv s MB f1=>ae (fun c1=>eo h (by subst_vars;simp only [Fl.norm]at *;(simp [File.flags, *];done))) fun c1 wv h_wv=>ae (fun c2 I2 Ty=>ae (fun c3 I3 h_wv2=>eo h (by subst_vars;simp only [Fl.norm]at *;(simp only [File.flags, *];rfl))) fun c3=>eo h (by subst_vars;simp only [Fl.norm]at *;(simp only [File.flags, *];rfl))) fun c2=>ae (fun c4 I2 Ty=>eo h (by subst_vars;simp only [Fl.norm]at *;(simp only [File.flags, *];rfl))) fun c4=>eo h (by subst_vars;simp only [Fl.norm]at *;(simp [File.flags, *];done)))
def fX:Ctr Un:=⟨[.enc 6,.one (.int .u32)],[],[],[],fun f w K=>Fl.Ok f∧(0≤(w:Int)∧(w:Int)<4294967296)∧K ⟨(.tuple #[(.agg ⟨Fl.cells (File.dN f w)⟩),(.int .i64 (File.eN w))]),(some (.t [none,none])),[],[],[]⟩⟩
def yg(f:Fl)(w:Int)(Q:Ou Un→Prop):Prop:=
 ∀(gv:Nat),
 ∀(s:Fl),s=(Fl.norm f)→
 Fl.Ok s→
 ∀(I8:Nat),
 ∀(s1:Fl),s1=Fl.zero→
 Fl.Ok s1→
 ∀x8:Bool,x8=((u32.wrap (BitVec.ofInt u32.bits w &&& BitVec.ofInt u32.bits 1).toNat:Int) !=0)→
 ∀JS:Bool,JS=((u32.wrap (BitVec.ofInt u32.bits w &&& BitVec.ofInt u32.bits 2).toNat:Int) !=0)→
 ∀JU:Bool,JU=((u32.wrap (BitVec.ofInt u32.bits w &&& BitVec.ofInt u32.bits 4).toNat:Int) !=0)→
 True∧
 ∀(s2:Fl),s2=({s with z:=x8}:Fl)→
 Fl.Ok s2→
 True∧
 ∀(s3:Fl),s3=({s2 with n:=JS}:Fl)→
 Fl.Ok s3→
 True∧
 ∀(s4:Fl),s4=({s3 with l:=JU}:Fl)→
 Fl.Ok s4→
 True∧
 split ((File.flags (Fl.norm s4)) !=w) (
  True∧
  ∀(s5:Fl),s5=Fl.zero→
  Fl.Ok s5→
  True∧
  Q ⟨(.tuple #[(.agg ⟨Fl.cells s5⟩),(.int .i64 80)]),(some (.t [none,none])),[],[],[]⟩) (
  True∧
  True∧
  ∀(s5:Fl),s5=(Fl.norm s4)→
  Fl.Ok s5→
  True∧
  Q ⟨(.tuple #[(.agg ⟨Fl.cells s5⟩),(.int .i64 0)]),(some (.t [none,none])),[],[],[]⟩)
theorem yh:Vc2 Un prog (aQ [(161,jH)]) [8,11,14] Tryz.f154 .leaf [] fX=(∀(f:Fl) w,∀Q,(fX.body f w Q)→yg f w Q):=by kernel_rfl
theorem yf:LV Un prog 154 fX:=verify Tryz.func154 aa (tb:= [(161,jH)]) ⟨Ed,trivial⟩ (by kernel_rfl) (yh.mpr fun f w Q h=>by
 obtain⟨I6,Ja,h⟩:=h
 exact fun gv s MB f1 I8 s1 Kd f2 x8 Ow JS KN JU KM=>af trivial fun _ s2 LB f4=>af trivial fun _ s3 Kt f6=>af trivial fun _ s4 Kz f8=>af trivial fun _=>aG (fun c1=>af trivial fun _ s5 K5 f11=>af trivial fun _=>(by(have e4:Fl.norm s4= {f with z:=x8,n:=JS,l:=JU}:=by rw [Fl.norm_eq (show Fl.Ok s4 by assumption),Kz,Kt,LB,MB,Fl.norm_eq I6]);(rw [dz 0 1 (by decide) (by omega) Ja]at Ow);(rw [dz 1 2 (by decide) (by omega) Ja]at KN);(rw [dz 2 4 (by decide) (by omega) Ja]at KM);have hi:=File.uN Ja;(have h0:File.fi w=false:=(by rw [e4,Ow,KN,KM]at c1;simp only [File.flags]at c1;rw [hi]at c1;simpa using c1));exact av h (congrArg (fun l=>Value.tuple (List.toArray l)) (ab (congrArg (fun s:Fl=>Value.agg ⟨Fl.cells s⟩) (by rw [File.uM h0,K5])) (ab (aW (by rw [File.uO h0])) rfl))) rfl rfl)) fun c1=>af trivial fun _=>af trivial fun _ s5 K5 f15=>af trivial fun _=>(by(have e4:Fl.norm s4= {f with z:=x8,n:=JS,l:=JU}:=by rw [Fl.norm_eq (show Fl.Ok s4 by assumption),Kz,Kt,LB,MB,Fl.norm_eq I6]);(rw [dz 0 1 (by decide) (by omega) Ja]at Ow);(rw [dz 1 2 (by decide) (by omega) Ja]at KN);(rw [dz 2 4 (by decide) (by omega) Ja]at KM);have hi:=File.uN Ja;(have h0:File.fi w=true:=(by rw [e4,Ow,KN,KM]at c1;simp only [File.flags]at c1;rw [hi]at c1;simpa using c1));have h2:=File.z6 h0;exact av h (congrArg (fun l=>Value.tuple (List.toArray l)) (ab (congrArg (fun s:Fl=>Value.agg ⟨Fl.cells s⟩) (by rw [File.xz h0,K5,e4,Ow,KN,KM,h2.1,h2.2.1,h2.2.2])) (ab (aW (by rw [File.xA h0])) rfl))) rfl rfl))
def j4:Ctr Un:=⟨[.one (.sl 0)],[],[.lst 1 false 22],[],fun A c l K=>((∀x∈l,0≤x.v∧x.v<4294967296))∧K ⟨(.tuple #[(.agg ⟨Fl.cells (File.unpack l)⟩),(.int .i64 (File.ez l))]),(some (.t [none,none])),[],[],[]⟩⟩
def Bx(A:Option Addr)(c:Nat)(l:List U32)(Q:Ou Un→Prop):Prop:=
 ∀(gv:Nat),
 ∀(s:Fl),s=Fl.zero→
 Fl.Ok s→
 split ((l.length:Int) !=17) (
  True∧
  ∀(s1:Fl),s1=Fl.zero→
  Fl.Ok s1→
  True∧
  Q ⟨(.tuple #[(.agg ⟨Fl.cells s1⟩),(.int .i64 80)]),(some (.t [none,none])),[],[],[]⟩) (
  (0<l.length∧15≤l.length)∧
  (15≤l.length)∧
  (0≤(15:Int)∧(15:Int)<(l.length:Int))∧
  ∀(I8:Nat),
  ∀(s1:Fl),s1=Fl.zero→
  Fl.Ok s1→
  True∧
  ∀(s2:Fl),s2=(Fl.mk [U32.mk ((l.getD 0 (U32.mk 0)).v),U32.mk ((l.getD 1 (U32.mk 0)).v),U32.mk ((l.getD 2 (U32.mk 0)).v),U32.mk ((l.getD 3 (U32.mk 0)).v),U32.mk ((l.getD 4 (U32.mk 0)).v),U32.mk ((l.getD 5 (U32.mk 0)).v),U32.mk ((l.getD 6 (U32.mk 0)).v),U32.mk ((l.getD 7 (U32.mk 0)).v),U32.mk ((l.getD 8 (U32.mk 0)).v),U32.mk ((l.getD 9 (U32.mk 0)).v),U32.mk ((l.getD 10 (U32.mk 0)).v),U32.mk ((l.getD 11 (U32.mk 0)).v),U32.mk ((l.getD 12 (U32.mk 0)).v),U32.mk ((l.getD 13 (U32.mk 0)).v),U32.mk ((l.getD 14 (U32.mk 0)).v)] ((l.getD (Int.toNat 15) (U32.mk 0)).v) false false false)→
  Fl.Ok s2→
  True∧
  (0≤(16:Int)∧(16:Int)<(l.length:Int))∧
  Fl.Ok (Fl.norm s2)∧
  (0≤((l.getD (Int.toNat 16) (U32.mk 0)).v)∧((l.getD (Int.toNat 16) (U32.mk 0)).v)<4294967296)∧
  True∧
  ∀(s3:Fl),s3=(Fl.norm (File.dN (Fl.norm s2) ((l.getD (Int.toNat 16) (U32.mk 0)).v)))→
  Fl.Ok s3→
  ∃J:Bool→Prop,(
   split ((File.eN ((l.getD (Int.toNat 16) (U32.mk 0)).v))==0) (
    True∧
    J (aK ⟨Fl.cells s3⟩ ⟨Fl.cells Fl.zero⟩)) (
    J false))∧∀(KH:Nat→Value)(x31:Bool),J x31→
  split x31 (
   True∧
   ∀(s4:Fl),s4=Fl.zero→
   Fl.Ok s4→
   True∧
   Q ⟨(.tuple #[(.agg ⟨Fl.cells s4⟩),(.int .i64 0)]),(some (.t [none,none])),[],[],[]⟩) (
   True∧
   True∧
   ∀(s4:Fl),s4=(Fl.norm s3)→
   Fl.Ok s4→
   True∧
   Q ⟨(.tuple #[(.agg ⟨Fl.cells s4⟩),(.int .i64 (File.eN ((l.getD (Int.toNat 16) (U32.mk 0)).v)))]),(some (.t [none,none])),[],[],[]⟩))
theorem By:Vc2 Un prog (aQ [(154,fX)]) [] Tryz.f133 (.r' (.r' (.two (.node [] none [] [(2,[0]),(5,[0])] .leaf .leaf) (.two (.node [] none [] [(0,[2]),(3,[0])] .leaf .leaf) (.two (.two (.node [] (some ⟨[(31,(.one .bool))],[],upN 25 7,[]⟩) [] [] .leaf .leaf) .leaf) .leaf))))) [] j4=(∀A c (l:List U32),∀Q,(((∀x∈l,0≤x.v∧x.v<4294967296))∧Q ⟨(.tuple #[(.agg ⟨Fl.cells (File.unpack l)⟩),(.int .i64 (File.ez l))]),(some (.t [none,none])),[],[],[]⟩)→Bx A c l Q):=by kernel_rfl
theorem Bv:LV Un prog 133 j4:=verify Tryz.func133 aa (tb:= [(154,fX)]) ⟨yf,trivial⟩ (by kernel_rfl) (By.mpr fun A c l Q h=>by
 obtain⟨I6,h⟩:=h
 exact fun gv s MB f1=>aG (fun c1=>af trivial fun _ s1 Kd f3=>af trivial fun _=>(by(have h0:¬l.length=17:=by omega);exact av h (congrArg (fun l=>Value.tuple (List.toArray l)) (ab (congrArg (fun s:Fl=>Value.agg ⟨Fl.cells s⟩) (by rw [(File.og h0).1,Kd])) (ab (aW (by rw [(File.og h0).2])) rfl))) rfl rfl)) fun c1=>af (by omega) fun s5=>af (by omega) fun s6=>af (by omega) fun s7 I8 s1 Kd f8=>af trivial fun _ s2 LB f10=>af trivial fun _=>af (by omega) fun OH=>af (Fl.EP _) fun Nj=>af (File.xy I6 _) fun OG=>af trivial fun _ s3 Kt f16=>bq ((((File.eN ((l.getD (Int.toNat 16) (U32.mk 0)).v)):Int)==0) && (aK ⟨Fl.cells s3⟩ ⟨Fl.cells Fl.zero⟩)) (ae (fun c2=>af trivial fun _=>(by grind)) fun c2=>(by grind))<| cP (fun c3=>af trivial fun _ s4 Kz f19=>af trivial fun _=>(by(have h0:l.length=17:=by omega);have hu:=File.mS h0;(have e2:Fl.norm s2=File.bare l:=by rw [Fl.norm_eq (show Fl.Ok s2 by assumption),LB,File.bare_eq h0]);(have e3:s3=File.dN (File.bare l) (l.getD 16 (U32.mk 0)).v:=by rw [Kt,e2];exact Fl.norm_eq (File.oZ h0 _));(have hz:=Fl.E7 (show Fl.Ok s3 by assumption) c3.2);exact av h (congrArg (fun l=>Value.tuple (List.toArray l)) (ab (congrArg (fun s:Fl=>Value.agg ⟨Fl.cells s⟩) (by rw [hu.1,← e3,hz,Kz])) (ab (aW (by(rw [hu.2];simpa using c3.1))) rfl))) rfl rfl)) fun c3=>af trivial fun _=>af trivial fun _ s4 Kz f23=>af trivial fun _=>(by(have h0:l.length=17:=by omega);have hu:=File.mS h0;(have e2:Fl.norm s2=File.bare l:=by rw [Fl.norm_eq (show Fl.Ok s2 by assumption),LB,File.bare_eq h0]);(have e3:s3=File.dN (File.bare l) (l.getD 16 (U32.mk 0)).v:=by rw [Kt,e2];exact Fl.norm_eq (File.oZ h0 _));exact av h (congrArg (fun l=>Value.tuple (List.toArray l)) (ab (congrArg (fun s:Fl=>Value.agg ⟨Fl.cells s⟩) (by(rw [hu.1,← e3,Kz];exact(Fl.norm_eq ‹_›).symm))) (ab (aW (by exact hu.2)) rfl))) rfl rfl))
end
section
set_option maxRecDepth 100000
def rS(R:ax)(w:World):Prop:=
 ∀(gv:Nat)(wv:World),gv=w.heap.size→wv=w.alloc (.cells (#[(.int .u32 0),(.int .u32 0),(.int .u32 0),(.int .u32 0),(.int .u32 0),(.int .u32 0),(.int .u32 0),(.int .u32 0)]) 25)→
 aI wv (Addr.mk gv 0 none) [(.int .u32 1779033703),(.int .u32 3144134277),(.int .u32 1013904242),(.int .u32 2773480762),(.int .u32 1359893119),(.int .u32 2600822924),(.int .u32 528734635),(.int .u32 1541459225)] fun I2=>
 ∃MP:Int,∃MO:Int,∃N9:Int,∃N8:Int,∃N7:Int,∃r0f:Int,∃r0g:Int,∃r0h:Int,(I2.cell? ((Addr.mk gv 0 none).add 0)=some (.int .u32 MP)∧I2.cell? ((Addr.mk gv 0 none).add 1)=some (.int .u32 MO)∧I2.cell? ((Addr.mk gv 0 none).add 2)=some (.int .u32 N9)∧I2.cell? ((Addr.mk gv 0 none).add 3)=some (.int .u32 N8)∧I2.cell? ((Addr.mk gv 0 none).add 4)=some (.int .u32 N7)∧I2.cell? ((Addr.mk gv 0 none).add 5)=some (.int .u32 r0f)∧I2.cell? ((Addr.mk gv 0 none).add 6)=some (.int .u32 r0g)∧I2.cell? ((Addr.mk gv 0 none).add 7)=some (.int .u32 r0h))∧
 R (.agg #[(.int .u32 MP),(.int .u32 MO),(.int .u32 N9),(.int .u32 N8),(.int .u32 N7),(.int .u32 r0f),(.int .u32 r0g),(.int .u32 r0h)]) I2
def AT:Ann:= .leaf
theorem SFirst_eq(R:ax)(w:World):rS R w=vcF prog aJ [] Tryz.f120 AT [] R none w:=by kernel_rfl
theorem tp {R:ax} {w:World}(h:rS R w):Calls prog 120 #[] w fun e w'=>∃v,e= .returned v∧R v w':=
 aj Tryz.func120 ar aa ((SFirst_eq R w).mp h)
end
end Go.Proofs.YtfgpafjlcgaimaaGreatDoor
namespace Go.Proofs.YtfgpafjlcgaimaaGreatDoor
open Go.Proofs.Tryz (prog)
open Go Go.RowKit V
open Go.IntKind (i64 u32 u64)
section
set_option maxRecDepth 10000
set_option maxHeartbeats 1000000
theorem Ga:S1 prog 64 22 (.int .u32 0) 4:=S1.of (by kernel_rfl) (by kernel_rfl) rfl
theorem F9:SN prog 64 22 (.int .u32 0) 1 4:=Ga.sn
theorem GJ {w:World}:
 Calls prog 120 #[] w fun e w'=>∃v,e= .returned v∧v= .agg #[(.int .u32 S8.first.a),(.int .u32 S8.first.b),(.int .u32 S8.first.c),(.int .u32 S8.first.d),(.int .u32 S8.first.e),(.int .u32 S8.first.f),(.int .u32 S8.first.g),(.int .u32 S8.first.h)]∧Pu w w':=by
 refine tp ?_
 have hp:=Ch.refl (fun _=>False) w
 refine mkd fun gv wv I7=>?_
 have Jc:=I7.lo hp
 have I0:=I7.blk
 refine mi I0 rfl fun I2 Mc=>?_
 have I0:=Mc.blk
 refine⟨_,_,_,_,_,_,_,_,⟨I0.at rfl,I0.at rfl,I0.at rfl,I0.at rfl,I0.at rfl,I0.at rfl,I0.at rfl,I0.at rfl⟩,?_⟩
 have hp:=Ch.call (Ch.made hp I7) Mc.ch (by exact fun k e=>.inr (e▸Jc))
 exact⟨congrArg Value.agg (IY (congrArg (Value.int .u32) (by rfl)) (congrArg (Value.int .u32) (by rfl)) (congrArg (Value.int .u32) (by rfl)) (congrArg (Value.int .u32) (by rfl)) (congrArg (Value.int .u32) (by rfl)) (congrArg (Value.int .u32) (by rfl)) (congrArg (Value.int .u32) (by rfl)) (congrArg (Value.int .u32) (by rfl))),hp⟩
end
end Go.Proofs.YtfgpafjlcgaimaaGreatDoor
namespace Go.Proofs.YtfgpafjlcgaimaaGreatDoor
open Go.Proofs.Tryz (prog)
open Go Go.RowKit V
open Go.IntKind (i64 u32 u64)
section
set_option maxRecDepth 100000
def vP(wordsA:Option Addr)(wordsN:Nat)(wordsC:Nat)(R:ax)(w:World):Prop:=
 split ((((wordsN:Nat):Int):Int) !=26) (
  R (.tuple #[(.pointer none),(.int .i64 20)]) w) (
  (0≤(8:Int)∧(8:Int)<((wordsN:Nat):Int))∧
  aq wordsA fun P1=>
  ∃JU:Int,w.drew.cell? (P1.add (Int.toNat 8*1))=some (.int .u32 JU)∧
  (0≤(9:Int)∧(9:Int)<((wordsN:Nat):Int))∧
  aq wordsA fun P0=>
  ∃Jk:Int,w.drew.cell? (P0.add (Int.toNat 9*1))=some (.int .u32 Jk)∧
  ∀n:Int,n=(u64.wrap (BitVec.ofInt u64.bits (u64.wrap ((u64.wrap JU:Int)*2 ^ 32)) ||| BitVec.ofInt u64.bits (u64.wrap Jk)).toNat)→
  (0≤(8:Int)∧(8:Int)≤((wordsC:Nat):Int))∧
  (0≤(8:Int)∧(8:Int)≤((Int.toNat 8:Nat):Int))∧
  ∀M3:Option Addr,M3=(if(Int.toNat 8)=0 then wordsA else(wordsA:Option Addr).map (·.add (0*1)))→∀M1:Nat,M1=(Int.toNat 8) - 0→∀NF:Nat,NF=(Int.toNat 8) - 0→
  8≤M1∧
  aq M3 fun OI=>
  ∃NC:Int,∃OZ:Int,∃OY:Int,∃OX:Int,∃OW:Int,∃R2:Int,∃R1:Int,∃R0:Int,(w.drew.cell? (OI.add 0)=some (.int .u32 NC)∧w.drew.cell? (OI.add 1)=some (.int .u32 OZ)∧w.drew.cell? (OI.add 2)=some (.int .u32 OY)∧w.drew.cell? (OI.add 3)=some (.int .u32 OX)∧w.drew.cell? (OI.add 4)=some (.int .u32 OW)∧w.drew.cell? (OI.add 5)=some (.int .u32 R2)∧w.drew.cell? (OI.add 6)=some (.int .u32 R1)∧w.drew.cell? (OI.add 7)=some (.int .u32 R0))∧
  ∀(gv:Nat)(wv:World),gv=w.drew.heap.size→wv=w.drew.alloc (.cells #[(.int .u32 NC),(.int .u32 OZ),(.int .u32 OY),(.int .u32 OX),(.int .u32 OW),(.int .u32 R2),(.int .u32 R1),(.int .u32 R0),(.int .i64 (i64.wrap n)),(.slice none 0 0)] 195)→
  ∃J:Bool→World→Prop,(
   ∃b:Nat→Nat→Prop,
   split (decide ((n:Int)>36028797018963968)) (
    J true wv.drew) (
    split (decide ((n:Int)<16)) (
     b 9 (((Addr.mk gv 0 none).add 0).block)∧
     ∃Rv:Int,∃Ru:Int,∃Rt:Int,∃Rs:Int,∃Rr:Int,∃Rq:Int,∃Rp:Int,∃Ro:Int,(wv.drew.cell? (((Addr.mk gv 0 none).add 0).add 0)=some (.int .u32 Rv)∧wv.drew.cell? (((Addr.mk gv 0 none).add 0).add 1)=some (.int .u32 Ru)∧wv.drew.cell? (((Addr.mk gv 0 none).add 0).add 2)=some (.int .u32 Rt)∧wv.drew.cell? (((Addr.mk gv 0 none).add 0).add 3)=some (.int .u32 Rs)∧wv.drew.cell? (((Addr.mk gv 0 none).add 0).add 4)=some (.int .u32 Rr)∧wv.drew.cell? (((Addr.mk gv 0 none).add 0).add 5)=some (.int .u32 Rq)∧wv.drew.cell? (((Addr.mk gv 0 none).add 0).add 6)=some (.int .u32 Rp)∧wv.drew.cell? (((Addr.mk gv 0 none).add 0).add 7)=some (.int .u32 Ro))∧
     Calls prog 120 #[] wv.drew fun e I2=>
     ∃Rl:Int,∃Rk:Int,∃Rj:Int,∃Ri:Int,∃Rh:Int,∃Rg:Int,∃Rf:Int,∃Re:Int,e= .returned (.agg #[(.int .u32 Rl),(.int .u32 Rk),(.int .u32 Rj),(.int .u32 Ri),(.int .u32 Rh),(.int .u32 Rg),(.int .u32 Rf),(.int .u32 Re)])∧
     Kept (cn b [0,6,7,8,9]) wv.drew I2∧∃b1:Nat→Nat→Prop,(∀i k,b i k→b1 i k)∧
     J (!(aK #[(.int .u32 Rv),(.int .u32 Ru),(.int .u32 Rt),(.int .u32 Rs),(.int .u32 Rr),(.int .u32 Rq),(.int .u32 Rp),(.int .u32 Ro)] #[(.int .u32 Rl),(.int .u32 Rk),(.int .u32 Rj),(.int .u32 Ri),(.int .u32 Rh),(.int .u32 Rg),(.int .u32 Rf),(.int .u32 Re)])) I2) (
     J false wv.drew)))∧∀(Ji:Nat→Value)(KC:Bool),∀I2,J KC I2→
  split KC (
   R (.tuple #[(.pointer none),(.int .i64 20)]) I2) (
   ∀waits:Int,waits=(i64.wrap ((n:Int).tmod 16))→
   (0≤(i64.wrap (10+waits):Int)∧(i64.wrap (10+waits):Int)≤((wordsN:Nat):Int))∧
   ∀KO:Option Addr,KO=(if wordsC=(Int.toNat (i64.wrap (10+waits)))then wordsA else(wordsA:Option Addr).map (·.add ((Int.toNat (i64.wrap (10+waits)))*1)))→∀Kb:Nat,Kb=wordsN - (Int.toNat (i64.wrap (10+waits)))→∀Lu:Nat,Lu=wordsC - (Int.toNat (i64.wrap (10+waits)))→
   ∃I:Nat→Int→World→Prop,(∃m,I m 0 I2)∧∀(m:Nat)(KH:Nat→Value)(K7:Int),∀I3,I m K7 I3→
   split (decide ((K7:Int)<((Kb:Nat):Int))) (
    (0≤(K7:Int)∧(K7:Int)<((Kb:Nat):Int))∧
    aq KO fun p54=>
    ∃Pl:Int,I3.cell? (p54.add (Int.toNat K7*1))=some (.int .u32 Pl)∧
    split ((Pl:Int) !=0) (
     R (.tuple #[(.pointer none),(.int .i64 20)]) I3) (
     ∃m1,m1<m∧I m1 (i64.wrap (K7+1)) I3)) (
    (0≤(i64.wrap (10+waits):Int)∧(i64.wrap (10+waits):Int)≤((wordsC:Nat):Int))∧
    (0≤(i64.wrap (10+waits):Int)∧(i64.wrap (10+waits):Int)≤((Int.toNat (i64.wrap (10+waits)):Nat):Int))∧
    (0≤(10:Int)∧(10:Int)≤((Int.toNat (i64.wrap (10+waits)):Nat):Int))∧
    ∀OT:Option Addr,OT=(if(Int.toNat (i64.wrap (10+waits)))=(Int.toNat 10)then wordsA else(wordsA:Option Addr).map (·.add ((Int.toNat 10)*1)))→∀LX:Nat,LX=(Int.toNat (i64.wrap (10+waits))) - (Int.toNat 10)→∀OS:Nat,OS=(Int.toNat (i64.wrap (10+waits))) - (Int.toNat 10)→
    ∃Q2:Option Addr,∃Q0:Nat,∃Q1:Nat,∃I5,(Builtin.append_ #[64,64] 64 #[(.slice none 0 0),(.slice OT LX OS)]:Sem Value).run prog I3= .ok (.slice Q2 Q0 Q1) I5∧
    aI I5 ((Addr.mk gv 0 none).add 9) [(.slice Q2 Q0 Q1)] fun Jh=>
    R (.tuple #[(.pointer (some (Addr.mk gv 0 none))),(.int .i64 0)]) Jh)))
def DH:Ann:=(.node none .leaf (.node none .leaf (.node none .leaf (.node none .leaf (.node none (.node none (.node (some ⟨[(43,.one (.bool))],[30,31,32,33,34,35,36,37,38,39,40,41,42,43]⟩) .leaf .leaf) .leaf) (.node none .leaf (.node none (.node none .leaf (.node none (.node (some ⟨[(52,.one (.int .i64))],[2,3,8,52,53,54,55,56,57,58]⟩) .leaf .leaf) .leaf)) .leaf)))))))
theorem SLoad_eq(wordsA:Option Addr)(wordsN:Nat)(wordsC:Nat)(R:ax)(w:World):vP wordsA wordsN wordsC R w=vcF prog aJ [4,6] Tryz.f129 DH [(.slice wordsA wordsN wordsC)] R none w:=by kernel_rfl
theorem vQ(wordsA:Option Addr)(wordsN:Nat)(wordsC:Nat) {R:ax} {w:World}(h:vP wordsA wordsN wordsC R w):Calls prog 129 #[(.slice wordsA wordsN wordsC)] w fun e w'=>∃v,e= .returned v∧R v w':=
 aj Tryz.func129 ar aa ((SLoad_eq wordsA wordsN wordsC R w).mp h)
end
end Go.Proofs.YtfgpafjlcgaimaaGreatDoor
namespace Go.Proofs.YtfgpafjlcgaimaaGreatDoor
open Go.Proofs.Tryz (prog)
open Go Go.RowKit V
open Go.IntKind (i64 u32 u64)
section
set_option maxRecDepth 10000
set_option maxHeartbeats 1000000
theorem HM {Z:Nat→Prop} {wordsA:Option Addr} {wordsN:Nat} {wordsC:Nat} {l:List U32} {w:World}(hz:Rd w Z wordsA wordsN wordsC l)(hw:∀x∈l,0≤x.v∧x.v<4294967296):
 Calls prog 129 #[(.slice wordsA wordsN wordsC)] w fun e w'=>∃v,e= .returned v∧∃p:Option Addr,v= .tuple #[(.pointer p),(.int .i64 (Dg.bK l))]∧(Dg.bK l=0→∃g L,p=some (Addr.mk g 0 none)∧qD w' g L (Dg.load l)∧∀k,L.X g k→w.heap.size≤k)∧Pu w w':=by
 refine vQ _ _ _ ?_
 have hl:=hz.len
 have hcap:=hz.cap
 have hp:=Ch.refl (fun _=>False) w
 have lt_hz:=hz.lt
 refine aG (fun c1=>?_) (fun c1=>?_)
 ·exact⟨none,congrArg Value.tuple (qo (rfl) (congrArg (Value.int .i64) (by rw [Dg.lB (by omega)]))),fun h=>absurd h (by rw [Dg.lB (by omega)];omega),hp⟩
 ·have K2:l.length=26:=by omega
  have S4:=Dg.nOf_eq hw K2
  refine⟨by omega,?_⟩
  obtain⟨p2,VD,SH,Oq⟩:=hz.u32 (by omega)
  refine ai p2 VD ?_
  have hz:=hz.pu (Pu.cu _)
  refine⟨_,Oq 8 (by omega),⟨by omega,?_⟩⟩
  obtain⟨p3,ha3,hz3,Tt⟩:=hz.u32 (by omega)
  refine ai p3 ha3 ⟨_,Tt 9 (by omega),?_⟩
  rintro n e_n
  obtain rfl:n=Dg.nOf l:=e_n.trans (by exact S4.1)
  refine⟨by omega,⟨by omega,?_⟩⟩
  rintro M3 Qx M1 Qv NF Qw
  have PY:=Rd.cut (lo:=0) (hi:=(Int.toNat 8)) hz Qx Qv Qw (by omega) (by omega) (by omega)
  refine⟨by omega,?_⟩
  obtain⟨p4,ha4,hz4,PH⟩:=PY.u32 (by omega)
  refine ai p4 ha4 ⟨_,_,_,_,_,_,_,_,⟨PH 0 (by omega),PH 1 (by omega),PH 2 (by omega),PH 3 (by omega),PH 4 (by omega),PH 5 (by omega),PH 6 (by omega),PH 7 (by omega)⟩,?_⟩
  have hp:=Ch.drew hp
  refine mkd fun gv wv I7=>?_
  have Jc:=I7.lo hp
  have I0:=I7.blk
  refine⟨_,?_,fun _ KC I2 h=>h⟩
  refine⟨bXU [9] [] wv.drew (fun _=>False),?_⟩
  refine aB (fun c5=>?_) (fun c5=>?_)
  ·refine jM ?_
   have hp:=Ch.drew (Ch.made hp I7)
   exact⟨none,congrArg Value.tuple (qo (rfl) (congrArg (Value.int .i64) (by rw [Dg.fx K2 (.inl c5)]))),fun h=>absurd h (by rw [Dg.fx K2 (.inl c5)];omega),hp⟩
  ·refine aB (fun c6=>?_) (fun c6=>?_)
   ·have I0:=Blk.drew I0
    refine⟨.inr ⟨by decide,bX.ld I0 (fun h=>h) _⟩,_,_,_,_,_,_,_,_,⟨I0.at2 rfl,I0.at2 rfl,I0.at2 rfl,I0.at2 rfl,I0.at2 rfl,I0.at2 rfl,I0.at2 rfl,I0.at2 rfl⟩,?_⟩
    refine Calls.mono (GJ) ?_
    rintro e I2 ⟨_,rfl,rfl,I4⟩
    refine⟨_,_,_,_,_,_,_,_,rfl,?_⟩
    refine bXU.uE I4 (by decide) ?_
    refine aY (fun c7=>?_) (fun c7=>?_)
    ·have KL:Dg.kz l≠S8.first:=by intro h;simp [Dg.kz,S8.first]at h;simp [aK,eqL,gI,S8.first,h]at c7
     have hp:=Ch.pu (Ch.drew (Ch.made hp I7)) I4
     exact⟨none,congrArg Value.tuple (qo (rfl) (congrArg (Value.int .i64) (by rw [Dg.fx K2 (.inr ⟨c6,KL⟩)]))),fun h=>absurd h (by rw [Dg.fx K2 (.inr ⟨c6,KL⟩)];omega),hp⟩
    ·have KL:Dg.kz l=S8.first:=by simp [aK,eqL,gI,S8.first]at c7;simp [Dg.kz,S8.first,c7]
     have hg:¬(Dg.nOf l>36028797018963968∨(Dg.nOf l<16∧Dg.kz l≠S8.first)):=by rintro(h | h);exact c5 h;exact h.2 KL
     rintro waits LC
     obtain rfl:waits=Dg.nOf l % 16:=LC.trans (by rw [Int.tmod_eq_emod_of_nonneg S4.2.1,ak (by omega)])
     refine⟨by(simp only [IntKind.wrap_i64];omega),?_⟩
     have hz:=((hz.pu I7.pu).pu (Pu.cu _)).pu I4
     rintro KO ML Kb MJ Lu MK
     have JV:=Rd.from_ (lo:=(Int.toNat (i64.wrap (10+(Dg.nOf l % 16))))) hz ML MJ MK (by(rw [Dg.lo_eq];omega)) (by have:=hz.cap;omega)
     have hp:=Ch.pu (Ch.drew (Ch.made hp I7)) I4
     have I0:=Pu.blk I4 I0
     refine⟨fun mz K7 W=>mz=(Kb - K7).toNat∧(0≤K7∧K7≤Kb)∧(∀(i:Nat)(x:U32),i<K7.toNat→(l.drop (10+(Dg.nOf l % 16).toNat))[i]? =some x→x.v=0)∧Ch (fun _=>False) w W∧Rd W Z wordsA wordsN wordsC l∧Blk W gv #[(.int .u32 ((((l.drop 0).take ((Int.toNat 8) - 0)).getD 0 ⟨0⟩).v)),(.int .u32 ((((l.drop 0).take ((Int.toNat 8) - 0)).getD 1 ⟨0⟩).v)),(.int .u32 ((((l.drop 0).take ((Int.toNat 8) - 0)).getD 2 ⟨0⟩).v)),(.int .u32 ((((l.drop 0).take ((Int.toNat 8) - 0)).getD 3 ⟨0⟩).v)),(.int .u32 ((((l.drop 0).take ((Int.toNat 8) - 0)).getD 4 ⟨0⟩).v)),(.int .u32 ((((l.drop 0).take ((Int.toNat 8) - 0)).getD 5 ⟨0⟩).v)),(.int .u32 ((((l.drop 0).take ((Int.toNat 8) - 0)).getD 6 ⟨0⟩).v)),(.int .u32 ((((l.drop 0).take ((Int.toNat 8) - 0)).getD 7 ⟨0⟩).v)),(.int .i64 (i64.wrap (Dg.nOf l))),(.slice none 0 0)] 195∧Rd W Z KO Kb Lu (l.drop (Int.toNat (i64.wrap (10+(Dg.nOf l % 16))))),⟨_,rfl,(by omega),(by intro i x h;omega),hp,hz,I0,JV⟩,?_⟩
     rintro _ _ K7 I3 ⟨rfl,h0,hq,hp,hz,I0,JV⟩
     refine aB (fun c8=>?_) (fun c8=>?_)
     ·obtain⟨p9,x9,ha9,QD,QB,hc9⟩:=JV.ld (i:=K7) (by omega) (by omega)
      refine⟨by constructor<;>omega,ai p9 ha9 ⟨_,hc9 0 (by decide),?_⟩⟩
      refine aG (fun Mn=>?_) (fun Mn=>?_)
      ·exact⟨none,congrArg Value.tuple (qo (rfl) (congrArg (Value.int .i64) (by rw [Dg.lo_eq]at QD;rw [Dg.eW K2 hg QD Mn]))),fun h=>absurd h (by rw [Dg.eW K2 hg (Dg.lo_eq▸QD) Mn];omega),hp⟩
      ·exact⟨_,by rw [IntKind.wrap_i64];omega,rfl,by rw [IntKind.wrap_i64];omega,by rw [ak (by omega)];intro i x hi hx;by_cases he:i=K7.toNat;(subst he;(rw [Dg.lo_eq]at QD;rw [hx]at QD;injection QD with e;rw [e];simpa using Mn));exact hq i x (by omega) hx,hp,hz,I0,JV⟩
     ·have QB:=hp
      have hgw:gv<I3.heap.size:=I0.lt
      refine⟨by(simp only [IntKind.wrap_i64];omega),⟨by(simp only [IntKind.wrap_i64];omega),⟨by(simp only [IntKind.wrap_i64];omega),?_⟩⟩⟩
      rintro OT MI LX MG OS MH
      have Mt:=Rd.cut (lo:=10) (hi:=(Int.toNat (i64.wrap (10+(Dg.nOf l % 16))))) hz MI MG MH (by(rw [Dg.lo_eq];omega)) (by(rw [Dg.lo_eq];omega)) (by omega)
      refine tf F9 Mt (by have:= @Dg.lo_eq l;omega) (by have:= @Dg.lo_eq l;omega) fun A_wv3 Mm I5 KJ JJ=>?_
      have I0:=Pu.blk JJ I0
      refine bV I0 (by simp) fun Jh KY=>?_
      have I0:Blk Jh gv #[(.int .u32 ((((l.drop 0).take ((Int.toNat 8) - 0)).getD 0 ⟨0⟩).v)),(.int .u32 ((((l.drop 0).take ((Int.toNat 8) - 0)).getD 1 ⟨0⟩).v)),(.int .u32 ((((l.drop 0).take ((Int.toNat 8) - 0)).getD 2 ⟨0⟩).v)),(.int .u32 ((((l.drop 0).take ((Int.toNat 8) - 0)).getD 3 ⟨0⟩).v)),(.int .u32 ((((l.drop 0).take ((Int.toNat 8) - 0)).getD 4 ⟨0⟩).v)),(.int .u32 ((((l.drop 0).take ((Int.toNat 8) - 0)).getD 5 ⟨0⟩).v)),(.int .u32 ((((l.drop 0).take ((Int.toNat 8) - 0)).getD 6 ⟨0⟩).v)),(.int .u32 ((((l.drop 0).take ((Int.toNat 8) - 0)).getD 7 ⟨0⟩).v)),(.int .i64 (i64.wrap (Dg.nOf l))),(.slice A_wv3 LX Mm)] _:=KY.blk.cast (by kernel_rfl)
      have KJ:=KJ.ch KY.ch (fun k hx e=>absurd hx.1 (by omega))
      have hp:=Ch.call (Ch.pu hp JJ) KY.ch (by exact fun k e=>.inr (e▸Jc))
      exact⟨_,congrArg Value.tuple (qo (rfl) (congrArg (Value.int .i64) (by rw [(Dg.oQ K2 hg (fun i x hx=>hq i x (by have:=(List.getElem?_eq_some_iff.1 hx).1;rw [List.length_drop]at this;have:= @Dg.lo_eq l;omega) hx))]))),fun _=>⟨gv,⟨fun k=>(I3.heap.size≤k∧k<I5.heap.size)∧k<Jh.heap.size,A_wv3,LX,Mm⟩,rfl,⟨⟨_,Blk.cast I0 (by simp [Dg.load,Dg.kz];have:=S4.2;exact(ak (x:=Dg.nOf l) (by omega)).symm)⟩,by have h9:=(KJ).rd;have h8:= @Dg.lo_eq l;have e:Dg.load l=⟨Dg.kz l,Dg.nOf l,(l.drop 10).take (Int.toNat (i64.wrap (10+Dg.nOf l % 16)) - 10)⟩:=(by rw [h8,Nat.add_sub_cancel_left];rfl);rw [e];exact h9,by intro h;exact absurd h.1.1 (by have:=I7.num;have:=QB.size;omega)⟩,fun k hk=>hk.elim (fun e=>by rw [e];exact Jc) (fun h=>by have:=QB.size;have:=h.1.1;omega)⟩,hp⟩
   ·have hg:¬(Dg.nOf l>36028797018963968∨(Dg.nOf l<16∧Dg.kz l≠S8.first)):=by rintro(h | h);exact c5 h;exact c6 h.1
    refine iB ?_
    rintro waits LC
    obtain rfl:waits=Dg.nOf l % 16:=LC.trans (by rw [Int.tmod_eq_emod_of_nonneg S4.2.1,ak (by omega)])
    refine⟨by(simp only [IntKind.wrap_i64];omega),?_⟩
    have hz:=(hz.pu I7.pu).pu (Pu.cu _)
    rintro KO ML Kb MJ Lu MK
    have JV:=Rd.from_ (lo:=(Int.toNat (i64.wrap (10+(Dg.nOf l % 16))))) hz ML MJ MK (by(rw [Dg.lo_eq];omega)) (by have:=hz.cap;omega)
    have hp:=Ch.drew (Ch.made hp I7)
    have I0:=Blk.drew I0
    refine⟨fun mz K7 W=>mz=(Kb - K7).toNat∧(0≤K7∧K7≤Kb)∧(∀(i:Nat)(x:U32),i<K7.toNat→(l.drop (10+(Dg.nOf l % 16).toNat))[i]? =some x→x.v=0)∧Ch (fun _=>False) w W∧Rd W Z wordsA wordsN wordsC l∧Blk W gv #[(.int .u32 ((((l.drop 0).take ((Int.toNat 8) - 0)).getD 0 ⟨0⟩).v)),(.int .u32 ((((l.drop 0).take ((Int.toNat 8) - 0)).getD 1 ⟨0⟩).v)),(.int .u32 ((((l.drop 0).take ((Int.toNat 8) - 0)).getD 2 ⟨0⟩).v)),(.int .u32 ((((l.drop 0).take ((Int.toNat 8) - 0)).getD 3 ⟨0⟩).v)),(.int .u32 ((((l.drop 0).take ((Int.toNat 8) - 0)).getD 4 ⟨0⟩).v)),(.int .u32 ((((l.drop 0).take ((Int.toNat 8) - 0)).getD 5 ⟨0⟩).v)),(.int .u32 ((((l.drop 0).take ((Int.toNat 8) - 0)).getD 6 ⟨0⟩).v)),(.int .u32 ((((l.drop 0).take ((Int.toNat 8) - 0)).getD 7 ⟨0⟩).v)),(.int .i64 (i64.wrap (Dg.nOf l))),(.slice none 0 0)] 195∧Rd W Z KO Kb Lu (l.drop (Int.toNat (i64.wrap (10+(Dg.nOf l % 16))))),⟨_,rfl,(by omega),(by intro i x h;omega),hp,hz,I0,JV⟩,?_⟩
    rintro _ _ K7 I3 ⟨rfl,h0,hq,hp,hz,I0,JV⟩
    refine aB (fun Ng=>?_) (fun Ng=>?_)
    ·obtain⟨p12,Jy,VE,Na,hz12,Vy⟩:=JV.ld (i:=K7) (by omega) (by omega)
     refine⟨by constructor<;>omega,ai p12 VE ⟨_,Vy 0 (by decide),?_⟩⟩
     refine aG (fun OQ=>?_) (fun OQ=>?_)
     ·exact⟨none,congrArg Value.tuple (qo (rfl) (congrArg (Value.int .i64) (by rw [Dg.lo_eq]at Na;rw [Dg.eW K2 hg Na OQ]))),fun h=>absurd h (by rw [Dg.eW K2 hg (Dg.lo_eq▸Na) OQ];omega),hp⟩
     ·exact⟨_,by rw [IntKind.wrap_i64];omega,rfl,by rw [IntKind.wrap_i64];omega,by rw [ak (by omega)];intro i x hi hx;by_cases he:i=K7.toNat;(subst he;(rw [Dg.lo_eq]at Na;rw [hx]at Na;injection Na with e;rw [e];simpa using OQ));exact hq i x (by omega) hx,hp,hz,I0,JV⟩
    ·have QB:=hp
     have hgw:gv<I3.heap.size:=I0.lt
     refine⟨by(simp only [IntKind.wrap_i64];omega),⟨by(simp only [IntKind.wrap_i64];omega),⟨by(simp only [IntKind.wrap_i64];omega),?_⟩⟩⟩
     rintro OT MI LX MG OS MH
     have Mt:=Rd.cut (lo:=10) (hi:=(Int.toNat (i64.wrap (10+(Dg.nOf l % 16))))) hz MI MG MH (by(rw [Dg.lo_eq];omega)) (by(rw [Dg.lo_eq];omega)) (by omega)
     refine tf F9 Mt (by have:= @Dg.lo_eq l;omega) (by have:= @Dg.lo_eq l;omega) fun A_wv3 Mm I5 KJ JJ=>?_
     have I0:=Pu.blk JJ I0
     refine bV I0 (by simp) fun Jh KY=>?_
     have I0:Blk Jh gv #[(.int .u32 ((((l.drop 0).take ((Int.toNat 8) - 0)).getD 0 ⟨0⟩).v)),(.int .u32 ((((l.drop 0).take ((Int.toNat 8) - 0)).getD 1 ⟨0⟩).v)),(.int .u32 ((((l.drop 0).take ((Int.toNat 8) - 0)).getD 2 ⟨0⟩).v)),(.int .u32 ((((l.drop 0).take ((Int.toNat 8) - 0)).getD 3 ⟨0⟩).v)),(.int .u32 ((((l.drop 0).take ((Int.toNat 8) - 0)).getD 4 ⟨0⟩).v)),(.int .u32 ((((l.drop 0).take ((Int.toNat 8) - 0)).getD 5 ⟨0⟩).v)),(.int .u32 ((((l.drop 0).take ((Int.toNat 8) - 0)).getD 6 ⟨0⟩).v)),(.int .u32 ((((l.drop 0).take ((Int.toNat 8) - 0)).getD 7 ⟨0⟩).v)),(.int .i64 (i64.wrap (Dg.nOf l))),(.slice A_wv3 LX Mm)] _:=KY.blk.cast (by kernel_rfl)
     have KJ:=KJ.ch KY.ch (fun k hx e=>absurd hx.1 (by omega))
     have hp:=Ch.call (Ch.pu hp JJ) KY.ch (by exact fun k e=>.inr (e▸Jc))
     exact⟨_,congrArg Value.tuple (qo (rfl) (congrArg (Value.int .i64) (by rw [(Dg.oQ K2 hg (fun i x hx=>hq i x (by have:=(List.getElem?_eq_some_iff.1 hx).1;rw [List.length_drop]at this;have:= @Dg.lo_eq l;omega) hx))]))),fun _=>⟨gv,⟨fun k=>(I3.heap.size≤k∧k<I5.heap.size)∧k<Jh.heap.size,A_wv3,LX,Mm⟩,rfl,⟨⟨_,Blk.cast I0 (by simp [Dg.load,Dg.kz];have:=S4.2;exact(ak (x:=Dg.nOf l) (by omega)).symm)⟩,by have h9:=(KJ).rd;have h8:= @Dg.lo_eq l;have e:Dg.load l=⟨Dg.kz l,Dg.nOf l,(l.drop 10).take (Int.toNat (i64.wrap (10+Dg.nOf l % 16)) - 10)⟩:=(by rw [h8,Nat.add_sub_cancel_left];rfl);rw [e];exact h9,by intro h;exact absurd h.1.1 (by have:=I7.num;have:=QB.size;omega)⟩,fun k hk=>hk.elim (fun e=>by rw [e];exact Jc) (fun h=>by have:=QB.size;have:=h.1.1;omega)⟩,hp⟩
end
end Go.Proofs.YtfgpafjlcgaimaaGreatDoor
namespace Go.Proofs.YtfgpafjlcgaimaaGreatDoor
open Go.Proofs.Tryz (prog)
open Go Go.RowKit V
open Go.IntKind (i64 u32 u64)
section
set_option maxRecDepth 100000
set_option maxHeartbeats 1000000
attribute [local irreducible] Vc2 VcD
attribute [local grind=] Pd.cg Pd.bI Pd.gD Pd.gS Pd.eU Pd.dR Pd.ek Pd.eI Pd.j6
attribute [local grind .] Pd.Ok.ent
attribute [local grind→] Pd.Ok.cF
theorem eP {E:Pd} {m:Mem}(h:m.Wf)(p o:Int):0≤(E.on m).word p o∧(E.on m).word p o<4294967296:=by
 show 0≤m.bQ true p o∧m.bQ true p o<_
 unfold Mem.bQ
 split
 ·exact h.1 _ _ _
 ·omega
theorem sK(D:DB)(p:Int) {n:Int}(h:0≤n):D.gj p (n+1)=D.gj p n+(if D.of n 4 (D.at_ p).owner then cm (D.iK p n) 1024 else 0):=by
 unfold DB.gj
 rw [show(n+1).toNat=n.toNat+1 by omega,List.range_succ,List.map_append,List.sum_append]
 simp only [List.map_cons,List.map_nil,List.sum_cons,List.sum_nil,Int.add_zero,show((n.toNat:Nat):Int)=n by omega]
structure wL(D:DB)(p:Int)(l:List I64)(n:Int):Prop where
 len:l.length=D.S
 val:∀q:Int,0≤q→q<(D.S:Int)→(l.getD q.toNat (I64.mk 0)).v=D.named p n q
theorem fJ(D:DB)(p q:Int) {n:Int}(h:0≤n):D.named p (n+1) q=D.named p n q+(if D.word p n !=0 && aL (D.word p n)==q then 1 else 0):=cQ h
theorem wL.zero(D:DB)(p:Int)(n:Nat)(h:n=D.S):wL D p (List.replicate n (I64.mk 0)) 0:=
 ⟨by simp [h],fun q h1 h2=>by rw [List.getD_eq_getElem?_getD,List.getElem?_replicate,if_pos (by omega)];rfl⟩
theorem wL.skip {D:DB} {p n:Int} {l:List I64}(h:wL D p l n)(h0:0≤n)(hw:D.word p n=0):wL D p l (n+1):=
 ⟨h.len,fun q h1 h2=>by rw [h.val q h1 h2,fJ D p q h0,hw];simp⟩
theorem wL.put {D:DB} {p n:Int} {l:List I64}(h:wL D p l n)(h0:0≤n∧n<256)(hw:¬D.word p n=0)(hp:0≤aL (D.word p n)∧aL (D.word p n)<(D.S:Int)):
 wL D p (l.set (aL (D.word p n)).toNat (I64.mk (i64.wrap ((l.getD (aL (D.word p n)).toNat (I64.mk 0)).v+1)))) (n+1):=by
 refine⟨by simp [h.len],fun q h1 h2=>?_⟩
 have hr:=lK (f:=fun i=>D.word p i !=0 && aL (D.word p i)==aL (D.word p n)) h0.1
 have Py:=gn (f:=fun i=>D.word p i !=0 && aL (D.word p i)==aL (D.word p n)) (n:=n)
 have hv:=h.val _ hp.1 hp.2
 rw [fJ D p q h0.1,List.getD_eq_getElem?_getD,List.getElem?_set]
 by_cases hq:aL (D.word p n)=q
 ·subst hq
  rw [if_pos rfl,if_pos (by rw [h.len];omega)]
  show i64.wrap _=_
  rw [hv]
  unfold DB.named at *
  rw [ak (by omega)]
  simp [hw]
 ·rw [if_neg (by omega),← List.getD_eq_getElem?_getD,h.val q h1 h2]
  simp [hq]
theorem tY {E:Pd} {m:Mem}(h:m.Wf)(p lo:Int)(n:Nat):∀x∈(E.on m).some_ p lo n,0≤x.v∧x.v<4294967296:=by
 intro x hx
 obtain⟨i,_,rfl⟩:=List.mem_map.1 hx
 exact eP h p _
end
end Go.Proofs.YtfgpafjlcgaimaaGreatDoor
