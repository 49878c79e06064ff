/- ValidSpoils returns true for every input, and each argument reads behind the call as it read before; no condition but that the listed variables read as the row lists them. -/
import Derived.Test.YtbjlecpmgocoeaaGreatDoorS2
import Derived.Great.BuildSlice
set_option linter.unusedVariables false
set_option linter.unusedSimpArgs false
section
namespace Go.Proofs.YtbjlecpmgocoeaaGreatDoor.V
open Go Go.RowKit
open Go.IntKind (i64 u32 u64)
open Enc (enc)
section
variable {U:Uni} {P:Program} {tbl:Tb U} {may:List Nat} {k0:Nat}
variable {w0:World} {X0 X:Nat→Nat→Prop} {w:World} {fr:Fr} {st:St U}
theorem tM:∀ {vs:List Value} {F:Prop},(∀v,v∈vs→one? v True)→F→mX vs F
 | [],_,_,h=>h
 | v::r,F,h1,h=>by
  have h2:=oJ (h1 v (List.mem_cons_self ..))
  have h3:=tM (F:=F) (fun u hu=>h1 u (List.mem_cons_of_mem _ hu)) h
  unfold mX one?
  cases v<;>first | exact h3 | exact absurd rfl (h2.2.1 _) | exact absurd rfl (h2.2.2 _)
theorem o7(hI:Inv w0 k0 X0 may st.rs X w)(hk:aA st.rs fr st.kn) {i:Nat} {a b:Res U}(ha:nth st.rs i=some a)(hc:ni may k0 i=true) {w':World}(q:Ch (X i) w w')(hrt:cU a b)(hb:RS (X i) w' b) {kn':List (Key×Kn)}(hkn:aA (bY st.rs i b) fr kn'):
 ep w0 k0 X0 may fr st X w ⟨bY st.rs i b,kn',i::st.md⟩ X w' [i]:=by
 have hi:=aP ha
 have hinv:=hI.set hi (fG hc) q hb (fun k hk=>.inl hk)
 have e:tD X i (X i)=X:=by
  funext j
  unfold tD
  split
  ·rename_i h;rw [h]
  ·rfl
 rw [e]at hinv
 exact⟨hinv,hkn,rfl,fun j hj=>by simp at hj;subst hj;exact hi,fun j hj=>by simp at hj;subst hj;exact fG hc,by simp,fun j hj hji=>⟨by rw [bp,if_neg (fun hh=>hji (by simp [hh.1]))],rfl⟩,fun _ _ _ h=>.inl h,fun j h1 h2=>by simp at h2;omega,q.mono fun k hk=>⟨i,by simp,hk⟩,fun j c hj=>by
  by_cases hji:j=i
  ·subst hji
   rw [ha]at hj
   injection hj with hj
   subst hj
   exact⟨b,by rw [bp,if_pos ⟨rfl,hi⟩],hrt⟩
  ·exact⟨c,by rw [bp,if_neg (fun hh=>hji hh.1)];exact hj,cU.refl c⟩⟩
theorem mP(hI:Inv w0 k0 X0 may st.rs X w)(hk:aA st.rs fr st.kn) {r:Res U} {Z:Nat→Prop} {w':World}(q:Pu w w')(hr:RS Z w' r)(hz:∀k,Z k→w.heap.size≤k) {kn':List (Key×Kn)}(hkn:aA (st.rs++ [r]) fr kn'):
 ep w0 k0 X0 may fr st X w ⟨st.rs++ [r],kn',st.md⟩ (tD X st.rs.length Z) w' []:=
 ⟨hI.more q hr hz,hkn,rfl,fun j hj=>(by cases hj),fun j hj=>(by cases hj),by simp,fun i hi _=>⟨by rw [aW,if_pos hi],lI _ _ (by omega)⟩,fun i hi=>(by cases hi),fun i h1 h2 k hk=>by
  simp at h2
  obtain rfl:i=st.rs.length:=by omega
  rw [updX_eq]at hk
  exact hz k hk,q.mono fun k h=>h.elim,fun i a ha=>⟨a,by rw [aW,if_pos (aP ha)];exact ha,cU.refl a⟩⟩
theorem oK(hk:aA st.rs fr st.kn)(r:Res U):aA (st.rs++ [r]) fr st.kn:=
 hk.jr (M:= []) (fun i hi _=>by rw [aW,if_pos hi]) (fun i hi=>by cases hi) fun key k h=>⟨h,fun p _=>.inl (by simp),fun id off _=>.inl (by simp)⟩
theorem Blk.rs {g:Nat} {cs:Array Value} {T:TypeId} {w':World}(h:Blk w' g cs T):RS (U:=U) (fun k=>k=g) w' (.blk g cs.toList T):=⟨rfl,fun _ h=>h,h⟩
theorem nN {α:Type}(vs L:List α)(off:Nat)(h:off+vs.length≤L.length):fV L off vs=L.take off++vs++L.drop (off+vs.length):=by
 apply List.ext_getElem?
 intro j
 rw [← aL,kq _ _ _ _ h,List.append_assoc]
 by_cases h3:off≤j∧j<off+vs.length
 ·rw [if_pos h3,List.getElem?_append_right (by simp;omega),List.getElem?_append_left (by simp;omega),aL]
  congr 1
  simp
  omega
 ·rw [if_neg h3,aL]
  by_cases h4:j<off
  ·rw [List.getElem?_append_left (by simp;omega),List.getElem?_take,if_pos h4]
  ·rw [List.getElem?_append_right (by simp;omega),List.getElem?_append_right (by simp;omega),List.getElem?_drop]
   congr 1
   simp
   omega
theorem gY.cells {rs:List (Res U)} {v:Value} {k:Kn}(h:gY rs v k)(hna:∀l,k≠ .ag l):v.cells= #[v]:=by
 cases k with
 | ag l=>exact absurd rfl (hna l)
 | p k=>
  have h:bS U k (nth rs k.id)=some v:=h
  cases hn:nth rs k.id with
  | none=>rw [hn]at h;cases k<;>simp [bS]at h
  | some r=>
   rw [hn]at h
   cases k with
   | loc _ _=>cases r<;>simp only [bS,reduceCtorEq,Option.some.injEq]at h;subst h;rfl
   | obj _ _ _=>cases r<;>simp only [bS,reduceCtorEq,Option.some.injEq]at h;subst h;rfl
   | sl _ li=>
    simp only [bS]at h
    split at h
    ·injection h with h;subst h;rfl
    ·cases h
   | el _ li _ _=>
    simp only [bS]at h
    split at h
    ·split at h
     ·injection h with h;subst h;rfl
     ·cases h
    ·cases h
 | t l=>obtain⟨vs,rfl,_⟩:=h;rfl
 | f a b=>obtain⟨f,fs,cs,rfl,_,_⟩:=h;rfl
theorem lq {id:Nat} {key:Key} {q:Kn}:∀ {l:List (Option PK)} {o:Nat},(key,q)∈ui id o l→∃j p,key= .c id (o+j)∧q= .p p∧nth l j=some (some p)
 | [],_,h=>by cases h
 | none::l,o,h=>by
  obtain⟨j,p,h1,h2,h3⟩:=lq (l:=l) (o:=o+1) h
  exact⟨j+1,p,by rw [h1];congr 1;omega,h2,h3⟩
 | some p::l,o,h=>by
  rcases List.mem_cons.1 h with e | h
  ·injection e with e1 e2
   exact⟨0,p,e1,e2,rfl⟩
  ·obtain⟨j,p,h1,h2,h3⟩:=lq (l:=l) (o:=o+1) h
   exact⟨j+1,p,by rw [h1];congr 1;omega,h2,h3⟩
theorem n0 {rs:List (Res U)} {v:Value} {ky:Option Kn}(hv:KnO rs v ky) {id off:Nat} {sc:Bool} {key:Key} {q:Kn}(h:(key,q)∈cellsOf id off sc ky):∃j u,key= .c id (off+j)∧nth v.cells.toList j=some u∧gY rs u q:=by
 have one:∀ {k:Kn},ky=some k→(∀l,k≠ .ag l)→(key,q)∈(match sc with | true=>[(Key.c id off,k)] | false=>[])→∃j u,key= .c id (off+j)∧nth v.cells.toList j=some u∧gY rs u q:=by
  intro k hk hna hm
  subst hk
  split at hm
  ·simp only [List.mem_singleton,Prod.mk.injEq]at hm
   obtain⟨rfl,rfl⟩:=hm
   exact⟨0,v,rfl,by rw [gY.cells hv hna];rfl,hv⟩
  ·cases hm
 cases ky with
 | none=>cases h
 | some k=>
  cases k with
  | ag l=>
   obtain⟨j,p,h1,h2,h3⟩:=lq h
   obtain⟨cs,rfl,hh⟩:=hv
   obtain⟨u,hu,hd⟩:=hh j p h3
   subst h2
   exact⟨j,u,h1,by show nth cs.toList j=_;rw [aL];simpa using hu,hd⟩
  | p p=>exact one rfl (fun l e=>by cases e) h
  | t l=>exact one rfl (fun l e=>by cases e) h
  | f a b=>exact one rfl (fun l e=>by cases e) h
theorem aA.roots {rs rs':List (Res U)} {fr:Fr} {kn:List (Key×Kn)}(h:aA rs fr kn)(hr:∀i a,nth rs i=some a→∃b,nth rs' i=some b∧(a=b∨∃t own T A c l l',a= .lst t own T A c l∧b= .lst t own T A c l'∧l'.length=l.length)):aA rs' fr kn:=by
 have hd:∀p u,den U rs p=some u→den U rs' p=some u:=by
  intro p u hu
  unfold den at hu ⊢
  cases hn:nth rs p.id with
  | none=>rw [hn]at hu;cases p<;>simp [bS]at hu
  | some a=>
   rw [hn]at hu
   obtain⟨b,hb,rfl | ⟨t,own,T,A,c,l,l',rfl,rfl,hl⟩⟩:=hr _ _ hn
   ·rw [hb];exact hu
   ·rw [hb,← hu];cases p<;>simp only [bS,jo,hl]
 intro key k hk
 have h0:=h key k hk
 cases key with
 | s i=>exact gY.mono h0 fun p _=>hd p
 | c id off=>
  obtain⟨g,cs,T,v,e1,e2,e3⟩:=h0
  obtain⟨b,hb,rfl | ⟨_,_,_,_,_,_,_,hh,_⟩⟩:=hr _ _ e1
  ·exact⟨g,cs,T,v,hb,e2,e3.mono fun p _=>hd p⟩
  ·cases hh
 | l id path=>
  obtain⟨t,r,s,e1,e2⟩:=h0
  obtain⟨b,hb,rfl | ⟨_,_,_,_,_,_,_,hh,_⟩⟩:=hr _ _ e1
  ·exact⟨t,r,s,hb,e2.mono fun p _=>hd p⟩
  ·cases hh
theorem iI {t:TypeId} {x y:Operand} {p:Addr} {fr:Fr} {dst:Option Tmp} {ty:TypeId} {pos:String} {after:Array Edge} {gd:Option (Nat×Bool)} {Y:Bool} {K:ay}(hx:ev fr x= .pointer (some p))(hrow:FC P t=false)(hsz:Nat.beq (ev fr y).cells.toList.length (bj P t)=true)(hT:hasType P t=true)
 (h1:∀v,v∈(ev fr y).cells.toList→one? v True)(h:ax w p (ev fr y).cells.toList fun w'=>K undef w'):opW P Y none ⟨dst,.store t x y,ty,pos,after,gd⟩ (ev fr) w K:=by
 refine Ab (C:= []) rfl ?_
 show(match ev fr x with
  | .pointer a=>match cT P t with
   | .row n=>(match hasType P t && Nat.beq n (bj P t),ev fr y with
    | true,.agg cs=>av a fun p=>cs.size=n∧(∀v∈cs.toList,one? v True)∧ax w p cs.toList fun w'=>K undef w'
    | _,_=>False)
   | _=>match Nat.beq (ev fr y).cells.toList.length (bj P t) && hasType P t with
    | true=>av a fun p=>mX (ev fr y).cells.toList (ax w p (ev fr y).cells.toList fun w'=>K undef w')
    | false=>False
  | _=>False)
 rw [hx]
 unfold FC at hrow
 cases hs:cT P t with
 | row n=>rw [hs]at hrow;cases hrow
 | one s=>simp only [hsz,hT];exact ak p rfl (tM h1 h)
 | agg l=>simp only [hsz,hT];exact ak p rfl (tM h1 h)
theorem step_done {K:ff U} {st':St U} {X':Nat→Nat→Prop} {w':World} {M l:List Nat} {v:Value} {k:Option Kn}(hs:ep w0 k0 X0 may fr st X w st' X' w' M)(hv:KnO st'.rs v k)(h:nmL st'.rs l fun rs2=>K v k ⟨rs2,st'.kn,st'.md⟩):
 ∃k st' X' M,K v k st'∧KnO st'.rs v k∧ep w0 k0 X0 may fr st X w st' X' w' M:=
 ⟨k,st',X',M,kt (F:=fun rs2=>K v k ⟨rs2,st'.kn,st'.md⟩) (fun i r hr=>⟨_,_,hs.inv.sat.res i r hr⟩) h,hv,hs⟩
theorem tN {tt:Nat} {r:Nat→Nat} {s s':U.ty tt} {id:Nat} {K:ff U}(hI:Inv w0 k0 X0 may st.rs X w)(hk:aA st.rs fr st.kn)(hn:nth st.rs id=some (.ob tt r s))(hcan:ni may k0 id=true) {w2:World}(hq:Ch (X id) w w2)(hp2:U.pred tt r s' (X id) w2)
 (hK:nmL (bY st.rs id (.ob tt r s')) [id] fun rs2=>K undef none ⟨rs2,eU [id] st.kn,id::st.md⟩):
 ∃k st' X' M,K undef k st'∧KnO st'.rs undef k∧ep w0 k0 X0 may fr st X w st' X' w2 M:=by
 refine step_done (k:=none) (st':=⟨bY st.rs id (.ob tt r s'),eU [id] st.kn,id::st.md⟩) (o7 hI hk hn hcan hq (.ob tt r s s') hp2 ?_) trivial hK
 refine hk.eU (M:= [id]) (fun i _ hi=>by rw [bp,if_neg (fun hh=>hi (by simp [hh.1]))]) fun i hi a ha=>?_
 simp only [List.mem_singleton]at hi
 subst hi
 rw [hn]at ha
 injection ha with ha
 subst ha
 exact⟨_,by rw [bp,if_pos ⟨rfl,aP hn⟩],.ob tt r s s'⟩
theorem yq {t:TypeId} {x y:Operand} {p:Addr} {n:Nat} {cs:Array Value} {fr:Fr} {dst:Option Tmp} {ty:TypeId} {pos:String} {after:Array Edge} {gd:Option (Nat×Bool)} {Y:Bool} {K:ay}(hx:ev fr x= .pointer (some p))(hrow:cT P t= .row n)(hy:ev fr y= .agg cs)(hn:Nat.beq n (bj P t)=true)(hc:cs.size=n)(hT:hasType P t=true)
 (h1:∀v,v∈cs.toList→one? v True)(h:ax w p cs.toList fun w'=>K undef w'):opW P Y none ⟨dst,.store t x y,ty,pos,after,gd⟩ (ev fr) w K:=by
 refine Ab (C:= []) rfl ?_
 show(match ev fr x with
  | .pointer a=>match cT P t with
   | .row n=>(match hasType P t && Nat.beq n (bj P t),ev fr y with
    | true,.agg cs=>av a fun p=>cs.size=n∧(∀v∈cs.toList,one? v True)∧ax w p cs.toList fun w'=>K undef w'
    | _,_=>False)
   | _=>match Nat.beq (ev fr y).cells.toList.length (bj P t) && hasType P t with
    | true=>av a fun p=>mX (ev fr y).cells.toList (ax w p (ev fr y).cells.toList fun w'=>K undef w')
    | false=>False
  | _=>False)
 rw [hx,hrow,hy]
 simp only [hT,hn,Bool.and_self]
 exact ak p rfl ⟨hc,h1,h⟩
theorem u7 {t:TypeId} {x y:Operand} {K:ff U}(hI:Inv w0 k0 X0 may st.rs X w)(hk:aA st.rs fr st.kn)(h:tE U P may k0 t (kf st.kn x) (ev fr y) st K) {Y:Bool} {dst:Option Tmp} {ty:TypeId} {pos:String} {after:Array Edge} {gd:Option (Nat×Bool)}:
 opW P Y none ⟨dst,.store t x y,ty,pos,after,gd⟩ (ev fr) w fun v w'=>∃k st' X' M,K v k st'∧KnO st'.rs v k∧ep w0 k0 X0 may fr st X w st' X' w' M:=by
 unfold tE at h
 have hkx:=hk.kf x
 split at h
 ·rename_i n id path off cs hrow hkn hy
  rw [hkn]at hkx
  split at h
  ·rename_i tt r s hb hn hcan
   obtain⟨h,h1⟩:=fB h
   simp only [Bool.and_eq_true]at hb
   split at h
   ·rename_i c s' hst
    obtain⟨hc,hK⟩:=h
    have hd:den U st.rs (.obj id path off)=some (ev fr x):=hkx
    simp only [den,PK.id,hn,bS,Option.some.injEq]at hd
    have hp:U.pred tt r s (X id) w:=hI.sat.res id _ hn
    exact yq (p:=⟨r path,off,none⟩) hd.symm hrow hy hb.2.1 (by have:=Nat.eq_of_beq_eq_true hb.2.2;simpa using this) hb.1 h1 (U.C0 hp hst hc fun w2 hp2 hq=>tN hI hk hn hcan hq hp2 hK)
   ·exact h.elim
  ·exact h.elim
 ·exact h.elim
theorem yr {t:TypeId} {x y:Operand} {K:ff U}(hI:Inv w0 k0 X0 may st.rs X w)(hk:aA st.rs fr st.kn)(h:yu U P may k0 t (kf st.kn x) (ev fr y) (kf st.kn y) st K) {Y:Bool} {dst:Option Tmp} {ty:TypeId} {pos:String} {after:Array Edge} {gd:Option (Nat×Bool)}:
 opW P Y none ⟨dst,.store t x y,ty,pos,after,gd⟩ (ev fr) w fun v w'=>∃k st' X' M,K v k st'∧KnO st'.rs v k∧ep w0 k0 X0 may fr st X w st' X' w' M:=by
 unfold yu at h
 split at h
 ·exact u7 hI hk h
 split at h
 ·exact h.elim
 rename_i hck
 simp only [Bool.and_eq_true,Bool.not_eq_true']at hck
 obtain⟨hrow,hsz,hT⟩:=hck
 have hsz':(ev fr y).cells.toList.length=bj P t:=Nat.eq_of_beq_eq_true hsz
 have hkx:=hk.kf x
 have hky:=hk.kf y
 split at h
 ·rename_i id off hkn
  rw [hkn]at hkx
  split at h
  ·rename_i g cs T hn hcan
   split at h
   ·rename_i hb
    obtain⟨h,h1⟩:=fB h
    have hb:off+bj P t≤cs.length:=Nat.le_of_ble_eq_true hb
    have hd:den U st.rs (.loc id off)=some (ev fr x):=hkx
    simp only [den,PK.id,hn,bS,Option.some.injEq]at hd
    obtain⟨hg,hX,hbl⟩:=hI.sat.res id _ hn
    refine iI hd.symm hrow hsz hT h1 ⟨g,off,⟨cs⟩,T,rfl,hbl,by simpa [hsz']using hb,fun w2 hs=>?_⟩
    rw [nO]at hs
    have q:Ch (X id) w w2:=(bq.ch hs).mono fun k e=>e▸hg
    refine⟨none,_,X,[id],h,trivial,o7 hI hk hn hcan q (.blk g cs (fV cs off (ev fr y).cells.toList) T (by simp)) (show RS (X id) w2 (.blk g (fV cs off (ev fr y).cells.toList) T)from⟨hg,hX,hs.blk⟩) ?_⟩
    have hroot:∀i,i∈ [id]→∀a,nth st.rs i=some a→∃b,nth (bY st.rs id (.blk g (fV cs off (ev fr y).cells.toList) T)) i=some b∧cU a b:=by
     intro i hi a ha
     simp at hi
     subst hi
     rw [hn]at ha
     injection ha with ha
     subst ha
     exact⟨_,by rw [bp,if_pos ⟨rfl,aP hn⟩],.blk _ _ _ _ (by simp)⟩
    have hs2:∀i,i<st.rs.length→i ∉ [id]→nth (bY st.rs id (.blk g (fV cs off (ev fr y).cells.toList) T)) i=nth st.rs i:=fun i _ hi=>by rw [bp,if_neg (fun hh=>hi (by simp [hh.1]))]
    have hnl:∀ {k:Kn} {v:Value},gY st.rs v k→∀p,k.has p→p.id ∉ [id]∨p.ofList p.id=false:=by
     intro k v hkv p hp
     by_cases hpi:p.id=id
     ·right
      cases ho:p.ofList p.id
      ·rfl
      ·exfalso
       have hdd:∃u,den U st.rs p=some u:=by
        cases k with
        | p k=>cases hp;exact⟨_,hkv⟩
        | t l=>obtain⟨j,hj⟩:=hp;obtain⟨vs,_,h3⟩:=hkv;obtain⟨u,_,hu⟩:=h3 j p hj;exact⟨u,hu⟩
        | ag l=>obtain⟨j,hj⟩:=hp;obtain⟨vs,_,h3⟩:=hkv;obtain⟨u,_,hu⟩:=h3 j p hj;exact⟨u,hu⟩
        | f a b=>
         obtain⟨f,fs,cs,_,_,h3,h4⟩:=hkv
         rcases hp with⟨j,hj⟩ | ⟨j,hj⟩
         ·obtain⟨u,_,hu⟩:=h3 j p hj;exact⟨u,hu⟩
         ·obtain⟨u,_,hu⟩:=h4 j p hj;exact⟨u,hu⟩
       obtain⟨u,hu⟩:=hdd
       unfold den at hu
       rw [hpi,hn]at hu
       cases p<;>simp_all [bS,PK.ofList,PK.id,jo]
     ·exact .inl (by simpa using hpi)
    refine aA.app ?_ (hk.jr hs2 hroot fun key k hm=>?_)
    ·intro key q hq
     obtain⟨j,u0,rfl,hu0,hkv⟩:=n0 hky hq
     refine⟨g,_,T,u0,by rw [bp,if_pos ⟨rfl,aP hn⟩],?_,hkv.mono fun p hp u hu=>qg hs2 hroot (hnl hkv p hp) hu⟩
     have hj:=aP hu0
     rw [kq _ _ _ _ (by omega),if_pos ⟨by omega,by omega⟩,show off+j - off=j by omega,hu0]
    ·obtain⟨hm1,hm2⟩:=dt hm
     have h0:=hk _ _ hm1
     refine⟨hm1,?_,fun id' off' e=>?_⟩
     ·cases key with
      | s i=>exact hnl h0
      | c i o=>obtain⟨_,_,_,_,_,_,h0⟩:=h0;exact hnl h0
      | l i o=>obtain⟨_,_,_,_,h0⟩:=h0;exact hnl h0
     ·subst e
      by_cases hi:id'=id
      ·subst hi
       right
       obtain⟨g',cs',T',v,e1,_⟩:=h0
       rw [hn]at e1
       injection e1 with e1
       injection e1 with e1 e2 e3
       subst e1;subst e2;subst e3
       refine⟨g,cs,_,T,hn,by rw [bp,if_pos ⟨rfl,aP hn⟩],?_⟩
       rw [kq _ _ _ _ (by omega),if_neg]
       simp only [Key.Al,Nat.beq_refl,Bool.true_and,Bool.not_eq_true',Bool.and_eq_false_iff]at hm2
       rintro⟨h3,h4⟩
       rcases hm2 with h5 | h5
       ·rw [Nat.ble_eq_true_of_le h3]at h5;cases h5
       ·have:Nat.blt off' (off+bj P t)=true:=by rw [Nat.blt_eq];omega
        rw [this]at h5;cases h5
      ·exact .inl (by simpa using hi)
   ·exact h.elim
  ·exact h.elim
 ·rename_i id i off hkn
  rw [hkn]at hkx
  split at h
  ·rename_i tt T A c l hn hcan
   split at h
   ·rename_i hb
    obtain⟨h,h1⟩:=fB h
    have hb:off+bj P t≤(U.en tt).size:=Nat.le_of_ble_eq_true hb
    obtain⟨x',hx',hK⟩:=cE h
    have hd:den U st.rs (.el id 0 i off)=some (ev fr x):=hkx
    simp only [den,PK.id,hn,bS,jo]at hd
    split at hd
    case isFalse=>cases hd
    rename_i hr
    injection hd with hd
    obtain⟨ho,hlt⟩:Own w (X id) T A l.length c l∧∀k,X id k→k<w.heap.size:=hI.sat.res id _ hn
    have hnn:i.toNat<l.length:=by omega
    obtain⟨g,hA,hZ,hgl⟩:=ho.lt (by omega)
    have hll:=ho.len
    have hget:l[i.toNat]? =some (l.getD i.toNat (U.df tt)):=by rw [List.getD_eq_getElem?_getD,List.getElem?_eq_getElem (by omega)];rfl
    have hdec:=U.iB hx'
    have hel:(U.en tt).enc (l.getD i.toNat (U.df tt))=enc (l.getD i.toNat (U.df tt)):=rfl
    have hlen:(enc (l.getD i.toNat (U.df tt))).length=(U.en tt).size:=bK _
    have hspl:enc x'=(enc (l.getD i.toNat (U.df tt))).take off++(ev fr y).cells.toList++(enc (l.getD i.toNat (U.df tt))).drop (off+(ev fr y).cells.toList.length):=by
     show(U.en tt).enc x'=_
     rw [hdec,hel]
     exact nN _ _ _ (by rw [hlen,hsz'];exact hb)
    refine iI (p:=elA U tt A i off) hd.symm hrow hsz hT h1 ?_
    have hst:=ho.st (p:=Addr.mk g 0 none) hA hnn hget (o:=off) (vs:=(ev fr y).cells.toList) (by rw [hsz'];exact hb) hspl (K:=fun w2=>∃k st' X' M,K undef k st'∧KnO st'.rs undef k∧ep w0 k0 X0 may fr st X w st' X' w2 M) (fun w2 ho2 hq=>by
     refine step_done (k:=none) (st':=⟨bY st.rs id (.lst tt true T A c (l.set i.toNat x')),st.kn,id::st.md⟩) (o7 hI hk hn hcan hq (.lst tt true T A A c c l (l.set i.toNat x')) (show RS (X id) w2 (.lst tt true T A c (l.set i.toNat x'))from⟨by rw [List.length_set];exact ho2,fun k hk=>Nat.lt_of_lt_of_le (hlt k hk) hq.size⟩) ?_) trivial hK
     refine hk.roots fun j a ha=>?_
     by_cases hj:j=id
     ·subst hj
      rw [hn]at ha
      injection ha with ha
      exact⟨_,by rw [bp,if_pos ⟨rfl,aP hn⟩],.inr ⟨_,_,_,_,_,_,_,ha.symm,rfl,List.length_set ..⟩⟩
     ·exact⟨a,by rw [bp,if_neg (fun hh=>hj hh.1)];exact ha,.inl rfl⟩)
    unfold elA
    rw [hA]
    exact hst
   ·exact h.elim
  ·rename_i tt r s hn hcan
   split at h
   ·rename_i L hL
    split at h
    ·rename_i hb
     obtain⟨h,h1⟩:=fB h
     have hb:off+bj P t≤(U.en L.t).size:=Nat.le_of_ble_eq_true hb
     obtain⟨x',hx',h⟩:=cE h
     split at h
     ·rename_i c s' hst
      obtain⟨hc,hK⟩:=h
      have hd:den U st.rs (.el id 0 i off)=some (ev fr x):=hkx
      simp only [den,PK.id,hn,bS,jo,hL]at hd
      split at hd
      case isFalse=>cases hd
      rename_i hr
      injection hd with hd
      have hp:U.pred tt r s (X id) w:=hI.sat.res id _ hn
      have hget:L.l[i.toNat]? =some (L.l.getD i.toNat (U.df L.t)):=by rw [List.getD_eq_getElem?_getD,List.getElem?_eq_getElem (by omega)];rfl
      have hdec:=U.iB hx'
      have hlen:((U.en L.t).enc (L.l.getD i.toNat (U.df L.t))).length=(U.en L.t).size:=(U.en L.t).len _
      have hspl:(U.en L.t).enc x'=((U.en L.t).enc (L.l.getD i.toNat (U.df L.t))).take off++(ev fr y).cells.toList++((U.en L.t).enc (L.l.getD i.toNat (U.df L.t))).drop (off+(ev fr y).cells.toList.length):=by
       rw [hdec]
       exact nN _ _ _ (by rw [hlen,hsz'];exact hb)
      refine iI (p:=elA U L.t L.A i off) hd.symm hrow hsz hT h1 ?_
      exact U.GO hp hL hget (by rw [hsz'];exact hb) hspl hst hc fun w2 hp2 hq=>tN hI hk hn hcan hq hp2 hK
     ·exact h.elim
    ·exact h.elim
   ·exact h.elim
  ·exact h.elim
 ·rename_i id path off hkn
  rw [hkn]at hkx
  split at h
  ·rename_i tt r s v hn hcan hcs
   obtain⟨h,h1⟩:=fB h
   split at h
   ·rename_i c s' hst
    obtain⟨hc,hK⟩:=h
    have hd:den U st.rs (.obj id path off)=some (ev fr x):=hkx
    simp only [den,PK.id,hn,bS,Option.some.injEq]at hd
    have hp:U.pred tt r s (X id) w:=hI.sat.res id _ hn
    rw [hcs]at hsz'
    refine iI (p:=⟨r path,off,none⟩) hd.symm hrow hsz hT (by rw [hcs];exact h1) ?_
    rw [hcs]
    exact U.GX hp hst hc fun w2 hp2 hq=>tN hI hk hn hcan hq hp2 hK
   ·exact h.elim
  ·rename_i tt r s v v2 vs hn hcan hcs
   obtain⟨h,h1⟩:=fB h
   split at h
   ·rename_i c s' hst
    obtain⟨hc,hK⟩:=h
    have hd:den U st.rs (.obj id path off)=some (ev fr x):=hkx
    simp only [den,PK.id,hn,bS,Option.some.injEq]at hd
    have hp:U.pred tt r s (X id) w:=hI.sat.res id _ hn
    refine iI (p:=⟨r path,off,none⟩) hd.symm hrow hsz hT (by rw [hcs];exact h1) ?_
    rw [hcs]
    exact U.C0 hp hst hc fun w2 hp2 hq=>tN hI hk hn hcan hq hp2 hK
   ·exact h.elim
  ·exact h.elim
 ·exact h.elim
theorem BL {t:TypeId} {z:Value}(h:(P.info? t).bind (·.zero)=some z)(w:World):(Instr.alloc t true (.tuple #[])).run P w= .ok (.pointer (some ⟨w.heap.size,0,none⟩)) (w.alloc (.cells z.cells t)):=by
 cases hi:P.info? t with
 | none=>rw [hi]at h;cases h
 | some i=>
  rw [hi]at h
  have h:i.zero=some z:=h
  have hz:(zeroValue t).run P w= .ok z w:=by
   unfold zeroValue
   rw [Sem.run_bind,run_typeInfo (w:=w) hi,Result.andThen_ok,h]
   rfl
  unfold Instr.alloc
  rw [Sem.run_bind,hz,Result.andThen_ok]
  rfl
theorem vB {cs:List Value} {T:TypeId} {ck:Option Kn} {K:ff U}(hI:Inv w0 k0 X0 may st.rs X w)(hk:aA st.rs fr st.kn) {v0:Value}(hck:KnO st.rs v0 ck)(hcs:ck=none∨v0.cells.toList=cs)(h:FQ U cs T ck st K):
 ∃k st' X' M,K (.pointer (some ⟨w.heap.size,0,none⟩)) k st'∧KnO st'.rs (.pointer (some ⟨w.heap.size,0,none⟩)) k∧ep w0 k0 X0 may fr st X w st' X' (w.alloc (.cells ⟨cs⟩ T)) M:=by
 have hm:Made w w.heap.size ⟨cs⟩ T (w.alloc (.cells ⟨cs⟩ T)):=made rfl rfl
 unfold FQ at h
 split at h
 ·rename_i t s hmk
  have hlast:nth (st.rs++ [Res.ob t (fun _=>w.heap.size) s]) st.rs.length=some (.ob t (fun _=>w.heap.size) s):=by rw [aW,if_neg (by omega),Nat.sub_self];rfl
  refine step_done (mP hI hk hm.pu (Z:=fun k=>k=w.heap.size) (show RS (fun k=>k=w.heap.size) _ (.ob t (fun _=>w.heap.size) s)from U.Dw hmk hm.blk) (fun k e=>by rw [e];exact Nat.le_refl _) (oK hk _)) ?_ (h w.heap.size)
  show den U _ (.obj _ 0 0)=_
  simp only [den,PK.id,hlast,bS]
 have hlast:nth (st.rs++ [Res.blk w.heap.size cs T]) st.rs.length=some (.blk w.heap.size cs T):=by rw [aW,if_neg (by omega),Nat.sub_self];rfl
 refine⟨_,_,_,[],h w.heap.size,?_,mP hI hk hm.pu (Z:=fun k=>k=w.heap.size) (show RS (fun k=>k=w.heap.size) _ (.blk w.heap.size cs T)from⟨rfl,fun _ h=>h,hm.blk⟩) (fun k e=>by rw [e];exact Nat.le_refl _) (aA.app ?_ (oK hk _))⟩
 ·show den U _ (.loc _ 0)=_
  simp only [den,PK.id,hlast,bS]
 ·intro key q hq
  obtain⟨j,u,rfl,hu,hkv⟩:=n0 hck hq
  rcases hcs with rfl | hcs
  ·cases hq
  rw [hcs]at hu
  rw [Nat.zero_add]
  exact⟨_,cs,T,u,hlast,hu,hkv.mono fun p hp u hu=>qg (M:= []) (fun i hi _=>by rw [aW,if_pos hi]) (fun i hi=>by cases hi) (.inl (by simp)) hu⟩
theorem vY {tt:Nat}:∀ {n:Nat} {cs:List Value} {l:List (U.el tt)},BA U tt n cs=some l→l.length=n∧l.flatMap enc=cs
 | 0,[],l,h=>by simp only [BA,Option.some.injEq]at h;subst h;exact⟨rfl,rfl⟩
 | 0,_::_,l,h=>by simp [BA]at h
 | n+1,cs,l,h=>by
  simp only [BA]at h
  split at h
  ·rename_i x r hx hr
   injection h with h
   subst h
   obtain⟨h1,h2⟩:=vY hr
   refine⟨by simp [h1],?_⟩
   have h3:enc x=iG (U.en tt).size cs:=U.iB hx
   rw [List.flatMap_cons,h2,h3,eC,fk,List.take_append_drop]
  ·cases h
theorem ph {t e:TypeId} {tt:Nat} {ie:TypeInfo} {z:Value}(h:Da U P t=some (e,tt,ie,z)):SN P t e z (U.en tt).size ie.bytes∧P.info? e=some ie∧ie.zero=some z∧ie.size=(U.en tt).size∧0<ie.bytes:=by
 unfold Da at h
 split at h
 ·rename_i e' hu
  split at h
  ·rename_i tt' ie' _ hi
   split at h
   ·rename_i z' hz
    split at h
    ·rename_i hb
     simp only [Option.some.injEq,Prod.mk.injEq]at h
     obtain⟨rfl,rfl,rfl,rfl⟩:=h
     simp only [Bool.and_eq_true]at hb
     have h1:=Nat.eq_of_beq_eq_true hb.1
     have h2:=Nat.eq_of_beq_eq_true hb.2.1
     have h3:0<ie'.bytes:=by simpa [Nat.blt_eq]using hb.2.2
     exact⟨⟨hu,⟨ie',hi,hz,h1,rfl⟩,by rw [← h1,← h2];simp,(U.en tt').pos⟩,hi,hz,h1,h3⟩
    ·cases h
   ·cases h
  ·cases h
 ·cases h
theorem C9 {tt:Nat} {x:Operand} {F:List (U.el tt)→Prop}(hS:Sat st.rs X w)(hk:aA st.rs fr st.kn)(h:Hh U tt (ev fr x) (kf st.kn x) st F):∃(l:List (U.el tt))(A:Option Addr)(c:Nat)(Y:Nat→Prop),ev fr x= .slice A l.length c∧Rd w Y A l.length c l∧F l:=by
 have hkx:=hk.kf x
 unfold Hh at h
 split at h
 ·rename_i id li hkn
  rw [hkn]at hkx
  have hd:den U st.rs (.sl id li)=some (ev fr x):=hkx
  split at h
  ·rename_i r hn
   split at h
   ·rename_i L hL
    simp only [den,PK.id,hn,bS,hL,Option.some.injEq]at hd
    split at h
    ·rename_i ht
     have hr:=(hS.res id _ hn).ls hL
     obtain⟨t',A,c,l⟩:=L
     cases ht
     exact⟨l,A,c,_,hd.symm,hr,h⟩
    ·exact h.elim
   ·exact h.elim
  ·exact h.elim
 ·split at h
  ·rename_i d hx
   exact⟨[],none,d,_,hx,Rd.nil,h⟩
  ·exact h.elim
theorem vH {rs:List (Res U)} {r:Res U}:nth (rs++ [r]) rs.length=some r:=by rw [aW,if_neg (by omega),Nat.sub_self];rfl
theorem pS {tt:Nat} {T:TypeId} {A:Option Addr} {c:Nat} {l:List (U.el tt)} {K:ff U}(hI:Inv w0 k0 X0 may st.rs X w)(hk:aA st.rs fr st.kn) {w':World}(q:Pu w w') {Z:Nat→Prop}(ho:Own w' Z T A l.length c l)(hz:∀k,Z k→w.heap.size≤k) {v:Value}(hv:v= .slice A l.length c)
 (h:nmL (st.rs++ [.lst tt true T A c l]) [st.rs.length] fun rs2=>K v (some (.p (.sl st.rs.length 0))) ⟨rs2,st.kn,st.md⟩):
 ∃k st' X' M,K v k st'∧KnO st'.rs v k∧ep w0 k0 X0 may fr st X w st' X' w' M:=by
 refine step_done (st':=⟨st.rs++ [.lst tt true T A c l],st.kn,st.md⟩) (mP hI hk q (Z:=fun k=>Z k∧k<w'.heap.size) (show RS (fun k=>Z k∧k<w'.heap.size) _ (.lst tt true T A c l)from⟨ho.narrow,fun k hk=>hk.2⟩) (fun k hk=>hz k hk.1) (oK hk _)) ?_ h
 show den U _ (.sl _ 0)=_
 simp only [den,PK.id,vH,bS,jo,hv]
theorem AZ(hI:Inv w0 k0 X0 may st.rs X w) {i:Nat} {a b:Res U}(ha:nth st.rs i=some a)(hc:ni may k0 i=true) {w':World}(q:Ch (X i) w w')(hrt:cU a b) {Z:Nat→Prop}(hb:RS Z w' b)(hz:∀k,Z k→X i k∨w.heap.size≤k) {kn':List (Key×Kn)}(hkn:aA (bY st.rs i b) fr kn'):
 ep w0 k0 X0 may fr st X w ⟨bY st.rs i b,kn',i::st.md⟩ (tD X i Z) w' [i]:=by
 have hi:=aP ha
 exact⟨hI.set hi (fG hc) q hb hz,hkn,rfl,fun j hj=>by simp at hj;subst hj;exact hi,fun j hj=>by simp at hj;subst hj;exact fG hc,by simp,fun j hj hji=>⟨by rw [bp,if_neg (fun hh=>hji (by simp [hh.1]))],lI _ _ (by simpa using hji)⟩,fun j hj k hk=>by
  simp at hj;subst hj;rw [updX_eq]at hk;exact hz k hk,fun j h1 h2=>by simp at h2;omega,q.mono fun k hk=>⟨i,by simp,hk⟩,fun j c hj=>by
  by_cases hji:j=i
  ·subst hji
   rw [ha]at hj
   injection hj with hj
   subst hj
   exact⟨b,by rw [bp,if_pos ⟨rfl,hi⟩],hrt⟩
  ·exact⟨c,by rw [bp,if_neg (fun hh=>hji hh.1)];exact hj,cU.refl c⟩⟩
theorem yM {tt:Nat} {z:Value} {x:U.el tt}(hx:enc x=z.cells.toList)(n:Nat):(List.replicate n x).flatMap enc=(madeCells z.cells (n*(U.en tt).size)).toList:=by
 have hs:z.cells.size=(U.en tt).size:=by have:=bK x;rw [hx]at this;simpa using this
 have hp:0<Enc.size (U.el tt):=Enc.pos
 apply List.ext_getElem?
 intro j
 by_cases hj:j<n*Enc.size (U.el tt)
 ·have hq:j / Enc.size (U.el tt)<n:=(Nat.div_lt_iff_lt_mul hp).2 hj
  have hr:j % Enc.size (U.el tt)<Enc.size (U.el tt):=Nat.mod_lt _ hp
  have h4:=flat_get (List.replicate n x) (j / Enc.size (U.el tt)) (j % Enc.size (U.el tt)) x (by rw [List.getElem?_replicate,if_pos hq]) hr
  have h5:j / Enc.size (U.el tt)*Enc.size (U.el tt)+j % Enc.size (U.el tt)=j:=by rw [Nat.mul_comm];exact Nat.div_add_mod j _
  rw [h5]at h4
  rw [h4,hx]
  have hj':j<n*(U.en tt).size:=hj
  have hr':j % (U.en tt).size<z.cells.size:=by rw [hs];exact hr
  have e1:(madeCells z.cells (n*(U.en tt).size)).toList[j]? =some (z.cells[j % z.cells.size]!):=by
   simp [madeCells,hj']
  rw [e1,hs]
  show z.cells.toList[j % (U.en tt).size]? =_
  rw [Array.getElem?_toList,Array.getElem?_eq_getElem hr',getElem!_pos z.cells _ hr']
 ·rw [List.getElem?_eq_none (by rw [dL,List.length_replicate];omega),List.getElem?_eq_none (by rw [Array.length_toList,size_madeCells];exact Nat.le_of_not_lt hj)]
theorem pH {Y:Bool} {Qp:Option (List PanicEntry→World→Prop)} {o:Oper} {ρ:Operand→Value} {K K':ay}(h:opW P Y Qp o ρ w K)(hK:∀v w',K v w'→K' v w'):opW P Y Qp o ρ w K':=by
 refine⟨h.1,?_⟩
 have h2:=h.2
 generalize (execOp ρ o).run P w=r at h2 ⊢
 cases r with
 | ok nx w'=>
  cases nx<;>simp only [Out]at h2 ⊢
  case value v=>exact hK _ _ h2
  case skip=>exact hK _ _ h2
  case enter f args=>exact h2.mono fun e w'' he=>he.imp (fun⟨v,h1,h2⟩=>⟨v,h1,hK _ _ h2⟩) id
  case round l f tmps assign body=>exact⟨h2.1,h2.2.mono fun e w'' he=>he.imp (fun⟨v,h1,h2⟩=>⟨v,h1,hK _ _ h2⟩) id⟩
 | halt x w'=>
  cases x<;>simp only [Out]at h2 ⊢
  exact h2
theorem Inv.GN {rs rs':List (Res U)}(h:Inv w0 k0 X0 may rs X w)(hl:rs'.length≤rs.length)(he:∀i,i<rs'.length→nth rs' i=nth rs i)(hk:k0≤rs'.length):Inv w0 k0 X0 may rs' X w:=
 ⟨⟨fun i r hr=>h.sat.res i r (by rw [← he i (aP hr)];exact hr),fun i j hi hj=>h.sat.dis i j (by omega) (by omega)⟩,h.ch,h.old,fun i h1 h2=>h.new i h1 (by omega),hk⟩
theorem DT:∀ {s:Sh} {F:Value→Prop},IA s F→∃v,F v
 | .int _,_,⟨_,h⟩=>⟨_,h⟩
 | .bool,_,⟨_,h⟩=>⟨_,h⟩
 | .str,_,⟨_,h⟩=>⟨_,h⟩
 | .ptr,_,⟨_,h⟩=>⟨_,h⟩
 | .slice,_,⟨_,h⟩=>⟨_,h⟩
 | .map,_,⟨_,h⟩=>⟨_,h⟩
 | .val,_,⟨_,h⟩=>⟨_,h⟩
theorem Aa {α:Type} {F:α→Prop}:∀ {l:List α},orL F l→∃a,F a
 | [a],h=>⟨a,h⟩
 | a::b::r,h=>by
  rcases h with h | h
  ·exact⟨a,h⟩
  ·exact Aa (l:=b::r) h
theorem FW {args:List Operand}(hk:aA st.rs fr st.kn):∀j v k,nth (aJ (ev fr) args) j=some v→nth (aJ (V.kf st.kn) args) j=some k→KnO st.rs v k:=by
 intro j v k h1 h2
 rw [bD]at h1 h2
 cases hn:nth args j with
 | none=>rw [hn]at h1;cases h1
 | some x=>
  rw [hn]at h1 h2
  injection h1 with h1
  injection h2 with h2
  subst h1;subst h2
  exact hk.kf x
theorem DG {rs:List (Res U)} {a1 a2:List Value} {k1 k2:List (Option Kn)}(hl:a1.length=k1.length)(h1:∀j v k,nth a1 j=some v→nth k1 j=some k→KnO rs v k)(h2:∀j v k,nth a2 j=some v→nth k2 j=some k→KnO rs v k):∀j v k,nth (a1++a2) j=some v→nth (k1++k2) j=some k→KnO rs v k:=by
 intro j v k hj hkj
 rw [aW]at hj hkj
 by_cases hc:j<a1.length
 ·rw [if_pos hc]at hj
  rw [if_pos (by omega)]at hkj
  exact h1 j v k hj hkj
 ·rw [if_neg hc]at hj
  rw [if_neg (by omega),← hl]at hkj
  exact h2 _ v k hj hkj
theorem G3 {K:ff U} {Y:Bool} {dst:Option Tmp} {ty:TypeId} {pos:String} {after:Array Edge} {gd:Option (Nat×Bool)} {f:Operand} {args:Array Operand} {ats:Array TypeId} {f':Nat} {first cap:Array Value} {ks:List (Option Kn)}(htb:∀f c,tbl.c f=some c→LV U P f c∧bU P f=true)(hI:Inv w0 k0 X0 may st.rs X w)(hk:aA st.rs fr st.kn)(hf:ev fr f= .func (.func f') first cap)
 (hks:∀j v k,nth (first.toList++(aJ (ev fr) args.toList++cap.toList)) j=some v→nth ks j=some k→KnO st.rs v k)(h:call2 U tbl may k0 f' (first.toList++(aJ (ev fr) args.toList++cap.toList)) ks st K):
 opW P Y none {dst:=dst,op:= .call {callee:= .value f,args:=args,argTypes:=ats},type:=ty,pos:=pos,after:=after,guard:=gd} (ev fr) w fun v w'=>∃k st' X' M,K v k st'∧KnO st'.rs v k∧ep w0 k0 X0 may fr st X w st' X' w' M:=by
 have hcall:bU P f'=true:=by
  unfold call2 at h
  split at h
  ·exact h.elim
  ·rename_i c hc;exact(htb f' c hc).2
 refine⟨rfl,?_⟩
 have h1:=gQ (P:=P) (C:= [f']) (f:=f') (by simp [ez,hcall]) (by simp) (first++args.map (ev fr)++cap) w
 have hr:(execOp (ev fr) {dst:=dst,op:= .call {callee:= .value f,args:=args,argTypes:=ats},type:=ty,pos:=pos,after:=after,guard:=gd}).run P w= .ok (.enter f' (first++args.map (ev fr)++cap)) w:=by
  simp only [execOp,resolve,hf,Deferred.ofValue]
  rw [Sem.run_bind]
  exact h1
 rw [hr]
 have ha:(⟨first.toList++(aJ (ev fr) args.toList++cap.toList)⟩:Array Value)=first++args.map (ev fr)++cap:=by
  apply Array.ext'
  simp [gJ]
 have:=BJ (fun f c h=>(htb f c h).1) hI hk hks h
 rw [ha]at this
 refine this.mono fun e w' hp=>?_
 obtain⟨v,k,st',X',M,h1,h2,h3,h4⟩:=hp
 exact .inl ⟨v,h1,k,st',X',M,h2,h3,h4⟩
theorem wj {K:ff U} {Y:Bool} {dst:Option Tmp} {ty:TypeId} {pos:String} {after:Array Edge} {gd:Option (Nat×Bool)} {f:Operand} {args:Array Operand} {ats:Array TypeId}(htb:∀f c,tbl.c f=some c→LV U P f c∧bU P f=true)(hI:Inv w0 k0 X0 may st.rs X w)(hk:aA st.rs fr st.kn)
 (h:Ay U tbl may k0 (ev fr f) (aJ (ev fr) args.toList) (aJ (V.kf st.kn) args.toList) st K):
 opW P Y none {dst:=dst,op:= .call {callee:= .value f,args:=args,argTypes:=ats},type:=ty,pos:=pos,after:=after,guard:=gd} (ev fr) w fun v w'=>∃k st' X' M,K v k st'∧KnO st'.rs v k∧ep w0 k0 X0 may fr st X w st' X' w' M:=by
 obtain⟨r,h1,hK⟩:=DT h
 obtain⟨⟨f',az,bs⟩,h2⟩:=Aa h1
 dsimp only at h2
 split at h2
 ·rename_i hd
  simp only [Bool.and_eq_true]at hd
  obtain⟨hf,h2⟩:=h2
  have pk:∀ {l:List PK},iT (F2 st.rs) l=true→∀j v k,nth (aJ (dv st.rs) l) j=some v→nth (aJ (fun p=>some (Kn.p p)) l) j=some k→KnO st.rs v k:=by
   intro l hl j v k hj hkj
   rw [bD]at hj hkj
   cases hn:nth l j with
   | none=>rw [hn]at hj;cases hj
   | some p=>
    rw [hn]at hj hkj
    injection hj with hj
    injection hkj with hkj
    subst hj;subst hkj
    have:=cm.1 hl p (ij hn)
    unfold F2 at this
    show den U st.rs p=some (dv st.rs p)
    unfold dv
    split at this
    ·rename_i u hu;rw [hu];rfl
    ·cases this
  refine pH (G3 (K:=_) (first:=⟨aJ (dv st.rs) az⟩) (cap:=⟨aJ (dv st.rs) bs⟩) htb hI hk hf (DG (by simp) (pk hd.1) (DG (by simp) (FW hk) (pk hd.2))) h2) fun v w' hp=>?_
  obtain⟨k,st',X',M,g1,g2,g3⟩:=hp
  split at g1
  ·rename_i hl
   subst g1
   simp only [Bool.and_eq_true]at hl
   have l1:=Nat.eq_of_beq_eq_true hl.1
   have l2:=Nat.eq_of_beq_eq_true hl.2
   have hM:M= []:=by
    have:=g3.md
    rw [this,List.length_append]at l2
    exact List.eq_nil_of_length_eq_zero (by omega)
   subst hM
   refine⟨none,st,X',[],hK,trivial,g3.inv.GN (by omega) (fun i hi=>(g3.same i hi (by simp)).1.symm) hI.len,hk,rfl,fun i hi=>(by cases hi),fun i hi=>(by cases hi),Nat.le_refl _,fun i hi _=>⟨rfl,(g3.same i hi (by simp)).2⟩,fun i hi=>(by cases hi),fun i h1 h2=>by omega,g3.ch,fun i a ha=>⟨a,ha,cU.refl a⟩⟩
  ·exact g1.elim
 ·exact h2.elim
theorem Dx {o:Oper} {K:ff U} {Y:Bool}(htb:∀f c,tbl.c f=some c→LV U P f c∧bU P f=true)(hI:Inv w0 k0 X0 may st.rs X w)(hk:aA st.rs fr st.kn)(h:Hy U P tbl may k0 o (ev fr) st K):
 opW P Y none o (ev fr) w fun v w'=>∃k st' X' M,K v k st'∧KnO st'.rs v k∧ep w0 k0 X0 may fr st X w st' X' w' M:=by
 obtain⟨dst,op,ty,pos,after,gd⟩:=o
 cases op<;>simp only [Hy]at h<;>skip
 case store t x y=>exact yr hI hk h
 case alloc t=>
  split at h
  ·rename_i z hz
   refine⟨rfl,?_⟩
   have hr:(execOp (ev fr) ⟨dst,.alloc t,ty,pos,after,gd⟩).run P w= .ok (.value (.pointer (some ⟨w.heap.size,0,none⟩))) (w.alloc (.cells z.cells t)):=by
    simp [execOp,BL hz]
   rw [hr]
   exact vB hI hk (v0:=undef) (ck:=none) trivial (.inl rfl) h
  ·exact h.elim
 case box t x=>
  refine⟨rfl,?_⟩
  have hr:(execOp (ev fr) ⟨dst,.box t x,ty,pos,after,gd⟩).run P w= .ok (.value (.pointer (some ⟨w.heap.size,0,none⟩))) (w.alloc (.cells (ev fr x).cells t)):=rfl
  rw [hr]
  exact vB hI hk (hk.kf x) (.inr rfl) h
 case call c=>
  obtain⟨cal,args,ats⟩:=c
  simp only at h
  split at h
  ·rename_i f
   split at h
   ·exact wj htb hI hk h
   split at h
   ·rename_i f' first cap hf
    refine G3 htb hI hk hf (fun j v k hj hkj=>?_) h
    ·
     have hargs:∀j v k,nth (aJ (ev fr) args.toList) j=some v→nth (aJ (V.kf st.kn) args.toList) j=some k→KnO st.rs v k:=by
      intro j v k h1 h2
      rw [bD]at h1 h2
      cases hn:nth args.toList j with
      | none=>rw [hn]at h1;cases h1
      | some x=>
       rw [hn]at h1 h2
       injection h1 with h1
       injection h2 with h2
       subst h1;subst h2
       exact hk.kf x
     have hfk:=hk.kf f
     have app:∀ {a1 a2:List Value} {k1 k2:List (Option Kn)},a1.length=k1.length→(∀j v k,nth a1 j=some v→nth k1 j=some k→KnO st.rs v k)→(∀j v k,nth a2 j=some v→nth k2 j=some k→KnO st.rs v k)→∀j v k,nth (a1++a2) j=some v→nth (k1++k2) j=some k→KnO st.rs v k:=by
      intro a1 a2 k1 k2 hl h1 h2 j v k hj hkj
      rw [aW]at hj hkj
      by_cases hc:j<a1.length
      ·rw [if_pos hc]at hj
       rw [if_pos (by omega)]at hkj
       exact h1 j v k hj hkj
      ·rw [if_neg hc]at hj
       rw [if_neg (by omega),← hl]at hkj
       exact h2 _ v k hj hkj
     have pt:∀ {vs:Array Value} {l:List (Option PK)},(∀j k,nth l j=some (some k)→∃u,vs[j]? =some u∧den U st.rs k=some u)→∀j v k,nth vs.toList j=some v→nth (aJ (fun o:Option PK=>o.map Kn.p) l) j=some k→KnO st.rs v k:=by
      intro vs l hh j v k hj hkj
      rw [bD]at hkj
      cases hn:nth l j with
      | none=>rw [hn]at hkj;cases hkj
      | some o=>
       rw [hn]at hkj
       injection hkj with hkj
       subst hkj
       cases o with
       | none=>exact trivial
       | some p=>
        obtain⟨u,hu,hd⟩:=hh j p hn
        rw [aL]at hj
        simp at hj
        rw [hu]at hj
        injection hj with hj
        subst hj
        exact hd
     have no:∀ {vs:List Value},∀j v k,nth vs j=some v→nth (aJ (fun _:Value=>(none:Option Kn)) vs) j=some k→KnO st.rs v k:=by
      intro vs j v k hj hkj
      rw [bD,hj]at hkj
      injection hkj with hkj
      subst hkj
      exact trivial
     unfold Ix at hkj
     split at hkj
     ·rename_i a b hkf
      rw [hkf,hf]at hfk
      obtain⟨_,fs,cs,e,⟨hl1,hl2⟩,h3,h4⟩:=hfk
      injection e with _ e1 e2
      subst e1;subst e2
      exact app (by simp [hl1]) (pt h3) (app (by simp) hargs (pt h4)) j v k hj hkj
     ·exact app (by simp) no (app (by simp) hargs no) j v k hj hkj
   ·exact h.elim
  ·split at h
   ·rename_i x y t t' ha hat
    split at h
    ·rename_i e tt ie z hsl htt
     have htt:=Nat.eq_of_beq_eq_true htt
     subst htt
     obtain⟨hSN,hi,hz,hsz,hby0⟩:=ph hsl
     obtain⟨l2,B,d,Y2,hy,hrd,h⟩:=C9 hI.sat hk h
     have ha':args= #[x,y]:=by apply Array.ext';simpa using ha
     have hat':ats= #[t,t]:=by apply Array.ext';simpa using hat
     subst ha';subst hat'
     have key:∀ {A:Option Addr} {m c:Nat} {K':Value→World→Prop},ev fr x= .slice A m c→(∃(A':Option Addr)(n' c':Nat)(w2:World),(Builtin.append_ #[t,t] ty #[.slice A m c,.slice B l2.length d]:Sem Value).run P w= .ok (.slice A' n' c') w2∧K' (.slice A' n' c') w2)→
      opW P Y none {dst:=dst,op:= .call {callee:= .builtin .append,args:= #[x,y],argTypes:= #[t,t]},type:=ty,pos:=pos,after:=after,guard:=gd} (ev fr) w K':=by
      intro A m c K' hx hh
      obtain⟨A',n',c',w2,hr,hK⟩:=hh
      refine⟨rfl,?_⟩
      rw [oZ (s:=Builtin.append_ #[t,t] ty #[.slice A m c,.slice B l2.length d]) (by simp [u4,hx,hy]) w hr]
      exact hK
     split at h
     ·rename_i id hkn
      split at h
      ·rename_i tt' T A0 c0 l hn hcan
       split at h
       ·rename_i hT
        have hT:=Nat.eq_of_beq_eq_true hT
        subst hT
        split at h
        ·rename_i htt
         subst htt
         obtain⟨hbd,h⟩:=h
         have hkx:=hk.kf x
         rw [hkn]at hkx
         have hd:den U st.rs (.sl id 0)=some (ev fr x):=hkx
         simp only [den,PK.id,hn,bS,jo,Option.some.injEq]at hd
         obtain⟨ho,hlt⟩:Own w (X id) T A0 l.length c0 l∧∀k,X id k→k<w.heap.size:=hI.sat.res id _ hn
         have h63:l.length+l2.length≤9223372036854775807:=by
          have:=Nat.le_mul_of_pos_right (l.length+l2.length) hby0
          omega
         have fin:∀(A':Option Addr)(c':Nat)(w2:World)(Z:Nat→Prop),Own w2 Z T A' (l++l2).length c' (l++l2)→(∀k,Z k→X id k∨w.heap.size≤k)→Ch (X id) w w2→∃k st' X' M,K (.slice A' (l++l2).length c') k st'∧KnO st'.rs (.slice A' (l++l2).length c') k∧ep w0 k0 X0 may fr st X w st' X' w2 M:=by
          intro A' c' w2 Z ho2 hz2 hq
          have hroot:cU (Res.lst tt' true T A0 c0 l) (.lst tt' true T A' c' (l++l2)):= .lst _ _ _ _ _ _ _ _ _
          have hat:nth (bY st.rs id (Res.lst tt' true T A' c' (l++l2))) id=some (.lst tt' true T A' c' (l++l2)):=by rw [bp,if_pos ⟨rfl,aP hn⟩]
          refine step_done (st':=⟨bY st.rs id (.lst tt' true T A' c' (l++l2)),eU [id] st.kn,id::st.md⟩) (k:=some (.p (.sl id 0))) (AZ hI hn hcan hq hroot (Z:=fun k=>Z k∧k<w2.heap.size) (show RS _ w2 (.lst tt' true T A' c' (l++l2))from⟨ho2.narrow,fun k hk=>hk.2⟩) (fun k hk=>hz2 k hk.1) ?_) ?_ (h A' c')
          rotate_left
          ·show den U _ (.sl id 0)=_
           simp only [den,PK.id,hat,bS,jo]
          ·refine hk.eU (M:= [id]) (fun i _ hi=>by rw [bp,if_neg (fun hh=>hi (by simp [hh.1]))]) fun i hi a ha=>?_
           simp at hi
           subst hi
           rw [hn]at ha
           injection ha with ha
           subst ha
           exact⟨_,hat,hroot⟩
         refine key hd.symm ?_
         refine Own.apps (ho.mono (Y:=fun k=>X id k∨w.heap.size≤k) fun k hk=>.inl hk) hSN hrd h63 hbd (.inr (Nat.le_refl _)) (fun A' c' w2 ho2 hq=>?_) (fun h0 hB=>?_)
         ·rw [← List.length_append]at ho2 ⊢
          refine fin A' c' w2 _ ho2 (fun k hk=>hk) ⟨hq.kept.mono fun k hk=>⟨hk.1,fun hh=>hh.elim hk.2 (fun hh=>absurd hk.1 (Nat.not_lt.2 hh))⟩⟩
         ·have hl2:l2= []:=List.eq_nil_of_length_eq_zero h0
          subst hl2
          refine⟨_,_,_,_,run_append_nothing w t t ty T ie hSN.und hi A0 l.length c0 ho.own.D1 _ (Src.ofNil _ hSN.und d),?_⟩
          have:=fin A0 c0 w (X id) (by rw [List.append_nil];exact ho) (fun k hk=>.inl hk) (Ch.refl _ _)
          rw [List.append_nil]at this
          exact this
        ·exact h.elim
       ·exact h.elim
      ·exact h.elim
     ·split at h
      ·rename_i hx
       obtain⟨hbd,h⟩:=h
       have h63:l2.length≤9223372036854775807:=by
        have:=Nat.le_mul_of_pos_right l2.length hby0
        omega
       refine key hx ?_
       refine mq hSN hrd h63 hbd fun A' c' w2 ho2 hq=>?_
       exact pS hI hk hq ho2 (fun k hk=>hk.1) rfl (h A' c')
      ·exact h.elim
     ·exact h.elim
    ·exact h.elim
   ·exact h.elim
  ·exact h.elim
 case buildSlice t len parts=>
  split at h
  ·rename_i e tt ie z hsl
   obtain⟨hSN,hi,hz,hsz,hby0⟩:=ph hsl
   split at h
   ·rename_i cells hf hb
    split at h
    ·rename_i l hl
     simp only [Bool.and_eq_true]at hb
     have h1:0<len:=by simpa [Nat.blt_eq]using hb.1
     have h2:len*ie.size≤16777216:=Nat.le_of_ble_eq_true hb.2
     have hpos:0<ie.size:=by rw [hsz];exact(U.en tt).pos
     have hls:0<len*ie.size:=Nat.mul_pos h1 hpos
     obtain⟨hll,hlf⟩:=vY hl
     refine⟨rfl,?_⟩
     have hr:(execOp (ev fr) {dst:=dst,op:= .buildSlice t len parts,type:=ty,pos:=pos,after:=after,guard:=gd}).run P w= .ok (.value (.slice (some ⟨w.heap.size,0,none⟩) len len)) (w.alloc (.cells cells e)):=by
      have:=Go.run_buildSlice (P:=P) w t e len (parts.map fun(ix:Nat×Operand)=>(ix.1,ev fr ix.2)) cells ie z hSN.und hi hz (by omega) (by omega) hf
      simp only [execOp]
      rw [Sem.run_bind,this]
      rfl
     rw [hr]
     have hcs:cells.size=len*(U.en tt).size:=by
      rw [← Array.length_toList,← hlf,dL,hll]
     have hrow:=World.ownsRow_lit (base:=0) (e:=e) (size:=(U.en tt).size) w cells len (Nat.zero_le _) (by
      have:=Nat.le_mul_of_pos_right len hpos
      simp only [maxLen];omega) hcs
     refine pS hI hk (Z:=fun k=>k=w.heap.size) (show Pu w (w.alloc (.cells cells e))from(made (w2:=w.alloc (.cells cells e)) rfl rfl).pu) ⟨⟨?_,fun a ha=>by injection ha with ha;rw [← ha]⟩,rfl⟩ (fun k e=>by rw [e];exact Nat.le_refl _) (by rw [hll]) (h w.heap.size)
     rw [hlf,hll]
     exact hrow
    ·exact h.elim
   ·exact h.elim
  ·exact h.elim
 case makeSlice t l c=>
  split at h
  ·rename_i a b e tt ie z hla hlb hsl
   obtain⟨hSN,hi,hz,hsz,hby0⟩:=ph hsl
   split at h
   ·rename_i x hx
    obtain⟨⟨rfl,h0,hb⟩,h⟩:=h
    have h63:a≤9223372036854775807:=by
     have h9:(1:Int)*a≤(ie.bytes:Int)*a:=Int.mul_le_mul_of_nonneg_right (by omega) h0
     omega
    have hr:=run_make (P:=P) w t e ie z hSN.und hi hz .i64 .i64 a a h0 (Int.le_refl _) hb h63
    refine⟨rfl,?_⟩
    rw [oZ (s:=Instr.makeSlice t (.int .i64 a) (.int .i64 a)) (by simp [u4,hla,hlb]) w hr]
    have hcell:=yM (x:=x) (U.iB hx) a.toNat
    have hlen:(List.replicate a.toNat x).length=a.toNat:=List.length_replicate
    rw [hsz]
    have hrow:=World.ownsRow_lit (base:=0) (e:=e) (size:=(U.en tt).size) w (madeCells z.cells (a.toNat *(U.en tt).size)) a.toNat (Nat.zero_le _) (by simp only [maxLen];omega) (size_madeCells _ _)
    refine pS hI hk (Z:=fun k=>k=w.heap.size) (l:=List.replicate a.toNat x) (c:=a.toNat) (T:=e) (A:=some ⟨w.heap.size,0,none⟩) ((made (w2:=w.alloc (.cells (madeCells z.cells (a.toNat *(U.en tt).size)) e)) rfl rfl).pu) ⟨⟨?_,fun a ha=>by injection ha with ha;rw [← ha]⟩,rfl⟩ (fun k e=>by rw [e];exact Nat.le_refl _) (by rw [hlen]) ?_
    ·rw [hcell,hlen]
     exact hrow
    ·have:=h w.heap.size
     rw [hlen]at this
     exact this
   ·exact h.elim
  ·exact h.elim
theorem Ac {o:Oper} {K:ff U} {Y:Bool}(htb:∀f c,tbl.c f=some c→LV U P f c∧bU P f=true)(hI:Inv w0 k0 X0 may st.rs X w)(hk:aA st.rs fr st.kn)(h:op2 U P tbl may k0 o (ev fr) st K):
 opW P Y none o (ev fr) w fun v w'=>∃k st' X' M,K v k st'∧KnO st'.rs v k∧ep w0 k0 X0 may fr st X w st' X' w' M:=by
 unfold op2 at h
 split at h
 ·exact Dx htb hI hk h
 ·obtain⟨v,k,h1,h2,h3⟩:=sx hI.sat hk h
  have hr:=h3 w (Kept.refl _ _)
  refine⟨?_,?_⟩
  ·obtain⟨dst,op,ty,pos,after,gd⟩:=o
   cases op<;>first | rfl | skip
   exact absurd (show nT P _ _ _ from h) (fun hh=>hh.elim)
  ·rw [hr]
   exact⟨k,st,X,[],h1,h2,hI,hk,rfl,fun i hi=>(by cases hi),fun i hi=>(by cases hi),Nat.le_refl _,fun _ _ _=>⟨rfl,rfl⟩,fun i hi=>(by cases hi),fun i h1 h2=>by omega,Ch.refl _ _,fun i a ha=>⟨a,ha,cU.refl a⟩⟩
structure Steps(w0:World)(k0:Nat)(X0:Nat→Nat→Prop)(may:List Nat)(st:St U)(X:Nat→Nat→Prop)(st':St U)(X':Nat→Nat→Prop)(w':World):Prop where
 inv:Inv w0 k0 X0 may st'.rs X' w'
 len:st.rs.length≤st'.rs.length
 md:∃L,st'.md=L++st.md∧(∀i,i∈L→i∈may∨k0≤i)∧∀i,i<st.rs.length→i ∉ L→nth st'.rs i=nth st.rs i∧X' i=X i
 root:∀i a,nth st.rs i=some a→∃b,nth st'.rs i=some b∧cU a b
theorem Steps.refl(h:Inv w0 k0 X0 may st.rs X w):Steps w0 k0 X0 may st X st X w:=⟨h,Nat.le_refl _,⟨[],rfl,fun i hi=>(by cases hi),fun _ _ _=>⟨rfl,rfl⟩⟩,fun i a ha=>⟨a,ha,cU.refl a⟩⟩
theorem Steps.trans {st1 st2:St U} {X1 X2:Nat→Nat→Prop} {w1 w2:World}(h:Steps w0 k0 X0 may st X st1 X1 w1)(k:Steps w0 k0 X0 may st1 X1 st2 X2 w2):Steps w0 k0 X0 may st X st2 X2 w2:=by
 obtain⟨L,hL,cL,hl⟩:=h.md
 obtain⟨M,hM,cM,hm⟩:=k.md
 exact⟨k.inv,Nat.le_trans h.len k.len,⟨M++L,by rw [hM,hL,List.append_assoc],fun i hi=>(List.mem_append.1 hi).elim (cM i) (cL i),fun i hi hn=>by
  rw [List.mem_append,not_or]at hn
  obtain⟨e1,e2⟩:=hm i (Nat.lt_of_lt_of_le hi h.len) hn.1
  obtain⟨e3,e4⟩:=hl i hi hn.2
  exact⟨e1.trans e3,e2.trans e4⟩⟩,fun i a ha=>by
  obtain⟨b,hb,hr⟩:=h.root i a ha
  obtain⟨c,hc,hr2⟩:=k.root i b hb
  exact⟨c,hc,hr.trans hr2⟩⟩
theorem ep.steps {st':St U} {X':Nat→Nat→Prop} {w':World} {M:List Nat}(h:ep w0 k0 X0 may fr st X w st' X' w' M):Steps w0 k0 X0 may st X st' X' w':=⟨h.inv,h.len,⟨M,h.md,h.can,fun i hi hm=>h.same i hi hm⟩,h.root⟩
theorem Steps.kn {st' st2:St U} {X':Nat→Nat→Prop} {w':World}(h:Steps w0 k0 X0 may st X st' X' w')(h1:st2.rs=st'.rs)(h2:st2.md=st'.md):Steps w0 k0 X0 may st X st2 X' w':=by
 obtain⟨a,b,c,d⟩:=h
 exact⟨by rw [h1];exact a,by rw [h1];exact b,by rw [h1,h2];exact c,by rw [h1];exact d⟩
variable {n:Nat} {N:List Nat} {ops:Array Oper}
theorem gn {dst:Option Tmp} {v:Value} {F G:Fr→Prop}(h:ji n N fr dst v F)(hF:∀fr',F fr'→G fr'):ji n N fr dst v G:=by
 unfold ji at h ⊢
 cases dst with
 | none=>exact hF _ h
 | some d=>
  simp only at h ⊢
  split at h
  ·split at h
   ·cases v with
    | int k x=>exact fun z hz=>hF _ (h z hz)
    | bool x=>exact fun z hz=>hF _ (h z hz)
    | _=>exact hF _ h
   ·exact hF _ h
  ·exact h.elim
def Aft(w0:World)(k0:Nat)(X0:Nat→Nat→Prop)(may:List Nat)(st:St U)(X:Nat→Nat→Prop)(ds:List Deferred)(K:Fr→St U→Prop)(fr':Fr)(w':World):Prop:=
 ∃st' X',Steps w0 k0 X0 may st X st' X' w'∧aA st'.rs fr' st'.kn∧fr'.ds=ds∧K fr' st'
theorem oX {K:Fr→St U→Prop}(htb:∀f c,tbl.c f=some c→LV U P f c∧bU P f=true):∀(l:List Oper)(fr:Fr)(st0 st:St U)(Xs X:Nat→Nat→Prop)(w:World)(ds:List Deferred),Steps w0 k0 X0 may st0 Xs st X w→aA st.rs fr st.kn→fr.ds=ds→AR U P tbl may k0 n N ops K l fr st→
 AQ (fun o ρ w K=>opW P true none o ρ w K) n N ops (Aft w0 k0 X0 may st0 Xs ds K) l fr w
 | [],fr,st0,st,Xs,X,w,ds,hS,hk,hd,h=>⟨st,X,hS,hk,hd,h⟩
 | o::rest,fr,st0,st,Xs,X,w,ds,hS,hk,hd,h=>by
  refine jX h (fun fr' hl hds h=>?_) (fun fr' hl hds h=>?_)
  ·have hk':=hk.same hl
   refine pH (Ac htb hS.inv hk' h) fun v w' hp=>?_
   obtain⟨k,st',X',M,h1,h2,h3⟩:=hp
   refine gn (iL h1 h3.kn h2) fun fr2 hp=>?_
   obtain⟨st2,e1,e2,h4,h5,h6⟩:=hp
   exact oX htb rest fr2 st0 st2 Xs X' w' ds ((hS.trans h3.steps).kn e1 e2) (by rw [e1];exact h4) (by rw [h5,hds,hd]) h6
  ·have hk':=hk.same hl
   refine gn (iL h hk' trivial) fun fr2 hp=>?_
   obtain⟨st2,e1,e2,h4,h5,h6⟩:=hp
   exact oX htb rest fr2 st0 st2 Xs X w ds (hS.kn e1 e2) (by rw [e1];exact h4) (by rw [h5,hds,hd]) h6
theorem Inv.drew(h:Inv w0 k0 X0 may st.rs X w):Inv w0 k0 X0 may st.rs X w.drew:=h.pu (Pu.aI w)
structure BOk(V:List Nat)(rd:List (Nat×List Nat))(b:Nat→Nat→Prop)(rs:List (Res U))(X:Nat→Nat→Prop)(w:World):Prop where
 has:∀i id k,id∈nQ i rd→id<rs.length→X id k→b i k
 all:∀i k,i∈V→b i k
 only:∀i k,i ∉ V→b i k→k<w.heap.size∧∀j,j<rs.length→X j k→j∈nQ i rd
end
end Go.Proofs.YtbjlecpmgocoeaaGreatDoor.V
end
section
namespace Go.Proofs.YtbjlecpmgocoeaaGreatDoor.V
open Go Go.RowKit
open Go.IntKind (i64 u32 u64)
section
variable {U:Uni} {P:Program} {tbl:Tb U} {may:List Nat} {k0:Nat}
variable {w0:World} {X0 X:Nat→Nat→Prop} {w:World} {fr:Fr} {st:St U} {n:Nat} {N:List Nat} {ops:Array Oper}
def MSw(P:Program):H4:=fun B o ρ w F=>∃v,F v∧∀w',Kept (held B w) w w'→(execOp ρ o).run P w'= .ok (.value v) w'
theorem sW {F G:Nat→Prop}:∀ {l:List Nat},zd F l→(∀i,F i→G i)→zd G l
 | [],_,_=>trivial
 | [_],h,hg=>hg _ h
 | _::j::r,h,hg=>⟨hg _ h.1,sW (l:=j::r) h.2 hg⟩
theorem wG {b:Nat→Nat→Prop}:∀ {l:List Nat} {k:Nat},bP b l k→∃i,i∈l∧b i k
 | [i],k,h=>⟨i,by simp,h⟩
 | i::j::r,k,h=>by
  rcases h with h | h
  ·exact⟨i,by simp,h⟩
  ·obtain⟨i',h1,h2⟩:=wG (l:=j::r) h
   exact⟨i',List.mem_cons_of_mem _ h1,h2⟩
theorem C6 {α:Type}(M L:List α):iG ((M++L).length - L.length) (M++L)=M:=by
 rw [eC,List.length_append,Nat.add_sub_cancel,List.take_left]
theorem HI {rs:List (Res U)} {p:PK} {v:Value}(h:den U rs p=some v):p.id<rs.length:=by
 unfold den at h
 cases hn:nth rs p.id with
 | none=>rw [hn]at h;cases p<;>simp [bS]at h
 | some r=>exact aP hn
theorem BOk.step {V:List Nat} {rd:List (Nat×List Nat)} {b:Nat→Nat→Prop}(hb:BOk V rd b st.rs X w) {st':St U} {X':Nat→Nat→Prop} {w':World} {M:List Nat}(hs:ep w0 k0 X0 may fr st X w st' X' w' M):
 BOk V rd (fun i k=>b i k∨∃id,id∈nQ i rd∧id<st'.rs.length∧X' id k) st'.rs X' w':=by
 refine⟨fun i id k h1 h2 h3=>.inr ⟨id,h1,h2,h3⟩,fun i k h=>.inl (hb.all i k h),fun i k hi hk=>?_⟩
 rcases hk with hk | ⟨id,h1,h2,h3⟩
 ·obtain⟨h4,h5⟩:=hb.only i k hi hk
  refine⟨Nat.lt_of_lt_of_le h4 hs.ch.size,fun j hj hx=>?_⟩
  by_cases hjl:j<st.rs.length
  ·by_cases hm:j∈M
   ·rcases hs.grow j hm k hx with h6 | h6
    ·exact h5 j hjl h6
    ·omega
   ·rw [(hs.same j hjl hm).2]at hx
    exact h5 j hjl hx
  ·have:=hs.new j (Nat.le_of_not_lt hjl) hj k hx
   omega
 ·refine⟨hs.inv.sat.lt h2 k h3,fun j hj hx=>?_⟩
  by_cases hji:id=j
  ·rw [← hji];exact h1
  ·exact absurd hx (hs.inv.sat.dis id j h2 hj hji k h3)
theorem y9 {V:List Nat} {rd:List (Nat×List Nat)} {M beh:List Nat}(h:za V rd M beh=true):∀i,i∈beh→i ∉ V∧∀j,j∈M→j ∉ nQ i rd:=by
 intro i hi
 have:=cm.1 h i hi
 simp only [Bool.and_eq_true,Bool.not_eq_true']at this
 refine⟨fun hv=>?_,fun j hj hr=>?_⟩
 ·rw [eg.2 hv]at this;cases this.1
 ·have h2:=cm.1 this.2 j hj
  rw [eg.2 hr]at h2;cases h2
theorem BOk.kept {V:List Nat} {rd:List (Nat×List Nat)} {b:Nat→Nat→Prop}(hb:BOk V rd b st.rs X w) {st':St U} {X':Nat→Nat→Prop} {w':World} {M:List Nat}(hs:ep w0 k0 X0 may fr st X w st' X' w' M) {beh:List Nat}(h:za V rd M beh=true):Kept (bP b beh) w w':=by
 refine hs.ch.kept.mono fun k hk=>?_
 obtain⟨i,hi,hbi⟩:=wG hk
 obtain⟨h1,h2⟩:=y9 h i hi
 obtain⟨h3,h4⟩:=hb.only i k h1 hbi
 exact⟨h3,fun⟨j,hj,hx⟩=>h2 j hj (h4 j (hs.mlt j hj) hx)⟩
theorem FD {o:Oper} {kn:List (Key×Kn)} {x:Nat}(h:rdX o kn X x):∃t a p,o.op= .load t a∧kf kn a=some (.p p)∧X p.id x:=by
 unfold rdX at h
 cases hop:o.op<;>simp only [hop]at h
 rename_i t a
 cases hk:V.kf kn a with
 | none=>simp only [hk]at h
 | some k=>cases k<;>simp only [hk]at h;exact⟨t,a,_,rfl,hk,h⟩
theorem C4 {all:Bool} {V:List Nat} {rd:List (Nat×List Nat)} {K:Fr→St U→Prop}(htb:∀f c,tbl.c f=some c→LV U P f c∧bU P f=true):
 ∀(fuel:Nat)(listed:Array Bool)(fr:Fr)(st0 st:St U)(Xs X:Nat→Nat→Prop)(w:World)(ds:List Deferred)(b:Nat→Nat→Prop),(all=false→BOk V rd b st.rs X w)→(all=true→∀i k,b i k)→Steps w0 k0 X0 may st0 Xs st X w→aA st.rs fr st.kn→fr.ds=ds→
  ru U P tbl may k0 n N ops all V rd K fuel listed fr st→
  ot P (fun o ρ w K=>opW P false none o ρ w K) (MSw P) n N ops (Aft w0 k0 X0 may st0 Xs ds K) fuel (some b) listed fr w:=by
 intro fuel
 induction fuel with
 | zero=>
  intro listed fr st0 st Xs X w ds b hb hall hS hk hd h
  simp only [ru]at h
  simp only [ot]
  split at h
  ·rename_i hrd
   try simp only [hrd]
   exact⟨st,X,hS,hk,hd,h⟩
  ·exact h.elim
 | succ fuel ih=>
  intro listed fr st0 st Xs X w ds b hb hall hS hk hd h
  simp only [ru]at h
  simp only [ot]
  split at h
  ·rename_i hrd
   try simp only [hrd]
   exact⟨st,X,hS,hk,hd,h⟩
  ·rename_i i0 r0 hrd
   try simp only [hrd]
   split at h
   ·rename_i i hfa
    try simp only [hfa]
    split at h
    ·rename_i o ho
     try simp only [ho]
     refine jX h (fun fr' hl hds hq=>?_) (fun fr' hl hds h=>?_)
     ·have hk':=hk.same hl
      clear h
      have h:=hq
      clear hq
      cases hmem:DL o with
      | true=>simp only [hmem]at h
      | false=>
      cases hro:Hp all V rd i o st.kn with
      | false=>simp only [hmem,hro]at h
      | true=>
       simp only [hmem,hro]at h
       obtain⟨v,k,h1,h2,h3⟩:=sx hS.inv.sat hk' h
       refine⟨v,?_,fun w' hw=>h3 w' (hw.mono fun x hx=>?_)⟩
       ·refine gn (iL h1 hk' h2) fun fr2 hp=>?_
        obtain⟨st2,e1,e2,h4,h5,h6⟩:=hp
        exact ih _ fr2 st0 st2 Xs X w ds b (by rw [e1];exact hb) hall (hS.kn e1 e2) (by rw [e1];exact h4) (by rw [h5,hds,hd]) h6
       ·show b i x
        obtain⟨t,a,p,hop,hp,hx⟩:=FD hx
        unfold Hp at hro
        simp only [hop,hp]at hro
        by_cases ha:all=true
        ·exact hall ha i x
        have hb:=hb (by simpa using ha)
        split at hro
        ·rename_i hv
         rcases Bool.or_eq_true_iff.1 hv with hv | hv
         ·exact absurd hv ha
         ·exact hb.all i x (eg.1 hv)
        ·have hpk:=hk'.kf a
         rw [hp]at hpk
         exact hb.has i p.id x (eg.1 hro) (HI (show den U st.rs p=some _ from hpk)) hx
     ·refine gn (iL h (hk.same hl) trivial) fun fr2 hp=>?_
      obtain⟨st2,e1,e2,h4,h5,h6⟩:=hp
      exact ih _ fr2 st0 st2 Xs X w ds b (by rw [e1];exact hb) hall (hS.kn e1 e2) (by rw [e1];exact h4) (by rw [h5,hds,hd]) h6
    ·exact h.elim
   ·split at h
    ·exact h.elim
    ·rename_i hfn _
     try simp only [hfn]
     refine sW h fun i h=>?_
     split at h
     ·rename_i o ho
      try simp only [ho]
      refine jX h (fun fr' hl hds h=>?_) (fun fr' hl hds h=>?_)
      ·have hk':=hk.same hl
       refine pH (Ac htb hS.inv hk' h) fun v w' hp=>?_
       obtain⟨k,st',X',M,h1,h2,h3⟩:=hp
       split at h1
       ·rename_i hap
        rw [h3.md,C6]at hap
        refine gn (iL h1 h3.kn h2) fun fr2 hp=>?_
        obtain⟨st2,e1,e2,h4,h5,h6⟩:=hp
        have hb:=hb rfl
        have hb':=hb.step h3
        have hgo:=ih (listed.setIfInBounds i true) fr2 st0 st2 Xs X' w' ds _ (fun _=>by rw [e1];exact hb') (fun ha=>by cases ha) ((hS.trans h3.steps).kn e1 e2) (by rw [e1];exact h4) (by rw [h5,hds,hd]) h6
        unfold Ae
        simp only
        split
        ·exact⟨_,fun i k hik=>.inl hik,hgo⟩
        ·exact⟨hb.kept h3 hap,_,fun i k hik=>.inl hik,hgo⟩
       ·exact h1.elim
      ·refine gn (iL h (hk.same hl) trivial) fun fr2 hp=>?_
       obtain⟨st2,e1,e2,h4,h5,h6⟩:=hp
       exact ih _ fr2 st0 st2 Xs X w ds b (by rw [e1];exact hb) hall (hS.kn e1 e2) (by rw [e1];exact h4) (by rw [h5,hds,hd]) h6
     ·exact h.elim
variable (U P tbl may k0 w0 X0 n)in
def qD(c:Code)(V:QF2 U→Fr→St U→Prop):Prop:=
 ∀(Q:QF2 U)(fr:Fr)(st:St U)(X:Nat→Nat→Prop)(a:Act)(w:World),Rep n fr a→Inv w0 k0 X0 may st.rs X w→aA st.rs fr st.kn→V Q fr st→
  c.wpIn (WF none) 0 P (Real n (writes c) a none fun x fr' w'=>Aft w0 k0 X0 may st X fr.ds (fun fr' st'=>Q x fr' st') fr' w') a w
theorem Aft.mono {ds:List Deferred} {K K':Fr→St U→Prop} {fr':Fr} {w':World}(h:Aft w0 k0 X0 may st X ds K fr' w')(hK:∀fr st,K fr st→K' fr st):Aft w0 k0 X0 may st X ds K' fr' w':=by
 obtain⟨st',X',h1,h2,h3,h4⟩:=h
 exact⟨st',X',h1,h2,h3,hK _ _ h4⟩
theorem Aft.pre {st1:St U} {X1:Nat→Nat→Prop} {w1:World} {ds:List Deferred} {K:Fr→St U→Prop} {fr':Fr} {w':World}(hs:Steps w0 k0 X0 may st X st1 X1 w1)(h:Aft w0 k0 X0 may st1 X1 ds K fr' w'):Aft w0 k0 X0 may st X ds K fr' w':=by
 obtain⟨st',X',h1,h2,h3,h4⟩:=h
 exact⟨st',X',hs.trans h1,h2,h3,h4⟩
theorem rv {id:Nat} {Q:QF2 U} {a:Act}(htb:∀f c,tbl.c f=some c→LV U P f c∧bU P f=true)(hr:Rep n fr a)(hI:Inv w0 k0 X0 may st.rs X w)(hk:aA st.rs fr st.kn)(h:AR U P tbl may k0 n N ops (Q .normal) ops.toList fr st):
 (Code.region id ops false).wpIn (WF none) 0 P (Real n (writes (.region id ops false)) a none fun x fr' w'=>Aft w0 k0 X0 may st X fr.ds (fun fr' st'=>Q x fr' st') fr' w') a w:=by
 have hv:=oX (n:=n) (N:=N) (ops:=ops) htb ops.toList fr st st X X w fr.ds (Steps.refl hI) hk rfl h
 exact wpIn_mono (wpIn_region_list (jb (ws:=writes (.region id ops false)) (a0:=a) (Qp:=none) (M:=fun o ρ w K=>opW P true none o ρ w K) (fun _ _ _ _ h=>h) ops.toList (fun o ho d hd=>List.mem_filterMap.2 ⟨o,ho,hd⟩) fr a w hr (Agr.refl _ _) hv)) fun e a' w' he=>ig he
theorem tI {id:Nat} {Q:QF2 U} {a:Act} {V:List Nat} {rd:List (Nat×List Nat)}(htb:∀f c,tbl.c f=some c→LV U P f c∧bU P f=true)(hm:P.follows .mixedOrders=true)(hs:Region.noSelect ops=true)(hnd:dK ops.toList=true)(hr:Rep n fr a)(hI:Inv w0 k0 X0 may st.rs X w)(hk:aA st.rs fr st.kn) {all:Bool}
 (h:ru U P tbl may k0 n N ops all V rd (Q .normal) ops.size (Array.replicate ops.size false) fr st):
 (Code.region id ops true).wpIn (WF none) 0 P (Real n (writes (.region id ops true)) a none fun x fr' w'=>Aft w0 k0 X0 may st X fr.ds (fun fr' st'=>Q x fr' st') fr' w') a w:=by
 have hI':=Inv.drew hI
 have hS:Steps w0 k0 X0 may st X st X w.drew:=Steps.refl hI'
 have hv:=C4 (n:=n) (N:=N) (ops:=ops) htb ops.size (Array.replicate ops.size false) fr st st X X w.drew fr.ds (fun i k=>i∈V∨all=true∨∃id,id∈nQ i rd∧id<st.rs.length∧X id k) (fun ha=>⟨fun i id k h1 h2 h3=>.inr (.inr ⟨id,h1,h2,h3⟩),fun i k h=>.inl h,fun i k hi hk=>by
  rcases hk with hk | hk | ⟨id,h1,h2,h3⟩
  ·exact absurd hk hi
  ·rw [ha]at hk;cases hk
  ·refine⟨hI'.sat.lt h2 k h3,fun j hj hx=>?_⟩
   by_cases hji:id=j
   ·rw [← hji];exact h1
   ·exact absurd hx (hI'.sat.dis id j h2 hj hji k h3)⟩) (fun ha i k=>.inr (.inl ha)) hS hk rfl h
 exact wpIn_mono (iE hm lU (fun o ho=>gE hnd o (Array.mem_toList_iff.2 ho)) (oY (ws:=writes (.region id ops true)) (a0:=a) (Qp:=none) (M:=fun o ρ w K=>opW P false none o ρ w K) (MS:=MSw P) (fun _ _ _ _ h=>h) (fun _ _ _ _ _ h=>h) hs (fun i o ho d hd=>pU ho hd) ops.size _ (fun _ _ _=>True) _ fr a w.drew (fU.none _ _) (kQ.none _ _) hr (Agr.refl _ _) hv)) fun e a' w' he=>ig he
end
end Go.Proofs.YtbjlecpmgocoeaaGreatDoor.V
end
section
namespace Go.Proofs.YtbjlecpmgocoeaaGreatDoor.V
open Go Go.RowKit
open Go.IntKind (i64 u32 u64)
section
variable {U:Uni} {P:Program} {tbl:Tb U} {may:List Nat} {k0:Nat}
variable {w0:World} {X0 X:Nat→Nat→Prop} {w:World} {fr:Fr} {st:St U} {n:Nat} {N:List Nat} {ops:Array Oper}
theorem u6 {T:Type}:∀ {l:List (Nat×Sh2)} {J:SlT l T} {fr:Fr} {F:T→Prop},Hf l J fr F→∃J' vs,F J'∧(∀G:T→List (Nat×Value)→Prop,alS l J G→G J' vs)∧∀s v,(s,v)∈vs→lk fr.g s fr.e=v
 | [],J,fr,F,h=>⟨J,[],h,fun G hG=>hG,fun s v hv=>by cases hv⟩
 | (s,sh)::r,J,fr,F,h=>by
  obtain⟨J1,h1,g1⟩:=sQ h
  obtain⟨J2,vs,h2,g2,e2⟩:=u6 h1
  refine⟨J2,(s,lk fr.g s fr.e)::vs,h2,fun G hG=>g2 (fun J'' vs=>G J'' ((s,lk fr.g s fr.e)::vs)) (g1 (fun J' v=>alS r J' fun J'' vs=>G J'' ((s,v)::vs)) hG),fun s' v hv=>?_⟩
  rcases List.mem_cons.1 hv with e | hv
  ·injection e with e1 e2;rw [e1,e2]
  ·exact e2 s' v hv
def cO(kn:List (Key×Kn))(id:Nat):Nat→List AV→List Value→Prop
 | _,[],[]=>True
 | i,.v x::r,v::vs=>x=v∧cO kn id (i+1) r vs
 | i,.k p::r,_::vs=>cz (.c id i) kn=some (.p p)∧cO kn id (i+1) r vs
 | _,_,_=>False
theorem o3 {T:Type} {id:Nat} {kn:List (Key×Kn)}:∀ {l:List CS} {J:CST l T} {i:Nat} {vs:List Value} {F:T→Prop},yo id kn l J i vs F→∃J' az,F J'∧(∀G:T→List AV→Prop,Ej l J G→G J' az)∧cO kn id i az vs∧∀n,ik n l=true→∀p,AV.k p∈az→p.id<n
 | [],J,i,[],F,h=>⟨J,[],h,fun G hG=>hG,trivial,fun _ _ p hp=>by cases hp⟩
 | [],_,_,_::_,_,h=>h.elim
 | .v _::_,_,_,[],_,h=>h.elim
 | .k _::_,_,_,[],_,h=>h.elim
 | .v s::r,J,i,v::vs,F,h=>by
  obtain⟨J1,h1,g1⟩:=mr h
  obtain⟨J2,az,h2,g2,d2,b2⟩:=o3 h1
  refine⟨J2,.v v::az,h2,fun G hG=>g2 (fun J'' vs=>G J'' (.v v::vs)) (g1 (fun J' v=>Ej r J' fun J'' l=>G J'' (.v v::l)) hG),⟨rfl,d2⟩,fun n hn p hp=>?_⟩
  rcases List.mem_cons.1 hp with e | hp
  ·cases e
  ·exact b2 n hn p hp
 | .k p::r,J,i,v::vs,F,h=>by
  simp only [yo]at h
  split at h
  ·rename_i q hq
   split at h
   ·rename_i he
    obtain⟨J2,az,h2,g2,d2,b2⟩:=o3 h
    refine⟨J2,.k p::az,h2,fun G hG=>g2 (fun J'' vs=>G J'' (.k p::vs)) hG,⟨by rw [hq,(Kn.lh he).1],d2⟩,fun n hn p' hp=>?_⟩
    simp only [ik]at hn
    split at hn
    ·rename_i hlt
     rcases List.mem_cons.1 hp with e | hp
     ·injection e with e;subst e;simpa [Nat.blt_eq]using hlt
     ·exact b2 n hn p' hp
    ·cases hn
   ·exact h.elim
  ·exact h.elim
def UpD(rs:List (Res U))(kn:List (Key×Kn))(id:Nat):UP U→Prop
 | .ob t s=>∃r,nth rs id=some (.ob t r s)
 | .blk az=>∃g cs T,nth rs id=some (.blk g cs T)∧cO kn id 0 az cs
 | .lst t A c l=>∃own T,nth rs id=some (.lst t own T A c l)
theorem lH {T:Type} {rs:List (Res U)} {kn:List (Key×Kn)}:∀ {l:List (Nat×RSh)} {J:xn U l T} {F:T→Prop},ov rs kn l J F→∃J' us,F J'∧(∀G:T→List (Nat×UP U)→Prop,BN l J G→G J' us)∧us.map (·.1)=l.map (·.1)∧(∀id u,(id,u)∈us→UpD rs kn id u)∧
 ∀n,dI n l=true→∀id u,(id,u)∈us→id<n∧∀az,u= .blk az→∀p,AV.k p∈az→p.id<n
 | [],J,F,h=>⟨J,[],h,fun G hG=>hG,rfl,fun id u hu=>(by cases hu),fun _ _ id u hu=>by cases hu⟩
 | (id,.ob t)::r,J,F,h=>by
  simp only [ov]at h
  split at h
  ·rename_i t' r' s hn
   split at h
   ·rename_i ht
    subst ht
    obtain⟨J2,us,h2,g2,m2,d2,b2⟩:=lH h
    refine⟨J2,(id,.ob t' s)::us,h2,fun G hG=>g2 (fun J'' vs=>G J'' ((id,.ob t' s)::vs)) (hG s),by simp [m2],fun i u hu=>?_,fun n hb i u hu=>?_⟩
    ·rcases List.mem_cons.1 hu with e | hu
     ·injection e with e1 e2;subst e1;subst e2;exact⟨r',hn⟩
     ·exact d2 i u hu
    ·simp only [dI]at hb
     split at hb
     ·rename_i hlt
      rcases List.mem_cons.1 hu with e | hu
      ·injection e with e1 e2;subst e1;subst e2;exact⟨by simpa [Nat.blt_eq]using hlt,fun az e=>by cases e⟩
      ·exact b2 n hb i u hu
     ·cases hb
   ·exact h.elim
  ·exact h.elim
 | (id,.blk l)::r,J,F,h=>by
  simp only [ov]at h
  split at h
  ·rename_i g cs T' hn
   obtain⟨J1,az,h1,g1,d1,b1⟩:=o3 h
   obtain⟨J2,us,h2,g2,m2,d2,b2⟩:=lH h1
   refine⟨J2,(id,.blk az)::us,h2,fun G hG=>g2 (fun J'' vs=>G J'' ((id,.blk az)::vs)) (g1 (fun J' cs=>BN r J' fun J'' us=>G J'' ((id,.blk cs)::us)) hG),by simp [m2],fun i u hu=>?_,fun n hb i u hu=>?_⟩
   ·rcases List.mem_cons.1 hu with e | hu
    ·injection e with e1 e2;subst e1;subst e2;exact⟨g,cs,T',hn,d1⟩
    ·exact d2 i u hu
   ·simp only [dI]at hb
    split at hb
    ·rename_i hlt
     simp only [Bool.and_eq_true]at hlt
     rcases List.mem_cons.1 hu with e | hu
     ·injection e with e1 e2;subst e1;subst e2
      exact⟨by simpa [Nat.blt_eq]using hlt.1,fun as' e p hp=>by injection e with e;subst e;exact b1 n hlt.2 p hp⟩
     ·exact b2 n hb i u hu
    ·cases hb
  ·exact h.elim
 | (id,.lst t)::r,J,F,h=>by
  simp only [ov]at h
  split at h
  ·rename_i t' own T' A c l hn
   split at h
   ·rename_i ht
    subst ht
    obtain⟨J2,us,h2,g2,m2,d2,b2⟩:=lH h
    refine⟨J2,(id,.lst t' A c l)::us,h2,fun G hG=>g2 (fun J'' vs=>G J'' ((id,.lst t' A c l)::vs)) (hG A c l),by simp [m2],fun i u hu=>?_,fun n hb i u hu=>?_⟩
    ·rcases List.mem_cons.1 hu with e | hu
     ·injection e with e1 e2;subst e1;subst e2;exact⟨own,T',hn⟩
     ·exact d2 i u hu
    ·simp only [dI]at hb
     split at hb
     ·rename_i hlt
      rcases List.mem_cons.1 hu with e | hu
      ·injection e with e1 e2;subst e1;subst e2;exact⟨by simpa [Nat.blt_eq]using hlt,fun az e=>by cases e⟩
      ·exact b2 n hb i u hu
     ·cases hb
   ·exact h.elim
  ·exact h.elim
theorem tW {f:Nat→Res U→Option (Res U)}:∀ {i:Nat} {l l':List (Res U)},lay f i l=some l'→l'.length=l.length∧∀j r,nth l j=some r→∃r',f (i+j) r=some r'∧nth l' j=some r'
 | i,[],l',h=>by
  simp only [lay,Option.some.injEq]at h
  subst h
  exact⟨rfl,fun j r hr=>by simp [nth]at hr⟩
 | i,r::l,l',h=>by
  simp only [lay]at h
  split at h
  ·rename_i r' l2 h1 h2
   injection h with h
   subst h
   obtain⟨e1,e2⟩:=tW h2
   refine⟨by simp [e1],fun j x hx=>?_⟩
   cases j with
   | zero=>simp [nth]at hx;subst hx;exact⟨r',h1,rfl⟩
   | succ j=>
    obtain⟨y,h3,h4⟩:=e2 j x hx
    exact⟨y,by rw [show i+(j+1)=i+1+j by omega];exact h3,h4⟩
  ·cases h
theorem iF {i:Nat} {u:UP U}:∀ {us:List (Nat×UP U)},jD i us=some u→(i,u)∈us
 | [],h=>by cases h
 | (j,x)::r,h=>by
  unfold jD at h
  split at h
  ·rename_i he
   injection h with h
   rw [← h,Nat.eq_of_beq_eq_true he]
   exact List.mem_cons_self ..
  ·exact List.mem_cons_of_mem _ (iF h)
theorem o4 {i:Nat}:∀ {us:List (Nat×UP U)},jD i us=none→i ∉ us.map (·.1)
 | [],_=>by simp
 | (j,x)::r,h=>by
  unfold jD at h
  split at h
  ·cases h
  ·rename_i he
   rw [List.map_cons,List.mem_cons,not_or]
   exact⟨by rintro rfl;simp at he,o4 h⟩
theorem nc {kn:List (Key×Kn)} {s:Nat} {k:Kn}:∀ {l:List (Nat×Kn)},Ah kn l=true→(s,k)∈l→∃p,k= .p p∧cz (.s s) kn=some (.p p)
 | [],_,h=>by cases h
 | (a,q)::r,h,hm=>by
  simp only [Ah]at h
  split at h
  ·rename_i x hx
   split at h
   ·rename_i he
    rcases List.mem_cons.1 hm with e | hm
    ·injection e with e1 e2
     subst e1;subst e2
     obtain⟨e3,p,e4⟩:=Kn.lh he
     exact⟨p,by rw [← e3,e4],by rw [hx,e4]⟩
    ·exact nc h hm
   ·cases h
  ·cases h
theorem jq {m:Nat} {s:Nat} {p:PK}:∀ {l:List (Nat×Kn)},l6 m l=true→(s,Kn.p p)∈l→p.id<m
 | [],_,h=>by cases h
 | (a,.p q)::r,h,hm=>by
  simp only [l6]at h
  split at h
  ·rename_i hlt
   rcases List.mem_cons.1 hm with e | hm
   ·injection e with e1 e2;injection e2 with e2;subst e2;simpa [Nat.blt_eq]using hlt
   ·exact jq h hm
  ·cases h
 | (a,.t _)::r,h,_=>by cases h
 | (a,.ag _)::r,h,_=>by cases h
 | (a,.f _ _)::r,h,_=>by cases h
theorem pf {key:Key} {k:Kn}:∀ {l:List (Nat×Kn)},(key,k)∈yx l→∃s,key= .s s∧(s,k)∈l
 | [],h=>by cases h
 | (s,q)::r,h=>by
  rcases List.mem_cons.1 h with e | h
  ·injection e with e1 e2;subst e1;subst e2;exact⟨s,rfl,List.mem_cons_self ..⟩
  ·obtain⟨s',h1,h2⟩:=pf (l:=r) h;exact⟨s',h1,List.mem_cons_of_mem _ h2⟩
theorem gL {rs:List (Res U)} {s:Nat} {v:Value}:∀ {l:List (Nat×Kn)},(s,v)∈jW rs l→∃p,(s,Kn.p p)∈l∧v=(den U rs p).getD undef
 | [],h=>by cases h
 | (a,.p q)::r,h=>by
  rcases List.mem_cons.1 h with e | h
  ·injection e with e1 e2;subst e1;subst e2;exact⟨q,List.mem_cons_self ..,rfl⟩
  ·obtain⟨p,h1,h2⟩:=gL (l:=r) h;exact⟨p,List.mem_cons_of_mem _ h1,h2⟩
 | (a,.t _)::r,h=>by obtain⟨p,h1,h2⟩:=gL (l:=r) h;exact⟨p,List.mem_cons_of_mem _ h1,h2⟩
 | (a,.ag _)::r,h=>by obtain⟨p,h1,h2⟩:=gL (l:=r) h;exact⟨p,List.mem_cons_of_mem _ h1,h2⟩
 | (a,.f _ _)::r,h=>by obtain⟨p,h1,h2⟩:=gL (l:=r) h;exact⟨p,List.mem_cons_of_mem _ h1,h2⟩
theorem cO.He {kn:List (Key×Kn)} {id:Nat} {V:PK→Value}:∀ {i:Nat} {az:List AV} {vs:List Value},cO kn id i az vs→(∀j p v,nth az j=some (.k p)→nth vs j=some v→V p=v)→aJ (fun a=>match a with | .v x=>x | .k p=>V p) az=vs
 | _,[],[],_,_=>rfl
 | _,[],_::_,h,_=>by simp [cO]at h
 | _,_::_,[],h,_=>by rename_i a l;cases a<;>simp [cO]at h
 | i,.v x::r,v::vs,h,hv=>by
  simp only [cO]at h
  simp only [aJ,h.1]
  rw [cO.He h.2 fun j p v h1 h2=>hv (j+1) p v h1 h2]
 | i,.k p::r,v::vs,h,hv=>by
  simp only [cO]at h
  simp only [aJ]
  rw [hv 0 p v rfl rfl,cO.He h.2 fun j p v h1 h2=>hv (j+1) p v h1 h2]
theorem cO.kn {kn:List (Key×Kn)} {id:Nat}:∀ {i j:Nat} {az:List AV} {vs:List Value} {p:PK},cO kn id i az vs→nth az j=some (.k p)→cz (.c id (i+j)) kn=some (.p p)
 | _,_,[],_,_,_,h=>by simp [nth]at h
 | i,0,.v _::_,_::_,_,_,h=>by simp [nth]at h
 | i,0,.k p::r,v::vs,p',hd,h=>by
  simp only [cO]at hd
  simp only [nth,Option.some.injEq,AV.k.injEq]at h
  subst h
  exact hd.1
 | i,j+1,.v _::r,_::vs,p,hd,h=>by
  simp only [cO]at hd
  have:=cO.kn hd.2 (show nth r j=some (.k p)from h)
  rwa [show i+1+j=i+(j+1)by omega]at this
 | i,j+1,.k _::r,_::vs,p,hd,h=>by
  simp only [cO]at hd
  have:=cO.kn hd.2 (show nth r j=some (.k p)from h)
  rwa [show i+1+j=i+(j+1)by omega]at this
 | _,_,.v _::_,[],_,hd,_=>by simp [cO]at hd
 | _,_,.k _::_,[],_,hd,_=>by simp [cO]at hd
theorem lr {id:Nat} {key:Key} {k:Kn}:∀ {i:Nat} {l:List CS},(key,k)∈uj id i l→∃j p,key= .c id (i+j)∧k= .p p∧nth l j=some (.k p)
 | _,[],h=>by cases h
 | i,.v _::r,h=>by
  obtain⟨j,p,h1,h2,h3⟩:=lr (l:=r) h
  exact⟨j+1,p,by rw [h1];congr 1;omega,h2,h3⟩
 | i,.k q::r,h=>by
  rcases List.mem_cons.1 h with e | h
  ·injection e with e1 e2;exact⟨0,q,e1,e2,rfl⟩
  ·obtain⟨j,p,h1,h2,h3⟩:=lr (l:=r) h
   exact⟨j+1,p,by rw [h1];congr 1;omega,h2,h3⟩
theorem km {key:Key} {k:Kn}:∀ {l:List (Nat×RSh)},(key,k)∈z5 l→∃id cs j p,(id,RSh.blk cs)∈l∧key= .c id j∧k= .p p∧nth cs j=some (.k p)
 | [],h=>by cases h
 | (id,.blk cs)::r,h=>by
  rcases List.mem_append.1 h with h | h
  ·obtain⟨j,p,h1,h2,h3⟩:=lr h
   exact⟨id,cs,j,p,List.mem_cons_self ..,by simpa using h1,h2,h3⟩
  ·obtain⟨a,b,c,d,h1,h2⟩:=km (l:=r) h;exact⟨a,b,c,d,List.mem_cons_of_mem _ h1,h2⟩
 | (id,.ob _)::r,h=>by obtain⟨a,b,c,d,h1,h2⟩:=km (l:=r) h;exact⟨a,b,c,d,List.mem_cons_of_mem _ h1,h2⟩
 | (id,.lst _)::r,h=>by obtain⟨a,b,c,d,h1,h2⟩:=km (l:=r) h;exact⟨a,b,c,d,List.mem_cons_of_mem _ h1,h2⟩
theorem tC {T:Type} {id:Nat} {kn:List (Key×Kn)}:∀ {l:List CS} {J:CST l T} {i:Nat} {vs:List Value} {F:T→Prop},yo id kn l J i vs F→(∃J',F J')∧∀j p,nth l j=some (.k p)→cz (.c id (i+j)) kn=some (.p p)
 | [],J,i,[],F,h=>⟨⟨J,h⟩,fun j p hp=>by simp [nth]at hp⟩
 | [],_,_,_::_,_,h=>h.elim
 | .v _::_,_,_,[],_,h=>h.elim
 | .k _::_,_,_,[],_,h=>h.elim
 | .v s::r,J,i,v::vs,F,h=>by
  obtain⟨J1,h1,_⟩:=mr h
  obtain⟨h2,h3⟩:=tC h1
  refine⟨h2,fun j p hp=>?_⟩
  cases j with
  | zero=>simp [nth]at hp
  | succ j=>have:=h3 j p hp;rwa [show i+1+j=i+(j+1)by omega]at this
 | .k q::r,J,i,v::vs,F,h=>by
  simp only [yo]at h
  split at h
  ·rename_i x hx
   split at h
   ·rename_i he
    obtain⟨h2,h3⟩:=tC h
    refine⟨h2,fun j p hp=>?_⟩
    cases j with
    | zero=>simp only [nth,Option.some.injEq,CS.k.injEq]at hp;subst hp;rw [Nat.add_zero,hx,(Kn.lh he).1]
    | succ j=>have:=h3 j p hp;rwa [show i+1+j=i+(j+1)by omega]at this
   ·exact h.elim
  ·exact h.elim
theorem oG {T:Type} {rs:List (Res U)} {kn:List (Key×Kn)}:∀ {l:List (Nat×RSh)} {J:xn U l T} {F:T→Prop},ov rs kn l J F→∀id cs,(id,RSh.blk cs)∈l→∀j p,nth cs j=some (.k p)→cz (.c id j) kn=some (.p p)
 | [],_,_,_,_,_,h=>by cases h
 | (id,.ob t)::r,J,F,h,i,cs,hm=>by
  simp only [ov]at h
  split at h
  ·split at h
   ·exact oG h i cs ((List.mem_cons.1 hm).resolve_left fun e=>by cases e)
   ·exact h.elim
  ·exact h.elim
 | (id,.lst t)::r,J,F,h,i,cs,hm=>by
  simp only [ov]at h
  split at h
  ·split at h
   ·exact oG h i cs ((List.mem_cons.1 hm).resolve_left fun e=>by cases e)
   ·exact h.elim
  ·exact h.elim
 | (id,.blk l)::r,J,F,h,i,cs,hm=>by
  simp only [ov]at h
  split at h
  ·obtain⟨⟨J',h1⟩,h2⟩:=tC h
   intro j p hp
   rcases List.mem_cons.1 hm with e | hm
   ·injection e with e1 e2
    injection e2 with e2
    subst e1;subst e2
    have:=h2 j p hp
    rwa [Nat.zero_add]at this
   ·exact oG h1 i cs hm j p hp
  ·exact h.elim
theorem cU.F3 {x:Res U} {g:Nat} {cs:List Value} {T:TypeId}(h:cU x (.blk g cs T)):∃cs0,x= .blk g cs0 T∧cs0.length=cs.length:=by
 cases h
 rename_i c hc
 exact⟨c,rfl,hc⟩
theorem v7 {ct:yi} {J:JT2 U ct} {stb st':St U} {fr fr':Fr} {a a':Act} {w':World} {X X':Nat→Nat→Prop} {ws:List Nat}(hr:Rep n fr a)(hr':Rep n fr' a')(hag:Agr ws a a')(hok:qk ct.wr2 ws=true)
 (hkb:aA stb.rs fr stb.kn)(hk':aA st'.rs fr' st'.kn)(hI:Inv w0 k0 X0 may st'.rs X' w')(hlen:stb.rs.length≤st'.rs.length)(hmd:∀i,i<stb.rs.length→i ∉ st'.md→i ∉ aJ (·.1) ct.rsh→nth st'.rs i=nth stb.rs i∧X' i=X i)(hroot:∀i a,nth stb.rs i=some a→∃b,nth st'.rs i=some b∧cU a b)(hk0:k0≤stb.rs.length)
 (hu:mO ct stb.rs.length J fr' st') {F:List (Nat×Value)→St U→Prop}(hall:ze ct J stb fr.e F):
 ∃e st2,F e st2∧Rep n ⟨e,fun i=>a'.tmps.getD i undef,fr.ds⟩ a'∧Inv w0 k0 X0 may st2.rs X' w'∧aA st2.rs ⟨e,fun i=>a'.tmps.getD i undef,fr.ds⟩ st2.kn∧st2.md= []∧st2.rs.length=stb.rs.length∧(∀i,i<stb.rs.length→i ∉ aJ (·.1) ct.rsh→nth st2.rs i=nth stb.rs i∧X' i=X i)∧∀i a,nth stb.rs i=some a→∃b,nth st2.rs i=some b∧cU a b:=by
 unfold mO at hu
 split at hu
 case h_2=>exact hu.elim
 rename_i hck
 simp only [Bool.and_eq_true]at hck
 obtain⟨hkns,hmds,hrsb,hknb⟩:=hck
 obtain⟨J1,vs,h1,g1,e1⟩:=u6 hu
 have hkc:=oG h1
 obtain⟨p,us,hp,g2,m2,d2,b2⟩:=lH h1
 have hall:=g2 _ (g1 _ hall) hp
 split at hall
 case h_2=>exact hall.elim
 rename_i rs1 hl1
 split at hall
 case h_2=>exact hall.elim
 rename_i rs2 hl2
 obtain⟨l1,f1⟩:=tW hl1
 obtain⟨l2,f2⟩:=tW hl2
 have hids:aJ (·.1) ct.rsh=us.map (·.1):=by rw [gJ,m2]
 have r1:∀i x,nth stb.rs i=some x→∃y z,nth rs1 i=some y∧nth st'.rs i=some z∧((∀az,jD i us≠some (.blk az))→y=z)∧((∃az,jD i us=some (.blk az))→y=x):=by
  intro i x hx
  obtain⟨y,hy,hy1⟩:=f1 i x hx
  rw [Nat.zero_add]at hy
  obtain⟨z,hz,hzr⟩:=hroot i x hx
  refine⟨y,z,hy1,hz,?_,?_⟩
  ·intro hnb
   unfold HB at hy
   cases hg:jD i us with
   | none=>
    rw [hg]at hy
    simp only [Option.some.injEq]at hy
    subst hy
    have hni:=o4 hg
    have:i ∉ st'.md:=fun hm=>by
     have:=cm.1 hmds i hm
     rw [hids]at this
     rcases Bool.or_eq_true_iff.1 this with h | h
     ·have:=Nat.le_of_ble_eq_true h;have:=aP hx;omega
     ·exact hni (eg.1 h)
    have h2:=(hmd i (aP hx) this (by rw [hids];exact hni)).1
    rw [hz,hx]at h2
    injection h2 with h2
    exact h2.symm
   | some u=>
    rw [hg]at hy
    have hd:=d2 i u (iF hg)
    cases u with
    | ob t s=>
     obtain⟨r,hr⟩:=hd
     rw [hz]at hr
     injection hr with hr
     subst hr
     have h2:cc x (.ob t s)=some y:=hy
     cases hzr
     simp only [cc,dif_pos]at h2
     injection h2 with h2
     exact h2.symm
    | blk az=>exact absurd hg (hnb az)
    | lst t A c l=>
     obtain⟨own,T,hr⟩:=hd
     rw [hz]at hr
     injection hr with hr
     subst hr
     have h2:cc x (.lst t A c l)=some y:=hy
     cases hzr
     simp only [cc,dif_pos]at h2
     injection h2 with h2
     exact h2.symm
  ·rintro⟨az,hg⟩
   unfold HB at hy
   rw [hg]at hy
   simp only [Option.some.injEq]at hy
   exact hy.symm
 have hden:∀q:PK,q.id<stb.rs.length→den U rs1 q=den U st'.rs q:=by
  intro q hq
  obtain⟨x,hx⟩:=bO hq
  obtain⟨y,z,hy,hz,ha,hb⟩:=r1 _ x hx
  unfold den
  rw [hy,hz]
  cases hg:jD q.id us with
  | none=>rw [ha (fun az e=>by rw [hg]at e;cases e)]
  | some u=>
   cases u with
   | ob t s=>rw [ha (fun az e=>by rw [hg]at e;cases e)]
   | lst t A c l=>rw [ha (fun az e=>by rw [hg]at e;cases e)]
   | blk az=>
    have hyx:=hb ⟨az,hg⟩
    subst hyx
    obtain⟨z',hz',hzr⟩:=hroot _ _ hx
    rw [hz]at hz'
    injection hz' with hz'
    subst hz'
    obtain⟨g,cs,T,hc,_⟩:=d2 _ _ (iF hg)
    rw [hz]at hc
    injection hc with hc
    subst hc
    cases hzr
    cases q<;>rfl
 have r2:∀i,i<stb.rs.length→nth rs2 i=nth st'.rs i:=by
  intro i hi
  obtain⟨x,hx⟩:=bO hi
  obtain⟨y,z,hy,hz,ha,hb⟩:=r1 i x hx
  obtain⟨v,hv,hv2⟩:=f2 i y hy
  rw [Nat.zero_add]at hv
  rw [hv2,hz]
  unfold Iv at hv
  cases hg:jD i us with
  | none=>
   rw [hg]at hv
   simp only [Option.some.injEq]at hv
   rw [← hv,ha (fun az e=>by rw [hg]at e;cases e)]
  | some u=>
   rw [hg]at hv
   cases u with
   | ob t s=>simp only [Option.some.injEq]at hv;rw [← hv,ha (fun az e=>by rw [hg]at e;cases e)]
   | lst t A c l=>simp only [Option.some.injEq]at hv;rw [← hv,ha (fun az e=>by rw [hg]at e;cases e)]
   | blk az=>
    have hyx:=hb ⟨az,hg⟩
    subst hyx
    obtain⟨z',hz',hzr⟩:=hroot _ _ hx
    rw [hz]at hz'
    injection hz' with hz'
    subst hz'
    obtain⟨g,cs,T,hc,hcd⟩:=d2 _ _ (iF hg)
    rw [hz]at hc
    injection hc with hc
    subst hc
    have hbl:=(b2 _ hrsb _ _ (iF hg)).2 az rfl
    have hcells:aJ (kN rs1) az=cs:=by
     have:=hcd.He (V:=fun p=>(den U rs1 p).getD undef) (fun j p v hj hv=>by
      have hk:=hcd.kn hj
      obtain⟨g',cs',T',u,q1,q2,q3⟩:=hk'.get hk
      rw [hz]at q1
      injection q1 with q1
      injection q1 with _ q1 _
      subst q1
      rw [Nat.zero_add]at q2
      rw [hv]at q2
      injection q2 with q2
      subst q2
      have q3:den U st'.rs p=some v:=q3
      rw [hden p (hbl p (ij hj)),q3]
      rfl)
     have e:(fun a=>match a with | .v x=>x | .k p=>(den U rs1 p).getD undef)=kN rs1:=by funext a;cases a<;>rfl
     rw [e]at this
     exact this
    have hv:cc y (.blk (aJ (kN rs1) az))=some v:=hv
    rw [hcells]at hv
    obtain⟨cs0,rfl,hle⟩:=hzr.F3
    simp only [cc,hle,Nat.beq_refl]at hv
    exact hv.symm
 have hlen2:rs2.length=stb.rs.length:=by rw [l2,l1]
 have hden2:∀q:PK,q.id<stb.rs.length→den U rs2 q=den U st'.rs q:=fun q hq=>by unfold den;rw [r2 _ hq]
 obtain⟨hin,hds⟩:=nh hok
 have hkv:∀s v,(s,v)∈vs++jW rs2 ct.kns→lk fr'.g s fr'.e=v:=by
  intro s v hm
  rcases List.mem_append.1 hm with hm | hm
  ·exact e1 s v hm
  ·obtain⟨q,hq,rfl⟩:=gL hm
   obtain⟨q',hq',hg⟩:=nc hkns hq
   injection hq' with hq'
   subst hq'
   have:den U st'.rs q=some (lk fr'.g s fr'.e):=hk'.get hg
   rw [hden2 q (jq hknb hq),this]
   rfl
 have hrep:Rep n ⟨vs++jW rs2 ct.kns++forget ct.wr2 fr.e,fun i=>a'.tmps.getD i undef,fr.ds⟩ a':=tG hr hr' (hag.mono hin) hds hkv
 have hlk:∀i,lk (fun i=>a'.tmps.getD i undef) i (vs++jW rs2 ct.kns++forget ct.wr2 fr.e)=lk fr'.g i fr'.e:=fun i=>by rw [← hr'.get];exact(hrep.get i).symm
 have hsame:∀i,i<stb.rs.length→i ∉ aJ (·.1) ct.rsh→nth rs2 i=nth stb.rs i∧X' i=X i:=by
  intro i hi hni
  rw [r2 i hi]
  refine hmd i hi (fun hm=>?_) hni
  have:=cm.1 hmds i hm
  rcases Bool.or_eq_true_iff.1 this with h | h
  ·have:=Nat.le_of_ble_eq_true h;omega
  ·exact hni (eg.1 h)
 have hroot2:∀i a,nth stb.rs i=some a→∃b,nth rs2 i=some b∧cU a b:=by
  intro i x hx
  obtain⟨z,hz,hzr⟩:=hroot i x hx
  exact⟨z,by rw [r2 i (aP hx)];exact hz,hzr⟩
 have hIt:Inv w0 k0 X0 may rs2 X' w':=hI.GN (by omega) (fun i hi=>r2 i (by omega)) (by omega)
 have hall:=iP (fun r hr=>by
  obtain⟨i,hi⟩:=po hr
  exact⟨_,_,hIt.sat.res i r hi⟩) hall
 refine⟨_,_,hall,hrep,hIt,?_,rfl,hlen2,hsame,hroot2⟩
 refine aA.app ?_ (aA.app ?_ ?_)
 ·intro key k hm
  obtain⟨s,rfl,hs⟩:=pf hm
  obtain⟨q,rfl,hg⟩:=nc hkns hs
  show den U rs2 q=some (lk _ s _)
  rw [hlk,hden2 q (jq hknb hs)]
  exact hk'.get hg
 ·intro key k hm
  obtain⟨id,cs,j,q,h3,rfl,rfl,h5⟩:=km hm
  have hg:=hkc id cs h3 j q h5
  obtain⟨g,cs',T,v,q1,q2,q3⟩:=hk'.get hg
  have hbelow:id<stb.rs.length∧q.id<stb.rs.length:=by
   have key:∀(l:List (Nat×RSh)),dI stb.rs.length l=true→(id,RSh.blk cs)∈l→id<stb.rs.length∧ik stb.rs.length cs=true:=by
    intro l
    induction l with
    | nil=>intro _ h;cases h
    | cons x r ih=>
     intro hb hm
     obtain⟨i,x⟩:=x
     cases x with
     | ob t=>
      simp only [dI]at hb
      split at hb
      ·exact ih hb ((List.mem_cons.1 hm).resolve_left fun e=>by cases e)
      ·cases hb
     | lst t=>
      simp only [dI]at hb
      split at hb
      ·exact ih hb ((List.mem_cons.1 hm).resolve_left fun e=>by cases e)
      ·cases hb
     | blk l=>
      simp only [dI]at hb
      split at hb
      ·rename_i hlt
       simp only [Bool.and_eq_true]at hlt
       rcases List.mem_cons.1 hm with e | hm
       ·injection e with e1 e2;injection e2 with e2;subst e1;subst e2
        exact⟨by simpa [Nat.blt_eq]using hlt.1,hlt.2⟩
       ·exact ih hb hm
      ·cases hb
   obtain⟨h6,h7⟩:=key ct.rsh hrsb h3
   refine⟨h6,?_⟩
   have key2:∀(l:List CS)(j:Nat),ik stb.rs.length l=true→nth l j=some (.k q)→q.id<stb.rs.length:=by
    intro l
    induction l with
    | nil=>intro j _ h;simp [nth]at h
    | cons x r ih=>
     intro j hb hj
     cases x with
     | v s=>
      cases j with
      | zero=>simp [nth]at hj
      | succ j=>exact ih j hb hj
     | k p'=>
      simp only [ik]at hb
      split at hb
      ·rename_i hlt
       cases j with
       | zero=>simp only [nth,Option.some.injEq,CS.k.injEq]at hj;subst hj;simpa [Nat.blt_eq]using hlt
       | succ j=>exact ih j hb hj
      ·cases hb
   exact key2 cs j h7 h5
  exact⟨g,cs',T,v,by rw [r2 id hbelow.1];exact q1,q2,by show den U rs2 q=_;rw [hden2 q hbelow.2];exact q3⟩
 ·have hpg:=aA.eU (M:=aJ (·.1) ct.rsh) hkb (rs':=rs2) (fun i hi hm=>(hsame i hi hm).1) (fun i _ x hx=>hroot2 i x hx)
  intro key k hm
  obtain⟨hm1,hm2⟩:=dt hm
  have h0:=hpg key k hm1
  cases key with
  | s i=>
   have hni:i ∉ ct.wr2:=by
    intro hh
    have hm2:(!jT i ct.wr2)=true:=hm2
    rw [eg.2 hh]at hm2
    cases hm2
   show gY rs2 (lk _ i _) k
   have:lk (fun i=>a'.tmps.getD i undef) i (vs++jW rs2 ct.kns++forget ct.wr2 fr.e)=lk fr.g i fr.e:=by
    rw [hlk,← hr'.get,← hr.get]
    exact hag.tmps i fun hi=>hni (hin i hi)
   rw [this]
   exact h0
  | c id off=>exact h0
  | l id path=>exact h0
end
end Go.Proofs.YtbjlecpmgocoeaaGreatDoor.V
end
section
namespace Go.Proofs.YtbjlecpmgocoeaaGreatDoor.V
open Go Go.RowKit
open Go.IntKind (i64 u32 u64)
section
variable {U:Uni} {P:Program} {tbl:Tb U} {may:List Nat} {k0:Nat}
variable {w0:World} {X0 X:Nat→Nat→Prop} {w:World} {fr:Fr} {st:St U} {n:Nat} {N:List Nat} {ops:Array Oper}
theorem Steps.back {st1:St U} {X':Nat→Nat→Prop} {w':World}(h:Steps w0 k0 X0 may {st with md:= []} X st1 X' w'):Steps w0 k0 X0 may st X (jm U st1 st.md) X' w':=by
 obtain⟨a,b,⟨L,h1,h2,h3⟩,d⟩:=h
 refine⟨a,b,⟨L,?_,h2,h3⟩,d⟩
 show st1.md++st.md=L++st.md
 rw [h1];simp
theorem jv:∀ {l:List (Key×Nat×TypeId)} {st st':St U} {X:Nat→Nat→Prop},j3 fr l st=some st'→Inv w0 k0 X0 may st.rs X w→aA st.rs fr st.kn→∃X',Steps w0 k0 X0 may st X st' X' w∧aA st'.rs fr st'.kn
 | [],st,st',X,h,hI,hk=>by
  simp only [j3,Option.some.injEq]at h
  subst h
  exact⟨X,Steps.refl hI,hk⟩
 | (key,tt,T)::r,st,st',X,h,hI,hk=>by
  simp only [j3]at h
  split at h
  ·rename_i hv
   have hown:RS (fun _=>False) w (.lst tt true T none 0 []:Res U):=⟨Own.nil,fun k hk=>hk.elim⟩
   have hlast:nth (st.rs++ [Res.lst tt true T none 0 []]) st.rs.length=some (.lst tt true T none 0 []):=vH
   have hI2:=hI.more (Ch.refl _ _) hown (fun k hk=>hk.elim)
   have hk2:=oK hk (Res.lst tt true T none 0 [])
   have hd:den U (st.rs++ [Res.lst tt true T none 0 []]) (.sl st.rs.length 0)=some (.slice none 0 0):=by
    simp only [den,PK.id,hlast,bS,jo,List.length_nil]
   have hk3:aA (st.rs++ [Res.lst tt true T none 0 []]) fr ((key,.p (.sl st.rs.length 0))::eW (fun a _=>!(a.eq key)) st.kn):=by
    intro key' k hm
    rcases List.mem_cons.1 hm with e | hm
    ·injection e with e1 e2
     subst e1;subst e2
     cases key' with
     | s i=>
      simp only [z2,Option.some.injEq]at hv
      show den U _ _=some (lk fr.g i fr.e)
      rw [hv];exact hd
     | c id off=>
      simp only [z2]at hv
      split at hv
      ·rename_i g cs T' hn
       exact⟨g,cs,T',_,by rw [aW,if_pos (aP hn)];exact hn,hv,hd⟩
      ·cases hv
     | l id path=>simp only [z2,reduceCtorEq]at hv
    ·exact hk2 _ _ (dt hm).1
   obtain⟨X',h1,h2⟩:=jv h hI2 hk3
   have hs0:Steps w0 k0 X0 may st X ⟨st.rs++ [Res.lst tt true T none 0 []],(key,.p (.sl st.rs.length 0))::eW (fun a _=>!(a.eq key)) st.kn,st.md⟩ (tD X st.rs.length fun _=>False) w:=⟨hI2,by simp,⟨[],rfl,fun i hi=>(by cases hi),fun i hi _=>⟨by show nth (st.rs++_) i=_;rw [aW,if_pos hi],lI _ _ (by omega)⟩⟩,fun i a ha=>⟨a,by show nth (st.rs++_) i=_;rw [aW,if_pos (aP ha)];exact ha,cU.refl a⟩⟩
   exact⟨X',hs0.trans h1,h2⟩
  ·cases h
theorem Hd {c:Code} {Q:QF2 U} {a:Act} {st':St U} {X':Nat→Nat→Prop} {ws:List Nat}(hS:Steps w0 k0 X0 may st X st' X' w)(h:c.wpIn (WF none) 0 P (Real n ws a none fun x fr2 w2=>Aft w0 k0 X0 may st' X' fr.ds (fun fr' st'=>Q x fr' st') fr2 w2) a w):
 c.wpIn (WF none) 0 P (Real n ws a none fun x fr2 w2=>Aft w0 k0 X0 may st X fr.ds (fun fr' st'=>Q x fr' st') fr2 w2) a w:=by
 refine wpIn_mono h fun x a' w' he=>?_
 cases x
 case panic=>exact he
 case outgrown=>exact he
 all_goals
  obtain⟨fr',hr',hq,hag⟩:=he
  exact⟨fr',hr',hq.pre hS,hag⟩
theorem BO {c:Code} {an:An} {V:QF2 U→Fr→St U→Prop}(h:qD U P may k0 w0 X0 n c V):qD U P may k0 w0 X0 n c fun Q fr st=>oW U an Q fr st fun Q st=>V Q fr st:=by
 intro Q fr st X a w hr hI hk hv
 simp only [oW]at hv
 split at hv
 ·rename_i st' hst
  obtain⟨X',h1,h2⟩:=jv hst hI hk
  refine wpIn_mono (h Q fr st' X' a w hr h1.inv h2 hv) fun x a' w' he=>?_
  cases x
  case panic=>exact he
  case outgrown=>exact he
  all_goals
   obtain⟨fr',hr',hq,hag⟩:=he
   exact⟨fr',hr',hq.pre h1,hag⟩
 ·exact hv.elim
theorem fl {c:Code} {an:An} {V:QF2 U→Fr→St U→Prop}(h:qD U P may k0 w0 X0 n c V):qD U P may k0 w0 X0 n c fun Q fr st=>gx U may k0 c an Q fr st fun Q st=>V Q fr st:=by
 refine BO (V:=fun Q fr st=>oV U may k0 c an Q fr st fun Q st=>V Q fr st) ?_
 intro Q fr st X a w hr hI hk hv
 simp only [oV]at hv
 split at hv
 ·exact h Q fr st X a w hr hI hk hv
 ·rename_i ct hct
  split at hv
  ·rename_i hok
   simp only [Bool.and_eq_true]at hok
   obtain⟨hok,hcan⟩:=hok
   obtain⟨J,h1,h2⟩:=hv
   have hgo:=h _ fr {st with md:= []} X a w hr hI hk h1
   refine wpIn_mono hgo fun x a' w' he=>?_
   have other:∀fr',(Aft w0 k0 X0 may {st with md:= []} X fr.ds (fun fr' st'=>Q x fr' (jm U st' st.md)) fr' w')→Aft w0 k0 X0 may st X fr.ds (fun fr' st'=>Q x fr' st') fr' w':=by
    rintro fr' ⟨st',X',g1,g2,g3,g4⟩
    exact⟨jm U st' st.md,X',g1.back,g2,g3,g4⟩
   cases x
   case normal=>
    obtain⟨fr',hr',⟨st',X',g1,g2,g3,g4⟩,hag⟩:=he
    obtain⟨L,hL,cL,hl⟩:=g1.md
    have hL:st'.md=L:=by rw [hL];simp
    obtain⟨e,st2,f1,f2,f3,f4,f5,f6,f7,f8⟩:=v7 (stb:=st) (X:=X) hr hr' hag hok hk g2 g1.inv g1.len (fun i hi hm _=>hl i hi (by rw [← hL];exact hm)) g1.root hI.len g4 (h2 _)
    refine⟨_,f2,⟨jm U st2 (aJ (·.1) ct.rsh++st.md),X',⟨f3,by show st.rs.length≤st2.rs.length;omega,⟨aJ (·.1) ct.rsh,?_,fun i hi=>fG (cm.1 hcan i hi),f7⟩,f8⟩,f4,rfl,f1⟩,hag⟩
    show st2.md++(aJ (·.1) ct.rsh++st.md)=_
    rw [f5];rfl
   case panic=>exact he
   case outgrown=>exact he
   all_goals
    obtain⟨fr',hr',hq,hag⟩:=he
    exact⟨fr',hr',other fr' hq,hag⟩
  ·exact hv.elim
theorem dH(htb:∀f c,tbl.c f=some c→LV U P f c∧bU P f=true)(hm:P.follows .mixedOrders=true):∀(c:Code)(an:An),qD U P may k0 w0 X0 n c (fun Q fr st=>kF U P tbl may k0 n N c an Q fr st)
 | .skip,an=>fun Q fr st X a w hr hI hk hv=>wpIn_skip ⟨fr,hr,⟨st,X,Steps.refl hI,hk,rfl,hv⟩,Agr.refl _ _⟩
 | .region id ops false,an=>fl (c:= .region id ops false) (V:=fun Q fr st=>AR U P tbl may k0 n N ops (Q .normal) ops.toList fr st) fun Q fr st X a w hr hI hk hv=>rv htb hr hI hk hv
 | .region id ops true,an=>fl (c:= .region id ops true) (V:=fun Q fr st=>match Region.noSelect ops,dK ops.toList with
  | true,true=>ru U P tbl may k0 n N ops (j2 P ops.toList) an.V an.rd (Q .normal) ops.size (Array.replicate ops.size false) fr st
  | _,_=>False) fun Q fr st X a w hr hI hk hv=>by
  dsimp only at hv
  split at hv
  ·rename_i hs hnd
   exact tI htb hm hs hnd hr hI hk hv
  ·exact hv.elim
 | .seq x y,an=>fl (c:= .seq x y) (V:=fun Q fr st=>kF U P tbl may k0 n N x an.l (fun e fr' st'=>match e with | .normal=>kF U P tbl may k0 n N y an.r Q fr' st' | e=>Q e fr' st') fr st) fun Q fr st X a w hr hI hk hv=>by
  refine wpIn_seq (wpIn_mono (dH htb hm x an.l _ fr st X a w hr hI hk hv) fun e a' w' he=>?_)
  cases e
  case normal=>
   obtain⟨fr',hr',⟨st',X',g1,g2,g3,g4⟩,hag⟩:=he
   refine wpIn_mono (dH htb hm y an.r Q fr' st' X' a' w' hr' g1.inv g2 g4) fun e a2 w2 he=>?_
   cases e<;>first
    | exact he.elim
    | exact⟨he.1,(hag.mono fun i hi=>List.mem_append_left _ hi).trans (he.2.mono fun i hi=>List.mem_append_right _ hi)⟩
    | (obtain⟨fr2,h1,h2,h3⟩:=he
       exact⟨fr2,h1,g3▸h2.pre g1,(hag.mono fun i hi=>List.mem_append_left _ hi).trans (h3.mono fun i hi=>List.mem_append_right _ hi)⟩)
  all_goals first
   | exact he.elim
   | exact⟨he.1,he.2.mono fun i hi=>List.mem_append_left _ hi⟩
   | (obtain⟨fr2,h1,h2,h3⟩:=he
      exact⟨fr2,h1,h2,h3.mono fun i hi=>List.mem_append_left _ hi⟩)
 | .cond c x y,an=>fl (c:= .cond c x y) (V:=fun Q fr st=>match ev fr c with
  | .bool b=>split b (kF U P tbl may k0 n N x an.l Q fr st) (kF U P tbl may k0 n N y an.r Q fr st)
  | _=>False) fun Q fr st X a w hr hI hk hv=>by
  dsimp only at hv
  split at hv
  ·rename_i b hb
   rw [← hr.eval]at hb
   rcases fi hv with⟨rfl,hv2⟩ | ⟨rfl,hv2⟩
   ·exact wpIn_cond_true hb (wpIn_mono (dH htb hm x an.l Q fr st X a w hr hI hk hv2) fun e a' w' he=>he.mono (fun i hi=>List.mem_append_left _ hi) (fun _ _ _ h=>h))
   ·exact wpIn_cond_false hb (wpIn_mono (dH htb hm y an.r Q fr st X a w hr hI hk hv2) fun e a' w' he=>he.mono (fun i hi=>List.mem_append_right _ hi) (fun _ _ _ h=>h))
  ·exact hv.elim
 | .block id c,an=>fl (c:= .block id c) (V:=fun Q fr st=>kF U P tbl may k0 n N c an.l (fun e fr' st'=>match e with
  | .exit id'=>(match Nat.beq id' id with | true=>Q .normal fr' st' | false=>Q (.exit id') fr' st')
  | e=>Q e fr' st') fr st) fun Q fr st X a w hr hI hk hv=>by
  refine wpIn_block (wpIn_mono (dH htb hm c an.l _ fr st X a w hr hI hk hv) fun e a' w' he=>?_)
  cases e
  case exit id'=>
   obtain⟨fr',hr',hq,hag⟩:=he
   simp only [Exit.inBlock]
   split
   ·rename_i hi
    subst hi
    exact⟨fr',hr',hq.mono fun fr st hv'=>(by dsimp only at hv';rw [Nat.beq_refl]at hv';exact hv'),hag⟩
   ·rename_i hi
    refine⟨fr',hr',hq.mono fun fr st hv'=>?_,hag⟩
    dsimp only at hv'
    split at hv'
    ·rename_i hb;exact absurd (Nat.eq_of_beq_eq_true hb) hi
    ·exact hv'
  all_goals exact he
 | .loop c,an=>fun Q fr st00 X00 a w hr hI00 hk00 hv=>by
  simp only [kF,oW]at hv
  split at hv
  case h_2=>exact hv.elim
  rename_i st hst00
  obtain⟨X,hS00,hk⟩:=jv hst00 hI00 hk00
  have hI:=hS00.inv
  refine Hd hS00 ?_
  split at hv
  ·exact hv.elim
  ·rename_i ct hct
   split at hv
   ·rename_i hok
    simp only [Bool.and_eq_true]at hok
    obtain⟨hok,hcan⟩:=hok
    obtain⟨I,⟨m0,h0⟩,hround⟩:=hv
    refine lG (fun m a' w'=>∃fr' st' X',Rep n fr' a'∧(Inv w0 k0 X0 may st'.rs X' w'∧st.rs.length≤st'.rs.length∧(∀i,i<st.rs.length→i ∉ st'.md→i ∉ aJ (·.1) ct.rsh→nth st'.rs i=nth st.rs i∧X' i=X i)∧∀i a,nth st.rs i=some a→∃b,nth st'.rs i=some b∧cU a b)∧aA st'.rs fr' st'.kn∧mO ct st.rs.length (I m) fr' st'∧Agr (writes c) a a') m0 ⟨fr,{st with md:= []},X,hr,⟨hI,Nat.le_refl _,fun _ _ _ _=>⟨rfl,rfl⟩,fun i a ha=>⟨a,ha,cU.refl a⟩⟩,hk,h0,Agr.refl _ _⟩ ?_
    rintro m a1 w1 ⟨fr1,st1,X1,hr1,⟨hs1,hs2,hs3,hs4⟩,hk1,hu,hag⟩
    obtain⟨e,st2,f1,f2,f3,f4,f5,f6,f7,f8⟩:=v7 (stb:=st) (X:=X) hr hr1 hag hok hk hk1 hs1 hs2 hs3 hs4 hI.len hu (hround m _)
    refine wpIn_mono (dH htb hm c an.l _ _ st2 X1 a1 w1 f2 f3 f4 f1) fun x a' w' he=>?_
    have join:∀ {st3:St U} {X3:Nat→Nat→Prop},Steps w0 k0 X0 may st2 X1 st3 X3 w'→∃L3,st3.md=L3∧(∀i,i∈L3→i∈may∨k0≤i)∧∀i,i<st.rs.length→i ∉ L3→i ∉ aJ (·.1) ct.rsh→nth st3.rs i=nth st.rs i∧X3 i=X i:=by
     intro st3 X3 hs3
     obtain⟨L3,hL3,cL3,hl3⟩:=hs3.md
     refine⟨L3,by rw [hL3,f5];simp,cL3,fun i hi hn hn2=>?_⟩
     obtain⟨e1,e2⟩:=hl3 i (by omega) hn
     obtain⟨e3,e4⟩:=f7 i hi hn2
     exact⟨e1.trans e3,e2.trans e4⟩
    have rootj:∀ {st3:St U} {X3:Nat→Nat→Prop},Steps w0 k0 X0 may st2 X1 st3 X3 w'→∀i a,nth st.rs i=some a→∃b,nth st3.rs i=some b∧cU a b:=by
     intro st3 X3 hs3 i x hx
     obtain⟨b,hb,hr⟩:=f8 i x hx
     obtain⟨c',hc',hr'⟩:=hs3.root i b hb
     exact⟨c',hc',hr.trans hr'⟩
    have out:∀ {K:Fr→St U→Prop} {fr':Fr},Aft w0 k0 X0 may st2 X1 fr.ds (fun fr' st'=>K fr' (jm U st' (aJ (·.1) ct.rsh++st.md))) fr' w'→Aft w0 k0 X0 may st X fr.ds K fr' w':=by
     rintro K fr' ⟨st3,X3,g1,g2,g3,g4⟩
     obtain⟨L3,hL3,cL3,hl3⟩:=join g1
     refine⟨jm U st3 (aJ (·.1) ct.rsh++st.md),X3,⟨g1.inv,?_,⟨L3++aJ (·.1) ct.rsh,?_,fun i hi=>(List.mem_append.1 hi).elim (cL3 i) (fun hi=>fG (cm.1 hcan i hi)),fun i hi hn=>?_⟩,fun i x hx=>rootj g1 i x hx⟩,g2,g3,g4⟩
     ·show st.rs.length≤st3.rs.length
      have:=g1.len;omega
     ·show st3.md++(_++_)=_
      rw [hL3,List.append_assoc]
     ·rw [List.mem_append,not_or]at hn
      exact hl3 i hi hn.1 hn.2
    cases x
    case normal=>
     obtain⟨fr',hr',⟨st3,X3,g1,g2,g3,m',hlt,hu'⟩,hag'⟩:=he
     obtain⟨L3,hL3,_,hl3⟩:=join g1
     exact⟨m',hlt,fr',st3,X3,hr',⟨g1.inv,by have:=g1.len;omega,fun i hi hn hn2=>hl3 i hi (by rw [← hL3];exact hn) hn2,rootj g1⟩,g2,hu',hag.trans hag'⟩
    case panic=>exact⟨he.1,hag.trans he.2⟩
    case outgrown=>exact he
    all_goals
     obtain⟨fr',hr',hq,hag'⟩:=he
     exact⟨fr',hr',out hq,hag.trans hag'⟩
   ·exact hv.elim
 | .exit id,an=>fun Q fr st X a w hr hI hk hv=>wpIn_exit ⟨fr,hr,⟨st,X,Steps.refl hI,hk,rfl,hv⟩,Agr.refl _ _⟩
 | .ret,an=>fun Q fr st X a w hr hI hk hv=>wpIn_ret ⟨fr,hr,⟨st,X,Steps.refl hI,hk,rfl,hv⟩,Agr.refl _ _⟩
 | .scope c,an=>by
  refine fl (c:= .scope c) (V:=fun Q fr st=>kF U P tbl may k0 n N c an.l (fun e fr' st'=>match e with
   | .goto _=>False
   | e=>Q e fr' st') fr st) fun Q fr st X a w hr hI hk hv=>?_
  refine(wpIn_wide (n:=0)).2 (wp_scope_straight ((wpIn_wide (n:=0)).1 (wpIn_mono (dH htb hm c an.l _ fr st X a w hr hI hk hv) fun e a' w' he=>?_)))
  cases e
  case goto l=>obtain⟨_,_,⟨_,_,_,_,_,h⟩,_⟩:=he;exact h.elim
  all_goals exact he
 | .label _,an=>fun Q fr st X a w hr hI hk hv=>wpIn_label ⟨fr,hr,⟨st,X,Steps.refl hI,hk,rfl,hv⟩,Agr.refl _ _⟩
 | .rangeFunc _ _ _ _,an=>fun Q fr st X a w hr hI hk hv=>hv.elim
 | .goto _,an=>fun Q fr st X a w hr hI hk hv=>hv.elim
 | .refuse _,an=>fun Q fr st X a w hr hI hk hv=>hv.elim
end
end Go.Proofs.YtbjlecpmgocoeaaGreatDoor.V
end
section
namespace Go.Proofs.YtbjlecpmgocoeaaGreatDoor.V
open Go Go.RowKit
open Go.IntKind (i64 u32 u64)
open Enc (enc)
section
variable {U:Uni} {P:Program} {tbl:Tb U} {may:List Nat} {k0:Nat}
variable {w0:World} {X0 X:Nat→Nat→Prop} {w:World} {fr:Fr} {st:St U} {n:Nat} {N:List Nat}
theorem Bu {t:TypeId} {k:Option Kn} {x:Value} {K:Value→Option Kn→Prop}(h:sC U P t k st K)(hx:KnO st.rs x k):∃q,x= .pointer (some q):=by
 unfold sC at h
 split at h
 ·rename_i id off
  split at h
  ·rename_i g cs T hn
   have hd:den U st.rs (.loc id off)=some x:=hx
   simp only [den,PK.id,hn,bS,Option.some.injEq]at hd
   exact⟨_,hd.symm⟩
  ·exact h.elim
 ·rename_i id path off
  split at h
  ·rename_i tt r s hn
   have hd:den U st.rs (.obj id path off)=some x:=hx
   simp only [den,PK.id,hn,bS,Option.some.injEq]at hd
   exact⟨_,hd.symm⟩
  ·exact h.elim
 ·rename_i id li i off
  split at h
  ·rename_i r hn
   split at h
   ·rename_i L hL
    have hd:den U st.rs (.el id li i off)=some x:=hx
    simp only [den,PK.id,hn,bS,hL]at hd
    split at hd
    ·injection hd with hd;exact⟨_,hd.symm⟩
    ·cases hd
   ·exact h.elim
  ·exact h.elim
 ·exact h.elim
theorem jh {tmps:Array Value}(ht:∀i,tmps.getD i undef=lk fr.g i fr.e)(hS:Sat st.rs X w)(hk:aA st.rs fr st.kn):∀(rs:List ResultVar) {F:List Value→List (Option Kn)→Prop},gC U P fr st rs F→
 ∃vs ks,F vs ks∧vs.length=ks.length∧(∀j v k,nth vs j=some v→nth ks j=some k→KnO st.rs v k)∧(rs.mapM (jM tmps)).run P w= .ok vs w
 | [],F,h=>⟨[],[],h,rfl,fun j v k hv=>by simp [nth]at hv,rfl⟩
 | .tmp t::r,F,h=>by
  obtain⟨vs,ks,hF,hl,hkn,hr⟩:=jh ht hS hk r h
  refine⟨_,_,hF,by simp [hl],fun j v k hv hkj=>?_,?_⟩
  ·cases j with
   | zero=>
    simp only [nth,Option.some.injEq]at hv hkj
    subst hv;subst hkj
    cases hg:cz (.s t) st.kn with
    | none=>exact trivial
    | some q=>exact hk.get hg
   | succ j=>exact hkn j v k hv hkj
  ·have h1:(jM tmps (.tmp t)).run P w= .ok (lk fr.g t fr.e) w:=by rw [← ht];rfl
   rw [List.mapM_cons,Sem.run_bind,h1]
   show(Sem.run P (do let bs ← r.mapM (jM tmps);pure (lk fr.g t fr.e::bs)) w)=_
   rw [Sem.run_bind,hr]
   rfl
 | .cell a t::r,F,h=>by
  simp only [gC]at h
  have hx:KnO st.rs (lk fr.g a fr.e) (cz (.s a) st.kn):=by
   cases hg:cz (.s a) st.kn with
   | none=>exact trivial
   | some q=>exact hk.get hg
  obtain⟨q,hq⟩:=Bu h hx
  obtain⟨v,kv,hF,hkv,hrun⟩:=sB hS hk hx h
  obtain⟨vs,ks,hF,hl,hkn,hr⟩:=jh ht hS hk r hF
  refine⟨_,_,hF,by simp [hl],fun j u k hv hkj=>?_,?_⟩
  ·cases j with
   | zero=>
    simp only [nth,Option.some.injEq]at hv hkj
    subst hv;subst hkj
    exact hkv
   | succ j=>exact hkn j u k hv hkj
  ·have h2:=hrun w (Kept.refl _ _)
   rw [hq]at h2
   have h1:(jM tmps (.cell a t)).run P w= .ok v w:=by
    show(do loadVar t (← asAddr (tmps.getD a undef)):Sem Value).run P w=_
    rw [ht,hq]
    exact h2
   rw [List.mapM_cons,Sem.run_bind,h1]
   show(Sem.run P (do let bs ← r.mapM (jM tmps);pure (v::bs)) w)=_
   rw [Sem.run_bind,hr]
   rfl
theorem vk {fn:Func} {tmps:Array Value} {vs:List Value}(hr:(fn.results.toList.mapM (jM tmps)).run P w= .ok vs w):(results fn tmps).run P w= .ok (match vs with | [v]=>v | vs=>.tuple ⟨vs⟩) w:=by
 have hm:(fn.results.mapM (jM tmps)).run P w= .ok ⟨vs⟩ w:=by
  rw [Array.mapM_eq_mapM_toList]
  simp [hr]
 have hres:results fn tmps=(do let vs ← fn.results.mapM (jM tmps);pure (if h:vs.size=1 then vs[0]else .tuple vs)):=by
  unfold results jM
  congr 1
 rw [hres,Sem.run_bind,hm]
 cases vs with
 | nil=>rfl
 | cons v r=>
  cases r with
  | nil=>rfl
  | cons u r=>rfl
theorem uo {a b:Res U}(h:cU a b):cc a (r4 U b)=some b:=by
 cases h
 ·rename_i h
  simp only [cc,r4,h,Nat.beq_refl]
 ·simp [cc,r4]
 ·simp [cc,r4]
theorem kO {G:List (Res U)}:∀ {ms:List Nat} {us:List (Res U)} {L:List (Res U)},gI (nth G) ms=some us→(∀i,i∈ms→∀b,nth G i=some b→∃a,nth L i=some a∧cU a b)→∃L',aX L ms (aJ (r4 U) us)=some L'∧L'.length=L.length∧(∀i,i∈ms→nth L' i=nth G i)∧∀i,i ∉ ms→nth L' i=nth L i
 | [],us,L,hM,h=>by
  simp only [gI,Option.some.injEq]at hM
  subst hM
  exact⟨L,rfl,rfl,fun i hi=>(by cases hi),fun _ _=>rfl⟩
 | m::ms,us,L,hM,h=>by
  simp only [gI]at hM
  split at hM
  ·rename_i b bs hb hbs
   injection hM with hM
   subst hM
   obtain⟨a,ha,hr⟩:=h m (List.mem_cons_self ..) b hb
   have hml:=aP ha
   have e:∀j,nth (bY L m b) j=if j=m then some b else nth L j:=fun j=>by
    rw [bp]
    by_cases hj:j=m
    ·rw [if_pos ⟨hj,hml⟩,if_pos hj]
    ·rw [if_neg (fun hh=>hj hh.1),if_neg hj]
   obtain⟨L',h1,h2,h3,h4⟩:=kO (L:=bY L m b) hbs fun i hi x hx=>by
    rw [e]
    by_cases hj:i=m
    ·subst hj
     rw [hb]at hx
     injection hx with hx
     subst hx
     exact⟨b,by rw [if_pos rfl],cU.refl b⟩
    ·rw [if_neg hj];exact h i (List.mem_cons_of_mem _ hi) x hx
   refine⟨L',?_,by rw [h2];simp,fun i hi=>?_,fun i hi=>?_⟩
   ·simp only [aJ,aX,ha,uo hr]
    exact h1
   ·by_cases hm:i∈ms
    ·exact h3 i hm
    ·have:i=m:=(List.mem_cons.1 hi).resolve_right hm
     subst this
     rw [h4 i hm,e,if_pos rfl,hb]
   ·rw [List.mem_cons,not_or]at hi
    rw [h4 i hi.2,e,if_neg hi.1]
  ·cases hM
theorem si {i:Nat}:∀ {l:List Nat} {p q:Nat},posOf i l p=some q→p≤q∧nth l (q - p)=some i
 | [],_,_,h=>by cases h
 | j::r,p,q,h=>by
  simp only [posOf]at h
  split at h
  ·rename_i he
   injection h with h
   subst h
   exact⟨Nat.le_refl _,by rw [Nat.sub_self,Nat.eq_of_beq_eq_true he];rfl⟩
  ·obtain⟨h1,h2⟩:=si h
   refine⟨by omega,?_⟩
   rw [show q - p=(q - (p+1))+1 by omega]
   exact h2
theorem vy {α β:Type} {f:α→Option β} {l:List α} {r:List β}(h:gI f l=some r) {i:Nat} {a:α}(ha:nth l i=some a):f a=nth r i:=by
 obtain⟨b,h1,h2⟩:=(pV h).2 i a ha
 rw [h1,h2]
theorem Dy {α β:Type} {f:α→Option β} {l:List α} {r:List β}(h:gI f l=some r):r.length=l.length:=(pV h).1
theorem sG {rs:List (Res U)} {key:Key} {k:Kn}:∀ {l:List (Key×Kn)},Ai rs l=true→(key,k)∈l→∃p v,k= .p p∧den U rs p=some v
 | [],_,h=>by cases h
 | (a,.p p)::r,h,hm=>by
  simp only [Ai]at h
  split at h
  ·rename_i v hv
   rcases List.mem_cons.1 hm with e | hm
   ·injection e with e1 e2;subst e2;exact⟨p,v,rfl,hv⟩
   ·exact sG h hm
  ·cases h
 | (a,.t _)::r,h,_=>by cases h
 | (a,.ag _)::r,h,_=>by cases h
 | (a,.f _ _)::r,h,_=>by cases h
theorem pO {key:Key} {k:Kn}:∀ {l:List (Option Kn)} {i:Nat},(key,k)∈yK i l→∃j,key= .s (i+j)∧nth l j=some (some k)
 | [],_,h=>by cases h
 | none::r,i,h=>by
  obtain⟨j,h1,h2⟩:=pO (l:=r) h
  exact⟨j+1,by rw [h1];congr 1;omega,h2⟩
 | some q::r,i,h=>by
  rcases List.mem_cons.1 h with e | h
  ·injection e with e1 e2;subst e2;exact⟨0,e1,rfl⟩
  ·obtain⟨j,h1,h2⟩:=pO (l:=r) h
   exact⟨j+1,by rw [h1];congr 1;omega,h2⟩
theorem qs {id:Nat} {key:Key} {k:Kn}:∀ {l:List AV} {i:Nat},(key,k)∈F5 id i l→∃j p,key= .c id (i+j)∧k= .p p∧nth l j=some (.k p)
 | [],_,h=>by cases h
 | .v _::r,i,h=>by
  obtain⟨j,p,h1,h2,h3⟩:=qs (l:=r) h
  exact⟨j+1,p,by rw [h1];congr 1;omega,h2,h3⟩
 | .k q::r,i,h=>by
  rcases List.mem_cons.1 h with e | h
  ·injection e with e1 e2;exact⟨0,q,e1,e2,rfl⟩
  ·obtain⟨j,p,h1,h2,h3⟩:=qs (l:=r) h
   exact⟨j+1,p,by rw [h1];congr 1;omega,h2,h3⟩
theorem lV {key:Key} {k:Kn}:∀ {l:List (PR U)} {i:Nat},(key,k)∈Bm i l→∃j g az T o p,nth l j=some (.blk g az T)∧key= .c (i+j) o∧k= .p p∧nth az o=some (.k p)
 | [],_,h=>by cases h
 | .blk g az T::r,i,h=>by
  rcases List.mem_append.1 h with h | h
  ·obtain⟨o,p,h1,h2,h3⟩:=qs h
   exact⟨0,g,az,T,o,p,rfl,by rw [h1];simp,h2,h3⟩
  ·obtain⟨j,a,b,c,o,p,h1,h2,h3⟩:=lV (l:=r) h
   exact⟨j+1,a,b,c,o,p,h1,by rw [h2];congr 1;omega,h3⟩
 | .ob .. ::r,i,h=>by
  obtain⟨j,a,b,c,o,p,h1,h2,h3⟩:=lV (l:=r) h
  exact⟨j+1,a,b,c,o,p,h1,by rw [h2];congr 1;omega,h3⟩
 | .lst .. ::r,i,h=>by
  obtain⟨j,a,b,c,o,p,h1,h2,h3⟩:=lV (l:=r) h
  exact⟨j+1,a,b,c,o,p,h1,by rw [h2];congr 1;omega,h3⟩
theorem wJ {T:Type} {c:CP} {J:c.T T} {F G:T→AV→Prop}(h:alC c J F)(hg:∀a b,F a b→G a b):alC c J G:=by
 cases c<;>simp only [alC]at h ⊢ <;>first | exact fun x=>hg _ _ (h x) | exact hg _ _ h
theorem nq {T:Type}:∀ {l:List CP} {J:zY l T} {F G:T→List AV→Prop},zg l J F→(∀a b,F a b→G a b)→zg l J G
 | [],_,_,_,h,hg=>hg _ _ h
 | c::l,J,F,G,h,hg=>wJ (c:=c) h fun _ _ h=>nq h fun _ _ h=>hg _ _ h
theorem Ek {T:Type} {a:AP} {J:a.T U T} {F G:T→AA→Prop}(h:alA a J F)(hg:∀a b,F a b→G a b):alA a J G:=by
 cases a with
 | one c=>exact wJ (c:=c) h fun _ _ h=>hg _ _ h
 | agg l=>exact nq (l:=l) h fun _ _ h=>hg _ _ h
 | enc tt=>exact fun x=>hg _ _ (h x)
theorem sZ {T:Type}:∀ {l:List AP} {J:z1 U l T} {F G:T→List AA→Prop},zh l J F→(∀a b,F a b→G a b)→zh l J G
 | [],_,_,_,h,hg=>hg _ _ h
 | c::l,J,F,G,h,hg=>Ek (a:=c) h fun _ _ h=>sZ h fun _ _ h=>hg _ _ h
theorem Ei {T:Type} {p:RP} {J:p.T U T} {F G:T→PR U→Prop}(h:alR p J F)(hg:∀a b,F a b→G a b):alR p J G:=by
 cases p with
 | ob t=>exact fun r s=>hg _ _ (h r s)
 | blk l T=>exact fun g=>nq (h g) fun _ _ h=>hg _ _ h
 | lst t own T=>exact fun A c l=>hg _ _ (h A c l)
theorem sY {T:Type}:∀ {l:List RP} {J:Cb U l T} {F G:T→List (PR U)→Prop},zf l J F→(∀a b,b.length=l.length→F a b→G a b)→zf l J G
 | [],_,_,_,h,hg=>hg _ _ rfl h
 | c::l,J,F,G,h,hg=>Ei (p:=c) h fun _ _ h=>sY h fun _ _ hl h=>hg _ _ (by simp [hl]) h
theorem DS {bI rets:List Nat} {Q:Ou U→Prop} {v:Value} {k:Option Kn} {rs0:List (Res U)} {X':Nat→Nat→Prop} {w':World}(h:HG U k0 bI rets Q v k st)(hk0:rs0.length=k0)(hs:Steps w k0 X bI ⟨rs0,[],[]⟩ X st X' w')(hk:aA st.rs fr st.kn)(hv:KnO st.rs v k)(hmods:∀i,i∈bI→i<k0):
 ∃out rs' X'',v=out.res∧Q out∧aX rs0 bI out.upd=some rs'∧mG rs0 bI X w out w' rs' X'':=by
 unfold HG at h
 split at h
 case h_2=>exact h.elim
 rename_i us ns hus hns hck
 simp only [Bool.and_eq_true]at hck
 obtain⟨hge,hnd⟩:=hck
 have hge:∀i,i∈rets→k0≤i:=fun i hi=>Nat.le_of_ble_eq_true (cm.1 hge i hi)
 have hnd:=k8 hnd
 obtain⟨L,hL,cL,hl⟩:=hs.md
 have hsame:∀i,i<k0→i ∉ bI→nth st.rs i=nth rs0 i∧X' i=X i:=by
  intro i hi hm
  refine hl i (by simp only [];omega) fun hm2=>?_
  rcases cL i hm2 with h | h
  ·exact hm h
  ·omega
 obtain⟨rs',happ,hlen',hin,hout⟩:=kO (L:=rs0) hus fun i hi b hb=>by
  obtain⟨a,ha⟩:=bO (l:=rs0) (i:=i) (by rw [hk0];exact hmods i hi)
  obtain⟨b',hb',hr⟩:=hs.root i a ha
  rw [hb]at hb'
  injection hb' with hb'
  subst hb'
  exact⟨a,ha,hr⟩
 have hrs':∀i,i<k0→nth rs' i=nth st.rs i:=by
  intro i hi
  by_cases hm:i∈bI
  ·exact hin i hm
  ·rw [hout i hm,(hsame i hi hm).1]
 have hnl:ns.length=rets.length:=Dy hns
 have hrl:rs'.length=k0:=by rw [hlen',hk0]
 have hnum:∀i j,kZ k0 rets i=some j→nth (rs'++ns) j=nth st.rs i:=by
  intro i j hij
  unfold kZ at hij
  split at hij
  ·rename_i hb
   have hb:i<k0:=by simpa [Nat.blt_eq]using hb
   injection hij with hij
   subst hij
   rw [aW,if_pos (by omega),hrs' i hb]
  ·simp only [Option.map_eq_some_iff]at hij
   obtain⟨p,hp,rfl⟩:=hij
   obtain⟨_,hp2⟩:=si hp
   rw [Nat.sub_zero]at hp2
   rw [aW,if_neg (by omega),show k0+p - rs'.length=p by omega,← vy hns hp2]
 have hden:∀ {p q:PK} {u:Value},p.ren (kZ k0 rets)=some q→den U st.rs p=some u→den U (rs'++ns) q=some u:=by
  intro p q u hp hd
  have h1:=hnum _ _ (PK.tH hp)
  unfold den at hd ⊢
  rw [h1,← hd]
  cases p<;>simp only [PK.ren,Option.map_eq_some_iff]at hp<;>obtain⟨i,hi,rfl⟩:=hp<;>simp only [PK.id]<;>cases nth st.rs _<;>first | rfl | (rename_i r;cases r<;>rfl)
 have hknr:∀ {v:Value} {k k':Kn},k.ren (kZ k0 rets)=some k'→gY st.rs v k→gY (rs'++ns) v k':=by
  intro v k k' hk hv
  cases k with
  | p p=>
   simp only [Kn.ren,Option.map_eq_some_iff]at hk
   obtain⟨q,hq,rfl⟩:=hk
   exact hden hq hv
  | t l=>
   simp only [Kn.ren,Option.some.injEq]at hk
   subst hk
   obtain⟨vs,e,hh⟩:=hv
   refine⟨vs,e,fun j q hj=>?_⟩
   obtain⟨p,hp,hq⟩:=cW hj
   obtain⟨u,hu,hd⟩:=hh j p hp
   exact⟨u,hu,hden hq hd⟩
  | ag l=>
   simp only [Kn.ren,Option.some.injEq]at hk
   subst hk
   obtain⟨vs,e,hh⟩:=hv
   refine⟨vs,e,fun j q hj=>?_⟩
   obtain⟨p,hp,hq⟩:=cW hj
   obtain⟨u,hu,hd⟩:=hh j p hp
   exact⟨u,hu,hden hq hd⟩
  | f a b=>
   simp only [Kn.ren,Option.some.injEq]at hk
   subst hk
   obtain⟨fn,fs,cs,e,hl,h1,h2⟩:=hv
   refine⟨fn,fs,cs,e,by simpa using hl,fun j q hj=>?_,fun j q hj=>?_⟩
   ·obtain⟨p,hp,hq⟩:=cW hj
    obtain⟨u,hu,hd⟩:=h1 j p hp
    exact⟨u,hu,hden hq hd⟩
   ·obtain⟨p,hp,hq⟩:=cW hj
    obtain⟨u,hu,hd⟩:=h2 j p hp
    exact⟨u,hu,hden hq hd⟩
 let X'':Nat→Nat→Prop:=fun i=>if i<k0 then X' i else match nth rets (i - k0)with
  | some r=>X' r
  | none=>fun _=>False
 have hX:∀i,i<k0→X'' i=X' i:=fun i hi=>if_pos hi
 have hXr:∀i r,¬i<k0→nth rets (i - k0)=some r→X'' i=X' r:=fun i r hi hr=>by
  show(if i<k0 then _ else _)=_
  rw [if_neg hi,hr]
 have hcase:∀i,i<(rs'++ns).length→∃r,X'' i=X' r∧nth (rs'++ns) i=nth st.rs r∧r<st.rs.length∧((i<k0∧r=i)∨(¬i<k0∧k0≤r∧nth rets (i - k0)=some r)):=by
  intro i hi
  by_cases h1:i<k0
  ·refine⟨i,hX i h1,by rw [aW,if_pos (by omega),hrs' i h1],?_,.inl ⟨h1,rfl⟩⟩
   have:=hs.len
   simp only at this
   omega
  ·simp at hi
   obtain⟨r,hr⟩:=bO (l:=rets) (i:=i - k0) (by omega)
   have hn:=vy hns hr
   obtain⟨y,hy⟩:=bO (l:=ns) (i:=i - k0) (by omega)
   rw [hy]at hn
   exact⟨r,hXr i r h1 hr,by rw [aW,if_neg (by omega),show i - rs'.length=i - k0 by omega,hy,hn],aP hn,.inr ⟨h1,hge r (ij hr),hr⟩⟩
 refine⟨_,rs',X'',rfl,h,happ,⟨⟨fun i r hr=>?_,fun i j hi hj hij k hki=>?_⟩,hs.inv.ch,fun i hi hm=>?_,fun i hm k hki=>?_,fun i h1 h2 k hki=>?_,?_,fun key q hq hns=>?_⟩⟩
 ·obtain⟨m,e1,e2,_⟩:=hcase i (aP hr)
  rw [e1]
  exact hs.inv.sat.res m r (by rw [← e2];exact hr)
 ·obtain⟨a,a1,a2,a3,a4⟩:=hcase i hi
  obtain⟨b,b1,b2,b3,b4⟩:=hcase j hj
  rw [a1]at hki
  rw [b1]
  refine hs.inv.sat.dis a b a3 b3 (fun hab=>?_) k hki
  subst hab
  rcases a4 with⟨a5,a6⟩ | ⟨a5,a6,a7⟩<;>rcases b4 with⟨b5,b6⟩ | ⟨b5,b6,b7⟩
  ·exact hij (a6.symm.trans b6)
  ·omega
  ·omega
  ·have inj:∀(l:List Nat)(x y r:Nat),l.Nodup→nth l x=some r→nth l y=some r→x=y:=by
    intro l
    induction l with
    | nil=>intro x y r _ h;simp [nth]at h
    | cons z l ih=>
     intro x y r hn h1 h2
     rw [List.nodup_cons]at hn
     cases x with
     | zero=>
      simp only [nth,Option.some.injEq]at h1
      subst h1
      cases y with
      | zero=>rfl
      | succ y=>exact absurd (ij (l:=l) h2) hn.1
     | succ x=>
      cases y with
      | zero=>
       simp only [nth,Option.some.injEq]at h2
       subst h2
       exact absurd (ij (l:=l) h1) hn.1
      | succ y=>rw [ih x y r hn.2 h1 h2]
   have:=inj rets _ _ _ hnd a7 b7
   omega
 ·rw [hX i (by omega)]
  exact(hsame i (by omega) hm).2
 ·rw [hX i (hmods i hm)]at hki
  exact hs.inv.old i (hmods i hm) k hki
 ·obtain⟨m,e1,e2,e3,e4⟩:=hcase i (by simp only [List.length_append];simp only at h2;omega)
  rw [e1]at hki
  rcases e4 with⟨e5,e6⟩ | ⟨e5,e6,_⟩
  ·omega
  ·exact hs.inv.new m e6 e3 k hki
 ·cases k with
  | none=>exact trivial
  | some k=>
   show KnO _ v (k.ren _)
   cases hkr:k.ren (kZ k0 rets)with
   | none=>exact trivial
   | some k'=>exact hknr hkr hv
 ·obtain⟨i0,i',o',k1,⟨rfl,e2⟩ | ⟨rfl,e2⟩,e3,e4⟩:=iN hq
  ·obtain⟨hm1,_⟩:=dt e2
   obtain⟨g,cs,T,u,q1,q2,q3⟩:=hk _ _ hm1
   exact⟨g,cs,T,u,by show nth (rs'++ns) _=_;rw [hnum _ _ e3];exact q1,q2,hknr e4 q3⟩
  ·obtain⟨hm1,_⟩:=dt e2
   obtain⟨t,r,s,q1,q2⟩:=hk _ _ hm1
   exact⟨t,r,s,by show nth (rs'++ns) _=_;rw [hnum _ _ e3];exact q1,hknr e4 q2⟩
theorem Fp {f:Nat} {fn:Func} {an:An} {rets:List Nat} {c:Ctr U}(hf:P.funcs[f]? =some fn)(hm:P.follows .mixedOrders=true)(htb:∀f c,tbl.c f=some c→LV U P f c∧bU P f=true)(hmods:iT (fun i=>Nat.blt i c.res.length) c.bI=true)(h:Vc2 U P tbl N fn an rets c):LV U P f c:=by
 refine sZ h fun B az h=>sY h fun B ps hl h=>?_
 intro Q hQ X w hsat hlkp
 have h:=iP (fun r hr=>by
  obtain⟨j,hj,he⟩:=List.mem_iff_getElem.1 hr
  exact⟨_,_,hsat.res j r (by rw [aL,List.getElem?_eq_getElem hj,he])⟩) (h Q hQ)
 unfold Ic at h
 split at h
 case h_2=>exact h.elim
 rename_i code hb hck
 simp only [Bool.and_eq_true]at hck
 obtain⟨hnt,hkd⟩:=hck
 have hn':(aJ (wL (aJ PR.lP ps)) az).length≤fn.ntmps:=Nat.le_of_ble_eq_true hnt
 have hrl:(dk ps).length=c.res.length:=by simp [hl]
 have hI:Inv w c.res.length X c.bI (dk ps) X w:=⟨hsat,Ch.refl _ _,fun i _ k hk=>.inl hk,fun i h1 h2=>by omega,by omega⟩
 generalize hargs:aJ (wL (aJ PR.lP ps)) az=args at h hn' ⊢
 have hkn:aA (dk ps) ⟨num 0 args,fun _=>undef,[]⟩ (yK 0 (aJ Gc az)++(Bm 0 ps++vI 0 ps)):=by
  intro key k hmem
  obtain⟨p,v,rfl,hd⟩:=sG hkd hmem
  rcases List.mem_append.1 hmem with hmem | hmem
  ·obtain⟨j,rfl,hj⟩:=pO hmem
   rw [Nat.zero_add]
   rw [bD]at hj
   cases ha:nth az j with
   | none=>rw [ha]at hj;cases hj
   | some a=>
    rw [ha]at hj
    injection hj with hj
    have ha2:a= .one (.k p):=by
     unfold Gc at hj
     split at hj
     ·injection hj with hj;injection hj with hj;rw [hj]
     ·cases hj
    subst ha2
    show den U (dk ps) p=some (lk _ j (num 0 args))
    have hv:nth args j=some v:=by
     rw [← hargs,bD,ha]
     show some ((den U (aJ PR.lP ps) p).getD undef)=_
     rw [← uf,hd];rfl
    have hlt:=aP hv
    rw [tT,dif_pos ⟨Nat.zero_le _,by simpa using hlt⟩,hd]
    rw [aL,List.getElem?_eq_getElem hlt]at hv
    rw [← hv]
    simp
  rcases List.mem_append.1 hmem with hmem | hmem
  rotate_left
  ·have h0:=hlkp _ _ hmem
   obtain⟨_,_,_,_,_,_,_,_,_,_,rfl,_⟩:=jU hmem
   exact h0
  ·obtain⟨j,g,as',T,o,q,h1,h2,h3,h4⟩:=lV hmem
   injection h3 with h3
   subst h3
   rw [h2,Nat.zero_add]
   refine⟨g,aJ (kN (aJ PR.lP ps)) as',T,v,?_,?_,hd⟩
   ·rw [iQ,h1];rfl
   ·rw [bD,h4]
    show some ((den U (aJ PR.lP ps) p).getD undef)=_
    rw [← uf,hd];rfl
 refine(callsIn_wide (n:=0)).1 (callsIn_of_wp_marks (F:=WF none) hf hb trivial ?_)
 have hrep:Rep fn.ntmps ⟨num 0 args,fun _=>undef,[]⟩ {tmps:=(⟨args⟩:Array Value)++Array.replicate (fn.ntmps - (⟨args⟩:Array Value).size) undef,defers:= []}:=by
  refine⟨by simp;omega,fun i=>?_,rfl⟩
  rw [tT]
  simp only [Nat.zero_le,Nat.sub_zero,true_and,Array.getD_eq_getD_getElem?]
  by_cases hi:i<args.length
  ·rw [dif_pos hi,Array.getElem?_append_left (by simpa using hi)]
   simp [hi]
  ·rw [dif_neg hi,Array.getElem?_append_right (by simpa using hi)]
   rw [Array.getElem?_replicate]
   split<;>rfl
 have hmods':∀i,i∈c.bI→i<c.res.length:=fun i hi=>by simpa [Nat.blt_eq]using cm.1 hmods i hi
 have hend:∀ {fr:Fr} {a':Act} {w':World} {st':St U} {X':Nat→Nat→Prop},Rep fn.ntmps fr a'→Steps w c.res.length X c.bI ⟨dk ps,yK 0 (aJ Gc az)++(Bm 0 ps++vI 0 ps),[]⟩ X st' X' w'→aA st'.rs fr st'.kn→fr.ds= []→
  (gC U P fr st' fn.results.toList fun vs ks=>(match vs,ks with
   | [v],[k]=>yY U c.res.length c.bI rets Q v k st'
   | vs,ks=>yY U c.res.length c.bI rets Q (.tuple ⟨vs⟩) (some (.t (aJ gh ks))) st'))→
  LeavesInM (WF none) 0 P fn a'.tmps (fun e w'=>∃out rs' X',e= .returned out.res∧Q out∧aX (dk ps) c.bI out.upd=some rs'∧mG (dk ps) c.bI X w out w' rs' X') a'.defers .returning w':=by
  intro fr a' w' st' X' hr hs hk hd hres
  rw [hr.defers,hd]
  obtain⟨vs,ks,hF,hlen,hkv,hrun⟩:=jh hr.get hs.inv.sat hk _ hres
  refine⟨_,vk hrun,?_⟩
  have hs':Steps w c.res.length X c.bI ⟨dk ps,[],[]⟩ X st' X' w':=⟨hs.inv,hs.len,hs.md,hs.root⟩
  have go:∀ {v k},yY U c.res.length c.bI rets Q v k st'→KnO st'.rs v k→∃out rs' X',Ending.returned v= .returned out.res∧Q out∧aX (dk ps) c.bI out.upd=some rs'∧mG (dk ps) c.bI X w out w' rs' X':=by
   intro v k hfin hkk
   obtain⟨out,rs',X'',h1,h2,h3,h4⟩:=DS hfin hrl hs' hk hkk hmods'
   exact⟨out,rs',X'',by rw [h1],h2,h3,h4⟩
  have tup:∀ {vs:List Value} {ks:List (Option Kn)},vs.length=ks.length→(∀j v k,nth vs j=some v→nth ks j=some k→KnO st'.rs v k)→KnO st'.rs (.tuple ⟨vs⟩) (some (.t (aJ gh ks))):=by
   intro vs ks hlen hkv
   refine⟨⟨vs⟩,rfl,fun j p hj=>?_⟩
   rw [bD]at hj
   cases hn:nth ks j with
   | none=>rw [hn]at hj;cases hj
   | some k=>
    rw [hn]at hj
    injection hj with hj
    obtain⟨v,hv⟩:=bO (l:=vs) (i:=j) (by rw [hlen];exact aP hn)
    refine⟨v,by rw [aL]at hv;simpa using hv,?_⟩
    have:=hkv j v k hv hn
    unfold gh at hj
    split at hj
    ·injection hj with hj;subst hj;exact this
    ·cases hj
  cases vs with
  | nil=>
   cases ks with
   | nil=>exact go hF (tup rfl hkv)
   | cons _ _=>simp at hlen
  | cons v r=>
   cases ks with
   | nil=>simp at hlen
   | cons k s=>
    cases r with
    | nil=>
     cases s with
     | nil=>exact go hF (hkv 0 v k rfl rfl)
     | cons _ _=>simp at hlen
    | cons u r=>
     cases s with
     | nil=>simp at hlen
     | cons _ _=>exact go hF (tup hlen hkv)
 refine wpIn_mono (dH htb hm code an _ _ _ X _ w hrep hI hkn h) fun e a' w' he=>?_
 cases e
 case normal=>
  obtain⟨fr,hr,⟨st',X',g1,g2,g3,g4⟩,_⟩:=he
  have g3:fr.ds= []:=g3
  rw [g3]at g4
  exact hend hr g1 g2 g3 g4
 case ret=>
  obtain⟨fr,hr,⟨st',X',g1,g2,g3,g4⟩,_⟩:=he
  have g3:fr.ds= []:=g3
  rw [g3]at g4
  exact hend hr g1 g2 g3 g4
 case panic ch=>exact he.1.elim
 case outgrown=>exact he.elim
 all_goals
  obtain⟨fr,hr,⟨st',X',g1,g2,g3,g4⟩,_⟩:=he
  have g3:fr.ds= []:=g3
  rw [g3]at g4
  exact g4.elim
def AW {U:Uni}:List (Nat×Ctr U)→Nat→Option (Ctr U)
 | [],_=>none
 | (g,c)::r,f=>match Nat.beq g f with
  | true=>some c
  | false=>AW r f
abbrev aV {U:Uni}(l:List (Nat×Ctr U)):Tb U:=⟨AW l,.bool,[]⟩
def yp(U:Uni)(P:Program):List (Nat×Ctr U)→Prop
 | []=>True
 | (f,c)::r=>LV U P f c∧yp U P r
theorem r6 {c:Ctr U} {f:Nat}:∀ {tb:List (Nat×Ctr U)},AW tb f=some c→yp U P tb→iT (fun p=>bU P p.1) tb=true→LV U P f c∧bU P f=true
 | [],h,_,_=>by cases h
 | (g,d)::r,h,ha,hb=>by
  unfold AW at h
  have hc:=cm.1 hb
  split at h
  ·rename_i he
   injection h with h
   rw [← h,← Nat.eq_of_beq_eq_true he]
   exact⟨ha.1,hc _ (List.mem_cons_self ..)⟩
  ·exact r6 h ha.2 (cm.2 fun x hx=>hc x (List.mem_cons_of_mem _ hx))
theorem verify {f:Nat} {fn:Func} {an:An} {rets:List Nat} {c:Ctr U} {tb:List (Nat×Ctr U)} {sh:Sh} {al:List (Nat×List PK×List PK)}(hf:P.funcs[f]? =some fn)(hm:P.follows .mixedOrders=true)(ht:yp U P tb)(hb:(iT (fun p=>bU P p.1) tb && iT (fun i=>Nat.blt i c.res.length) c.bI)=true)(h:Vc2 U P ⟨AW tb,sh,al⟩ N fn an rets c):LV U P f c:=by
 rw [Bool.and_eq_true]at hb
 exact Fp hf hm (fun f c hfc=>r6 hfc ht hb.1) hb.2 h
theorem aS.pu {rs:List (Res U)} {X:Nat→Nat→Prop} {w w':World} {Q:Ou U→Prop} {v:Value} {k:Option Kn}(hs:Sat rs X w)(q:Pu w w')(hQ:Q ⟨v,k,[],[],[]⟩)(hk:KnO rs v k):aS rs [] X w Q (.returned v) w':=by
 have hs':Sat (rs++ []) X w':=by
  rw [List.append_nil]
  exact⟨fun i r hr=>(hs.res i r hr).ch q (fun _ _=>fun h=>h),hs.dis⟩
 refine⟨_,rs,X,rfl,hQ,rfl,⟨hs',q.mono fun k hk=>hk.elim,fun _ _ _=>rfl,fun i hi=>(by cases hi),fun i h1 h2=>by simp at h2;omega,by simpa using hk,fun _ k hk=>by cases hk⟩⟩
theorem aS.one {t:Nat} {r:Nat→Nat} {s s':U.ty t} {X:Nat→Nat→Prop} {w w':World} {Q:Ou U→Prop} {v:Value} {k:Option Kn} {Z:Nat→Prop}(q:Ch (X 0) w w')(hp:U.pred t r s' Z w')(hz:∀k,Z k→X 0 k∨w.heap.size≤k)(hQ:Q ⟨v,k,[.ob t s'],[],[]⟩)(hk:KnO [.ob t r s'] v k):aS [.ob t r s] [0] X w Q (.returned v) w':=by
 have happ:aX [Res.ob t r s] [0] [.ob t s']=some [.ob t r s']:=by simp [aX,cc,nth,bY]
 refine⟨_,_,fun i=>if i=0 then Z else X i,rfl,hQ,happ,⟨⟨fun i r' hr=>?_,fun i j hi hj hij=>?_⟩,q.mono fun k hk=>⟨0,by simp,hk⟩,fun i hi hm=>?_,fun i hi k hk=>?_,fun i h1 h2=>by simp at h1 h2;omega,hk,fun _ k hk=>by cases hk⟩⟩
 ·cases i with
  | zero=>simp only [List.append_nil,nth,Option.some.injEq]at hr;subst hr;exact hp
  | succ i=>simp [nth]at hr
 ·simp at hi hj;omega
 ·simp at hi hm;omega
 ·simp at hi;subst hi;exact hz k hk
theorem aS.new {t:Nat} {r:Nat→Nat} {s':U.ty t} {X:Nat→Nat→Prop} {w w':World} {Q:Ou U→Prop} {v:Value} {k:Option Kn} {Z:Nat→Prop}(q:Pu w w')(hp:U.pred t r s' Z w')(hz:∀k,Z k→w.heap.size≤k)(hQ:Q ⟨v,k,[],[.ob t r s'],[]⟩)(hk:KnO [.ob t r s'] v k):aS [] [] X w Q (.returned v) w':=by
 refine⟨_,[],fun i=>if i=0 then Z else X i,rfl,hQ,rfl,⟨⟨fun i r' hr=>?_,fun i j hi hj hij=>?_⟩,q.mono fun k hk=>hk.elim,fun i hi hm=>?_,fun i hi=>(by cases hi),fun i h1 h2 k hk=>?_,hk,fun _ k hk=>by cases hk⟩⟩
 ·cases i with
  | zero=>simp only [List.nil_append,nth,Option.some.injEq]at hr;subst hr;exact hp
  | succ i=>simp [nth]at hr
 ·simp at hi hj;omega
 ·simp at hi
 ·simp at h2;subst h2;exact hz k hk
theorem iJ {b:Bool} {x y:Prop}(h:split b x y)(hb:b=true):x:=(fi h).elim (·.2) fun h=>by rw [hb]at h;cases h.1
theorem br {b:Bool} {x y:Prop}(h:split b x y)(hb:b=false):y:=(fi h).elim (fun h=>by rw [hb]at h;cases h.1) (·.2)
theorem ai {a b:Prop}(h:a)(k:a→b):a∧b:=⟨h,k h⟩
theorem KnO.tup {U:Uni} {rs:List (Res U)} {vs:Array Value}:∀(l:List (Option PK)),(∀o∈l,o=none)→KnO rs (.tuple vs) (some (.t l)):=fun l h=>⟨vs,rfl,fun j k hj=>by have:=h _ (ij hj);cases this⟩
theorem allEq {α:Sort _} {a:α} {F:α→Prop}(h:F a):∀x,x=a→F x:=fun _ e=>e▸h
theorem af {α:Type} {a b:α} {l m:List α}(h:a=b)(k:l=m):a::l=b::m:=by rw [h,k]
theorem bH {α:Type} {F:(α→Prop)→Prop} {G:α→Prop}(e:α)(h1:F (fun x=>x=e))(h2:G e):∃J:α→Prop,F J∧∀(_:Nat→Value)(x:α),J x→G x:=⟨_,h1,fun _ _ h=>h▸h2⟩
theorem oy {α:Type} {F:(α→Prop)→Prop} {G:α→Prop}(h:F G):∃J:α→Prop,F J∧∀(_:Nat→Value)(x:α),J x→G x:=⟨_,h,fun _ _ h=>h⟩
theorem bF {U:Uni} {Q:Ou U→Prop} {a b:Bool} {k:Option Kn} {u:List (Upd U)} {n:List (Res U)} {kc:List (Key×Kn)}(h:Q ⟨.bool a,k,u,n,kc⟩)(h1:a=b):Q ⟨.bool b,k,u,n,kc⟩:=h1▸h
theorem eH {U:Uni} {Q:Ou U→Prop} {i:IntKind} {a b:Int} {k:Option Kn} {u:List (Upd U)} {n:List (Res U)} {kc:List (Key×Kn)}(h:Q ⟨.int i a,k,u,n,kc⟩)(h1:a=b):Q ⟨.int i b,k,u,n,kc⟩:=h1▸h
theorem aG {U:Uni} {Q:Ou U→Prop} {a b:Value} {k:Option Kn} {u u':List (Upd U)} {n n':List (Res U)} {kc:List (Key×Kn)}(h:Q ⟨a,k,u,n,kc⟩)(h1:a=b)(h2:u=u')(h3:n=n'):Q ⟨b,k,u',n',kc⟩:=by rw [← h1,← h2,← h3];exact h
end
end Go.Proofs.YtbjlecpmgocoeaaGreatDoor.V
end
section
namespace Go.Proofs.YtbjlecpmgocoeaaGreatDoor
open Go Go.RowKit V
open Go.IntKind (i64 u32 u64)
namespace V
section
variable {U:Uni}
theorem aS.more {rs:List (Res U)} {X:Nat→Nat→Prop} {w w':World} {Q:Ou U→Prop} {v:Value} {k:Option Kn} {Z:Nat→Prop} {r:Res U}(hs:Sat rs X w)(q:Pu w w')(hr:RS Z w' r)(hz:∀k,Z k→w.heap.size≤k)(hQ:Q ⟨v,k,[],[r],[]⟩)(hk:KnO (rs++ [r]) v k):aS rs [] X w Q (.returned v) w':=by
 refine⟨_,rs,fun i=>if i=rs.length then Z else X i,rfl,hQ,rfl,⟨⟨fun i r' hr'=>?_,fun i j hi hj hij k hk1 hk2=>?_⟩,q.mono fun k hk=>hk.elim,fun i hi _=>if_neg (by omega),fun i hi=>(by cases hi),fun i h1 h2 k hk=>?_,hk,fun _ k hk=>by cases hk⟩⟩
 ·by_cases hi:i<rs.length
  ·rw [aW,if_pos hi]at hr'
   simp only [if_neg (show ¬i=rs.length by omega)]
   exact(hs.res i r' hr').ch q fun _ _=>fun h=>h
  ·have h1:=aP hr'
   simp at h1
   obtain rfl:i=rs.length:=by omega
   rw [aW,if_neg (by omega),Nat.sub_self]at hr'
   obtain rfl:r=r':=by simpa [nth]using hr'
   simpa using hr
 ·simp at hi hj
  by_cases h1:i=rs.length
  ·have h2:¬j=rs.length:=by omega
   simp only [h1,if_true,if_neg h2]at hk1 hk2
   have:=hs.lt (i:=j) (by omega) k hk2
   have:=hz k hk1
   omega
  ·simp only [if_neg h1]at hk1
   by_cases h2:j=rs.length
   ·simp only [h2,if_true]at hk2
    have:=hs.lt (i:=i) (by omega) k hk1
    have:=hz k hk2
    omega
   ·simp only [if_neg h2]at hk2
    exact hs.dis i j (by omega) (by omega) hij k hk1 hk2
 ·simp at h2
  obtain rfl:i=rs.length:=by omega
  simp only [if_true]at hk
  exact hz k hk
theorem tL {t:Nat} {T:TypeId} {A:Option Addr} {n c:Nat} {l:List (U.el t)} {Z:Nat→Prop} {w:World}(h:Own w Z T A n c l):RS (U:=U) (fun k=>Z k∧k<w.heap.size) w (.lst t true T A c l):=by
 have hl:=h.len
 subst hl
 exact⟨h.within,fun k hk=>hk.2⟩
end
end V
section
variable {r rm:Nat→Nat} {E:Pd} {m:Mem} {X:Nat→Nat→Prop} {w w':World}
theorem Af(hs:Sat (U:=Un) [.ob 0 rm m] X w):∃L:fe,rm 0=L.g∧cP w L m∧∀k,L.X k↔X 0 k:=by
 obtain⟨L,h1,h2,h3⟩:=(hs.res 0 _ rfl:bo 0 rm m (X 0) w)
 exact⟨L,h1,h3,h2⟩
theorem ry(hs:Sat (U:=Un) [.ob 1 r E,.ob 0 rm m] X w)(hl:aA (U:=Un) [.ob 1 r E,.ob 0 rm m] fr0 [(.l 0 1,.p (.obj 1 0 0))])(hn:E.n=m.S):
 ∃(a:Nat)(L:fe),rm 0=L.g∧r 1=L.g∧DBP w ⟨r 0,a,L⟩ (E.on m)∧(∀k,(k=r 0∨k=a)↔X 0 k)∧(∀k,L.X k↔X 1 k):=by
 obtain⟨a,h1,h2⟩:=(hs.res 0 _ rfl:bo 1 r E (X 0) w)
 obtain⟨L,h3,h4,h5⟩:=(hs.res 1 _ rfl:bo 0 rm m (X 1) w)
 obtain⟨t',r',s',hn1,hk⟩:=hl _ _ (List.mem_singleton.2 rfl)
 simp only [nth,Option.some.injEq,Res.ob.injEq]at hn1
 obtain⟨rfl,rfl,_⟩:=hn1
 have hk:some (Value.pointer (some ⟨rm 0,0,none⟩))=some (Value.pointer (some ⟨r 1,0,none⟩)):=hk
 simp only [Option.some.injEq,Value.pointer.injEq,Addr.mk.injEq]at hk
 have hg:r 1=L.g:=by rw [← h3];exact hk.1.symm
 rw [hg]at h2
 have hx:∀k,(k=r 0∨k=a)→¬L.X k:=fun k hk hL=>hs.dis 0 1 (by simp) (by simp) (by omega) k ((h1 k).1 hk) ((h4 k).1 hL)
 exact⟨a,L,h3,hg,h2.db h5 hn ⟨hx _ (.inl rfl),hx _ (.inr rfl)⟩,h1,h4⟩
theorem sm {a:Nat} {L:fe} {D:DB} {Q:Ou Un→Prop} {v:Value} {k:Option Kn}(hs:Sat (U:=Un) [.ob 1 r E,.ob 0 rm m] X w)(hX0:∀k,(k=r 0∨k=a)↔X 0 k)(hX1:∀k,L.X k↔X 1 k)(hg:rm 0=L.g)(hr:r 1=L.g)(h:DBP w' ⟨r 0,a,L⟩ D)(q:Ch (dy.X ⟨r 0,a,L⟩) w w')
 (hQ:Q ⟨v,k,[.ob 1 D.pd,.ob 0 D.mem],[],[]⟩)(hk:KnO (U:=Un) [.ob 1 r D.pd,.ob 0 rm D.mem] v k):aS (U:=Un) [.ob 1 r E,.ob 0 rm m] [0,1] X w Q (.returned v) w':=by
 refine⟨_,[.ob 1 r D.pd,.ob 0 rm D.mem],X,rfl,hQ,by simp [aX,cc,nth,bY],⟨⟨fun i r' hr'=>?_,hs.dis⟩,q.mono fun k hk=>?_,fun i hi hm=>rfl,fun i hi k hk=>.inl hk,fun i h1 h2=>by simp at h1 h2;omega,by simpa using hk,fun _ k hk=>by cases hk⟩⟩
 ·match i with
  | 0=>
   simp only [List.append_nil,nth,Option.some.injEq]at hr'
   subst hr'
   exact(⟨a,hX0,by rw [hr];exact h.pd⟩:bo 1 r D.pd (X 0) w')
  | 1=>
   simp only [List.append_nil,nth,Option.some.injEq]at hr'
   subst hr'
   exact(⟨L,hg,hX1,h.mem⟩:bo 0 rm D.mem (X 1) w')
  | i+2=>simp [nth]at hr'
 ·rcases hk with hk | hk | hk
  ·exact⟨0,by simp,(hX0 k).1 (.inl hk)⟩
  ·exact⟨0,by simp,(hX0 k).1 (.inr hk)⟩
  ·exact⟨1,by simp,(hX1 k).1 hk⟩
theorem Ii(hs:Sat (U:=Un) [.ob 3 r E,.ob 2 rm m] X w)(hl:aA (U:=Un) [.ob 3 r E,.ob 2 rm m] fr0 [(.l 0 1,.p (.obj 1 0 0))])(hn:E.n=m.S):
 ∃L:fc,eM w (r 0) ⟨r 0,r 2,r 3,L⟩ (E.on m):=by
 obtain⟨h1,h2⟩:=(hs.res 0 _ rfl:bo 3 r E (X 0) w)
 obtain⟨L,h4,h5⟩:=(hs.res 1 _ rfl:bo 2 rm m (X 1) w)
 obtain⟨t',r',s',hn1,hk⟩:=hl _ _ (List.mem_singleton.2 rfl)
 simp only [nth,Option.some.injEq,Res.ob.injEq]at hn1
 obtain⟨rfl,rfl,_⟩:=hn1
 have hk:some (Value.pointer (some ⟨rm 0,0,none⟩))=some (Value.pointer (some ⟨r 1,0,none⟩)):=hk
 simp only [Option.some.injEq,Value.pointer.injEq,Addr.mk.injEq]at hk
 have hg:r 1=L.g:=by rw [h5.gq];exact hk.1.symm
 have hS:(E.on m).S=E.n:=hn.symm
 have hx:∀k,(k=r 0∨k=r 2)→¬L.X k:=fun k hk hL=>hs.dis 0 1 (by simp) (by simp) (by omega) k ((h1 k).1 hk) ((h4 k).1 hL)
 refine⟨L,rfl,?_,?_,?_,⟨fun p hp=>?_,h2.ok.aw⟩,by rw [hS];exact h2.pos,h2.ne,hx _ (.inl rfl),hx _ (.inr rfl)⟩
 ·have:=h2.hd
  rw [hg]at this
  rw [hS]
  exact this
 ·have:=h2.es
  unfold DB.aj
  rw [hS]
  exact this
 ·show bN w L.g L m
  rw [h5.gq];exact h5
 ·rw [hS]at hp ⊢
  exact h2.ok.ent p hp
end
end Go.Proofs.YtbjlecpmgocoeaaGreatDoor
end
section
set_option maxRecDepth 100000
namespace Go.Proofs.YtbjlecpmgocoeaaGreatDoor
open Go Go.RowKit V
open Go.IntKind (i64 u32 u64)
open Go.Proofs (Tryz.prog)
end Go.Proofs.YtbjlecpmgocoeaaGreatDoor
end
section
set_option maxRecDepth 100000
namespace Go.Proofs.YtbjlecpmgocoeaaGreatDoor
open Go Go.RowKit V
open Go.IntKind (i64 u32 u64)
open Go.Proofs (Tryz.prog)
def qy(ma:Bool)(mb:Int)(mc:Bool)(md:Bool)(R:ay)(w:World):Prop:=
 ∀(gv:Nat)(wv:World),gv=w.heap.size→wv=w.alloc (.cells #[(.bool ma),(.int .i64 mb),(.bool mc),(.bool md)] 157)→
 ∃J:Bool→World→Prop,(
  ∃x9:Int,wv.cell? (((Addr.mk gv 0 none).add 0).add 1)=some (.int .i64 x9)∧
  split (decide ((x9:Int)<0)) (
   J true wv) (
   ∃x14:Int,wv.cell? (((Addr.mk gv 0 none).add 0).add 1)=some (.int .i64 x14)∧
   J (decide ((x14:Int)>63)) wv))∧∀(_gv1:Nat→Value)(x16:Bool),∀wv1,J x16 wv1→
 split x16 (
  R (.tuple #[(.int .u32 0),(.int .i64 4)]) wv1) (
  ∃J1:Bool→World→Prop,(
   ∃x18:Bool,wv1.cell? ((Addr.mk gv 0 none).add 3)=some (.bool x18)∧
   split x18 (
    ∃x22:Bool,wv1.cell? (((Addr.mk gv 0 none).add 0).add 0)=some (.bool x22)∧
    J1 (!x22) wv1) (
    J1 false wv1))∧∀(_gv2:Nat→Value)(x24:Bool),∀wv2,J1 x24 wv2→
  split x24 (
   R (.tuple #[(.int .u32 0),(.int .i64 1)]) wv2) (
   ∃x27:Int,wv2.cell? (((Addr.mk gv 0 none).add 0).add 1)=some (.int .i64 x27)∧
   ∀wv3:Int,wv3=(u32.wrap (BitVec.ofInt u32.bits (u32.wrap ((u32.wrap x27:Int)*2 ^ 8)) ||| BitVec.ofInt u32.bits 1).toNat)→
   ∃x33:Bool,wv2.cell? (((Addr.mk gv 0 none).add 0).add 0)=some (.bool x33)∧
   ∃x36:Bool,wv2.cell? ((Addr.mk gv 0 none).add 2)=some (.bool x36)∧
   ∃x39:Bool,wv2.cell? ((Addr.mk gv 0 none).add 3)=some (.bool x39)∧
   ∀(gv3:Nat)(wv4:World),gv3=wv2.heap.size→wv4=wv2.alloc (.cells #[(.bool x33),(.int .u32 2),(.bool x36),(.int .u32 4),(.bool x39),(.int .u32 8)] 211)→
   ∃I:Nat→Int→Int→World→Prop,(∃m,I m wv3 0 wv4)∧∀(m:Nat)(_gv4:Nat→Value)(wv5:Int)(x43:Int),∀wv6,I m wv5 x43 wv6→
   split (decide ((x43:Int)<((3:Nat):Int))) (
    (0≤(x43:Int)∧(x43:Int)<((3:Nat):Int))∧
    ∃x46a:Bool,∃x46b:Int,(wv6.cell? (((Addr.mk gv3 0 none).add (Int.toNat x43*2)).add 0)=some (.bool x46a)∧wv6.cell? (((Addr.mk gv3 0 none).add (Int.toNat x43*2)).add 1)=some (.int .u32 x46b))∧
    ∀(gv5:Nat)(wv7:World),gv5=wv6.heap.size→wv7=wv6.alloc (.cells (#[(.bool false),(.int .u32 0)]) 211)→
    ax wv7 (Addr.mk gv5 0 none) [(.bool x46a),(.int .u32 x46b)] fun wv8=>
    ∃x48:Bool,wv8.cell? ((Addr.mk gv5 0 none).add 0)=some (.bool x48)∧
    split x48 (
     ∃x51:Int,wv8.cell? ((Addr.mk gv5 0 none).add 1)=some (.int .u32 x51)∧
     ∀wv9:Int,wv9=(u32.wrap (BitVec.ofInt u32.bits wv5 ||| BitVec.ofInt u32.bits x51).toNat)→
     ∃m1,m1<m∧I m1 wv9 (i64.wrap (x43+1)) wv8) (
     ∃m1,m1<m∧I m1 wv5 (i64.wrap (x43+1)) wv8)) (
    R (.tuple #[(.int .u32 wv5),(.int .i64 0)]) wv6)))
def zl:Ann:=(.node none .leaf (.node none (.node none (.node (some ⟨[(16,.one (.bool))],[7,8,9,10,11,12,13,14,15,16]⟩) .leaf .leaf) .leaf) (.node none (.node none (.node (some ⟨[(24,.one (.bool))],[17,18,19,20,21,22,23,24]⟩) .leaf .leaf) .leaf) (.node none .leaf (.node none (.node none .leaf (.node none (.node (some ⟨[(4,.one (.int .u32)),(43,.one (.int .i64))],[4,6,43,44,45,46,47,48,49,50,51,52,53]⟩) .leaf .leaf) .leaf)) .leaf)))))
theorem WSecond_eq(ma:Bool)(mb:Int)(mc:Bool)(md:Bool)(R:ay)(w:World):qy ma mb mc md R w=vcF Tryz.prog aF [4] Tryz.f136 zl [(.agg #[(.bool ma),(.int .i64 mb),(.bool mc),(.bool md)])] R none w:=by kernel_rfl
theorem rA(ma:Bool)(mb:Int)(mc:Bool)(md:Bool) {R:ay} {w:World}(h:qy ma mb mc md R w):Calls Tryz.prog 136 #[(.agg #[(.bool ma),(.int .i64 mb),(.bool mc),(.bool md)])] w fun e w'=>∃v,e= .returned v∧R v w':=
 ao Tryz.func136 au aa ((WSecond_eq ma mb mc md R w).mp h)
end Go.Proofs.YtbjlecpmgocoeaaGreatDoor
end
section
set_option maxRecDepth 100000
namespace Go.Proofs.YtbjlecpmgocoeaaGreatDoor
open Go Go.RowKit V
open Go.IntKind (i64 u32 u64)
open Go.Proofs (Tryz.prog)
def fX(x:Int)(k:Int)(R:ay)(w:World):Prop:=
 ∀s:Int,s=(u64.wrap (BitVec.ofInt u64.bits (u64.wrap k) &&& BitVec.ofInt u64.bits 31).toNat)→
 fZ s fun s11=>
 fZ (u64.wrap (32 - s)) fun s15=>
 R (.int .u32 (u32.wrap (BitVec.ofInt u32.bits (u32.wrap ((x:Int)*2 ^ (min s11 u32.bits))) ||| BitVec.ofInt u32.bits ((x:Int).fdiv (2 ^ (min s15 u32.bits)))).toNat)) w
def kH:Ann:= .leaf
theorem BitsRotateLeft32_eq(x:Int)(k:Int)(R:ay)(w:World):fX x k R w=vcF Tryz.prog aF [5] Tryz.f152 kH [(.int .u32 x),(.int .i64 k)] R none w:=by kernel_rfl
theorem jC(x:Int)(k:Int) {R:ay} {w:World}(h:fX x k R w):Calls Tryz.prog 152 #[(.int .u32 x),(.int .i64 k)] w fun e w'=>∃v,e= .returned v∧R v w':=
 ao Tryz.func152 au aa ((BitsRotateLeft32_eq x k R w).mp h)
def tc(wv:Int)(n:Int)(R:ay)(w:World):Prop:=
 Calls Tryz.prog 152 #[(.int .u32 wv),(.int .i64 (i64.wrap (0 - n)))] w fun e wv1=>
 ∃x8:Int,e= .returned (.int .u32 x8)∧
 R (.int .u32 x8) wv1
def B8:Ann:= .leaf
theorem SRight_eq(wv:Int)(n:Int)(R:ay)(w:World):tc wv n R w=vcF Tryz.prog aF [] Tryz.f140 B8 [(.int .u32 wv),(.int .i64 n)] R none w:=by kernel_rfl
theorem uz(wv:Int)(n:Int) {R:ay} {w:World}(h:tc wv n R w):Calls Tryz.prog 140 #[(.int .u32 wv),(.int .i64 n)] w fun e w'=>∃v,e= .returned v∧R v w':=
 ao Tryz.func140 au aa ((SRight_eq wv n R w).mp h)
def qP(wv:Int)(n:Int)(R:ay)(w:World):Prop:=
 fZ n fun s7=>
 fZ (u64.wrap (32 - n)) fun s11=>
 R (.int .u32 (u32.wrap (BitVec.ofInt u32.bits ((wv:Int).fdiv (2 ^ (min s7 u32.bits))) ||| BitVec.ofInt u32.bits (u32.wrap ((wv:Int)*2 ^ (min s11 u32.bits)))).toNat)) w
def zF:Ann:= .leaf
theorem R02Turn_eq(wv:Int)(n:Int)(R:ay)(w:World):qP wv n R w=vcF Tryz.prog aF [] Tryz.f141 zF [(.int .u32 wv),(.int .u64 n)] R none w:=by kernel_rfl
theorem rL(wv:Int)(n:Int) {R:ay} {w:World}(h:qP wv n R w):Calls Tryz.prog 141 #[(.int .u32 wv),(.int .u64 n)] w fun e w'=>∃v,e= .returned v∧R v w':=
 ao Tryz.func141 au aa ((R02Turn_eq wv n R w).mp h)
def mE(blocka:Int)(blockb:Int)(blockc:Int)(blockd:Int)(blocke:Int)(blockf:Int)(blockg:Int)(blockh:Int)(blocki:Int)(blockj:Int)(blockk:Int)(blockl:Int)(blockm:Int)(blockn:Int)(blocko:Int)(blockp:Int)(R:ay)(w:World):Prop:=
 ∀(gv:Nat)(wv:World),gv=w.heap.size→wv=w.alloc (.cells #[(.int .u32 blocka),(.int .u32 blockb),(.int .u32 blockc),(.int .u32 blockd),(.int .u32 blocke),(.int .u32 blockf),(.int .u32 blockg),(.int .u32 blockh),(.int .u32 blocki),(.int .u32 blockj),(.int .u32 blockk),(.int .u32 blockl),(.int .u32 blockm),(.int .u32 blockn),(.int .u32 blocko),(.int .u32 blockp)] 180)→
 ∀(gv1:Nat)(wv1:World),gv1=wv.heap.size→wv1=wv.alloc (.cells (Array.replicate 64 (.int .u32 0)) 194)→
 ∀(gv2:Nat)(wv2:World),gv2=wv1.heap.size→wv2=wv1.alloc (.cells (Array.replicate 64 (.int .u32 0)) 194)→
 ∃b:Nat→Nat→Prop,
 ∀x7A:Option Addr,x7A=(some (if 64=0 then Addr.mk gv2 0 none else(Addr.mk gv2 0 none).add (0*1)))→∀x7N:Nat,x7N=64 - 0→∀x7C:Nat,x7C=64 - 0→
 ∀x8A:Option Addr,x8A=(some (if 16=0 then Addr.mk gv 0 none else(Addr.mk gv 0 none).add (0*1)))→∀x8N:Nat,x8N=16 - 0→∀x8C:Nat,x8C=16 - 0→
 ∃x9:Int,∃wv3,(Builtin.copy_ #[40,40] 3 #[(.slice x7A x7N x7C),(.slice x8A x8N x8C)]:Sem Value).run Tryz.prog wv2.drew= .ok (.int .i64 x9) wv3∧
 ∃b1:Nat→Nat→Prop,(∀i k,b i k→b1 i k)∧
 ∀t:Int,t=16→
 ∃I:Nat→Int→World→Prop,(∃m,I m t wv3)∧∀(m:Nat)(_gv3:Nat→Value)(t1:Int),∀wv4,I m t1 wv4→
 split (decide ((t1:Int)<64)) (
  (0≤(i64.wrap (t1 - 15):Int)∧(i64.wrap (t1 - 15):Int)<((64:Nat):Int))∧
  ∃x17:Int,wv4.drew.cell? ((Addr.mk gv2 0 none).add (Int.toNat (i64.wrap (t1 - 15))*1))=some (.int .u32 x17)∧
  (0≤(i64.wrap (t1 - 2):Int)∧(i64.wrap (t1 - 2):Int)<((64:Nat):Int))∧
  ∃x21:Int,wv4.drew.cell? ((Addr.mk gv2 0 none).add (Int.toNat (i64.wrap (t1 - 2))*1))=some (.int .u32 x21)∧
  ∃b2:Nat→Nat→Prop,
  (0≤(i64.wrap (t1 - 16):Int)∧(i64.wrap (t1 - 16):Int)<((64:Nat):Int))∧
  b2 4 (((Addr.mk gv2 0 none).add (Int.toNat (i64.wrap (t1 - 16))*1)).block)∧
  ∃x26:Int,wv4.drew.drew.cell? ((Addr.mk gv2 0 none).add (Int.toNat (i64.wrap (t1 - 16))*1))=some (.int .u32 x26)∧
  (0≤(i64.wrap (t1 - 7):Int)∧(i64.wrap (t1 - 7):Int)<((64:Nat):Int))∧
  b2 17 (((Addr.mk gv2 0 none).add (Int.toNat (i64.wrap (t1 - 7))*1)).block)∧
  ∃x39:Int,wv4.drew.drew.cell? ((Addr.mk gv2 0 none).add (Int.toNat (i64.wrap (t1 - 7))*1))=some (.int .u32 x39)∧
  Calls Tryz.prog 140 #[(.int .u32 x17),(.int .i64 7)] wv4.drew.drew fun e wv5=>
  ∃x28:Int,e= .returned (.int .u32 x28)∧
  Kept (bP b2 [0,1,2,3,4,7,10,11,14,15,16,17,19,21,24,25]) wv4.drew.drew wv5∧∃b3:Nat→Nat→Prop,(∀i k,b2 i k→b3 i k)∧
  Calls Tryz.prog 140 #[(.int .u32 x17),(.int .i64 18)] wv5 fun e wv6=>
  ∃x30:Int,e= .returned (.int .u32 x30)∧
  Kept (bP b3 [0,1,2,3,4,10,11,14,15,16,17,19,21,24,25]) wv5 wv6∧∃b4:Nat→Nat→Prop,(∀i k,b3 i k→b4 i k)∧
  Calls Tryz.prog 140 #[(.int .u32 x21),(.int .i64 17)] wv6 fun e wv7=>
  ∃x42:Int,e= .returned (.int .u32 x42)∧
  Kept (bP b4 [0,1,2,3,4,9,10,11,12,13,14,15,16,17,18,21,24,25]) wv6 wv7∧∃b5:Nat→Nat→Prop,(∀i k,b4 i k→b5 i k)∧
  Calls Tryz.prog 140 #[(.int .u32 x21),(.int .i64 19)] wv7 fun e wv8=>
  ∃x44:Int,e= .returned (.int .u32 x44)∧
  Kept (bP b5 [0,1,2,3,4,5,9,10,11,12,13,14,15,16,17,18,24,25]) wv7 wv8∧∃b6:Nat→Nat→Prop,(∀i k,b5 i k→b6 i k)∧
  (0≤(t1:Int)∧(t1:Int)<((64:Nat):Int))∧
  ax wv8 ((Addr.mk gv2 0 none).add (Int.toNat t1*1)) [(.int .u32 (u32.wrap ((u32.wrap ((u32.wrap (x26+(u32.wrap (BitVec.ofInt u32.bits (u32.wrap (BitVec.ofInt u32.bits x28 ^^^ BitVec.ofInt u32.bits x30).toNat) ^^^ BitVec.ofInt u32.bits ((x17:Int).fdiv (2 ^ 3))).toNat)))+x39))+(u32.wrap (BitVec.ofInt u32.bits (u32.wrap (BitVec.ofInt u32.bits x42 ^^^ BitVec.ofInt u32.bits x44).toNat) ^^^ BitVec.ofInt u32.bits ((x21:Int).fdiv (2 ^ 10))).toNat))))] fun wv9=>
  ∃b7:Nat→Nat→Prop,(∀i k,b6 i k→b7 i k)∧
  ∀t2:Int,t2=(i64.wrap (t1+1))→
  ∃m1,m1<m∧I m1 t2 wv9) (
  ∃x51:Array Value,(x51.size=64∧∀i u,x51[i]? =some u→wv4.cell? ((Addr.mk gv2 0 none).add i)=some u)∧
  x51.size=64∧(∀v∈x51.toList,one? v True)∧
  ax wv4 (Addr.mk gv1 0 none) x51.toList fun wv5=>
  ∃r0:Array Value,(r0.size=64∧∀i u,r0[i]? =some u→wv5.cell? ((Addr.mk gv1 0 none).add i)=some u)∧
  R (.agg r0) wv5)
def ux:Ann:=(.node none .leaf (.node none .leaf (.node none .leaf (.node none (.node none .leaf (.node none (.node (some ⟨[(4,.one (.int .i64))],[4,5,6,10,11,12,13,14,15,16,17,18,19,20,21,22,23,24,25,26,27,28,29,30,31,32,33,34,35,36,37,38,39,40,41,42,43,44,45,46,47,48,49,50]⟩) .leaf .leaf) .leaf)) .leaf))))
theorem SSchedule_eq(blocka:Int)(blockb:Int)(blockc:Int)(blockd:Int)(blocke:Int)(blockf:Int)(blockg:Int)(blockh:Int)(blocki:Int)(blockj:Int)(blockk:Int)(blockl:Int)(blockm:Int)(blockn:Int)(blocko:Int)(blockp:Int)(R:ay)(w:World):mE blocka blockb blockc blockd blocke blockf blockg blockh blocki blockj blockk blockl blockm blockn blocko blockp R w=vcF Tryz.prog aF [4] Tryz.f139 ux [(.agg #[(.int .u32 blocka),(.int .u32 blockb),(.int .u32 blockc),(.int .u32 blockd),(.int .u32 blocke),(.int .u32 blockf),(.int .u32 blockg),(.int .u32 blockh),(.int .u32 blocki),(.int .u32 blockj),(.int .u32 blockk),(.int .u32 blockl),(.int .u32 blockm),(.int .u32 blockn),(.int .u32 blocko),(.int .u32 blockp)])] R none w:=by kernel_rfl
theorem oz(blocka:Int)(blockb:Int)(blockc:Int)(blockd:Int)(blocke:Int)(blockf:Int)(blockg:Int)(blockh:Int)(blocki:Int)(blockj:Int)(blockk:Int)(blockl:Int)(blockm:Int)(blockn:Int)(blocko:Int)(blockp:Int) {R:ay} {w:World}(h:mE blocka blockb blockc blockd blocke blockf blockg blockh blocki blockj blockk blockl blockm blockn blocko blockp R w):Calls Tryz.prog 139 #[(.agg #[(.int .u32 blocka),(.int .u32 blockb),(.int .u32 blockc),(.int .u32 blockd),(.int .u32 blocke),(.int .u32 blockf),(.int .u32 blockg),(.int .u32 blockh),(.int .u32 blocki),(.int .u32 blockj),(.int .u32 blockk),(.int .u32 blockl),(.int .u32 blockm),(.int .u32 blockn),(.int .u32 blocko),(.int .u32 blockp)])] w fun e w'=>∃v,e= .returned v∧R v w':=
 ao Tryz.func139 au aa ((SSchedule_eq blocka blockb blockc blockd blocke blockf blockg blockh blocki blockj blockk blockl blockm blockn blocko blockp R w).mp h)
def tf(statea:Int)(stateb:Int)(statec:Int)(stated:Int)(statee:Int)(statef:Int)(stateg:Int)(stateh:Int)(blocka:Int)(blockb:Int)(blockc:Int)(blockd:Int)(blocke:Int)(blockf:Int)(blockg:Int)(blockh:Int)(blocki:Int)(blockj:Int)(blockk:Int)(blockl:Int)(blockm:Int)(blockn:Int)(blocko:Int)(blockp:Int)(R:ay)(w:World):Prop:=
 ∀(gv:Nat)(wv:World),gv=w.heap.size→wv=w.alloc (.cells #[(.int .u32 statea),(.int .u32 stateb),(.int .u32 statec),(.int .u32 stated),(.int .u32 statee),(.int .u32 statef),(.int .u32 stateg),(.int .u32 stateh)] 128)→
 ∀(gv1:Nat)(wv1:World),gv1=wv.heap.size→wv1=wv.alloc (.cells #[(.int .u32 blocka),(.int .u32 blockb),(.int .u32 blockc),(.int .u32 blockd),(.int .u32 blocke),(.int .u32 blockf),(.int .u32 blockg),(.int .u32 blockh),(.int .u32 blocki),(.int .u32 blockj),(.int .u32 blockk),(.int .u32 blockl),(.int .u32 blockm),(.int .u32 blockn),(.int .u32 blocko),(.int .u32 blockp)] 180)→
 ∀(gv2:Nat)(wv2:World),gv2=wv1.heap.size→wv2=wv1.alloc (.cells (#[(.int .u32 0),(.int .u32 0),(.int .u32 0),(.int .u32 0),(.int .u32 0),(.int .u32 0),(.int .u32 0),(.int .u32 0)]) 128)→
 ∃x13a:Int,∃x13b:Int,∃x13c:Int,∃x13d:Int,∃x13e:Int,∃x13f:Int,∃x13g:Int,∃x13h:Int,(wv2.cell? ((Addr.mk gv 0 none).add 0)=some (.int .u32 x13a)∧wv2.cell? ((Addr.mk gv 0 none).add 1)=some (.int .u32 x13b)∧wv2.cell? ((Addr.mk gv 0 none).add 2)=some (.int .u32 x13c)∧wv2.cell? ((Addr.mk gv 0 none).add 3)=some (.int .u32 x13d)∧wv2.cell? ((Addr.mk gv 0 none).add 4)=some (.int .u32 x13e)∧wv2.cell? ((Addr.mk gv 0 none).add 5)=some (.int .u32 x13f)∧wv2.cell? ((Addr.mk gv 0 none).add 6)=some (.int .u32 x13g)∧wv2.cell? ((Addr.mk gv 0 none).add 7)=some (.int .u32 x13h))∧
 ∀(gv3:Nat)(wv3:World),gv3=wv2.heap.size→wv3=wv2.alloc (.cells (#[(.int .u32 0),(.int .u32 0),(.int .u32 0),(.int .u32 0),(.int .u32 0),(.int .u32 0),(.int .u32 0),(.int .u32 0)]) 128)→
 ax wv3 (Addr.mk gv3 0 none) [(.int .u32 x13a),(.int .u32 x13b),(.int .u32 x13c),(.int .u32 x13d),(.int .u32 x13e),(.int .u32 x13f),(.int .u32 x13g),(.int .u32 x13h)] fun wv4=>
 ∃x14a:Int,∃x14b:Int,∃x14c:Int,∃x14d:Int,∃x14e:Int,∃x14f:Int,∃x14g:Int,∃x14h:Int,∃x14i:Int,∃x14j:Int,∃x14k:Int,∃x14l:Int,∃x14m:Int,∃x14n:Int,∃x14o:Int,∃x14p:Int,(wv4.cell? ((Addr.mk gv1 0 none).add 0)=some (.int .u32 x14a)∧wv4.cell? ((Addr.mk gv1 0 none).add 1)=some (.int .u32 x14b)∧wv4.cell? ((Addr.mk gv1 0 none).add 2)=some (.int .u32 x14c)∧wv4.cell? ((Addr.mk gv1 0 none).add 3)=some (.int .u32 x14d)∧wv4.cell? ((Addr.mk gv1 0 none).add 4)=some (.int .u32 x14e)∧wv4.cell? ((Addr.mk gv1 0 none).add 5)=some (.int .u32 x14f)∧wv4.cell? ((Addr.mk gv1 0 none).add 6)=some (.int .u32 x14g)∧wv4.cell? ((Addr.mk gv1 0 none).add 7)=some (.int .u32 x14h)∧wv4.cell? ((Addr.mk gv1 0 none).add 8)=some (.int .u32 x14i)∧wv4.cell? ((Addr.mk gv1 0 none).add 9)=some (.int .u32 x14j)∧wv4.cell? ((Addr.mk gv1 0 none).add 10)=some (.int .u32 x14k)∧wv4.cell? ((Addr.mk gv1 0 none).add 11)=some (.int .u32 x14l)∧wv4.cell? ((Addr.mk gv1 0 none).add 12)=some (.int .u32 x14m)∧wv4.cell? ((Addr.mk gv1 0 none).add 13)=some (.int .u32 x14n)∧wv4.cell? ((Addr.mk gv1 0 none).add 14)=some (.int .u32 x14o)∧wv4.cell? ((Addr.mk gv1 0 none).add 15)=some (.int .u32 x14p))∧
 Calls Tryz.prog 139 #[(.agg #[(.int .u32 x14a),(.int .u32 x14b),(.int .u32 x14c),(.int .u32 x14d),(.int .u32 x14e),(.int .u32 x14f),(.int .u32 x14g),(.int .u32 x14h),(.int .u32 x14i),(.int .u32 x14j),(.int .u32 x14k),(.int .u32 x14l),(.int .u32 x14m),(.int .u32 x14n),(.int .u32 x14o),(.int .u32 x14p)])] wv4 fun e wv5=>
 ∃x15:Array Value,e= .returned (.agg x15)∧
 ∃I:Nat→Int→World→Prop,(∃m,I m 0 wv5)∧∀(m:Nat)(_gv4:Nat→Value)(x16:Int),∀wv6,I m x16 wv6→
 split (decide ((x16:Int)<64)) (
  (0≤(x16:Int)∧(x16:Int)<((64:Nat):Int))∧
  ∃x19:Int,x15[Int.toNat x16*1]? =some (.int .u32 x19)∧
  (0≤(0:Int)∧(0:Int)<((8:Nat):Int))∧
  ∃x21:Int,wv6.drew.cell? ((Addr.mk gv3 0 none).add (Int.toNat 0*1))=some (.int .u32 x21)∧
  (0≤(4:Int)∧(4:Int)<((8:Nat):Int))∧
  ∃x23:Int,wv6.drew.cell? ((Addr.mk gv3 0 none).add (Int.toNat 4*1))=some (.int .u32 x23)∧
  ∃b:Nat→Nat→Prop,
  (0≤(7:Int)∧(7:Int)<((8:Nat):Int))∧
  b 1 (((Addr.mk gv3 0 none).add (Int.toNat 7*1)).block)∧
  ∃x25:Int,wv6.drew.drew.cell? ((Addr.mk gv3 0 none).add (Int.toNat 7*1))=some (.int .u32 x25)∧
  (0≤(5:Int)∧(5:Int)<((8:Nat):Int))∧
  b 13 (((Addr.mk gv3 0 none).add (Int.toNat 5*1)).block)∧
  ∃x37:Int,wv6.drew.drew.cell? ((Addr.mk gv3 0 none).add (Int.toNat 5*1))=some (.int .u32 x37)∧
  (0≤(6:Int)∧(6:Int)<((8:Nat):Int))∧
  b 18 (((Addr.mk gv3 0 none).add (Int.toNat 6*1)).block)∧
  ∃x42:Int,wv6.drew.drew.cell? ((Addr.mk gv3 0 none).add (Int.toNat 6*1))=some (.int .u32 x42)∧
  (0≤(x16:Int)∧(x16:Int)<((64:Nat):Int))∧
  b 24 (((Addr.mk 1 0 none).add (Int.toNat x16*1)).block)∧
  ∃x48:Int,wv6.drew.drew.cell? ((Addr.mk 1 0 none).add (Int.toNat x16*1))=some (.int .u32 x48)∧
  Calls Tryz.prog 140 #[(.int .u32 x23),(.int .i64 6)] wv6.drew.drew fun e wv7=>
  ∃x27:Int,e= .returned (.int .u32 x27)∧
  Kept (bP b [0,1,4,7,11,12,13,14,15,16,17,18,19,20,22,23,24,26]) wv6.drew.drew wv7∧∃b1:Nat→Nat→Prop,(∀i k,b i k→b1 i k)∧
  Calls Tryz.prog 140 #[(.int .u32 x23),(.int .i64 11)] wv7 fun e wv8=>
  ∃x29:Int,e= .returned (.int .u32 x29)∧
  Kept (bP b1 [0,1,7,11,12,13,14,15,16,17,18,19,20,22,23,24,26]) wv7 wv8∧∃b2:Nat→Nat→Prop,(∀i k,b1 i k→b2 i k)∧
  Calls Tryz.prog 140 #[(.int .u32 x23),(.int .i64 25)] wv8 fun e wv9=>
  ∃x32:Int,e= .returned (.int .u32 x32)∧
  Kept (bP b2 [0,1,6,11,12,13,14,15,16,17,18,19,20,22,23,24,26]) wv8 wv9∧∃b3:Nat→Nat→Prop,(∀i k,b2 i k→b3 i k)∧
  ∀t1:Int,t1=(u32.wrap ((u32.wrap ((u32.wrap ((u32.wrap (x25+(u32.wrap (BitVec.ofInt u32.bits (u32.wrap (BitVec.ofInt u32.bits x27 ^^^ BitVec.ofInt u32.bits x29).toNat) ^^^ BitVec.ofInt u32.bits x32).toNat)))+(u32.wrap (BitVec.ofInt u32.bits (u32.wrap (BitVec.ofInt u32.bits x23 &&& BitVec.ofInt u32.bits x37).toNat) ^^^ BitVec.ofInt u32.bits (u32.wrap (BitVec.ofInt u32.bits (u32.wrap (BitVec.ofInt u32.bits (if u32.signed then -1 else u32.max) ^^^ BitVec.ofInt u32.bits x23).toNat) &&& BitVec.ofInt u32.bits x42).toNat)).toNat)))+x48))+x19))→
  ∃b4:Nat→Nat→Prop,
  (0≤(1:Int)∧(1:Int)<((8:Nat):Int))∧
  b4 10 (((Addr.mk gv3 0 none).add (Int.toNat 1*1)).block)∧
  ∃x62:Int,wv9.drew.cell? ((Addr.mk gv3 0 none).add (Int.toNat 1*1))=some (.int .u32 x62)∧
  (0≤(2:Int)∧(2:Int)<((8:Nat):Int))∧
  b4 14 (((Addr.mk gv3 0 none).add (Int.toNat 2*1)).block)∧
  ∃x66:Int,wv9.drew.cell? ((Addr.mk gv3 0 none).add (Int.toNat 2*1))=some (.int .u32 x66)∧
  (0≤(1:Int)∧(1:Int)<((8:Nat):Int))∧
  b4 18 (((Addr.mk gv3 0 none).add (Int.toNat 1*1)).block)∧
  ∃x70:Int,wv9.drew.cell? ((Addr.mk gv3 0 none).add (Int.toNat 1*1))=some (.int .u32 x70)∧
  (0≤(2:Int)∧(2:Int)<((8:Nat):Int))∧
  b4 20 (((Addr.mk gv3 0 none).add (Int.toNat 2*1)).block)∧
  ∃x72:Int,wv9.drew.cell? ((Addr.mk gv3 0 none).add (Int.toNat 2*1))=some (.int .u32 x72)∧
  Calls Tryz.prog 140 #[(.int .u32 x21),(.int .i64 2)] wv9.drew fun e wv10=>
  ∃x53:Int,e= .returned (.int .u32 x53)∧
  Kept (bP b4 [2,5,8,9,10,11,12,13,14,15,16,17,18,19,20,21,22]) wv9.drew wv10∧∃b5:Nat→Nat→Prop,(∀i k,b4 i k→b5 i k)∧
  Calls Tryz.prog 140 #[(.int .u32 x21),(.int .i64 13)] wv10 fun e wv11=>
  ∃x55:Int,e= .returned (.int .u32 x55)∧
  Kept (bP b5 [5,8,9,10,11,12,13,14,15,16,17,18,19,20,21,22]) wv10 wv11∧∃b6:Nat→Nat→Prop,(∀i k,b5 i k→b6 i k)∧
  Calls Tryz.prog 140 #[(.int .u32 x21),(.int .i64 22)] wv11 fun e wv12=>
  ∃x58:Int,e= .returned (.int .u32 x58)∧
  Kept (bP b6 [4,8,9,10,11,12,13,14,15,16,17,18,19,20,21,22]) wv11 wv12∧∃b7:Nat→Nat→Prop,(∀i k,b6 i k→b7 i k)∧
  ∀t2:Int,t2=(u32.wrap ((u32.wrap (BitVec.ofInt u32.bits (u32.wrap (BitVec.ofInt u32.bits x53 ^^^ BitVec.ofInt u32.bits x55).toNat) ^^^ BitVec.ofInt u32.bits x58).toNat)+(u32.wrap (BitVec.ofInt u32.bits (u32.wrap (BitVec.ofInt u32.bits (u32.wrap (BitVec.ofInt u32.bits x21 &&& BitVec.ofInt u32.bits x62).toNat) ^^^ BitVec.ofInt u32.bits (u32.wrap (BitVec.ofInt u32.bits x21 &&& BitVec.ofInt u32.bits x66).toNat)).toNat) ^^^ BitVec.ofInt u32.bits (u32.wrap (BitVec.ofInt u32.bits x70 &&& BitVec.ofInt u32.bits x72).toNat)).toNat)))→
  (0≤(0:Int)∧(0:Int)<((8:Nat):Int))∧
  ∃x80:Int,wv12.cell? ((Addr.mk gv3 0 none).add (Int.toNat 0*1))=some (.int .u32 x80)∧
  (0≤(1:Int)∧(1:Int)<((8:Nat):Int))∧
  ∃x82:Int,wv12.cell? ((Addr.mk gv3 0 none).add (Int.toNat 1*1))=some (.int .u32 x82)∧
  (0≤(2:Int)∧(2:Int)<((8:Nat):Int))∧
  ∃x84:Int,wv12.cell? ((Addr.mk gv3 0 none).add (Int.toNat 2*1))=some (.int .u32 x84)∧
  (0≤(3:Int)∧(3:Int)<((8:Nat):Int))∧
  ∃x86:Int,wv12.cell? ((Addr.mk gv3 0 none).add (Int.toNat 3*1))=some (.int .u32 x86)∧
  (0≤(4:Int)∧(4:Int)<((8:Nat):Int))∧
  ∃x90:Int,wv12.cell? ((Addr.mk gv3 0 none).add (Int.toNat 4*1))=some (.int .u32 x90)∧
  (0≤(5:Int)∧(5:Int)<((8:Nat):Int))∧
  ∃x92:Int,wv12.cell? ((Addr.mk gv3 0 none).add (Int.toNat 5*1))=some (.int .u32 x92)∧
  (0≤(6:Int)∧(6:Int)<((8:Nat):Int))∧
  ∃x94:Int,wv12.cell? ((Addr.mk gv3 0 none).add (Int.toNat 6*1))=some (.int .u32 x94)∧
  ax wv12 (Addr.mk gv3 0 none) [(.int .u32 (u32.wrap (t1+t2))),(.int .u32 x80),(.int .u32 x82),(.int .u32 x84),(.int .u32 (u32.wrap (x86+t1))),(.int .u32 x90),(.int .u32 x92),(.int .u32 x94)] fun wv13=>
  ∃m1,m1<m∧I m1 (i64.wrap (x16+1)) wv13) (
  ∃I1:Nat→Int→World→Prop,(∃m2,I1 m2 0 wv6)∧∀(m2:Nat)(_gv5:Nat→Value)(x97:Int),∀wv7,I1 m2 x97 wv7→
  split (decide ((x97:Int)<8)) (
   ∃b:Nat→Nat→Prop,
   (0≤(x97:Int)∧(x97:Int)<((8:Nat):Int))∧
   b 2 (((Addr.mk gv3 0 none).add (Int.toNat x97*1)).block)∧
   ∃x102:Int,wv7.drew.cell? ((Addr.mk gv3 0 none).add (Int.toNat x97*1))=some (.int .u32 x102)∧
   (0≤(x97:Int)∧(x97:Int)<((8:Nat):Int))∧
   b 5 (((Addr.mk gv 0 none).add (Int.toNat x97*1)).block)∧
   ∃x105:Int,wv7.drew.cell? ((Addr.mk gv 0 none).add (Int.toNat x97*1))=some (.int .u32 x105)∧
   (0≤(x97:Int)∧(x97:Int)<((8:Nat):Int))∧
   ax wv7.drew ((Addr.mk gv3 0 none).add (Int.toNat x97*1)) [(.int .u32 (u32.wrap (x102+x105)))] fun wv8=>
   ∃b1:Nat→Nat→Prop,(∀i k,b i k→b1 i k)∧
   ∃m3,m3<m2∧I1 m3 (i64.wrap (x97+1)) wv8) (
   ∃x109a:Int,∃x109b:Int,∃x109c:Int,∃x109d:Int,∃x109e:Int,∃x109f:Int,∃x109g:Int,∃x109h:Int,(wv7.cell? ((Addr.mk gv3 0 none).add 0)=some (.int .u32 x109a)∧wv7.cell? ((Addr.mk gv3 0 none).add 1)=some (.int .u32 x109b)∧wv7.cell? ((Addr.mk gv3 0 none).add 2)=some (.int .u32 x109c)∧wv7.cell? ((Addr.mk gv3 0 none).add 3)=some (.int .u32 x109d)∧wv7.cell? ((Addr.mk gv3 0 none).add 4)=some (.int .u32 x109e)∧wv7.cell? ((Addr.mk gv3 0 none).add 5)=some (.int .u32 x109f)∧wv7.cell? ((Addr.mk gv3 0 none).add 6)=some (.int .u32 x109g)∧wv7.cell? ((Addr.mk gv3 0 none).add 7)=some (.int .u32 x109h))∧
   ax wv7 (Addr.mk gv2 0 none) [(.int .u32 x109a),(.int .u32 x109b),(.int .u32 x109c),(.int .u32 x109d),(.int .u32 x109e),(.int .u32 x109f),(.int .u32 x109g),(.int .u32 x109h)] fun wv8=>
   ∃r0a:Int,∃r0b:Int,∃r0c:Int,∃r0d:Int,∃r0e:Int,∃r0f:Int,∃r0g:Int,∃r0h:Int,(wv8.cell? ((Addr.mk gv2 0 none).add 0)=some (.int .u32 r0a)∧wv8.cell? ((Addr.mk gv2 0 none).add 1)=some (.int .u32 r0b)∧wv8.cell? ((Addr.mk gv2 0 none).add 2)=some (.int .u32 r0c)∧wv8.cell? ((Addr.mk gv2 0 none).add 3)=some (.int .u32 r0d)∧wv8.cell? ((Addr.mk gv2 0 none).add 4)=some (.int .u32 r0e)∧wv8.cell? ((Addr.mk gv2 0 none).add 5)=some (.int .u32 r0f)∧wv8.cell? ((Addr.mk gv2 0 none).add 6)=some (.int .u32 r0g)∧wv8.cell? ((Addr.mk gv2 0 none).add 7)=some (.int .u32 r0h))∧
   R (.agg #[(.int .u32 r0a),(.int .u32 r0b),(.int .u32 r0c),(.int .u32 r0d),(.int .u32 r0e),(.int .u32 r0f),(.int .u32 r0g),(.int .u32 r0h)]) wv8))
def Ca:Ann:=(.node none .leaf (.node none .leaf (.node none (.node none .leaf (.node none (.node (some ⟨[(16,.one (.int .i64))],[6,7,8,9,10,11,16,17,18,19,20,21,22,23,24,25,26,27,28,29,30,31,32,33,34,35,36,37,38,39,40,41,42,43,44,45,46,47,48,49,50,51,52,53,54,55,56,57,58,59,60,61,62,63,64,65,66,67,68,69,70,71,72,73,74,75,76,77,78,79,80,81,82,83,84,85,86,87,88,89,90,91,92,93,94,95,96]⟩) .leaf .leaf) .leaf)) (.node none (.node none .leaf (.node none (.node (some ⟨[(97,.one (.int .i64))],[12,97,98,99,100,101,102,103,104,105,106,107,108]⟩) .leaf .leaf) .leaf)) .leaf))))
theorem SBlock_eq(statea:Int)(stateb:Int)(statec:Int)(stated:Int)(statee:Int)(statef:Int)(stateg:Int)(stateh:Int)(blocka:Int)(blockb:Int)(blockc:Int)(blockd:Int)(blocke:Int)(blockf:Int)(blockg:Int)(blockh:Int)(blocki:Int)(blockj:Int)(blockk:Int)(blockl:Int)(blockm:Int)(blockn:Int)(blocko:Int)(blockp:Int)(R:ay)(w:World):tf statea stateb statec stated statee statef stateg stateh blocka blockb blockc blockd blocke blockf blockg blockh blocki blockj blockk blockl blockm blockn blocko blockp R w=vcF Tryz.prog aF [10,11] Tryz.f117 Ca [(.agg #[(.int .u32 statea),(.int .u32 stateb),(.int .u32 statec),(.int .u32 stated),(.int .u32 statee),(.int .u32 statef),(.int .u32 stateg),(.int .u32 stateh)]),(.agg #[(.int .u32 blocka),(.int .u32 blockb),(.int .u32 blockc),(.int .u32 blockd),(.int .u32 blocke),(.int .u32 blockf),(.int .u32 blockg),(.int .u32 blockh),(.int .u32 blocki),(.int .u32 blockj),(.int .u32 blockk),(.int .u32 blockl),(.int .u32 blockm),(.int .u32 blockn),(.int .u32 blocko),(.int .u32 blockp)])] R none w:=by kernel_rfl
theorem uC(statea:Int)(stateb:Int)(statec:Int)(stated:Int)(statee:Int)(statef:Int)(stateg:Int)(stateh:Int)(blocka:Int)(blockb:Int)(blockc:Int)(blockd:Int)(blocke:Int)(blockf:Int)(blockg:Int)(blockh:Int)(blocki:Int)(blockj:Int)(blockk:Int)(blockl:Int)(blockm:Int)(blockn:Int)(blocko:Int)(blockp:Int) {R:ay} {w:World}(h:tf statea stateb statec stated statee statef stateg stateh blocka blockb blockc blockd blocke blockf blockg blockh blocki blockj blockk blockl blockm blockn blocko blockp R w):Calls Tryz.prog 117 #[(.agg #[(.int .u32 statea),(.int .u32 stateb),(.int .u32 statec),(.int .u32 stated),(.int .u32 statee),(.int .u32 statef),(.int .u32 stateg),(.int .u32 stateh)]),(.agg #[(.int .u32 blocka),(.int .u32 blockb),(.int .u32 blockc),(.int .u32 blockd),(.int .u32 blocke),(.int .u32 blockf),(.int .u32 blockg),(.int .u32 blockh),(.int .u32 blocki),(.int .u32 blockj),(.int .u32 blockk),(.int .u32 blockl),(.int .u32 blockm),(.int .u32 blockn),(.int .u32 blocko),(.int .u32 blockp)])] w fun e w'=>∃v,e= .returned v∧R v w':=
 ao Tryz.func117 au aa ((SBlock_eq statea stateb statec stated statee statef stateg stateh blocka blockb blockc blockd blocke blockf blockg blockh blocki blockj blockk blockl blockm blockn blocko blockp R w).mp h)
def om(statea:Int)(stateb:Int)(statec:Int)(stated:Int)(statee:Int)(statef:Int)(stateg:Int)(stateh:Int)(blocka:Int)(blockb:Int)(blockc:Int)(blockd:Int)(blocke:Int)(blockf:Int)(blockg:Int)(blockh:Int)(blocki:Int)(blockj:Int)(blockk:Int)(blockl:Int)(blockm:Int)(blockn:Int)(blocko:Int)(blockp:Int)(R:ay)(w:World):Prop:=
 ∀(gv:Nat)(wv:World),gv=w.heap.size→wv=w.alloc (.cells #[(.int .u32 statea),(.int .u32 stateb),(.int .u32 statec),(.int .u32 stated),(.int .u32 statee),(.int .u32 statef),(.int .u32 stateg),(.int .u32 stateh)] 128)→
 ∀(gv1:Nat)(wv1:World),gv1=wv.heap.size→wv1=wv.alloc (.cells #[(.int .u32 blocka),(.int .u32 blockb),(.int .u32 blockc),(.int .u32 blockd),(.int .u32 blocke),(.int .u32 blockf),(.int .u32 blockg),(.int .u32 blockh),(.int .u32 blocki),(.int .u32 blockj),(.int .u32 blockk),(.int .u32 blockl),(.int .u32 blockm),(.int .u32 blockn),(.int .u32 blocko),(.int .u32 blockp)] 180)→
 ∀(gv2:Nat)(wv2:World),gv2=wv1.heap.size→wv2=wv1.alloc (.cells (#[(.int .u32 0),(.int .u32 0),(.int .u32 0),(.int .u32 0),(.int .u32 0),(.int .u32 0),(.int .u32 0),(.int .u32 0)]) 128)→
 ∀(gv3:Nat)(wv3:World),gv3=wv2.heap.size→wv3=wv2.alloc (.cells (Array.replicate 64 (.int .u32 0)) 194)→
 ∀t:Int,t=0→
 ∃I:Nat→Int→World→Prop,(∃m,I m t wv3)∧∀(m:Nat)(_gv4:Nat→Value)(t1:Int),∀wv4,I m t1 wv4→
 split (decide ((t1:Int)<64)) (
  split (decide ((t1:Int)<16)) (
   (0≤(t1:Int)∧(t1:Int)<((16:Nat):Int))∧
   ∃x25:Int,wv4.cell? ((Addr.mk gv1 0 none).add (Int.toNat t1*1))=some (.int .u32 x25)∧
   (0≤(t1:Int)∧(t1:Int)<((64:Nat):Int))∧
   ax wv4 ((Addr.mk gv3 0 none).add (Int.toNat t1*1)) [(.int .u32 x25)] fun wv5=>
   ∀t2:Int,t2=(i64.wrap (t1+1))→
   ∃m1,m1<m∧I m1 t2 wv5) (
   (0≤(i64.wrap (t1 - 15):Int)∧(i64.wrap (t1 - 15):Int)<((64:Nat):Int))∧
   ∃x30:Int,wv4.cell? ((Addr.mk gv3 0 none).add (Int.toNat (i64.wrap (t1 - 15))*1))=some (.int .u32 x30)∧
   (0≤(i64.wrap (t1 - 2):Int)∧(i64.wrap (t1 - 2):Int)<((64:Nat):Int))∧
   ∃x34:Int,wv4.cell? ((Addr.mk gv3 0 none).add (Int.toNat (i64.wrap (t1 - 2))*1))=some (.int .u32 x34)∧
   ∃b:Nat→Nat→Prop,
   (0≤(i64.wrap (t1 - 7):Int)∧(i64.wrap (t1 - 7):Int)<((64:Nat):Int))∧
   b 12 (((Addr.mk gv3 0 none).add (Int.toNat (i64.wrap (t1 - 7))*1)).block)∧
   ∃x47:Int,wv4.drew.cell? ((Addr.mk gv3 0 none).add (Int.toNat (i64.wrap (t1 - 7))*1))=some (.int .u32 x47)∧
   (0≤(i64.wrap (t1 - 16):Int)∧(i64.wrap (t1 - 16):Int)<((64:Nat):Int))∧
   b 26 (((Addr.mk gv3 0 none).add (Int.toNat (i64.wrap (t1 - 16))*1)).block)∧
   ∃x61:Int,wv4.drew.cell? ((Addr.mk gv3 0 none).add (Int.toNat (i64.wrap (t1 - 16))*1))=some (.int .u32 x61)∧
   Calls Tryz.prog 141 #[(.int .u32 x34),(.int .u64 17)] wv4.drew fun e wv5=>
   ∃x37:Int,e= .returned (.int .u32 x37)∧
   Kept (bP b [0,3,6,7,9,10,11,12,14,16,19,20,23,24,25,26]) wv4.drew wv5∧∃b1:Nat→Nat→Prop,(∀i k,b i k→b1 i k)∧
   Calls Tryz.prog 141 #[(.int .u32 x34),(.int .u64 19)] wv5 fun e wv6=>
   ∃x39:Int,e= .returned (.int .u32 x39)∧
   Kept (bP b1 [0,6,7,9,10,11,12,14,16,19,20,23,24,25,26]) wv5 wv6∧∃b2:Nat→Nat→Prop,(∀i k,b1 i k→b2 i k)∧
   Calls Tryz.prog 141 #[(.int .u32 x30),(.int .u64 7)] wv6 fun e wv7=>
   ∃x50:Int,e= .returned (.int .u32 x50)∧
   Kept (bP b2 [0,5,6,7,8,9,10,11,12,13,16,19,20,23,24,25,26]) wv6 wv7∧∃b3:Nat→Nat→Prop,(∀i k,b2 i k→b3 i k)∧
   Calls Tryz.prog 141 #[(.int .u32 x30),(.int .u64 18)] wv7 fun e wv8=>
   ∃x52:Int,e= .returned (.int .u32 x52)∧
   Kept (bP b3 [0,1,5,6,7,8,9,10,11,12,13,19,20,23,24,25,26]) wv7 wv8∧∃b4:Nat→Nat→Prop,(∀i k,b3 i k→b4 i k)∧
   (0≤(t1:Int)∧(t1:Int)<((64:Nat):Int))∧
   ax wv8 ((Addr.mk gv3 0 none).add (Int.toNat t1*1)) [(.int .u32 (u32.wrap ((u32.wrap ((u32.wrap ((u32.wrap (BitVec.ofInt u32.bits (u32.wrap (BitVec.ofInt u32.bits x37 ^^^ BitVec.ofInt u32.bits x39).toNat) ^^^ BitVec.ofInt u32.bits ((x34:Int).fdiv (2 ^ 10))).toNat)+x47))+(u32.wrap (BitVec.ofInt u32.bits (u32.wrap (BitVec.ofInt u32.bits x50 ^^^ BitVec.ofInt u32.bits x52).toNat) ^^^ BitVec.ofInt u32.bits ((x30:Int).fdiv (2 ^ 3))).toNat)))+x61)))] fun wv9=>
   ∃b5:Nat→Nat→Prop,(∀i k,b4 i k→b5 i k)∧
   ∀t2:Int,t2=(i64.wrap (t1+1))→
   ∃m1,m1<m∧I m1 t2 wv9)) (
  ∃x64a:Int,∃x64b:Int,∃x64c:Int,∃x64d:Int,∃x64e:Int,∃x64f:Int,∃x64g:Int,∃x64h:Int,(wv4.cell? ((Addr.mk gv 0 none).add 0)=some (.int .u32 x64a)∧wv4.cell? ((Addr.mk gv 0 none).add 1)=some (.int .u32 x64b)∧wv4.cell? ((Addr.mk gv 0 none).add 2)=some (.int .u32 x64c)∧wv4.cell? ((Addr.mk gv 0 none).add 3)=some (.int .u32 x64d)∧wv4.cell? ((Addr.mk gv 0 none).add 4)=some (.int .u32 x64e)∧wv4.cell? ((Addr.mk gv 0 none).add 5)=some (.int .u32 x64f)∧wv4.cell? ((Addr.mk gv 0 none).add 6)=some (.int .u32 x64g)∧wv4.cell? ((Addr.mk gv 0 none).add 7)=some (.int .u32 x64h))∧
  ∀(gv5:Nat)(wv5:World),gv5=wv4.heap.size→wv5=wv4.alloc (.cells (#[(.int .u32 0),(.int .u32 0),(.int .u32 0),(.int .u32 0),(.int .u32 0),(.int .u32 0),(.int .u32 0),(.int .u32 0)]) 128)→
  ax wv5 (Addr.mk gv5 0 none) [(.int .u32 x64a),(.int .u32 x64b),(.int .u32 x64c),(.int .u32 x64d),(.int .u32 x64e),(.int .u32 x64f),(.int .u32 x64g),(.int .u32 x64h)] fun wv6=>
  ∀t2:Int,t2=0→
  ∃I1:Nat→Int→World→Prop,(∃m2,I1 m2 t2 wv6)∧∀(m2:Nat)(_gv6:Nat→Value)(t3:Int),∀wv7,I1 m2 t3 wv7→
  split (decide ((t3:Int)<64)) (
   (0≤(0:Int)∧(0:Int)<((8:Nat):Int))∧
   ∃x70:Int,wv7.cell? ((Addr.mk gv5 0 none).add (Int.toNat 0*1))=some (.int .u32 x70)∧
   (0≤(4:Int)∧(4:Int)<((8:Nat):Int))∧
   ∃x72:Int,wv7.cell? ((Addr.mk gv5 0 none).add (Int.toNat 4*1))=some (.int .u32 x72)∧
   ∃b:Nat→Nat→Prop,
   (0≤(7:Int)∧(7:Int)<((8:Nat):Int))∧
   b 1 (((Addr.mk gv5 0 none).add (Int.toNat 7*1)).block)∧
   ∃x74:Int,wv7.drew.cell? ((Addr.mk gv5 0 none).add (Int.toNat 7*1))=some (.int .u32 x74)∧
   (0≤(5:Int)∧(5:Int)<((8:Nat):Int))∧
   b 13 (((Addr.mk gv5 0 none).add (Int.toNat 5*1)).block)∧
   ∃x86:Int,wv7.drew.cell? ((Addr.mk gv5 0 none).add (Int.toNat 5*1))=some (.int .u32 x86)∧
   (0≤(6:Int)∧(6:Int)<((8:Nat):Int))∧
   b 18 (((Addr.mk gv5 0 none).add (Int.toNat 6*1)).block)∧
   ∃x91:Int,wv7.drew.cell? ((Addr.mk gv5 0 none).add (Int.toNat 6*1))=some (.int .u32 x91)∧
   (0≤(t3:Int)∧(t3:Int)<((64:Nat):Int))∧
   b 24 (((Addr.mk 2 0 none).add (Int.toNat t3*1)).block)∧
   ∃x97:Int,wv7.drew.cell? ((Addr.mk 2 0 none).add (Int.toNat t3*1))=some (.int .u32 x97)∧
   (0≤(t3:Int)∧(t3:Int)<((64:Nat):Int))∧
   b 28 (((Addr.mk gv3 0 none).add (Int.toNat t3*1)).block)∧
   ∃x101:Int,wv7.drew.cell? ((Addr.mk gv3 0 none).add (Int.toNat t3*1))=some (.int .u32 x101)∧
   Calls Tryz.prog 141 #[(.int .u32 x72),(.int .u64 6)] wv7.drew fun e wv8=>
   ∃x76:Int,e= .returned (.int .u32 x76)∧
   Kept (bP b [0,1,4,7,11,12,13,14,15,16,17,18,19,20,22,23,24,26,27,28]) wv7.drew wv8∧∃b1:Nat→Nat→Prop,(∀i k,b i k→b1 i k)∧
   Calls Tryz.prog 141 #[(.int .u32 x72),(.int .u64 11)] wv8 fun e wv9=>
   ∃x78:Int,e= .returned (.int .u32 x78)∧
   Kept (bP b1 [0,1,7,11,12,13,14,15,16,17,18,19,20,22,23,24,26,27,28]) wv8 wv9∧∃b2:Nat→Nat→Prop,(∀i k,b1 i k→b2 i k)∧
   Calls Tryz.prog 141 #[(.int .u32 x72),(.int .u64 25)] wv9 fun e wv10=>
   ∃x81:Int,e= .returned (.int .u32 x81)∧
   Kept (bP b2 [0,1,6,11,12,13,14,15,16,17,18,19,20,22,23,24,26,27,28]) wv9 wv10∧∃b3:Nat→Nat→Prop,(∀i k,b2 i k→b3 i k)∧
   ∀t11:Int,t11=(u32.wrap ((u32.wrap ((u32.wrap ((u32.wrap (x74+(u32.wrap (BitVec.ofInt u32.bits (u32.wrap (BitVec.ofInt u32.bits x76 ^^^ BitVec.ofInt u32.bits x78).toNat) ^^^ BitVec.ofInt u32.bits x81).toNat)))+(u32.wrap (BitVec.ofInt u32.bits (u32.wrap (BitVec.ofInt u32.bits x72 &&& BitVec.ofInt u32.bits x86).toNat) ^^^ BitVec.ofInt u32.bits (u32.wrap (BitVec.ofInt u32.bits (u32.wrap (BitVec.ofInt u32.bits (if u32.signed then -1 else u32.max) ^^^ BitVec.ofInt u32.bits x72).toNat) &&& BitVec.ofInt u32.bits x91).toNat)).toNat)))+x97))+x101))→
   ∃b4:Nat→Nat→Prop,
   (0≤(1:Int)∧(1:Int)<((8:Nat):Int))∧
   b4 10 (((Addr.mk gv5 0 none).add (Int.toNat 1*1)).block)∧
   ∃x113:Int,wv10.drew.cell? ((Addr.mk gv5 0 none).add (Int.toNat 1*1))=some (.int .u32 x113)∧
   (0≤(2:Int)∧(2:Int)<((8:Nat):Int))∧
   b4 14 (((Addr.mk gv5 0 none).add (Int.toNat 2*1)).block)∧
   ∃x117:Int,wv10.drew.cell? ((Addr.mk gv5 0 none).add (Int.toNat 2*1))=some (.int .u32 x117)∧
   (0≤(1:Int)∧(1:Int)<((8:Nat):Int))∧
   b4 18 (((Addr.mk gv5 0 none).add (Int.toNat 1*1)).block)∧
   ∃x121:Int,wv10.drew.cell? ((Addr.mk gv5 0 none).add (Int.toNat 1*1))=some (.int .u32 x121)∧
   (0≤(2:Int)∧(2:Int)<((8:Nat):Int))∧
   b4 20 (((Addr.mk gv5 0 none).add (Int.toNat 2*1)).block)∧
   ∃x123:Int,wv10.drew.cell? ((Addr.mk gv5 0 none).add (Int.toNat 2*1))=some (.int .u32 x123)∧
   Calls Tryz.prog 141 #[(.int .u32 x70),(.int .u64 2)] wv10.drew fun e wv11=>
   ∃x104:Int,e= .returned (.int .u32 x104)∧
   Kept (bP b4 [2,5,8,9,10,11,12,13,14,15,16,17,18,19,20,21,22]) wv10.drew wv11∧∃b5:Nat→Nat→Prop,(∀i k,b4 i k→b5 i k)∧
   Calls Tryz.prog 141 #[(.int .u32 x70),(.int .u64 13)] wv11 fun e wv12=>
   ∃x106:Int,e= .returned (.int .u32 x106)∧
   Kept (bP b5 [5,8,9,10,11,12,13,14,15,16,17,18,19,20,21,22]) wv11 wv12∧∃b6:Nat→Nat→Prop,(∀i k,b5 i k→b6 i k)∧
   Calls Tryz.prog 141 #[(.int .u32 x70),(.int .u64 22)] wv12 fun e wv13=>
   ∃x109:Int,e= .returned (.int .u32 x109)∧
   Kept (bP b6 [4,8,9,10,11,12,13,14,15,16,17,18,19,20,21,22]) wv12 wv13∧∃b7:Nat→Nat→Prop,(∀i k,b6 i k→b7 i k)∧
   ∀t21:Int,t21=(u32.wrap ((u32.wrap (BitVec.ofInt u32.bits (u32.wrap (BitVec.ofInt u32.bits x104 ^^^ BitVec.ofInt u32.bits x106).toNat) ^^^ BitVec.ofInt u32.bits x109).toNat)+(u32.wrap (BitVec.ofInt u32.bits (u32.wrap (BitVec.ofInt u32.bits (u32.wrap (BitVec.ofInt u32.bits x70 &&& BitVec.ofInt u32.bits x113).toNat) ^^^ BitVec.ofInt u32.bits (u32.wrap (BitVec.ofInt u32.bits x70 &&& BitVec.ofInt u32.bits x117).toNat)).toNat) ^^^ BitVec.ofInt u32.bits (u32.wrap (BitVec.ofInt u32.bits x121 &&& BitVec.ofInt u32.bits x123).toNat)).toNat)))→
   (0≤(0:Int)∧(0:Int)<((8:Nat):Int))∧
   ∃x131:Int,wv13.cell? ((Addr.mk gv5 0 none).add (Int.toNat 0*1))=some (.int .u32 x131)∧
   (0≤(1:Int)∧(1:Int)<((8:Nat):Int))∧
   ∃x133:Int,wv13.cell? ((Addr.mk gv5 0 none).add (Int.toNat 1*1))=some (.int .u32 x133)∧
   (0≤(2:Int)∧(2:Int)<((8:Nat):Int))∧
   ∃x135:Int,wv13.cell? ((Addr.mk gv5 0 none).add (Int.toNat 2*1))=some (.int .u32 x135)∧
   (0≤(3:Int)∧(3:Int)<((8:Nat):Int))∧
   ∃x137:Int,wv13.cell? ((Addr.mk gv5 0 none).add (Int.toNat 3*1))=some (.int .u32 x137)∧
   (0≤(4:Int)∧(4:Int)<((8:Nat):Int))∧
   ∃x141:Int,wv13.cell? ((Addr.mk gv5 0 none).add (Int.toNat 4*1))=some (.int .u32 x141)∧
   (0≤(5:Int)∧(5:Int)<((8:Nat):Int))∧
   ∃x143:Int,wv13.cell? ((Addr.mk gv5 0 none).add (Int.toNat 5*1))=some (.int .u32 x143)∧
   (0≤(6:Int)∧(6:Int)<((8:Nat):Int))∧
   ∃x145:Int,wv13.cell? ((Addr.mk gv5 0 none).add (Int.toNat 6*1))=some (.int .u32 x145)∧
   ax wv13 (Addr.mk gv5 0 none) [(.int .u32 (u32.wrap (t11+t21))),(.int .u32 x131),(.int .u32 x133),(.int .u32 x135),(.int .u32 (u32.wrap (x137+t11))),(.int .u32 x141),(.int .u32 x143),(.int .u32 x145)] fun wv14=>
   ∀t4:Int,t4=(i64.wrap (t3+1))→
   ∃m3,m3<m2∧I1 m3 t4 wv14) (
   ∀i:Int,i=0→
   ∃I2:Nat→Int→World→Prop,(∃m4,I2 m4 i wv7)∧∀(m4:Nat)(_gv7:Nat→Value)(i1:Int),∀wv8,I2 m4 i1 wv8→
   split (decide ((i1:Int)<8)) (
    ∃b:Nat→Nat→Prop,
    (0≤(i1:Int)∧(i1:Int)<((8:Nat):Int))∧
    b 3 (((Addr.mk gv5 0 none).add (Int.toNat i1*1)).block)∧
    ∃x154:Int,wv8.drew.cell? ((Addr.mk gv5 0 none).add (Int.toNat i1*1))=some (.int .u32 x154)∧
    (0≤(i1:Int)∧(i1:Int)<((8:Nat):Int))∧
    b 6 (((Addr.mk gv 0 none).add (Int.toNat i1*1)).block)∧
    ∃x157:Int,wv8.drew.cell? ((Addr.mk gv 0 none).add (Int.toNat i1*1))=some (.int .u32 x157)∧
    (0≤(i1:Int)∧(i1:Int)<((8:Nat):Int))∧
    ax wv8.drew ((Addr.mk gv5 0 none).add (Int.toNat i1*1)) [(.int .u32 (u32.wrap (x154+x157)))] fun wv9=>
    ∃b1:Nat→Nat→Prop,(∀i k,b i k→b1 i k)∧
    ∀i2:Int,i2=(i64.wrap (i1+1))→
    ∃m5,m5<m4∧I2 m5 i2 wv9) (
    ∃x160a:Int,∃x160b:Int,∃x160c:Int,∃x160d:Int,∃x160e:Int,∃x160f:Int,∃x160g:Int,∃x160h:Int,(wv8.cell? ((Addr.mk gv5 0 none).add 0)=some (.int .u32 x160a)∧wv8.cell? ((Addr.mk gv5 0 none).add 1)=some (.int .u32 x160b)∧wv8.cell? ((Addr.mk gv5 0 none).add 2)=some (.int .u32 x160c)∧wv8.cell? ((Addr.mk gv5 0 none).add 3)=some (.int .u32 x160d)∧wv8.cell? ((Addr.mk gv5 0 none).add 4)=some (.int .u32 x160e)∧wv8.cell? ((Addr.mk gv5 0 none).add 5)=some (.int .u32 x160f)∧wv8.cell? ((Addr.mk gv5 0 none).add 6)=some (.int .u32 x160g)∧wv8.cell? ((Addr.mk gv5 0 none).add 7)=some (.int .u32 x160h))∧
    ax wv8 (Addr.mk gv2 0 none) [(.int .u32 x160a),(.int .u32 x160b),(.int .u32 x160c),(.int .u32 x160d),(.int .u32 x160e),(.int .u32 x160f),(.int .u32 x160g),(.int .u32 x160h)] fun wv9=>
    ∃r0a:Int,∃r0b:Int,∃r0c:Int,∃r0d:Int,∃r0e:Int,∃r0f:Int,∃r0g:Int,∃r0h:Int,(wv9.cell? ((Addr.mk gv2 0 none).add 0)=some (.int .u32 r0a)∧wv9.cell? ((Addr.mk gv2 0 none).add 1)=some (.int .u32 r0b)∧wv9.cell? ((Addr.mk gv2 0 none).add 2)=some (.int .u32 r0c)∧wv9.cell? ((Addr.mk gv2 0 none).add 3)=some (.int .u32 r0d)∧wv9.cell? ((Addr.mk gv2 0 none).add 4)=some (.int .u32 r0e)∧wv9.cell? ((Addr.mk gv2 0 none).add 5)=some (.int .u32 r0f)∧wv9.cell? ((Addr.mk gv2 0 none).add 6)=some (.int .u32 r0g)∧wv9.cell? ((Addr.mk gv2 0 none).add 7)=some (.int .u32 r0h))∧
    R (.agg #[(.int .u32 r0a),(.int .u32 r0b),(.int .u32 r0c),(.int .u32 r0d),(.int .u32 r0e),(.int .u32 r0f),(.int .u32 r0g),(.int .u32 r0h)]) wv9)))
def xy:Ann:=(.node none .leaf (.node none .leaf (.node none (.node none .leaf (.node none (.node (some ⟨[(6,.one (.int .i64))],[6,7,8,16,17,18,19,20,21,22,23,24,25,26,27,28,29,30,31,32,33,34,35,36,37,38,39,40,41,42,43,44,45,46,47,48,49,50,51,52,53,54,55,56,57,58,59,60,61,62,63]⟩) .leaf .leaf) .leaf)) (.node none .leaf (.node none (.node none .leaf (.node none (.node (some ⟨[(10,.one (.int .i64))],[10,11,12,13,14,65,66,67,68,69,70,71,72,73,74,75,76,77,78,79,80,81,82,83,84,85,86,87,88,89,90,91,92,93,94,95,96,97,98,99,100,101,102,103,104,105,106,107,108,109,110,111,112,113,114,115,116,117,118,119,120,121,122,123,124,125,126,127,128,129,130,131,132,133,134,135,136,137,138,139,140,141,142,143,144,145,146]⟩) .leaf .leaf) .leaf)) (.node none (.node none .leaf (.node none (.node (some ⟨[(15,.one (.int .i64))],[15,147,148,149,150,151,152,153,154,155,156,157,158,159]⟩) .leaf .leaf) .leaf)) .leaf))))))
theorem R02Block_eq(statea:Int)(stateb:Int)(statec:Int)(stated:Int)(statee:Int)(statef:Int)(stateg:Int)(stateh:Int)(blocka:Int)(blockb:Int)(blockc:Int)(blockd:Int)(blocke:Int)(blockf:Int)(blockg:Int)(blockh:Int)(blocki:Int)(blockj:Int)(blockk:Int)(blockl:Int)(blockm:Int)(blockn:Int)(blocko:Int)(blockp:Int)(R:ay)(w:World):om statea stateb statec stated statee statef stateg stateh blocka blockb blockc blockd blocke blockf blockg blockh blocki blockj blockk blockl blockm blockn blocko blockp R w=vcF Tryz.prog aF [6,10,13,14,15] Tryz.f118 xy [(.agg #[(.int .u32 statea),(.int .u32 stateb),(.int .u32 statec),(.int .u32 stated),(.int .u32 statee),(.int .u32 statef),(.int .u32 stateg),(.int .u32 stateh)]),(.agg #[(.int .u32 blocka),(.int .u32 blockb),(.int .u32 blockc),(.int .u32 blockd),(.int .u32 blocke),(.int .u32 blockf),(.int .u32 blockg),(.int .u32 blockh),(.int .u32 blocki),(.int .u32 blockj),(.int .u32 blockk),(.int .u32 blockl),(.int .u32 blockm),(.int .u32 blockn),(.int .u32 blocko),(.int .u32 blockp)])] R none w:=by kernel_rfl
theorem qT(statea:Int)(stateb:Int)(statec:Int)(stated:Int)(statee:Int)(statef:Int)(stateg:Int)(stateh:Int)(blocka:Int)(blockb:Int)(blockc:Int)(blockd:Int)(blocke:Int)(blockf:Int)(blockg:Int)(blockh:Int)(blocki:Int)(blockj:Int)(blockk:Int)(blockl:Int)(blockm:Int)(blockn:Int)(blocko:Int)(blockp:Int) {R:ay} {w:World}(h:om statea stateb statec stated statee statef stateg stateh blocka blockb blockc blockd blocke blockf blockg blockh blocki blockj blockk blockl blockm blockn blocko blockp R w):Calls Tryz.prog 118 #[(.agg #[(.int .u32 statea),(.int .u32 stateb),(.int .u32 statec),(.int .u32 stated),(.int .u32 statee),(.int .u32 statef),(.int .u32 stateg),(.int .u32 stateh)]),(.agg #[(.int .u32 blocka),(.int .u32 blockb),(.int .u32 blockc),(.int .u32 blockd),(.int .u32 blocke),(.int .u32 blockf),(.int .u32 blockg),(.int .u32 blockh),(.int .u32 blocki),(.int .u32 blockj),(.int .u32 blockk),(.int .u32 blockl),(.int .u32 blockm),(.int .u32 blockn),(.int .u32 blocko),(.int .u32 blockp)])] w fun e w'=>∃v,e= .returned v∧R v w':=
 ao Tryz.func118 au aa ((R02Block_eq statea stateb statec stated statee statef stateg stateh blocka blockb blockc blockd blocke blockf blockg blockh blocki blockj blockk blockl blockm blockn blocko blockp R w).mp h)
def te(R:ay)(w:World):Prop:=
 ∀(gv:Nat)(wv:World),gv=w.heap.size→wv=w.alloc (.cells (#[(.int .u32 0),(.int .u32 0),(.int .u32 0),(.int .u32 0),(.int .u32 0),(.int .u32 0),(.int .u32 0),(.int .u32 0)]) 128)→
 ax wv (Addr.mk gv 0 none) [(.int .u32 1779033703),(.int .u32 3144134277),(.int .u32 1013904242),(.int .u32 2773480762),(.int .u32 1359893119),(.int .u32 2600822924),(.int .u32 528734635),(.int .u32 1541459225)] fun wv1=>
 ∃r0a:Int,∃r0b:Int,∃r0c:Int,∃r0d:Int,∃r0e:Int,∃r0f:Int,∃r0g:Int,∃r0h:Int,(wv1.cell? ((Addr.mk gv 0 none).add 0)=some (.int .u32 r0a)∧wv1.cell? ((Addr.mk gv 0 none).add 1)=some (.int .u32 r0b)∧wv1.cell? ((Addr.mk gv 0 none).add 2)=some (.int .u32 r0c)∧wv1.cell? ((Addr.mk gv 0 none).add 3)=some (.int .u32 r0d)∧wv1.cell? ((Addr.mk gv 0 none).add 4)=some (.int .u32 r0e)∧wv1.cell? ((Addr.mk gv 0 none).add 5)=some (.int .u32 r0f)∧wv1.cell? ((Addr.mk gv 0 none).add 6)=some (.int .u32 r0g)∧wv1.cell? ((Addr.mk gv 0 none).add 7)=some (.int .u32 r0h))∧
 R (.agg #[(.int .u32 r0a),(.int .u32 r0b),(.int .u32 r0c),(.int .u32 r0d),(.int .u32 r0e),(.int .u32 r0f),(.int .u32 r0g),(.int .u32 r0h)]) wv1
def B9:Ann:= .leaf
theorem SFirst_eq(R:ay)(w:World):te R w=vcF Tryz.prog aF [] Tryz.f115 B9 [] R none w:=by kernel_rfl
theorem uB {R:ay} {w:World}(h:te R w):Calls Tryz.prog 115 #[] w fun e w'=>∃v,e= .returned v∧R v w':=
 ao Tryz.func115 au aa ((SFirst_eq R w).mp h)
def oh(R:ay)(w:World):Prop:=
 ∀(gv:Nat)(wv:World),gv=w.heap.size→wv=w.alloc (.cells (#[(.int .u32 0),(.int .u32 0),(.int .u32 0),(.int .u32 0),(.int .u32 0),(.int .u32 0),(.int .u32 0),(.int .u32 0)]) 128)→
 ax wv (Addr.mk gv 0 none) [(.int .u32 1779033703),(.int .u32 3144134277),(.int .u32 1013904242),(.int .u32 2773480762),(.int .u32 1359893119),(.int .u32 2600822924),(.int .u32 528734635),(.int .u32 1541459225)] fun wv1=>
 ∃r0a:Int,∃r0b:Int,∃r0c:Int,∃r0d:Int,∃r0e:Int,∃r0f:Int,∃r0g:Int,∃r0h:Int,(wv1.cell? ((Addr.mk gv 0 none).add 0)=some (.int .u32 r0a)∧wv1.cell? ((Addr.mk gv 0 none).add 1)=some (.int .u32 r0b)∧wv1.cell? ((Addr.mk gv 0 none).add 2)=some (.int .u32 r0c)∧wv1.cell? ((Addr.mk gv 0 none).add 3)=some (.int .u32 r0d)∧wv1.cell? ((Addr.mk gv 0 none).add 4)=some (.int .u32 r0e)∧wv1.cell? ((Addr.mk gv 0 none).add 5)=some (.int .u32 r0f)∧wv1.cell? ((Addr.mk gv 0 none).add 6)=some (.int .u32 r0g)∧wv1.cell? ((Addr.mk gv 0 none).add 7)=some (.int .u32 r0h))∧
 R (.agg #[(.int .u32 r0a),(.int .u32 r0b),(.int .u32 r0c),(.int .u32 r0d),(.int .u32 r0e),(.int .u32 r0f),(.int .u32 r0g),(.int .u32 r0h)]) wv1
def xx:Ann:= .leaf
theorem R02First_eq(R:ay)(w:World):oh R w=vcF Tryz.prog aF [] Tryz.f116 xx [] R none w:=by kernel_rfl
theorem qS {R:ay} {w:World}(h:oh R w):Calls Tryz.prog 116 #[] w fun e w'=>∃v,e= .returned v∧R v w':=
 ao Tryz.func116 au aa ((R02First_eq R w).mp h)
end Go.Proofs.YtbjlecpmgocoeaaGreatDoor
end
section
set_option maxRecDepth 100000
namespace Go.Proofs.YtbjlecpmgocoeaaGreatDoor
open Go Go.RowKit V
open Go.IntKind (i64 u32 u64)
open Go.Proofs (Tryz.prog)
def AG(R:ay)(w:World):Prop:=
 Calls Tryz.prog 115 #[] w fun e wv=>
 ∃x1a:Int,∃x1b:Int,∃x1c:Int,∃x1d:Int,∃x1e:Int,∃x1f:Int,∃x1g:Int,∃x1h:Int,e= .returned (.agg #[(.int .u32 x1a),(.int .u32 x1b),(.int .u32 x1c),(.int .u32 x1d),(.int .u32 x1e),(.int .u32 x1f),(.int .u32 x1g),(.int .u32 x1h)])∧
 ∀(gv:Nat)(wv1:World),gv=wv.heap.size→wv1=wv.alloc (.cells #[(.int .u32 x1a),(.int .u32 x1b),(.int .u32 x1c),(.int .u32 x1d),(.int .u32 x1e),(.int .u32 x1f),(.int .u32 x1g),(.int .u32 x1h),(.int .i64 0),(.slice none 0 0)] 178)→
 R (.pointer (some (Addr.mk gv 0 none))) wv1
def Gt:Ann:= .leaf
theorem SNew_eq(R:ay)(w:World):AG R w=vcF Tryz.prog aF [] Tryz.f87 Gt [] R none w:=by kernel_rfl
theorem zn {R:ay} {w:World}(h:AG R w):Calls Tryz.prog 87 #[] w fun e w'=>∃v,e= .returned v∧R v w':=
 ao Tryz.func87 au aa ((SNew_eq R w).mp h)
def AH(d:Option Addr)(wordsA:Option Addr)(wordsN:Nat)(wordsC:Nat)(R:ay)(w:World):Prop:=
 av d fun p8=>
 ∃x10:Int,w.cell? (p8.add 8)=some (.int .i64 x10)∧
 split (decide ((((wordsN:Nat):Int):Int)>(i64.wrap (36028797018963968 - x10)))) (
  R (.tuple #[]) w) (
  av d fun p14=>
  ∃x16:Int,w.cell? (p14.add 8)=some (.int .i64 x16)∧
  av d fun p20=>
  ax w (p20.add 8) [(.int .i64 (i64.wrap (x16+((wordsN:Nat):Int))))] fun wv=>
  ∃b:Nat→Nat→Prop,
  av d fun p23=>
  b 3 ((p23.add 9).block)∧
  ∃x25A:Option Addr,∃x25N:Nat,∃x25C:Nat,wv.drew.cell? (p23.add 9)=some (.slice x25A x25N x25C)∧
  av d fun p27=>
  b 7 ((p27.add 9).block)∧
  ∃x29A:Option Addr,∃x29N:Nat,∃x29C:Nat,wv.drew.cell? (p27.add 9)=some (.slice x29A x29N x29C)∧
  av d fun p32=>
  b 12 ((p32.add 9).block)∧
  ∃x34A:Option Addr,∃x34N:Nat,∃x34C:Nat,wv.drew.cell? (p32.add 9)=some (.slice x34A x34N x34C)∧
  (0≤(((x34N:Nat):Int):Int)∧(((x34N:Nat):Int):Int)≤((x25C:Nat):Int))∧
  (0≤(((x29N:Nat):Int):Int)∧(((x29N:Nat):Int):Int)≤((Int.toNat ((x34N:Nat):Int):Nat):Int))∧
  ∀x36A:Option Addr,x36A=(if(Int.toNat ((x34N:Nat):Int))=0 then x25A else(x25A:Option Addr).map (·.add (0*1)))→∀x36N:Nat,x36N=(Int.toNat ((x29N:Nat):Int)) - 0→∀x36C:Nat,x36C=(Int.toNat ((x34N:Nat):Int)) - 0→
  ∃x38A:Option Addr,∃x38N:Nat,∃x38C:Nat,∃wv1,(Builtin.append_ #[40,40] 40 #[(.slice x36A x36N x36C),(.slice wordsA wordsN wordsC)]:Sem Value).run Tryz.prog wv.drew= .ok (.slice x38A x38N x38C) wv1∧
  Kept (bP b [0,1,4,5,6,9,10,11]) wv.drew wv1∧∃b1:Nat→Nat→Prop,(∀i k,b i k→b1 i k)∧
  ∃I:Nat→Option Addr→Nat→Nat→World→Prop,(∃m,I m x38A x38N x38C wv1)∧∀(m:Nat)(_gv:Nat→Value)(leftA:Option Addr)(leftN:Nat)(leftC:Nat),∀wv2,I m leftA leftN leftC wv2→
  split (decide ((((leftN:Nat):Int):Int)≥16)) (
   ∃b2:Nat→Nat→Prop,
   av d fun p46=>
   b2 4 ((p46.add 0).block)∧
   ∃x48a:Int,∃x48b:Int,∃x48c:Int,∃x48d:Int,∃x48e:Int,∃x48f:Int,∃x48g:Int,∃x48h:Int,(wv2.drew.cell? ((p46.add 0).add 0)=some (.int .u32 x48a)∧wv2.drew.cell? ((p46.add 0).add 1)=some (.int .u32 x48b)∧wv2.drew.cell? ((p46.add 0).add 2)=some (.int .u32 x48c)∧wv2.drew.cell? ((p46.add 0).add 3)=some (.int .u32 x48d)∧wv2.drew.cell? ((p46.add 0).add 4)=some (.int .u32 x48e)∧wv2.drew.cell? ((p46.add 0).add 5)=some (.int .u32 x48f)∧wv2.drew.cell? ((p46.add 0).add 6)=some (.int .u32 x48g)∧wv2.drew.cell? ((p46.add 0).add 7)=some (.int .u32 x48h))∧
   16≤leftN∧
   av leftA fun p51=>
   b2 7 (p51.block)∧
   ∃x51a:Int,∃x51b:Int,∃x51c:Int,∃x51d:Int,∃x51e:Int,∃x51f:Int,∃x51g:Int,∃x51h:Int,∃x51i:Int,∃x51j:Int,∃x51k:Int,∃x51l:Int,∃x51m:Int,∃x51n:Int,∃x51o:Int,∃x51p:Int,(wv2.drew.cell? (p51.add 0)=some (.int .u32 x51a)∧wv2.drew.cell? (p51.add 1)=some (.int .u32 x51b)∧wv2.drew.cell? (p51.add 2)=some (.int .u32 x51c)∧wv2.drew.cell? (p51.add 3)=some (.int .u32 x51d)∧wv2.drew.cell? (p51.add 4)=some (.int .u32 x51e)∧wv2.drew.cell? (p51.add 5)=some (.int .u32 x51f)∧wv2.drew.cell? (p51.add 6)=some (.int .u32 x51g)∧wv2.drew.cell? (p51.add 7)=some (.int .u32 x51h)∧wv2.drew.cell? (p51.add 8)=some (.int .u32 x51i)∧wv2.drew.cell? (p51.add 9)=some (.int .u32 x51j)∧wv2.drew.cell? (p51.add 10)=some (.int .u32 x51k)∧wv2.drew.cell? (p51.add 11)=some (.int .u32 x51l)∧wv2.drew.cell? (p51.add 12)=some (.int .u32 x51m)∧wv2.drew.cell? (p51.add 13)=some (.int .u32 x51n)∧wv2.drew.cell? (p51.add 14)=some (.int .u32 x51o)∧wv2.drew.cell? (p51.add 15)=some (.int .u32 x51p))∧
   Calls Tryz.prog 117 #[(.agg #[(.int .u32 x48a),(.int .u32 x48b),(.int .u32 x48c),(.int .u32 x48d),(.int .u32 x48e),(.int .u32 x48f),(.int .u32 x48g),(.int .u32 x48h)]),(.agg #[(.int .u32 x51a),(.int .u32 x51b),(.int .u32 x51c),(.int .u32 x51d),(.int .u32 x51e),(.int .u32 x51f),(.int .u32 x51g),(.int .u32 x51h),(.int .u32 x51i),(.int .u32 x51j),(.int .u32 x51k),(.int .u32 x51l),(.int .u32 x51m),(.int .u32 x51n),(.int .u32 x51o),(.int .u32 x51p)])] wv2.drew fun e wv3=>
   ∃x52a:Int,∃x52b:Int,∃x52c:Int,∃x52d:Int,∃x52e:Int,∃x52f:Int,∃x52g:Int,∃x52h:Int,e= .returned (.agg #[(.int .u32 x52a),(.int .u32 x52b),(.int .u32 x52c),(.int .u32 x52d),(.int .u32 x52e),(.int .u32 x52f),(.int .u32 x52g),(.int .u32 x52h)])∧
   Kept (bP b2 [0,1]) wv2.drew wv3∧∃b3:Nat→Nat→Prop,(∀i k,b2 i k→b3 i k)∧
   av d fun p53=>
   ax wv3 (p53.add 0) [(.int .u32 x52a),(.int .u32 x52b),(.int .u32 x52c),(.int .u32 x52d),(.int .u32 x52e),(.int .u32 x52f),(.int .u32 x52g),(.int .u32 x52h)] fun wv4=>
   ∃b4:Nat→Nat→Prop,(∀i k,b3 i k→b4 i k)∧
   (0≤(16:Int)∧(16:Int)≤((leftN:Nat):Int))∧
   ∀x43A:Option Addr,x43A=(if leftC=(Int.toNat 16)then leftA else(leftA:Option Addr).map (·.add ((Int.toNat 16)*1)))→∀x43N:Nat,x43N=leftN - (Int.toNat 16)→∀x43C:Nat,x43C=leftC - (Int.toNat 16)→
   ∃m1,m1<m∧I m1 x43A x43N x43C wv4) (
   ∃x57A:Option Addr,∃x57N:Nat,∃x57C:Nat,∃wv3,(Builtin.append_ #[40,40] 40 #[(.slice none 0 0),(.slice leftA leftN leftC)]:Sem Value).run Tryz.prog wv2= .ok (.slice x57A x57N x57C) wv3∧
   av d fun p58=>
   ax wv3 (p58.add 9) [(.slice x57A x57N x57C)] fun wv4=>
   R (.tuple #[]) wv4))
def Gv:Ann:=(.node none .leaf (.node none .leaf (.node none .leaf (.node none (.node none (.node (some ⟨[(4,.one (.slice))],[4,39,40,41,42,43,44,45,46,47,48,49,50,51,52,53,54]⟩) .leaf .leaf) .leaf) .leaf))))
theorem SAdd_eq(d:Option Addr)(wordsA:Option Addr)(wordsN:Nat)(wordsC:Nat)(R:ay)(w:World):AH d wordsA wordsN wordsC R w=vcF Tryz.prog aF [4] Tryz.f89 Gv [(.pointer d),(.slice wordsA wordsN wordsC)] R none w:=by kernel_rfl
theorem zp(d:Option Addr)(wordsA:Option Addr)(wordsN:Nat)(wordsC:Nat) {R:ay} {w:World}(h:AH d wordsA wordsN wordsC R w):Calls Tryz.prog 89 #[(.pointer d),(.slice wordsA wordsN wordsC)] w fun e w'=>∃v,e= .returned v∧R v w':=
 ao Tryz.func89 au aa ((SAdd_eq d wordsA wordsN wordsC R w).mp h)
def xi(d:Option Addr)(R:ay)(w:World):Prop:=
 ∀(gv:Nat)(wv:World),gv=w.heap.size→wv=w.alloc (.cells (Array.replicate 26 (.int .u32 0)) 134)→
 ∀(gv1:Nat)(wv1:World),gv1=wv.heap.size→wv1=wv.alloc (.cells (Array.replicate 26 (.int .u32 0)) 134)→
 ∃b:Nat→Nat→Prop,
 (0≤(8:Int)∧(8:Int)≤((26:Nat):Int))∧
 ∀x4A:Option Addr,x4A=(some (if 26=0 then Addr.mk gv1 0 none else(Addr.mk gv1 0 none).add (0*1)))→∀x4N:Nat,x4N=(Int.toNat 8) - 0→∀x4C:Nat,x4C=26 - 0→
 av d fun p6=>
 ∀x8A:Option Addr,x8A=(some (if 8=0 then p6.add 0 else(p6.add 0).add (0*1)))→∀x8N:Nat,x8N=8 - 0→∀x8C:Nat,x8C=8 - 0→
 ∃x9:Int,∃wv2,(Builtin.copy_ #[40,40] 3 #[(.slice x4A x4N x4C),(.slice x8A x8N x8C)]:Sem Value).run Tryz.prog wv1.drew= .ok (.int .i64 x9) wv2∧
 Kept (bP b [1]) wv1.drew wv2∧∃b1:Nat→Nat→Prop,(∀i k,b i k→b1 i k)∧
 ∃b2:Nat→Nat→Prop,
 av d fun p11=>
 b2 3 ((p11.add 8).block)∧
 ∃x13:Int,wv2.drew.cell? (p11.add 8)=some (.int .i64 x13)∧
 av d fun p18=>
 b2 10 ((p18.add 8).block)∧
 ∃x20:Int,wv2.drew.cell? (p18.add 8)=some (.int .i64 x20)∧
 (0≤(8:Int)∧(8:Int)<((26:Nat):Int))∧
 ax wv2.drew ((Addr.mk gv1 0 none).add (Int.toNat 8*1)) [(.int .u32 (u32.wrap ((u64.wrap x13:Int).fdiv (2 ^ 32))))] fun wv3=>
 Kept (bP b2 [7,11]) wv2.drew wv3∧∃b3:Nat→Nat→Prop,(∀i k,b2 i k→b3 i k)∧
 (0≤(9:Int)∧(9:Int)<((26:Nat):Int))∧
 ax wv3 ((Addr.mk gv1 0 none).add (Int.toNat 9*1)) [(.int .u32 (u32.wrap x20))] fun wv4=>
 ∃b4:Nat→Nat→Prop,(∀i k,b3 i k→b4 i k)∧
 ∃b5:Nat→Nat→Prop,
 (0≤(10:Int)∧(10:Int)≤((26:Nat):Int))∧
 ∀x24A:Option Addr,x24A=(some (if 26=(Int.toNat 10)then Addr.mk gv1 0 none else(Addr.mk gv1 0 none).add ((Int.toNat 10)*1)))→∀x24N:Nat,x24N=26 - (Int.toNat 10)→∀x24C:Nat,x24C=26 - (Int.toNat 10)→
 av d fun p26=>
 b5 4 ((p26.add 9).block)∧
 ∃x28A:Option Addr,∃x28N:Nat,∃x28C:Nat,wv4.drew.cell? (p26.add 9)=some (.slice x28A x28N x28C)∧
 ∃x29:Int,∃wv5,(Builtin.copy_ #[40,40] 3 #[(.slice x24A x24N x24C),(.slice x28A x28N x28C)]:Sem Value).run Tryz.prog wv4.drew= .ok (.int .i64 x29) wv5∧
 Kept (bP b5 [1]) wv4.drew wv5∧∃b6:Nat→Nat→Prop,(∀i k,b5 i k→b6 i k)∧
 ∃x30:Array Value,(x30.size=26∧∀i u,x30[i]? =some u→wv5.cell? ((Addr.mk gv1 0 none).add i)=some u)∧
 x30.size=26∧(∀v∈x30.toList,one? v True)∧
 ax wv5 (Addr.mk gv 0 none) x30.toList fun wv6=>
 ∃r0:Array Value,(r0.size=26∧∀i u,r0[i]? =some u→wv6.cell? ((Addr.mk gv 0 none).add i)=some u)∧
 R (.agg r0) wv6
def EJ:Ann:= .leaf
theorem SSave_eq(d:Option Addr)(R:ay)(w:World):xi d R w=vcF Tryz.prog aF [] Tryz.f91 EJ [(.pointer d)] R none w:=by kernel_rfl
theorem xj(d:Option Addr) {R:ay} {w:World}(h:xi d R w):Calls Tryz.prog 91 #[(.pointer d)] w fun e w'=>∃v,e= .returned v∧R v w':=
 ao Tryz.func91 au aa ((SSave_eq d R w).mp h)
def th(R:ay)(w:World):Prop:=
 ∀(gv:Nat)(wv:World),gv=w.heap.size→wv=w.alloc (.cells (#[(.int .u32 0),(.int .u32 0),(.int .u32 0),(.int .u32 0),(.int .u32 0),(.int .u32 0),(.int .u32 0),(.int .u32 0),(.slice none 0 0),(.int .i64 0)]) 130)→
 Calls Tryz.prog 116 #[] wv fun e wv1=>
 ∃x1a:Int,∃x1b:Int,∃x1c:Int,∃x1d:Int,∃x1e:Int,∃x1f:Int,∃x1g:Int,∃x1h:Int,e= .returned (.agg #[(.int .u32 x1a),(.int .u32 x1b),(.int .u32 x1c),(.int .u32 x1d),(.int .u32 x1e),(.int .u32 x1f),(.int .u32 x1g),(.int .u32 x1h)])∧
 ax wv1 (Addr.mk gv 0 none) [(.int .u32 x1a),(.int .u32 x1b),(.int .u32 x1c),(.int .u32 x1d),(.int .u32 x1e),(.int .u32 x1f),(.int .u32 x1g),(.int .u32 x1h),(.slice none 0 0),(.int .i64 0)] fun wv2=>
 ∃r0a:Int,∃r0b:Int,∃r0c:Int,∃r0d:Int,∃r0e:Int,∃r0f:Int,∃r0g:Int,∃r0h:Int,∃r0iA:Option Addr,∃r0iN:Nat,∃r0iC:Nat,∃r0j:Int,(wv2.cell? ((Addr.mk gv 0 none).add 0)=some (.int .u32 r0a)∧wv2.cell? ((Addr.mk gv 0 none).add 1)=some (.int .u32 r0b)∧wv2.cell? ((Addr.mk gv 0 none).add 2)=some (.int .u32 r0c)∧wv2.cell? ((Addr.mk gv 0 none).add 3)=some (.int .u32 r0d)∧wv2.cell? ((Addr.mk gv 0 none).add 4)=some (.int .u32 r0e)∧wv2.cell? ((Addr.mk gv 0 none).add 5)=some (.int .u32 r0f)∧wv2.cell? ((Addr.mk gv 0 none).add 6)=some (.int .u32 r0g)∧wv2.cell? ((Addr.mk gv 0 none).add 7)=some (.int .u32 r0h)∧wv2.cell? ((Addr.mk gv 0 none).add 8)=some (.slice r0iA r0iN r0iC)∧wv2.cell? ((Addr.mk gv 0 none).add 9)=some (.int .i64 r0j))∧
 R (.agg #[(.int .u32 r0a),(.int .u32 r0b),(.int .u32 r0c),(.int .u32 r0d),(.int .u32 r0e),(.int .u32 r0f),(.int .u32 r0g),(.int .u32 r0h),(.slice r0iA r0iN r0iC),(.int .i64 r0j)]) wv2
def Cs:Ann:= .leaf
theorem R02New_eq(R:ay)(w:World):th R w=vcF Tryz.prog aF [] Tryz.f88 Cs [] R none w:=by kernel_rfl
theorem uF {R:ay} {w:World}(h:th R w):Calls Tryz.prog 88 #[] w fun e w'=>∃v,e= .returned v∧R v w':=
 ao Tryz.func88 au aa ((R02New_eq R w).mp h)
def qQ(da:Int)(db:Int)(dc:Int)(dd:Int)(de:Int)(df:Int)(dg:Int)(dh:Int)(diA:Option Addr)(diN:Nat)(diC:Nat)(dj:Int)(R:ay)(w:World):Prop:=
 ∀(gv:Nat)(wv:World),gv=w.heap.size→wv=w.alloc (.cells #[(.int .u32 da),(.int .u32 db),(.int .u32 dc),(.int .u32 dd),(.int .u32 de),(.int .u32 df),(.int .u32 dg),(.int .u32 dh),(.slice diA diN diC),(.int .i64 dj)] 130)→
 ∀(gv1:Nat)(wv1:World),gv1=wv.heap.size→wv1=wv.alloc (.cells (Array.replicate 26 (.int .u32 0)) 134)→
 ∀(gv2:Nat)(wv2:World),gv2=wv1.heap.size→wv2=wv1.alloc (.cells (Array.replicate 26 (.int .u32 0)) 134)→
 ∀i:Int,i=0→
 ∃I:Nat→Int→World→Prop,(∃m,I m i wv2)∧∀(m:Nat)(_gv3:Nat→Value)(i1:Int),∀wv3,I m i1 wv3→
 split (decide ((i1:Int)<8)) (
  (0≤(i1:Int)∧(i1:Int)<((8:Nat):Int))∧
  ∃x14:Int,wv3.cell? (((Addr.mk gv 0 none).add 0).add (Int.toNat i1*1))=some (.int .u32 x14)∧
  (0≤(i1:Int)∧(i1:Int)<((26:Nat):Int))∧
  ax wv3 ((Addr.mk gv2 0 none).add (Int.toNat i1*1)) [(.int .u32 x14)] fun wv4=>
  ∀i2:Int,i2=(i64.wrap (i1+1))→
  ∃m1,m1<m∧I m1 i2 wv4) (
  ∃x17:Int,wv3.cell? ((Addr.mk gv 0 none).add 9)=some (.int .i64 x17)∧
  (0≤(8:Int)∧(8:Int)<((26:Nat):Int))∧
  ax wv3 ((Addr.mk gv2 0 none).add (Int.toNat 8*1)) [(.int .u32 (u32.wrap ((u64.wrap x17:Int).fdiv (2 ^ 32))))] fun wv4=>
  ∃x23:Int,wv4.cell? ((Addr.mk gv 0 none).add 9)=some (.int .i64 x23)∧
  (0≤(9:Int)∧(9:Int)<((26:Nat):Int))∧
  ax wv4 ((Addr.mk gv2 0 none).add (Int.toNat 9*1)) [(.int .u32 (u32.wrap (u64.wrap x23)))] fun wv5=>
  ∀i2:Int,i2=0→
  ∃I1:Nat→Int→World→Prop,(∃m2,I1 m2 i2 wv5)∧∀(m2:Nat)(_gv4:Nat→Value)(i3:Int),∀wv6,I1 m2 i3 wv6→
  ∃x29A:Option Addr,∃x29N:Nat,∃x29C:Nat,wv6.cell? ((Addr.mk gv 0 none).add 8)=some (.slice x29A x29N x29C)∧
  split (decide ((i3:Int)<((x29N:Nat):Int))) (
   ∃x37A:Option Addr,∃x37N:Nat,∃x37C:Nat,wv6.cell? ((Addr.mk gv 0 none).add 8)=some (.slice x37A x37N x37C)∧
   (0≤(i3:Int)∧(i3:Int)<((x37N:Nat):Int))∧
   av x37A fun p39=>
   ∃x40:Int,wv6.cell? (p39.add (Int.toNat i3*1))=some (.int .u32 x40)∧
   (0≤(i64.wrap (10+i3):Int)∧(i64.wrap (10+i3):Int)<((26:Nat):Int))∧
   ax wv6 ((Addr.mk gv2 0 none).add (Int.toNat (i64.wrap (10+i3))*1)) [(.int .u32 x40)] fun wv7=>
   ∀i4:Int,i4=(i64.wrap (i3+1))→
   ∃m3,m3<m2∧I1 m3 i4 wv7) (
   ∃x42:Array Value,(x42.size=26∧∀i u,x42[i]? =some u→wv6.cell? ((Addr.mk gv2 0 none).add i)=some u)∧
   x42.size=26∧(∀v∈x42.toList,one? v True)∧
   ax wv6 (Addr.mk gv1 0 none) x42.toList fun wv7=>
   ∃r0:Array Value,(r0.size=26∧∀i u,r0[i]? =some u→wv7.cell? ((Addr.mk gv1 0 none).add i)=some u)∧
   R (.agg r0) wv7))
def zG:Ann:=(.node none .leaf (.node none .leaf (.node none (.node none .leaf (.node none (.node (some ⟨[(4,.one (.int .i64))],[4,6,7,8,9,10,11,12,13,14,15]⟩) .leaf .leaf) .leaf)) (.node none .leaf (.node none .leaf (.node none (.node none .leaf (.node none (.node (some ⟨[(5,.one (.int .i64))],[5,27,28,29,30,31,32,33,34,35,36,37,38,39,40,41]⟩) .leaf .leaf) .leaf)) .leaf))))))
theorem R02Save_eq(da:Int)(db:Int)(dc:Int)(dd:Int)(de:Int)(df:Int)(dg:Int)(dh:Int)(diA:Option Addr)(diN:Nat)(diC:Nat)(dj:Int)(R:ay)(w:World):qQ da db dc dd de df dg dh diA diN diC dj R w=vcF Tryz.prog aF [4,5] Tryz.f92 zG [(.agg #[(.int .u32 da),(.int .u32 db),(.int .u32 dc),(.int .u32 dd),(.int .u32 de),(.int .u32 df),(.int .u32 dg),(.int .u32 dh),(.slice diA diN diC),(.int .i64 dj)])] R none w:=by kernel_rfl
theorem rO(da:Int)(db:Int)(dc:Int)(dd:Int)(de:Int)(df:Int)(dg:Int)(dh:Int)(diA:Option Addr)(diN:Nat)(diC:Nat)(dj:Int) {R:ay} {w:World}(h:qQ da db dc dd de df dg dh diA diN diC dj R w):Calls Tryz.prog 92 #[(.agg #[(.int .u32 da),(.int .u32 db),(.int .u32 dc),(.int .u32 dd),(.int .u32 de),(.int .u32 df),(.int .u32 dg),(.int .u32 dh),(.slice diA diN diC),(.int .i64 dj)])] w fun e w'=>∃v,e= .returned v∧R v w':=
 ao Tryz.func92 au aa ((R02Save_eq da db dc dd de df dg dh diA diN diC dj R w).mp h)
def tj(da:Int)(db:Int)(dc:Int)(dd:Int)(de:Int)(df:Int)(dg:Int)(dh:Int)(diA:Option Addr)(diN:Nat)(diC:Nat)(dj:Int)(wordsA:Option Addr)(wordsN:Nat)(wordsC:Nat)(R:ay)(w:World):Prop:=
 ∀(gv:Nat)(wv:World),gv=w.heap.size→wv=w.alloc (.cells #[(.int .u32 da),(.int .u32 db),(.int .u32 dc),(.int .u32 dd),(.int .u32 de),(.int .u32 df),(.int .u32 dg),(.int .u32 dh),(.slice diA diN diC),(.int .i64 dj)] 130)→
 ∀(gv1:Nat)(wv1:World),gv1=wv.heap.size→wv1=wv.alloc (.cells (#[(.int .u32 0),(.int .u32 0),(.int .u32 0),(.int .u32 0),(.int .u32 0),(.int .u32 0),(.int .u32 0),(.int .u32 0),(.slice none 0 0),(.int .i64 0)]) 130)→
 ∃x11:Int,wv1.cell? ((Addr.mk gv 0 none).add 9)=some (.int .i64 x11)∧
 split (decide ((((wordsN:Nat):Int):Int)>(i64.wrap (36028797018963968 - x11)))) (
  ∃x14a:Int,∃x14b:Int,∃x14c:Int,∃x14d:Int,∃x14e:Int,∃x14f:Int,∃x14g:Int,∃x14h:Int,∃x14iA:Option Addr,∃x14iN:Nat,∃x14iC:Nat,∃x14j:Int,(wv1.cell? ((Addr.mk gv 0 none).add 0)=some (.int .u32 x14a)∧wv1.cell? ((Addr.mk gv 0 none).add 1)=some (.int .u32 x14b)∧wv1.cell? ((Addr.mk gv 0 none).add 2)=some (.int .u32 x14c)∧wv1.cell? ((Addr.mk gv 0 none).add 3)=some (.int .u32 x14d)∧wv1.cell? ((Addr.mk gv 0 none).add 4)=some (.int .u32 x14e)∧wv1.cell? ((Addr.mk gv 0 none).add 5)=some (.int .u32 x14f)∧wv1.cell? ((Addr.mk gv 0 none).add 6)=some (.int .u32 x14g)∧wv1.cell? ((Addr.mk gv 0 none).add 7)=some (.int .u32 x14h)∧wv1.cell? ((Addr.mk gv 0 none).add 8)=some (.slice x14iA x14iN x14iC)∧wv1.cell? ((Addr.mk gv 0 none).add 9)=some (.int .i64 x14j))∧
  ax wv1 (Addr.mk gv1 0 none) [(.int .u32 x14a),(.int .u32 x14b),(.int .u32 x14c),(.int .u32 x14d),(.int .u32 x14e),(.int .u32 x14f),(.int .u32 x14g),(.int .u32 x14h),(.slice x14iA x14iN x14iC),(.int .i64 x14j)] fun wv2=>
  ∃r0a:Int,∃r0b:Int,∃r0c:Int,∃r0d:Int,∃r0e:Int,∃r0f:Int,∃r0g:Int,∃r0h:Int,∃r0iA:Option Addr,∃r0iN:Nat,∃r0iC:Nat,∃r0j:Int,(wv2.cell? ((Addr.mk gv1 0 none).add 0)=some (.int .u32 r0a)∧wv2.cell? ((Addr.mk gv1 0 none).add 1)=some (.int .u32 r0b)∧wv2.cell? ((Addr.mk gv1 0 none).add 2)=some (.int .u32 r0c)∧wv2.cell? ((Addr.mk gv1 0 none).add 3)=some (.int .u32 r0d)∧wv2.cell? ((Addr.mk gv1 0 none).add 4)=some (.int .u32 r0e)∧wv2.cell? ((Addr.mk gv1 0 none).add 5)=some (.int .u32 r0f)∧wv2.cell? ((Addr.mk gv1 0 none).add 6)=some (.int .u32 r0g)∧wv2.cell? ((Addr.mk gv1 0 none).add 7)=some (.int .u32 r0h)∧wv2.cell? ((Addr.mk gv1 0 none).add 8)=some (.slice r0iA r0iN r0iC)∧wv2.cell? ((Addr.mk gv1 0 none).add 9)=some (.int .i64 r0j))∧
  R (.agg #[(.int .u32 r0a),(.int .u32 r0b),(.int .u32 r0c),(.int .u32 r0d),(.int .u32 r0e),(.int .u32 r0f),(.int .u32 r0g),(.int .u32 r0h),(.slice r0iA r0iN r0iC),(.int .i64 r0j)]) wv2) (
  ∃x17A:Option Addr,∃x17N:Nat,∃x17C:Nat,wv1.cell? ((Addr.mk gv 0 none).add 8)=some (.slice x17A x17N x17C)∧
  ∃x18A:Option Addr,∃x18N:Nat,∃x18C:Nat,∃wv2,(Builtin.append_ #[40,40] 40 #[(.slice none 0 0),(.slice x17A x17N x17C)]:Sem Value).run Tryz.prog wv1= .ok (.slice x18A x18N x18C) wv2∧
  ∃x20a:Int,∃x20b:Int,∃x20c:Int,∃x20d:Int,∃x20e:Int,∃x20f:Int,∃x20g:Int,∃x20h:Int,(wv2.cell? (((Addr.mk gv 0 none).add 0).add 0)=some (.int .u32 x20a)∧wv2.cell? (((Addr.mk gv 0 none).add 0).add 1)=some (.int .u32 x20b)∧wv2.cell? (((Addr.mk gv 0 none).add 0).add 2)=some (.int .u32 x20c)∧wv2.cell? (((Addr.mk gv 0 none).add 0).add 3)=some (.int .u32 x20d)∧wv2.cell? (((Addr.mk gv 0 none).add 0).add 4)=some (.int .u32 x20e)∧wv2.cell? (((Addr.mk gv 0 none).add 0).add 5)=some (.int .u32 x20f)∧wv2.cell? (((Addr.mk gv 0 none).add 0).add 6)=some (.int .u32 x20g)∧wv2.cell? (((Addr.mk gv 0 none).add 0).add 7)=some (.int .u32 x20h))∧
  ∃x22:Int,wv2.cell? ((Addr.mk gv 0 none).add 9)=some (.int .i64 x22)∧
  ∀(gv2:Nat)(wv3:World),gv2=wv2.heap.size→wv3=wv2.alloc (.cells (#[(.int .u32 0),(.int .u32 0),(.int .u32 0),(.int .u32 0),(.int .u32 0),(.int .u32 0),(.int .u32 0),(.int .u32 0),(.slice none 0 0),(.int .i64 0)]) 130)→
  ax wv3 (Addr.mk gv2 0 none) [(.int .u32 x20a),(.int .u32 x20b),(.int .u32 x20c),(.int .u32 x20d),(.int .u32 x20e),(.int .u32 x20f),(.int .u32 x20g),(.int .u32 x20h),(.slice none 0 0),(.int .i64 (i64.wrap (x22+((wordsN:Nat):Int))))] fun wv4=>
  ∀i:Int,i=0→
  ∃I:Nat→Option Addr→Nat→Nat→Int→World→Prop,(∃m,I m x18A x18N x18C i wv4)∧∀(m:Nat)(_gv3:Nat→Value)(waitA:Option Addr)(waitN:Nat)(waitC:Nat)(i1:Int),∀wv5,I m waitA waitN waitC i1 wv5→
  split (decide ((i1:Int)<((wordsN:Nat):Int))) (
   (0≤(i1:Int)∧(i1:Int)<((wordsN:Nat):Int))∧
   av wordsA fun p36=>
   ∃x37:Int,wv5.cell? (p36.add (Int.toNat i1*1))=some (.int .u32 x37)∧
   ∀(gv4:Nat)(wv6:World),gv4=wv5.heap.size→wv6=wv5.alloc (.cells #[(.int .u32 x37)] 22)→
   ∃x39A:Option Addr,∃x39N:Nat,∃x39C:Nat,∃wv7,(Builtin.append_ #[40,40] 40 #[(.slice waitA waitN waitC),(.slice (some (Addr.mk gv4 0 none)) 1 1)]:Sem Value).run Tryz.prog wv6= .ok (.slice x39A x39N x39C) wv7∧
   split ((((x39N:Nat):Int):Int)==16) (
    ∃b:Nat→Nat→Prop,
    b 1 (((Addr.mk gv2 0 none).add 0).block)∧
    ∃x44a:Int,∃x44b:Int,∃x44c:Int,∃x44d:Int,∃x44e:Int,∃x44f:Int,∃x44g:Int,∃x44h:Int,(wv7.drew.cell? (((Addr.mk gv2 0 none).add 0).add 0)=some (.int .u32 x44a)∧wv7.drew.cell? (((Addr.mk gv2 0 none).add 0).add 1)=some (.int .u32 x44b)∧wv7.drew.cell? (((Addr.mk gv2 0 none).add 0).add 2)=some (.int .u32 x44c)∧wv7.drew.cell? (((Addr.mk gv2 0 none).add 0).add 3)=some (.int .u32 x44d)∧wv7.drew.cell? (((Addr.mk gv2 0 none).add 0).add 4)=some (.int .u32 x44e)∧wv7.drew.cell? (((Addr.mk gv2 0 none).add 0).add 5)=some (.int .u32 x44f)∧wv7.drew.cell? (((Addr.mk gv2 0 none).add 0).add 6)=some (.int .u32 x44g)∧wv7.drew.cell? (((Addr.mk gv2 0 none).add 0).add 7)=some (.int .u32 x44h))∧
    16≤x39N∧
    av x39A fun p47=>
    b 4 (p47.block)∧
    ∃x47a:Int,∃x47b:Int,∃x47c:Int,∃x47d:Int,∃x47e:Int,∃x47f:Int,∃x47g:Int,∃x47h:Int,∃x47i:Int,∃x47j:Int,∃x47k:Int,∃x47l:Int,∃x47m:Int,∃x47n:Int,∃x47o:Int,∃x47p:Int,(wv7.drew.cell? (p47.add 0)=some (.int .u32 x47a)∧wv7.drew.cell? (p47.add 1)=some (.int .u32 x47b)∧wv7.drew.cell? (p47.add 2)=some (.int .u32 x47c)∧wv7.drew.cell? (p47.add 3)=some (.int .u32 x47d)∧wv7.drew.cell? (p47.add 4)=some (.int .u32 x47e)∧wv7.drew.cell? (p47.add 5)=some (.int .u32 x47f)∧wv7.drew.cell? (p47.add 6)=some (.int .u32 x47g)∧wv7.drew.cell? (p47.add 7)=some (.int .u32 x47h)∧wv7.drew.cell? (p47.add 8)=some (.int .u32 x47i)∧wv7.drew.cell? (p47.add 9)=some (.int .u32 x47j)∧wv7.drew.cell? (p47.add 10)=some (.int .u32 x47k)∧wv7.drew.cell? (p47.add 11)=some (.int .u32 x47l)∧wv7.drew.cell? (p47.add 12)=some (.int .u32 x47m)∧wv7.drew.cell? (p47.add 13)=some (.int .u32 x47n)∧wv7.drew.cell? (p47.add 14)=some (.int .u32 x47o)∧wv7.drew.cell? (p47.add 15)=some (.int .u32 x47p))∧
    Calls Tryz.prog 118 #[(.agg #[(.int .u32 x44a),(.int .u32 x44b),(.int .u32 x44c),(.int .u32 x44d),(.int .u32 x44e),(.int .u32 x44f),(.int .u32 x44g),(.int .u32 x44h)]),(.agg #[(.int .u32 x47a),(.int .u32 x47b),(.int .u32 x47c),(.int .u32 x47d),(.int .u32 x47e),(.int .u32 x47f),(.int .u32 x47g),(.int .u32 x47h),(.int .u32 x47i),(.int .u32 x47j),(.int .u32 x47k),(.int .u32 x47l),(.int .u32 x47m),(.int .u32 x47n),(.int .u32 x47o),(.int .u32 x47p)])] wv7.drew fun e wv8=>
    ∃x48a:Int,∃x48b:Int,∃x48c:Int,∃x48d:Int,∃x48e:Int,∃x48f:Int,∃x48g:Int,∃x48h:Int,e= .returned (.agg #[(.int .u32 x48a),(.int .u32 x48b),(.int .u32 x48c),(.int .u32 x48d),(.int .u32 x48e),(.int .u32 x48f),(.int .u32 x48g),(.int .u32 x48h)])∧
    ∃b1:Nat→Nat→Prop,(∀i k,b i k→b1 i k)∧
    ax wv8 ((Addr.mk gv2 0 none).add 0) [(.int .u32 x48a),(.int .u32 x48b),(.int .u32 x48c),(.int .u32 x48d),(.int .u32 x48e),(.int .u32 x48f),(.int .u32 x48g),(.int .u32 x48h)] fun wv9=>
    ∃b2:Nat→Nat→Prop,(∀i k,b1 i k→b2 i k)∧
    ∀i2:Int,i2=(i64.wrap (i1+1))→
    ∃m1,m1<m∧I m1 none 0 0 i2 wv9) (
    ∀i2:Int,i2=(i64.wrap (i1+1))→
    ∃m1,m1<m∧I m1 x39A x39N x39C i2 wv7)) (
   ax wv5 ((Addr.mk gv2 0 none).add 8) [(.slice waitA waitN waitC)] fun wv6=>
   ∃x52a:Int,∃x52b:Int,∃x52c:Int,∃x52d:Int,∃x52e:Int,∃x52f:Int,∃x52g:Int,∃x52h:Int,∃x52iA:Option Addr,∃x52iN:Nat,∃x52iC:Nat,∃x52j:Int,(wv6.cell? ((Addr.mk gv2 0 none).add 0)=some (.int .u32 x52a)∧wv6.cell? ((Addr.mk gv2 0 none).add 1)=some (.int .u32 x52b)∧wv6.cell? ((Addr.mk gv2 0 none).add 2)=some (.int .u32 x52c)∧wv6.cell? ((Addr.mk gv2 0 none).add 3)=some (.int .u32 x52d)∧wv6.cell? ((Addr.mk gv2 0 none).add 4)=some (.int .u32 x52e)∧wv6.cell? ((Addr.mk gv2 0 none).add 5)=some (.int .u32 x52f)∧wv6.cell? ((Addr.mk gv2 0 none).add 6)=some (.int .u32 x52g)∧wv6.cell? ((Addr.mk gv2 0 none).add 7)=some (.int .u32 x52h)∧wv6.cell? ((Addr.mk gv2 0 none).add 8)=some (.slice x52iA x52iN x52iC)∧wv6.cell? ((Addr.mk gv2 0 none).add 9)=some (.int .i64 x52j))∧
   ax wv6 (Addr.mk gv1 0 none) [(.int .u32 x52a),(.int .u32 x52b),(.int .u32 x52c),(.int .u32 x52d),(.int .u32 x52e),(.int .u32 x52f),(.int .u32 x52g),(.int .u32 x52h),(.slice x52iA x52iN x52iC),(.int .i64 x52j)] fun wv7=>
   ∃r0a:Int,∃r0b:Int,∃r0c:Int,∃r0d:Int,∃r0e:Int,∃r0f:Int,∃r0g:Int,∃r0h:Int,∃r0iA:Option Addr,∃r0iN:Nat,∃r0iC:Nat,∃r0j:Int,(wv7.cell? ((Addr.mk gv1 0 none).add 0)=some (.int .u32 r0a)∧wv7.cell? ((Addr.mk gv1 0 none).add 1)=some (.int .u32 r0b)∧wv7.cell? ((Addr.mk gv1 0 none).add 2)=some (.int .u32 r0c)∧wv7.cell? ((Addr.mk gv1 0 none).add 3)=some (.int .u32 r0d)∧wv7.cell? ((Addr.mk gv1 0 none).add 4)=some (.int .u32 r0e)∧wv7.cell? ((Addr.mk gv1 0 none).add 5)=some (.int .u32 r0f)∧wv7.cell? ((Addr.mk gv1 0 none).add 6)=some (.int .u32 r0g)∧wv7.cell? ((Addr.mk gv1 0 none).add 7)=some (.int .u32 r0h)∧wv7.cell? ((Addr.mk gv1 0 none).add 8)=some (.slice r0iA r0iN r0iC)∧wv7.cell? ((Addr.mk gv1 0 none).add 9)=some (.int .i64 r0j))∧
   R (.agg #[(.int .u32 r0a),(.int .u32 r0b),(.int .u32 r0c),(.int .u32 r0d),(.int .u32 r0e),(.int .u32 r0f),(.int .u32 r0g),(.int .u32 r0h),(.slice r0iA r0iN r0iC),(.int .i64 r0j)]) wv7))
def Ct:Ann:=(.node none .leaf (.node none .leaf (.node none .leaf (.node none .leaf (.node none .leaf (.node none (.node none .leaf (.node none (.node (some ⟨[(5,.one (.slice)),(7,.one (.int .i64))],[5,7,27,28,29,30,31,32,33,34,35,36,37,38,39,40,41,42,43,44,45,46,47,48,49]⟩) .leaf .leaf) .leaf)) .leaf))))))
theorem R02Add_eq(da:Int)(db:Int)(dc:Int)(dd:Int)(de:Int)(df:Int)(dg:Int)(dh:Int)(diA:Option Addr)(diN:Nat)(diC:Nat)(dj:Int)(wordsA:Option Addr)(wordsN:Nat)(wordsC:Nat)(R:ay)(w:World):tj da db dc dd de df dg dh diA diN diC dj wordsA wordsN wordsC R w=vcF Tryz.prog aF [5,7] Tryz.f90 Ct [(.agg #[(.int .u32 da),(.int .u32 db),(.int .u32 dc),(.int .u32 dd),(.int .u32 de),(.int .u32 df),(.int .u32 dg),(.int .u32 dh),(.slice diA diN diC),(.int .i64 dj)]),(.slice wordsA wordsN wordsC)] R none w:=by kernel_rfl
theorem uG(da:Int)(db:Int)(dc:Int)(dd:Int)(de:Int)(df:Int)(dg:Int)(dh:Int)(diA:Option Addr)(diN:Nat)(diC:Nat)(dj:Int)(wordsA:Option Addr)(wordsN:Nat)(wordsC:Nat) {R:ay} {w:World}(h:tj da db dc dd de df dg dh diA diN diC dj wordsA wordsN wordsC R w):Calls Tryz.prog 90 #[(.agg #[(.int .u32 da),(.int .u32 db),(.int .u32 dc),(.int .u32 dd),(.int .u32 de),(.int .u32 df),(.int .u32 dg),(.int .u32 dh),(.slice diA diN diC),(.int .i64 dj)]),(.slice wordsA wordsN wordsC)] w fun e w'=>∃v,e= .returned v∧R v w':=
 ao Tryz.func90 au aa ((R02Add_eq da db dc dd de df dg dh diA diN diC dj wordsA wordsN wordsC R w).mp h)
def xk(wordsA:Option Addr)(wordsN:Nat)(wordsC:Nat)(R:ay)(w:World):Prop:=
 split ((((wordsN:Nat):Int):Int) !=26) (
  R (.tuple #[(.pointer none),(.int .i64 20)]) w) (
  (0≤(8:Int)∧(8:Int)<((wordsN:Nat):Int))∧
  av wordsA fun p13=>
  ∃x14:Int,w.drew.cell? (p13.add (Int.toNat 8*1))=some (.int .u32 x14)∧
  (0≤(9:Int)∧(9:Int)<((wordsN:Nat):Int))∧
  av wordsA fun p18=>
  ∃x19:Int,w.drew.cell? (p18.add (Int.toNat 9*1))=some (.int .u32 x19)∧
  ∀n:Int,n=(u64.wrap (BitVec.ofInt u64.bits (u64.wrap ((u64.wrap x14:Int)*2 ^ 32)) ||| BitVec.ofInt u64.bits (u64.wrap x19)).toNat)→
  (0≤(8:Int)∧(8:Int)≤((wordsC:Nat):Int))∧
  (0≤(8:Int)∧(8:Int)≤((Int.toNat 8:Nat):Int))∧
  ∀x23A:Option Addr,x23A=(if(Int.toNat 8)=0 then wordsA else(wordsA:Option Addr).map (·.add (0*1)))→∀x23N:Nat,x23N=(Int.toNat 8) - 0→∀x23C:Nat,x23C=(Int.toNat 8) - 0→
  8≤x23N∧
  av x23A fun p25=>
  ∃x25a:Int,∃x25b:Int,∃x25c:Int,∃x25d:Int,∃x25e:Int,∃x25f:Int,∃x25g:Int,∃x25h:Int,(w.drew.cell? (p25.add 0)=some (.int .u32 x25a)∧w.drew.cell? (p25.add 1)=some (.int .u32 x25b)∧w.drew.cell? (p25.add 2)=some (.int .u32 x25c)∧w.drew.cell? (p25.add 3)=some (.int .u32 x25d)∧w.drew.cell? (p25.add 4)=some (.int .u32 x25e)∧w.drew.cell? (p25.add 5)=some (.int .u32 x25f)∧w.drew.cell? (p25.add 6)=some (.int .u32 x25g)∧w.drew.cell? (p25.add 7)=some (.int .u32 x25h))∧
  ∀(gv:Nat)(wv:World),gv=w.drew.heap.size→wv=w.drew.alloc (.cells #[(.int .u32 x25a),(.int .u32 x25b),(.int .u32 x25c),(.int .u32 x25d),(.int .u32 x25e),(.int .u32 x25f),(.int .u32 x25g),(.int .u32 x25h),(.int .i64 (i64.wrap n)),(.slice none 0 0)] 178)→
  ∃J:Bool→World→Prop,(
   ∃b:Nat→Nat→Prop,
   split (decide ((n:Int)>36028797018963968)) (
    J true wv.drew) (
    split (decide ((n:Int)<16)) (
     b 9 (((Addr.mk gv 0 none).add 0).block)∧
     ∃x39a:Int,∃x39b:Int,∃x39c:Int,∃x39d:Int,∃x39e:Int,∃x39f:Int,∃x39g:Int,∃x39h:Int,(wv.drew.cell? (((Addr.mk gv 0 none).add 0).add 0)=some (.int .u32 x39a)∧wv.drew.cell? (((Addr.mk gv 0 none).add 0).add 1)=some (.int .u32 x39b)∧wv.drew.cell? (((Addr.mk gv 0 none).add 0).add 2)=some (.int .u32 x39c)∧wv.drew.cell? (((Addr.mk gv 0 none).add 0).add 3)=some (.int .u32 x39d)∧wv.drew.cell? (((Addr.mk gv 0 none).add 0).add 4)=some (.int .u32 x39e)∧wv.drew.cell? (((Addr.mk gv 0 none).add 0).add 5)=some (.int .u32 x39f)∧wv.drew.cell? (((Addr.mk gv 0 none).add 0).add 6)=some (.int .u32 x39g)∧wv.drew.cell? (((Addr.mk gv 0 none).add 0).add 7)=some (.int .u32 x39h))∧
     Calls Tryz.prog 115 #[] wv.drew fun e wv1=>
     ∃x40a:Int,∃x40b:Int,∃x40c:Int,∃x40d:Int,∃x40e:Int,∃x40f:Int,∃x40g:Int,∃x40h:Int,e= .returned (.agg #[(.int .u32 x40a),(.int .u32 x40b),(.int .u32 x40c),(.int .u32 x40d),(.int .u32 x40e),(.int .u32 x40f),(.int .u32 x40g),(.int .u32 x40h)])∧
     Kept (bP b [0,6,7,8,9]) wv.drew wv1∧∃b1:Nat→Nat→Prop,(∀i k,b i k→b1 i k)∧
     J (!(bh #[(.int .u32 x39a),(.int .u32 x39b),(.int .u32 x39c),(.int .u32 x39d),(.int .u32 x39e),(.int .u32 x39f),(.int .u32 x39g),(.int .u32 x39h)] #[(.int .u32 x40a),(.int .u32 x40b),(.int .u32 x40c),(.int .u32 x40d),(.int .u32 x40e),(.int .u32 x40f),(.int .u32 x40g),(.int .u32 x40h)])) wv1) (
     J false wv.drew)))∧∀(_gv1:Nat→Value)(x43:Bool),∀wv1,J x43 wv1→
  split x43 (
   R (.tuple #[(.pointer none),(.int .i64 20)]) wv1) (
   ∀waits:Int,waits=(i64.wrap ((n:Int).tmod 16))→
   (0≤(i64.wrap (10+waits):Int)∧(i64.wrap (10+waits):Int)≤((wordsN:Nat):Int))∧
   ∀x50A:Option Addr,x50A=(if wordsC=(Int.toNat (i64.wrap (10+waits)))then wordsA else(wordsA:Option Addr).map (·.add ((Int.toNat (i64.wrap (10+waits)))*1)))→∀x50N:Nat,x50N=wordsN - (Int.toNat (i64.wrap (10+waits)))→∀x50C:Nat,x50C=wordsC - (Int.toNat (i64.wrap (10+waits)))→
   ∃I:Nat→Int→World→Prop,(∃m,I m 0 wv1)∧∀(m:Nat)(_gv2:Nat→Value)(x52:Int),∀wv2,I m x52 wv2→
   split (decide ((x52:Int)<((x50N:Nat):Int))) (
    (0≤(x52:Int)∧(x52:Int)<((x50N:Nat):Int))∧
    av x50A fun p54=>
    ∃x55:Int,wv2.cell? (p54.add (Int.toNat x52*1))=some (.int .u32 x55)∧
    split ((x55:Int) !=0) (
     R (.tuple #[(.pointer none),(.int .i64 20)]) wv2) (
     ∃m1,m1<m∧I m1 (i64.wrap (x52+1)) wv2)) (
    (0≤(i64.wrap (10+waits):Int)∧(i64.wrap (10+waits):Int)≤((wordsC:Nat):Int))∧
    (0≤(i64.wrap (10+waits):Int)∧(i64.wrap (10+waits):Int)≤((Int.toNat (i64.wrap (10+waits)):Nat):Int))∧
    (0≤(10:Int)∧(10:Int)≤((Int.toNat (i64.wrap (10+waits)):Nat):Int))∧
    ∀x65A:Option Addr,x65A=(if(Int.toNat (i64.wrap (10+waits)))=(Int.toNat 10)then wordsA else(wordsA:Option Addr).map (·.add ((Int.toNat 10)*1)))→∀x65N:Nat,x65N=(Int.toNat (i64.wrap (10+waits))) - (Int.toNat 10)→∀x65C:Nat,x65C=(Int.toNat (i64.wrap (10+waits))) - (Int.toNat 10)→
    ∃x66A:Option Addr,∃x66N:Nat,∃x66C:Nat,∃wv3,(Builtin.append_ #[40,40] 40 #[(.slice none 0 0),(.slice x65A x65N x65C)]:Sem Value).run Tryz.prog wv2= .ok (.slice x66A x66N x66C) wv3∧
    ax wv3 ((Addr.mk gv 0 none).add 9) [(.slice x66A x66N x66C)] fun wv4=>
    R (.tuple #[(.pointer (some (Addr.mk gv 0 none))),(.int .i64 0)]) wv4)))
def EK:Ann:=(.node none .leaf (.node none .leaf (.node none .leaf (.node none .leaf (.node none (.node none (.node (some ⟨[(43,.one (.bool))],[30,31,32,33,34,35,36,37,38,39,40,41,42,43]⟩) .leaf .leaf) .leaf) (.node none .leaf (.node none (.node none .leaf (.node none (.node (some ⟨[(52,.one (.int .i64))],[2,3,8,52,53,54,55,56,57,58]⟩) .leaf .leaf) .leaf)) .leaf)))))))
theorem SLoad_eq(wordsA:Option Addr)(wordsN:Nat)(wordsC:Nat)(R:ay)(w:World):xk wordsA wordsN wordsC R w=vcF Tryz.prog aF [4,6] Tryz.f103 EK [(.slice wordsA wordsN wordsC)] R none w:=by kernel_rfl
theorem xl(wordsA:Option Addr)(wordsN:Nat)(wordsC:Nat) {R:ay} {w:World}(h:xk wordsA wordsN wordsC R w):Calls Tryz.prog 103 #[(.slice wordsA wordsN wordsC)] w fun e w'=>∃v,e= .returned v∧R v w':=
 ao Tryz.func103 au aa ((SLoad_eq wordsA wordsN wordsC R w).mp h)
end Go.Proofs.YtbjlecpmgocoeaaGreatDoor
end
section
set_option maxRecDepth 100000
namespace Go.Proofs.YtbjlecpmgocoeaaGreatDoor
open Go Go.RowKit V
open Go.IntKind (i64 u32 u64)
open Go.Proofs (Tryz.prog)
def AM(m:Option Addr)(R:ay)(w:World):Prop:=
 split m.isNone (
  R (.pointer none) w) (
  Calls Tryz.prog 73 #[(.pointer m)] w fun e wv=>
  ∃x7:Int,e= .returned (.int .i64 x7)∧
  ∃I:Nat→Int→World→Prop,(∃m1,I m1 0 wv)∧∀(m1:Nat)(_gv:Nat→Value)(x8:Int),∀wv1,I m1 x8 wv1→
  split (decide ((x8:Int)<x7)) (
   Calls Tryz.prog 75 #[(.int .i64 x8)] wv1 fun e wv2=>
   ∃x13a:Bool,∃x13b:Int,e= .returned (.agg #[(.bool x13a),(.int .i64 x13b)])∧
   Calls Tryz.prog 74 #[(.pointer m),(.agg #[(.bool x13a),(.int .i64 x13b)])] wv2 fun e wv3=>
   ∃x14:Int,e= .returned (.int .i64 x14)∧
   ∃m2,m2<m1∧I m2 (i64.wrap (x8+1)) wv3) (
   Calls Tryz.prog 73 #[(.pointer m)] wv1 fun e wv2=>
   ∃x18:Int,e= .returned (.int .i64 x18)∧
   ∃x20A:Option Addr,∃x20N:Nat,∃x20C:Nat,∃wv3,(Instr.makeSlice 40 (.int .i64 (i64.wrap (2*x18))) (.int .i64 (i64.wrap (2*x18))):Sem Value).run Tryz.prog wv2= .ok (.slice x20A x20N x20C) wv3∧
   ∀(gv1:Nat)(wv4:World),gv1=wv3.heap.size→wv4=wv3.alloc (.cells #[(.pointer m),(.int .i64 0),(.slice x20A x20N x20C)] 93)→
   R (.pointer (some (Addr.mk gv1 0 none))) wv4))
def GI:Ann:=(.node none .leaf (.node none .leaf (.node none (.node none .leaf (.node none (.node (some ⟨[(8,.one (.int .i64))],[3,8,9,10,11,12,13,14,15]⟩) .leaf .leaf) .leaf)) .leaf)))
theorem DNew_eq(m:Option Addr)(R:ay)(w:World):AM m R w=vcF Tryz.prog aF [] Tryz.f29 GI [(.pointer m)] R none w:=by kernel_rfl
theorem zW(m:Option Addr) {R:ay} {w:World}(h:AM m R w):Calls Tryz.prog 29 #[(.pointer m)] w fun e w'=>∃v,e= .returned v∧R v w':=
 ao Tryz.func29 au aa ((DNew_eq m R w).mp h)
def tn(d:Option Addr)(R:ay)(w:World):Prop:=
 av d fun p5=>
 ∃x7A:Option Addr,∃x7N:Nat,∃x7C:Nat,w.cell? (p5.add 2)=some (.slice x7A x7N x7C)∧
 ∃x10A:Option Addr,∃x10N:Nat,∃x10C:Nat,∃wv,(Instr.makeSlice 40 (.int .i64 (i64.wrap (1+((x7N:Nat):Int)))) (.int .i64 (i64.wrap (1+((x7N:Nat):Int)))):Sem Value).run Tryz.prog w= .ok (.slice x10A x10N x10C) wv∧
 av d fun p13=>
 ∃x15:Int,wv.cell? (p13.add 1)=some (.int .i64 x15)∧
 (0≤(0:Int)∧(0:Int)<((x10N:Nat):Int))∧
 av x10A fun p17=>
 ax wv (p17.add (Int.toNat 0*1)) [(.int .u32 (u32.wrap x15))] fun wv1=>
 ∃b:Nat→Nat→Prop,
 (0≤(1:Int)∧(1:Int)≤((x10N:Nat):Int))∧
 ∀x19A:Option Addr,x19A=(if x10C=(Int.toNat 1)then x10A else(x10A:Option Addr).map (·.add ((Int.toNat 1)*1)))→∀x19N:Nat,x19N=x10N - (Int.toNat 1)→∀x19C:Nat,x19C=x10C - (Int.toNat 1)→
 av d fun p21=>
 b 5 ((p21.add 2).block)∧
 ∃x23A:Option Addr,∃x23N:Nat,∃x23C:Nat,wv1.drew.cell? (p21.add 2)=some (.slice x23A x23N x23C)∧
 ∃x24:Int,∃wv2,(Builtin.copy_ #[40,40] 3 #[(.slice x19A x19N x19C),(.slice x23A x23N x23C)]:Sem Value).run Tryz.prog wv1.drew= .ok (.int .i64 x24) wv2∧
 Kept (bP b [2]) wv1.drew wv2∧∃b1:Nat→Nat→Prop,(∀i k,b i k→b1 i k)∧
 R (.slice x10A x10N x10C) wv2
def CL:Ann:= .leaf
theorem DWords_eq(d:Option Addr)(R:ay)(w:World):tn d R w=vcF Tryz.prog aF [] Tryz.f52 CL [(.pointer d)] R none w:=by kernel_rfl
theorem uK(d:Option Addr) {R:ay} {w:World}(h:tn d R w):Calls Tryz.prog 52 #[(.pointer d)] w fun e w'=>∃v,e= .returned v∧R v w':=
 ao Tryz.func52 au aa ((DWords_eq d R w).mp h)
def oa(d:Option Addr)(R:ay)(w:World):Prop:=
 av d fun p8=>
 ∃x10:Int,w.cell? (p8.add 2)=some (.int .i64 x10)∧
 ∀(gv:Nat)(wv:World),gv=w.heap.size→wv=w.alloc (.cells #[(.int .u32 (u32.wrap x10))] 22)→
 ∀p:Int,p=0→
 ∃I:Nat→Option Addr→Nat→Nat→Int→World→Prop,(∃m,I m (some (Addr.mk gv 0 none)) 1 1 p wv)∧∀(m:Nat)(_gv1:Nat→Value)(lA:Option Addr)(lN:Nat)(lC:Nat)(p1:Int),∀wv1,I m lA lN lC p1 wv1→
 av d fun p15=>
 ∃x17A:Option Addr,∃x17N:Nat,∃x17C:Nat,wv1.cell? (p15.add 1)=some (.slice x17A x17N x17C)∧
 split (decide ((p1:Int)<((x17N:Nat):Int))) (
  av d fun p24=>
  ∃x26A:Option Addr,∃x26N:Nat,∃x26C:Nat,wv1.cell? (p24.add 1)=some (.slice x26A x26N x26C)∧
  (0≤(p1:Int)∧(p1:Int)<((x26N:Nat):Int))∧
  av x26A fun p28=>
  ∃x29a:Int,∃x29b:Int,∃x29c:Int,∃x29d:Int,∃x29e:Bool,(wv1.cell? ((p28.add (Int.toNat p1*5)).add 0)=some (.int .i64 x29a)∧wv1.cell? ((p28.add (Int.toNat p1*5)).add 1)=some (.int .i64 x29b)∧wv1.cell? ((p28.add (Int.toNat p1*5)).add 2)=some (.int .i64 x29c)∧wv1.cell? ((p28.add (Int.toNat p1*5)).add 3)=some (.int .i64 x29d)∧wv1.cell? ((p28.add (Int.toNat p1*5)).add 4)=some (.bool x29e))∧
  Calls Tryz.prog 119 #[(.agg #[(.int .i64 x29a),(.int .i64 x29b),(.int .i64 x29c),(.int .i64 x29d),(.bool x29e)])] wv1 fun e wv2=>
  ∃x30aa:Int,∃x30ab:Int,∃x30b:Int,e= .returned (.tuple #[(.agg #[(.int .u32 x30aa),(.int .u32 x30ab)]),(.int .i64 x30b)])∧
  ∀(gv2:Nat)(wv3:World),gv2=wv2.heap.size→wv3=wv2.alloc (.cells (#[(.int .u32 0),(.int .u32 0)]) 173)→
  ax wv3 (Addr.mk gv2 0 none) [(.int .u32 x30aa),(.int .u32 x30ab)] fun wv4=>
  (0≤(0:Int)∧(0:Int)<((2:Nat):Int))∧
  ∃x35:Int,wv4.cell? ((Addr.mk gv2 0 none).add (Int.toNat 0*1))=some (.int .u32 x35)∧
  (0≤(1:Int)∧(1:Int)<((2:Nat):Int))∧
  ∃x37:Int,wv4.cell? ((Addr.mk gv2 0 none).add (Int.toNat 1*1))=some (.int .u32 x37)∧
  ∀(gv3:Nat)(wv5:World),gv3=wv4.heap.size→wv5=wv4.alloc (.cells #[(.int .u32 x35),(.int .u32 x37)] 22)→
  ∃x39A:Option Addr,∃x39N:Nat,∃x39C:Nat,∃wv6,(Builtin.append_ #[40,40] 40 #[(.slice lA lN lC),(.slice (some (Addr.mk gv3 0 none)) 2 2)]:Sem Value).run Tryz.prog wv5= .ok (.slice x39A x39N x39C) wv6∧
  ∀p2:Int,p2=(i64.wrap (p1+1))→
  ∃m1,m1<m∧I m1 x39A x39N x39C p2 wv6) (
  R (.slice lA lN lC) wv1)
def xo:Ann:=(.node none .leaf (.node none .leaf (.node none (.node none .leaf (.node none (.node (some ⟨[(3,.one (.slice)),(4,.one (.int .i64))],[3,4,5,6,13,14,15,16,17,18,19,20,21,22,23,24,25,26,27,28,29,30,31,32,33,34,35,36,37,38,39]⟩) .leaf .leaf) .leaf)) .leaf)))
theorem R12Words_eq(d:Option Addr)(R:ay)(w:World):oa d R w=vcF Tryz.prog aF [3,4] Tryz.f93 xo [(.pointer d)] R none w:=by kernel_rfl
theorem qE(d:Option Addr) {R:ay} {w:World}(h:oa d R w):Calls Tryz.prog 93 #[(.pointer d)] w fun e w'=>∃v,e= .returned v∧R v w':=
 ao Tryz.func93 au aa ((R12Words_eq d R w).mp h)
end Go.Proofs.YtbjlecpmgocoeaaGreatDoor
end
section
set_option maxRecDepth 100000
namespace Go.Proofs.YtbjlecpmgocoeaaGreatDoor
open Go Go.RowKit V
open Go.IntKind (i64 u32 u64)
open Go.Proofs (Tryz.prog)
def yc(m:Option Addr)(wordsA:Option Addr)(wordsN:Nat)(wordsC:Nat)(R:ay)(w:World):Prop:=
 ∃J:Bool→World→Prop,(
  split m.isNone (
   J true w) (
   Calls Tryz.prog 73 #[(.pointer m)] w fun e wv=>
   ∃x16:Int,e= .returned (.int .i64 x16)∧
   split ((((wordsN:Nat):Int):Int) !=(i64.wrap (1+(i64.wrap (2*x16))))) (
    J true wv) (
    (0≤(0:Int)∧(0:Int)<((wordsN:Nat):Int))∧
    av wordsA fun p23=>
    ∃x24:Int,wv.cell? (p23.add (Int.toNat 0*1))=some (.int .u32 x24)∧
    J (decide ((x24:Int)>64)) wv)))∧∀(_gv:Nat→Value)(x26:Bool),∀wv,J x26 wv→
 split x26 (
  R (.tuple #[(.pointer none),(.int .i64 110)]) wv) (
  ∃b:Nat→Nat→Prop,
  (0≤(0:Int)∧(0:Int)<((wordsN:Nat):Int))∧
  av wordsA fun p29=>
  b 3 ((p29.add (Int.toNat 0*1)).block)∧
  ∃x30:Int,wv.drew.cell? (p29.add (Int.toNat 0*1))=some (.int .u32 x30)∧
  ∃x35A:Option Addr,∃x35N:Nat,∃x35C:Nat,∃wv1,(Instr.makeSlice 40 (.int .i64 (i64.wrap (((wordsN:Nat):Int) - 1))) (.int .i64 (i64.wrap (((wordsN:Nat):Int) - 1))):Sem Value).run Tryz.prog wv.drew= .ok (.slice x35A x35N x35C) wv1∧
  Kept (bP b [0,1,2,3,4]) wv.drew wv1∧∃b1:Nat→Nat→Prop,(∀i k,b i k→b1 i k)∧
  ∀(gv1:Nat)(wv2:World),gv1=wv1.heap.size→wv2=wv1.alloc (.cells #[(.pointer m),(.int .i64 (i64.wrap x30)),(.slice x35A x35N x35C)] 93)→
  Kept (bP b1 [1,2,5,6]) wv1 wv2∧∃b2:Nat→Nat→Prop,(∀i k,b1 i k→b2 i k)∧
  ∃b3:Nat→Nat→Prop,
  b3 3 (((Addr.mk gv1 0 none).add 2).block)∧
  ∃x41A:Option Addr,∃x41N:Nat,∃x41C:Nat,wv2.drew.cell? ((Addr.mk gv1 0 none).add 2)=some (.slice x41A x41N x41C)∧
  (0≤(1:Int)∧(1:Int)≤((wordsN:Nat):Int))∧
  ∀x43A:Option Addr,x43A=(if wordsC=(Int.toNat 1)then wordsA else(wordsA:Option Addr).map (·.add ((Int.toNat 1)*1)))→∀x43N:Nat,x43N=wordsN - (Int.toNat 1)→∀x43C:Nat,x43C=wordsC - (Int.toNat 1)→
  ∃x44:Int,∃wv3,(Builtin.copy_ #[40,40] 3 #[(.slice x41A x41N x41C),(.slice x43A x43N x43C)]:Sem Value).run Tryz.prog wv2.drew= .ok (.int .i64 x44) wv3∧
  Kept (bP b3 [0]) wv2.drew wv3∧∃b4:Nat→Nat→Prop,(∀i k,b3 i k→b4 i k)∧
  Calls Tryz.prog 18 #[(.pointer (some (Addr.mk gv1 0 none)))] wv3 fun e wv4=>
  ∃x46:Int,e= .returned (.int .i64 x46)∧
  ∃I:Nat→Int→World→Prop,(∃m1,I m1 0 wv4)∧∀(m1:Nat)(_gv2:Nat→Value)(x47:Int),∀wv5,I m1 x47 wv5→
  split (decide ((x47:Int)<x46)) (
   ∃x54A:Option Addr,∃x54N:Nat,∃x54C:Nat,wv5.cell? ((Addr.mk gv1 0 none).add 2)=some (.slice x54A x54N x54C)∧
   (0≤(i64.wrap (2*x47):Int)∧(i64.wrap (2*x47):Int)≤((x54N:Nat):Int))∧
   ∀x57A:Option Addr,x57A=(if x54C=(Int.toNat (i64.wrap (2*x47)))then x54A else(x54A:Option Addr).map (·.add ((Int.toNat (i64.wrap (2*x47)))*1)))→∀x57N:Nat,x57N=x54N - (Int.toNat (i64.wrap (2*x47)))→∀x57C:Nat,x57C=x54C - (Int.toNat (i64.wrap (2*x47)))→
   2≤x57N∧
   av x57A fun p59=>
   ∃x59a:Int,∃x59b:Int,(wv5.cell? (p59.add 0)=some (.int .u32 x59a)∧wv5.cell? (p59.add 1)=some (.int .u32 x59b))∧
   Calls Tryz.prog 113 #[(.agg #[(.int .u32 x59a),(.int .u32 x59b)])] wv5 fun e wv6=>
   ∃x60aa:Int,∃x60ab:Int,∃x60ac:Int,∃x60ad:Int,∃x60ae:Bool,∃x60b:Int,e= .returned (.tuple #[(.agg #[(.int .i64 x60aa),(.int .i64 x60ab),(.int .i64 x60ac),(.int .i64 x60ad),(.bool x60ae)]),(.int .i64 x60b)])∧
   ∀(gv3:Nat)(wv7:World),gv3=wv6.heap.size→wv7=wv6.alloc (.cells (#[(.int .i64 0),(.int .i64 0),(.int .i64 0),(.int .i64 0),(.bool false)]) 99)→
   ax wv7 (Addr.mk gv3 0 none) [(.int .i64 x60aa),(.int .i64 x60ab),(.int .i64 x60ac),(.int .i64 x60ad),(.bool x60ae)] fun wv8=>
   ∃J1:Bool→World→Prop,(
    split ((x60b:Int) !=0) (
     J1 true wv8) (
     ∃x68:Int,wv8.cell? ((Addr.mk gv3 0 none).add 1)=some (.int .i64 x68)∧
     Calls Tryz.prog 79 #[(.pointer (some (Addr.mk gv1 0 none))),(.int .i64 x68)] wv8 fun e wv9=>
     ∃x69:Bool,e= .returned (.bool x69)∧
     J1 (!x69) wv9))∧∀(_gv4:Nat→Value)(x71:Bool),∀wv9,J1 x71 wv9→
   split x71 (
    R (.tuple #[(.pointer none),(.int .i64 110)]) wv9) (
    ∃m2,m2<m1∧I m2 (i64.wrap (x47+1)) wv9)) (
   R (.tuple #[(.pointer (some (Addr.mk gv1 0 none))),(.int .i64 0)]) wv5))
def Ff:Ann:=(.node none .leaf (.node none (.node none (.node (some ⟨[(26,.one (.bool))],[10,11,12,13,14,15,16,17,18,19,20,21,22,23,24,25,26]⟩) .leaf .leaf) .leaf) (.node none .leaf (.node none .leaf (.node none (.node none .leaf (.node none (.node (some ⟨[(47,.one (.int .i64))],[4,5,7,8,9,47,48,49,50,51,52,53,54,55,56,57,58,59,60,61,62,63,64,65,66,67,68,69,70,71,72]⟩) (.node none .leaf (.node none .leaf (.node none (.node none (.node none .leaf (.node none .leaf (.node none (.node (some ⟨[(71,.one (.bool))],[63,64,65,66,67,68,69,70,71]⟩) .leaf .leaf) .leaf))) .leaf) .leaf))) .leaf) .leaf)) .leaf)))))
theorem DLoad_eq(m:Option Addr)(wordsA:Option Addr)(wordsN:Nat)(wordsC:Nat)(R:ay)(w:World):yc m wordsA wordsN wordsC R w=vcF Tryz.prog aF [] Tryz.f94 Ff [(.pointer m),(.slice wordsA wordsN wordsC)] R none w:=by kernel_rfl
theorem yd(m:Option Addr)(wordsA:Option Addr)(wordsN:Nat)(wordsC:Nat) {R:ay} {w:World}(h:yc m wordsA wordsN wordsC R w):Calls Tryz.prog 94 #[(.pointer m),(.slice wordsA wordsN wordsC)] w fun e w'=>∃v,e= .returned v∧R v w':=
 ao Tryz.func94 au aa ((DLoad_eq m wordsA wordsN wordsC R w).mp h)
end Go.Proofs.YtbjlecpmgocoeaaGreatDoor
end
section
namespace Go.Proofs.YtbjlecpmgocoeaaGreatDoor
open Go Go.RowKit V
open Go.IntKind (i64 u32 u64)
namespace Mem
def bu(m:Mem):Nat→Mem
 | 0=>m
 | k+1=>(bu m k).zero true k
theorem Hb(m:Mem)(s:Bool)(p:Int):(m.zero s p).S=m.S:=by unfold zero;split<;>rfl
theorem Hc(m:Mem)(s:Bool)(p:Int):(m.zero s p).I=m.I:=by unfold zero;split<;>rfl
@[simp] theorem ja(m:Mem):∀k,(m.bu k).S=m.S
 | 0=>rfl
 | k+1=>by rw [bu,Hb,ja m k]
@[simp] theorem Fj(m:Mem):∀k,(m.bu k).I=m.I
 | 0=>rfl
 | k+1=>by rw [bu,Hc,Fj m k]
theorem oQ(m:Mem) {p:Int}(h:0≤p∧p<9000000000000000000):m.bu (i64.wrap (p+1)).toNat=(m.bu p.toNat).zero true p:=by
 rw [ah (by omega),show(p+1).toNat=p.toNat+1 by omega,bu,show((p.toNat:Nat):Int)=p by omega]
end Mem
def DB.new(m:Mem):DB:=⟨m.bu m.S,0,fun _=>.free⟩
theorem DB.vA(m:Mem):(DB.new m).S=m.S:=m.ja _
theorem DB.pQ(m:Mem)(h:1≤m.S):(DB.new m).Ok:=⟨fun p hp=>⟨Ent.ua,by show(0:Int)<((DB.new m).S:Nat);rw [DB.vA];omega⟩,by show(0:Int)≤0∧(0:Int)≤64;omega⟩
def DB.ws(D:DB):List Int:=(List.range D.S).flatMap fun p=>[(D.ent p).w0,(D.ent p).w1]
theorem lL {α:Type}(f g:Nat→α):∀n,((List.range n).flatMap fun p=>[f p,g p]).length=2*n
 | 0=>rfl
 | n+1=>by rw [List.range_succ,List.flatMap_append,List.length_append,lL f g n];simp;omega
theorem z3 {α:Type}(f g:Nat→α):∀n i,i<2*n→((List.range n).flatMap fun p=>[f p,g p])[i]? =some (if i % 2=0 then f (i / 2)else g (i / 2))
 | 0,i,h=>by omega
 | n+1,i,h=>by
  rw [List.range_succ,List.flatMap_append]
  by_cases hi:i<2*n
  ·rw [List.getElem?_append_left (by rw [lL];exact hi),z3 f g n i hi]
  ·rw [List.getElem?_append_right (by rw [lL];omega),lL]
   by_cases h2:i=2*n
   ·subst h2
    have e1:2*n % 2=0:=by omega
    have e2:2*n / 2=n:=by omega
    simp [e1,e2]
   ·have:i=2*n+1:=by omega
    subst this
    have e1:(2*n+1) % 2=1:=by omega
    have e2:(2*n+1) / 2=n:=by omega
    simp [e1,e2]
theorem DB.oS(D:DB):D.ws.length=2*D.S:=lL _ _ _
theorem DB.words_eq(D:DB):D.words=D.aw::D.ws:=rfl
theorem DBP.ints {w:World} {L:dy} {D:DB}(h:DBP w L D):cN w (fun k=>k=L.a) .u32 (some (Addr.mk L.a 0 none)) D.n2 D.n2 D.ws:=by
 obtain⟨T,cs,hb,hs,hc⟩:=h.ws
 refine cN.blk (Z:=fun k=>k=L.a) (m:=0) hb rfl (Nat.le_refl _) (D.oS) fun j x hj=>?_
 have hj':j<2*D.S:=by rw [← D.oS];exact(List.getElem?_eq_some_iff.1 hj).1
 have h2:=z3 (fun p=>(D.ent p).w0) (fun p=>(D.ent p).w1) D.S j hj'
 have h3:D.ws[j]? =_:=h2
 rw [hj]at h3
 injection h3 with h3
 have hp:=hc (j / 2) (by omega)
 rw [Nat.zero_add,h3]
 split
 ·have:=hp.1
  rwa [show 2*(j / 2)=j by omega]at this
 ·have:=hp.2
  rwa [show 2*(j / 2)+1=j by omega]at this
theorem DB.lay {D:DB} {n:Nat}(hn:n=1+2*D.S):eR ((List.replicate n 0).set 0 D.aw) 1 (D.ws.take (min (2*D.S) (n - 1)))=D.words:=by
 subst hn
 rw [List.take_of_length_le (by rw [D.oS];omega),show 1+2*D.S=(2*D.S)+1 by omega,List.replicate_succ,List.set_cons_zero]
 have:=pn [D.aw] D.ws [] (List.replicate (2*D.S) 0) (by rw [D.oS];simp)
 simpa [D.words_eq]using this
theorem DB.gm(D:DB):D.words.length=1+2*D.S:=by rw [D.words_eq,List.length_cons,D.oS];omega
theorem DB.yn {D:DB} {l:List U32} {p:Int}(hl:l=(D.aw::(List.range p.toNat).flatMap fun p=>[(D.ent p).w0,(D.ent p).w1]).map U32.mk)(h:0≤p∧p<64)(hok:(D.at_ p).ok=true) {a b:Int}(ha:a=if(D.at_ p).ok then(D.at_ p).w0 else 0)(hb:b=if(D.at_ p).ok then(D.at_ p).w1 else 0):
 l++List.map U32.mk [a,b]=(D.aw::(List.range (i64.wrap (p+1)).toNat).flatMap fun p=>[(D.ent p).w0,(D.ent p).w1]).map U32.mk:=by
 rw [ah (by omega),show(p+1).toNat=p.toNat+1 by omega,List.range_succ,List.flatMap_append,← List.cons_append,List.map_append,← hl,ha,hb,if_pos hok,if_pos hok]
 simp [DB.at_]
def DB.dJ(D:DB)(s:Int)(n:Nat):List I64:=((List.range n).filter (D.fw s)).map fun(p:Nat)=>I64.mk (p:Int)
theorem DB.vu(D:DB)(s:Int) {p:Int}(h:0≤p∧p<64):D.dJ s (i64.wrap (p+1)).toNat=if D.fw s p.toNat then D.dJ s p.toNat++ [I64.mk p]else D.dJ s p.toNat:=by
 unfold DB.dJ
 rw [ah (by omega),show(p+1).toNat=p.toNat+1 by omega,List.range_succ,List.filter_append,List.map_append]
 cases hq:D.fw s p.toNat
 ·simp [List.filter,hq]
 ·simp [List.filter,hq,show((p.toNat:Nat):Int)=p by omega]
theorem DB.yI(D:DB)(s:Int)(n:Nat):(D.dJ s n).length≤n:=by
 unfold DB.dJ
 rw [List.length_map]
 exact Nat.le_trans (List.length_filter_le _ _) (by simp)
def DB.wd(l:List U32)(i:Nat):Int:=(l.getD i ⟨0⟩).v
def DB.load(m:Mem)(l:List U32):DB:=⟨m,DB.wd l 0,fun p=>Ent.dec (DB.wd l (1+2*p)) (DB.wd l (2+2*p))⟩
def DB.fF(m:Mem)(l:List U32)(p:Nat):Bool:=Ent.cC (DB.wd l (1+2*p)) (DB.wd l (2+2*p))==0 && decide ((Ent.dec (DB.wd l (1+2*p)) (DB.wd l (2+2*p))).owner<m.S)
def DB.aE(m:Mem)(l:List U32):Int:=
 if l.length≠1+2*m.S then 110 else if DB.wd l 0>64 then 110 else if(List.range m.S).all (DB.fF m l)then 0 else 110
theorem DB.tS {m:Mem} {l:List U32}(hw:∀x∈l,0≤x.v∧x.v<4294967296)(h:DB.aE m l=0):(DB.load m l).Ok:=by
 unfold DB.aE at h
 split at h
 ·omega
 rename_i h1
 split at h
 ·omega
 rename_i h2
 split at h
 ·rename_i h3
  refine⟨fun p hp=>?_,?_⟩
  ·have hq:=List.all_eq_true.1 h3 p (List.mem_range.2 hp)
   simp only [DB.fF,Bool.and_eq_true,beq_iff_eq,decide_eq_true_eq]at hq
   exact⟨(Ent.iB hq.1).1,hq.2⟩
  ·have h0:0<l.length:=by omega
   have:=hw _ (List.getElem_mem h0)
   have e:DB.wd l 0=l[0].v:=by unfold DB.wd;rw [List.getD_eq_getElem?_getD,List.getElem?_eq_getElem h0];rfl
   show 0≤DB.wd l 0∧DB.wd l 0≤64
   rw [e]at h2 ⊢
   omega
 ·omega
theorem z6 {n:Nat} {v:Value} {i:Nat}(h:i<n):(Array.replicate n v)[i]? =some v:=by simp [h]
end Go.Proofs.YtbjlecpmgocoeaaGreatDoor
end
