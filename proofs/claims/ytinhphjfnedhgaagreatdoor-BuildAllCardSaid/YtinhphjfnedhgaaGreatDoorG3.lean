/- Chapter 17, BuildAll: every code, all entries and all words of every script are the document's. -/
import Derived.Test.YtinhphjfnedhgaaGreatDoorG2
import Derived.Great.BuildSlice
set_option linter.unusedVariables false
set_option linter.unusedSimpArgs false
namespace Go.Proofs.YtinhphjfnedhgaaGreatDoor.V
open Go Go.RowKit
open Go.IntKind (i64 u32 u64)
open Enc (enc)
section
section
variable {U:Uni} {P:Program} {tbl:Tb U} {may:List Nat} {k0:Nat}
variable {w0:World} {X0 X:Nat→Nat→Prop} {w:World} {fr:Fr} {st:St U} {Qp:Option (List PanicEntry→World→Prop)}
theorem wh:∀ {vs:List Value} {F:Prop},(∀v,v∈vs→one? v True)→F→oQ vs F
 | [],_,_,h=>h
 | v::r,F,h1,h=>by
  have h2:=qD (h1 v (List.mem_cons_self ..))
  have h3:=wh (F:=F) (fun u hu=>h1 u (List.mem_cons_of_mem _ hu)) h
  unfold oQ one?
  cases v<;>first | exact h3 | exact absurd rfl (h2.2.1 _) | exact absurd rfl (h2.2.2 _)
theorem nF(hI:Inv w0 k0 X0 may st.rs X w)(hk:aC st.rs fr st.kn) {i:Nat} {a b:Res U}(ha:nth st.rs i=some a)(hc:oe may k0 i=true) {w':World}(q:Ch (X i) w w')(Vb:dI a b)(hb:RS (X i) w' b) {kn':List (Key×Kn)}(P2:aC (cJ st.rs i b) fr kn'):
 eD w0 k0 X0 may fr st X w ⟨cJ st.rs i b,kn',i::st.md⟩ X w' [i]:=by
 have hi:=aX ha
 have hinv:=hI.set hi (g7 hc) q hb (fun k hk=>.inl hk)
 have e:vY X i (X i)=X:=by
  funext j
  unfold vY
  split
  ·rename_i h;rw [h]
  ·rfl
 rw [e]at hinv
 exact⟨hinv,P2,rfl,fun j hj=>by simp at hj;subst hj;exact hi,fun j hj=>by simp at hj;subst hj;exact g7 hc,by simp,fun j hj O5=>⟨by rw [bB,if_neg (fun hh=>O5 (by simp [hh.1]))],rfl⟩,fun _ _ _ h=>.inl h,fun j h1 h2=>by simp at h2;omega,q.mono fun k hk=>⟨i,by simp,hk⟩,fun j c hj=>by
  by_cases O5:j=i
  ·subst O5
   rw [ha]at hj
   injection hj with hj
   subst hj
   exact⟨b,by rw [bB,if_pos ⟨rfl,hi⟩],Vb⟩
  ·exact⟨c,by rw [bB,if_neg (fun hh=>O5 hh.1)];exact hj,dI.refl c⟩⟩
theorem oI(hI:Inv w0 k0 X0 may st.rs X w)(hk:aC st.rs fr st.kn) {r:Res U} {Z:Nat→Prop} {w':World}(q:Pu w w')(hr:RS Z w' r)(hz:∀k,Z k→w.heap.size≤k) {kn':List (Key×Kn)}(P2:aC (st.rs++ [r]) fr kn'):
 eD w0 k0 X0 may fr st X w ⟨st.rs++ [r],kn',st.md⟩ (vY X st.rs.length Z) w' []:=
 ⟨hI.more q hr hz,P2,rfl,fun j hj=>(by cases hj),fun j hj=>(by cases hj),by simp,fun i hi _=>⟨by rw [bm,if_pos hi],nA _ _ (by omega)⟩,fun i hi=>(by cases hi),fun i h1 h2 k hk=>by
  simp at h2
  obtain rfl:i=st.rs.length:=by omega
  rw [updX_eq]at hk
  exact hz k hk,q.mono fun k h=>h.elim,fun i a ha=>⟨a,by rw [bm,if_pos (aX ha)];exact ha,dI.refl a⟩⟩
theorem qG(hk:aC st.rs fr st.kn)(r:Res U):aC (st.rs++ [r]) fr st.kn:=
 hk.iL (M:= []) (fun i hi _=>by rw [bm,if_pos hi]) (fun i hi=>by cases hi) fun key k h=>⟨h,fun p _=>.inl (by simp),fun id off _=>.inl (by simp)⟩
theorem Blk.rs {g:Nat} {cs:Array Value} {T:TypeId} {w':World}(h:Blk w' g cs T):RS (U:=U) (fun k=>k=g) w' (.blk g cs.toList T):=⟨rfl,fun _ h=>h,h⟩
theorem pC {α:Type}(vs L:List α)(off:Nat)(h:off+vs.length≤L.length):iC L off vs=L.take off++vs++L.drop (off+vs.length):=by
 apply List.ext_getElem?
 intro j
 rw [← aQ,mo _ _ _ _ h,List.append_assoc]
 by_cases h3:off≤j∧j<off+vs.length
 ·rw [if_pos h3,List.getElem?_append_right (by simp;omega),List.getElem?_append_left (by simp;omega),aQ]
  congr 1
  simp
  omega
 ·rw [if_neg h3,aQ]
  by_cases h4:j<off
  ·rw [List.getElem?_append_left (by simp;omega),List.getElem?_take,if_pos h4]
  ·rw [List.getElem?_append_right (by simp;omega),List.getElem?_append_right (by simp;omega),List.getElem?_drop]
   congr 1
   simp
   omega
theorem jv.cells {rs:List (Res U)} {v:Value} {k:Kn}(h:jv rs v k)(hna:∀l,k≠ .ag l):v.cells= #[v]:=by
 cases k with
 | pan=>exact h.elim
 | ag l=>exact absurd rfl (hna l)
 | p k=>
  have h:cz U k (nth rs k.id)=some v:=h
  cases hn:nth rs k.id with
  | none=>rw [hn]at h;cases k<;>simp [cz]at h
  | some r=>
   rw [hn]at h
   cases k with
   | loc _ _=>cases r<;>simp only [cz,reduceCtorEq,Option.some.injEq]at h;subst h;rfl
   | obj _ _ _=>cases r<;>simp only [cz,reduceCtorEq,Option.some.injEq]at h;subst h;rfl
   | sl _ li=>
    simp only [cz]at h
    split at h
    ·injection h with h;subst h;rfl
    ·cases h
   | el _ li _ _=>
    simp only [cz]at h
    split at h
    ·split at h
     ·injection h with h;subst h;rfl
     ·cases h
    ·cases h
 | t l=>obtain⟨vs,rfl,_⟩:=h;rfl
 | f a b=>obtain⟨f,fs,cs,rfl,_,_⟩:=h;rfl
theorem mZ {id:Nat} {key:Key} {q:Kn}:∀ {l:List (Option PK)} {o:Nat},(key,q)∈wK id o l→∃j p,key= .c id (o+j)∧q= .p p∧nth l j=some (some p)
 | [],_,h=>by cases h
 | none::l,o,h=>by
  obtain⟨j,p,h1,h2,h3⟩:=mZ (l:=l) (o:=o+1) h
  exact⟨j+1,p,by rw [h1];congr 1;omega,h2,h3⟩
 | some p::l,o,h=>by
  rcases List.mem_cons.1 h with e | h
  ·injection e with e1 e2
   exact⟨0,p,e1,e2,rfl⟩
  ·obtain⟨j,p,h1,h2,h3⟩:=mZ (l:=l) (o:=o+1) h
   exact⟨j+1,p,by rw [h1];congr 1;omega,h2,h3⟩
theorem pS {rs:List (Res U)} {v:Value} {ky:Option Kn}(hv:KnO rs v ky) {id off:Nat} {sc:Bool} {key:Key} {q:Kn}(h:(key,q)∈cellsOf id off sc ky):∃j u,key= .c id (off+j)∧nth v.cells.toList j=some u∧jv rs u q:=by
 have one:∀ {k:Kn},ky=some k→(∀l,k≠ .ag l)→(key,q)∈(match sc with | true=>[(Key.c id off,k)] | false=>[])→∃j u,key= .c id (off+j)∧nth v.cells.toList j=some u∧jv rs u q:=by
  intro k hk hna hm
  subst hk
  split at hm
  ·simp only [List.mem_singleton,Prod.mk.injEq]at hm
   obtain⟨rfl,rfl⟩:=hm
   exact⟨0,v,rfl,by rw [jv.cells hv hna];rfl,hv⟩
  ·cases hm
 cases ky with
 | none=>cases h
 | some k=>
  cases k with
  | pan=>cases h
  | ag l=>
   obtain⟨j,p,h1,h2,h3⟩:=mZ h
   obtain⟨cs,rfl,hh⟩:=hv
   obtain⟨u,hu,hd⟩:=hh j p h3
   subst h2
   exact⟨j,u,h1,by show nth cs.toList j=_;rw [aQ];simpa using hu,hd⟩
  | p p=>exact one rfl (fun l e=>by cases e) h
  | t l=>exact one rfl (fun l e=>by cases e) h
  | f a b=>exact one rfl (fun l e=>by cases e) h
theorem aC.roots {rs rs':List (Res U)} {fr:Fr} {kn:List (Key×Kn)}(h:aC rs fr kn)(hr:∀i a,nth rs i=some a→∃b,nth rs' i=some b∧(a=b∨∃t own T A c l l',a= .lst t own T A c l∧b= .lst t own T A c l'∧l'.length=l.length)):aC rs' fr kn:=by
 have hd:∀p u,den U rs p=some u→den U rs' p=some u:=by
  intro p u hu
  unfold den at hu ⊢
  cases hn:nth rs p.id with
  | none=>rw [hn]at hu;cases p<;>simp [cz]at hu
  | some a=>
   rw [hn]at hu
   obtain⟨b,hb,rfl | ⟨t,own,T,A,c,l,l',rfl,rfl,hl⟩⟩:=hr _ _ hn
   ·rw [hb];exact hu
   ·rw [hb,← hu];cases p<;>simp only [cz,jX,hl]
 intro key k hk
 have h0:=h key k hk
 cases key with
 | s i=>exact jv.mono h0 fun p _=>hd p
 | c id off=>
  obtain⟨g,cs,T,v,e1,e2,e3⟩:=h0
  obtain⟨b,hb,rfl | ⟨_,_,_,_,_,_,_,hh,_⟩⟩:=hr _ _ e1
  ·exact⟨g,cs,T,v,hb,e2,e3.mono fun p _=>hd p⟩
  ·cases hh
 | l id path=>
  obtain⟨t,r,s,e1,e2⟩:=h0
  obtain⟨b,hb,rfl | ⟨_,_,_,_,_,_,_,hh,_⟩⟩:=hr _ _ e1
  ·exact⟨t,r,s,hb,e2.mono fun p _=>hd p⟩
  ·cases hh
theorem jQ {t:TypeId} {x y:Operand} {p:Addr} {fr:Fr} {dst:Option Tmp} {ty:TypeId} {pos:String} {after:Array Edge} {gd:Option (Nat×Bool)} {Y:Bool} {K:aD}(hx:ev fr x= .pointer (some p))(O3:Ji P t=false)(On:Nat.beq (ev fr y).cells.toList.length (bA P t)=true)(hT:hasType P t=true)
 (h1:∀v,v∈(ev fr y).cells.toList→one? v True)(h:aA w p (ev fr y).cells.toList fun w'=>K undef w'):opW P Y Qp ⟨dst,.store t x y,ty,pos,after,gd⟩ (ev fr) w K:=by
 refine Dl (C:= []) rfl ?_
 show(match ev fr x with
  | .pointer a=>match dK P t with
   | .row n=>(match hasType P t && Nat.beq n (bA P t),ev fr y with
    | true,.agg cs=>au a fun p=>cs.size=n∧(∀v∈cs.toList,one? v True)∧aA w p cs.toList fun w'=>K undef w'
    | _,_=>False)
   | _=>match Nat.beq (ev fr y).cells.toList.length (bA P t) && hasType P t with
    | true=>au a fun p=>oQ (ev fr y).cells.toList (aA w p (ev fr y).cells.toList fun w'=>K undef w')
    | false=>False
  | _=>False)
 rw [hx]
 unfold Ji at O3
 cases hs:dK P t with
 | row n=>rw [hs]at O3;cases O3
 | one s=>simp only [On,hT];exact ai p rfl (wh h1 h)
 | agg l=>simp only [On,hT];exact ai p rfl (wh h1 h)
theorem step_done {K:gi U} {st':St U} {X':Nat→Nat→Prop} {w':World} {M l:List Nat} {v:Value} {k:Option Kn}(hs:eD w0 k0 X0 may fr st X w st' X' w' M)(hv:KnO st'.rs v k)(h:nmL st'.rs l fun OK=>K v k ⟨OK,st'.kn,st'.md⟩):
 ∃k st' X' M,K v k st'∧KnO st'.rs v k∧eD w0 k0 X0 may fr st X w st' X' w' M:=
 ⟨k,st',X',M,mq (F:=fun OK=>K v k ⟨OK,st'.kn,st'.md⟩) (fun i r hr=>⟨_,_,hs.inv.sat.res i r hr⟩) h,hv,hs⟩
theorem wi {tt:Nat} {r:Nat→Nat} {s s':U.ty tt} {id:Nat} {K:gi U}(hI:Inv w0 k0 X0 may st.rs X w)(hk:aC st.rs fr st.kn)(hn:nth st.rs id=some (.ob tt r s))(O6:oe may k0 id=true) {w2:World}(hq:Ch (X id) w w2)(Om:U.pred tt r s' (X id) w2)
 (hK:nmL (cJ st.rs id (.ob tt r s')) [id] fun OK=>K undef none ⟨OK,gm [id] st.kn,id::st.md⟩):
 ∃k st' X' M,K undef k st'∧KnO st'.rs undef k∧eD w0 k0 X0 may fr st X w st' X' w2 M:=by
 refine step_done (k:=none) (st':=⟨cJ st.rs id (.ob tt r s'),gm [id] st.kn,id::st.md⟩) (nF hI hk hn O6 hq (.ob tt r s s') Om ?_) trivial hK
 refine hk.gm (M:= [id]) (fun i _ hi=>by rw [bB,if_neg (fun hh=>hi (by simp [hh.1]))]) fun i hi a ha=>?_
 simp only [List.mem_singleton]at hi
 subst hi
 rw [hn]at ha
 injection ha with ha
 subst ha
 exact⟨_,by rw [bB,if_pos ⟨rfl,aX hn⟩],.ob tt r s s'⟩
theorem A7 {t:TypeId} {x y:Operand} {p:Addr} {n:Nat} {cs:Array Value} {fr:Fr} {dst:Option Tmp} {ty:TypeId} {pos:String} {after:Array Edge} {gd:Option (Nat×Bool)} {Y:Bool} {K:aD}(hx:ev fr x= .pointer (some p))(O3:dK P t= .row n)(hy:ev fr y= .agg cs)(hn:Nat.beq n (bA P t)=true)(hc:cs.size=n)(hT:hasType P t=true)
 (h1:∀v,v∈cs.toList→one? v True)(h:aA w p cs.toList fun w'=>K undef w'):opW P Y Qp ⟨dst,.store t x y,ty,pos,after,gd⟩ (ev fr) w K:=by
 refine Dl (C:= []) rfl ?_
 show(match ev fr x with
  | .pointer a=>match dK P t with
   | .row n=>(match hasType P t && Nat.beq n (bA P t),ev fr y with
    | true,.agg cs=>au a fun p=>cs.size=n∧(∀v∈cs.toList,one? v True)∧aA w p cs.toList fun w'=>K undef w'
    | _,_=>False)
   | _=>match Nat.beq (ev fr y).cells.toList.length (bA P t) && hasType P t with
    | true=>au a fun p=>oQ (ev fr y).cells.toList (aA w p (ev fr y).cells.toList fun w'=>K undef w')
    | false=>False
  | _=>False)
 rw [hx,O3,hy]
 simp only [hT,hn,Bool.and_self]
 exact ai p rfl ⟨hc,h1,h⟩
theorem xX {t:TypeId} {x y:Operand} {K:gi U}(hI:Inv w0 k0 X0 may st.rs X w)(hk:aC st.rs fr st.kn)(h:v7 U P may k0 t (kf st.kn x) (ev fr y) st K) {Y:Bool} {dst:Option Tmp} {ty:TypeId} {pos:String} {after:Array Edge} {gd:Option (Nat×Bool)}:
 opW P Y Qp ⟨dst,.store t x y,ty,pos,after,gd⟩ (ev fr) w fun v w'=>∃k st' X' M,K v k st'∧KnO st'.rs v k∧eD w0 k0 X0 may fr st X w st' X' w' M:=by
 unfold v7 at h
 have P1:=hk.kf x
 split at h
 ·rename_i n id path off cs O3 P2 hy
  rw [P2]at P1
  split at h
  ·rename_i tt r s hb hn O6
   obtain⟨h,h1⟩:=gW h
   simp only [Bool.and_eq_true]at hb
   split at h
   ·rename_i c s' PZ
    obtain⟨hc,hK⟩:=h
    have hd:den U st.rs (.obj id path off)=some (ev fr x):=P1
    simp only [den,PK.id,hn,cz,Option.some.injEq]at hd
    have hp:U.pred tt r s (X id) w:=hI.sat.res id _ hn
    exact A7 (p:=⟨r path,off,none⟩) hd.symm O3 hy hb.2.1 (by have:=Nat.eq_of_beq_eq_true hb.2.2;simpa using this) hb.1 h1 (U.qU hp PZ hc fun w2 Om hq=>wi hI hk hn O6 hq Om hK)
   ·exact h.elim
  ·exact h.elim
 ·exact h.elim
theorem A9 {t:TypeId} {x y:Operand} {K:gi U}(hI:Inv w0 k0 X0 may st.rs X w)(hk:aC st.rs fr st.kn)(h:Ba U P may k0 t (kf st.kn x) (ev fr y) (kf st.kn y) st K) {Y:Bool} {dst:Option Tmp} {ty:TypeId} {pos:String} {after:Array Edge} {gd:Option (Nat×Bool)}:
 opW P Y Qp ⟨dst,.store t x y,ty,pos,after,gd⟩ (ev fr) w fun v w'=>∃k st' X' M,K v k st'∧KnO st'.rs v k∧eD w0 k0 X0 may fr st X w st' X' w' M:=by
 unfold Ba at h
 split at h
 ·exact xX hI hk h
 split at h
 ·exact h.elim
 rename_i PG
 simp only [Bool.and_eq_true,Bool.not_eq_true']at PG
 obtain⟨O3,On,hT⟩:=PG
 have Qo:(ev fr y).cells.toList.length=bA P t:=Nat.eq_of_beq_eq_true On
 have P1:=hk.kf x
 have hky:=hk.kf y
 split at h
 ·rename_i id off P2
  rw [P2]at P1
  split at h
  ·rename_i g cs T hn O6
   split at h
   ·rename_i hb
    obtain⟨h,h1⟩:=gW h
    have hb:off+bA P t≤cs.length:=Nat.le_of_ble_eq_true hb
    have hd:den U st.rs (.loc id off)=some (ev fr x):=P1
    simp only [den,PK.id,hn,cz,Option.some.injEq]at hd
    obtain⟨hg,hX,Xm⟩:=hI.sat.res id _ hn
    refine jQ hd.symm O3 On hT h1 ⟨g,off,⟨cs⟩,T,rfl,Xm,by simpa [Qo]using hb,fun w2 hs=>?_⟩
    rw [pE]at hs
    have q:Ch (X id) w w2:=(bF.ch hs).mono fun k e=>e▸hg
    refine⟨none,_,X,[id],h,trivial,nF hI hk hn O6 q (.blk g cs (iC cs off (ev fr y).cells.toList) T (by simp)) (show RS (X id) w2 (.blk g (iC cs off (ev fr y).cells.toList) T)from⟨hg,hX,hs.blk⟩) ?_⟩
    have PA:∀i,i∈ [id]→∀a,nth st.rs i=some a→∃b,nth (cJ st.rs id (.blk g (iC cs off (ev fr y).cells.toList) T)) i=some b∧dI a b:=by
     intro i hi a ha
     simp at hi
     subst hi
     rw [hn]at ha
     injection ha with ha
     subst ha
     exact⟨_,by rw [bB,if_pos ⟨rfl,aX hn⟩],.blk _ _ _ _ (by simp)⟩
    have Ti:∀i,i<st.rs.length→i ∉ [id]→nth (cJ st.rs id (.blk g (iC cs off (ev fr y).cells.toList) T)) i=nth st.rs i:=fun i _ hi=>by rw [bB,if_neg (fun hh=>hi (by simp [hh.1]))]
    have W6:∀ {k:Kn} {v:Value},jv st.rs v k→∀p,k.has p→p.id ∉ [id]∨p.ofList p.id=false:=by
     intro k v Rk p hp
     by_cases XV:p.id=id
     ·right
      cases ho:p.ofList p.id
      ·rfl
      ·exfalso
       have hdd:∃u,den U st.rs p=some u:=by
        cases k with
        | pan=>exact hp.elim
        | p k=>cases hp;exact⟨_,Rk⟩
        | t l=>obtain⟨j,hj⟩:=hp;obtain⟨vs,_,h3⟩:=Rk;obtain⟨u,_,hu⟩:=h3 j p hj;exact⟨u,hu⟩
        | ag l=>obtain⟨j,hj⟩:=hp;obtain⟨vs,_,h3⟩:=Rk;obtain⟨u,_,hu⟩:=h3 j p hj;exact⟨u,hu⟩
        | f a b=>
         obtain⟨f,fs,cs,_,_,h3,h4⟩:=Rk
         rcases hp with⟨j,hj⟩ | ⟨j,hj⟩
         ·obtain⟨u,_,hu⟩:=h3 j p hj;exact⟨u,hu⟩
         ·obtain⟨u,_,hu⟩:=h4 j p hj;exact⟨u,hu⟩
       obtain⟨u,hu⟩:=hdd
       unfold den at hu
       rw [XV,hn]at hu
       cases p<;>simp_all [cz,PK.ofList,PK.id,jX]
     ·exact .inl (by simpa using XV)
    refine aC.app ?_ (hk.iL Ti PA fun key k hm=>?_)
    ·intro key q hq
     obtain⟨j,u0,rfl,hu0,Rk⟩:=pS hky hq
     refine⟨g,_,T,u0,by rw [bB,if_pos ⟨rfl,aX hn⟩],?_,Rk.mono fun p hp u hu=>n7 Ti PA (W6 Rk p hp) hu⟩
     have hj:=aX hu0
     rw [mo _ _ _ _ (by omega),if_pos ⟨by omega,by omega⟩,show off+j - off=j by omega,hu0]
    ·obtain⟨Wj,R2⟩:=dH hm
     have h0:=hk _ _ Wj
     refine⟨Wj,?_,fun id' off' e=>?_⟩
     ·cases key with
      | s i=>exact W6 h0
      | c i o=>obtain⟨_,_,_,_,_,_,h0⟩:=h0;exact W6 h0
      | l i o=>obtain⟨_,_,_,_,h0⟩:=h0;exact W6 h0
     ·subst e
      by_cases hi:id'=id
      ·subst hi
       right
       obtain⟨g',cs',T',v,e1,_⟩:=h0
       rw [hn]at e1
       injection e1 with e1
       injection e1 with e1 e2 e3
       subst e1;subst e2;subst e3
       refine⟨g,cs,_,T,hn,by rw [bB,if_pos ⟨rfl,aX hn⟩],?_⟩
       rw [mo _ _ _ _ (by omega),if_neg]
       simp only [Key.Dw,Nat.beq_refl,Bool.true_and,Bool.not_eq_true',Bool.and_eq_false_iff]at R2
       rintro⟨h3,h4⟩
       rcases R2 with h5 | h5
       ·rw [Nat.ble_eq_true_of_le h3]at h5;cases h5
       ·have:Nat.blt off' (off+bA P t)=true:=by rw [Nat.blt_eq];omega
        rw [this]at h5;cases h5
      ·exact .inl (by simpa using hi)
   ·exact h.elim
  ·exact h.elim
 ·rename_i id i off P2
  rw [P2]at P1
  split at h
  ·rename_i tt T A c l hn O6
   split at h
   ·rename_i hb
    obtain⟨h,h1⟩:=gW h
    have hb:off+bA P t≤(U.en tt).size:=Nat.le_of_ble_eq_true hb
    obtain⟨x',XR,hK⟩:=dB h
    have hd:den U st.rs (.el id 0 i off)=some (ev fr x):=P1
    simp only [den,PK.id,hn,cz,jX]at hd
    split at hd
    case isFalse=>cases hd
    rename_i hr
    injection hd with hd
    obtain⟨ho,Ow⟩:Own w (X id) T A l.length c l∧∀k,X id k→k<w.heap.size:=hI.sat.res id _ hn
    have XX:i.toNat<l.length:=by omega
    obtain⟨g,hA,hZ,hgl⟩:=ho.lt (by omega)
    have Vd:=ho.len
    have P3:l[i.toNat]? =some (l.getD i.toNat (U.df tt)):=by rw [List.getD_eq_getElem?_getD,List.getElem?_eq_getElem (by omega)];rfl
    have Xg:=U.iy XR
    have hel:(U.en tt).enc (l.getD i.toNat (U.df tt))=enc (l.getD i.toNat (U.df tt)):=rfl
    have hlen:(enc (l.getD i.toNat (U.df tt))).length=(U.en tt).size:=cr _
    have W2:enc x'=(enc (l.getD i.toNat (U.df tt))).take off++(ev fr y).cells.toList++(enc (l.getD i.toNat (U.df tt))).drop (off+(ev fr y).cells.toList.length):=by
     show(U.en tt).enc x'=_
     rw [Xg,hel]
     exact pC _ _ _ (by rw [hlen,Qo];exact hb)
    refine jQ (p:=elA U tt A i off) hd.symm O3 On hT h1 ?_
    have PZ:=ho.st (p:=Addr.mk g 0 none) hA XX P3 (o:=off) (vs:=(ev fr y).cells.toList) (by rw [Qo];exact hb) W2 (K:=fun w2=>∃k st' X' M,K undef k st'∧KnO st'.rs undef k∧eD w0 k0 X0 may fr st X w st' X' w2 M) (fun w2 Rq hq=>by
     refine step_done (k:=none) (st':=⟨cJ st.rs id (.lst tt true T A c (l.set i.toNat x')),st.kn,id::st.md⟩) (nF hI hk hn O6 hq (.lst tt true T A A c c l (l.set i.toNat x')) (show RS (X id) w2 (.lst tt true T A c (l.set i.toNat x'))from⟨by rw [List.length_set];exact Rq,fun k hk=>Nat.lt_of_lt_of_le (Ow k hk) hq.size⟩) ?_) trivial hK
     refine hk.roots fun j a ha=>?_
     by_cases hj:j=id
     ·subst hj
      rw [hn]at ha
      injection ha with ha
      exact⟨_,by rw [bB,if_pos ⟨rfl,aX hn⟩],.inr ⟨_,_,_,_,_,_,_,ha.symm,rfl,List.length_set ..⟩⟩
     ·exact⟨a,by rw [bB,if_neg (fun hh=>hj hh.1)];exact ha,.inl rfl⟩)
    unfold elA
    rw [hA]
    exact PZ
   ·exact h.elim
  ·rename_i tt r s hn O6
   split at h
   ·rename_i L hL
    split at h
    ·rename_i hb
     obtain⟨h,h1⟩:=gW h
     have hb:off+bA P t≤(U.en L.t).size:=Nat.le_of_ble_eq_true hb
     obtain⟨x',XR,h⟩:=dB h
     split at h
     ·rename_i c s' PZ
      obtain⟨hc,hK⟩:=h
      have hd:den U st.rs (.el id 0 i off)=some (ev fr x):=P1
      simp only [den,PK.id,hn,cz,jX,hL]at hd
      split at hd
      case isFalse=>cases hd
      rename_i hr
      injection hd with hd
      have hp:U.pred tt r s (X id) w:=hI.sat.res id _ hn
      have P3:L.l[i.toNat]? =some (L.l.getD i.toNat (U.df L.t)):=by rw [List.getD_eq_getElem?_getD,List.getElem?_eq_getElem (by omega)];rfl
      have Xg:=U.iy XR
      have hlen:((U.en L.t).enc (L.l.getD i.toNat (U.df L.t))).length=(U.en L.t).size:=(U.en L.t).len _
      have W2:(U.en L.t).enc x'=((U.en L.t).enc (L.l.getD i.toNat (U.df L.t))).take off++(ev fr y).cells.toList++((U.en L.t).enc (L.l.getD i.toNat (U.df L.t))).drop (off+(ev fr y).cells.toList.length):=by
       rw [Xg]
       exact pC _ _ _ (by rw [hlen,Qo];exact hb)
      refine jQ (p:=elA U L.t L.A i off) hd.symm O3 On hT h1 ?_
      exact U.rn hp hL P3 (by rw [Qo];exact hb) W2 PZ hc fun w2 Om hq=>wi hI hk hn O6 hq Om hK
     ·exact h.elim
    ·exact h.elim
   ·exact h.elim
  ·exact h.elim
 ·rename_i id path off P2
  rw [P2]at P1
  split at h
  ·rename_i tt r s v hn O6 O0
   obtain⟨h,h1⟩:=gW h
   split at h
   ·rename_i c s' PZ
    obtain⟨hc,hK⟩:=h
    have hd:den U st.rs (.obj id path off)=some (ev fr x):=P1
    simp only [den,PK.id,hn,cz,Option.some.injEq]at hd
    have hp:U.pred tt r s (X id) w:=hI.sat.res id _ hn
    rw [O0]at Qo
    refine jQ (p:=⟨r path,off,none⟩) hd.symm O3 On hT (by rw [O0];exact h1) ?_
    rw [O0]
    exact U.sd hp PZ hc fun w2 Om hq=>wi hI hk hn O6 hq Om hK
   ·exact h.elim
  ·rename_i tt r s v v2 vs hn O6 O0
   obtain⟨h,h1⟩:=gW h
   split at h
   ·rename_i c s' PZ
    obtain⟨hc,hK⟩:=h
    have hd:den U st.rs (.obj id path off)=some (ev fr x):=P1
    simp only [den,PK.id,hn,cz,Option.some.injEq]at hd
    have hp:U.pred tt r s (X id) w:=hI.sat.res id _ hn
    refine jQ (p:=⟨r path,off,none⟩) hd.symm O3 On hT (by rw [O0];exact h1) ?_
    rw [O0]
    exact U.qU hp PZ hc fun w2 Om hq=>wi hI hk hn O6 hq Om hK
   ·exact h.elim
  ·exact h.elim
 ·exact h.elim
theorem EO {t:TypeId} {z:Value}(h:(P.info? t).bind (·.zero)=some z)(w:World):(Instr.alloc t true (.tuple #[])).run P w= .ok (.pointer (some ⟨w.heap.size,0,none⟩)) (w.alloc (.cells z.cells t)):=by
 cases hi:P.info? t with
 | none=>rw [hi]at h;cases h
 | some i=>
  rw [hi]at h
  have h:i.zero=some z:=h
  have hz:(zeroValue t).run P w= .ok z w:=by
   unfold zeroValue
   rw [Sem.run_bind,run_typeInfo (w:=w) hi,Result.andThen_ok,h]
   rfl
  unfold Instr.alloc
  rw [Sem.run_bind,hz,Result.andThen_ok]
  rfl
theorem yz {cs:List Value} {T:TypeId} {ck:Option Kn} {K:gi U}(hI:Inv w0 k0 X0 may st.rs X w)(hk:aC st.rs fr st.kn) {v0:Value}(PG:KnO st.rs v0 ck)(O0:ck=none∨v0.cells.toList=cs)(h:JA U cs T ck st K):
 ∃k st' X' M,K (.pointer (some ⟨w.heap.size,0,none⟩)) k st'∧KnO st'.rs (.pointer (some ⟨w.heap.size,0,none⟩)) k∧eD w0 k0 X0 may fr st X w st' X' (w.alloc (.cells ⟨cs⟩ T)) M:=by
 have hm:Made w w.heap.size ⟨cs⟩ T (w.alloc (.cells ⟨cs⟩ T)):=made rfl rfl
 unfold JA at h
 split at h
 ·rename_i t s hmk
  have QX:nth (st.rs++ [Res.ob t (fun _=>w.heap.size) s]) st.rs.length=some (.ob t (fun _=>w.heap.size) s):=by rw [bm,if_neg (by omega),Nat.sub_self];rfl
  refine step_done (oI hI hk hm.pu (Z:=fun k=>k=w.heap.size) (show RS (fun k=>k=w.heap.size) _ (.ob t (fun _=>w.heap.size) s)from U.wk hmk hm.blk) (fun k e=>by rw [e];exact Nat.le_refl _) (qG hk _)) ?_ (h w.heap.size)
  show den U _ (.obj _ 0 0)=_
  simp only [den,PK.id,QX,cz]
 have QX:nth (st.rs++ [Res.blk w.heap.size cs T]) st.rs.length=some (.blk w.heap.size cs T):=by rw [bm,if_neg (by omega),Nat.sub_self];rfl
 refine⟨_,_,_,[],h w.heap.size,?_,oI hI hk hm.pu (Z:=fun k=>k=w.heap.size) (show RS (fun k=>k=w.heap.size) _ (.blk w.heap.size cs T)from⟨rfl,fun _ h=>h,hm.blk⟩) (fun k e=>by rw [e];exact Nat.le_refl _) (aC.app ?_ (qG hk _))⟩
 ·show den U _ (.loc _ 0)=_
  simp only [den,PK.id,QX,cz]
 ·intro key q hq
  obtain⟨j,u,rfl,hu,Rk⟩:=pS PG hq
  rcases O0 with rfl | O0
  ·cases hq
  rw [O0]at hu
  rw [Nat.zero_add]
  exact⟨_,cs,T,u,QX,hu,Rk.mono fun p hp u hu=>n7 (M:= []) (fun i hi _=>by rw [bm,if_pos hi]) (fun i hi=>by cases hi) (.inl (by simp)) hu⟩
theorem yW {tt:Nat}:∀ {n:Nat} {cs:List Value} {l:List (U.el tt)},EG U tt n cs=some l→l.length=n∧l.flatMap enc=cs
 | 0,[],l,h=>by simp only [EG,Option.some.injEq]at h;subst h;exact⟨rfl,rfl⟩
 | 0,_::_,l,h=>by simp [EG]at h
 | n+1,cs,l,h=>by
  simp only [EG]at h
  split at h
  ·rename_i x r hx hr
   injection h with h
   subst h
   obtain⟨h1,h2⟩:=yW hr
   refine⟨by simp [h1],?_⟩
   have h3:enc x=jP (U.en tt).size cs:=U.iy hx
   rw [List.flatMap_cons,h2,h3,fG,gC,List.take_append_drop]
  ·cases h
theorem rv {t e:TypeId} {tt:Nat} {ie:TypeInfo} {z:Value}(h:GF U P t=some (e,tt,ie,z)):SN P t e z (U.en tt).size ie.bytes∧P.info? e=some ie∧ie.zero=some z∧ie.size=(U.en tt).size∧0<ie.bytes:=by
 unfold GF at h
 split at h
 ·rename_i e' hu
  split at h
  ·rename_i tt' ie' _ hi
   split at h
   ·rename_i z' hz
    split at h
    ·rename_i hb
     simp only [Option.some.injEq,Prod.mk.injEq]at h
     obtain⟨rfl,rfl,rfl,rfl⟩:=h
     simp only [Bool.and_eq_true]at hb
     have h1:=Nat.eq_of_beq_eq_true hb.1
     have h2:=Nat.eq_of_beq_eq_true hb.2.1
     have h3:0<ie'.bytes:=by simpa [Nat.blt_eq]using hb.2.2
     exact⟨⟨hu,⟨ie',hi,hz,h1,rfl⟩,by rw [← h1,← h2];simp,(U.en tt').pos⟩,hi,hz,h1,h3⟩
    ·cases h
   ·cases h
  ·cases h
 ·cases h
theorem GD {tt:Nat} {x:Operand} {F:List (U.el tt)→Prop}(hS:Sat st.rs X w)(hk:aC st.rs fr st.kn)(h:La U tt (ev fr x) (kf st.kn x) st F):∃(l:List (U.el tt))(A:Option Addr)(c:Nat)(Y:Nat→Prop),ev fr x= .slice A l.length c∧Rd w Y A l.length c l∧F l:=by
 have P1:=hk.kf x
 unfold La at h
 split at h
 ·rename_i id li P2
  rw [P2]at P1
  have hd:den U st.rs (.sl id li)=some (ev fr x):=P1
  split at h
  ·rename_i r hn
   split at h
   ·rename_i L hL
    simp only [den,PK.id,hn,cz,hL,Option.some.injEq]at hd
    split at h
    ·rename_i ht
     have hr:=(hS.res id _ hn).ls hL
     obtain⟨t',A,c,l⟩:=L
     cases ht
     exact⟨l,A,c,_,hd.symm,hr,h⟩
    ·exact h.elim
   ·exact h.elim
  ·exact h.elim
 ·split at h
  ·rename_i d hx
   exact⟨[],none,d,_,hx,Rd.nil,h⟩
  ·exact h.elim
theorem yD {rs:List (Res U)} {r:Res U}:nth (rs++ [r]) rs.length=some r:=by rw [bm,if_neg (by omega),Nat.sub_self];rfl
theorem rX {tt:Nat} {T:TypeId} {A:Option Addr} {c:Nat} {l:List (U.el tt)} {K:gi U}(hI:Inv w0 k0 X0 may st.rs X w)(hk:aC st.rs fr st.kn) {w':World}(q:Pu w w') {Z:Nat→Prop}(ho:Own w' Z T A l.length c l)(hz:∀k,Z k→w.heap.size≤k) {v:Value}(hv:v= .slice A l.length c)
 (h:nmL (st.rs++ [.lst tt true T A c l]) [st.rs.length] fun OK=>K v (some (.p (.sl st.rs.length 0))) ⟨OK,st.kn,st.md⟩):
 ∃k st' X' M,K v k st'∧KnO st'.rs v k∧eD w0 k0 X0 may fr st X w st' X' w' M:=by
 refine step_done (st':=⟨st.rs++ [.lst tt true T A c l],st.kn,st.md⟩) (oI hI hk q (Z:=fun k=>Z k∧k<w'.heap.size) (show RS (fun k=>Z k∧k<w'.heap.size) _ (.lst tt true T A c l)from⟨ho.narrow,fun k hk=>hk.2⟩) (fun k hk=>hz k hk.1) (qG hk _)) ?_ h
 show den U _ (.sl _ 0)=_
 simp only [den,PK.id,yD,cz,jX,hv]
theorem D7(hI:Inv w0 k0 X0 may st.rs X w) {i:Nat} {a b:Res U}(ha:nth st.rs i=some a)(hc:oe may k0 i=true) {w':World}(q:Ch (X i) w w')(Vb:dI a b) {Z:Nat→Prop}(hb:RS Z w' b)(hz:∀k,Z k→X i k∨w.heap.size≤k) {kn':List (Key×Kn)}(P2:aC (cJ st.rs i b) fr kn'):
 eD w0 k0 X0 may fr st X w ⟨cJ st.rs i b,kn',i::st.md⟩ (vY X i Z) w' [i]:=by
 have hi:=aX ha
 exact⟨hI.set hi (g7 hc) q hb hz,P2,rfl,fun j hj=>by simp at hj;subst hj;exact hi,fun j hj=>by simp at hj;subst hj;exact g7 hc,by simp,fun j hj O5=>⟨by rw [bB,if_neg (fun hh=>O5 (by simp [hh.1]))],nA _ _ (by simpa using O5)⟩,fun j hj k hk=>by
  simp at hj;subst hj;rw [updX_eq]at hk;exact hz k hk,fun j h1 h2=>by simp at h2;omega,q.mono fun k hk=>⟨i,by simp,hk⟩,fun j c hj=>by
  by_cases O5:j=i
  ·subst O5
   rw [ha]at hj
   injection hj with hj
   subst hj
   exact⟨b,by rw [bB,if_pos ⟨rfl,hi⟩],Vb⟩
  ·exact⟨c,by rw [bB,if_neg (fun hh=>O5 hh.1)];exact hj,dI.refl c⟩⟩
theorem Br {tt:Nat} {z:Value} {x:U.el tt}(hx:enc x=z.cells.toList)(n:Nat):(List.replicate n x).flatMap enc=(madeCells z.cells (n*(U.en tt).size)).toList:=by
 have hs:z.cells.size=(U.en tt).size:=by have:=cr x;rw [hx]at this;simpa using this
 have hp:0<Enc.size (U.el tt):=Enc.pos
 apply List.ext_getElem?
 intro j
 by_cases hj:j<n*Enc.size (U.el tt)
 ·have hq:j / Enc.size (U.el tt)<n:=(Nat.div_lt_iff_lt_mul hp).2 hj
  have hr:j % Enc.size (U.el tt)<Enc.size (U.el tt):=Nat.mod_lt _ hp
  have h4:=flat_get (List.replicate n x) (j / Enc.size (U.el tt)) (j % Enc.size (U.el tt)) x (by rw [List.getElem?_replicate,if_pos hq]) hr
  have h5:j / Enc.size (U.el tt)*Enc.size (U.el tt)+j % Enc.size (U.el tt)=j:=by rw [Nat.mul_comm];exact Nat.div_add_mod j _
  rw [h5]at h4
  rw [h4,hx]
  have QS:j<n*(U.en tt).size:=hj
  have Oh:j % (U.en tt).size<z.cells.size:=by rw [hs];exact hr
  have e1:(madeCells z.cells (n*(U.en tt).size)).toList[j]? =some (z.cells[j % z.cells.size]!):=by
   simp [madeCells,QS]
  rw [e1,hs]
  show z.cells.toList[j % (U.en tt).size]? =_
  rw [Array.getElem?_toList,Array.getElem?_eq_getElem Oh,getElem!_pos z.cells _ Oh]
 ·rw [List.getElem?_eq_none (by rw [eM,List.length_replicate];omega),List.getElem?_eq_none (by rw [Array.length_toList,size_madeCells];exact Nat.le_of_not_lt hj)]
def FJ(fr:Fr)(w0:World)(k0:Nat)(X0:Nat→Nat→Prop)(may:List Nat)(st:St U)(X:Nat→Nat→Prop)(w:World)(K:gi U):Option (List PanicEntry→World→Prop):=
 some fun ch w'=>∃v st' X' M,ch= [⟨v,false,false⟩]∧K v (some .pan) st'∧eD w0 k0 X0 may fr st X w st' X' w' M
theorem G0 {Y:Bool} {q:List PanicEntry→World→Prop} {o:Oper} {ρ:Operand→Value} {K:aD}(h:opW P Y (some q) o ρ w K)(hq:∀ch w',q ch w'→False):opW P Y none o ρ w K:=by
 refine⟨h.1,?_⟩
 have h2:=h.2
 generalize (execOp ρ o).run P w=r at h2 ⊢
 cases r with
 | ok nx w'=>
  cases nx<;>simp only [Out]at h2 ⊢
  case value v=>exact h2
  case skip=>exact h2
  case enter f args=>exact h2.mono fun e w'' he=>he.imp id fun⟨ch,_,h2⟩=>(hq _ _ h2).elim
  case round l f tmps assign body=>exact⟨h2.1,h2.2.mono fun e w'' he=>he.imp id fun⟨ch,_,h2⟩=>(hq _ _ h2).elim⟩
 | halt x w'=>
  cases x<;>simp only [Out]at h2 ⊢
  exact(hq _ _ h2).elim
theorem Dk {Y:Bool} {q q':List PanicEntry→World→Prop} {o:Oper} {ρ:Operand→Value} {K:aD}(h:opW P Y (some q) o ρ w K)(hq:∀ch w',q ch w'→q' ch w'):opW P Y (some q') o ρ w K:=by
 refine⟨h.1,?_⟩
 have h2:=h.2
 generalize (execOp ρ o).run P w=r at h2 ⊢
 cases r with
 | ok nx w'=>
  cases nx<;>simp only [Out]at h2 ⊢
  case value v=>exact h2
  case skip=>exact h2
  case enter f args=>exact h2.mono fun e w'' he=>he.imp id fun⟨ch,h1,h2⟩=>⟨ch,h1,hq _ _ h2⟩
  case round l f tmps assign body=>exact⟨h2.1,h2.2.mono fun e w'' he=>he.imp id fun⟨ch,h1,h2⟩=>⟨ch,h1,hq _ _ h2⟩⟩
 | halt x w'=>
  cases x<;>simp only [Out]at h2 ⊢
  exact hq _ _ h2
theorem rU {Y:Bool} {Qp:Option (List PanicEntry→World→Prop)} {o:Oper} {ρ:Operand→Value} {K K':aD}(h:opW P Y Qp o ρ w K)(hK:∀v w',K v w'→K' v w'):opW P Y Qp o ρ w K':=by
 refine⟨h.1,?_⟩
 have h2:=h.2
 generalize (execOp ρ o).run P w=r at h2 ⊢
 cases r with
 | ok nx w'=>
  cases nx<;>simp only [Out]at h2 ⊢
  case value v=>exact hK _ _ h2
  case skip=>exact hK _ _ h2
  case enter f args=>exact h2.mono fun e w'' he=>he.imp (fun⟨v,h1,h2⟩=>⟨v,h1,hK _ _ h2⟩) id
  case round l f tmps assign body=>exact⟨h2.1,h2.2.mono fun e w'' he=>he.imp (fun⟨v,h1,h2⟩=>⟨v,h1,hK _ _ h2⟩) id⟩
 | halt x w'=>
  cases x<;>simp only [Out]at h2 ⊢
  exact h2
theorem Inv.KJ {rs rs':List (Res U)}(h:Inv w0 k0 X0 may rs X w)(hl:rs'.length≤rs.length)(he:∀i,i<rs'.length→nth rs' i=nth rs i)(hk:k0≤rs'.length):Inv w0 k0 X0 may rs' X w:=
 ⟨⟨fun i r hr=>h.sat.res i r (by rw [← he i (aX hr)];exact hr),fun i j hi hj=>h.sat.dis i j (by omega) (by omega)⟩,h.ch,h.old,fun i h1 h2=>h.new i h1 (by omega),hk⟩
theorem Dh {k:Option Kn} {B:Prop}(h:Bj k False B):B:=by
 unfold Bj at h
 split at h
 ·exact h.elim
 ·exact h
theorem Hr:∀ {s:Sh} {F:Value→Prop},ML s F→∃v,F v
 | .int _,_,⟨_,h⟩=>⟨_,h⟩
 | .bool,_,⟨_,h⟩=>⟨_,h⟩
 | .str,_,⟨_,h⟩=>⟨_,h⟩
 | .ptr,_,⟨_,h⟩=>⟨_,h⟩
 | .slice,_,⟨_,h⟩=>⟨_,h⟩
 | .map,_,⟨_,h⟩=>⟨_,h⟩
 | .val,_,⟨_,h⟩=>⟨_,h⟩
theorem Di {α:Type} {F:α→Prop}:∀ {l:List α},orL F l→∃a,F a
 | [a],h=>⟨a,h⟩
 | a::b::r,h=>by
  rcases h with h | h
  ·exact⟨a,h⟩
  ·exact Di (l:=b::r) h
theorem JI {args:List Operand}(hk:aC st.rs fr st.kn):∀j v k,nth (aN (ev fr) args) j=some v→nth (aN (V.kf st.kn) args) j=some k→KnO st.rs v k:=by
 intro j v k h1 h2
 rw [bp]at h1 h2
 cases hn:nth args j with
 | none=>rw [hn]at h1;cases h1
 | some x=>
  rw [hn]at h1 h2
  injection h1 with h1
  injection h2 with h2
  subst h1;subst h2
  exact hk.kf x
theorem He {rs:List (Res U)} {a1 a2:List Value} {k1 k2:List (Option Kn)}(hl:a1.length=k1.length)(h1:∀j v k,nth a1 j=some v→nth k1 j=some k→KnO rs v k)(h2:∀j v k,nth a2 j=some v→nth k2 j=some k→KnO rs v k):∀j v k,nth (a1++a2) j=some v→nth (k1++k2) j=some k→KnO rs v k:=by
 intro j v k hj OQ
 rw [bm]at hj OQ
 by_cases hc:j<a1.length
 ·rw [if_pos hc]at hj
  rw [if_pos (by omega)]at OQ
  exact h1 j v k hj OQ
 ·rw [if_neg hc]at hj
  rw [if_neg (by omega),← hl]at OQ
  exact h2 _ v k hj OQ
theorem KX {K:gi U} {Y:Bool} {dst:Option Tmp} {ty:TypeId} {pos:String} {after:Array Edge} {gd:Option (Nat×Bool)} {f:Operand} {args:Array Operand} {ats:Array TypeId} {f':Nat} {first cap:Array Value} {ks:List (Option Kn)}(Pp:∀f c,tbl.c f=some c→LV U P f c∧bR P f=true)(hI:Inv w0 k0 X0 may st.rs X w)(hk:aC st.rs fr st.kn)(hf:ev fr f= .func (.func f') first cap)
 (hks:∀j v k,nth (first.toList++(aN (ev fr) args.toList++cap.toList)) j=some v→nth ks j=some k→KnO st.rs v k)(h:call2 U tbl may k0 f' (first.toList++(aN (ev fr) args.toList++cap.toList)) ks st K):
 opW P Y (FJ fr w0 k0 X0 may st X w K) {dst:=dst,op:= .call {callee:= .value f,args:=args,argTypes:=ats},type:=ty,pos:=pos,after:=after,guard:=gd} (ev fr) w fun v w'=>∃k st' X' M,K v k st'∧KnO st'.rs v k∧eD w0 k0 X0 may fr st X w st' X' w' M:=by
 have QZ:bR P f'=true:=by
  unfold call2 at h
  split at h
  ·exact h.elim
  ·rename_i c hc;exact(Pp f' c hc).2
 refine⟨rfl,?_⟩
 have h1:=eO (P:=P) (C:= [f']) (f:=f') (by simp [eC,QZ]) (by simp) (first++args.map (ev fr)++cap) w
 have hr:(execOp (ev fr) {dst:=dst,op:= .call {callee:= .value f,args:=args,argTypes:=ats},type:=ty,pos:=pos,after:=after,guard:=gd}).run P w= .ok (.enter f' (first++args.map (ev fr)++cap)) w:=by
  simp only [execOp,resolve,hf,Deferred.ofValue]
  rw [Sem.run_bind]
  exact h1
 rw [hr]
 have ha:(⟨first.toList++(aN (ev fr) args.toList++cap.toList)⟩:Array Value)=first++args.map (ev fr)++cap:=by
  apply Array.ext'
  simp [gY]
 have:=vk (fun f c h=>(Pp f c h).1) hI hk hks h
 rw [ha]at this
 refine this.mono fun e w' hp=>?_
 obtain⟨v,k,st',X',M,rfl,h2,h3,h4⟩:=hp
 rcases h3 with rfl | h3
 ·exact .inr ⟨_,rfl,v,st',X',M,rfl,h2,h4⟩
 ·refine .inl ⟨v,?_,k,st',X',M,h2,h3,h4⟩
  cases k with
  | none=>rfl
  | some k=>cases k<;>first | rfl | exact h3.elim
theorem Eu {t:TypeId} {name:String} {f:FuncId} {u:Value}(h:Dr P t name=some f)(w:World):(method (P.types.size+Made.depth) t u name).run P w= .ok (f,u) w:=by
 obtain⟨n,hn⟩:∃n,P.types.size+Made.depth=n+1:=⟨P.types.size+Made.depth - 1,by unfold Made.depth;omega⟩
 rw [hn]
 unfold Dr at h
 split at h
 ·cases h
 ·rename_i i d hi hu hd
  split at h
  ·rename_i m hm
   split at h
   ·rename_i f' hf hp
    injection h with h
    subst h
    have hm':i.methods.find? (fun m=>m.name==name)=some m:=hm
    cases d<;>simp_all [method,typeInfo,follow,receiverAt,underlying,Place.get]
   ·cases h
  ·cases h
 ·cases h
theorem MU {K:gi U} {Y:Bool} {dst:Option Tmp} {ty:TypeId} {pos:String} {after:Array Edge} {gd:Option (Nat×Bool)} {x:Operand} {name:String} {args:Array Operand} {ats:Array TypeId} {t:TypeId} {u:Value} {f':Nat} {ks:List (Option Kn)}(Pp:∀f c,tbl.c f=some c→LV U P f c∧bR P f=true)(hI:Inv w0 k0 X0 may st.rs X w)(hk:aC st.rs fr st.kn)(hx:ev fr x= .iface t u)(hm:Dr P t name=some f')
 (hks:∀j v k,nth (u::aN (ev fr) args.toList) j=some v→nth ks j=some k→KnO st.rs v k)(h:call2 U tbl may k0 f' (u::aN (ev fr) args.toList) ks st K):
 opW P Y (FJ fr w0 k0 X0 may st X w K) {dst:=dst,op:= .call {callee:= .invoke x name,args:=args,argTypes:=ats},type:=ty,pos:=pos,after:=after,guard:=gd} (ev fr) w fun v w'=>∃k st' X' M,K v k st'∧KnO st'.rs v k∧eD w0 k0 X0 may fr st X w st' X' w' M:=by
 have QZ:bR P f'=true:=by
  unfold call2 at h
  split at h
  ·exact h.elim
  ·rename_i c hc;exact(Pp f' c hc).2
 refine⟨rfl,?_⟩
 have h1:=eO (P:=P) (C:= [f']) (f:=f') (by simp [eC,QZ]) (by simp) (#[u]++args.map (ev fr)) w
 have he:(#[ev fr x]++args.map (ev fr)).extract 1 (#[ev fr x]++args.map (ev fr)).size=args.map (ev fr):=by
  apply Array.ext'
  simp
  exact List.take_of_length_le (by simp)
 have hr:(execOp (ev fr) {dst:=dst,op:= .call {callee:= .invoke x name,args:=args,argTypes:=ats},type:=ty,pos:=pos,after:=after,guard:=gd}).run P w= .ok (.enter f' (#[u]++args.map (ev fr))) w:=by
  simp only [execOp,resolve]
  rw [Sem.run_bind]
  show(invoke (.fn (.method name) #[]) (#[ev fr x]++args.map (ev fr))).run P w=_
  have e0:(#[ev fr x]++args.map (ev fr))[0]? =some (.iface t u):=by rw [hx,Array.getElem?_append_left (by simp)];rfl
  simp only [invoke,e0,he]
  simp only [callMethod]
  rw [Sem.run_bind]
  have hp:(program:Sem Program).run P w= .ok P w:=rfl
  rw [hp]
  change Sem.run P (method (P.types.size+Made.depth) t u name>>=fun p=>callFunc p.1 (#[p.2]++Array.map (ev fr) args)) w=_
  rw [Sem.run_bind,Eu hm]
  exact h1
 rw [hr]
 have ha:(⟨u::aN (ev fr) args.toList⟩:Array Value)= #[u]++args.map (ev fr):=by
  apply Array.ext'
  simp [gY]
 have:=vk (fun f c h=>(Pp f c h).1) hI hk hks h
 rw [ha]at this
 refine this.mono fun e w' hp=>?_
 obtain⟨v,k,st',X',M,rfl,h2,h3,h4⟩:=hp
 rcases h3 with rfl | h3
 ·exact .inr ⟨_,rfl,v,st',X',M,rfl,h2,h4⟩
 ·refine .inl ⟨v,?_,k,st',X',M,h2,h3,h4⟩
  cases k with
  | none=>rfl
  | some k=>cases k<;>first | rfl | exact h3.elim
theorem y8 {K:gi U} {Y:Bool} {dst:Option Tmp} {ty:TypeId} {pos:String} {after:Array Edge} {gd:Option (Nat×Bool)} {f:Operand} {args:Array Operand} {ats:Array TypeId}(Pp:∀f c,tbl.c f=some c→LV U P f c∧bR P f=true)(hI:Inv w0 k0 X0 may st.rs X w)(hk:aC st.rs fr st.kn)
 (h:DH U tbl may k0 (ev fr f) (aN (ev fr) args.toList) (aN (V.kf st.kn) args.toList) st K):
 opW P Y (FJ fr w0 k0 X0 may st X w K) {dst:=dst,op:= .call {callee:= .value f,args:=args,argTypes:=ats},type:=ty,pos:=pos,after:=after,guard:=gd} (ev fr) w fun v w'=>∃k st' X' M,K v k st'∧KnO st'.rs v k∧eD w0 k0 X0 may fr st X w st' X' w' M:=by
 obtain⟨r,h1,hK⟩:=Hr h
 obtain⟨⟨f',az,bs⟩,h2⟩:=Di h1
 dsimp only at h2
 split at h2
 ·rename_i hd
  simp only [Bool.and_eq_true]at hd
  obtain⟨hf,h2⟩:=h2
  have pk:∀ {l:List PK},iN (EF st.rs) l=true→∀j v k,nth (aN (dv st.rs) l) j=some v→nth (aN (fun p=>some (Kn.p p)) l) j=some k→KnO st.rs v k:=by
   intro l hl j v k hj OQ
   rw [bp]at hj OQ
   cases hn:nth l j with
   | none=>rw [hn]at hj;cases hj
   | some p=>
    rw [hn]at hj OQ
    injection hj with hj
    injection OQ with OQ
    subst hj;subst OQ
    have:=cC.1 hl p (iJ hn)
    unfold EF at this
    show den U st.rs p=some (dv st.rs p)
    unfold dv
    split at this
    ·rename_i u hu;rw [hu];rfl
    ·cases this
  refine rU (Dk (q':=fun ch w'=>∃v st' X' M,ch= [⟨v,false,false⟩]∧K v (some .pan) st'∧eD w0 k0 X0 may fr st X w st' X' w' M) (hq:=fun ch w' ⟨_,_,_,_,_,h,_⟩=>h.elim) (KX (K:=_) (first:=⟨aN (dv st.rs) az⟩) (cap:=⟨aN (dv st.rs) bs⟩) Pp hI hk hf (He (by simp) (pk hd.1) (He (by simp) (JI hk) (pk hd.2))) h2)) fun v w' hp=>?_
  obtain⟨k,st',X',M,g1,g2,g3⟩:=hp
  have g1:=Dh g1
  split at g1
  ·rename_i hl
   subst g1
   simp only [Bool.and_eq_true]at hl
   have l1:=Nat.eq_of_beq_eq_true hl.1
   have l2:=Nat.eq_of_beq_eq_true hl.2
   have hM:M= []:=by
    have:=g3.md
    rw [this,List.length_append]at l2
    exact List.eq_nil_of_length_eq_zero (by omega)
   subst hM
   refine⟨none,st,X',[],hK,trivial,g3.inv.KJ (by omega) (fun i hi=>(g3.same i hi (by simp)).1.symm) hI.len,hk,rfl,fun i hi=>(by cases hi),fun i hi=>(by cases hi),Nat.le_refl _,fun i hi _=>⟨rfl,(g3.same i hi (by simp)).2⟩,fun i hi=>(by cases hi),fun i h1 h2=>by omega,g3.ch,fun i a ha=>⟨a,ha,dI.refl a⟩⟩
  ·exact g1.elim
 ·exact h2.elim
theorem G8 {o:Oper} {K:gi U} {Y:Bool}(Pp:∀f c,tbl.c f=some c→LV U P f c∧bR P f=true)(hI:Inv w0 k0 X0 may st.rs X w)(hk:aC st.rs fr st.kn)(h:Lu U P tbl may k0 o (ev fr) st K):
 opW P Y (FJ fr w0 k0 X0 may st X w K) o (ev fr) w fun v w'=>∃k st' X' M,K v k st'∧KnO st'.rs v k∧eD w0 k0 X0 may fr st X w st' X' w' M:=by
 obtain⟨dst,op,ty,pos,after,gd⟩:=o
 cases op<;>simp only [Lu]at h<;>skip
 case panic x=>
  refine⟨rfl,?_⟩
  split at h
  ·rename_i t v hx
   have hr:(execOp (ev fr) ⟨dst,.panic x,ty,pos,after,gd⟩).run P w= .halt (.panic (.iface t v)) w:=by
    simp [execOp,hx,Instr.panic,goPanic]
   rw [hr]
   exact⟨_,st,X,[],rfl,h,hI,hk,rfl,fun i hi=>(by cases hi),fun i hi=>(by cases hi),Nat.le_refl _,fun _ _ _=>⟨rfl,rfl⟩,fun i hi=>(by cases hi),fun i h1 h2=>by omega,Ch.refl _ _,fun i a ha=>⟨a,ha,dI.refl a⟩⟩
  ·exact h.elim
 case store t x y=>exact A9 hI hk h
 case alloc t=>
  split at h
  ·rename_i z hz
   refine⟨rfl,?_⟩
   have hr:(execOp (ev fr) ⟨dst,.alloc t,ty,pos,after,gd⟩).run P w= .ok (.value (.pointer (some ⟨w.heap.size,0,none⟩))) (w.alloc (.cells z.cells t)):=by
    simp [execOp,EO hz]
   rw [hr]
   exact yz hI hk (v0:=undef) (ck:=none) trivial (.inl rfl) h
  ·exact h.elim
 case box t x=>
  refine⟨rfl,?_⟩
  have hr:(execOp (ev fr) ⟨dst,.box t x,ty,pos,after,gd⟩).run P w= .ok (.value (.pointer (some ⟨w.heap.size,0,none⟩))) (w.alloc (.cells (ev fr x).cells t)):=rfl
  rw [hr]
  exact yz hI hk (hk.kf x) (.inr rfl) h
 case call c=>
  obtain⟨cal,args,ats⟩:=c
  simp only at h
  split at h
  ·rename_i f
   split at h
   ·exact y8 Pp hI hk h
   split at h
   ·rename_i f' first cap hf
    refine KX Pp hI hk hf (fun j v k hj OQ=>?_) h
    ·
     have QN:∀j v k,nth (aN (ev fr) args.toList) j=some v→nth (aN (V.kf st.kn) args.toList) j=some k→KnO st.rs v k:=by
      intro j v k h1 h2
      rw [bp]at h1 h2
      cases hn:nth args.toList j with
      | none=>rw [hn]at h1;cases h1
      | some x=>
       rw [hn]at h1 h2
       injection h1 with h1
       injection h2 with h2
       subst h1;subst h2
       exact hk.kf x
     have hfk:=hk.kf f
     have app:∀ {a1 a2:List Value} {k1 k2:List (Option Kn)},a1.length=k1.length→(∀j v k,nth a1 j=some v→nth k1 j=some k→KnO st.rs v k)→(∀j v k,nth a2 j=some v→nth k2 j=some k→KnO st.rs v k)→∀j v k,nth (a1++a2) j=some v→nth (k1++k2) j=some k→KnO st.rs v k:=by
      intro a1 a2 k1 k2 hl h1 h2 j v k hj OQ
      rw [bm]at hj OQ
      by_cases hc:j<a1.length
      ·rw [if_pos hc]at hj
       rw [if_pos (by omega)]at OQ
       exact h1 j v k hj OQ
      ·rw [if_neg hc]at hj
       rw [if_neg (by omega),← hl]at OQ
       exact h2 _ v k hj OQ
     have pt:∀ {vs:Array Value} {l:List (Option PK)},(∀j k,nth l j=some (some k)→∃u,vs[j]? =some u∧den U st.rs k=some u)→∀j v k,nth vs.toList j=some v→nth (aN (fun o:Option PK=>o.map Kn.p) l) j=some k→KnO st.rs v k:=by
      intro vs l hh j v k hj OQ
      rw [bp]at OQ
      cases hn:nth l j with
      | none=>rw [hn]at OQ;cases OQ
      | some o=>
       rw [hn]at OQ
       injection OQ with OQ
       subst OQ
       cases o with
       | none=>exact trivial
       | some p=>
        obtain⟨u,hu,hd⟩:=hh j p hn
        rw [aQ]at hj
        simp at hj
        rw [hu]at hj
        injection hj with hj
        subst hj
        exact hd
     have no:∀ {vs:List Value},∀j v k,nth vs j=some v→nth (aN (fun _:Value=>(none:Option Kn)) vs) j=some k→KnO st.rs v k:=by
      intro vs j v k hj OQ
      rw [bp,hj]at OQ
      injection OQ with OQ
      subst OQ
      exact trivial
     unfold MJ at OQ
     split at OQ
     ·rename_i a b hkf
      rw [hkf,hf]at hfk
      obtain⟨_,fs,cs,e,⟨Qi,Rj⟩,h3,h4⟩:=hfk
      injection e with _ e1 e2
      subst e1;subst e2
      exact app (by simp [Qi]) (pt h3) (app (by simp) QN (pt h4)) j v k hj OQ
     ·exact app (by simp) no (app (by simp) QN no) j v k hj OQ
   ·exact h.elim
  ·rename_i x name
   split at h
   ·rename_i t u hx
    split at h
    ·rename_i f' hm
     refine MU Pp hI hk hx hm (fun j v k hj OQ=>?_) h
     cases j with
     | zero=>
      simp only [nth,Option.some.injEq]at OQ
      subst OQ
      exact trivial
     | succ j=>
      simp only [nth]at hj OQ
      rw [bp]at hj OQ
      cases hn:nth args.toList j with
      | none=>rw [hn]at hj;cases hj
      | some y=>
       rw [hn]at hj OQ
       injection hj with hj
       injection OQ with OQ
       subst hj;subst OQ
       exact hk.kf y
    ·exact h.elim
   ·exact h.elim
  ·split at h
   ·rename_i x y t t' ha hat
    split at h
    ·rename_i e tt ie z XS htt
     have htt:=Nat.eq_of_beq_eq_true htt
     subst htt
     obtain⟨WA,hi,hz,On,VK⟩:=rv XS
     obtain⟨l2,B,d,Y2,hy,Rp,h⟩:=GD hI.sat hk h
     have ha':args= #[x,y]:=by apply Array.ext';simpa using ha
     have hat':ats= #[t,t]:=by apply Array.ext';simpa using hat
     subst ha';subst hat'
     have key:∀ {A:Option Addr} {m c:Nat} {K':Value→World→Prop},ev fr x= .slice A m c→(∃(A':Option Addr)(n' c':Nat)(w2:World),(Builtin.append_ #[t,t] ty #[.slice A m c,.slice B l2.length d]:Sem Value).run P w= .ok (.slice A' n' c') w2∧K' (.slice A' n' c') w2)→
      opW P Y (FJ fr w0 k0 X0 may st X w K) {dst:=dst,op:= .call {callee:= .builtin .append,args:= #[x,y],argTypes:= #[t,t]},type:=ty,pos:=pos,after:=after,guard:=gd} (ev fr) w K':=by
      intro A m c K' hx hh
      obtain⟨A',n',c',w2,hr,hK⟩:=hh
      refine⟨rfl,?_⟩
      rw [rh (s:=Builtin.append_ #[t,t] ty #[.slice A m c,.slice B l2.length d]) (by simp [xT,hx,hy]) w hr]
      exact hK
     split at h
     ·rename_i id P2
      split at h
      ·rename_i tt' T A0 c0 l hn O6
       split at h
       ·rename_i hT
        have hT:=Nat.eq_of_beq_eq_true hT
        subst hT
        split at h
        ·rename_i htt
         subst htt
         obtain⟨X8,h⟩:=h
         have P1:=hk.kf x
         rw [P2]at P1
         have hd:den U st.rs (.sl id 0)=some (ev fr x):=P1
         simp only [den,PK.id,hn,cz,jX,Option.some.injEq]at hd
         obtain⟨ho,Ow⟩:Own w (X id) T A0 l.length c0 l∧∀k,X id k→k<w.heap.size:=hI.sat.res id _ hn
         have RU:l.length+l2.length≤9223372036854775807:=by
          have:=Nat.le_mul_of_pos_right (l.length+l2.length) VK
          omega
         have fin:∀(A':Option Addr)(c':Nat)(w2:World)(Z:Nat→Prop),Own w2 Z T A' (l++l2).length c' (l++l2)→(∀k,Z k→X id k∨w.heap.size≤k)→Ch (X id) w w2→∃k st' X' M,K (.slice A' (l++l2).length c') k st'∧KnO st'.rs (.slice A' (l++l2).length c') k∧eD w0 k0 X0 may fr st X w st' X' w2 M:=by
          intro A' c' w2 Z Rq Wd hq
          have PA:dI (Res.lst tt' true T A0 c0 l) (.lst tt' true T A' c' (l++l2)):= .lst _ _ _ _ _ _ _ _ _
          have hat:nth (cJ st.rs id (Res.lst tt' true T A' c' (l++l2))) id=some (.lst tt' true T A' c' (l++l2)):=by rw [bB,if_pos ⟨rfl,aX hn⟩]
          refine step_done (st':=⟨cJ st.rs id (.lst tt' true T A' c' (l++l2)),gm [id] st.kn,id::st.md⟩) (k:=some (.p (.sl id 0))) (D7 hI hn O6 hq PA (Z:=fun k=>Z k∧k<w2.heap.size) (show RS _ w2 (.lst tt' true T A' c' (l++l2))from⟨Rq.narrow,fun k hk=>hk.2⟩) (fun k hk=>Wd k hk.1) ?_) ?_ (h A' c')
          rotate_left
          ·show den U _ (.sl id 0)=_
           simp only [den,PK.id,hat,cz,jX]
          ·refine hk.gm (M:= [id]) (fun i _ hi=>by rw [bB,if_neg (fun hh=>hi (by simp [hh.1]))]) fun i hi a ha=>?_
           simp at hi
           subst hi
           rw [hn]at ha
           injection ha with ha
           subst ha
           exact⟨_,hat,PA⟩
         refine key hd.symm ?_
         refine Own.apps (ho.mono (Y:=fun k=>X id k∨w.heap.size≤k) fun k hk=>.inl hk) WA Rp RU X8 (.inr (Nat.le_refl _)) (fun A' c' w2 Rq hq=>?_) (fun h0 hB=>?_)
         ·rw [← List.length_append]at Rq ⊢
          refine fin A' c' w2 _ Rq (fun k hk=>hk) ⟨hq.kept.mono fun k hk=>⟨hk.1,fun hh=>hh.elim hk.2 (fun hh=>absurd hk.1 (Nat.not_lt.2 hh))⟩⟩
         ·have Rj:l2= []:=List.eq_nil_of_length_eq_zero h0
          subst Rj
          refine⟨_,_,_,_,run_append_nothing w t t ty T ie WA.und hi A0 l.length c0 ho.own.HD _ (Src.ofNil _ WA.und d),?_⟩
          have:=fin A0 c0 w (X id) (by rw [List.append_nil];exact ho) (fun k hk=>.inl hk) (Ch.refl _ _)
          rw [List.append_nil]at this
          exact this
        ·exact h.elim
       ·exact h.elim
      ·exact h.elim
     ·split at h
      ·rename_i hx
       obtain⟨X8,h⟩:=h
       have RU:l2.length≤9223372036854775807:=by
        have:=Nat.le_mul_of_pos_right l2.length VK
        omega
       refine key hx ?_
       refine og WA Rp RU X8 fun A' c' w2 Rq hq=>?_
       exact rX hI hk hq Rq (fun k hk=>hk.1) rfl (h A' c')
      ·exact h.elim
     ·exact h.elim
    ·exact h.elim
   ·exact h.elim
  ·exact h.elim
 case buildSlice t len parts=>
  split at h
  ·rename_i e tt ie z XS
   obtain⟨WA,hi,hz,On,VK⟩:=rv XS
   split at h
   ·rename_i cells hf hb
    split at h
    ·rename_i l hl
     simp only [Bool.and_eq_true]at hb
     have h1:0<len:=by simpa [Nat.blt_eq]using hb.1
     have h2:len*ie.size≤16777216:=Nat.le_of_ble_eq_true hb.2
     have abR:0<ie.size:=by rw [On];exact(U.en tt).pos
     have hls:0<len*ie.size:=Nat.mul_pos h1 abR
     obtain⟨Vd,hlf⟩:=yW hl
     refine⟨rfl,?_⟩
     have hr:(execOp (ev fr) {dst:=dst,op:= .buildSlice t len parts,type:=ty,pos:=pos,after:=after,guard:=gd}).run P w= .ok (.value (.slice (some ⟨w.heap.size,0,none⟩) len len)) (w.alloc (.cells cells e)):=by
      have:=Go.run_buildSlice (P:=P) w t e len (parts.map fun(ix:Nat×Operand)=>(ix.1,ev fr ix.2)) cells ie z WA.und hi hz (by omega) (by omega) hf
      simp only [execOp]
      rw [Sem.run_bind,this]
      rfl
     rw [hr]
     have O0:cells.size=len*(U.en tt).size:=by
      rw [← Array.length_toList,← hlf,eM,Vd]
     have O3:=World.ownsRow_lit (base:=0) (e:=e) (size:=(U.en tt).size) w cells len (Nat.zero_le _) (by
      have:=Nat.le_mul_of_pos_right len abR
      simp only [maxLen];omega) O0
     refine rX hI hk (Z:=fun k=>k=w.heap.size) (show Pu w (w.alloc (.cells cells e))from(made (w2:=w.alloc (.cells cells e)) rfl rfl).pu) ⟨⟨?_,fun a ha=>by injection ha with ha;rw [← ha]⟩,rfl⟩ (fun k e=>by rw [e];exact Nat.le_refl _) (by rw [Vd]) (h w.heap.size)
     rw [hlf,Vd]
     exact O3
    ·exact h.elim
   ·exact h.elim
  ·exact h.elim
 case makeSlice t l c=>
  split at h
  ·rename_i a b e tt ie z hla hlb XS
   obtain⟨WA,hi,hz,On,VK⟩:=rv XS
   split at h
   ·rename_i x hx
    obtain⟨⟨rfl,h0,hb⟩,h⟩:=h
    have RU:a≤9223372036854775807:=by
     have h9:(1:Int)*a≤(ie.bytes:Int)*a:=Int.mul_le_mul_of_nonneg_right (by omega) h0
     omega
    have hr:=run_make (P:=P) w t e ie z WA.und hi hz .i64 .i64 a a h0 (Int.le_refl _) hb RU
    refine⟨rfl,?_⟩
    rw [rh (s:=Instr.makeSlice t (.int .i64 a) (.int .i64 a)) (by simp [xT,hla,hlb]) w hr]
    have Pn:=Br (x:=x) (U.iy hx) a.toNat
    have hlen:(List.replicate a.toNat x).length=a.toNat:=List.length_replicate
    rw [On]
    have O3:=World.ownsRow_lit (base:=0) (e:=e) (size:=(U.en tt).size) w (madeCells z.cells (a.toNat *(U.en tt).size)) a.toNat (Nat.zero_le _) (by simp only [maxLen];omega) (size_madeCells _ _)
    refine rX hI hk (Z:=fun k=>k=w.heap.size) (l:=List.replicate a.toNat x) (c:=a.toNat) (T:=e) (A:=some ⟨w.heap.size,0,none⟩) ((made (w2:=w.alloc (.cells (madeCells z.cells (a.toNat *(U.en tt).size)) e)) rfl rfl).pu) ⟨⟨?_,fun a ha=>by injection ha with ha;rw [← ha]⟩,rfl⟩ (fun k e=>by rw [e];exact Nat.le_refl _) (by rw [hlen]) ?_
    ·rw [Pn,hlen]
     exact O3
    ·have:=h w.heap.size
     rw [hlen]at this
     exact this
   ·exact h.elim
  ·exact h.elim
theorem Dm {o:Oper} {K:gi U} {Y:Bool}(Pp:∀f c,tbl.c f=some c→LV U P f c∧bR P f=true)(hI:Inv w0 k0 X0 may st.rs X w)(hk:aC st.rs fr st.kn)(h:op2 U P tbl may k0 o (ev fr) st K):
 opW P Y (FJ fr w0 k0 X0 may st X w K) o (ev fr) w fun v w'=>∃k st' X' M,K v k st'∧KnO st'.rs v k∧eD w0 k0 X0 may fr st X w st' X' w' M:=by
 unfold op2 at h
 split at h
 ·exact G8 Pp hI hk h
 ·obtain⟨v,k,h1,h2,h3⟩:=u7 hI.sat hk h
  have hr:=h3 w (Kept.refl _ _)
  refine⟨?_,?_⟩
  ·obtain⟨dst,op,ty,pos,after,gd⟩:=o
   cases op<;>first | rfl | skip
   exact absurd (show pJ P _ _ _ from h) (fun hh=>hh.elim)
  ·rw [hr]
   exact⟨k,st,X,[],h1,h2,hI,hk,rfl,fun i hi=>(by cases hi),fun i hi=>(by cases hi),Nat.le_refl _,fun _ _ _=>⟨rfl,rfl⟩,fun i hi=>(by cases hi),fun i h1 h2=>by omega,Ch.refl _ _,fun i a ha=>⟨a,ha,dI.refl a⟩⟩
structure Steps(w0:World)(k0:Nat)(X0:Nat→Nat→Prop)(may:List Nat)(st:St U)(X:Nat→Nat→Prop)(st':St U)(X':Nat→Nat→Prop)(w':World):Prop where
 inv:Inv w0 k0 X0 may st'.rs X' w'
 len:st.rs.length≤st'.rs.length
 md:∃L,st'.md=L++st.md∧(∀i,i∈L→i∈may∨k0≤i)∧∀i,i<st.rs.length→i ∉ L→nth st'.rs i=nth st.rs i∧X' i=X i
 root:∀i a,nth st.rs i=some a→∃b,nth st'.rs i=some b∧dI a b
theorem Steps.refl(h:Inv w0 k0 X0 may st.rs X w):Steps w0 k0 X0 may st X st X w:=⟨h,Nat.le_refl _,⟨[],rfl,fun i hi=>(by cases hi),fun _ _ _=>⟨rfl,rfl⟩⟩,fun i a ha=>⟨a,ha,dI.refl a⟩⟩
theorem Steps.trans {Sd Px:St U} {X1 X2:Nat→Nat→Prop} {w1 w2:World}(h:Steps w0 k0 X0 may st X Sd X1 w1)(k:Steps w0 k0 X0 may Sd X1 Px X2 w2):Steps w0 k0 X0 may st X Px X2 w2:=by
 obtain⟨L,hL,cL,hl⟩:=h.md
 obtain⟨M,hM,cM,hm⟩:=k.md
 exact⟨k.inv,Nat.le_trans h.len k.len,⟨M++L,by rw [hM,hL,List.append_assoc],fun i hi=>(List.mem_append.1 hi).elim (cM i) (cL i),fun i hi hn=>by
  rw [List.mem_append,not_or]at hn
  obtain⟨e1,e2⟩:=hm i (Nat.lt_of_lt_of_le hi h.len) hn.1
  obtain⟨e3,e4⟩:=hl i hi hn.2
  exact⟨e1.trans e3,e2.trans e4⟩⟩,fun i a ha=>by
  obtain⟨b,hb,hr⟩:=h.root i a ha
  obtain⟨c,hc,QK⟩:=k.root i b hb
  exact⟨c,hc,hr.trans QK⟩⟩
theorem eD.steps {st':St U} {X':Nat→Nat→Prop} {w':World} {M:List Nat}(h:eD w0 k0 X0 may fr st X w st' X' w' M):Steps w0 k0 X0 may st X st' X' w':=⟨h.inv,h.len,⟨M,h.md,h.can,fun i hi hm=>h.same i hi hm⟩,h.root⟩
theorem Steps.kn {st' Px:St U} {X':Nat→Nat→Prop} {w':World}(h:Steps w0 k0 X0 may st X st' X' w')(h1:Px.rs=st'.rs)(h2:Px.md=st'.md):Steps w0 k0 X0 may st X Px X' w':=by
 obtain⟨a,b,c,d⟩:=h
 exact⟨by rw [h1];exact a,by rw [h1];exact b,by rw [h1,h2];exact c,by rw [h1];exact d⟩
variable {n:Nat} {N:List Nat} {ops:Array Oper}
theorem iV {dst:Option Tmp} {v:Value} {F G:Fr→Prop}(h:jJ n N fr dst v F)(hF:∀fr',F fr'→G fr'):jJ n N fr dst v G:=by
 unfold jJ at h ⊢
 cases dst with
 | none=>exact hF _ h
 | some d=>
  simp only at h ⊢
  split at h
  ·split at h
   ·cases v with
    | int k x=>exact fun z hz=>hF _ (h z hz)
    | bool x=>exact fun z hz=>hF _ (h z hz)
    | _=>exact hF _ h
   ·exact hF _ h
  ·exact h.elim
def Aft(w0:World)(k0:Nat)(X0:Nat→Nat→Prop)(may:List Nat)(st:St U)(X:Nat→Nat→Prop)(ds:List Deferred)(K:Fr→St U→Prop)(fr':Fr)(w':World):Prop:=
 ∃st' X',Steps w0 k0 X0 may st X st' X' w'∧aC st'.rs fr' st'.kn∧fr'.ds=ds∧K fr' st'
def Gv(M:Fr→Oper→World→aD→Prop)(n:Nat)(N:List Nat)(ops:Array Oper)(K:Fr→World→Prop):List Oper→Fr→World→Prop
 | [],fr,w=>K fr w
 | o::rest,fr,w=>iw ops o fr
  (fun fr=>M fr o w (fun v w'=>jJ n N fr o.dst v fun fr'=>Gv M n N ops K rest fr' w'))
  (fun fr=>jJ n N fr o.dst undef fun fr'=>Gv M n N ops K rest fr' w)
def mI(n:Nat)(ws:List Nat)(a0:Act)(Q:QF):Exit→Act→World→Prop
 | .outgrown,_,_=>False
 | x,a,w=>∃fr,Rep n fr a∧Q x fr w∧Agr ws a0 a
theorem mO {Qp:Fr→List PanicEntry→World→Prop} {K:Fr→World→Prop} {ws:List Nat} {a0:Act} {r:Option Nat}:
 ∀(l:List Oper),(∀o∈l,∀d,o.dst=some d→d∈ws)→∀(fr:Fr)(a:Act)(w:World),Rep n fr a→Agr ws a0 a→Gv (fun fr o w K=>opW P true (some (Qp fr)) o (ev fr) w K) n N ops K l fr w→
  wpListIn (WF r) 0 P ops (mI n ws a0 fun x fr w=>match x with | .normal=>K fr w | .panic ch=>Qp fr ch w | _=>False) l a w
 | [],_,fr,a,w,hr,ha,h=>⟨fr,hr,h,ha⟩
 | o::rest,hd,fr,a,w,hr,ha,h=>by
  obtain⟨fr',Oh,hh⟩:=kE hr h
  simp only [wpListIn]
  rcases hh with⟨hw,hh⟩ | ⟨hw,hh⟩
  ·rw [if_pos hw]
   refine Dj (K:=fun fr' w'=>Gv (fun fr o w K=>opW P true (some (Qp fr)) o (ev fr) w K) n N ops K rest fr' w') Oh ha (hd o (List.mem_cons_self ..)) hh ?_ ?_
   ·intro Pb a2 w2 h2 h3 h4
    exact mO rest (fun o' SL=>hd o' (List.mem_cons_of_mem _ SL)) Pb a2 w2 h2 h3 h4
   ·intro ch w' hq
    exact⟨fr',Oh,hq,ha⟩
  ·rw [if_neg (by rw [hw];simp)]
   obtain⟨Pb,h2,h3⟩:=gU Oh hh
   exact⟨kK,mO rest (fun o' SL=>hd o' (List.mem_cons_of_mem _ SL)) Pb _ w h2 (ha.trans (Agr.put a o.dst undef (hd o (List.mem_cons_self ..)))) h3⟩
theorem GV {k:Option Kn} {A B:Prop} {rs:List (Res U)} {v:Value}(h:Bj k A B)(hk:KnO rs v k):B:=by
 unfold Bj at h
 split at h
 ·exact hk.elim
 ·exact h
theorem rb {K:Fr→St U→Prop} {Kp:List PanicEntry→Fr→St U→Prop}(Pp:∀f c,tbl.c f=some c→LV U P f c∧bR P f=true):∀(l:List Oper)(fr:Fr)(st0 st:St U)(Xs X:Nat→Nat→Prop)(w:World)(ds:List Deferred),Steps w0 k0 X0 may st0 Xs st X w→aC st.rs fr st.kn→fr.ds=ds→D0 U P tbl may k0 n N ops K Kp l fr st→
 Gv (fun fr o w K=>opW P true (some fun ch w'=>Aft w0 k0 X0 may st0 Xs ds (Kp ch) fr w') o (ev fr) w K) n N ops (Aft w0 k0 X0 may st0 Xs ds K) l fr w
 | [],fr,st0,st,Xs,X,w,ds,hS,hk,hd,h=>⟨st,X,hS,hk,hd,h⟩
 | o::rest,fr,st0,st,Xs,X,w,ds,hS,hk,hd,h=>by
  refine lz h (fun fr' hl Qe h=>?_) (fun fr' hl Qe h=>?_)
  ·have Rr:=hk.same hl
   refine rU (Dk (Dm Pp hS.inv Rr h) ?_) fun v w' hp=>?_
   ·rintro ch w' ⟨v,st',X',M,rfl,h1,h3⟩
    exact⟨st',X',hS.trans h3.steps,h3.kn,by rw [Qe,hd],h1⟩
   ·obtain⟨k,st',X',M,h1,h2,h3⟩:=hp
    refine iV (jU (GV h1 h2) h3.kn h2) fun Pb hp=>?_
    obtain⟨Px,e1,e2,h4,h5,h6⟩:=hp
    exact rb Pp rest Pb st0 Px Xs X' w' ds ((hS.trans h3.steps).kn e1 e2) (by rw [e1];exact h4) (by rw [h5,Qe,hd]) h6
  ·have Rr:=hk.same hl
   refine iV (jU h Rr trivial) fun Pb hp=>?_
   obtain⟨Px,e1,e2,h4,h5,h6⟩:=hp
   exact rb Pp rest Pb st0 Px Xs X w ds (hS.kn e1 e2) (by rw [e1];exact h4) (by rw [h5,Qe,hd]) h6
theorem Inv.drew(h:Inv w0 k0 X0 may st.rs X w):Inv w0 k0 X0 may st.rs X w.drew:=h.pu (Pu.aI w)
structure BOk(V:List Nat)(rd:List (Nat×List Nat))(b:Nat→Nat→Prop)(rs:List (Res U))(X:Nat→Nat→Prop)(w:World):Prop where
 has:∀i id k,id∈pH i rd→id<rs.length→X id k→b i k
 all:∀i k,i∈V→b i k
 only:∀i k,i ∉ V→b i k→k<w.heap.size∧∀j,j<rs.length→X j k→j∈pH i rd
end
end
end Go.Proofs.YtinhphjfnedhgaaGreatDoor.V
namespace Go.Proofs.YtinhphjfnedhgaaGreatDoor.V
open Go Go.RowKit
open Go.IntKind (i64 u32 u64)
section
section
variable {U:Uni} {P:Program} {tbl:Tb U} {may:List Nat} {k0:Nat}
variable {w0:World} {X0 X:Nat→Nat→Prop} {w:World} {fr:Fr} {st:St U} {n:Nat} {N:List Nat} {ops:Array Oper}
def MSw(P:Program):L5:=fun B o ρ w F=>∃v,F v∧∀w',Kept (held B w) w w'→(execOp ρ o).run P w'= .ok (.value v) w'
theorem vq {F G:Nat→Prop}:∀ {l:List Nat},BR F l→(∀i,F i→G i)→BR G l
 | [],_,_=>trivial
 | [_],h,hg=>hg _ h
 | _::j::r,h,hg=>⟨hg _ h.1,vq (l:=j::r) h.2 hg⟩
theorem zj {b:Nat→Nat→Prop}:∀ {l:List Nat} {k:Nat},bE b l k→∃i,i∈l∧b i k
 | [i],k,h=>⟨i,by simp,h⟩
 | i::j::r,k,h=>by
  rcases h with h | h
  ·exact⟨i,by simp,h⟩
  ·obtain⟨i',h1,h2⟩:=zj (l:=j::r) h
   exact⟨i',List.mem_cons_of_mem _ h1,h2⟩
theorem Gz {α:Type}(M L:List α):jP ((M++L).length - L.length) (M++L)=M:=by
 rw [fG,List.length_append,Nat.add_sub_cancel,List.take_left]
theorem LG {rs:List (Res U)} {p:PK} {v:Value}(h:den U rs p=some v):p.id<rs.length:=by
 unfold den at h
 cases hn:nth rs p.id with
 | none=>rw [hn]at h;cases p<;>simp [cz]at h
 | some r=>exact aX hn
theorem BOk.step {V:List Nat} {rd:List (Nat×List Nat)} {b:Nat→Nat→Prop}(hb:BOk V rd b st.rs X w) {st':St U} {X':Nat→Nat→Prop} {w':World} {M:List Nat}(hs:eD w0 k0 X0 may fr st X w st' X' w' M):
 BOk V rd (fun i k=>b i k∨∃id,id∈pH i rd∧id<st'.rs.length∧X' id k) st'.rs X' w':=by
 refine⟨fun i id k h1 h2 h3=>.inr ⟨id,h1,h2,h3⟩,fun i k h=>.inl (hb.all i k h),fun i k hi hk=>?_⟩
 rcases hk with hk | ⟨id,h1,h2,h3⟩
 ·obtain⟨h4,h5⟩:=hb.only i k hi hk
  refine⟨Nat.lt_of_lt_of_le h4 hs.ch.size,fun j hj hx=>?_⟩
  by_cases VH:j<st.rs.length
  ·by_cases hm:j∈M
   ·rcases hs.grow j hm k hx with h6 | h6
    ·exact h5 j VH h6
    ·omega
   ·rw [(hs.same j VH hm).2]at hx
    exact h5 j VH hx
  ·have:=hs.new j (Nat.le_of_not_lt VH) hj k hx
   omega
 ·refine⟨hs.inv.sat.lt h2 k h3,fun j hj hx=>?_⟩
  by_cases O5:id=j
  ·rw [← O5];exact h1
  ·exact absurd hx (hs.inv.sat.dis id j h2 hj O5 k h3)
theorem BN {V:List Nat} {rd:List (Nat×List Nat)} {M beh:List Nat}(h:BO V rd M beh=true):∀i,i∈beh→i ∉ V∧∀j,j∈M→j ∉ pH i rd:=by
 intro i hi
 have:=cC.1 h i hi
 simp only [Bool.and_eq_true,Bool.not_eq_true']at this
 refine⟨fun hv=>?_,fun j hj hr=>?_⟩
 ·rw [ft.2 hv]at this;cases this.1
 ·have h2:=cC.1 this.2 j hj
  rw [ft.2 hr]at h2;cases h2
theorem BOk.kept {V:List Nat} {rd:List (Nat×List Nat)} {b:Nat→Nat→Prop}(hb:BOk V rd b st.rs X w) {st':St U} {X':Nat→Nat→Prop} {w':World} {M:List Nat}(hs:eD w0 k0 X0 may fr st X w st' X' w' M) {beh:List Nat}(h:BO V rd M beh=true):Kept (bE b beh) w w':=by
 refine hs.ch.kept.mono fun k hk=>?_
 obtain⟨i,hi,hbi⟩:=zj hk
 obtain⟨h1,h2⟩:=BN h i hi
 obtain⟨h3,h4⟩:=hb.only i k h1 hbi
 exact⟨h3,fun⟨j,hj,hx⟩=>h2 j hj (h4 j (hs.mlt j hj) hx)⟩
theorem Jj {o:Oper} {kn:List (Key×Kn)} {x:Nat}(h:rdX o kn X x):∃t a p,o.op= .load t a∧kf kn a=some (.p p)∧X p.id x:=by
 unfold rdX at h
 cases hop:o.op<;>simp only [hop]at h
 rename_i t a
 cases hk:V.kf kn a with
 | none=>simp only [hk]at h
 | some k=>cases k<;>simp only [hk]at h;exact⟨t,a,_,rfl,hk,h⟩
theorem Gx {all:Bool} {V:List Nat} {rd:List (Nat×List Nat)} {K:Fr→St U→Prop}(Pp:∀f c,tbl.c f=some c→LV U P f c∧bR P f=true):
 ∀(fuel:Nat)(listed:Array Bool)(fr:Fr)(st0 st:St U)(Xs X:Nat→Nat→Prop)(w:World)(ds:List Deferred)(b:Nat→Nat→Prop),(all=false→BOk V rd b st.rs X w)→(all=true→∀i k,b i k)→Steps w0 k0 X0 may st0 Xs st X w→aC st.rs fr st.kn→fr.ds=ds→
  tR U P tbl may k0 n N ops all V rd K fuel listed fr st→
  qj P (fun o ρ w K=>opW P false none o ρ w K) (MSw P) n N ops (Aft w0 k0 X0 may st0 Xs ds K) fuel (some b) listed fr w:=by
 intro fuel
 induction fuel with
 | zero=>
  intro listed fr st0 st Xs X w ds b hb OP hS hk hd h
  simp only [tR]at h
  simp only [qj]
  split at h
  ·rename_i Rp
   try simp only [Rp]
   exact⟨st,X,hS,hk,hd,h⟩
  ·exact h.elim
 | succ fuel ih=>
  intro listed fr st0 st Xs X w ds b hb OP hS hk hd h
  simp only [tR]at h
  simp only [qj]
  split at h
  ·rename_i Rp
   try simp only [Rp]
   exact⟨st,X,hS,hk,hd,h⟩
  ·rename_i i0 r0 Rp
   try simp only [Rp]
   split at h
   ·rename_i i hfa
    try simp only [hfa]
    split at h
    ·rename_i o ho
     try simp only [ho]
     refine lz h (fun fr' hl Qe hq=>?_) (fun fr' hl Qe h=>?_)
     ·have Rr:=hk.same hl
      clear h
      have h:=hq
      clear hq
      cases Oz:Hi o with
      | true=>simp only [Oz]at h
      | false=>
      cases Tj:Lh all V rd i o st.kn with
      | false=>simp only [Oz,Tj]at h
      | true=>
       simp only [Oz,Tj]at h
       obtain⟨v,k,h1,h2,h3⟩:=u7 hS.inv.sat Rr h
       refine⟨v,?_,fun w' hw=>h3 w' (hw.mono fun x hx=>?_)⟩
       ·refine iV (jU h1 Rr h2) fun Pb hp=>?_
        obtain⟨Px,e1,e2,h4,h5,h6⟩:=hp
        exact ih _ Pb st0 Px Xs X w ds b (by rw [e1];exact hb) OP (hS.kn e1 e2) (by rw [e1];exact h4) (by rw [h5,Qe,hd]) h6
       ·show b i x
        obtain⟨t,a,p,hop,hp,hx⟩:=Jj hx
        unfold Lh at Tj
        simp only [hop,hp]at Tj
        by_cases ha:all=true
        ·exact OP ha i x
        have hb:=hb (by simpa using ha)
        split at Tj
        ·rename_i hv
         rcases Bool.or_eq_true_iff.1 hv with hv | hv
         ·exact absurd hv ha
         ·exact hb.all i x (ft.1 hv)
        ·have hpk:=Rr.kf a
         rw [hp]at hpk
         exact hb.has i p.id x (ft.1 Tj) (LG (show den U st.rs p=some _ from hpk)) hx
     ·refine iV (jU h (hk.same hl) trivial) fun Pb hp=>?_
      obtain⟨Px,e1,e2,h4,h5,h6⟩:=hp
      exact ih _ Pb st0 Px Xs X w ds b (by rw [e1];exact hb) OP (hS.kn e1 e2) (by rw [e1];exact h4) (by rw [h5,Qe,hd]) h6
    ·exact h.elim
   ·split at h
    ·exact h.elim
    ·rename_i X6 _
     try simp only [X6]
     refine vq h fun i h=>?_
     split at h
     ·rename_i o ho
      try simp only [ho]
      refine lz h (fun fr' hl Qe h=>?_) (fun fr' hl Qe h=>?_)
      ·have Rr:=hk.same hl
       refine rU (G0 (Dm Pp hS.inv Rr h) fun ch w' ⟨_,_,_,_,_,h,_⟩=>h.elim) fun v w' hp=>?_
       obtain⟨k,st',X',M,h1,h2,h3⟩:=hp
       have h1:=Dh h1
       split at h1
       ·rename_i hap
        rw [h3.md,Gz]at hap
        refine iV (jU h1 h3.kn h2) fun Pb hp=>?_
        obtain⟨Px,e1,e2,h4,h5,h6⟩:=hp
        have hb:=hb rfl
        have Qf:=hb.step h3
        have Wo:=ih (listed.setIfInBounds i true) Pb st0 Px Xs X' w' ds _ (fun _=>by rw [e1];exact Qf) (fun ha=>by cases ha) ((hS.trans h3.steps).kn e1 e2) (by rw [e1];exact h4) (by rw [h5,Qe,hd]) h6
        unfold Dq
        simp only
        split
        ·exact⟨_,fun i k hik=>.inl hik,Wo⟩
        ·exact⟨hb.kept h3 hap,_,fun i k hik=>.inl hik,Wo⟩
       ·exact h1.elim
      ·refine iV (jU h (hk.same hl) trivial) fun Pb hp=>?_
       obtain⟨Px,e1,e2,h4,h5,h6⟩:=hp
       exact ih _ Pb st0 Px Xs X w ds b (by rw [e1];exact hb) OP (hS.kn e1 e2) (by rw [e1];exact h4) (by rw [h5,Qe,hd]) h6
     ·exact h.elim
variable (U P tbl may k0 w0 X0 n)in
def sC(c:Code)(V:QF2 U→Fr→St U→Prop):Prop:=
 ∀(Q:QF2 U)(fr:Fr)(st:St U)(X:Nat→Nat→Prop)(a:Act)(w:World),Rep n fr a→Inv w0 k0 X0 may st.rs X w→aC st.rs fr st.kn→V Q fr st→
  c.wpIn (WF none) 0 P (mI n (writes c) a fun x fr' w'=>Aft w0 k0 X0 may st X fr.ds (fun fr' st'=>Q x fr' st') fr' w') a w
theorem Real.two {ws:List Nat} {a0:Act} {Q:QF} {e:Exit} {a':Act} {w':World}(h:Real n ws a0 none Q e a' w'):mI n ws a0 Q e a' w':=by
 cases e<;>first | exact h | exact h.1.elim
theorem mI.mono {ws ws':List Nat} {a0:Act} {Q Q':QF} {e:Exit} {a':Act} {w':World}(h:mI n ws a0 Q e a' w')(hw:∀i,i∈ws→i∈ws')(hQ:∀x fr w,Q x fr w→Q' x fr w):mI n ws' a0 Q' e a' w':=by
 cases e<;>first | exact h | (obtain⟨fr,h1,h2,h3⟩:=h;exact⟨fr,h1,hQ _ _ _ h2,h3.mono hw⟩)
theorem Aft.mono {ds:List Deferred} {K K':Fr→St U→Prop} {fr':Fr} {w':World}(h:Aft w0 k0 X0 may st X ds K fr' w')(hK:∀fr st,K fr st→K' fr st):Aft w0 k0 X0 may st X ds K' fr' w':=by
 obtain⟨st',X',h1,h2,h3,h4⟩:=h
 exact⟨st',X',h1,h2,h3,hK _ _ h4⟩
theorem Aft.pre {Sd:St U} {X1:Nat→Nat→Prop} {w1:World} {ds:List Deferred} {K:Fr→St U→Prop} {fr':Fr} {w':World}(hs:Steps w0 k0 X0 may st X Sd X1 w1)(h:Aft w0 k0 X0 may Sd X1 ds K fr' w'):Aft w0 k0 X0 may st X ds K fr' w':=by
 obtain⟨st',X',h1,h2,h3,h4⟩:=h
 exact⟨st',X',hs.trans h1,h2,h3,h4⟩
theorem tT {id:Nat} {Q:QF2 U} {a:Act}(Pp:∀f c,tbl.c f=some c→LV U P f c∧bR P f=true)(hr:Rep n fr a)(hI:Inv w0 k0 X0 may st.rs X w)(hk:aC st.rs fr st.kn)(h:D0 U P tbl may k0 n N ops (Q .normal) (fun ch=>Q (.panic ch)) ops.toList fr st):
 (Code.region id ops false).wpIn (WF none) 0 P (mI n (writes (.region id ops false)) a fun x fr' w'=>Aft w0 k0 X0 may st X fr.ds (fun fr' st'=>Q x fr' st') fr' w') a w:=by
 have hv:=rb (n:=n) (N:=N) (ops:=ops) Pp ops.toList fr st st X X w fr.ds (Steps.refl hI) hk rfl h
 exact wpIn_mono (wpIn_region_list (mO (ws:=writes (.region id ops false)) (a0:=a) ops.toList (fun o ho d hd=>List.mem_filterMap.2 ⟨o,ho,hd⟩) fr a w hr (Agr.refl _ _) hv)) fun e a' w' he=>by
  cases e<;>first | exact he | (obtain⟨_,_,h,_⟩:=he;exact h.elim)
theorem wg {id:Nat} {Q:QF2 U} {a:Act} {V:List Nat} {rd:List (Nat×List Nat)}(Pp:∀f c,tbl.c f=some c→LV U P f c∧bR P f=true)(hm:P.follows .mixedOrders=true)(hs:Region.noSelect ops=true)(QE:eJ ops.toList=true)(hr:Rep n fr a)(hI:Inv w0 k0 X0 may st.rs X w)(hk:aC st.rs fr st.kn) {all:Bool}
 (h:tR U P tbl may k0 n N ops all V rd (Q .normal) ops.size (Array.replicate ops.size false) fr st):
 (Code.region id ops true).wpIn (WF none) 0 P (mI n (writes (.region id ops true)) a fun x fr' w'=>Aft w0 k0 X0 may st X fr.ds (fun fr' st'=>Q x fr' st') fr' w') a w:=by
 have hI':=Inv.drew hI
 have hS:Steps w0 k0 X0 may st X st X w.drew:=Steps.refl hI'
 have hv:=Gx (n:=n) (N:=N) (ops:=ops) Pp ops.size (Array.replicate ops.size false) fr st st X X w.drew fr.ds (fun i k=>i∈V∨all=true∨∃id,id∈pH i rd∧id<st.rs.length∧X id k) (fun ha=>⟨fun i id k h1 h2 h3=>.inr (.inr ⟨id,h1,h2,h3⟩),fun i k h=>.inl h,fun i k hi hk=>by
  rcases hk with hk | hk | ⟨id,h1,h2,h3⟩
  ·exact absurd hk hi
  ·rw [ha]at hk;cases hk
  ·refine⟨hI'.sat.lt h2 k h3,fun j hj hx=>?_⟩
   by_cases O5:id=j
   ·rw [← O5];exact h1
   ·exact absurd hx (hI'.sat.dis id j h2 hj O5 k h3)⟩) (fun ha i k=>.inr (.inl ha)) hS hk rfl h
 exact wpIn_mono (jM hm nP (fun o ho=>jc QE o (Array.mem_toList_iff.2 ho)) (rf (ws:=writes (.region id ops true)) (a0:=a) (Qp:=none) (M:=fun o ρ w K=>opW P false none o ρ w K) (MS:=MSw P) (fun _ _ _ _ h=>h) (fun _ _ _ _ _ h=>h) hs (fun i o ho d hd=>r4 ho hd) ops.size _ (fun _ _ _=>True) _ fr a w.drew (iA.none _ _) (mK.none _ _) hr (Agr.refl _ _) hv)) fun e a' w' he=>Real.two (ln he)
end
end
section
section
variable {U:Uni} {P:Program} {tbl:Tb U} {may:List Nat} {k0:Nat}
variable {w0:World} {X0 X:Nat→Nat→Prop} {w:World} {fr:Fr} {st:St U} {n:Nat} {N:List Nat} {ops:Array Oper}
theorem xU {T:Type}:∀ {l:List (Nat×Sh2)} {J:SlT l T} {fr:Fr} {F:T→Prop},K7 l J fr F→∃J' vs,F J'∧(∀G:T→List (Nat×Value)→Prop,alS l J G→G J' vs)∧∀s v,(s,v)∈vs→lk fr.g s fr.e=v
 | [],J,fr,F,h=>⟨J,[],h,fun G hG=>hG,fun s v hv=>by cases hv⟩
 | (s,sh)::r,J,fr,F,h=>by
  obtain⟨J1,h1,g1⟩:=vm h
  obtain⟨J2,vs,h2,g2,e2⟩:=xU h1
  refine⟨J2,(s,lk fr.g s fr.e)::vs,h2,fun G hG=>g2 (fun J'' vs=>G J'' ((s,lk fr.g s fr.e)::vs)) (g1 (fun J' v=>alS r J' fun J'' vs=>G J'' ((s,v)::vs)) hG),fun s' v hv=>?_⟩
  rcases List.mem_cons.1 hv with e | hv
  ·injection e with e1 e2;rw [e1,e2]
  ·exact e2 s' v hv
def dJ(kn:List (Key×Kn))(id:Nat):Nat→List AV→List Value→Prop
 | _,[],[]=>True
 | i,.v x::r,v::vs=>x=v∧dJ kn id (i+1) r vs
 | i,.k p::r,_::vs=>dw (.c id i) kn=some (.p p)∧dJ kn id (i+1) r vs
 | _,_,_=>False
theorem rj {T:Type} {id:Nat} {kn:List (Key×Kn)}:∀ {l:List CS} {J:CST l T} {i:Nat} {vs:List Value} {F:T→Prop},A5 id kn l J i vs F→∃J' az,F J'∧(∀G:T→List AV→Prop,HV l J G→G J' az)∧dJ kn id i az vs∧∀n,jE n l=true→∀p,AV.k p∈az→p.id<n
 | [],J,i,[],F,h=>⟨J,[],h,fun G hG=>hG,trivial,fun _ _ p hp=>by cases hp⟩
 | [],_,_,_::_,_,h=>h.elim
 | .v _::_,_,_,[],_,h=>h.elim
 | .k _::_,_,_,[],_,h=>h.elim
 | .v s::r,J,i,v::vs,F,h=>by
  obtain⟨J1,h1,g1⟩:=oh h
  obtain⟨J2,az,h2,g2,d2,b2⟩:=rj h1
  refine⟨J2,.v v::az,h2,fun G hG=>g2 (fun J'' vs=>G J'' (.v v::vs)) (g1 (fun J' v=>HV r J' fun J'' l=>G J'' (.v v::l)) hG),⟨rfl,d2⟩,fun n hn p hp=>?_⟩
  rcases List.mem_cons.1 hp with e | hp
  ·cases e
  ·exact b2 n hn p hp
 | .k p::r,J,i,v::vs,F,h=>by
  simp only [A5]at h
  split at h
  ·rename_i q hq
   split at h
   ·rename_i he
    obtain⟨J2,az,h2,g2,d2,b2⟩:=rj h
    refine⟨J2,.k p::az,h2,fun G hG=>g2 (fun J'' vs=>G J'' (.k p::vs)) hG,⟨by rw [hq,(Kn.mX he).1],d2⟩,fun n hn p' hp=>?_⟩
    simp only [jE]at hn
    split at hn
    ·rename_i Ow
     rcases List.mem_cons.1 hp with e | hp
     ·injection e with e;subst e;simpa [Nat.blt_eq]using Ow
     ·exact b2 n hn p' hp
    ·cases hn
   ·exact h.elim
  ·exact h.elim
def UpD(rs:List (Res U))(kn:List (Key×Kn))(id:Nat):UP U→Prop
 | .ob t s=>∃r,nth rs id=some (.ob t r s)
 | .blk az=>∃g cs T,nth rs id=some (.blk g cs T)∧dJ kn id 0 az cs
 | .lst t A c l=>∃own T,nth rs id=some (.lst t own T A c l)
theorem ny {T:Type} {rs:List (Res U)} {kn:List (Key×Kn)}:∀ {l:List (Nat×RSh)} {J:zv U l T} {F:T→Prop},qk rs kn l J F→∃J' us,F J'∧(∀G:T→List (Nat×UP U)→Prop,ER l J G→G J' us)∧us.map (·.1)=l.map (·.1)∧(∀id u,(id,u)∈us→UpD rs kn id u)∧
 ∀n,eI n l=true→∀id u,(id,u)∈us→id<n∧∀az,u= .blk az→∀p,AV.k p∈az→p.id<n
 | [],J,F,h=>⟨J,[],h,fun G hG=>hG,rfl,fun id u hu=>(by cases hu),fun _ _ id u hu=>by cases hu⟩
 | (id,.ob t)::r,J,F,h=>by
  simp only [qk]at h
  split at h
  ·rename_i t' r' s hn
   split at h
   ·rename_i ht
    subst ht
    obtain⟨J2,us,h2,g2,m2,d2,b2⟩:=ny h
    refine⟨J2,(id,.ob t' s)::us,h2,fun G hG=>g2 (fun J'' vs=>G J'' ((id,.ob t' s)::vs)) (hG s),by simp [m2],fun i u hu=>?_,fun n hb i u hu=>?_⟩
    ·rcases List.mem_cons.1 hu with e | hu
     ·injection e with e1 e2;subst e1;subst e2;exact⟨r',hn⟩
     ·exact d2 i u hu
    ·simp only [eI]at hb
     split at hb
     ·rename_i Ow
      rcases List.mem_cons.1 hu with e | hu
      ·injection e with e1 e2;subst e1;subst e2;exact⟨by simpa [Nat.blt_eq]using Ow,fun az e=>by cases e⟩
      ·exact b2 n hb i u hu
     ·cases hb
   ·exact h.elim
  ·exact h.elim
 | (id,.blk l)::r,J,F,h=>by
  simp only [qk]at h
  split at h
  ·rename_i g cs T' hn
   obtain⟨J1,az,h1,g1,d1,b1⟩:=rj h
   obtain⟨J2,us,h2,g2,m2,d2,b2⟩:=ny h1
   refine⟨J2,(id,.blk az)::us,h2,fun G hG=>g2 (fun J'' vs=>G J'' ((id,.blk az)::vs)) (g1 (fun J' cs=>ER r J' fun J'' us=>G J'' ((id,.blk cs)::us)) hG),by simp [m2],fun i u hu=>?_,fun n hb i u hu=>?_⟩
   ·rcases List.mem_cons.1 hu with e | hu
    ·injection e with e1 e2;subst e1;subst e2;exact⟨g,cs,T',hn,d1⟩
    ·exact d2 i u hu
   ·simp only [eI]at hb
    split at hb
    ·rename_i Ow
     simp only [Bool.and_eq_true]at Ow
     rcases List.mem_cons.1 hu with e | hu
     ·injection e with e1 e2;subst e1;subst e2
      exact⟨by simpa [Nat.blt_eq]using Ow.1,fun as' e p hp=>by injection e with e;subst e;exact b1 n Ow.2 p hp⟩
     ·exact b2 n hb i u hu
    ·cases hb
  ·exact h.elim
 | (id,.lst t)::r,J,F,h=>by
  simp only [qk]at h
  split at h
  ·rename_i t' own T' A c l hn
   split at h
   ·rename_i ht
    subst ht
    obtain⟨J2,us,h2,g2,m2,d2,b2⟩:=ny h
    refine⟨J2,(id,.lst t' A c l)::us,h2,fun G hG=>g2 (fun J'' vs=>G J'' ((id,.lst t' A c l)::vs)) (hG A c l),by simp [m2],fun i u hu=>?_,fun n hb i u hu=>?_⟩
    ·rcases List.mem_cons.1 hu with e | hu
     ·injection e with e1 e2;subst e1;subst e2;exact⟨own,T',hn⟩
     ·exact d2 i u hu
    ·simp only [eI]at hb
     split at hb
     ·rename_i Ow
      rcases List.mem_cons.1 hu with e | hu
      ·injection e with e1 e2;subst e1;subst e2;exact⟨by simpa [Nat.blt_eq]using Ow,fun az e=>by cases e⟩
      ·exact b2 n hb i u hu
     ·cases hb
   ·exact h.elim
  ·exact h.elim
theorem wu {f:Nat→Res U→Option (Res U)}:∀ {i:Nat} {l l':List (Res U)},lay f i l=some l'→l'.length=l.length∧∀j r,nth l j=some r→∃r',f (i+j) r=some r'∧nth l' j=some r'
 | i,[],l',h=>by
  simp only [lay,Option.some.injEq]at h
  subst h
  exact⟨rfl,fun j r hr=>by simp [nth]at hr⟩
 | i,r::l,l',h=>by
  simp only [lay]at h
  split at h
  ·rename_i r' l2 h1 h2
   injection h with h
   subst h
   obtain⟨e1,e2⟩:=wu h2
   refine⟨by simp [e1],fun j x hx=>?_⟩
   cases j with
   | zero=>simp [nth]at hx;subst hx;exact⟨r',h1,rfl⟩
   | succ j=>
    obtain⟨y,h3,h4⟩:=e2 j x hx
    exact⟨y,by rw [show i+(j+1)=i+1+j by omega];exact h3,h4⟩
  ·cases h
theorem jO {i:Nat} {u:UP U}:∀ {us:List (Nat×UP U)},kY i us=some u→(i,u)∈us
 | [],h=>by cases h
 | (j,x)::r,h=>by
  unfold kY at h
  split at h
  ·rename_i he
   injection h with h
   rw [← h,Nat.eq_of_beq_eq_true he]
   exact List.mem_cons_self ..
  ·exact List.mem_cons_of_mem _ (jO h)
theorem rl {i:Nat}:∀ {us:List (Nat×UP U)},kY i us=none→i ∉ us.map (·.1)
 | [],_=>by simp
 | (j,x)::r,h=>by
  unfold kY at h
  split at h
  ·cases h
  ·rename_i he
   rw [List.map_cons,List.mem_cons,not_or]
   exact⟨by rintro rfl;simp at he,rl h⟩
theorem oV {kn:List (Key×Kn)} {s:Nat} {k:Kn}:∀ {l:List (Nat×Kn)},Dt kn l=true→(s,k)∈l→∃p,k= .p p∧dw (.s s) kn=some (.p p)
 | [],_,h=>by cases h
 | (a,q)::r,h,hm=>by
  simp only [Dt]at h
  split at h
  ·rename_i x hx
   split at h
   ·rename_i he
    rcases List.mem_cons.1 hm with e | hm
    ·injection e with e1 e2
     subst e1;subst e2
     obtain⟨e3,p,e4⟩:=Kn.mX he
     exact⟨p,by rw [← e3,e4],by rw [hx,e4]⟩
    ·exact oV h hm
   ·cases h
  ·cases h
theorem kD {m:Nat} {s:Nat} {p:PK}:∀ {l:List (Nat×Kn)},nX m l=true→(s,Kn.p p)∈l→p.id<m
 | [],_,h=>by cases h
 | (a,.p q)::r,h,hm=>by
  simp only [nX]at h
  split at h
  ·rename_i Ow
   rcases List.mem_cons.1 hm with e | hm
   ·injection e with e1 e2;injection e2 with e2;subst e2;simpa [Nat.blt_eq]using Ow
   ·exact kD h hm
  ·cases h
 | (a,.t _)::r,h,_=>by cases h
 | (a,.ag _)::r,h,_=>by cases h
 | (a,.f _ _)::r,h,_=>by cases h
theorem rp {key:Key} {k:Kn}:∀ {l:List (Nat×Kn)},(key,k)∈Bc l→∃s,key= .s s∧(s,k)∈l
 | [],h=>by cases h
 | (s,q)::r,h=>by
  rcases List.mem_cons.1 h with e | h
  ·injection e with e1 e2;subst e1;subst e2;exact⟨s,rfl,List.mem_cons_self ..⟩
  ·obtain⟨s',h1,h2⟩:=rp (l:=r) h;exact⟨s',h1,List.mem_cons_of_mem _ h2⟩
theorem gB {rs:List (Res U)} {s:Nat} {v:Value}:∀ {l:List (Nat×Kn)},(s,v)∈ly rs l→∃p,(s,Kn.p p)∈l∧v=(den U rs p).getD undef
 | [],h=>by cases h
 | (a,.p q)::r,h=>by
  rcases List.mem_cons.1 h with e | h
  ·injection e with e1 e2;subst e1;subst e2;exact⟨q,List.mem_cons_self ..,rfl⟩
  ·obtain⟨p,h1,h2⟩:=gB (l:=r) h;exact⟨p,List.mem_cons_of_mem _ h1,h2⟩
 | (a,.t _)::r,h=>by obtain⟨p,h1,h2⟩:=gB (l:=r) h;exact⟨p,List.mem_cons_of_mem _ h1,h2⟩
 | (a,.ag _)::r,h=>by obtain⟨p,h1,h2⟩:=gB (l:=r) h;exact⟨p,List.mem_cons_of_mem _ h1,h2⟩
 | (a,.f _ _)::r,h=>by obtain⟨p,h1,h2⟩:=gB (l:=r) h;exact⟨p,List.mem_cons_of_mem _ h1,h2⟩
 | (a,.pan)::r,h=>by obtain⟨p,h1,h2⟩:=gB (l:=r) h;exact⟨p,List.mem_cons_of_mem _ h1,h2⟩
theorem dJ.K6 {kn:List (Key×Kn)} {id:Nat} {V:PK→Value}:∀ {i:Nat} {az:List AV} {vs:List Value},dJ kn id i az vs→(∀j p v,nth az j=some (.k p)→nth vs j=some v→V p=v)→aN (fun a=>match a with | .v x=>x | .k p=>V p) az=vs
 | _,[],[],_,_=>rfl
 | _,[],_::_,h,_=>by simp [dJ]at h
 | _,_::_,[],h,_=>by rename_i a l;cases a<;>simp [dJ]at h
 | i,.v x::r,v::vs,h,hv=>by
  simp only [dJ]at h
  simp only [aN,h.1]
  rw [dJ.K6 h.2 fun j p v h1 h2=>hv (j+1) p v h1 h2]
 | i,.k p::r,v::vs,h,hv=>by
  simp only [dJ]at h
  simp only [aN]
  rw [hv 0 p v rfl rfl,dJ.K6 h.2 fun j p v h1 h2=>hv (j+1) p v h1 h2]
theorem dJ.kn {kn:List (Key×Kn)} {id:Nat}:∀ {i j:Nat} {az:List AV} {vs:List Value} {p:PK},dJ kn id i az vs→nth az j=some (.k p)→dw (.c id (i+j)) kn=some (.p p)
 | _,_,[],_,_,_,h=>by simp [nth]at h
 | i,0,.v _::_,_::_,_,_,h=>by simp [nth]at h
 | i,0,.k p::r,v::vs,p',hd,h=>by
  simp only [dJ]at hd
  simp only [nth,Option.some.injEq,AV.k.injEq]at h
  subst h
  exact hd.1
 | i,j+1,.v _::r,_::vs,p,hd,h=>by
  simp only [dJ]at hd
  have:=dJ.kn hd.2 (show nth r j=some (.k p)from h)
  rwa [show i+1+j=i+(j+1)by omega]at this
 | i,j+1,.k _::r,_::vs,p,hd,h=>by
  simp only [dJ]at hd
  have:=dJ.kn hd.2 (show nth r j=some (.k p)from h)
  rwa [show i+1+j=i+(j+1)by omega]at this
 | _,_,.v _::_,[],_,hd,_=>by simp [dJ]at hd
 | _,_,.k _::_,[],_,hd,_=>by simp [dJ]at hd
theorem m7 {id:Nat} {key:Key} {k:Kn}:∀ {i:Nat} {l:List CS},(key,k)∈wL id i l→∃j p,key= .c id (i+j)∧k= .p p∧nth l j=some (.k p)
 | _,[],h=>by cases h
 | i,.v _::r,h=>by
  obtain⟨j,p,h1,h2,h3⟩:=m7 (l:=r) h
  exact⟨j+1,p,by rw [h1];congr 1;omega,h2,h3⟩
 | i,.k q::r,h=>by
  rcases List.mem_cons.1 h with e | h
  ·injection e with e1 e2;exact⟨0,q,e1,e2,rfl⟩
  ·obtain⟨j,p,h1,h2,h3⟩:=m7 (l:=r) h
   exact⟨j+1,p,by rw [h1];congr 1;omega,h2,h3⟩
theorem mm {key:Key} {k:Kn}:∀ {l:List (Nat×RSh)},(key,k)∈C7 l→∃id cs j p,(id,RSh.blk cs)∈l∧key= .c id j∧k= .p p∧nth cs j=some (.k p)
 | [],h=>by cases h
 | (id,.blk cs)::r,h=>by
  rcases List.mem_append.1 h with h | h
  ·obtain⟨j,p,h1,h2,h3⟩:=m7 h
   exact⟨id,cs,j,p,List.mem_cons_self ..,by simpa using h1,h2,h3⟩
  ·obtain⟨a,b,c,d,h1,h2⟩:=mm (l:=r) h;exact⟨a,b,c,d,List.mem_cons_of_mem _ h1,h2⟩
 | (id,.ob _)::r,h=>by obtain⟨a,b,c,d,h1,h2⟩:=mm (l:=r) h;exact⟨a,b,c,d,List.mem_cons_of_mem _ h1,h2⟩
 | (id,.lst _)::r,h=>by obtain⟨a,b,c,d,h1,h2⟩:=mm (l:=r) h;exact⟨a,b,c,d,List.mem_cons_of_mem _ h1,h2⟩
theorem vX {T:Type} {id:Nat} {kn:List (Key×Kn)}:∀ {l:List CS} {J:CST l T} {i:Nat} {vs:List Value} {F:T→Prop},A5 id kn l J i vs F→(∃J',F J')∧∀j p,nth l j=some (.k p)→dw (.c id (i+j)) kn=some (.p p)
 | [],J,i,[],F,h=>⟨⟨J,h⟩,fun j p hp=>by simp [nth]at hp⟩
 | [],_,_,_::_,_,h=>h.elim
 | .v _::_,_,_,[],_,h=>h.elim
 | .k _::_,_,_,[],_,h=>h.elim
 | .v s::r,J,i,v::vs,F,h=>by
  obtain⟨J1,h1,_⟩:=oh h
  obtain⟨h2,h3⟩:=vX h1
  refine⟨h2,fun j p hp=>?_⟩
  cases j with
  | zero=>simp [nth]at hp
  | succ j=>have:=h3 j p hp;rwa [show i+1+j=i+(j+1)by omega]at this
 | .k q::r,J,i,v::vs,F,h=>by
  simp only [A5]at h
  split at h
  ·rename_i x hx
   split at h
   ·rename_i he
    obtain⟨h2,h3⟩:=vX h
    refine⟨h2,fun j p hp=>?_⟩
    cases j with
    | zero=>simp only [nth,Option.some.injEq,CS.k.injEq]at hp;subst hp;rw [Nat.add_zero,hx,(Kn.mX he).1]
    | succ j=>have:=h3 j p hp;rwa [show i+1+j=i+(j+1)by omega]at this
   ·exact h.elim
  ·exact h.elim
theorem qB {T:Type} {rs:List (Res U)} {kn:List (Key×Kn)}:∀ {l:List (Nat×RSh)} {J:zv U l T} {F:T→Prop},qk rs kn l J F→∀id cs,(id,RSh.blk cs)∈l→∀j p,nth cs j=some (.k p)→dw (.c id j) kn=some (.p p)
 | [],_,_,_,_,_,h=>by cases h
 | (id,.ob t)::r,J,F,h,i,cs,hm=>by
  simp only [qk]at h
  split at h
  ·split at h
   ·exact qB h i cs ((List.mem_cons.1 hm).resolve_left fun e=>by cases e)
   ·exact h.elim
  ·exact h.elim
 | (id,.lst t)::r,J,F,h,i,cs,hm=>by
  simp only [qk]at h
  split at h
  ·split at h
   ·exact qB h i cs ((List.mem_cons.1 hm).resolve_left fun e=>by cases e)
   ·exact h.elim
  ·exact h.elim
 | (id,.blk l)::r,J,F,h,i,cs,hm=>by
  simp only [qk]at h
  split at h
  ·obtain⟨⟨J',h1⟩,h2⟩:=vX h
   intro j p hp
   rcases List.mem_cons.1 hm with e | hm
   ·injection e with e1 e2
    injection e2 with e2
    subst e1;subst e2
    have:=h2 j p hp
    rwa [Nat.zero_add]at this
   ·exact qB h1 i cs hm j p hp
  ·exact h.elim
theorem dI.JX {x:Res U} {g:Nat} {cs:List Value} {T:TypeId}(h:dI x (.blk g cs T)):∃XD,x= .blk g XD T∧XD.length=cs.length:=by
 cases h
 rename_i c hc
 exact⟨c,rfl,hc⟩
theorem yZ {ct:AR} {J:JT2 U ct} {stb st':St U} {fr fr':Fr} {a a':Act} {w':World} {X X':Nat→Nat→Prop} {ws:List Nat}(hr:Rep n fr a)(Oh:Rep n fr' a')(OM:Agr ws a a')(OZ:sj ct.wr2 ws=true)
 (hkb:aC stb.rs fr stb.kn)(Rr:aC st'.rs fr' st'.kn)(hI:Inv w0 k0 X0 may st'.rs X' w')(hlen:stb.rs.length≤st'.rs.length)(hmd:∀i,i<stb.rs.length→i ∉ st'.md→i ∉ aN (·.1) ct.rsh→nth st'.rs i=nth stb.rs i∧X' i=X i)(PA:∀i a,nth stb.rs i=some a→∃b,nth st'.rs i=some b∧dI a b)(hk0:k0≤stb.rs.length)
 (hu:oG ct stb.rs.length J fr' st') {F:List (Nat×Value)→St U→Prop}(OP:BS ct J stb fr.e F):
 ∃e Px,F e Px∧Rep n ⟨e,fun i=>a'.tmps.getD i undef,fr.ds⟩ a'∧Inv w0 k0 X0 may Px.rs X' w'∧aC Px.rs ⟨e,fun i=>a'.tmps.getD i undef,fr.ds⟩ Px.kn∧Px.md= []∧Px.rs.length=stb.rs.length∧(∀i,i<stb.rs.length→i ∉ aN (·.1) ct.rsh→nth Px.rs i=nth stb.rs i∧X' i=X i)∧∀i a,nth stb.rs i=some a→∃b,nth Px.rs i=some b∧dI a b:=by
 unfold oG at hu
 split at hu
 case h_2=>exact hu.elim
 rename_i PG
 simp only [Bool.and_eq_true]at PG
 obtain⟨ab8,ab3,abM,ab9⟩:=PG
 obtain⟨J1,vs,h1,g1,e1⟩:=xU hu
 have S7:=qB h1
 obtain⟨p,us,hp,g2,m2,d2,b2⟩:=ny h1
 have OP:=g2 _ (g1 _ OP) hp
 split at OP
 case h_2=>exact OP.elim
 rename_i Te Qi
 split at OP
 case h_2=>exact OP.elim
 rename_i OK Rj
 obtain⟨l1,f1⟩:=wu Qi
 obtain⟨l2,f2⟩:=wu Rj
 have acg:aN (·.1) ct.rsh=us.map (·.1):=by rw [gY,m2]
 have r1:∀i x,nth stb.rs i=some x→∃y z,nth Te i=some y∧nth st'.rs i=some z∧((∀az,kY i us≠some (.blk az))→y=z)∧((∃az,kY i us=some (.blk az))→y=x):=by
  intro i x hx
  obtain⟨y,hy,hy1⟩:=f1 i x hx
  rw [Nat.zero_add]at hy
  obtain⟨z,hz,Wc⟩:=PA i x hx
  refine⟨y,z,hy1,hz,?_,?_⟩
  ·intro hnb
   unfold Lw at hy
   cases hg:kY i us with
   | none=>
    rw [hg]at hy
    simp only [Option.some.injEq]at hy
    subst hy
    have W7:=rl hg
    have:i ∉ st'.md:=fun hm=>by
     have:=cC.1 ab3 i hm
     rw [acg]at this
     rcases Bool.or_eq_true_iff.1 this with h | h
     ·have:=Nat.le_of_ble_eq_true h;have:=aX hx;omega
     ·exact W7 (ft.1 h)
    have h2:=(hmd i (aX hx) this (by rw [acg];exact W7)).1
    rw [hz,hx]at h2
    injection h2 with h2
    exact h2.symm
   | some u=>
    rw [hg]at hy
    have hd:=d2 i u (jO hg)
    cases u with
    | ob t s=>
     obtain⟨r,hr⟩:=hd
     rw [hz]at hr
     injection hr with hr
     subst hr
     have h2:dz x (.ob t s)=some y:=hy
     cases Wc
     simp only [dz,dif_pos]at h2
     injection h2 with h2
     exact h2.symm
    | blk az=>exact absurd hg (hnb az)
    | lst t A c l=>
     obtain⟨own,T,hr⟩:=hd
     rw [hz]at hr
     injection hr with hr
     subst hr
     have h2:dz x (.lst t A c l)=some y:=hy
     cases Wc
     simp only [dz,dif_pos]at h2
     injection h2 with h2
     exact h2.symm
  ·rintro⟨az,hg⟩
   unfold Lw at hy
   rw [hg]at hy
   simp only [Option.some.injEq]at hy
   exact hy.symm
 have Ps:∀q:PK,q.id<stb.rs.length→den U Te q=den U st'.rs q:=by
  intro q hq
  obtain⟨x,hx⟩:=cf hq
  obtain⟨y,z,hy,hz,ha,hb⟩:=r1 _ x hx
  unfold den
  rw [hy,hz]
  cases hg:kY q.id us with
  | none=>rw [ha (fun az e=>by rw [hg]at e;cases e)]
  | some u=>
   cases u with
   | ob t s=>rw [ha (fun az e=>by rw [hg]at e;cases e)]
   | lst t A c l=>rw [ha (fun az e=>by rw [hg]at e;cases e)]
   | blk az=>
    have hyx:=hb ⟨az,hg⟩
    subst hyx
    obtain⟨z',RY,Wc⟩:=PA _ _ hx
    rw [hz]at RY
    injection RY with RY
    subst RY
    obtain⟨g,cs,T,hc,_⟩:=d2 _ _ (jO hg)
    rw [hz]at hc
    injection hc with hc
    subst hc
    cases Wc
    cases q<;>rfl
 have r2:∀i,i<stb.rs.length→nth OK i=nth st'.rs i:=by
  intro i hi
  obtain⟨x,hx⟩:=cf hi
  obtain⟨y,z,hy,hz,ha,hb⟩:=r1 i x hx
  obtain⟨v,hv,SK⟩:=f2 i y hy
  rw [Nat.zero_add]at hv
  rw [SK,hz]
  unfold MA at hv
  cases hg:kY i us with
  | none=>
   rw [hg]at hv
   simp only [Option.some.injEq]at hv
   rw [← hv,ha (fun az e=>by rw [hg]at e;cases e)]
  | some u=>
   rw [hg]at hv
   cases u with
   | ob t s=>simp only [Option.some.injEq]at hv;rw [← hv,ha (fun az e=>by rw [hg]at e;cases e)]
   | lst t A c l=>simp only [Option.some.injEq]at hv;rw [← hv,ha (fun az e=>by rw [hg]at e;cases e)]
   | blk az=>
    have hyx:=hb ⟨az,hg⟩
    subst hyx
    obtain⟨z',RY,Wc⟩:=PA _ _ hx
    rw [hz]at RY
    injection RY with RY
    subst RY
    obtain⟨g,cs,T,hc,hcd⟩:=d2 _ _ (jO hg)
    rw [hz]at hc
    injection hc with hc
    subst hc
    have Xm:=(b2 _ abM _ _ (jO hg)).2 az rfl
    have Xh:aN (j4 Te) az=cs:=by
     have:=hcd.K6 (V:=fun p=>(den U Te p).getD undef) (fun j p v hj hv=>by
      have hk:=hcd.kn hj
      obtain⟨g',cs',T',u,q1,q2,q3⟩:=Rr.get hk
      rw [hz]at q1
      injection q1 with q1
      injection q1 with _ q1 _
      subst q1
      rw [Nat.zero_add]at q2
      rw [hv]at q2
      injection q2 with q2
      subst q2
      have q3:den U st'.rs p=some v:=q3
      rw [Ps p (Xm p (iJ hj)),q3]
      rfl)
     have e:(fun a=>match a with | .v x=>x | .k p=>(den U Te p).getD undef)=j4 Te:=by funext a;cases a<;>rfl
     rw [e]at this
     exact this
    have hv:dz y (.blk (aN (j4 Te) az))=some v:=hv
    rw [Xh]at hv
    obtain⟨XD,rfl,hle⟩:=Wc.JX
    simp only [dz,hle,Nat.beq_refl]at hv
    exact hv.symm
 have ab4:OK.length=stb.rs.length:=by rw [l2,l1]
 have UR:∀q:PK,q.id<stb.rs.length→den U OK q=den U st'.rs q:=fun q hq=>by unfold den;rw [r2 _ hq]
 obtain⟨QY,Qe⟩:=oZ OZ
 have Rk:∀s v,(s,v)∈vs++ly OK ct.kns→lk fr'.g s fr'.e=v:=by
  intro s v hm
  rcases List.mem_append.1 hm with hm | hm
  ·exact e1 s v hm
  ·obtain⟨q,hq,rfl⟩:=gB hm
   obtain⟨q',XU,hg⟩:=oV ab8 hq
   injection XU with XU
   subst XU
   have:den U st'.rs q=some (lk fr'.g s fr'.e):=Rr.get hg
   rw [UR q (kD ab9 hq),this]
   rfl
 have QB:Rep n ⟨vs++ly OK ct.kns++forget ct.wr2 fr.e,fun i=>a'.tmps.getD i undef,fr.ds⟩ a':=wc hr Oh (OM.mono QY) Qe Rk
 have Xc:∀i,lk (fun i=>a'.tmps.getD i undef) i (vs++ly OK ct.kns++forget ct.wr2 fr.e)=lk fr'.g i fr'.e:=fun i=>by rw [← Oh.get];exact(QB.get i).symm
 have PV:∀i,i<stb.rs.length→i ∉ aN (·.1) ct.rsh→nth OK i=nth stb.rs i∧X' i=X i:=by
  intro i hi W7
  rw [r2 i hi]
  refine hmd i hi (fun hm=>?_) W7
  have:=cC.1 ab3 i hm
  rcases Bool.or_eq_true_iff.1 this with h | h
  ·have:=Nat.le_of_ble_eq_true h;omega
  ·exact W7 (ft.1 h)
 have UL:∀i a,nth stb.rs i=some a→∃b,nth OK i=some b∧dI a b:=by
  intro i x hx
  obtain⟨z,hz,Wc⟩:=PA i x hx
  exact⟨z,by rw [r2 i (aX hx)];exact hz,Wc⟩
 have hIt:Inv w0 k0 X0 may OK X' w':=hI.KJ (by omega) (fun i hi=>r2 i (by omega)) (by omega)
 have OP:=j2 (fun r hr=>by
  obtain⟨i,hi⟩:=rB hr
  exact⟨_,_,hIt.sat.res i r hi⟩) OP
 refine⟨_,_,OP,QB,hIt,?_,rfl,ab4,PV,UL⟩
 refine aC.app ?_ (aC.app ?_ ?_)
 ·intro key k hm
  obtain⟨s,rfl,hs⟩:=rp hm
  obtain⟨q,rfl,hg⟩:=oV ab8 hs
  show den U OK q=some (lk _ s _)
  rw [Xc,UR q (kD ab9 hs)]
  exact Rr.get hg
 ·intro key k hm
  obtain⟨id,cs,j,q,h3,rfl,rfl,h5⟩:=mm hm
  have hg:=S7 id cs h3 j q h5
  obtain⟨g,cs',T,v,q1,q2,q3⟩:=Rr.get hg
  have US:id<stb.rs.length∧q.id<stb.rs.length:=by
   have key:∀(l:List (Nat×RSh)),eI stb.rs.length l=true→(id,RSh.blk cs)∈l→id<stb.rs.length∧jE stb.rs.length cs=true:=by
    intro l
    induction l with
    | nil=>intro _ h;cases h
    | cons x r ih=>
     intro hb hm
     obtain⟨i,x⟩:=x
     cases x with
     | ob t=>
      simp only [eI]at hb
      split at hb
      ·exact ih hb ((List.mem_cons.1 hm).resolve_left fun e=>by cases e)
      ·cases hb
     | lst t=>
      simp only [eI]at hb
      split at hb
      ·exact ih hb ((List.mem_cons.1 hm).resolve_left fun e=>by cases e)
      ·cases hb
     | blk l=>
      simp only [eI]at hb
      split at hb
      ·rename_i Ow
       simp only [Bool.and_eq_true]at Ow
       rcases List.mem_cons.1 hm with e | hm
       ·injection e with e1 e2;injection e2 with e2;subst e1;subst e2
        exact⟨by simpa [Nat.blt_eq]using Ow.1,Ow.2⟩
       ·exact ih hb hm
      ·cases hb
   obtain⟨h6,h7⟩:=key ct.rsh abM h3
   refine⟨h6,?_⟩
   have key2:∀(l:List CS)(j:Nat),jE stb.rs.length l=true→nth l j=some (.k q)→q.id<stb.rs.length:=by
    intro l
    induction l with
    | nil=>intro j _ h;simp [nth]at h
    | cons x r ih=>
     intro j hb hj
     cases x with
     | v s=>
      cases j with
      | zero=>simp [nth]at hj
      | succ j=>exact ih j hb hj
     | k p'=>
      simp only [jE]at hb
      split at hb
      ·rename_i Ow
       cases j with
       | zero=>simp only [nth,Option.some.injEq,CS.k.injEq]at hj;subst hj;simpa [Nat.blt_eq]using Ow
       | succ j=>exact ih j hb hj
      ·cases hb
   exact key2 cs j h7 h5
  exact⟨g,cs',T,v,by rw [r2 id US.1];exact q1,q2,by show den U OK q=_;rw [UR q US.2];exact q3⟩
 ·have S5:=aC.gm (M:=aN (·.1) ct.rsh) hkb (rs':=OK) (fun i hi hm=>(PV i hi hm).1) (fun i _ x hx=>UL i x hx)
  intro key k hm
  obtain⟨Wj,R2⟩:=dH hm
  have h0:=S5 key k Wj
  cases key with
  | s i=>
   have W7:i ∉ ct.wr2:=by
    intro hh
    have R2:(!lx i ct.wr2)=true:=R2
    rw [ft.2 hh]at R2
    cases R2
   show jv OK (lk _ i _) k
   have:lk (fun i=>a'.tmps.getD i undef) i (vs++ly OK ct.kns++forget ct.wr2 fr.e)=lk fr.g i fr.e:=by
    rw [Xc,← Oh.get,← hr.get]
    exact OM.tmps i fun hi=>W7 (QY i hi)
   rw [this]
   exact h0
  | c id off=>exact h0
  | l id path=>exact h0
end
end
section
section
variable {U:Uni} {P:Program} {tbl:Tb U} {may:List Nat} {k0:Nat}
variable {w0:World} {X0 X:Nat→Nat→Prop} {w:World} {fr:Fr} {st:St U} {n:Nat} {N:List Nat} {ops:Array Oper}
theorem Steps.back {Sd:St U} {X':Nat→Nat→Prop} {w':World}(h:Steps w0 k0 X0 may {st with md:= []} X Sd X' w'):Steps w0 k0 X0 may st X (kB U Sd st.md) X' w':=by
 obtain⟨a,b,⟨L,h1,h2,h3⟩,d⟩:=h
 refine⟨a,b,⟨L,?_,h2,h3⟩,d⟩
 show Sd.md++st.md=L++st.md
 rw [h1];simp
theorem kI:∀ {l:List (Key×Nat×TypeId)} {st st':St U} {X:Nat→Nat→Prop},lH fr l st=some st'→Inv w0 k0 X0 may st.rs X w→aC st.rs fr st.kn→∃X',Steps w0 k0 X0 may st X st' X' w∧aC st'.rs fr st'.kn
 | [],st,st',X,h,hI,hk=>by
  simp only [lH,Option.some.injEq]at h
  subst h
  exact⟨X,Steps.refl hI,hk⟩
 | (key,tt,T)::r,st,st',X,h,hI,hk=>by
  simp only [lH]at h
  split at h
  ·rename_i hv
   have QC:RS (fun _=>False) w (.lst tt true T none 0 []:Res U):=⟨Own.nil,fun k hk=>hk.elim⟩
   have QX:nth (st.rs++ [Res.lst tt true T none 0 []]) st.rs.length=some (.lst tt true T none 0 []):=yD
   have hI2:=hI.more (Ch.refl _ _) QC (fun k hk=>hk.elim)
   have OO:=qG hk (Res.lst tt true T none 0 [])
   have hd:den U (st.rs++ [Res.lst tt true T none 0 []]) (.sl st.rs.length 0)=some (.slice none 0 0):=by
    simp only [den,PK.id,QX,cz,jX,List.length_nil]
   have hk3:aC (st.rs++ [Res.lst tt true T none 0 []]) fr ((key,.p (.sl st.rs.length 0))::fl (fun a _=>!(a.eq key)) st.kn):=by
    intro key' k hm
    rcases List.mem_cons.1 hm with e | hm
    ·injection e with e1 e2
     subst e1;subst e2
     cases key' with
     | s i=>
      simp only [C5,Option.some.injEq]at hv
      show den U _ _=some (lk fr.g i fr.e)
      rw [hv];exact hd
     | c id off=>
      simp only [C5]at hv
      split at hv
      ·rename_i g cs T' hn
       exact⟨g,cs,T',_,by rw [bm,if_pos (aX hn)];exact hn,hv,hd⟩
      ·cases hv
     | l id path=>simp only [C5,reduceCtorEq]at hv
    ·exact OO _ _ (dH hm).1
   obtain⟨X',h1,h2⟩:=kI h hI2 hk3
   have hs0:Steps w0 k0 X0 may st X ⟨st.rs++ [Res.lst tt true T none 0 []],(key,.p (.sl st.rs.length 0))::fl (fun a _=>!(a.eq key)) st.kn,st.md⟩ (vY X st.rs.length fun _=>False) w:=⟨hI2,by simp,⟨[],rfl,fun i hi=>(by cases hi),fun i hi _=>⟨by show nth (st.rs++_) i=_;rw [bm,if_pos hi],nA _ _ (by omega)⟩⟩,fun i a ha=>⟨a,by show nth (st.rs++_) i=_;rw [bm,if_pos (aX ha)];exact ha,dI.refl a⟩⟩
   exact⟨X',hs0.trans h1,h2⟩
  ·cases h
theorem K3 {c:Code} {Q:QF2 U} {a:Act} {st':St U} {X':Nat→Nat→Prop} {ws:List Nat}(hS:Steps w0 k0 X0 may st X st' X' w)(h:c.wpIn (WF none) 0 P (mI n ws a fun x Pb w2=>Aft w0 k0 X0 may st' X' fr.ds (fun fr' st'=>Q x fr' st') Pb w2) a w):
 c.wpIn (WF none) 0 P (mI n ws a fun x Pb w2=>Aft w0 k0 X0 may st X fr.ds (fun fr' st'=>Q x fr' st') Pb w2) a w:=by
 refine wpIn_mono h fun x a' w' he=>?_
 cases x
 case outgrown=>exact he
 all_goals
  obtain⟨fr',Oh,hq,OM⟩:=he
  exact⟨fr',Oh,hq.pre hS,OM⟩
theorem ES {c:Code} {an:An} {V:QF2 U→Fr→St U→Prop}(h:sC U P may k0 w0 X0 n c V):sC U P may k0 w0 X0 n c fun Q fr st=>qY U an Q fr st fun Q st=>V Q fr st:=by
 intro Q fr st X a w hr hI hk hv
 simp only [qY]at hv
 split at hv
 ·rename_i st' PZ
  obtain⟨X',h1,h2⟩:=kI PZ hI hk
  refine wpIn_mono (h Q fr st' X' a w hr h1.inv h2 hv) fun x a' w' he=>?_
  cases x
  case outgrown=>exact he
  all_goals
   obtain⟨fr',Oh,hq,OM⟩:=he
   exact⟨fr',Oh,hq.pre h1,OM⟩
 ·exact hv.elim
theorem gD {c:Code} {an:An} {V:QF2 U→Fr→St U→Prop}(h:sC U P may k0 w0 X0 n c V):sC U P may k0 w0 X0 n c fun Q fr st=>iX U may k0 c an Q fr st fun Q st=>V Q fr st:=by
 refine ES (V:=fun Q fr st=>qX U may k0 c an Q fr st fun Q st=>V Q fr st) ?_
 intro Q fr st X a w hr hI hk hv
 simp only [qX]at hv
 split at hv
 ·exact h Q fr st X a w hr hI hk hv
 ·rename_i ct hct
  split at hv
  ·rename_i OZ
   simp only [Bool.and_eq_true]at OZ
   obtain⟨OZ,O6⟩:=OZ
   obtain⟨J,h1,h2⟩:=hv
   have Wo:=h _ fr {st with md:= []} X a w hr hI hk h1
   refine wpIn_mono Wo fun x a' w' he=>?_
   have other:∀fr',(Aft w0 k0 X0 may {st with md:= []} X fr.ds (fun fr' st'=>Q x fr' (kB U st' st.md)) fr' w')→Aft w0 k0 X0 may st X fr.ds (fun fr' st'=>Q x fr' st') fr' w':=by
    rintro fr' ⟨st',X',g1,g2,g3,g4⟩
    exact⟨kB U st' st.md,X',g1.back,g2,g3,g4⟩
   cases x
   case normal=>
    obtain⟨fr',Oh,⟨st',X',g1,g2,g3,g4⟩,OM⟩:=he
    obtain⟨L,hL,cL,hl⟩:=g1.md
    have hL:st'.md=L:=by rw [hL];simp
    obtain⟨e,Px,f1,f2,f3,f4,f5,f6,f7,f8⟩:=yZ (stb:=st) (X:=X) hr Oh OM OZ hk g2 g1.inv g1.len (fun i hi hm _=>hl i hi (by rw [← hL];exact hm)) g1.root hI.len g4 (h2 _)
    refine⟨_,f2,⟨kB U Px (aN (·.1) ct.rsh++st.md),X',⟨f3,by show st.rs.length≤Px.rs.length;omega,⟨aN (·.1) ct.rsh,?_,fun i hi=>g7 (cC.1 O6 i hi),f7⟩,f8⟩,f4,rfl,f1⟩,OM⟩
    show Px.md++(aN (·.1) ct.rsh++st.md)=_
    rw [f5];rfl
   case outgrown=>exact he
   all_goals
    obtain⟨fr',Oh,hq,OM⟩:=he
    exact⟨fr',Oh,other fr' hq,OM⟩
  ·exact hv.elim
theorem dF(Pp:∀f c,tbl.c f=some c→LV U P f c∧bR P f=true)(hm:P.follows .mixedOrders=true):∀(c:Code)(an:An),sC U P may k0 w0 X0 n c (fun Q fr st=>ko U P tbl may k0 n N c an Q fr st)
 | .skip,an=>fun Q fr st X a w hr hI hk hv=>wpIn_skip ⟨fr,hr,⟨st,X,Steps.refl hI,hk,rfl,hv⟩,Agr.refl _ _⟩
 | .region id ops false,an=>gD (c:= .region id ops false) (V:=fun Q fr st=>D0 U P tbl may k0 n N ops (Q .normal) (fun ch=>Q (.panic ch)) ops.toList fr st) fun Q fr st X a w hr hI hk hv=>tT Pp hr hI hk hv
 | .region id ops true,an=>gD (c:= .region id ops true) (V:=fun Q fr st=>match Region.noSelect ops,eJ ops.toList with
  | true,true=>tR U P tbl may k0 n N ops (lG P ops.toList) an.V an.rd (Q .normal) ops.size (Array.replicate ops.size false) fr st
  | _,_=>False) fun Q fr st X a w hr hI hk hv=>by
  dsimp only at hv
  split at hv
  ·rename_i hs QE
   exact wg Pp hm hs QE hr hI hk hv
  ·exact hv.elim
 | .seq x y,an=>gD (c:= .seq x y) (V:=fun Q fr st=>ko U P tbl may k0 n N x an.l (fun e fr' st'=>match e with | .normal=>ko U P tbl may k0 n N y an.r Q fr' st' | e=>Q e fr' st') fr st) fun Q fr st X a w hr hI hk hv=>by
  refine wpIn_seq (wpIn_mono (dF Pp hm x an.l _ fr st X a w hr hI hk hv) fun e a' w' he=>?_)
  cases e
  case normal=>
   obtain⟨fr',Oh,⟨st',X',g1,g2,g3,g4⟩,OM⟩:=he
   refine wpIn_mono (dF Pp hm y an.r Q fr' st' X' a' w' Oh g1.inv g2 g4) fun e a2 w2 he=>?_
   cases e<;>first
    | exact he.elim
    | (obtain⟨Pb,h1,h2,h3⟩:=he
       exact⟨Pb,h1,g3▸h2.pre g1,(OM.mono fun i hi=>List.mem_append_left _ hi).trans (h3.mono fun i hi=>List.mem_append_right _ hi)⟩)
  all_goals first
   | exact he.elim
   | (obtain⟨Pb,h1,h2,h3⟩:=he
      exact⟨Pb,h1,h2,h3.mono fun i hi=>List.mem_append_left _ hi⟩)
 | .cond c x y,an=>gD (c:= .cond c x y) (V:=fun Q fr st=>match ev fr c with
  | .bool b=>split b (ko U P tbl may k0 n N x an.l Q fr st) (ko U P tbl may k0 n N y an.r Q fr st)
  | _=>False) fun Q fr st X a w hr hI hk hv=>by
  dsimp only at hv
  split at hv
  ·rename_i b hb
   rw [← hr.eval]at hb
   rcases fV hv with⟨rfl,SK⟩ | ⟨rfl,SK⟩
   ·exact wpIn_cond_true hb (wpIn_mono (dF Pp hm x an.l Q fr st X a w hr hI hk SK) fun e a' w' he=>he.mono (fun i hi=>List.mem_append_left _ hi) (fun _ _ _ h=>h))
   ·exact wpIn_cond_false hb (wpIn_mono (dF Pp hm y an.r Q fr st X a w hr hI hk SK) fun e a' w' he=>he.mono (fun i hi=>List.mem_append_right _ hi) (fun _ _ _ h=>h))
  ·exact hv.elim
 | .block id c,an=>gD (c:= .block id c) (V:=fun Q fr st=>ko U P tbl may k0 n N c an.l (fun e fr' st'=>match e with
  | .exit id'=>(match Nat.beq id' id with | true=>Q .normal fr' st' | false=>Q (.exit id') fr' st')
  | e=>Q e fr' st') fr st) fun Q fr st X a w hr hI hk hv=>by
  refine wpIn_block (wpIn_mono (dF Pp hm c an.l _ fr st X a w hr hI hk hv) fun e a' w' he=>?_)
  cases e
  case exit id'=>
   obtain⟨fr',Oh,hq,OM⟩:=he
   simp only [Exit.inBlock]
   split
   ·rename_i hi
    subst hi
    exact⟨fr',Oh,hq.mono fun fr st Rf=>(by dsimp only at Rf;rw [Nat.beq_refl]at Rf;exact Rf),OM⟩
   ·rename_i hi
    refine⟨fr',Oh,hq.mono fun fr st Rf=>?_,OM⟩
    dsimp only at Rf
    split at Rf
    ·rename_i hb;exact absurd (Nat.eq_of_beq_eq_true hb) hi
    ·exact Rf
  all_goals exact he
 | .loop c,an=>fun Q fr st00 X00 a w hr aeR ad9 hv=>by
  simp only [ko,qY]at hv
  split at hv
  case h_2=>exact hv.elim
  rename_i st abI
  obtain⟨X,acu,hk⟩:=kI abI aeR ad9
  have hI:=acu.inv
  refine K3 acu ?_
  split at hv
  ·exact hv.elim
  ·rename_i ct hct
   split at hv
   ·rename_i OZ
    simp only [Bool.and_eq_true]at OZ
    obtain⟨OZ,O6⟩:=OZ
    obtain⟨I,⟨m0,h0⟩,QJ⟩:=hv
    refine nu (fun m a' w'=>∃fr' st' X',Rep n fr' a'∧(Inv w0 k0 X0 may st'.rs X' w'∧st.rs.length≤st'.rs.length∧(∀i,i<st.rs.length→i ∉ st'.md→i ∉ aN (·.1) ct.rsh→nth st'.rs i=nth st.rs i∧X' i=X i)∧∀i a,nth st.rs i=some a→∃b,nth st'.rs i=some b∧dI a b)∧aC st'.rs fr' st'.kn∧oG ct st.rs.length (I m) fr' st'∧Agr (writes c) a a') m0 ⟨fr,{st with md:= []},X,hr,⟨hI,Nat.le_refl _,fun _ _ _ _=>⟨rfl,rfl⟩,fun i a ha=>⟨a,ha,dI.refl a⟩⟩,hk,h0,Agr.refl _ _⟩ ?_
    rintro m a1 w1 ⟨UZ,Sd,X1,Si,⟨O2,Ti,hs3,hs4⟩,O4,hu,OM⟩
    obtain⟨e,Px,f1,f2,f3,f4,f5,f6,f7,f8⟩:=yZ (stb:=st) (X:=X) hr Si OM OZ hk O4 O2 Ti hs3 hs4 hI.len hu (QJ m _)
    refine wpIn_mono (dF Pp hm c an.l _ _ Px X1 a1 w1 f2 f3 f4 f1) fun x a' w' he=>?_
    have join:∀ {SC:St U} {X3:Nat→Nat→Prop},Steps w0 k0 X0 may Px X1 SC X3 w'→∃L3,SC.md=L3∧(∀i,i∈L3→i∈may∨k0≤i)∧∀i,i<st.rs.length→i ∉ L3→i ∉ aN (·.1) ct.rsh→nth SC.rs i=nth st.rs i∧X3 i=X i:=by
     intro SC X3 hs3
     obtain⟨L3,hL3,cL3,Wk⟩:=hs3.md
     refine⟨L3,by rw [hL3,f5];simp,cL3,fun i hi hn R1=>?_⟩
     obtain⟨e1,e2⟩:=Wk i (by omega) hn
     obtain⟨e3,e4⟩:=f7 i hi R1
     exact⟨e1.trans e3,e2.trans e4⟩
    have rootj:∀ {SC:St U} {X3:Nat→Nat→Prop},Steps w0 k0 X0 may Px X1 SC X3 w'→∀i a,nth st.rs i=some a→∃b,nth SC.rs i=some b∧dI a b:=by
     intro SC X3 hs3 i x hx
     obtain⟨b,hb,hr⟩:=f8 i x hx
     obtain⟨c',Xj,Oh⟩:=hs3.root i b hb
     exact⟨c',Xj,hr.trans Oh⟩
    have out:∀ {K:Fr→St U→Prop} {fr':Fr},Aft w0 k0 X0 may Px X1 fr.ds (fun fr' st'=>K fr' (kB U st' (aN (·.1) ct.rsh++st.md))) fr' w'→Aft w0 k0 X0 may st X fr.ds K fr' w':=by
     rintro K fr' ⟨SC,X3,g1,g2,g3,g4⟩
     obtain⟨L3,hL3,cL3,Wk⟩:=join g1
     refine⟨kB U SC (aN (·.1) ct.rsh++st.md),X3,⟨g1.inv,?_,⟨L3++aN (·.1) ct.rsh,?_,fun i hi=>(List.mem_append.1 hi).elim (cL3 i) (fun hi=>g7 (cC.1 O6 i hi)),fun i hi hn=>?_⟩,fun i x hx=>rootj g1 i x hx⟩,g2,g3,g4⟩
     ·show st.rs.length≤SC.rs.length
      have:=g1.len;omega
     ·show SC.md++(_++_)=_
      rw [hL3,List.append_assoc]
     ·rw [List.mem_append,not_or]at hn
      exact Wk i hi hn.1 hn.2
    cases x
    case normal=>
     obtain⟨fr',Oh,⟨SC,X3,g1,g2,g3,m',Ow,hu'⟩,Sp⟩:=he
     obtain⟨L3,hL3,_,Wk⟩:=join g1
     exact⟨m',Ow,fr',SC,X3,Oh,⟨g1.inv,by have:=g1.len;omega,fun i hi hn R1=>Wk i hi (by rw [← hL3];exact hn) R1,rootj g1⟩,g2,hu',OM.trans Sp⟩
    case outgrown=>exact he
    all_goals
     obtain⟨fr',Oh,hq,Sp⟩:=he
     exact⟨fr',Oh,out hq,OM.trans Sp⟩
   ·exact hv.elim
 | .exit id,an=>fun Q fr st X a w hr hI hk hv=>wpIn_exit ⟨fr,hr,⟨st,X,Steps.refl hI,hk,rfl,hv⟩,Agr.refl _ _⟩
 | .ret,an=>fun Q fr st X a w hr hI hk hv=>wpIn_ret ⟨fr,hr,⟨st,X,Steps.refl hI,hk,rfl,hv⟩,Agr.refl _ _⟩
 | .scope c,an=>by
  refine gD (c:= .scope c) (V:=fun Q fr st=>ko U P tbl may k0 n N c an.l (fun e fr' st'=>match e with
   | .goto _=>False
   | e=>Q e fr' st') fr st) fun Q fr st X a w hr hI hk hv=>?_
  refine(wpIn_wide (n:=0)).2 (wp_scope_straight ((wpIn_wide (n:=0)).1 (wpIn_mono (dF Pp hm c an.l _ fr st X a w hr hI hk hv) fun e a' w' he=>?_)))
  cases e
  case goto l=>obtain⟨_,_,⟨_,_,_,_,_,h⟩,_⟩:=he;exact h.elim
  all_goals exact he
 | .label _,an=>fun Q fr st X a w hr hI hk hv=>wpIn_label ⟨fr,hr,⟨st,X,Steps.refl hI,hk,rfl,hv⟩,Agr.refl _ _⟩
 | .rangeFunc _ _ _ _,an=>fun Q fr st X a w hr hI hk hv=>hv.elim
 | .goto _,an=>fun Q fr st X a w hr hI hk hv=>hv.elim
 | .refuse _,an=>fun Q fr st X a w hr hI hk hv=>hv.elim
end
end
end Go.Proofs.YtinhphjfnedhgaaGreatDoor.V
namespace Go.Proofs.YtinhphjfnedhgaaGreatDoor.V
open Go Go.RowKit
open Go.IntKind (i64 u32 u64)
open Enc (enc)
section
section
variable {U:Uni} {P:Program} {tbl:Tb U} {may:List Nat} {k0:Nat}
variable {w0:World} {X0 X:Nat→Nat→Prop} {w:World} {fr:Fr} {st:St U} {n:Nat} {N:List Nat}
theorem Ey {t:TypeId} {k:Option Kn} {x:Value} {K:Value→Option Kn→Prop}(h:vc U P t k st K)(hx:KnO st.rs x k):∃q,x= .pointer (some q):=by
 unfold vc at h
 split at h
 ·rename_i id off
  split at h
  ·rename_i g cs T hn
   have hd:den U st.rs (.loc id off)=some x:=hx
   simp only [den,PK.id,hn,cz,Option.some.injEq]at hd
   exact⟨_,hd.symm⟩
  ·exact h.elim
 ·rename_i id path off
  split at h
  ·rename_i tt r s hn
   have hd:den U st.rs (.obj id path off)=some x:=hx
   simp only [den,PK.id,hn,cz,Option.some.injEq]at hd
   exact⟨_,hd.symm⟩
  ·exact h.elim
 ·rename_i id li i off
  split at h
  ·rename_i r hn
   split at h
   ·rename_i L hL
    have hd:den U st.rs (.el id li i off)=some x:=hx
    simp only [den,PK.id,hn,cz,hL]at hd
    split at hd
    ·injection hd with hd;exact⟨_,hd.symm⟩
    ·cases hd
   ·exact h.elim
  ·exact h.elim
 ·exact h.elim
theorem kx {tmps:Array Value}(ht:∀i,tmps.getD i undef=lk fr.g i fr.e)(hS:Sat st.rs X w)(hk:aC st.rs fr st.kn):∀(rs:List ResultVar) {F:List Value→List (Option Kn)→Prop},lj U P fr st rs F→
 ∃vs ks,F vs ks∧vs.length=ks.length∧(∀j v k,nth vs j=some v→nth ks j=some k→KnO st.rs v k)∧(rs.mapM (k8 tmps)).run P w= .ok vs w
 | [],F,h=>⟨[],[],h,rfl,fun j v k hv=>by simp [nth]at hv,rfl⟩
 | .tmp t::r,F,h=>by
  obtain⟨vs,ks,hF,hl,P2,hr⟩:=kx ht hS hk r h
  refine⟨_,_,hF,by simp [hl],fun j v k hv OQ=>?_,?_⟩
  ·cases j with
   | zero=>
    simp only [nth,Option.some.injEq]at hv OQ
    subst hv;subst OQ
    cases hg:dw (.s t) st.kn with
    | none=>exact trivial
    | some q=>exact hk.get hg
   | succ j=>exact P2 j v k hv OQ
  ·have h1:(k8 tmps (.tmp t)).run P w= .ok (lk fr.g t fr.e) w:=by rw [← ht];rfl
   rw [List.mapM_cons,Sem.run_bind,h1]
   show(Sem.run P (do let bs ← r.mapM (k8 tmps);pure (lk fr.g t fr.e::bs)) w)=_
   rw [Sem.run_bind,hr]
   rfl
 | .cell a t::r,F,h=>by
  simp only [lj]at h
  have hx:KnO st.rs (lk fr.g a fr.e) (dw (.s a) st.kn):=by
   cases hg:dw (.s a) st.kn with
   | none=>exact trivial
   | some q=>exact hk.get hg
  obtain⟨q,hq⟩:=Ey h hx
  obtain⟨v,kv,hF,Rk,PD⟩:=vb hS hk hx h
  obtain⟨vs,ks,hF,hl,P2,hr⟩:=kx ht hS hk r hF
  refine⟨_,_,hF,by simp [hl],fun j u k hv OQ=>?_,?_⟩
  ·cases j with
   | zero=>
    simp only [nth,Option.some.injEq]at hv OQ
    subst hv;subst OQ
    exact Rk
   | succ j=>exact P2 j u k hv OQ
  ·have h2:=PD w (Kept.refl _ _)
   rw [hq]at h2
   have h1:(k8 tmps (.cell a t)).run P w= .ok v w:=by
    show(do loadVar t (← asAddr (tmps.getD a undef)):Sem Value).run P w=_
    rw [ht,hq]
    exact h2
   rw [List.mapM_cons,Sem.run_bind,h1]
   show(Sem.run P (do let bs ← r.mapM (k8 tmps);pure (v::bs)) w)=_
   rw [Sem.run_bind,hr]
   rfl
theorem ye {fn:Func} {tmps:Array Value} {vs:List Value}(hr:(fn.results.toList.mapM (k8 tmps)).run P w= .ok vs w):(results fn tmps).run P w= .ok (match vs with | [v]=>v | vs=>.tuple ⟨vs⟩) w:=by
 have hm:(fn.results.mapM (k8 tmps)).run P w= .ok ⟨vs⟩ w:=by
  rw [Array.mapM_eq_mapM_toList]
  simp [hr]
 have UM:results fn tmps=(do let vs ← fn.results.mapM (k8 tmps);pure (if h:vs.size=1 then vs[0]else .tuple vs)):=by
  unfold results k8
  congr 1
 rw [UM,Sem.run_bind,hm]
 cases vs with
 | nil=>rfl
 | cons v r=>
  cases r with
  | nil=>rfl
  | cons u r=>rfl
theorem wP {a b:Res U}(h:dI a b):dz a (uP U b)=some b:=by
 cases h
 ·rename_i h
  simp only [dz,uP,h,Nat.beq_refl]
 ·simp [dz,uP]
 ·simp [dz,uP]
theorem mH {G:List (Res U)}:∀ {ms:List Nat} {us:List (Res U)} {L:List (Res U)},jf (nth G) ms=some us→(∀i,i∈ms→∀b,nth G i=some b→∃a,nth L i=some a∧dI a b)→∃L',bx L ms (aN (uP U) us)=some L'∧L'.length=L.length∧(∀i,i∈ms→nth L' i=nth G i)∧∀i,i ∉ ms→nth L' i=nth L i
 | [],us,L,hM,h=>by
  simp only [jf,Option.some.injEq]at hM
  subst hM
  exact⟨L,rfl,rfl,fun i hi=>(by cases hi),fun _ _=>rfl⟩
 | m::ms,us,L,hM,h=>by
  simp only [jf]at hM
  split at hM
  ·rename_i b bs hb Xk
   injection hM with hM
   subst hM
   obtain⟨a,ha,hr⟩:=h m (List.mem_cons_self ..) b hb
   have hml:=aX ha
   have e:∀j,nth (cJ L m b) j=if j=m then some b else nth L j:=fun j=>by
    rw [bB]
    by_cases hj:j=m
    ·rw [if_pos ⟨hj,hml⟩,if_pos hj]
    ·rw [if_neg (fun hh=>hj hh.1),if_neg hj]
   obtain⟨L',h1,h2,h3,h4⟩:=mH (L:=cJ L m b) Xk fun i hi x hx=>by
    rw [e]
    by_cases hj:i=m
    ·subst hj
     rw [hb]at hx
     injection hx with hx
     subst hx
     exact⟨b,by rw [if_pos rfl],dI.refl b⟩
    ·rw [if_neg hj];exact h i (List.mem_cons_of_mem _ hi) x hx
   refine⟨L',?_,by rw [h2];simp,fun i hi=>?_,fun i hi=>?_⟩
   ·simp only [aN,bx,ha,wP hr]
    exact h1
   ·by_cases hm:i∈ms
    ·exact h3 i hm
    ·have:i=m:=(List.mem_cons.1 hi).resolve_right hm
     subst this
     rw [h4 i hm,e,if_pos rfl,hb]
   ·rw [List.mem_cons,not_or]at hi
    rw [h4 i hi.2,e,if_neg hi.1]
  ·cases hM
theorem uX {i:Nat}:∀ {l:List Nat} {p q:Nat},posOf i l p=some q→p≤q∧nth l (q - p)=some i
 | [],_,_,h=>by cases h
 | j::r,p,q,h=>by
  simp only [posOf]at h
  split at h
  ·rename_i he
   injection h with h
   subst h
   exact⟨Nat.le_refl _,by rw [Nat.sub_self,Nat.eq_of_beq_eq_true he];rfl⟩
  ·obtain⟨h1,h2⟩:=uX h
   refine⟨by omega,?_⟩
   rw [show q - p=(q - (p+1))+1 by omega]
   exact h2
theorem yw {α β:Type} {f:α→Option β} {l:List α} {r:List β}(h:jf f l=some r) {i:Nat} {a:α}(ha:nth l i=some a):f a=nth r i:=by
 obtain⟨b,h1,h2⟩:=(r6 h).2 i a ha
 rw [h1,h2]
theorem G9 {α β:Type} {f:α→Option β} {l:List α} {r:List β}(h:jf f l=some r):r.length=l.length:=(r6 h).1
theorem oW {rs:List (Res U)} {key:Key} {k:Kn}:∀ {l:List (Key×Kn)},pP rs l=true→(key,k)∈l→(∃p v,k= .p p∧den U rs p=some v)∨∃l,k= .ag l∧∀j p,nth l j=some (some p)→∃v,den U rs p=some v
 | [],_,h=>by cases h
 | (a,.p p)::r,h,hm=>by
  simp only [pP]at h
  split at h
  ·rename_i v hv
   rcases List.mem_cons.1 hm with e | hm
   ·injection e with e1 e2;subst e2;exact .inl ⟨p,v,rfl,hv⟩
   ·exact oW h hm
  ·cases h
 | (a,.t _)::r,h,_=>by cases h
 | (a,.ag l)::r,h,hm=>by
  simp only [pP]at h
  split at h
  ·rename_i hl
   rcases List.mem_cons.1 hm with e | hm
   ·injection e with e1 e2;subst e2
    refine .inr ⟨l,rfl,fun j p hj=>?_⟩
    have:=cC.1 hl _ (iJ hj)
    simp only [EF]at this
    split at this
    ·rename_i v hv;exact⟨v,hv⟩
    ·cases this
   ·exact oW h hm
  ·cases h
 | (a,.f _ _)::r,h,_=>by cases h
theorem nU {key:Key} {k:Kn}:∀ {l:List (Option Kn)} {i:Nat},(key,k)∈tU i l→∃j,key= .s (i+j)∧nth l j=some (some k)
 | [],_,h=>by cases h
 | none::r,i,h=>by
  obtain⟨j,h1,h2⟩:=nU (l:=r) h
  exact⟨j+1,by rw [h1];congr 1;omega,h2⟩
 | some q::r,i,h=>by
  rcases List.mem_cons.1 h with e | h
  ·injection e with e1 e2;subst e2;exact⟨0,e1,rfl⟩
  ·obtain⟨j,h1,h2⟩:=nU (l:=r) h
   exact⟨j+1,by rw [h1];congr 1;omega,h2⟩
theorem so {id:Nat} {key:Key} {k:Kn}:∀ {l:List AV} {i:Nat},(key,k)∈JZ id i l→∃j p,key= .c id (i+j)∧k= .p p∧nth l j=some (.k p)
 | [],_,h=>by cases h
 | .v _::r,i,h=>by
  obtain⟨j,p,h1,h2,h3⟩:=so (l:=r) h
  exact⟨j+1,p,by rw [h1];congr 1;omega,h2,h3⟩
 | .k q::r,i,h=>by
  rcases List.mem_cons.1 h with e | h
  ·injection e with e1 e2;exact⟨0,q,e1,e2,rfl⟩
  ·obtain⟨j,p,h1,h2,h3⟩:=so (l:=r) h
   exact⟨j+1,p,by rw [h1];congr 1;omega,h2,h3⟩
theorem lr {key:Key} {k:Kn}:∀ {l:List (PR U)} {i:Nat},(key,k)∈Bi i l→∃j g az T o p,nth l j=some (.blk g az T)∧key= .c (i+j) o∧k= .p p∧nth az o=some (.k p)
 | [],_,h=>by cases h
 | .blk g az T::r,i,h=>by
  rcases List.mem_append.1 h with h | h
  ·obtain⟨o,p,h1,h2,h3⟩:=so h
   exact⟨0,g,az,T,o,p,rfl,by rw [h1];simp,h2,h3⟩
  ·obtain⟨j,a,b,c,o,p,h1,h2,h3⟩:=lr (l:=r) h
   exact⟨j+1,a,b,c,o,p,h1,by rw [h2];congr 1;omega,h3⟩
 | .ob .. ::r,i,h=>by
  obtain⟨j,a,b,c,o,p,h1,h2,h3⟩:=lr (l:=r) h
  exact⟨j+1,a,b,c,o,p,h1,by rw [h2];congr 1;omega,h3⟩
 | .lst .. ::r,i,h=>by
  obtain⟨j,a,b,c,o,p,h1,h2,h3⟩:=lr (l:=r) h
  exact⟨j+1,a,b,c,o,p,h1,by rw [h2];congr 1;omega,h3⟩
theorem zm {T:Type} {c:CP} {J:c.T T} {F G:T→AV→Prop}(h:alC c J F)(hg:∀a b,F a b→G a b):alC c J G:=by
 cases c<;>simp only [alC]at h ⊢ <;>first | exact fun x=>hg _ _ (h x) | exact fun x y z=>hg _ _ (h x y z) | exact hg _ _ h
theorem o9 {T:Type}:∀ {l:List CP} {J:CQ l T} {F G:T→List AV→Prop},BT l J F→(∀a b,F a b→G a b)→BT l J G
 | [],_,_,_,h,hg=>hg _ _ h
 | c::l,J,F,G,h,hg=>zm (c:=c) h fun _ _ h=>o9 h fun _ _ h=>hg _ _ h
theorem HW {T:Type} {a:AP} {J:a.T U T} {F G:T→AA→Prop}(h:alA a J F)(hg:∀a b,F a b→G a b):alA a J G:=by
 cases a with
 | one c=>exact zm (c:=c) h fun _ _ h=>hg _ _ h
 | agg l=>exact o9 (l:=l) h fun _ _ h=>hg _ _ h
 | enc tt=>exact fun x=>hg _ _ (h x)
theorem vu {T:Type}:∀ {l:List AP} {J:C1 U l T} {F G:T→List AA→Prop},wT l J F→(∀a b,F a b→G a b)→wT l J G
 | [],_,_,_,h,hg=>hg _ _ h
 | c::l,J,F,G,h,hg=>HW (a:=c) h fun _ _ h=>vu h fun _ _ h=>hg _ _ h
theorem HU {T:Type} {p:RP} {J:p.T U T} {F G:T→PR U→Prop}(h:alR p J F)(hg:∀a b,F a b→G a b):alR p J G:=by
 cases p with
 | ob t=>exact fun r s=>hg _ _ (h r s)
 | blk l T=>exact fun g=>o9 (h g) fun _ _ h=>hg _ _ h
 | lst t own T=>exact fun A c l=>hg _ _ (h A c l)
theorem vt {T:Type}:∀ {l:List RP} {J:EZ U l T} {F G:T→List (PR U)→Prop},wS l J F→(∀a b,b.length=l.length→F a b→G a b)→wS l J G
 | [],_,_,_,h,hg=>hg _ _ rfl h
 | c::l,J,F,G,h,hg=>HU (p:=c) h fun _ _ h=>vt h fun _ _ hl h=>hg _ _ (by simp [hl]) h
theorem yK {bn rets:List Nat} {Q:Ou U→Prop} {v:Value} {k:Option Kn} {Qb:List (Res U)} {X':Nat→Nat→Prop} {w':World}(h:LB U k0 bn rets Q v k st)(hk0:Qb.length=k0)(hs:Steps w k0 X bn ⟨Qb,[],[]⟩ X st X' w')(hk:aC st.rs fr st.kn)(hv:k=some .pan∨KnO st.rs v k)(O9:∀i,i∈bn→i<k0):
 ∃out rs' X'',g6 k v=g6 out.kr out.res∧Q out∧bx Qb bn out.upd=some rs'∧mL Qb bn X w out w' rs' X'':=by
 unfold LB at h
 split at h
 case h_2=>exact h.elim
 rename_i us ns hus hns PG
 simp only [Bool.and_eq_true]at PG
 obtain⟨hge,QE⟩:=PG
 have hge:∀i,i∈rets→k0≤i:=fun i hi=>Nat.le_of_ble_eq_true (cC.1 hge i hi)
 have QE:=mU QE
 obtain⟨L,hL,cL,hl⟩:=hs.md
 have PV:∀i,i<k0→i ∉ bn→nth st.rs i=nth Qb i∧X' i=X i:=by
  intro i hi hm
  refine hl i (by simp only [];omega) fun R2=>?_
  rcases cL i R2 with h | h
  ·exact hm h
  ·omega
 obtain⟨rs',Oo,ab5,QY,adX⟩:=mH (L:=Qb) hus fun i hi b hb=>by
  obtain⟨a,ha⟩:=cf (l:=Qb) (i:=i) (by rw [hk0];exact O9 i hi)
  obtain⟨b',Qf,hr⟩:=hs.root i a ha
  rw [hb]at Qf
  injection Qf with Qf
  subst Qf
  exact⟨a,ha,hr⟩
 have UJ:∀i,i<k0→nth rs' i=nth st.rs i:=by
  intro i hi
  by_cases hm:i∈bn
  ·exact QY i hm
  ·rw [adX i hm,(PV i hi hm).1]
 have W6:ns.length=rets.length:=G9 hns
 have R0:rs'.length=k0:=by rw [ab5,hk0]
 have W5:∀i j,mT k0 rets i=some j→nth (rs'++ns) j=nth st.rs i:=by
  intro i j OS
  unfold mT at OS
  split at OS
  ·rename_i hb
   have hb:i<k0:=by simpa [Nat.blt_eq]using hb
   injection OS with OS
   subst OS
   rw [bm,if_pos (by omega),UJ i hb]
  ·simp only [Option.map_eq_some_iff]at OS
   obtain⟨p,hp,rfl⟩:=OS
   obtain⟨_,Om⟩:=uX hp
   rw [Nat.sub_zero]at Om
   rw [bm,if_neg (by omega),show k0+p - rs'.length=p by omega,← yw hns Om]
 have Ps:∀ {p q:PK} {u:Value},p.ren (mT k0 rets)=some q→den U st.rs p=some u→den U (rs'++ns) q=some u:=by
  intro p q u hp hd
  have h1:=W5 _ _ (PK.we hp)
  unfold den at hd ⊢
  rw [h1,← hd]
  cases p<;>simp only [PK.ren,Option.map_eq_some_iff]at hp<;>obtain⟨i,hi,rfl⟩:=hp<;>simp only [PK.id]<;>cases nth st.rs _<;>first | rfl | (rename_i r;cases r<;>rfl)
 have Xd:∀ {v:Value} {k k':Kn},k.ren (mT k0 rets)=some k'→jv st.rs v k→jv (rs'++ns) v k':=by
  intro v k k' hk hv
  cases k with
  | pan=>exact hv.elim
  | p p=>
   simp only [Kn.ren,Option.map_eq_some_iff]at hk
   obtain⟨q,hq,rfl⟩:=hk
   exact Ps hq hv
  | t l=>
   simp only [Kn.ren,Option.some.injEq]at hk
   subst hk
   obtain⟨vs,e,hh⟩:=hv
   refine⟨vs,e,fun j q hj=>?_⟩
   obtain⟨p,hp,hq⟩:=dW hj
   obtain⟨u,hu,hd⟩:=hh j p hp
   exact⟨u,hu,Ps hq hd⟩
  | ag l=>
   simp only [Kn.ren,Option.some.injEq]at hk
   subst hk
   obtain⟨vs,e,hh⟩:=hv
   refine⟨vs,e,fun j q hj=>?_⟩
   obtain⟨p,hp,hq⟩:=dW hj
   obtain⟨u,hu,hd⟩:=hh j p hp
   exact⟨u,hu,Ps hq hd⟩
  | f a b=>
   simp only [Kn.ren,Option.some.injEq]at hk
   subst hk
   obtain⟨fn,fs,cs,e,hl,h1,h2⟩:=hv
   refine⟨fn,fs,cs,e,by simpa using hl,fun j q hj=>?_,fun j q hj=>?_⟩
   ·obtain⟨p,hp,hq⟩:=dW hj
    obtain⟨u,hu,hd⟩:=h1 j p hp
    exact⟨u,hu,Ps hq hd⟩
   ·obtain⟨p,hp,hq⟩:=dW hj
    obtain⟨u,hu,hd⟩:=h2 j p hp
    exact⟨u,hu,Ps hq hd⟩
 let X'':Nat→Nat→Prop:=fun i=>if i<k0 then X' i else match nth rets (i - k0)with
  | some r=>X' r
  | none=>fun _=>False
 have hX:∀i,i<k0→X'' i=X' i:=fun i hi=>if_pos hi
 have hXr:∀i r,¬i<k0→nth rets (i - k0)=some r→X'' i=X' r:=fun i r hi hr=>by
  show(if i<k0 then _ else _)=_
  rw [if_neg hi,hr]
 have SM:∀i,i<(rs'++ns).length→∃r,X'' i=X' r∧nth (rs'++ns) i=nth st.rs r∧r<st.rs.length∧((i<k0∧r=i)∨(¬i<k0∧k0≤r∧nth rets (i - k0)=some r)):=by
  intro i hi
  by_cases h1:i<k0
  ·refine⟨i,hX i h1,by rw [bm,if_pos (by omega),UJ i h1],?_,.inl ⟨h1,rfl⟩⟩
   have:=hs.len
   simp only at this
   omega
  ·simp at hi
   obtain⟨r,hr⟩:=cf (l:=rets) (i:=i - k0) (by omega)
   have hn:=yw hns hr
   obtain⟨y,hy⟩:=cf (l:=ns) (i:=i - k0) (by omega)
   rw [hy]at hn
   exact⟨r,hXr i r h1 hr,by rw [bm,if_neg (by omega),show i - rs'.length=i - k0 by omega,hy,hn],aX hn,.inr ⟨h1,hge r (iJ hr),hr⟩⟩
 refine⟨_,rs',X'',(vf ..).symm,h,Oo,⟨⟨fun i r hr=>?_,fun i j hi hj OS k Ve=>?_⟩,hs.inv.ch,fun i hi hm=>?_,fun i hm k Ve=>?_,fun i h1 h2 k Ve=>?_,?_,fun key q hq hns=>?_⟩⟩
 ·obtain⟨m,e1,e2,_⟩:=SM i (aX hr)
  rw [e1]
  exact hs.inv.sat.res m r (by rw [← e2];exact hr)
 ·obtain⟨a,a1,a2,a3,a4⟩:=SM i hi
  obtain⟨b,b1,b2,b3,b4⟩:=SM j hj
  rw [a1]at Ve
  rw [b1]
  refine hs.inv.sat.dis a b a3 b3 (fun hab=>?_) k Ve
  subst hab
  rcases a4 with⟨a5,a6⟩ | ⟨a5,a6,a7⟩<;>rcases b4 with⟨b5,b6⟩ | ⟨b5,b6,b7⟩
  ·exact OS (a6.symm.trans b6)
  ·omega
  ·omega
  ·have inj:∀(l:List Nat)(x y r:Nat),l.Nodup→nth l x=some r→nth l y=some r→x=y:=by
    intro l
    induction l with
    | nil=>intro x y r _ h;simp [nth]at h
    | cons z l ih=>
     intro x y r hn h1 h2
     rw [List.nodup_cons]at hn
     cases x with
     | zero=>
      simp only [nth,Option.some.injEq]at h1
      subst h1
      cases y with
      | zero=>rfl
      | succ y=>exact absurd (iJ (l:=l) h2) hn.1
     | succ x=>
      cases y with
      | zero=>
       simp only [nth,Option.some.injEq]at h2
       subst h2
       exact absurd (iJ (l:=l) h1) hn.1
      | succ y=>rw [ih x y r hn.2 h1 h2]
   have:=inj rets _ _ _ QE a7 b7
   omega
 ·rw [hX i (by omega)]
  exact(PV i (by omega) hm).2
 ·rw [hX i (O9 i hm)]at Ve
  exact hs.inv.old i (O9 i hm) k Ve
 ·obtain⟨m,e1,e2,e3,e4⟩:=SM i (by simp only [List.length_append];simp only at h2;omega)
  rw [e1]at Ve
  rcases e4 with⟨e5,e6⟩ | ⟨e5,e6,_⟩
  ·omega
  ·exact hs.inv.new m e6 e3 k Ve
 ·rcases hv with rfl | hv
  ·exact .inl rfl
  right
  cases k with
  | none=>exact trivial
  | some k=>
   show KnO _ v (k.ren _)
   cases hkr:k.ren (mT k0 rets)with
   | none=>exact trivial
   | some k'=>exact Xd hkr hv
 ·obtain⟨i0,i',o',k1,⟨rfl,e2⟩ | ⟨rfl,e2⟩,e3,e4⟩:=j1 hq
  ·obtain⟨Wj,_⟩:=dH e2
   obtain⟨g,cs,T,u,q1,q2,q3⟩:=hk _ _ Wj
   exact⟨g,cs,T,u,by show nth (rs'++ns) _=_;rw [W5 _ _ e3];exact q1,q2,Xd e4 q3⟩
  ·obtain⟨Wj,_⟩:=dH e2
   obtain⟨t,r,s,q1,q2⟩:=hk _ _ Wj
   exact⟨t,r,s,by show nth (rs'++ns) _=_;rw [W5 _ _ e3];exact q1,Xd e4 q2⟩
theorem qJ {fn:Func} {rets:List Nat} {Q:Ou U→Prop} {Qb:List (Res U)} {bn:List Nat} {kn0:List (Key×Kn)} {a':Act} {w':World} {st':St U} {X':Nat→Nat→Prop}(R0:Qb.length=k0)(O9:∀i,i∈bn→i<k0)(hr:Rep n fr a')(hs:Steps w k0 X bn ⟨Qb,kn0,[]⟩ X st' X' w')(hk:aC st'.rs fr st'.kn)
 (UM:v9 U P k0 bn rets Q fn fr st'):∃v,(results fn a'.tmps).run P w'= .ok v w'∧aM Qb bn X w Q (.returned v) w':=by
 obtain⟨vs,ks,hF,hlen,Rk,PD⟩:=kx hr.get hs.inv.sat hk _ UM
 refine⟨_,ye PD,?_⟩
 have hs':Steps w k0 X bn ⟨Qb,[],[]⟩ X st' X' w':=⟨hs.inv,hs.len,hs.md,hs.root⟩
 have go:∀ {v k},Hq U k0 bn rets Q v k st'→KnO st'.rs v k→∃out rs' X',Ending.returned v=g6 out.kr out.res∧Q out∧bx Qb bn out.upd=some rs'∧mL Qb bn X w out w' rs' X':=by
  intro v k Sn XZ
  obtain⟨out,rs',X'',h1,h2,h3,h4⟩:=yK Sn R0 hs' hk (.inr XZ) O9
  exact⟨out,rs',X'',by rw [← h1];cases k with | none=>rfl | some k=>cases k<;>first | rfl | exact XZ.elim,h2,h3,h4⟩
 have tup:∀ {vs:List Value} {ks:List (Option Kn)},vs.length=ks.length→(∀j v k,nth vs j=some v→nth ks j=some k→KnO st'.rs v k)→KnO st'.rs (.tuple ⟨vs⟩) (some (.t (aN jA ks))):=by
  intro vs ks hlen Rk
  refine⟨⟨vs⟩,rfl,fun j p hj=>?_⟩
  rw [bp]at hj
  cases hn:nth ks j with
  | none=>rw [hn]at hj;cases hj
  | some k=>
   rw [hn]at hj
   injection hj with hj
   obtain⟨v,hv⟩:=cf (l:=vs) (i:=j) (by rw [hlen];exact aX hn)
   refine⟨v,by rw [aQ]at hv;simpa using hv,?_⟩
   have:=Rk j v k hv hn
   unfold jA at hj
   split at hj
   ·injection hj with hj;subst hj;exact this
   ·cases hj
 cases vs with
 | nil=>
  cases ks with
  | nil=>exact go hF (tup rfl Rk)
  | cons _ _=>simp at hlen
 | cons v r=>
  cases ks with
  | nil=>simp at hlen
  | cons k s=>
   cases r with
   | nil=>
    cases s with
    | nil=>exact go hF (Rk 0 v k rfl rfl)
    | cons _ _=>simp at hlen
   | cons u r=>
    cases s with
    | nil=>simp at hlen
    | cons _ _=>exact go hF (tup hlen Rk)
theorem C4 {f:Nat} {fn:Func} {c:Ctr U} {V:Code→(Ou U→Prop)→Fr→St U→Prop} {W:List Value→List (Option Kn)→List (Res U)→List (Key×Kn)→(Ou U→Prop)→Prop}(hf:P.funcs[f]? =some fn)
 (hV:∀(code:Code)(Q:Ou U→Prop)(Qb:List (Res U))(X:Nat→Nat→Prop)(w:World)(kn:List (Key×Kn))(fr:Fr)(a:Act),Qb.length=c.res.length→Inv w c.res.length X c.bn Qb X w→Rep fn.ntmps fr a→aC Qb fr kn→fr.ds= []→V code Q fr ⟨Qb,kn,[]⟩→code.wpIn (WF none) 0 P (bodyPostM (WF none) 0 P fn (aM Qb c.bn X w Q)) a w)
 (hW:∀args ks rs kc Q,W args ks rs kc Q→∃code,fn.body=some code∧Nat.ble args.length fn.ntmps=true∧pP rs (tU 0 ks++kc)=true∧V code Q ⟨num 0 args,fun _=>undef,[]⟩ ⟨rs,tU 0 ks++kc,[]⟩)
 (h:wT c.args c.body fun B az=>wS c.res B fun B ps=>∀Q:Ou U→Prop,B Q→wz (et ps) (W (aN (sz (aN PR.jR ps)) az) (aN EU az) (et ps) (Bi 0 ps++wq 0 ps) Q)):LV U P f c:=by
 refine vu h fun B az h=>vt h fun B ps hl h=>?_
 intro Q hQ X w hsat hlkp
 have h:=j2 (fun r hr=>by
  obtain⟨j,hj,he⟩:=List.mem_iff_getElem.1 hr
  exact⟨_,_,hsat.res j r (by rw [aQ,List.getElem?_eq_getElem hj,he])⟩) (h Q hQ)
 obtain⟨code,hb,hnt,hkd,h⟩:=hW _ _ _ _ _ h
 have Ri:(aN (sz (aN PR.jR ps)) az).length≤fn.ntmps:=Nat.le_of_ble_eq_true hnt
 have R0:(et ps).length=c.res.length:=by simp [hl]
 have hI:Inv w c.res.length X c.bn (et ps) X w:=⟨hsat,Ch.refl _ _,fun i _ k hk=>.inl hk,fun i h1 h2=>by omega,by omega⟩
 generalize QN:aN (sz (aN PR.jR ps)) az=args at h Ri ⊢
 have P2:aC (et ps) ⟨num 0 args,fun _=>undef,[]⟩ (tU 0 (aN EU az)++(Bi 0 ps++wq 0 ps)):=by
  intro key k Oz
  rcases oW hkd Oz with⟨p,v,rfl,hd⟩ | ⟨l,rfl,hd⟩
  rotate_left
  ·rcases List.mem_append.1 Oz with Oz | Oz
   ·obtain⟨j,rfl,hj⟩:=nU Oz
    rw [Nat.zero_add]
    rw [bp]at hj
    cases ha:nth az j with
    | none=>rw [ha]at hj;cases hj
    | some a=>
     rw [ha]at hj
     injection hj with hj
     obtain⟨as',rfl,rfl⟩:∃as',a= .agg as'∧l=aN avK as':=by
      unfold EU at hj
      split at hj
      ·cases hj
      ·cases hj
      ·split at hj
       ·injection hj with hj;injection hj with hj;exact⟨_,rfl,hj.symm⟩
       ·cases hj
     have hv:nth args j=some (.agg ⟨aN (j4 (aN PR.jR ps)) as'⟩):=by rw [← QN,bp,ha];rfl
     have Ow:=aX hv
     refine⟨⟨aN (j4 (aN PR.jR ps)) as'⟩,?_,fun j' k hk=>?_⟩
     ·show lk _ j (num 0 args)=_
      rw [r7,dif_pos ⟨Nat.zero_le _,by simpa using Ow⟩]
      rw [aQ,List.getElem?_eq_getElem Ow]at hv
      simpa using hv
     ·obtain⟨u,hu⟩:=hd j' k hk
      refine⟨u,?_,hu⟩
      rw [bp]at hk
      cases hn:nth as' j' with
      | none=>rw [hn]at hk;cases hk
      | some b=>
       rw [hn]at hk
       injection hk with hk
       cases b with
       | v x=>cases hk
       | k p=>
        injection hk with hk
        subst hk
        have h9:nth (aN (j4 (aN PR.jR ps)) as') j'=some u:=by
         rw [bp,hn]
         show some ((den U (aN PR.jR ps) p).getD undef)=_
         rw [← qM,hu];rfl
        rw [aQ]at h9
        simpa using h9
   ·rcases List.mem_append.1 Oz with Oz | Oz
    ·obtain⟨_,_,_,_,_,_,_,_,h3,_⟩:=lr Oz
     cases h3
    ·have h9:=jZ Oz
     obtain⟨_,_,_,_,_,_,_,_,_,_,h3,h4⟩:=h9
     cases h4
  rcases List.mem_append.1 Oz with Oz | Oz
  ·obtain⟨j,rfl,hj⟩:=nU Oz
   rw [Nat.zero_add]
   rw [bp]at hj
   cases ha:nth az j with
   | none=>rw [ha]at hj;cases hj
   | some a=>
    rw [ha]at hj
    injection hj with hj
    have UW:a= .one (.k p):=by
     unfold EU at hj
     split at hj
     ·injection hj with hj;injection hj with hj;rw [hj]
     ·cases hj
     ·split at hj<;>cases hj
    subst UW
    show den U (et ps) p=some (lk _ j (num 0 args))
    have hv:nth args j=some v:=by
     rw [← QN,bp,ha]
     show some ((den U (aN PR.jR ps) p).getD undef)=_
     rw [← qM,hd];rfl
    have Ow:=aX hv
    rw [r7,dif_pos ⟨Nat.zero_le _,by simpa using Ow⟩,hd]
    rw [aQ,List.getElem?_eq_getElem Ow]at hv
    rw [← hv]
    simp
  rcases List.mem_append.1 Oz with Oz | Oz
  rotate_left
  ·have h0:=hlkp _ _ Oz
   obtain⟨_,_,_,_,_,_,_,_,_,_,rfl,_⟩:=jZ Oz
   exact h0
  ·obtain⟨j,g,as',T,o,q,h1,h2,h3,h4⟩:=lr Oz
   injection h3 with h3
   subst h3
   rw [h2,Nat.zero_add]
   refine⟨g,aN (j4 (aN PR.jR ps)) as',T,v,?_,?_,hd⟩
   ·rw [j3,h1];rfl
   ·rw [bp,h4]
    show some ((den U (aN PR.jR ps) p).getD undef)=_
    rw [← qM,hd];rfl
 refine(callsIn_wide (n:=0)).1 (callsIn_of_wp_marks (F:=WF none) hf hb trivial ?_)
 have QB:Rep fn.ntmps ⟨num 0 args,fun _=>undef,[]⟩ {tmps:=(⟨args⟩:Array Value)++Array.replicate (fn.ntmps - (⟨args⟩:Array Value).size) undef,defers:= []}:=by
  refine⟨by simp;omega,fun i=>?_,rfl⟩
  rw [r7]
  simp only [Nat.zero_le,Nat.sub_zero,true_and,Array.getD_eq_getD_getElem?]
  by_cases hi:i<args.length
  ·rw [dif_pos hi,Array.getElem?_append_left (by simpa using hi)]
   simp [hi]
  ·rw [dif_neg hi,Array.getElem?_append_right (by simpa using hi)]
   rw [Array.getElem?_replicate]
   split<;>rfl
 exact hV code Q (et ps) X w _ _ _ R0 hI QB P2 rfl h
theorem Ja {f:Nat} {fn:Func} {an:An} {rets:List Nat} {c:Ctr U}(hf:P.funcs[f]? =some fn)(hm:P.follows .mixedOrders=true)(Pp:∀f c,tbl.c f=some c→LV U P f c∧bR P f=true)(O9:iN (fun i=>Nat.blt i c.res.length) c.bn=true)(h:Vc2 U P tbl N fn an rets c):LV U P f c:=by
 have QL:∀i,i∈c.bn→i<c.res.length:=fun i hi=>by simpa [Nat.blt_eq]using cC.1 O9 i hi
 refine C4 (V:=fun code Q fr st=>ko U P tbl c.bn c.res.length fn.ntmps N code an (fun e fr st=>match fr.ds,e with
  | [],.normal=>v9 U P c.res.length c.bn rets Q fn fr st
  | [],.ret=>v9 U P c.res.length c.bn rets Q fn fr st
  | [],.panic [⟨v,false,false⟩]=>Hq U c.res.length c.bn rets Q v (some .pan) st
  | _,_=>False) fr st) hf ?_ (fun args ks rs kc Q h=>?_) h
 ·intro code Q Qb X w kn fr a R0 hI QB P2 Qe h
  refine wpIn_mono (dF Pp hm code an _ _ _ X _ w QB hI P2 h) fun e a' w' he=>?_
  cases e
  case normal=>
   obtain⟨fr',hr,⟨st',X',g1,g2,g3,g4⟩,_⟩:=he
   have g3:fr'.ds= []:=g3.trans Qe
   rw [g3]at g4
   show LeavesInM (WF none) 0 P fn a'.tmps _ a'.defers .returning w'
   rw [hr.defers,g3]
   exact qJ R0 QL hr g1 g2 g4
  case ret=>
   obtain⟨fr',hr,⟨st',X',g1,g2,g3,g4⟩,_⟩:=he
   have g3:fr'.ds= []:=g3.trans Qe
   rw [g3]at g4
   show LeavesInM (WF none) 0 P fn a'.tmps _ a'.defers .returning w'
   rw [hr.defers,g3]
   exact qJ R0 QL hr g1 g2 g4
  case panic ch=>
   obtain⟨fr',hr,⟨st',X',g1,g2,g3,g4⟩,_⟩:=he
   have g3:fr'.ds= []:=g3.trans Qe
   rw [g3]at g4
   rcases ch with _ | ⟨⟨v,_ | _,_ | _⟩,_ | ⟨c2,r⟩⟩<;>first | exact g4.elim | skip
   obtain⟨out,rs',X'',h1,h2,h3,h4⟩:=yK g4 R0 ⟨g1.inv,g1.len,g1.md,g1.root⟩ g2 (.inl rfl) QL
   show LeavesInM (WF none) 0 P fn a'.tmps _ a'.defers (.panicking [⟨v,false,false⟩]) w'
   rw [hr.defers,g3]
   exact⟨out,rs',X'',h1,h2,h3,h4⟩
  case outgrown=>exact he.elim
  all_goals
   obtain⟨fr',hr,⟨st',X',g1,g2,g3,g4⟩,_⟩:=he
   have g3:fr'.ds= []:=g3.trans Qe
   rw [g3]at g4
   exact g4.elim
 ·unfold Me at h
  split at h
  case h_2=>exact h.elim
  rename_i code hb PG
  simp only [Bool.and_eq_true]at PG
  exact⟨code,hb,PG.1,PG.2,h⟩
def D4 {U:Uni}:List (Nat×Ctr U)→Nat→Option (Ctr U)
 | [],_=>none
 | (g,c)::r,f=>match Nat.beq g f with
  | true=>some c
  | false=>D4 r f
abbrev aR {U:Uni}(l:List (Nat×Ctr U)):Tb U:=⟨D4 l,.bool,[]⟩
def vZ(U:Uni)(P:Program):List (Nat×Ctr U)→Prop
 | []=>True
 | (f,c)::r=>LV U P f c∧vZ U P r
theorem oH {c:Ctr U} {f:Nat}:∀ {tb:List (Nat×Ctr U)},D4 tb f=some c→vZ U P tb→iN (fun p=>bR P p.1) tb=true→LV U P f c∧bR P f=true
 | [],h,_,_=>by cases h
 | (g,d)::r,h,ha,hb=>by
  unfold D4 at h
  have hc:=cC.1 hb
  split at h
  ·rename_i he
   injection h with h
   rw [← h,← Nat.eq_of_beq_eq_true he]
   exact⟨ha.1,hc _ (List.mem_cons_self ..)⟩
  ·exact oH h ha.2 (cC.2 fun x hx=>hc x (List.mem_cons_of_mem _ hx))
theorem verify {f:Nat} {fn:Func} {an:An} {rets:List Nat} {c:Ctr U} {tb:List (Nat×Ctr U)} {sh:Sh} {al:List (Nat×List PK×List PK)}(hf:P.funcs[f]? =some fn)(hm:P.follows .mixedOrders=true)(ht:vZ U P tb)(hb:(iN (fun p=>bR P p.1) tb && iN (fun i=>Nat.blt i c.res.length) c.bn)=true)(h:Vc2 U P ⟨D4 tb,sh,al⟩ N fn an rets c):LV U P f c:=by
 rw [Bool.and_eq_true]at hb
 exact Ja hf hm (fun f c hfc=>oH hfc ht hb.1) hb.2 h
theorem aM.pu {rs:List (Res U)} {X:Nat→Nat→Prop} {w w':World} {Q:Ou U→Prop} {v:Value} {k:Option Kn}(hs:Sat rs X w)(q:Pu w w')(hQ:Q ⟨v,k,[],[],[]⟩)(hk:KnO rs v k):aM rs [] X w Q (.returned v) w':=by
 have hs':Sat (rs++ []) X w':=by
  rw [List.append_nil]
  exact⟨fun i r hr=>(hs.res i r hr).ch q (fun _ _ h=>h),hs.dis⟩
 refine⟨_,rs,X,fv hk,hQ,rfl,⟨hs',q.mono fun k hk=>hk.elim,fun _ _ _=>rfl,fun i hi=>(by cases hi),fun i h1 h2=>by simp at h2;omega,.inr (by simpa using hk),fun _ k hk=>by cases hk⟩⟩
theorem aM.one {t:Nat} {r:Nat→Nat} {s s':U.ty t} {X:Nat→Nat→Prop} {w w':World} {Q:Ou U→Prop} {v:Value} {k:Option Kn} {Z:Nat→Prop}(q:Ch (X 0) w w')(hp:U.pred t r s' Z w')(hz:∀k,Z k→X 0 k∨w.heap.size≤k)(hQ:Q ⟨v,k,[.ob t s'],[],[]⟩)(hk:KnO [.ob t r s'] v k):aM [.ob t r s] [0] X w Q (.returned v) w':=by
 have Oo:bx [Res.ob t r s] [0] [.ob t s']=some [.ob t r s']:=by simp [bx,dz,nth,cJ]
 refine⟨_,_,fun i=>if i=0 then Z else X i,fv hk,hQ,Oo,⟨⟨fun i r' hr=>?_,fun i j hi hj OS=>?_⟩,q.mono fun k hk=>⟨0,by simp,hk⟩,fun i hi hm=>?_,fun i hi k hk=>?_,fun i h1 h2=>by simp at h1 h2;omega,.inr hk,fun _ k hk=>by cases hk⟩⟩
 ·cases i with
  | zero=>simp only [List.append_nil,nth,Option.some.injEq]at hr;subst hr;exact hp
  | succ i=>simp [nth]at hr
 ·simp at hi hj;omega
 ·simp at hi hm;omega
 ·simp at hi;subst hi;exact hz k hk
theorem aM.new {t:Nat} {r:Nat→Nat} {s':U.ty t} {X:Nat→Nat→Prop} {w w':World} {Q:Ou U→Prop} {v:Value} {k:Option Kn} {Z:Nat→Prop}(q:Pu w w')(hp:U.pred t r s' Z w')(hz:∀k,Z k→w.heap.size≤k)(hQ:Q ⟨v,k,[],[.ob t r s'],[]⟩)(hk:KnO [.ob t r s'] v k):aM [] [] X w Q (.returned v) w':=by
 refine⟨_,[],fun i=>if i=0 then Z else X i,fv hk,hQ,rfl,⟨⟨fun i r' hr=>?_,fun i j hi hj OS=>?_⟩,q.mono fun k hk=>hk.elim,fun i hi hm=>?_,fun i hi=>(by cases hi),fun i h1 h2 k hk=>?_,.inr hk,fun _ k hk=>by cases hk⟩⟩
 ·cases i with
  | zero=>simp only [List.nil_append,nth,Option.some.injEq]at hr;subst hr;exact hp
  | succ i=>simp [nth]at hr
 ·simp at hi hj;omega
 ·simp at hi
 ·simp at h2;subst h2;exact hz k hk
theorem bL {b:Bool} {x y:Prop}(h:split b x y)(hb:b=true):x:=(fV h).elim (·.2) fun h=>by rw [hb]at h;cases h.1
theorem bq {b:Bool} {x y:Prop}(h:split b x y)(hb:b=false):y:=(fV h).elim (fun h=>by rw [hb]at h;cases h.1) (·.2)
theorem aj {a b:Prop}(h:a)(k:a→b):a∧b:=⟨h,k h⟩
theorem KnO.tup {U:Uni} {rs:List (Res U)} {vs:Array Value}:∀(l:List (Option PK)),(∀o∈l,o=none)→KnO rs (.tuple vs) (some (.t l)):=fun l h=>⟨vs,rfl,fun j k hj=>by have:=h _ (iJ hj);cases this⟩
theorem allEq {α:Sort _} {a:α} {F:α→Prop}(h:F a):∀x,x=a→F x:=fun _ e=>e▸h
theorem ab {α:Type} {a b:α} {l m:List α}(h:a=b)(k:l=m):a::l=b::m:=by rw [h,k]
theorem cN {α:Type} {F:(α→Prop)→Prop} {G:α→Prop}(e:α)(h1:F (fun x=>x=e))(h2:G e):∃J:α→Prop,F J∧∀(_:Nat→Value)(x:α),J x→G x:=⟨_,h1,fun _ _ h=>h▸h2⟩
theorem dup2 {α β:Type} {F:(α→β→Prop)→Prop} {G:α→β→Prop}(h:F G):∃J:α→β→Prop,F J∧∀(_:Nat→Value)(x:α)(y:β),J x y→G x y:=⟨_,h,fun _ _ _ h=>h⟩
theorem gZ {U:Uni} {Q:Ou U→Prop} {a b:Bool} {k:Option Kn} {u:List (Upd U)} {n:List (Res U)} {kc:List (Key×Kn)}(h:Q ⟨.bool a,k,u,n,kc⟩)(h1:a=b):Q ⟨.bool b,k,u,n,kc⟩:=h1▸h
theorem eL {U:Uni} {Q:Ou U→Prop} {i:IntKind} {a b:Int} {k:Option Kn} {u:List (Upd U)} {n:List (Res U)} {kc:List (Key×Kn)}(h:Q ⟨.int i a,k,u,n,kc⟩)(h1:a=b):Q ⟨.int i b,k,u,n,kc⟩:=h1▸h
theorem ao {U:Uni} {Q:Ou U→Prop} {a b:Value} {k:Option Kn} {u u':List (Upd U)} {n n':List (Res U)} {kc:List (Key×Kn)}(h:Q ⟨a,k,u,n,kc⟩)(h1:a=b)(h2:u=u')(h3:n=n'):Q ⟨b,k,u',n',kc⟩:=by rw [← h1,← h2,← h3];exact h
end
theorem aE {a b:Int}(h:a=b):Value.int .i64 a=Value.int .i64 b:=congrArg _ h
theorem bC {a b:Int}(h:a=b):Value.int .u32 a=Value.int .u32 b:=congrArg _ h
theorem eQb {a b:Bool}(h:a=b):Value.bool a=Value.bool b:=congrArg _ h
end
end Go.Proofs.YtinhphjfnedhgaaGreatDoor.V
namespace Go.Proofs.YtinhphjfnedhgaaGreatDoor
open Go.Proofs.Tryz (prog)
open Go Go.RowKit V
open Go.IntKind (i64 u32 u64)
open Enc (enc)
structure LOp where
 k:Int
 a:Int
 b:Int
 c:Int
 d:Int
instance:Enc LOp:=⟨fun x=>[.int .i64 x.k,.int .u32 x.a,.int .u32 x.b,.int .u32 x.c,.int .u32 x.d],5,fun _=>rfl,by simp [Value.oneCell'],by omega⟩
structure W26 where
 l:List U32
def W26.c(x:W26):List Value:=aN (fun j=>.int .u32 (x.l.getD j (U32.mk 0)).v) (upN 0 26)
def W26.n(x:W26):List U32:=aN (fun j=>U32.mk (x.l.getD j (U32.mk 0)).v) (upN 0 26)
instance:Enc W26:=⟨W26.c,26,fun _=>rfl,fun x u h=>by
 obtain⟨a,rfl⟩:=r5 h
 rfl,by omega⟩
def UEl:Nat→Type
 | 0=>I64
 | 1=>U32
 | 2=>U8
 | 3=>Bl
 | 4=>Ent
 | 5=>LOp
 | 6=>Fl
 | 8=>W26
 | _=>I64
@[reducible] def UEn:(t:Nat)→Enc (UEl t)
 | 0=>inferInstanceAs (Enc I64)
 | 1=>inferInstanceAs (Enc U32)
 | 2=>inferInstanceAs (Enc U8)
 | 3=>inferInstanceAs (Enc Bl)
 | 4=>inferInstanceAs (Enc Ent)
 | 5=>inferInstanceAs (Enc LOp)
 | 6=>inferInstanceAs (Enc Fl)
 | 7=>inferInstanceAs (Enc I64)
 | 8=>inferInstanceAs (Enc W26)
 | _+9=>inferInstanceAs (Enc I64)
def UDf:(t:Nat)→UEl t
 | 0=>I64.mk 0
 | 1=>U32.mk 0
 | 2=>U8.mk 0
 | 3=>Bl.mk false
 | 4=>Ent.free
 | 5=>⟨0,0,0,0,0⟩
 | 6=>Fl.zero
 | 7=>I64.mk 0
 | 8=>⟨[]⟩
 | _+9=>I64.mk 0
def H5:(t:Nat)→List Value→Option (UEl t)
 | 0,[.int .i64 x]=>some (I64.mk x)
 | 1,[.int .u32 x]=>some (U32.mk x)
 | 2,[.int .u8 x]=>some (U8.mk x)
 | 3,[.bool x]=>some (Bl.mk x)
 | 4,[.int .i64 a,.int .i64 b,.int .i64 c,.int .i64 d,.bool e]=>some (Ent.mk a b c d e)
 | 5,[.int .i64 a,.int .u32 b,.int .u32 c,.int .u32 d,.int .u32 e]=>some (LOp.mk a b c d e)
 | _,_=>none
theorem g8 {t:Nat} {cs:List Value} {x:UEl t}(h:H5 t cs=some x):(UEn t).enc x=cs:=by
 unfold H5 at h
 split at h<;>first | (injection h with h;subst h;rfl) | cases h
def LH(cs:List Value):Option W26:=match yV cs with
 | some l=>(match Nat.beq l.length 26 with
  | true=>some ⟨l⟩
  | false=>none)
 | none=>none
theorem JS {cs:List Value} {x:W26}(h:LH cs=some x):x.c=cs:=by
 unfold LH at h
 split at h
 ·rename_i l hl
  split at h
  ·rename_i hn
   injection h with h
   subst h
   have hn:=Nat.eq_of_beq_eq_true hn
   rw [n8 hl]
   apply List.ext_getElem?
   intro j
   show(aN _ _)[j]? =_
   rw [← aQ,bp,List.getElem?_map,List.getElem?_map]
   cases hj:nth (upN 0 26) j with
   | none=>rw [List.getElem?_eq_none];rfl;(by_cases h9:j<26;(have h8:=cf (l:=upN 0 26) (i:=j) (by rw [gL];exact h9);rw [hj]at h8;obtain⟨_,h8⟩:=h8;cases h8);omega)
   | some i=>
    have h1:=jC hj
    have h2:=aX hj
    rw [gL]at h2
    have h3:i=j:=by omega
    subst h3
    show some (Value.int .u32 (l.getD i (U32.mk 0)).v)=_
    rw [List.getD_eq_getElem?_getD,List.getElem?_eq_getElem (by omega)];rfl
  ·cases h
 ·cases h
def M0:(t:Nat)→List Value→Option (UEl t)
 | 6,cs=>yX cs
 | 8,cs=>LH cs
 | t,cs=>H5 t cs
theorem Ka:∀ {t:Nat} {cs:List Value} {x:UEl t},M0 t cs=some x→(UEn t).enc x=cs
 | 6,_,_,h=>(oY h).1.symm
 | 0,_,_,h=>g8 (t:=0) h
 | 1,_,_,h=>g8 (t:=1) h
 | 2,_,_,h=>g8 (t:=2) h
 | 3,_,_,h=>g8 (t:=3) h
 | 4,_,_,h=>g8 (t:=4) h
 | 5,_,_,h=>g8 (t:=5) h
 | 7,_,_,h=>g8 (t:=7) h
 | 8,_,_,h=>JS h
 | t+9,_,_,h=>g8 (t:=t+9) h
def UE:Els:=⟨UEl,UEn,UDf,M0,Ka⟩
def Nj:Kind UE where
 ty:=Mem
 pred:=fun r s X w=>∃L:eW,r 0=L.g∧(∀k,L.X k↔X k)∧cv w L s
 ch:=fun⟨L,h1,h2,h3⟩ q hb=>⟨L,h1,h2,h3.ch q fun k hk=>hb k ((h2 k).1 hk)⟩
 lt:=fun⟨_,_,h2,h3⟩ k hk=>h3.lt k ((h2 k).2 hk)
 iv:=true
 inv:=Mem.Wf
 iu:=fun⟨_,_,_,h⟩=>⟨h.u32,h.er⟩
def kPd:Kind UE where
 ty:=Pd
 pred:=fun r s X w=>∃a,(∀k,(k=r 0∨k=a)↔X k)∧PdP w (r 0) a (r 1) s
 ch:=fun⟨a,h1,h2⟩ q hb=>⟨a,h1,h2.ch q (hb _ ((h1 _).1 (.inl rfl))) (hb _ ((h1 _).1 (.inr rfl)))⟩
 lt:=fun⟨a,h1,h2⟩ k hk=>by rcases(h1 k).2 hk with rfl | rfl;exact h2.lt.1;exact h2.lt.2
 iv:=true
 inv:=Pd.Ok
 iu:=fun⟨_,_,h⟩=>h.ok
 fo:=fun _ s path off=>match path,off with
  | 0,0=>some (.o 1 0)
  | 0,1=>some (.v (.int .i64 s.aF))
  | _,_=>none
 sf:=by
  rintro r s X w path off f v ⟨a,hX,hD⟩ hf hv
  have h:=Mq hD
  split at hf
  ·injection hf with hf;subst hf;simp only [fvV]at hv
   exact⟨(hX _).1 (.inl rfl),by rw [← hv];exact h.1⟩
  ·injection hf with hf;subst hf;simp only [fvV]at hv
   exact⟨(hX _).1 (.inl rfl),by rw [← hv];exact h.2⟩
  ·cases hf
 fs:=fun _ s path off v=>match path,off,v with
  | 0,1,.int .i64 x=>some (0≤x∧x≤64,s.gk x)
  | _,_,_=>none
 sd:=by
  rintro r s s' X w path off v c ⟨a,hX,hD⟩ hf hc K hK
  split at hf
  ·simp only [Option.some.injEq,Prod.mk.injEq]at hf
   obtain⟨rfl,rfl⟩:=hf
   exact hD.Ea hc fun w' h' q=>hK w' ⟨a,hX,h'⟩ (q.mono fun k hk=>(hX k).1 (.inl hk))
  ·cases hf
def MC:Kind UE where
 ty:=Mem
 pred:=fun r s X w=>∃L:fL,(∀k,L.X k↔X k)∧bU w (r 0) L s
 ch:=fun⟨L,h2,h3⟩ q hb=>⟨L,h2,h3.ch q fun k hk=>hb k ((h2 k).1 hk)⟩
 lt:=fun⟨_,h2,h3⟩ k hk=>h3.lt k ((h2 k).2 hk)
 iv:=true
 inv:=Mem.Wf
 iu:=fun⟨_,_,h⟩=>⟨h.u32,h.er⟩
def Ni:Kind UE where
 ty:=Pd
 pred:=fun r s X w=>(∀k,(k=r 0∨k=r 2)↔X k)∧oo w (r 0) (r 1) (r 2) (r 3) s
 ch:=fun⟨h1,h2⟩ q hb=>⟨h1,h2.ch q (hb _ ((h1 _).1 (.inl rfl))) (hb _ ((h1 _).1 (.inr rfl)))⟩
 lt:=fun⟨h1,h2⟩ k hk=>by rcases(h1 k).2 hk with rfl | rfl;exact h2.lt.1;exact h2.lt.2
 li:=fun r s i=>match i with
  | 0=>some ⟨4,some ⟨r 2,0,none⟩,r 3,s.aJ⟩
  | _=>none
 pN:=by
  rintro r s X w i L h hl
  split at hl
  ·injection hl with hl;subst hl;exact Le h.1 h.2
  ·cases hl
 st:=fun _ s j i tt=>match j,tt with
  | 0,4=>fun x=>some ((Ent.ok x=true∧Ent.owner x<((s.n:Nat):Int)),s.set i x)
  | _,_=>fun _=>none
 rn:=by
  rintro r s s' X w j i L x y off vs c h hl hx ho hy hs hc K hK
  split at hl
  ·injection hl with hl
   subst hl
   simp only [Option.some.injEq,Prod.mk.injEq]at hs
   obtain⟨rfl,rfl⟩:=hs
   exact h.2.Lb hx ho hy hc fun w' h' q=>hK w' ⟨h.1,h'⟩ (q.mono fun k hk=>(h.1 k).1 (.inr hk))
  ·cases hl
 iv:=true
 inv:=Pd.Ok
 iu:=fun⟨_,h⟩=>h.ok
 fo:=fun _ s path off=>match path,off with
  | 0,0=>some (.o 1 0)
  | 0,1=>some (.l 0)
  | 0,2=>some (.v (.int .i64 s.aF))
  | _,_=>none
 sf:=by
  rintro r s X w path off f v ⟨hX,hD⟩ hf hv
  have h:=Lf hD
  split at hf
  ·injection hf with hf;subst hf;simp only [fvV]at hv
   exact⟨(hX _).1 (.inl rfl),by rw [← hv];exact h.1⟩
  ·injection hf with hf;subst hf;simp only [fvV]at hv
   exact⟨(hX _).1 (.inl rfl),by rw [← hv];exact h.2.1⟩
  ·injection hf with hf;subst hf;simp only [fvV]at hv
   exact⟨(hX _).1 (.inl rfl),by rw [← hv];exact h.2.2⟩
  ·cases hf
 fs:=fun _ s path off v=>match path,off,v with
  | 0,2,.int .i64 x=>some (0≤x∧x≤64,s.gk x)
  | _,_,_=>none
 sd:=by
  rintro r s s' X w path off v c ⟨hX,hD⟩ hf hc K hK
  split at hf
  ·simp only [Option.some.injEq,Prod.mk.injEq]at hf
   obtain⟨rfl,rfl⟩:=hf
   exact hD.Ea hc fun w' h' q=>hK w' ⟨hX,h'⟩ (q.mono fun k hk=>(hX k).1 (.inl hk))
  ·cases hf
def Nk:Kind UE where
 ty:=Dg
 pred:=fun r s X w=>∃L:DgL,(∀k,L.X (r 0) k↔X k)∧oB w (r 0) L s
 ch:=fun⟨L,h2,h3⟩ q hb=>⟨L,h2,h3.ch q fun k hk=>hb k ((h2 k).1 hk)⟩
 lt:=fun⟨_,h2,h3⟩ k hk=>h3.lt k ((h2 k).2 hk)
def MB(b:Nat):Kind UE where
 ty:=List Int
 pred:=fun _ s X w=>(∀k,k=b↔X k)∧iP w b s
 ch:=fun⟨h2,h3⟩ q hb=>⟨h2,h3.ch q fun k hk=>hb k ((h2 k).1 hk)⟩
 lt:=fun⟨h2,h3⟩ k hk=>h3.lt k ((h2 k).2 hk)
def kU:Kind UE where
 ty:=List U32
 pred:=fun r s X w=>(∀k,k=r 0↔X k)∧zu w (r 0) s
 ch:=fun⟨h2,T,h3⟩ q hb=>⟨h2,T,q.blk h3 (hb _ ((h2 _).1 rfl))⟩
 lt:=fun⟨h2,T,h3⟩ k hk=>by rw [(h2 k).2 hk];exact h3.lt
 li:=fun r s i=>match i with
  | 0=>some ⟨1,some ⟨r 0,0,none⟩,s.length,s⟩
  | _=>none
 pN:=by
  rintro r s X w i L h hl
  split at hl
  ·injection hl with hl;subst hl;exact C9 h.1 h.2
  ·cases hl
 st:=fun _ s j i tt=>match j,tt with
  | 0,1=>fun x=>some (True,s.set i x)
  | _,_=>fun _=>none
 rn:=by
  rintro r s s' X w j i L x y off vs c h hl hx ho hy hs hc K hK
  split at hl
  ·injection hl with hl
   subst hl
   simp only [Option.some.injEq,Prod.mk.injEq]at hs
   obtain⟨rfl,rfl⟩:=hs
   exact Jh h.1 h.2 hx ho hy hK
  ·cases hl
 ix:=fun path off=>match path,off with
  | 0,0=>some 0
  | _,_=>none
 sa:=by
  rintro r s path off i L h hl
  split at h
  ·injection h with h;subst h
   injection hl with hl;subst hl;rfl
  ·cases h
 wl:=fun _ s path off n=>match path,off with
  | 0,0=>some (s.length=n,aN (fun j=>.int .u32 (s.getD j (U32.mk 0)).v) (upN 0 n))
  | _,_=>none
 uO:=by
  rintro r s X w path off n c cs h hw hc
  split at hw
  ·simp only [Option.some.injEq,Prod.mk.injEq]at hw
   obtain⟨rfl,rfl⟩:=hw
   exact Jg h.1 h.2 hc
  ·cases hw
 ws:=fun _ s path off vs=>match path,off with
  | 0,0=>(match yV vs with
   | some l=>some (s.length=l.length,l)
   | none=>none)
  | _,_=>none
 qU:=by
  rintro r s s' X w path off vs c h hs hc K hK
  split at hs
  ·split at hs
   ·rename_i l hl
    simp only [Option.some.injEq,Prod.mk.injEq]at hs
    obtain⟨rfl,rfl⟩:=hs
    exact Jf h.1 h.2 hl hc hK
   ·cases hs
  ·cases hs
def kFl:Kind UE where
 ty:=Fl
 pred:=fun r s X w=>(∀k,k=r 0↔X k)∧FlP w (r 0) s
 ch:=fun⟨h2,h3,T,h4⟩ q hb=>⟨h2,h3,T,q.blk h4 (hb _ ((h2 _).1 rfl))⟩
 lt:=fun⟨h2,_,T,h3⟩ k hk=>by rw [(h2 k).2 hk];exact h3.lt
 li:=fun r s i=>match i with
  | 0=>some ⟨1,some ⟨r 0,0,none⟩,s.rs.length,s.rs⟩
  | _=>none
 pN:=by
  rintro r s X w i L h hl
  split at hl
  ·injection hl with hl;subst hl;exact h.2.li h.1
  ·cases hl
 fs:=fun _ s path off v=>match path,off,v with
  | 0,15,.int .u32 x=>some (True,{s with pc:=x})
  | 0,16,.bool x=>some (True,{s with z:=x})
  | 0,17,.bool x=>some (True,{s with n:=x})
  | 0,18,.bool x=>some (True,{s with l:=x})
  | _,_,_=>none
 sd:=by
  rintro r s s' X w path off v c h hf hc K hK
  split at hf
  all_goals first
   | cases hf;done
   | (simp only [Option.some.injEq,Prod.mk.injEq]at hf
      obtain⟨rfl,rfl⟩:=hf
      exact FlP.st h.2 (by omega) (by exact h.2.len) (by rfl) fun w' h' q=>hK w' ⟨h.1,h'⟩ (q.mono fun k hk=>(h.1 k).1 hk))
 st:=fun _ s j i tt=>match j,tt with
  | 0,1=>fun x=>some (True,s.Be i x)
  | _,_=>fun _=>none
 rn:=by
  rintro r s s' X w j i L x y off vs c h hl hx ho hy hs hc K hK
  split at hl
  ·injection hl with hl
   subst hl
   simp only [Option.some.injEq,Prod.mk.injEq]at hs
   obtain⟨rfl,rfl⟩:=hs
   exact h.2.stR h.1 hx ho hy hK
  ·cases hl
 iv:=true
 inv:=Fl.Ok
 iu:=fun h=>h.2.len
 fo:=fun _ s path off=>match path,off with
  | 0,15=>some (.v (.int .u32 s.pc))
  | 0,16=>some (.v (.bool s.z))
  | 0,17=>some (.v (.bool s.n))
  | 0,18=>some (.v (.bool s.l))
  | _,_=>none
 sf:=by
  rintro r s X w path off f v ⟨hX,hl,T,hb⟩ hf hv
  split at hf
  all_goals first
   | cases hf;done
   | (injection hf with hf
      subst hf
      simp only [fvV,Option.some.injEq]at hv
      exact⟨(hX _).1 rfl,by rw [← hv];exact hb.cell rfl⟩)
 ix:=fun path off=>match path,off with
  | 0,0=>some 0
  | _,_=>none
 sa:=by
  rintro r s path off i L h hl
  split at h
  ·injection h with h;subst h
   injection hl with hl;subst hl;rfl
  ·cases h
 wl:=fun _ s path off n=>match path,off,n with
  | 0,0,19=>some (True,s.cells)
  | _,_,_=>none
 uO:=by
  rintro r s X w path off n c cs ⟨hX,hl,T,hb⟩ hw hc
  split at hw
  ·simp only [Option.some.injEq,Prod.mk.injEq]at hw
   obtain⟨rfl,rfl⟩:=hw
   exact⟨(hX _).1 rfl,fun j u hj=>by rw [Nat.zero_add];exact hb.cell (by simpa using hj)⟩
  ·cases hw
 ws:=fun _ _ path off vs=>match path,off with
  | 0,0=>(match yX vs with
   | some l=>some (True,l)
   | none=>none)
  | _,_=>none
 qU:=by
  rintro r s s' X w path off vs c h hs hc K hK
  split at hs
  ·split at hs
   ·rename_i l hl
    simp only [Option.some.injEq,Prod.mk.injEq]at hs
    obtain⟨rfl,rfl⟩:=hs
    obtain⟨e,h2⟩:=oY hl
    subst e
    exact h.2.all h2 fun w' h' q=>hK w' ⟨h.1,h'⟩ (q.mono fun k hk=>(h.1 k).1 hk)
   ·cases hs
  ·cases hs
structure Wt where
 A:Option Addr
 c:Nat
 l:List U32
def kWt:Kind UE where
 ty:=Wt
 pred:=fun _ s X w=>Rd w X s.A s.l.length s.c s.l
 ch:=fun h q hb=>h.ch q hb
 lt:=fun h=>h.lt
 li:=fun _ s i=>match i with
  | 0=>some ⟨1,s.A,s.c,s.l⟩
  | _=>none
 pN:=by
  rintro r s X w i L h hl
  split at hl
  ·injection hl with hl;subst hl;exact h
  ·cases hl
structure Sv where
 D:DB
 pD:Nat
 pM:Nat
structure Sv.Ok(s:Sv):Prop where
 wf:s.D.mem.Wf
 pd:s.D.pd.Ok
def kSv:Kind UE where
 ty:=Sv
 pred:=fun _ s X w=>∃(a:Nat)(L:eW),L.g=s.pM∧DBP w ⟨s.pD,a,L⟩ s.D∧∀k,gj.X ⟨s.pD,a,L⟩ k↔X k
 ch:=fun⟨a,L,h1,h2,h3⟩ q hb=>⟨a,L,h1,h2.ch q fun k hk=>hb k ((h3 k).1 hk),h3⟩
 lt:=fun⟨_,_,_,h2,h3⟩ k hk=>h2.lt k ((h3 k).2 hk)
 iv:=true
 inv:=Sv.Ok
 iu:=fun⟨_,_,_,h,_⟩=>⟨⟨h.mem.u32,h.mem.er⟩,h.pd.ok⟩
def UK:Nat→Kind UE
 | 0=>Nj
 | 1=>kPd
 | 2=>MC
 | 3=>Ni
 | 4=>Nk
 | 5=>MB 0
 | 6=>MB 1
 | 7=>kU
 | 8=>kWt
 | 9=>kSv
 | 10=>kFl
 | _=>Kind.none UE
abbrev bJ(t:Nat)(r:Nat→Nat)(s:(UK t).ty)(X:Nat→Prop)(w:World):Prop:=(UK t).pred r s X w
theorem H4 {t:Nat} {r:Nat→Nat} {s:(UK t).ty} {X:Nat→Prop} {w:World}(h:bJ t r s X w):(UK t).inv s:=(UK t).iu h
def UMk:TypeId→List Value→Option ((t:Nat)×(UK t).ty)
 | 69,cs=>(match yV cs with
  | some l=>some ⟨7,l⟩
  | none=>none)
 | 276,cs=>(match yX cs with
  | some s=>some ⟨10,s⟩
  | none=>none)
 | _,_=>none
theorem LX {T:TypeId} {cs:List Value} {q:(t:Nat)×(UK t).ty} {w:World} {g:Nat}(h:UMk T cs=some q)(hb:Blk w g ⟨cs⟩ T):(UK q.1).pred (fun _=>g) q.2 (fun k=>k=g) w:=by
 unfold UMk at h
 split at h
 ·split at h
  ·rename_i l hl
   injection h with h
   subst h
   have:=n8 hl
   subst this
   exact(⟨fun k=>Iff.rfl,_,hb.cast (by simp [aY])⟩:(∀k,k=g↔k=g)∧zu w g l)
  ·cases h
 ·split at h
  ·rename_i s hs
   injection h with h
   subst h
   obtain⟨rfl,h2⟩:=oY hs
   exact(⟨fun k=>Iff.rfl,h2,_,hb⟩:(∀k,k=g↔k=g)∧FlP w g s)
  ·cases h
 ·cases h
def Un:Uni:=Uni.of UE UK (fun t=>match t with
 | 3=>some 0
 | 29=>some 1
 | 4=>some 3
 | 50=>some 4
 | 96=>some 4
 | 31=>some 5
 | _=>none) UMk LX
theorem uO0 {a b:Mem}(h:a=b):Upd.ob (U:=Un) 0 a= .ob 0 b:=congrArg (Upd.ob (U:=Un) 0) h
theorem rO0 {r:Nat→Nat} {a b:Mem}(h:a=b):Res.ob (U:=Un) 0 r a= .ob 0 r b:=congrArg (Res.ob (U:=Un) 0 r) h
theorem uO1 {a b:Pd}(h:a=b):Upd.ob (U:=Un) 1 a= .ob 1 b:=congrArg (Upd.ob (U:=Un) 1) h
theorem rO1 {r:Nat→Nat} {a b:Pd}(h:a=b):Res.ob (U:=Un) 1 r a= .ob 1 r b:=congrArg (Res.ob (U:=Un) 1 r) h
theorem uO2 {a b:Mem}(h:a=b):Upd.ob (U:=Un) 2 a= .ob 2 b:=congrArg (Upd.ob (U:=Un) 2) h
theorem rO2 {r:Nat→Nat} {a b:Mem}(h:a=b):Res.ob (U:=Un) 2 r a= .ob 2 r b:=congrArg (Res.ob (U:=Un) 2 r) h
theorem uO3 {a b:Pd}(h:a=b):Upd.ob (U:=Un) 3 a= .ob 3 b:=congrArg (Upd.ob (U:=Un) 3) h
theorem rO3 {r:Nat→Nat} {a b:Pd}(h:a=b):Res.ob (U:=Un) 3 r a= .ob 3 r b:=congrArg (Res.ob (U:=Un) 3 r) h
end Go.Proofs.YtinhphjfnedhgaaGreatDoor
namespace Go.Proofs.YtinhphjfnedhgaaGreatDoor
open Go.Proofs.Tryz (prog)
open Go Go.RowKit V
open Go.IntKind (i64 u32 u64)
section
namespace V
section
variable {U:Uni}
theorem aM.more {rs:List (Res U)} {X:Nat→Nat→Prop} {w w':World} {Q:Ou U→Prop} {v:Value} {k:Option Kn} {Z:Nat→Prop} {r:Res U}(hs:Sat rs X w)(q:Pu w w')(hr:RS Z w' r)(hz:∀k,Z k→w.heap.size≤k)(hQ:Q ⟨v,k,[],[r],[]⟩)(hk:KnO (rs++ [r]) v k):aM rs [] X w Q (.returned v) w':=by
 refine⟨_,rs,fun i=>if i=rs.length then Z else X i,fv hk,hQ,rfl,⟨⟨fun i r' Oh=>?_,fun i j hi hj OS k O4 OO=>?_⟩,q.mono fun k hk=>hk.elim,fun i hi _=>if_neg (by omega),fun i hi=>(by cases hi),fun i h1 h2 k hk=>?_,.inr hk,fun _ k hk=>by cases hk⟩⟩
 ·by_cases hi:i<rs.length
  ·rw [bm,if_pos hi]at Oh
   simp only [if_neg (show ¬i=rs.length by omega)]
   exact(hs.res i r' Oh).ch q fun _ _ h=>h
  ·have h1:=aX Oh
   simp at h1
   obtain rfl:i=rs.length:=by omega
   rw [bm,if_neg (by omega),Nat.sub_self]at Oh
   obtain rfl:r=r':=by simpa [nth]using Oh
   simpa using hr
 ·simp at hi hj
  by_cases h1:i=rs.length
  ·have h2:¬j=rs.length:=by omega
   simp only [h1,if_true,if_neg h2]at O4 OO
   have:=hs.lt (i:=j) (by omega) k OO
   have:=hz k O4
   omega
  ·simp only [if_neg h1]at O4
   by_cases h2:j=rs.length
   ·simp only [h2,if_true]at OO
    have:=hs.lt (i:=i) (by omega) k O4
    have:=hz k OO
    omega
   ·simp only [if_neg h2]at OO
    exact hs.dis i j (by omega) (by omega) OS k O4 OO
 ·simp at h2
  obtain rfl:i=rs.length:=by omega
  simp only [if_true]at hk
  exact hz k hk
theorem GW {t:Nat} {T:TypeId} {A:Option Addr} {n c:Nat} {l:List (U.el t)} {Z:Nat→Prop} {w:World}(h:Own w Z T A n c l):RS (U:=U) (fun k=>Z k∧k<w.heap.size) w (.lst t true T A c l):=by
 have hl:=h.len
 subst hl
 exact⟨h.within,fun k hk=>hk.2⟩
end
end V
section
variable {r rm:Nat→Nat} {E:Pd} {m:Mem} {X:Nat→Nat→Prop} {w w':World}
theorem lv(hs:Sat (U:=Un) [.ob 0 rm m] X w):∃L:eW,rm 0=L.g∧cv w L m∧∀k,L.X k↔X 0 k:=by
 obtain⟨L,h1,h2,h3⟩:=(hs.res 0 _ rfl:bJ 0 rm m (X 0) w)
 exact⟨L,h1,h3,h2⟩
theorem yq(hs:Sat (U:=Un) [.ob 1 r E,.ob 0 rm m] X w)(hl:aC (U:=Un) [.ob 1 r E,.ob 0 rm m] fr0 [(.l 0 1,.p (.obj 1 0 0))])(hn:E.n=m.S):
 ∃(a:Nat)(L:eW),rm 0=L.g∧r 1=L.g∧DBP w ⟨r 0,a,L⟩ (E.on m)∧(∀k,(k=r 0∨k=a)↔X 0 k)∧(∀k,L.X k↔X 1 k):=by
 obtain⟨a,h1,h2⟩:=(hs.res 0 _ rfl:bJ 1 r E (X 0) w)
 obtain⟨L,h3,h4,h5⟩:=(hs.res 1 _ rfl:bJ 0 rm m (X 1) w)
 obtain⟨t',r',s',Tk,hk⟩:=hl _ _ (List.mem_singleton.2 rfl)
 simp only [nth,Option.some.injEq,Res.ob.injEq]at Tk
 obtain⟨rfl,rfl,_⟩:=Tk
 have hk:some (Value.pointer (some ⟨rm 0,0,none⟩))=some (Value.pointer (some ⟨r 1,0,none⟩)):=hk
 simp only [Option.some.injEq,Value.pointer.injEq,Addr.mk.injEq]at hk
 have hg:r 1=L.g:=by rw [← h3];exact hk.1.symm
 rw [hg]at h2
 have hx:∀k,(k=r 0∨k=a)→¬L.X k:=fun k hk hL=>hs.dis 0 1 (by simp) (by simp) (by omega) k ((h1 k).1 hk) ((h4 k).1 hL)
 exact⟨a,L,h3,hg,h2.db h5 hn ⟨hx _ (.inl rfl),hx _ (.inr rfl)⟩,h1,h4⟩
theorem Df {a:Nat} {L:eW} {D:DB} {Q:Ou Un→Prop} {v:Value} {k:Option Kn}(hs:Sat (U:=Un) [.ob 1 r E,.ob 0 rm m] X w)(QT:∀k,(k=r 0∨k=a)↔X 0 k)(Rm:∀k,L.X k↔X 1 k)(hg:rm 0=L.g)(hr:r 1=L.g)(h:DBP w' ⟨r 0,a,L⟩ D)(q:Ch (gj.X ⟨r 0,a,L⟩) w w')
 (hQ:Q ⟨v,k,[.ob 1 D.pd,.ob 0 D.mem],[],[]⟩)(hk:KnO (U:=Un) [.ob 1 r D.pd,.ob 0 rm D.mem] v k):aM (U:=Un) [.ob 1 r E,.ob 0 rm m] [0,1] X w Q (.returned v) w':=by
 refine⟨_,[.ob 1 r D.pd,.ob 0 rm D.mem],X,fv hk,hQ,by simp [bx,dz,nth,cJ],⟨⟨fun i r' Oh=>?_,hs.dis⟩,q.mono fun k hk=>?_,fun i hi hm=>rfl,fun i hi k hk=>.inl hk,fun i h1 h2=>by simp at h1 h2;omega,.inr (by simpa using hk),fun _ k hk=>by cases hk⟩⟩
 ·match i with
  | 0=>
   simp only [List.append_nil,nth,Option.some.injEq]at Oh
   subst Oh
   exact(⟨a,QT,by rw [hr];exact h.pd⟩:bJ 1 r D.pd (X 0) w')
  | 1=>
   simp only [List.append_nil,nth,Option.some.injEq]at Oh
   subst Oh
   exact(⟨L,hg,Rm,h.mem⟩:bJ 0 rm D.mem (X 1) w')
  | i+2=>simp [nth]at Oh
 ·rcases hk with hk | hk | hk
  ·exact⟨0,by simp,(QT k).1 (.inl hk)⟩
  ·exact⟨0,by simp,(QT k).1 (.inr hk)⟩
  ·exact⟨1,by simp,(Rm k).1 hk⟩
theorem Mk(hs:Sat (U:=Un) [.ob 3 r E,.ob 2 rm m] X w)(hl:aC (U:=Un) [.ob 3 r E,.ob 2 rm m] fr0 [(.l 0 1,.p (.obj 1 0 0))])(hn:E.n=m.S):
 ∃L:fL,jk w (r 0) ⟨r 0,r 2,r 3,L⟩ (E.on m):=by
 obtain⟨h1,h2⟩:=(hs.res 0 _ rfl:bJ 3 r E (X 0) w)
 obtain⟨L,h4,h5⟩:=(hs.res 1 _ rfl:bJ 2 rm m (X 1) w)
 obtain⟨t',r',s',Tk,hk⟩:=hl _ _ (List.mem_singleton.2 rfl)
 simp only [nth,Option.some.injEq,Res.ob.injEq]at Tk
 obtain⟨rfl,rfl,_⟩:=Tk
 have hk:some (Value.pointer (some ⟨rm 0,0,none⟩))=some (Value.pointer (some ⟨r 1,0,none⟩)):=hk
 simp only [Option.some.injEq,Value.pointer.injEq,Addr.mk.injEq]at hk
 have hg:r 1=L.g:=by rw [h5.gq];exact hk.1.symm
 have hS:(E.on m).S=E.n:=hn.symm
 have hx:∀k,(k=r 0∨k=r 2)→¬L.X k:=fun k hk hL=>hs.dis 0 1 (by simp) (by simp) (by omega) k ((h1 k).1 hk) ((h4 k).1 hL)
 refine⟨L,rfl,?_,?_,?_,⟨fun p hp=>?_,h2.ok.aF⟩,by rw [hS];exact h2.pos,h2.ne,hx _ (.inl rfl),hx _ (.inr rfl)⟩
 ·have:=h2.hd
  rw [hg]at this
  rw [hS]
  exact this
 ·have:=h2.es
  unfold DB.aJ
  rw [hS]
  exact this
 ·show bU w L.g L m
  rw [h5.gq];exact h5
 ·rw [hS]at hp ⊢
  exact h2.ok.ent p hp
end
end
end Go.Proofs.YtinhphjfnedhgaaGreatDoor
namespace Go.Proofs.YtinhphjfnedhgaaGreatDoor
open Go.Proofs.Tryz (prog)
open Go Go.RowKit V
open Go.IntKind (i64 u32 u64)
section
set_option maxRecDepth 100000
end
section
set_option maxRecDepth 100000
def sA(ma:Bool)(mb:Int)(mc:Bool)(md:Bool)(R:aD)(w:World):Prop:=
 ∀(gv:Nat)(wv:World),gv=w.heap.size→wv=w.alloc (.cells #[(.bool ma),(.int .i64 mb),(.bool mc),(.bool md)] 128)→
 ∃J:Bool→World→Prop,(
  ∃x9:Int,wv.cell? (((Addr.mk gv 0 none).add 0).add 1)=some (.int .i64 x9)∧
  split (decide ((x9:Int)<0)) (
   J true wv) (
   ∃P6:Int,wv.cell? (((Addr.mk gv 0 none).add 0).add 1)=some (.int .i64 P6)∧
   J (decide ((P6:Int)>63)) wv))∧∀(Oi:Nat→Value)(OJ:Bool),∀Nw,J OJ Nw→
 split OJ (
  R (.tuple #[(.int .u32 0),(.int .i64 4)]) Nw) (
  ∃J1:Bool→World→Prop,(
   ∃RX:Bool,Nw.cell? ((Addr.mk gv 0 none).add 3)=some (.bool RX)∧
   split RX (
    ∃O1:Bool,Nw.cell? (((Addr.mk gv 0 none).add 0).add 0)=some (.bool O1)∧
    J1 (!O1) Nw) (
    J1 false Nw))∧∀(OW:Nat→Value)(Qh:Bool),∀Ny,J1 Qh Ny→
  split Qh (
   R (.tuple #[(.int .u32 0),(.int .i64 1)]) Ny) (
   ∃SB:Int,Ny.cell? (((Addr.mk gv 0 none).add 0).add 1)=some (.int .i64 SB)∧
   ∀NF:Int,NF=(u32.wrap (BitVec.ofInt u32.bits (u32.wrap ((u32.wrap SB:Int)*2 ^ 8)) ||| BitVec.ofInt u32.bits 1).toNat)→
   ∃x33:Bool,Ny.cell? (((Addr.mk gv 0 none).add 0).add 0)=some (.bool x33)∧
   ∃TY:Bool,Ny.cell? ((Addr.mk gv 0 none).add 2)=some (.bool TY)∧
   ∃TX:Bool,Ny.cell? ((Addr.mk gv 0 none).add 3)=some (.bool TX)∧
   ∀(Oa:Nat)(NI:World),Oa=Ny.heap.size→NI=Ny.alloc (.cells #[(.bool x33),(.int .u32 2),(.bool TY),(.int .u32 4),(.bool TX),(.int .u32 8)] 255)→
   ∃I:Nat→Int→Int→World→Prop,(∃m,I m NF 0 NI)∧∀(m:Nat)(Ro:Nat→Value)(NW:Int)(Qj:Int),∀NT,I m NW Qj NT→
   split (decide ((Qj:Int)<((3:Nat):Int))) (
    (0≤(Qj:Int)∧(Qj:Int)<((3:Nat):Int))∧
    ∃Zv:Bool,∃Zu:Int,(NT.cell? (((Addr.mk Oa 0 none).add (Int.toNat Qj*2)).add 0)=some (.bool Zv)∧NT.cell? (((Addr.mk Oa 0 none).add (Int.toNat Qj*2)).add 1)=some (.int .u32 Zu))∧
    ∀(Ox:Nat)(NU:World),Ox=NT.heap.size→NU=NT.alloc (.cells (#[(.bool false),(.int .u32 0)]) 255)→
    aA NU (Addr.mk Ox 0 none) [(.bool Zv),(.int .u32 Zu)] fun N1=>
    ∃Zc:Bool,N1.cell? ((Addr.mk Ox 0 none).add 0)=some (.bool Zc)∧
    split Zc (
     ∃VR:Int,N1.cell? ((Addr.mk Ox 0 none).add 1)=some (.int .u32 VR)∧
     ∀Oy:Int,Oy=(u32.wrap (BitVec.ofInt u32.bits NW ||| BitVec.ofInt u32.bits VR).toNat)→
     ∃m1,m1<m∧I m1 Oy (i64.wrap (Qj+1)) N1) (
     ∃m1,m1<m∧I m1 NW (i64.wrap (Qj+1)) N1)) (
    R (.tuple #[(.int .u32 NW),(.int .i64 0)]) NT)))
def BW:Ann:=(.node none .leaf (.node none (.node none (.node (some ⟨[(16,.one (.bool))],[7,8,9,10,11,12,13,14,15,16]⟩) .leaf .leaf) .leaf) (.node none (.node none (.node (some ⟨[(24,.one (.bool))],[17,18,19,20,21,22,23,24]⟩) .leaf .leaf) .leaf) (.node none .leaf (.node none (.node none .leaf (.node none (.node (some ⟨[(4,.one (.int .u32)),(43,.one (.int .i64))],[4,6,43,44,45,46,47,48,49,50,51,52,53]⟩) .leaf .leaf) .leaf)) .leaf)))))
theorem WSecond_eq(ma:Bool)(mb:Int)(mc:Bool)(md:Bool)(R:aD)(w:World):sA ma mb mc md R w=vcF prog aK [4] Tryz.f133 BW [(.agg #[(.bool ma),(.int .i64 mb),(.bool mc),(.bool md)])] R none w:=by kernel_rfl
theorem tV(ma:Bool)(mb:Int)(mc:Bool)(md:Bool) {R:aD} {w:World}(h:sA ma mb mc md R w):Calls prog 133 #[(.agg #[(.bool ma),(.int .i64 mb),(.bool mc),(.bool md)])] w fun e w'=>∃v,e= .returned v∧R v w':=
 ak Tryz.func133 aw aa ((WSecond_eq ma mb mc md R w).mp h)
end
section
set_option maxRecDepth 100000
def iF(x:Int)(k:Int)(R:aD)(w:World):Prop:=
 ∀s:Int,s=(u64.wrap (BitVec.ofInt u64.bits (u64.wrap k) &&& BitVec.ofInt u64.bits 31).toNat)→
 iH s fun Ov=>
 iH (u64.wrap (32 - s)) fun UA=>
 R (.int .u32 (u32.wrap (BitVec.ofInt u32.bits (u32.wrap ((x:Int)*2 ^ (min Ov u32.bits))) ||| BitVec.ofInt u32.bits ((x:Int).fdiv (2 ^ (min UA u32.bits)))).toNat)) w
def mA:Ann:= .leaf
theorem BitsRotateLeft32_eq(x:Int)(k:Int)(R:aD)(w:World):iF x k R w=vcF prog aK [5] Tryz.f200 mA [(.int .u32 x),(.int .i64 k)] R none w:=by kernel_rfl
theorem kX(x:Int)(k:Int) {R:aD} {w:World}(h:iF x k R w):Calls prog 200 #[(.int .u32 x),(.int .i64 k)] w fun e w'=>∃v,e= .returned v∧R v w':=
 ak Tryz.func200 aw aa ((BitsRotateLeft32_eq x k R w).mp h)
def vw(wv:Int)(n:Int)(R:aD)(w:World):Prop:=
 Calls prog 200 #[(.int .u32 wv),(.int .i64 (i64.wrap (0 - n)))] w fun e Nw=>
 ∃x8:Int,e= .returned (.int .u32 x8)∧
 R (.int .u32 x8) Nw
def EW:Ann:= .leaf
theorem SRight_eq(wv:Int)(n:Int)(R:aD)(w:World):vw wv n R w=vcF prog aK [] Tryz.f193 EW [(.int .u32 wv),(.int .i64 n)] R none w:=by kernel_rfl
theorem wW(wv:Int)(n:Int) {R:aD} {w:World}(h:vw wv n R w):Calls prog 193 #[(.int .u32 wv),(.int .i64 n)] w fun e w'=>∃v,e= .returned v∧R v w':=
 ak Tryz.func193 aw aa ((SRight_eq wv n R w).mp h)
def tu(wv:Int)(n:Int)(R:aD)(w:World):Prop:=
 iH n fun s7=>
 iH (u64.wrap (32 - n)) fun Ov=>
 R (.int .u32 (u32.wrap (BitVec.ofInt u32.bits ((wv:Int).fdiv (2 ^ (min s7 u32.bits))) ||| BitVec.ofInt u32.bits (u32.wrap ((wv:Int)*2 ^ (min Ov u32.bits)))).toNat)) w
def Cs:Ann:= .leaf
theorem R02Turn_eq(wv:Int)(n:Int)(R:aD)(w:World):tu wv n R w=vcF prog aK [] Tryz.f198 Cs [(.int .u32 wv),(.int .u64 n)] R none w:=by kernel_rfl
theorem ux(wv:Int)(n:Int) {R:aD} {w:World}(h:tu wv n R w):Calls prog 198 #[(.int .u32 wv),(.int .u64 n)] w fun e w'=>∃v,e= .returned v∧R v w':=
 ak Tryz.func198 aw aa ((R02Turn_eq wv n R w).mp h)
def om(blocka:Int)(blockb:Int)(blockc:Int)(blockd:Int)(blocke:Int)(blockf:Int)(blockg:Int)(blockh:Int)(blocki:Int)(blockj:Int)(blockk:Int)(blockl:Int)(blockm:Int)(blockn:Int)(blocko:Int)(blockp:Int)(R:aD)(w:World):Prop:=
 ∀(gv:Nat)(wv:World),gv=w.heap.size→wv=w.alloc (.cells #[(.int .u32 blocka),(.int .u32 blockb),(.int .u32 blockc),(.int .u32 blockd),(.int .u32 blocke),(.int .u32 blockf),(.int .u32 blockg),(.int .u32 blockh),(.int .u32 blocki),(.int .u32 blockj),(.int .u32 blockk),(.int .u32 blockl),(.int .u32 blockm),(.int .u32 blockn),(.int .u32 blocko),(.int .u32 blockp)] 262)→
 ∀(NB:Nat)(Nw:World),NB=wv.heap.size→Nw=wv.alloc (.cells (Array.replicate 64 (.int .u32 0)) 287)→
 ∀(NZ:Nat)(Ny:World),NZ=Nw.heap.size→Ny=Nw.alloc (.cells (Array.replicate 64 (.int .u32 0)) 287)→
 ∃b:Nat→Nat→Prop,
 ∀Tp:Option Addr,Tp=(some (if 64=0 then Addr.mk NZ 0 none else(Addr.mk NZ 0 none).add (0*1)))→∀SQ:Nat,SQ=64 - 0→∀U2:Nat,U2=64 - 0→
 ∀Yi:Option Addr,Yi=(some (if 16=0 then Addr.mk gv 0 none else(Addr.mk gv 0 none).add (0*1)))→∀Yg:Nat,Yg=16 - 0→∀Yh:Nat,Yh=16 - 0→
 ∃x9:Int,∃NF,(Builtin.copy_ #[62,62] 3 #[(.slice Tp SQ U2),(.slice Yi Yg Yh)]:Sem Value).run prog Ny.drew= .ok (.int .i64 x9) NF∧
 ∃b1:Nat→Nat→Prop,(∀i k,b i k→b1 i k)∧
 ∀t:Int,t=16→
 ∃I:Nat→Int→World→Prop,(∃m,I m t NF)∧∀(m:Nat)(QD:Nat→Value)(t1:Int),∀NI,I m t1 NI→
 split (decide ((t1:Int)<64)) (
  (0≤(i64.wrap (t1 - 15):Int)∧(i64.wrap (t1 - 15):Int)<((64:Nat):Int))∧
  ∃Po:Int,NI.drew.cell? ((Addr.mk NZ 0 none).add (Int.toNat (i64.wrap (t1 - 15))*1))=some (.int .u32 Po)∧
  (0≤(i64.wrap (t1 - 2):Int)∧(i64.wrap (t1 - 2):Int)<((64:Nat):Int))∧
  ∃PB:Int,NI.drew.cell? ((Addr.mk NZ 0 none).add (Int.toNat (i64.wrap (t1 - 2))*1))=some (.int .u32 PB)∧
  ∃b2:Nat→Nat→Prop,
  (0≤(i64.wrap (t1 - 16):Int)∧(i64.wrap (t1 - 16):Int)<((64:Nat):Int))∧
  b2 4 (((Addr.mk NZ 0 none).add (Int.toNat (i64.wrap (t1 - 16))*1)).block)∧
  ∃RB:Int,NI.drew.drew.cell? ((Addr.mk NZ 0 none).add (Int.toNat (i64.wrap (t1 - 16))*1))=some (.int .u32 RB)∧
  (0≤(i64.wrap (t1 - 7):Int)∧(i64.wrap (t1 - 7):Int)<((64:Nat):Int))∧
  b2 17 (((Addr.mk NZ 0 none).add (Int.toNat (i64.wrap (t1 - 7))*1)).block)∧
  ∃TX:Int,NI.drew.drew.cell? ((Addr.mk NZ 0 none).add (Int.toNat (i64.wrap (t1 - 7))*1))=some (.int .u32 TX)∧
  Calls prog 193 #[(.int .u32 Po),(.int .i64 7)] NI.drew.drew fun e NW=>
  ∃RA:Int,e= .returned (.int .u32 RA)∧
  Kept (bE b2 [0,1,2,3,4,7,10,11,14,15,16,17,19,21,24,25]) NI.drew.drew NW∧∃b3:Nat→Nat→Prop,(∀i k,b2 i k→b3 i k)∧
  Calls prog 193 #[(.int .u32 Po),(.int .i64 18)] NW fun e NT=>
  ∃OU:Int,e= .returned (.int .u32 OU)∧
  Kept (bE b3 [0,1,2,3,4,10,11,14,15,16,17,19,21,24,25]) NW NT∧∃b4:Nat→Nat→Prop,(∀i k,b3 i k→b4 i k)∧
  Calls prog 193 #[(.int .u32 PB),(.int .i64 17)] NT fun e NU=>
  ∃Q3:Int,e= .returned (.int .u32 Q3)∧
  Kept (bE b4 [0,1,2,3,4,9,10,11,12,13,14,15,16,17,18,21,24,25]) NT NU∧∃b5:Nat→Nat→Prop,(∀i k,b4 i k→b5 i k)∧
  Calls prog 193 #[(.int .u32 PB),(.int .i64 19)] NU fun e N1=>
  ∃VS:Int,e= .returned (.int .u32 VS)∧
  Kept (bE b5 [0,1,2,3,4,5,9,10,11,12,13,14,15,16,17,18,24,25]) NU N1∧∃b6:Nat→Nat→Prop,(∀i k,b5 i k→b6 i k)∧
  (0≤(t1:Int)∧(t1:Int)<((64:Nat):Int))∧
  aA N1 ((Addr.mk NZ 0 none).add (Int.toNat t1*1)) [(.int .u32 (u32.wrap ((u32.wrap ((u32.wrap (RB+(u32.wrap (BitVec.ofInt u32.bits (u32.wrap (BitVec.ofInt u32.bits RA ^^^ BitVec.ofInt u32.bits OU).toNat) ^^^ BitVec.ofInt u32.bits ((Po:Int).fdiv (2 ^ 3))).toNat)))+TX))+(u32.wrap (BitVec.ofInt u32.bits (u32.wrap (BitVec.ofInt u32.bits Q3 ^^^ BitVec.ofInt u32.bits VS).toNat) ^^^ BitVec.ofInt u32.bits ((PB:Int).fdiv (2 ^ 10))).toNat))))] fun Oy=>
  ∃b7:Nat→Nat→Prop,(∀i k,b6 i k→b7 i k)∧
  ∀t2:Int,t2=(i64.wrap (t1+1))→
  ∃m1,m1<m∧I m1 t2 Oy) (
  ∃VR:Array Value,(VR.size=64∧∀i u,VR[i]? =some u→NI.cell? ((Addr.mk NZ 0 none).add i)=some u)∧
  VR.size=64∧(∀v∈VR.toList,one? v True)∧
  aA NI (Addr.mk NB 0 none) VR.toList fun NW=>
  ∃r0:Array Value,(r0.size=64∧∀i u,r0[i]? =some u→NW.cell? ((Addr.mk NB 0 none).add i)=some u)∧
  R (.agg r0) NW)
def wU:Ann:=(.node none .leaf (.node none .leaf (.node none .leaf (.node none (.node none .leaf (.node none (.node (some ⟨[(4,.one (.int .i64))],[4,5,6,10,11,12,13,14,15,16,17,18,19,20,21,22,23,24,25,26,27,28,29,30,31,32,33,34,35,36,37,38,39,40,41,42,43,44,45,46,47,48,49,50]⟩) .leaf .leaf) .leaf)) .leaf))))
theorem SSchedule_eq(blocka:Int)(blockb:Int)(blockc:Int)(blockd:Int)(blocke:Int)(blockf:Int)(blockg:Int)(blockh:Int)(blocki:Int)(blockj:Int)(blockk:Int)(blockl:Int)(blockm:Int)(blockn:Int)(blocko:Int)(blockp:Int)(R:aD)(w:World):om blocka blockb blockc blockd blocke blockf blockg blockh blocki blockj blockk blockl blockm blockn blocko blockp R w=vcF prog aK [4] Tryz.f192 wU [(.agg #[(.int .u32 blocka),(.int .u32 blockb),(.int .u32 blockc),(.int .u32 blockd),(.int .u32 blocke),(.int .u32 blockf),(.int .u32 blockg),(.int .u32 blockh),(.int .u32 blocki),(.int .u32 blockj),(.int .u32 blockk),(.int .u32 blockl),(.int .u32 blockm),(.int .u32 blockn),(.int .u32 blocko),(.int .u32 blockp)])] R none w:=by kernel_rfl
theorem qo(blocka:Int)(blockb:Int)(blockc:Int)(blockd:Int)(blocke:Int)(blockf:Int)(blockg:Int)(blockh:Int)(blocki:Int)(blockj:Int)(blockk:Int)(blockl:Int)(blockm:Int)(blockn:Int)(blocko:Int)(blockp:Int) {R:aD} {w:World}(h:om blocka blockb blockc blockd blocke blockf blockg blockh blocki blockj blockk blockl blockm blockn blocko blockp R w):Calls prog 192 #[(.agg #[(.int .u32 blocka),(.int .u32 blockb),(.int .u32 blockc),(.int .u32 blockd),(.int .u32 blocke),(.int .u32 blockf),(.int .u32 blockg),(.int .u32 blockh),(.int .u32 blocki),(.int .u32 blockj),(.int .u32 blockk),(.int .u32 blockl),(.int .u32 blockm),(.int .u32 blockn),(.int .u32 blocko),(.int .u32 blockp)])] w fun e w'=>∃v,e= .returned v∧R v w':=
 ak Tryz.func192 aw aa ((SSchedule_eq blocka blockb blockc blockd blocke blockf blockg blockh blocki blockj blockk blockl blockm blockn blocko blockp R w).mp h)
def vy(statea:Int)(stateb:Int)(statec:Int)(stated:Int)(statee:Int)(statef:Int)(stateg:Int)(stateh:Int)(blocka:Int)(blockb:Int)(blockc:Int)(blockd:Int)(blocke:Int)(blockf:Int)(blockg:Int)(blockh:Int)(blocki:Int)(blockj:Int)(blockk:Int)(blockl:Int)(blockm:Int)(blockn:Int)(blocko:Int)(blockp:Int)(R:aD)(w:World):Prop:=
 ∀(gv:Nat)(wv:World),gv=w.heap.size→wv=w.alloc (.cells #[(.int .u32 statea),(.int .u32 stateb),(.int .u32 statec),(.int .u32 stated),(.int .u32 statee),(.int .u32 statef),(.int .u32 stateg),(.int .u32 stateh)] 66)→
 ∀(NB:Nat)(Nw:World),NB=wv.heap.size→Nw=wv.alloc (.cells #[(.int .u32 blocka),(.int .u32 blockb),(.int .u32 blockc),(.int .u32 blockd),(.int .u32 blocke),(.int .u32 blockf),(.int .u32 blockg),(.int .u32 blockh),(.int .u32 blocki),(.int .u32 blockj),(.int .u32 blockk),(.int .u32 blockl),(.int .u32 blockm),(.int .u32 blockn),(.int .u32 blocko),(.int .u32 blockp)] 262)→
 ∀(NZ:Nat)(Ny:World),NZ=Nw.heap.size→Ny=Nw.alloc (.cells (#[(.int .u32 0),(.int .u32 0),(.int .u32 0),(.int .u32 0),(.int .u32 0),(.int .u32 0),(.int .u32 0),(.int .u32 0)]) 66)→
 ∃Pf:Int,∃Pq:Int,∃Uu:Int,∃Ut:Int,∃Us:Int,∃aa7:Int,∃aa6:Int,∃aa5:Int,(Ny.cell? ((Addr.mk gv 0 none).add 0)=some (.int .u32 Pf)∧Ny.cell? ((Addr.mk gv 0 none).add 1)=some (.int .u32 Pq)∧Ny.cell? ((Addr.mk gv 0 none).add 2)=some (.int .u32 Uu)∧Ny.cell? ((Addr.mk gv 0 none).add 3)=some (.int .u32 Ut)∧Ny.cell? ((Addr.mk gv 0 none).add 4)=some (.int .u32 Us)∧Ny.cell? ((Addr.mk gv 0 none).add 5)=some (.int .u32 aa7)∧Ny.cell? ((Addr.mk gv 0 none).add 6)=some (.int .u32 aa6)∧Ny.cell? ((Addr.mk gv 0 none).add 7)=some (.int .u32 aa5))∧
 ∀(Oa:Nat)(NF:World),Oa=Ny.heap.size→NF=Ny.alloc (.cells (#[(.int .u32 0),(.int .u32 0),(.int .u32 0),(.int .u32 0),(.int .u32 0),(.int .u32 0),(.int .u32 0),(.int .u32 0)]) 66)→
 aA NF (Addr.mk Oa 0 none) [(.int .u32 Pf),(.int .u32 Pq),(.int .u32 Uu),(.int .u32 Ut),(.int .u32 Us),(.int .u32 aa7),(.int .u32 aa6),(.int .u32 aa5)] fun NI=>
 ∃QG:Int,∃Qz:Int,∃RI:Int,∃RH:Int,∃RG:Int,∃Ur:Int,∃Uq:Int,∃Up:Int,∃aaZ:Int,∃Uo:Int,∃aaY:Int,∃aaX:Int,∃aaW:Int,∃aaV:Int,∃aaU:Int,∃aaT:Int,(NI.cell? ((Addr.mk NB 0 none).add 0)=some (.int .u32 QG)∧NI.cell? ((Addr.mk NB 0 none).add 1)=some (.int .u32 Qz)∧NI.cell? ((Addr.mk NB 0 none).add 2)=some (.int .u32 RI)∧NI.cell? ((Addr.mk NB 0 none).add 3)=some (.int .u32 RH)∧NI.cell? ((Addr.mk NB 0 none).add 4)=some (.int .u32 RG)∧NI.cell? ((Addr.mk NB 0 none).add 5)=some (.int .u32 Ur)∧NI.cell? ((Addr.mk NB 0 none).add 6)=some (.int .u32 Uq)∧NI.cell? ((Addr.mk NB 0 none).add 7)=some (.int .u32 Up)∧NI.cell? ((Addr.mk NB 0 none).add 8)=some (.int .u32 aaZ)∧NI.cell? ((Addr.mk NB 0 none).add 9)=some (.int .u32 Uo)∧NI.cell? ((Addr.mk NB 0 none).add 10)=some (.int .u32 aaY)∧NI.cell? ((Addr.mk NB 0 none).add 11)=some (.int .u32 aaX)∧NI.cell? ((Addr.mk NB 0 none).add 12)=some (.int .u32 aaW)∧NI.cell? ((Addr.mk NB 0 none).add 13)=some (.int .u32 aaV)∧NI.cell? ((Addr.mk NB 0 none).add 14)=some (.int .u32 aaU)∧NI.cell? ((Addr.mk NB 0 none).add 15)=some (.int .u32 aaT))∧
 Calls prog 192 #[(.agg #[(.int .u32 QG),(.int .u32 Qz),(.int .u32 RI),(.int .u32 RH),(.int .u32 RG),(.int .u32 Ur),(.int .u32 Uq),(.int .u32 Up),(.int .u32 aaZ),(.int .u32 Uo),(.int .u32 aaY),(.int .u32 aaX),(.int .u32 aaW),(.int .u32 aaV),(.int .u32 aaU),(.int .u32 aaT)])] NI fun e NW=>
 ∃PQ:Array Value,e= .returned (.agg PQ)∧
 ∃I:Nat→Int→World→Prop,(∃m,I m 0 NW)∧∀(m:Nat)(Ro:Nat→Value)(OJ:Int),∀NT,I m OJ NT→
 split (decide ((OJ:Int)<64)) (
  (0≤(OJ:Int)∧(OJ:Int)<((64:Nat):Int))∧
  ∃Pw:Int,PQ[Int.toNat OJ*1]? =some (.int .u32 Pw)∧
  (0≤(0:Int)∧(0:Int)<((8:Nat):Int))∧
  ∃PB:Int,NT.drew.cell? ((Addr.mk Oa 0 none).add (Int.toNat 0*1))=some (.int .u32 PB)∧
  (0≤(4:Int)∧(4:Int)<((8:Nat):Int))∧
  ∃QP:Int,NT.drew.cell? ((Addr.mk Oa 0 none).add (Int.toNat 4*1))=some (.int .u32 QP)∧
  ∃b:Nat→Nat→Prop,
  (0≤(7:Int)∧(7:Int)<((8:Nat):Int))∧
  b 1 (((Addr.mk Oa 0 none).add (Int.toNat 7*1)).block)∧
  ∃PJ:Int,NT.drew.drew.cell? ((Addr.mk Oa 0 none).add (Int.toNat 7*1))=some (.int .u32 PJ)∧
  (0≤(5:Int)∧(5:Int)<((8:Nat):Int))∧
  b 13 (((Addr.mk Oa 0 none).add (Int.toNat 5*1)).block)∧
  ∃Rz:Int,NT.drew.drew.cell? ((Addr.mk Oa 0 none).add (Int.toNat 5*1))=some (.int .u32 Rz)∧
  (0≤(6:Int)∧(6:Int)<((8:Nat):Int))∧
  b 18 (((Addr.mk Oa 0 none).add (Int.toNat 6*1)).block)∧
  ∃Q3:Int,NT.drew.drew.cell? ((Addr.mk Oa 0 none).add (Int.toNat 6*1))=some (.int .u32 Q3)∧
  (0≤(OJ:Int)∧(OJ:Int)<((64:Nat):Int))∧
  b 24 (((Addr.mk 0 0 none).add (Int.toNat OJ*1)).block)∧
  ∃Zc:Int,NT.drew.drew.cell? ((Addr.mk 0 0 none).add (Int.toNat OJ*1))=some (.int .u32 Zc)∧
  Calls prog 193 #[(.int .u32 QP),(.int .i64 6)] NT.drew.drew fun e NU=>
  ∃SB:Int,e= .returned (.int .u32 SB)∧
  Kept (bE b [0,1,4,7,11,12,13,14,15,16,17,18,19,20,22,23,24,26]) NT.drew.drew NU∧∃b1:Nat→Nat→Prop,(∀i k,b i k→b1 i k)∧
  Calls prog 193 #[(.int .u32 QP),(.int .i64 11)] NU fun e N1=>
  ∃QO:Int,e= .returned (.int .u32 QO)∧
  Kept (bE b1 [0,1,7,11,12,13,14,15,16,17,18,19,20,22,23,24,26]) NU N1∧∃b2:Nat→Nat→Prop,(∀i k,b1 i k→b2 i k)∧
  Calls prog 193 #[(.int .u32 QP),(.int .i64 25)] N1 fun e Oy=>
  ∃x32:Int,e= .returned (.int .u32 x32)∧
  Kept (bE b2 [0,1,6,11,12,13,14,15,16,17,18,19,20,22,23,24,26]) N1 Oy∧∃b3:Nat→Nat→Prop,(∀i k,b2 i k→b3 i k)∧
  ∀t1:Int,t1=(u32.wrap ((u32.wrap ((u32.wrap ((u32.wrap (PJ+(u32.wrap (BitVec.ofInt u32.bits (u32.wrap (BitVec.ofInt u32.bits SB ^^^ BitVec.ofInt u32.bits QO).toNat) ^^^ BitVec.ofInt u32.bits x32).toNat)))+(u32.wrap (BitVec.ofInt u32.bits (u32.wrap (BitVec.ofInt u32.bits QP &&& BitVec.ofInt u32.bits Rz).toNat) ^^^ BitVec.ofInt u32.bits (u32.wrap (BitVec.ofInt u32.bits (u32.wrap (BitVec.ofInt u32.bits (if u32.signed then -1 else u32.max) ^^^ BitVec.ofInt u32.bits QP).toNat) &&& BitVec.ofInt u32.bits Q3).toNat)).toNat)))+Zc))+Pw))→
  ∃b4:Nat→Nat→Prop,
  (0≤(1:Int)∧(1:Int)<((8:Nat):Int))∧
  b4 10 (((Addr.mk Oa 0 none).add (Int.toNat 1*1)).block)∧
  ∃YK:Int,Oy.drew.cell? ((Addr.mk Oa 0 none).add (Int.toNat 1*1))=some (.int .u32 YK)∧
  (0≤(2:Int)∧(2:Int)<((8:Nat):Int))∧
  b4 14 (((Addr.mk Oa 0 none).add (Int.toNat 2*1)).block)∧
  ∃Yy:Int,Oy.drew.cell? ((Addr.mk Oa 0 none).add (Int.toNat 2*1))=some (.int .u32 Yy)∧
  (0≤(1:Int)∧(1:Int)<((8:Nat):Int))∧
  b4 18 (((Addr.mk Oa 0 none).add (Int.toNat 1*1)).block)∧
  ∃Vm:Int,Oy.drew.cell? ((Addr.mk Oa 0 none).add (Int.toNat 1*1))=some (.int .u32 Vm)∧
  (0≤(2:Int)∧(2:Int)<((8:Nat):Int))∧
  b4 20 (((Addr.mk Oa 0 none).add (Int.toNat 2*1)).block)∧
  ∃Vl:Int,Oy.drew.cell? ((Addr.mk Oa 0 none).add (Int.toNat 2*1))=some (.int .u32 Vl)∧
  Calls prog 193 #[(.int .u32 PB),(.int .i64 2)] Oy.drew fun e PL=>
  ∃VQ:Int,e= .returned (.int .u32 VQ)∧
  Kept (bE b4 [2,5,8,9,10,11,12,13,14,15,16,17,18,19,20,21,22]) Oy.drew PL∧∃b5:Nat→Nat→Prop,(∀i k,b4 i k→b5 i k)∧
  Calls prog 193 #[(.int .u32 PB),(.int .i64 13)] PL fun e Re=>
  ∃YS:Int,e= .returned (.int .u32 YS)∧
  Kept (bE b5 [5,8,9,10,11,12,13,14,15,16,17,18,19,20,21,22]) PL Re∧∃b6:Nat→Nat→Prop,(∀i k,b5 i k→b6 i k)∧
  Calls prog 193 #[(.int .u32 PB),(.int .i64 22)] Re fun e PX=>
  ∃x58:Int,e= .returned (.int .u32 x58)∧
  Kept (bE b6 [4,8,9,10,11,12,13,14,15,16,17,18,19,20,21,22]) Re PX∧∃b7:Nat→Nat→Prop,(∀i k,b6 i k→b7 i k)∧
  ∀t2:Int,t2=(u32.wrap ((u32.wrap (BitVec.ofInt u32.bits (u32.wrap (BitVec.ofInt u32.bits VQ ^^^ BitVec.ofInt u32.bits YS).toNat) ^^^ BitVec.ofInt u32.bits x58).toNat)+(u32.wrap (BitVec.ofInt u32.bits (u32.wrap (BitVec.ofInt u32.bits (u32.wrap (BitVec.ofInt u32.bits PB &&& BitVec.ofInt u32.bits YK).toNat) ^^^ BitVec.ofInt u32.bits (u32.wrap (BitVec.ofInt u32.bits PB &&& BitVec.ofInt u32.bits Yy).toNat)).toNat) ^^^ BitVec.ofInt u32.bits (u32.wrap (BitVec.ofInt u32.bits Vm &&& BitVec.ofInt u32.bits Vl).toNat)).toNat)))→
  (0≤(0:Int)∧(0:Int)<((8:Nat):Int))∧
  ∃x80:Int,PX.cell? ((Addr.mk Oa 0 none).add (Int.toNat 0*1))=some (.int .u32 x80)∧
  (0≤(1:Int)∧(1:Int)<((8:Nat):Int))∧
  ∃Yk:Int,PX.cell? ((Addr.mk Oa 0 none).add (Int.toNat 1*1))=some (.int .u32 Yk)∧
  (0≤(2:Int)∧(2:Int)<((8:Nat):Int))∧
  ∃x84:Int,PX.cell? ((Addr.mk Oa 0 none).add (Int.toNat 2*1))=some (.int .u32 x84)∧
  (0≤(3:Int)∧(3:Int)<((8:Nat):Int))∧
  ∃Yj:Int,PX.cell? ((Addr.mk Oa 0 none).add (Int.toNat 3*1))=some (.int .u32 Yj)∧
  (0≤(4:Int)∧(4:Int)<((8:Nat):Int))∧
  ∃x90:Int,PX.cell? ((Addr.mk Oa 0 none).add (Int.toNat 4*1))=some (.int .u32 x90)∧
  (0≤(5:Int)∧(5:Int)<((8:Nat):Int))∧
  ∃x92:Int,PX.cell? ((Addr.mk Oa 0 none).add (Int.toNat 5*1))=some (.int .u32 x92)∧
  (0≤(6:Int)∧(6:Int)<((8:Nat):Int))∧
  ∃x94:Int,PX.cell? ((Addr.mk Oa 0 none).add (Int.toNat 6*1))=some (.int .u32 x94)∧
  aA PX (Addr.mk Oa 0 none) [(.int .u32 (u32.wrap (t1+t2))),(.int .u32 x80),(.int .u32 Yk),(.int .u32 x84),(.int .u32 (u32.wrap (Yj+t1))),(.int .u32 x90),(.int .u32 x92),(.int .u32 x94)] fun Qm=>
  ∃m1,m1<m∧I m1 (i64.wrap (OJ+1)) Qm) (
  ∃I1:Nat→Int→World→Prop,(∃m2,I1 m2 0 NT)∧∀(m2:Nat)(XE:Nat→Value)(Qg:Int),∀NU,I1 m2 Qg NU→
  split (decide ((Qg:Int)<8)) (
   ∃b:Nat→Nat→Prop,
   (0≤(Qg:Int)∧(Qg:Int)<((8:Nat):Int))∧
   b 2 (((Addr.mk Oa 0 none).add (Int.toNat Qg*1)).block)∧
   ∃abm:Int,NU.drew.cell? ((Addr.mk Oa 0 none).add (Int.toNat Qg*1))=some (.int .u32 abm)∧
   (0≤(Qg:Int)∧(Qg:Int)<((8:Nat):Int))∧
   b 5 (((Addr.mk gv 0 none).add (Int.toNat Qg*1)).block)∧
   ∃QQ:Int,NU.drew.cell? ((Addr.mk gv 0 none).add (Int.toNat Qg*1))=some (.int .u32 QQ)∧
   (0≤(Qg:Int)∧(Qg:Int)<((8:Nat):Int))∧
   aA NU.drew ((Addr.mk Oa 0 none).add (Int.toNat Qg*1)) [(.int .u32 (u32.wrap (abm+QQ)))] fun N1=>
   ∃b1:Nat→Nat→Prop,(∀i k,b i k→b1 i k)∧
   ∃m3,m3<m2∧I1 m3 (i64.wrap (Qg+1)) N1) (
   ∃V8:Int,∃V7:Int,∃V6:Int,∃V5:Int,∃V4:Int,∃V3:Int,∃V2:Int,∃V1:Int,(NU.cell? ((Addr.mk Oa 0 none).add 0)=some (.int .u32 V8)∧NU.cell? ((Addr.mk Oa 0 none).add 1)=some (.int .u32 V7)∧NU.cell? ((Addr.mk Oa 0 none).add 2)=some (.int .u32 V6)∧NU.cell? ((Addr.mk Oa 0 none).add 3)=some (.int .u32 V5)∧NU.cell? ((Addr.mk Oa 0 none).add 4)=some (.int .u32 V4)∧NU.cell? ((Addr.mk Oa 0 none).add 5)=some (.int .u32 V3)∧NU.cell? ((Addr.mk Oa 0 none).add 6)=some (.int .u32 V2)∧NU.cell? ((Addr.mk Oa 0 none).add 7)=some (.int .u32 V1))∧
   aA NU (Addr.mk NZ 0 none) [(.int .u32 V8),(.int .u32 V7),(.int .u32 V6),(.int .u32 V5),(.int .u32 V4),(.int .u32 V3),(.int .u32 V2),(.int .u32 V1)] fun N1=>
   ∃O8:Int,∃O7:Int,∃Pk:Int,∃Pj:Int,∃Ph:Int,∃PU:Int,∃PT:Int,∃PS:Int,(N1.cell? ((Addr.mk NZ 0 none).add 0)=some (.int .u32 O8)∧N1.cell? ((Addr.mk NZ 0 none).add 1)=some (.int .u32 O7)∧N1.cell? ((Addr.mk NZ 0 none).add 2)=some (.int .u32 Pk)∧N1.cell? ((Addr.mk NZ 0 none).add 3)=some (.int .u32 Pj)∧N1.cell? ((Addr.mk NZ 0 none).add 4)=some (.int .u32 Ph)∧N1.cell? ((Addr.mk NZ 0 none).add 5)=some (.int .u32 PU)∧N1.cell? ((Addr.mk NZ 0 none).add 6)=some (.int .u32 PT)∧N1.cell? ((Addr.mk NZ 0 none).add 7)=some (.int .u32 PS))∧
   R (.agg #[(.int .u32 O8),(.int .u32 O7),(.int .u32 Pk),(.int .u32 Pj),(.int .u32 Ph),(.int .u32 PU),(.int .u32 PT),(.int .u32 PS)]) N1))
def EY:Ann:=(.node none .leaf (.node none .leaf (.node none (.node none .leaf (.node none (.node (some ⟨[(16,.one (.int .i64))],[6,7,8,9,10,11,16,17,18,19,20,21,22,23,24,25,26,27,28,29,30,31,32,33,34,35,36,37,38,39,40,41,42,43,44,45,46,47,48,49,50,51,52,53,54,55,56,57,58,59,60,61,62,63,64,65,66,67,68,69,70,71,72,73,74,75,76,77,78,79,80,81,82,83,84,85,86,87,88,89,90,91,92,93,94,95,96]⟩) .leaf .leaf) .leaf)) (.node none (.node none .leaf (.node none (.node (some ⟨[(97,.one (.int .i64))],[12,97,98,99,100,101,102,103,104,105,106,107,108]⟩) .leaf .leaf) .leaf)) .leaf))))
theorem SBlock_eq(statea:Int)(stateb:Int)(statec:Int)(stated:Int)(statee:Int)(statef:Int)(stateg:Int)(stateh:Int)(blocka:Int)(blockb:Int)(blockc:Int)(blockd:Int)(blocke:Int)(blockf:Int)(blockg:Int)(blockh:Int)(blocki:Int)(blockj:Int)(blockk:Int)(blockl:Int)(blockm:Int)(blockn:Int)(blocko:Int)(blockp:Int)(R:aD)(w:World):vy statea stateb statec stated statee statef stateg stateh blocka blockb blockc blockd blocke blockf blockg blockh blocki blockj blockk blockl blockm blockn blocko blockp R w=vcF prog aK [10,11] Tryz.f175 EY [(.agg #[(.int .u32 statea),(.int .u32 stateb),(.int .u32 statec),(.int .u32 stated),(.int .u32 statee),(.int .u32 statef),(.int .u32 stateg),(.int .u32 stateh)]),(.agg #[(.int .u32 blocka),(.int .u32 blockb),(.int .u32 blockc),(.int .u32 blockd),(.int .u32 blocke),(.int .u32 blockf),(.int .u32 blockg),(.int .u32 blockh),(.int .u32 blocki),(.int .u32 blockj),(.int .u32 blockk),(.int .u32 blockl),(.int .u32 blockm),(.int .u32 blockn),(.int .u32 blocko),(.int .u32 blockp)])] R none w:=by kernel_rfl
theorem wY(statea:Int)(stateb:Int)(statec:Int)(stated:Int)(statee:Int)(statef:Int)(stateg:Int)(stateh:Int)(blocka:Int)(blockb:Int)(blockc:Int)(blockd:Int)(blocke:Int)(blockf:Int)(blockg:Int)(blockh:Int)(blocki:Int)(blockj:Int)(blockk:Int)(blockl:Int)(blockm:Int)(blockn:Int)(blocko:Int)(blockp:Int) {R:aD} {w:World}(h:vy statea stateb statec stated statee statef stateg stateh blocka blockb blockc blockd blocke blockf blockg blockh blocki blockj blockk blockl blockm blockn blocko blockp R w):Calls prog 175 #[(.agg #[(.int .u32 statea),(.int .u32 stateb),(.int .u32 statec),(.int .u32 stated),(.int .u32 statee),(.int .u32 statef),(.int .u32 stateg),(.int .u32 stateh)]),(.agg #[(.int .u32 blocka),(.int .u32 blockb),(.int .u32 blockc),(.int .u32 blockd),(.int .u32 blocke),(.int .u32 blockf),(.int .u32 blockg),(.int .u32 blockh),(.int .u32 blocki),(.int .u32 blockj),(.int .u32 blockk),(.int .u32 blockl),(.int .u32 blockm),(.int .u32 blockn),(.int .u32 blocko),(.int .u32 blockp)])] w fun e w'=>∃v,e= .returned v∧R v w':=
 ak Tryz.func175 aw aa ((SBlock_eq statea stateb statec stated statee statef stateg stateh blocka blockb blockc blockd blocke blockf blockg blockh blocki blockj blockk blockl blockm blockn blocko blockp R w).mp h)
def qe(statea:Int)(stateb:Int)(statec:Int)(stated:Int)(statee:Int)(statef:Int)(stateg:Int)(stateh:Int)(blocka:Int)(blockb:Int)(blockc:Int)(blockd:Int)(blocke:Int)(blockf:Int)(blockg:Int)(blockh:Int)(blocki:Int)(blockj:Int)(blockk:Int)(blockl:Int)(blockm:Int)(blockn:Int)(blocko:Int)(blockp:Int)(R:aD)(w:World):Prop:=
 ∀(gv:Nat)(wv:World),gv=w.heap.size→wv=w.alloc (.cells #[(.int .u32 statea),(.int .u32 stateb),(.int .u32 statec),(.int .u32 stated),(.int .u32 statee),(.int .u32 statef),(.int .u32 stateg),(.int .u32 stateh)] 66)→
 ∀(NB:Nat)(Nw:World),NB=wv.heap.size→Nw=wv.alloc (.cells #[(.int .u32 blocka),(.int .u32 blockb),(.int .u32 blockc),(.int .u32 blockd),(.int .u32 blocke),(.int .u32 blockf),(.int .u32 blockg),(.int .u32 blockh),(.int .u32 blocki),(.int .u32 blockj),(.int .u32 blockk),(.int .u32 blockl),(.int .u32 blockm),(.int .u32 blockn),(.int .u32 blocko),(.int .u32 blockp)] 262)→
 ∀(NZ:Nat)(Ny:World),NZ=Nw.heap.size→Ny=Nw.alloc (.cells (#[(.int .u32 0),(.int .u32 0),(.int .u32 0),(.int .u32 0),(.int .u32 0),(.int .u32 0),(.int .u32 0),(.int .u32 0)]) 66)→
 ∀(Oa:Nat)(NF:World),Oa=Ny.heap.size→NF=Ny.alloc (.cells (Array.replicate 64 (.int .u32 0)) 287)→
 ∀t:Int,t=0→
 ∃I:Nat→Int→World→Prop,(∃m,I m t NF)∧∀(m:Nat)(Ro:Nat→Value)(t1:Int),∀NI,I m t1 NI→
 split (decide ((t1:Int)<64)) (
  split (decide ((t1:Int)<16)) (
   (0≤(t1:Int)∧(t1:Int)<((16:Nat):Int))∧
   ∃PJ:Int,NI.cell? ((Addr.mk NB 0 none).add (Int.toNat t1*1))=some (.int .u32 PJ)∧
   (0≤(t1:Int)∧(t1:Int)<((64:Nat):Int))∧
   aA NI ((Addr.mk Oa 0 none).add (Int.toNat t1*1)) [(.int .u32 PJ)] fun NW=>
   ∀t2:Int,t2=(i64.wrap (t1+1))→
   ∃m1,m1<m∧I m1 t2 NW) (
   (0≤(i64.wrap (t1 - 15):Int)∧(i64.wrap (t1 - 15):Int)<((64:Nat):Int))∧
   ∃OU:Int,NI.cell? ((Addr.mk Oa 0 none).add (Int.toNat (i64.wrap (t1 - 15))*1))=some (.int .u32 OU)∧
   (0≤(i64.wrap (t1 - 2):Int)∧(i64.wrap (t1 - 2):Int)<((64:Nat):Int))∧
   ∃U4:Int,NI.cell? ((Addr.mk Oa 0 none).add (Int.toNat (i64.wrap (t1 - 2))*1))=some (.int .u32 U4)∧
   ∃b:Nat→Nat→Prop,
   (0≤(i64.wrap (t1 - 7):Int)∧(i64.wrap (t1 - 7):Int)<((64:Nat):Int))∧
   b 12 (((Addr.mk Oa 0 none).add (Int.toNat (i64.wrap (t1 - 7))*1)).block)∧
   ∃Tc:Int,NI.drew.cell? ((Addr.mk Oa 0 none).add (Int.toNat (i64.wrap (t1 - 7))*1))=some (.int .u32 Tc)∧
   (0≤(i64.wrap (t1 - 16):Int)∧(i64.wrap (t1 - 16):Int)<((64:Nat):Int))∧
   b 26 (((Addr.mk Oa 0 none).add (Int.toNat (i64.wrap (t1 - 16))*1)).block)∧
   ∃x61:Int,NI.drew.cell? ((Addr.mk Oa 0 none).add (Int.toNat (i64.wrap (t1 - 16))*1))=some (.int .u32 x61)∧
   Calls prog 198 #[(.int .u32 U4),(.int .u64 17)] NI.drew fun e NW=>
   ∃Rz:Int,e= .returned (.int .u32 Rz)∧
   Kept (bE b [0,3,6,7,9,10,11,12,14,16,19,20,23,24,25,26]) NI.drew NW∧∃b1:Nat→Nat→Prop,(∀i k,b i k→b1 i k)∧
   Calls prog 198 #[(.int .u32 U4),(.int .u64 19)] NW fun e NT=>
   ∃TX:Int,e= .returned (.int .u32 TX)∧
   Kept (bE b1 [0,6,7,9,10,11,12,14,16,19,20,23,24,25,26]) NW NT∧∃b2:Nat→Nat→Prop,(∀i k,b1 i k→b2 i k)∧
   Calls prog 198 #[(.int .u32 OU),(.int .u64 7)] NT fun e NU=>
   ∃Zb:Int,e= .returned (.int .u32 Zb)∧
   Kept (bE b2 [0,5,6,7,8,9,10,11,12,13,16,19,20,23,24,25,26]) NT NU∧∃b3:Nat→Nat→Prop,(∀i k,b2 i k→b3 i k)∧
   Calls prog 198 #[(.int .u32 OU),(.int .u64 18)] NU fun e N1=>
   ∃Qu:Int,e= .returned (.int .u32 Qu)∧
   Kept (bE b3 [0,1,5,6,7,8,9,10,11,12,13,19,20,23,24,25,26]) NU N1∧∃b4:Nat→Nat→Prop,(∀i k,b3 i k→b4 i k)∧
   (0≤(t1:Int)∧(t1:Int)<((64:Nat):Int))∧
   aA N1 ((Addr.mk Oa 0 none).add (Int.toNat t1*1)) [(.int .u32 (u32.wrap ((u32.wrap ((u32.wrap ((u32.wrap (BitVec.ofInt u32.bits (u32.wrap (BitVec.ofInt u32.bits Rz ^^^ BitVec.ofInt u32.bits TX).toNat) ^^^ BitVec.ofInt u32.bits ((U4:Int).fdiv (2 ^ 10))).toNat)+Tc))+(u32.wrap (BitVec.ofInt u32.bits (u32.wrap (BitVec.ofInt u32.bits Zb ^^^ BitVec.ofInt u32.bits Qu).toNat) ^^^ BitVec.ofInt u32.bits ((OU:Int).fdiv (2 ^ 3))).toNat)))+x61)))] fun Oy=>
   ∃b5:Nat→Nat→Prop,(∀i k,b4 i k→b5 i k)∧
   ∀t2:Int,t2=(i64.wrap (t1+1))→
   ∃m1,m1<m∧I m1 t2 Oy)) (
  ∃YI:Int,∃YH:Int,∃YG:Int,∃YF:Int,∃YE:Int,∃YD:Int,∃YC:Int,∃YB:Int,(NI.cell? ((Addr.mk gv 0 none).add 0)=some (.int .u32 YI)∧NI.cell? ((Addr.mk gv 0 none).add 1)=some (.int .u32 YH)∧NI.cell? ((Addr.mk gv 0 none).add 2)=some (.int .u32 YG)∧NI.cell? ((Addr.mk gv 0 none).add 3)=some (.int .u32 YF)∧NI.cell? ((Addr.mk gv 0 none).add 4)=some (.int .u32 YE)∧NI.cell? ((Addr.mk gv 0 none).add 5)=some (.int .u32 YD)∧NI.cell? ((Addr.mk gv 0 none).add 6)=some (.int .u32 YC)∧NI.cell? ((Addr.mk gv 0 none).add 7)=some (.int .u32 YB))∧
  ∀(Ox:Nat)(NW:World),Ox=NI.heap.size→NW=NI.alloc (.cells (#[(.int .u32 0),(.int .u32 0),(.int .u32 0),(.int .u32 0),(.int .u32 0),(.int .u32 0),(.int .u32 0),(.int .u32 0)]) 66)→
  aA NW (Addr.mk Ox 0 none) [(.int .u32 YI),(.int .u32 YH),(.int .u32 YG),(.int .u32 YF),(.int .u32 YE),(.int .u32 YD),(.int .u32 YC),(.int .u32 YB)] fun NT=>
  ∀t2:Int,t2=0→
  ∃I1:Nat→Int→World→Prop,(∃m2,I1 m2 t2 NT)∧∀(m2:Nat)(_gv6:Nat→Value)(t3:Int),∀NU,I1 m2 t3 NU→
  split (decide ((t3:Int)<64)) (
   (0≤(0:Int)∧(0:Int)<((8:Nat):Int))∧
   ∃Vm:Int,NU.cell? ((Addr.mk Ox 0 none).add (Int.toNat 0*1))=some (.int .u32 Vm)∧
   (0≤(4:Int)∧(4:Int)<((8:Nat):Int))∧
   ∃Vl:Int,NU.cell? ((Addr.mk Ox 0 none).add (Int.toNat 4*1))=some (.int .u32 Vl)∧
   ∃b:Nat→Nat→Prop,
   (0≤(7:Int)∧(7:Int)<((8:Nat):Int))∧
   b 1 (((Addr.mk Ox 0 none).add (Int.toNat 7*1)).block)∧
   ∃x74:Int,NU.drew.cell? ((Addr.mk Ox 0 none).add (Int.toNat 7*1))=some (.int .u32 x74)∧
   (0≤(5:Int)∧(5:Int)<((8:Nat):Int))∧
   b 13 (((Addr.mk Ox 0 none).add (Int.toNat 5*1)).block)∧
   ∃Yj:Int,NU.drew.cell? ((Addr.mk Ox 0 none).add (Int.toNat 5*1))=some (.int .u32 Yj)∧
   (0≤(6:Int)∧(6:Int)<((8:Nat):Int))∧
   b 18 (((Addr.mk Ox 0 none).add (Int.toNat 6*1)).block)∧
   ∃x91:Int,NU.drew.cell? ((Addr.mk Ox 0 none).add (Int.toNat 6*1))=some (.int .u32 x91)∧
   (0≤(t3:Int)∧(t3:Int)<((64:Nat):Int))∧
   b 24 (((Addr.mk 1 0 none).add (Int.toNat t3*1)).block)∧
   ∃Qg:Int,NU.drew.cell? ((Addr.mk 1 0 none).add (Int.toNat t3*1))=some (.int .u32 Qg)∧
   (0≤(t3:Int)∧(t3:Int)<((64:Nat):Int))∧
   b 28 (((Addr.mk Oa 0 none).add (Int.toNat t3*1)).block)∧
   ∃abn:Int,NU.drew.cell? ((Addr.mk Oa 0 none).add (Int.toNat t3*1))=some (.int .u32 abn)∧
   Calls prog 198 #[(.int .u32 Vl),(.int .u64 6)] NU.drew fun e N1=>
   ∃x76:Int,e= .returned (.int .u32 x76)∧
   Kept (bE b [0,1,4,7,11,12,13,14,15,16,17,18,19,20,22,23,24,26,27,28]) NU.drew N1∧∃b1:Nat→Nat→Prop,(∀i k,b i k→b1 i k)∧
   Calls prog 198 #[(.int .u32 Vl),(.int .u64 11)] N1 fun e Oy=>
   ∃x78:Int,e= .returned (.int .u32 x78)∧
   Kept (bE b1 [0,1,7,11,12,13,14,15,16,17,18,19,20,22,23,24,26,27,28]) N1 Oy∧∃b2:Nat→Nat→Prop,(∀i k,b1 i k→b2 i k)∧
   Calls prog 198 #[(.int .u32 Vl),(.int .u64 25)] Oy fun e PL=>
   ∃x81:Int,e= .returned (.int .u32 x81)∧
   Kept (bE b2 [0,1,6,11,12,13,14,15,16,17,18,19,20,22,23,24,26,27,28]) Oy PL∧∃b3:Nat→Nat→Prop,(∀i k,b2 i k→b3 i k)∧
   ∀t11:Int,t11=(u32.wrap ((u32.wrap ((u32.wrap ((u32.wrap (x74+(u32.wrap (BitVec.ofInt u32.bits (u32.wrap (BitVec.ofInt u32.bits x76 ^^^ BitVec.ofInt u32.bits x78).toNat) ^^^ BitVec.ofInt u32.bits x81).toNat)))+(u32.wrap (BitVec.ofInt u32.bits (u32.wrap (BitVec.ofInt u32.bits Vl &&& BitVec.ofInt u32.bits Yj).toNat) ^^^ BitVec.ofInt u32.bits (u32.wrap (BitVec.ofInt u32.bits (u32.wrap (BitVec.ofInt u32.bits (if u32.signed then -1 else u32.max) ^^^ BitVec.ofInt u32.bits Vl).toNat) &&& BitVec.ofInt u32.bits x91).toNat)).toNat)))+Qg))+abn))→
   ∃b4:Nat→Nat→Prop,
   (0≤(1:Int)∧(1:Int)<((8:Nat):Int))∧
   b4 10 (((Addr.mk Ox 0 none).add (Int.toNat 1*1)).block)∧
   ∃abi:Int,PL.drew.cell? ((Addr.mk Ox 0 none).add (Int.toNat 1*1))=some (.int .u32 abi)∧
   (0≤(2:Int)∧(2:Int)<((8:Nat):Int))∧
   b4 14 (((Addr.mk Ox 0 none).add (Int.toNat 2*1)).block)∧
   ∃abh:Int,PL.drew.cell? ((Addr.mk Ox 0 none).add (Int.toNat 2*1))=some (.int .u32 abh)∧
   (0≤(1:Int)∧(1:Int)<((8:Nat):Int))∧
   b4 18 (((Addr.mk Ox 0 none).add (Int.toNat 1*1)).block)∧
   ∃abg:Int,PL.drew.cell? ((Addr.mk Ox 0 none).add (Int.toNat 1*1))=some (.int .u32 abg)∧
   (0≤(2:Int)∧(2:Int)<((8:Nat):Int))∧
   b4 20 (((Addr.mk Ox 0 none).add (Int.toNat 2*1)).block)∧
   ∃abf:Int,PL.drew.cell? ((Addr.mk Ox 0 none).add (Int.toNat 2*1))=some (.int .u32 abf)∧
   Calls prog 198 #[(.int .u32 Vm),(.int .u64 2)] PL.drew fun e Re=>
   ∃abl:Int,e= .returned (.int .u32 abl)∧
   Kept (bE b4 [2,5,8,9,10,11,12,13,14,15,16,17,18,19,20,21,22]) PL.drew Re∧∃b5:Nat→Nat→Prop,(∀i k,b4 i k→b5 i k)∧
   Calls prog 198 #[(.int .u32 Vm),(.int .u64 13)] Re fun e PX=>
   ∃abk:Int,e= .returned (.int .u32 abk)∧
   Kept (bE b5 [5,8,9,10,11,12,13,14,15,16,17,18,19,20,21,22]) Re PX∧∃b6:Nat→Nat→Prop,(∀i k,b5 i k→b6 i k)∧
   Calls prog 198 #[(.int .u32 Vm),(.int .u64 22)] PX fun e Qm=>
   ∃abj:Int,e= .returned (.int .u32 abj)∧
   Kept (bE b6 [4,8,9,10,11,12,13,14,15,16,17,18,19,20,21,22]) PX Qm∧∃b7:Nat→Nat→Prop,(∀i k,b6 i k→b7 i k)∧
   ∀t21:Int,t21=(u32.wrap ((u32.wrap (BitVec.ofInt u32.bits (u32.wrap (BitVec.ofInt u32.bits abl ^^^ BitVec.ofInt u32.bits abk).toNat) ^^^ BitVec.ofInt u32.bits abj).toNat)+(u32.wrap (BitVec.ofInt u32.bits (u32.wrap (BitVec.ofInt u32.bits (u32.wrap (BitVec.ofInt u32.bits Vm &&& BitVec.ofInt u32.bits abi).toNat) ^^^ BitVec.ofInt u32.bits (u32.wrap (BitVec.ofInt u32.bits Vm &&& BitVec.ofInt u32.bits abh).toNat)).toNat) ^^^ BitVec.ofInt u32.bits (u32.wrap (BitVec.ofInt u32.bits abg &&& BitVec.ofInt u32.bits abf).toNat)).toNat)))→
   (0≤(0:Int)∧(0:Int)<((8:Nat):Int))∧
   ∃abb:Int,Qm.cell? ((Addr.mk Ox 0 none).add (Int.toNat 0*1))=some (.int .u32 abb)∧
   (0≤(1:Int)∧(1:Int)<((8:Nat):Int))∧
   ∃aba:Int,Qm.cell? ((Addr.mk Ox 0 none).add (Int.toNat 1*1))=some (.int .u32 aba)∧
   (0≤(2:Int)∧(2:Int)<((8:Nat):Int))∧
   ∃aa9:Int,Qm.cell? ((Addr.mk Ox 0 none).add (Int.toNat 2*1))=some (.int .u32 aa9)∧
   (0≤(3:Int)∧(3:Int)<((8:Nat):Int))∧
   ∃aa8:Int,Qm.cell? ((Addr.mk Ox 0 none).add (Int.toNat 3*1))=some (.int .u32 aa8)∧
   (0≤(4:Int)∧(4:Int)<((8:Nat):Int))∧
   ∃aa4:Int,Qm.cell? ((Addr.mk Ox 0 none).add (Int.toNat 4*1))=some (.int .u32 aa4)∧
   (0≤(5:Int)∧(5:Int)<((8:Nat):Int))∧
   ∃aa3:Int,Qm.cell? ((Addr.mk Ox 0 none).add (Int.toNat 5*1))=some (.int .u32 aa3)∧
   (0≤(6:Int)∧(6:Int)<((8:Nat):Int))∧
   ∃aa2:Int,Qm.cell? ((Addr.mk Ox 0 none).add (Int.toNat 6*1))=some (.int .u32 aa2)∧
   aA Qm (Addr.mk Ox 0 none) [(.int .u32 (u32.wrap (t11+t21))),(.int .u32 abb),(.int .u32 aba),(.int .u32 aa9),(.int .u32 (u32.wrap (aa8+t11))),(.int .u32 aa4),(.int .u32 aa3),(.int .u32 aa2)] fun abo=>
   ∀t4:Int,t4=(i64.wrap (t3+1))→
   ∃m3,m3<m2∧I1 m3 t4 abo) (
   ∀i:Int,i=0→
   ∃I2:Nat→Int→World→Prop,(∃m4,I2 m4 i NU)∧∀(m4:Nat)(_gv7:Nat→Value)(i1:Int),∀N1,I2 m4 i1 N1→
   split (decide ((i1:Int)<8)) (
    ∃b:Nat→Nat→Prop,
    (0≤(i1:Int)∧(i1:Int)<((8:Nat):Int))∧
    b 3 (((Addr.mk Ox 0 none).add (Int.toNat i1*1)).block)∧
    ∃aaS:Int,N1.drew.cell? ((Addr.mk Ox 0 none).add (Int.toNat i1*1))=some (.int .u32 aaS)∧
    (0≤(i1:Int)∧(i1:Int)<((8:Nat):Int))∧
    b 6 (((Addr.mk gv 0 none).add (Int.toNat i1*1)).block)∧
    ∃aaR:Int,N1.drew.cell? ((Addr.mk gv 0 none).add (Int.toNat i1*1))=some (.int .u32 aaR)∧
    (0≤(i1:Int)∧(i1:Int)<((8:Nat):Int))∧
    aA N1.drew ((Addr.mk Ox 0 none).add (Int.toNat i1*1)) [(.int .u32 (u32.wrap (aaS+aaR)))] fun Oy=>
    ∃b1:Nat→Nat→Prop,(∀i k,b i k→b1 i k)∧
    ∀i2:Int,i2=(i64.wrap (i1+1))→
    ∃m5,m5<m4∧I2 m5 i2 Oy) (
    ∃V0:Int,∃VZ:Int,∃VY:Int,∃VX:Int,∃VW:Int,∃VV:Int,∃VU:Int,∃VT:Int,(N1.cell? ((Addr.mk Ox 0 none).add 0)=some (.int .u32 V0)∧N1.cell? ((Addr.mk Ox 0 none).add 1)=some (.int .u32 VZ)∧N1.cell? ((Addr.mk Ox 0 none).add 2)=some (.int .u32 VY)∧N1.cell? ((Addr.mk Ox 0 none).add 3)=some (.int .u32 VX)∧N1.cell? ((Addr.mk Ox 0 none).add 4)=some (.int .u32 VW)∧N1.cell? ((Addr.mk Ox 0 none).add 5)=some (.int .u32 VV)∧N1.cell? ((Addr.mk Ox 0 none).add 6)=some (.int .u32 VU)∧N1.cell? ((Addr.mk Ox 0 none).add 7)=some (.int .u32 VT))∧
    aA N1 (Addr.mk NZ 0 none) [(.int .u32 V0),(.int .u32 VZ),(.int .u32 VY),(.int .u32 VX),(.int .u32 VW),(.int .u32 VV),(.int .u32 VU),(.int .u32 VT)] fun Oy=>
    ∃O8:Int,∃O7:Int,∃Pk:Int,∃Pj:Int,∃Ph:Int,∃PU:Int,∃PT:Int,∃PS:Int,(Oy.cell? ((Addr.mk NZ 0 none).add 0)=some (.int .u32 O8)∧Oy.cell? ((Addr.mk NZ 0 none).add 1)=some (.int .u32 O7)∧Oy.cell? ((Addr.mk NZ 0 none).add 2)=some (.int .u32 Pk)∧Oy.cell? ((Addr.mk NZ 0 none).add 3)=some (.int .u32 Pj)∧Oy.cell? ((Addr.mk NZ 0 none).add 4)=some (.int .u32 Ph)∧Oy.cell? ((Addr.mk NZ 0 none).add 5)=some (.int .u32 PU)∧Oy.cell? ((Addr.mk NZ 0 none).add 6)=some (.int .u32 PT)∧Oy.cell? ((Addr.mk NZ 0 none).add 7)=some (.int .u32 PS))∧
    R (.agg #[(.int .u32 O8),(.int .u32 O7),(.int .u32 Pk),(.int .u32 Pj),(.int .u32 Ph),(.int .u32 PU),(.int .u32 PT),(.int .u32 PS)]) Oy)))
def zQ:Ann:=(.node none .leaf (.node none .leaf (.node none (.node none .leaf (.node none (.node (some ⟨[(6,.one (.int .i64))],[6,7,8,16,17,18,19,20,21,22,23,24,25,26,27,28,29,30,31,32,33,34,35,36,37,38,39,40,41,42,43,44,45,46,47,48,49,50,51,52,53,54,55,56,57,58,59,60,61,62,63]⟩) .leaf .leaf) .leaf)) (.node none .leaf (.node none (.node none .leaf (.node none (.node (some ⟨[(10,.one (.int .i64))],[10,11,12,13,14,65,66,67,68,69,70,71,72,73,74,75,76,77,78,79,80,81,82,83,84,85,86,87,88,89,90,91,92,93,94,95,96,97,98,99,100,101,102,103,104,105,106,107,108,109,110,111,112,113,114,115,116,117,118,119,120,121,122,123,124,125,126,127,128,129,130,131,132,133,134,135,136,137,138,139,140,141,142,143,144,145,146]⟩) .leaf .leaf) .leaf)) (.node none (.node none .leaf (.node none (.node (some ⟨[(15,.one (.int .i64))],[15,147,148,149,150,151,152,153,154,155,156,157,158,159]⟩) .leaf .leaf) .leaf)) .leaf))))))
theorem R02Block_eq(statea:Int)(stateb:Int)(statec:Int)(stated:Int)(statee:Int)(statef:Int)(stateg:Int)(stateh:Int)(blocka:Int)(blockb:Int)(blockc:Int)(blockd:Int)(blocke:Int)(blockf:Int)(blockg:Int)(blockh:Int)(blocki:Int)(blockj:Int)(blockk:Int)(blockl:Int)(blockm:Int)(blockn:Int)(blocko:Int)(blockp:Int)(R:aD)(w:World):qe statea stateb statec stated statee statef stateg stateh blocka blockb blockc blockd blocke blockf blockg blockh blocki blockj blockk blockl blockm blockn blocko blockp R w=vcF prog aK [6,10,13,14,15] Tryz.f186 zQ [(.agg #[(.int .u32 statea),(.int .u32 stateb),(.int .u32 statec),(.int .u32 stated),(.int .u32 statee),(.int .u32 statef),(.int .u32 stateg),(.int .u32 stateh)]),(.agg #[(.int .u32 blocka),(.int .u32 blockb),(.int .u32 blockc),(.int .u32 blockd),(.int .u32 blocke),(.int .u32 blockf),(.int .u32 blockg),(.int .u32 blockh),(.int .u32 blocki),(.int .u32 blockj),(.int .u32 blockk),(.int .u32 blockl),(.int .u32 blockm),(.int .u32 blockn),(.int .u32 blocko),(.int .u32 blockp)])] R none w:=by kernel_rfl
theorem tB(statea:Int)(stateb:Int)(statec:Int)(stated:Int)(statee:Int)(statef:Int)(stateg:Int)(stateh:Int)(blocka:Int)(blockb:Int)(blockc:Int)(blockd:Int)(blocke:Int)(blockf:Int)(blockg:Int)(blockh:Int)(blocki:Int)(blockj:Int)(blockk:Int)(blockl:Int)(blockm:Int)(blockn:Int)(blocko:Int)(blockp:Int) {R:aD} {w:World}(h:qe statea stateb statec stated statee statef stateg stateh blocka blockb blockc blockd blocke blockf blockg blockh blocki blockj blockk blockl blockm blockn blocko blockp R w):Calls prog 186 #[(.agg #[(.int .u32 statea),(.int .u32 stateb),(.int .u32 statec),(.int .u32 stated),(.int .u32 statee),(.int .u32 statef),(.int .u32 stateg),(.int .u32 stateh)]),(.agg #[(.int .u32 blocka),(.int .u32 blockb),(.int .u32 blockc),(.int .u32 blockd),(.int .u32 blocke),(.int .u32 blockf),(.int .u32 blockg),(.int .u32 blockh),(.int .u32 blocki),(.int .u32 blockj),(.int .u32 blockk),(.int .u32 blockl),(.int .u32 blockm),(.int .u32 blockn),(.int .u32 blocko),(.int .u32 blockp)])] w fun e w'=>∃v,e= .returned v∧R v w':=
 ak Tryz.func186 aw aa ((R02Block_eq statea stateb statec stated statee statef stateg stateh blocka blockb blockc blockd blocke blockf blockg blockh blocki blockj blockk blockl blockm blockn blocko blockp R w).mp h)
def vx(R:aD)(w:World):Prop:=
 ∀(gv:Nat)(wv:World),gv=w.heap.size→wv=w.alloc (.cells (#[(.int .u32 0),(.int .u32 0),(.int .u32 0),(.int .u32 0),(.int .u32 0),(.int .u32 0),(.int .u32 0),(.int .u32 0)]) 66)→
 aA wv (Addr.mk gv 0 none) [(.int .u32 1779033703),(.int .u32 3144134277),(.int .u32 1013904242),(.int .u32 2773480762),(.int .u32 1359893119),(.int .u32 2600822924),(.int .u32 528734635),(.int .u32 1541459225)] fun Nw=>
 ∃O8:Int,∃O7:Int,∃Pk:Int,∃Pj:Int,∃Ph:Int,∃PU:Int,∃PT:Int,∃PS:Int,(Nw.cell? ((Addr.mk gv 0 none).add 0)=some (.int .u32 O8)∧Nw.cell? ((Addr.mk gv 0 none).add 1)=some (.int .u32 O7)∧Nw.cell? ((Addr.mk gv 0 none).add 2)=some (.int .u32 Pk)∧Nw.cell? ((Addr.mk gv 0 none).add 3)=some (.int .u32 Pj)∧Nw.cell? ((Addr.mk gv 0 none).add 4)=some (.int .u32 Ph)∧Nw.cell? ((Addr.mk gv 0 none).add 5)=some (.int .u32 PU)∧Nw.cell? ((Addr.mk gv 0 none).add 6)=some (.int .u32 PT)∧Nw.cell? ((Addr.mk gv 0 none).add 7)=some (.int .u32 PS))∧
 R (.agg #[(.int .u32 O8),(.int .u32 O7),(.int .u32 Pk),(.int .u32 Pj),(.int .u32 Ph),(.int .u32 PU),(.int .u32 PT),(.int .u32 PS)]) Nw
def EX:Ann:= .leaf
theorem SFirst_eq(R:aD)(w:World):vx R w=vcF prog aK [] Tryz.f137 EX [] R none w:=by kernel_rfl
theorem wX {R:aD} {w:World}(h:vx R w):Calls prog 137 #[] w fun e w'=>∃v,e= .returned v∧R v w':=
 ak Tryz.func137 aw aa ((SFirst_eq R w).mp h)
def qd(R:aD)(w:World):Prop:=
 ∀(gv:Nat)(wv:World),gv=w.heap.size→wv=w.alloc (.cells (#[(.int .u32 0),(.int .u32 0),(.int .u32 0),(.int .u32 0),(.int .u32 0),(.int .u32 0),(.int .u32 0),(.int .u32 0)]) 66)→
 aA wv (Addr.mk gv 0 none) [(.int .u32 1779033703),(.int .u32 3144134277),(.int .u32 1013904242),(.int .u32 2773480762),(.int .u32 1359893119),(.int .u32 2600822924),(.int .u32 528734635),(.int .u32 1541459225)] fun Nw=>
 ∃O8:Int,∃O7:Int,∃Pk:Int,∃Pj:Int,∃Ph:Int,∃PU:Int,∃PT:Int,∃PS:Int,(Nw.cell? ((Addr.mk gv 0 none).add 0)=some (.int .u32 O8)∧Nw.cell? ((Addr.mk gv 0 none).add 1)=some (.int .u32 O7)∧Nw.cell? ((Addr.mk gv 0 none).add 2)=some (.int .u32 Pk)∧Nw.cell? ((Addr.mk gv 0 none).add 3)=some (.int .u32 Pj)∧Nw.cell? ((Addr.mk gv 0 none).add 4)=some (.int .u32 Ph)∧Nw.cell? ((Addr.mk gv 0 none).add 5)=some (.int .u32 PU)∧Nw.cell? ((Addr.mk gv 0 none).add 6)=some (.int .u32 PT)∧Nw.cell? ((Addr.mk gv 0 none).add 7)=some (.int .u32 PS))∧
 R (.agg #[(.int .u32 O8),(.int .u32 O7),(.int .u32 Pk),(.int .u32 Pj),(.int .u32 Ph),(.int .u32 PU),(.int .u32 PT),(.int .u32 PS)]) Nw
def zP:Ann:= .leaf
theorem R02First_eq(R:aD)(w:World):qd R w=vcF prog aK [] Tryz.f159 zP [] R none w:=by kernel_rfl
theorem tA {R:aD} {w:World}(h:qd R w):Calls prog 159 #[] w fun e w'=>∃v,e= .returned v∧R v w':=
 ak Tryz.func159 aw aa ((R02First_eq R w).mp h)
end
section
set_option maxRecDepth 100000
def DN(R:aD)(w:World):Prop:=
 Calls prog 137 #[] w fun e wv=>
 ∃x1a:Int,∃x1b:Int,∃x1c:Int,∃x1d:Int,∃x1e:Int,∃x1f:Int,∃x1g:Int,∃x1h:Int,e= .returned (.agg #[(.int .u32 x1a),(.int .u32 x1b),(.int .u32 x1c),(.int .u32 x1d),(.int .u32 x1e),(.int .u32 x1f),(.int .u32 x1g),(.int .u32 x1h)])∧
 ∀(gv:Nat)(Nw:World),gv=wv.heap.size→Nw=wv.alloc (.cells #[(.int .u32 x1a),(.int .u32 x1b),(.int .u32 x1c),(.int .u32 x1d),(.int .u32 x1e),(.int .u32 x1f),(.int .u32 x1g),(.int .u32 x1h),(.int .i64 0),(.slice none 0 0)] 228)→
 R (.pointer (some (Addr.mk gv 0 none))) Nw
def Kb:Ann:= .leaf
theorem SNew_eq(R:aD)(w:World):DN R w=vcF prog aK [] Tryz.f125 Kb [] R none w:=by kernel_rfl
theorem BX {R:aD} {w:World}(h:DN R w):Calls prog 125 #[] w fun e w'=>∃v,e= .returned v∧R v w':=
 ak Tryz.func125 aw aa ((SNew_eq R w).mp h)
def DO(d:Option Addr)(wordsA:Option Addr)(wordsN:Nat)(wordsC:Nat)(R:aD)(w:World):Prop:=
 au d fun p8=>
 ∃OH:Int,w.cell? (p8.add 8)=some (.int .i64 OH)∧
 split (decide ((((wordsN:Nat):Int):Int)>(i64.wrap (36028797018963968 - OH)))) (
  R (.tuple #[]) w) (
  au d fun SG=>
  ∃OJ:Int,w.cell? (SG.add 8)=some (.int .i64 OJ)∧
  au d fun p20=>
  aA w (p20.add 8) [(.int .i64 (i64.wrap (OJ+((wordsN:Nat):Int))))] fun wv=>
  ∃b:Nat→Nat→Prop,
  au d fun SF=>
  b 3 ((SF.add 9).block)∧
  ∃Q8:Option Addr,∃R8:Nat,∃SX:Nat,wv.drew.cell? (SF.add 9)=some (.slice Q8 R8 SX)∧
  au d fun U7=>
  b 7 ((U7.add 9).block)∧
  ∃WN:Option Addr,∃R7:Nat,∃WM:Nat,wv.drew.cell? (U7.add 9)=some (.slice WN R7 WM)∧
  au d fun XM=>
  b 12 ((XM.add 9).block)∧
  ∃WK:Option Addr,∃Q7:Nat,∃WJ:Nat,wv.drew.cell? (XM.add 9)=some (.slice WK Q7 WJ)∧
  (0≤(((Q7:Nat):Int):Int)∧(((Q7:Nat):Int):Int)≤((SX:Nat):Int))∧
  (0≤(((R7:Nat):Int):Int)∧(((R7:Nat):Int):Int)≤((Int.toNat ((Q7:Nat):Int):Nat):Int))∧
  ∀Q6:Option Addr,Q6=(if(Int.toNat ((Q7:Nat):Int))=0 then Q8 else(Q8:Option Addr).map (·.add (0*1)))→∀Q4:Nat,Q4=(Int.toNat ((R7:Nat):Int)) - 0→∀Q5:Nat,Q5=(Int.toNat ((Q7:Nat):Int)) - 0→
  ∃Ry:Option Addr,∃Rx:Nat,∃R6:Nat,∃Nw,(Builtin.append_ #[62,62] 62 #[(.slice Q6 Q4 Q5),(.slice wordsA wordsN wordsC)]:Sem Value).run prog wv.drew= .ok (.slice Ry Rx R6) Nw∧
  Kept (bE b [0,1,4,5,6,9,10,11]) wv.drew Nw∧∃b1:Nat→Nat→Prop,(∀i k,b i k→b1 i k)∧
  ∃I:Nat→Option Addr→Nat→Nat→World→Prop,(∃m,I m Ry Rx R6 Nw)∧∀(m:Nat)(PO:Nat→Value)(leftA:Option Addr)(leftN:Nat)(leftC:Nat),∀Ny,I m leftA leftN leftC Ny→
  split (decide ((((leftN:Nat):Int):Int)≥16)) (
   ∃b2:Nat→Nat→Prop,
   au d fun VB=>
   b2 4 ((VB.add 0).block)∧
   ∃TL:Int,∃TK:Int,∃TJ:Int,∃TI:Int,∃TH:Int,∃TG:Int,∃TF:Int,∃TE:Int,(Ny.drew.cell? ((VB.add 0).add 0)=some (.int .u32 TL)∧Ny.drew.cell? ((VB.add 0).add 1)=some (.int .u32 TK)∧Ny.drew.cell? ((VB.add 0).add 2)=some (.int .u32 TJ)∧Ny.drew.cell? ((VB.add 0).add 3)=some (.int .u32 TI)∧Ny.drew.cell? ((VB.add 0).add 4)=some (.int .u32 TH)∧Ny.drew.cell? ((VB.add 0).add 5)=some (.int .u32 TG)∧Ny.drew.cell? ((VB.add 0).add 6)=some (.int .u32 TF)∧Ny.drew.cell? ((VB.add 0).add 7)=some (.int .u32 TE))∧
   16≤leftN∧
   au leftA fun RL=>
   b2 7 (RL.block)∧
   ∃Za:Int,∃Y9:Int,∃Y8:Int,∃Y7:Int,∃Y6:Int,∃Y5:Int,∃Y4:Int,∃Y3:Int,∃Y1:Int,∃Y0:Int,∃YZ:Int,∃YY:Int,∃YX:Int,∃YW:Int,∃YV:Int,∃YU:Int,(Ny.drew.cell? (RL.add 0)=some (.int .u32 Za)∧Ny.drew.cell? (RL.add 1)=some (.int .u32 Y9)∧Ny.drew.cell? (RL.add 2)=some (.int .u32 Y8)∧Ny.drew.cell? (RL.add 3)=some (.int .u32 Y7)∧Ny.drew.cell? (RL.add 4)=some (.int .u32 Y6)∧Ny.drew.cell? (RL.add 5)=some (.int .u32 Y5)∧Ny.drew.cell? (RL.add 6)=some (.int .u32 Y4)∧Ny.drew.cell? (RL.add 7)=some (.int .u32 Y3)∧Ny.drew.cell? (RL.add 8)=some (.int .u32 Y1)∧Ny.drew.cell? (RL.add 9)=some (.int .u32 Y0)∧Ny.drew.cell? (RL.add 10)=some (.int .u32 YZ)∧Ny.drew.cell? (RL.add 11)=some (.int .u32 YY)∧Ny.drew.cell? (RL.add 12)=some (.int .u32 YX)∧Ny.drew.cell? (RL.add 13)=some (.int .u32 YW)∧Ny.drew.cell? (RL.add 14)=some (.int .u32 YV)∧Ny.drew.cell? (RL.add 15)=some (.int .u32 YU))∧
   Calls prog 175 #[(.agg #[(.int .u32 TL),(.int .u32 TK),(.int .u32 TJ),(.int .u32 TI),(.int .u32 TH),(.int .u32 TG),(.int .u32 TF),(.int .u32 TE)]),(.agg #[(.int .u32 Za),(.int .u32 Y9),(.int .u32 Y8),(.int .u32 Y7),(.int .u32 Y6),(.int .u32 Y5),(.int .u32 Y4),(.int .u32 Y3),(.int .u32 Y1),(.int .u32 Y0),(.int .u32 YZ),(.int .u32 YY),(.int .u32 YX),(.int .u32 YW),(.int .u32 YV),(.int .u32 YU)])] Ny.drew fun e NF=>
   ∃TD:Int,∃TC:Int,∃TB:Int,∃TA:Int,∃Tz:Int,∃Ty:Int,∃Tx:Int,∃Tw:Int,e= .returned (.agg #[(.int .u32 TD),(.int .u32 TC),(.int .u32 TB),(.int .u32 TA),(.int .u32 Tz),(.int .u32 Ty),(.int .u32 Tx),(.int .u32 Tw)])∧
   Kept (bE b2 [0,1]) Ny.drew NF∧∃b3:Nat→Nat→Prop,(∀i k,b2 i k→b3 i k)∧
   au d fun WU=>
   aA NF (WU.add 0) [(.int .u32 TD),(.int .u32 TC),(.int .u32 TB),(.int .u32 TA),(.int .u32 Tz),(.int .u32 Ty),(.int .u32 Tx),(.int .u32 Tw)] fun NI=>
   ∃b4:Nat→Nat→Prop,(∀i k,b3 i k→b4 i k)∧
   (0≤(16:Int)∧(16:Int)≤((leftN:Nat):Int))∧
   ∀SV:Option Addr,SV=(if leftC=(Int.toNat 16)then leftA else(leftA:Option Addr).map (·.add ((Int.toNat 16)*1)))→∀SS:Nat,SS=leftN - (Int.toNat 16)→∀SU:Nat,SU=leftC - (Int.toNat 16)→
   ∃m1,m1<m∧I m1 SV SS SU NI) (
   ∃Tu:Option Addr,∃Tt:Nat,∃Vp:Nat,∃NF,(Builtin.append_ #[62,62] 62 #[(.slice none 0 0),(.slice leftA leftN leftC)]:Sem Value).run prog Ny= .ok (.slice Tu Tt Vp) NF∧
   au d fun p58=>
   aA NF (p58.add 9) [(.slice Tu Tt Vp)] fun NI=>
   R (.tuple #[]) NI))
def Kc:Ann:=(.node none .leaf (.node none .leaf (.node none .leaf (.node none (.node none (.node (some ⟨[(4,.one (.slice))],[4,39,40,41,42,43,44,45,46,47,48,49,50,51,52,53,54]⟩) .leaf .leaf) .leaf) .leaf))))
theorem SAdd_eq(d:Option Addr)(wordsA:Option Addr)(wordsN:Nat)(wordsC:Nat)(R:aD)(w:World):DO d wordsA wordsN wordsC R w=vcF prog aK [4] Tryz.f135 Kc [(.pointer d),(.slice wordsA wordsN wordsC)] R none w:=by kernel_rfl
theorem BZ(d:Option Addr)(wordsA:Option Addr)(wordsN:Nat)(wordsC:Nat) {R:aD} {w:World}(h:DO d wordsA wordsN wordsC R w):Calls prog 135 #[(.pointer d),(.slice wordsA wordsN wordsC)] w fun e w'=>∃v,e= .returned v∧R v w':=
 ak Tryz.func135 aw aa ((SAdd_eq d wordsA wordsN wordsC R w).mp h)
def zp(d:Option Addr)(R:aD)(w:World):Prop:=
 ∀(gv:Nat)(wv:World),gv=w.heap.size→wv=w.alloc (.cells (Array.replicate 26 (.int .u32 0)) 69)→
 ∀(NB:Nat)(Nw:World),NB=wv.heap.size→Nw=wv.alloc (.cells (Array.replicate 26 (.int .u32 0)) 69)→
 ∃b:Nat→Nat→Prop,
 (0≤(8:Int)∧(8:Int)≤((26:Nat):Int))∧
 ∀x4A:Option Addr,x4A=(some (if 26=0 then Addr.mk NB 0 none else(Addr.mk NB 0 none).add (0*1)))→∀x4N:Nat,x4N=(Int.toNat 8) - 0→∀x4C:Nat,x4C=26 - 0→
 au d fun p6=>
 ∀Yi:Option Addr,Yi=(some (if 8=0 then p6.add 0 else(p6.add 0).add (0*1)))→∀Yg:Nat,Yg=8 - 0→∀Yh:Nat,Yh=8 - 0→
 ∃x9:Int,∃Ny,(Builtin.copy_ #[62,62] 3 #[(.slice x4A x4N x4C),(.slice Yi Yg Yh)]:Sem Value).run prog Nw.drew= .ok (.int .i64 x9) Ny∧
 Kept (bE b [1]) Nw.drew Ny∧∃b1:Nat→Nat→Prop,(∀i k,b i k→b1 i k)∧
 ∃b2:Nat→Nat→Prop,
 au d fun p11=>
 b2 3 ((p11.add 8).block)∧
 ∃P7:Int,Ny.drew.cell? (p11.add 8)=some (.int .i64 P7)∧
 au d fun Va=>
 b2 10 ((Va.add 8).block)∧
 ∃ON:Int,Ny.drew.cell? (Va.add 8)=some (.int .i64 ON)∧
 (0≤(8:Int)∧(8:Int)<((26:Nat):Int))∧
 aA Ny.drew ((Addr.mk NB 0 none).add (Int.toNat 8*1)) [(.int .u32 (u32.wrap ((u64.wrap P7:Int).fdiv (2 ^ 32))))] fun NF=>
 Kept (bE b2 [7,11]) Ny.drew NF∧∃b3:Nat→Nat→Prop,(∀i k,b2 i k→b3 i k)∧
 (0≤(9:Int)∧(9:Int)<((26:Nat):Int))∧
 aA NF ((Addr.mk NB 0 none).add (Int.toNat 9*1)) [(.int .u32 (u32.wrap ON))] fun NI=>
 ∃b4:Nat→Nat→Prop,(∀i k,b3 i k→b4 i k)∧
 ∃b5:Nat→Nat→Prop,
 (0≤(10:Int)∧(10:Int)≤((26:Nat):Int))∧
 ∀Ql:Option Addr,Ql=(some (if 26=(Int.toNat 10)then Addr.mk NB 0 none else(Addr.mk NB 0 none).add ((Int.toNat 10)*1)))→∀P9:Nat,P9=26 - (Int.toNat 10)→∀Qk:Nat,Qk=26 - (Int.toNat 10)→
 au d fun Sf=>
 b5 4 ((Sf.add 9).block)∧
 ∃PN:Option Addr,∃PI:Nat,∃PW:Nat,NI.drew.cell? (Sf.add 9)=some (.slice PN PI PW)∧
 ∃QO:Int,∃NW,(Builtin.copy_ #[62,62] 3 #[(.slice Ql P9 Qk),(.slice PN PI PW)]:Sem Value).run prog NI.drew= .ok (.int .i64 QO) NW∧
 Kept (bE b5 [1]) NI.drew NW∧∃b6:Nat→Nat→Prop,(∀i k,b5 i k→b6 i k)∧
 ∃OU:Array Value,(OU.size=26∧∀i u,OU[i]? =some u→NW.cell? ((Addr.mk NB 0 none).add i)=some u)∧
 OU.size=26∧(∀v∈OU.toList,one? v True)∧
 aA NW (Addr.mk gv 0 none) OU.toList fun NT=>
 ∃r0:Array Value,(r0.size=26∧∀i u,r0[i]? =some u→NT.cell? ((Addr.mk gv 0 none).add i)=some u)∧
 R (.agg r0) NT
def H8:Ann:= .leaf
theorem SSave_eq(d:Option Addr)(R:aD)(w:World):zp d R w=vcF prog aK [] Tryz.f126 H8 [(.pointer d)] R none w:=by kernel_rfl
theorem zq(d:Option Addr) {R:aD} {w:World}(h:zp d R w):Calls prog 126 #[(.pointer d)] w fun e w'=>∃v,e= .returned v∧R v w':=
 ak Tryz.func126 aw aa ((SSave_eq d R w).mp h)
def vF(R:aD)(w:World):Prop:=
 ∀(gv:Nat)(wv:World),gv=w.heap.size→wv=w.alloc (.cells (#[(.int .u32 0),(.int .u32 0),(.int .u32 0),(.int .u32 0),(.int .u32 0),(.int .u32 0),(.int .u32 0),(.int .u32 0),(.slice none 0 0),(.int .i64 0)]) 174)→
 Calls prog 159 #[] wv fun e Nw=>
 ∃x1a:Int,∃x1b:Int,∃x1c:Int,∃x1d:Int,∃x1e:Int,∃x1f:Int,∃x1g:Int,∃x1h:Int,e= .returned (.agg #[(.int .u32 x1a),(.int .u32 x1b),(.int .u32 x1c),(.int .u32 x1d),(.int .u32 x1e),(.int .u32 x1f),(.int .u32 x1g),(.int .u32 x1h)])∧
 aA Nw (Addr.mk gv 0 none) [(.int .u32 x1a),(.int .u32 x1b),(.int .u32 x1c),(.int .u32 x1d),(.int .u32 x1e),(.int .u32 x1f),(.int .u32 x1g),(.int .u32 x1h),(.slice none 0 0),(.int .i64 0)] fun Ny=>
 ∃O8:Int,∃O7:Int,∃Pk:Int,∃Pj:Int,∃Ph:Int,∃PU:Int,∃PT:Int,∃PS:Int,∃r0iA:Option Addr,∃r0iN:Nat,∃r0iC:Nat,∃QV:Int,(Ny.cell? ((Addr.mk gv 0 none).add 0)=some (.int .u32 O8)∧Ny.cell? ((Addr.mk gv 0 none).add 1)=some (.int .u32 O7)∧Ny.cell? ((Addr.mk gv 0 none).add 2)=some (.int .u32 Pk)∧Ny.cell? ((Addr.mk gv 0 none).add 3)=some (.int .u32 Pj)∧Ny.cell? ((Addr.mk gv 0 none).add 4)=some (.int .u32 Ph)∧Ny.cell? ((Addr.mk gv 0 none).add 5)=some (.int .u32 PU)∧Ny.cell? ((Addr.mk gv 0 none).add 6)=some (.int .u32 PT)∧Ny.cell? ((Addr.mk gv 0 none).add 7)=some (.int .u32 PS)∧Ny.cell? ((Addr.mk gv 0 none).add 8)=some (.slice r0iA r0iN r0iC)∧Ny.cell? ((Addr.mk gv 0 none).add 9)=some (.int .i64 QV))∧
 R (.agg #[(.int .u32 O8),(.int .u32 O7),(.int .u32 Pk),(.int .u32 Pj),(.int .u32 Ph),(.int .u32 PU),(.int .u32 PT),(.int .u32 PS),(.slice r0iA r0iN r0iC),(.int .i64 QV)]) Ny
def FB:Ann:= .leaf
theorem R02New_eq(R:aD)(w:World):vF R w=vcF prog aK [] Tryz.f101 FB [] R none w:=by kernel_rfl
theorem xa {R:aD} {w:World}(h:vF R w):Calls prog 101 #[] w fun e w'=>∃v,e= .returned v∧R v w':=
 ak Tryz.func101 aw aa ((R02New_eq R w).mp h)
def tv(da:Int)(db:Int)(dc:Int)(dd:Int)(de:Int)(df:Int)(dg:Int)(dh:Int)(diA:Option Addr)(diN:Nat)(diC:Nat)(dj:Int)(R:aD)(w:World):Prop:=
 ∀(gv:Nat)(wv:World),gv=w.heap.size→wv=w.alloc (.cells #[(.int .u32 da),(.int .u32 db),(.int .u32 dc),(.int .u32 dd),(.int .u32 de),(.int .u32 df),(.int .u32 dg),(.int .u32 dh),(.slice diA diN diC),(.int .i64 dj)] 174)→
 ∀(NB:Nat)(Nw:World),NB=wv.heap.size→Nw=wv.alloc (.cells (Array.replicate 26 (.int .u32 0)) 69)→
 ∀(NZ:Nat)(Ny:World),NZ=Nw.heap.size→Ny=Nw.alloc (.cells (Array.replicate 26 (.int .u32 0)) 69)→
 ∀i:Int,i=0→
 ∃I:Nat→Int→World→Prop,(∃m,I m i Ny)∧∀(m:Nat)(QD:Nat→Value)(i1:Int),∀NF,I m i1 NF→
 split (decide ((i1:Int)<8)) (
  (0≤(i1:Int)∧(i1:Int)<((8:Nat):Int))∧
  ∃P6:Int,NF.cell? (((Addr.mk gv 0 none).add 0).add (Int.toNat i1*1))=some (.int .u32 P6)∧
  (0≤(i1:Int)∧(i1:Int)<((26:Nat):Int))∧
  aA NF ((Addr.mk NZ 0 none).add (Int.toNat i1*1)) [(.int .u32 P6)] fun NI=>
  ∀i2:Int,i2=(i64.wrap (i1+1))→
  ∃m1,m1<m∧I m1 i2 NI) (
  ∃Po:Int,NF.cell? ((Addr.mk gv 0 none).add 9)=some (.int .i64 Po)∧
  (0≤(8:Int)∧(8:Int)<((26:Nat):Int))∧
  aA NF ((Addr.mk NZ 0 none).add (Int.toNat 8*1)) [(.int .u32 (u32.wrap ((u64.wrap Po:Int).fdiv (2 ^ 32))))] fun NI=>
  ∃QP:Int,NI.cell? ((Addr.mk gv 0 none).add 9)=some (.int .i64 QP)∧
  (0≤(9:Int)∧(9:Int)<((26:Nat):Int))∧
  aA NI ((Addr.mk NZ 0 none).add (Int.toNat 9*1)) [(.int .u32 (u32.wrap (u64.wrap QP)))] fun NW=>
  ∀i2:Int,i2=0→
  ∃I1:Nat→Int→World→Prop,(∃m2,I1 m2 i2 NW)∧∀(m2:Nat)(Ro:Nat→Value)(i3:Int),∀NT,I1 m2 i3 NT→
  ∃WN:Option Addr,∃R7:Nat,∃WM:Nat,NT.cell? ((Addr.mk gv 0 none).add 8)=some (.slice WN R7 WM)∧
  split (decide ((i3:Int)<((R7:Nat):Int))) (
   ∃Z9:Option Addr,∃Z8:Nat,∃adh:Nat,NT.cell? ((Addr.mk gv 0 none).add 8)=some (.slice Z9 Z8 adh)∧
   (0≤(i3:Int)∧(i3:Int)<((Z8:Nat):Int))∧
   au Z9 fun p39=>
   ∃x40:Int,NT.cell? (p39.add (Int.toNat i3*1))=some (.int .u32 x40)∧
   (0≤(i64.wrap (10+i3):Int)∧(i64.wrap (10+i3):Int)<((26:Nat):Int))∧
   aA NT ((Addr.mk NZ 0 none).add (Int.toNat (i64.wrap (10+i3))*1)) [(.int .u32 x40)] fun NU=>
   ∀i4:Int,i4=(i64.wrap (i3+1))→
   ∃m3,m3<m2∧I1 m3 i4 NU) (
   ∃Q3:Array Value,(Q3.size=26∧∀i u,Q3[i]? =some u→NT.cell? ((Addr.mk NZ 0 none).add i)=some u)∧
   Q3.size=26∧(∀v∈Q3.toList,one? v True)∧
   aA NT (Addr.mk NB 0 none) Q3.toList fun NU=>
   ∃r0:Array Value,(r0.size=26∧∀i u,r0[i]? =some u→NU.cell? ((Addr.mk NB 0 none).add i)=some u)∧
   R (.agg r0) NU))
def Ct:Ann:=(.node none .leaf (.node none .leaf (.node none (.node none .leaf (.node none (.node (some ⟨[(4,.one (.int .i64))],[4,6,7,8,9,10,11,12,13,14,15]⟩) .leaf .leaf) .leaf)) (.node none .leaf (.node none .leaf (.node none (.node none .leaf (.node none (.node (some ⟨[(5,.one (.int .i64))],[5,27,28,29,30,31,32,33,34,35,36,37,38,39,40,41]⟩) .leaf .leaf) .leaf)) .leaf))))))
theorem R02Save_eq(da:Int)(db:Int)(dc:Int)(dd:Int)(de:Int)(df:Int)(dg:Int)(dh:Int)(diA:Option Addr)(diN:Nat)(diC:Nat)(dj:Int)(R:aD)(w:World):tv da db dc dd de df dg dh diA diN diC dj R w=vcF prog aK [4,5] Tryz.f158 Ct [(.agg #[(.int .u32 da),(.int .u32 db),(.int .u32 dc),(.int .u32 dd),(.int .u32 de),(.int .u32 df),(.int .u32 dg),(.int .u32 dh),(.slice diA diN diC),(.int .i64 dj)])] R none w:=by kernel_rfl
theorem uy(da:Int)(db:Int)(dc:Int)(dd:Int)(de:Int)(df:Int)(dg:Int)(dh:Int)(diA:Option Addr)(diN:Nat)(diC:Nat)(dj:Int) {R:aD} {w:World}(h:tv da db dc dd de df dg dh diA diN diC dj R w):Calls prog 158 #[(.agg #[(.int .u32 da),(.int .u32 db),(.int .u32 dc),(.int .u32 dd),(.int .u32 de),(.int .u32 df),(.int .u32 dg),(.int .u32 dh),(.slice diA diN diC),(.int .i64 dj)])] w fun e w'=>∃v,e= .returned v∧R v w':=
 ak Tryz.func158 aw aa ((R02Save_eq da db dc dd de df dg dh diA diN diC dj R w).mp h)
def vG(da:Int)(db:Int)(dc:Int)(dd:Int)(de:Int)(df:Int)(dg:Int)(dh:Int)(diA:Option Addr)(diN:Nat)(diC:Nat)(dj:Int)(wordsA:Option Addr)(wordsN:Nat)(wordsC:Nat)(R:aD)(w:World):Prop:=
 ∀(gv:Nat)(wv:World),gv=w.heap.size→wv=w.alloc (.cells #[(.int .u32 da),(.int .u32 db),(.int .u32 dc),(.int .u32 dd),(.int .u32 de),(.int .u32 df),(.int .u32 dg),(.int .u32 dh),(.slice diA diN diC),(.int .i64 dj)] 174)→
 ∀(NB:Nat)(Nw:World),NB=wv.heap.size→Nw=wv.alloc (.cells (#[(.int .u32 0),(.int .u32 0),(.int .u32 0),(.int .u32 0),(.int .u32 0),(.int .u32 0),(.int .u32 0),(.int .u32 0),(.slice none 0 0),(.int .i64 0)]) 174)→
 ∃Pg:Int,Nw.cell? ((Addr.mk gv 0 none).add 9)=some (.int .i64 Pg)∧
 split (decide ((((wordsN:Nat):Int):Int)>(i64.wrap (36028797018963968 - Pg)))) (
  ∃QG:Int,∃Qz:Int,∃RI:Int,∃RH:Int,∃RG:Int,∃Ur:Int,∃Uq:Int,∃Up:Int,∃x14iA:Option Addr,∃x14iN:Nat,∃x14iC:Nat,∃Uo:Int,(Nw.cell? ((Addr.mk gv 0 none).add 0)=some (.int .u32 QG)∧Nw.cell? ((Addr.mk gv 0 none).add 1)=some (.int .u32 Qz)∧Nw.cell? ((Addr.mk gv 0 none).add 2)=some (.int .u32 RI)∧Nw.cell? ((Addr.mk gv 0 none).add 3)=some (.int .u32 RH)∧Nw.cell? ((Addr.mk gv 0 none).add 4)=some (.int .u32 RG)∧Nw.cell? ((Addr.mk gv 0 none).add 5)=some (.int .u32 Ur)∧Nw.cell? ((Addr.mk gv 0 none).add 6)=some (.int .u32 Uq)∧Nw.cell? ((Addr.mk gv 0 none).add 7)=some (.int .u32 Up)∧Nw.cell? ((Addr.mk gv 0 none).add 8)=some (.slice x14iA x14iN x14iC)∧Nw.cell? ((Addr.mk gv 0 none).add 9)=some (.int .i64 Uo))∧
  aA Nw (Addr.mk NB 0 none) [(.int .u32 QG),(.int .u32 Qz),(.int .u32 RI),(.int .u32 RH),(.int .u32 RG),(.int .u32 Ur),(.int .u32 Uq),(.int .u32 Up),(.slice x14iA x14iN x14iC),(.int .i64 Uo)] fun Ny=>
  ∃O8:Int,∃O7:Int,∃Pk:Int,∃Pj:Int,∃Ph:Int,∃PU:Int,∃PT:Int,∃PS:Int,∃r0iA:Option Addr,∃r0iN:Nat,∃r0iC:Nat,∃QV:Int,(Ny.cell? ((Addr.mk NB 0 none).add 0)=some (.int .u32 O8)∧Ny.cell? ((Addr.mk NB 0 none).add 1)=some (.int .u32 O7)∧Ny.cell? ((Addr.mk NB 0 none).add 2)=some (.int .u32 Pk)∧Ny.cell? ((Addr.mk NB 0 none).add 3)=some (.int .u32 Pj)∧Ny.cell? ((Addr.mk NB 0 none).add 4)=some (.int .u32 Ph)∧Ny.cell? ((Addr.mk NB 0 none).add 5)=some (.int .u32 PU)∧Ny.cell? ((Addr.mk NB 0 none).add 6)=some (.int .u32 PT)∧Ny.cell? ((Addr.mk NB 0 none).add 7)=some (.int .u32 PS)∧Ny.cell? ((Addr.mk NB 0 none).add 8)=some (.slice r0iA r0iN r0iC)∧Ny.cell? ((Addr.mk NB 0 none).add 9)=some (.int .i64 QV))∧
  R (.agg #[(.int .u32 O8),(.int .u32 O7),(.int .u32 Pk),(.int .u32 Pj),(.int .u32 Ph),(.int .u32 PU),(.int .u32 PT),(.int .u32 PS),(.slice r0iA r0iN r0iC),(.int .i64 QV)]) Ny) (
  ∃Sb:Option Addr,∃RF:Nat,∃Sa:Nat,Nw.cell? ((Addr.mk gv 0 none).add 8)=some (.slice Sb RF Sa)∧
  ∃Qy:Option Addr,∃Qw:Nat,∃Qx:Nat,∃Ny,(Builtin.append_ #[62,62] 62 #[(.slice none 0 0),(.slice Sb RF Sa)]:Sem Value).run prog Nw= .ok (.slice Qy Qw Qx) Ny∧
  ∃Ue:Int,∃Ud:Int,∃Uc:Int,∃Ub:Int,∃Ua:Int,∃aaB:Int,∃aaA:Int,∃aaz:Int,(Ny.cell? (((Addr.mk gv 0 none).add 0).add 0)=some (.int .u32 Ue)∧Ny.cell? (((Addr.mk gv 0 none).add 0).add 1)=some (.int .u32 Ud)∧Ny.cell? (((Addr.mk gv 0 none).add 0).add 2)=some (.int .u32 Uc)∧Ny.cell? (((Addr.mk gv 0 none).add 0).add 3)=some (.int .u32 Ub)∧Ny.cell? (((Addr.mk gv 0 none).add 0).add 4)=some (.int .u32 Ua)∧Ny.cell? (((Addr.mk gv 0 none).add 0).add 5)=some (.int .u32 aaB)∧Ny.cell? (((Addr.mk gv 0 none).add 0).add 6)=some (.int .u32 aaA)∧Ny.cell? (((Addr.mk gv 0 none).add 0).add 7)=some (.int .u32 aaz))∧
  ∃O1:Int,Ny.cell? ((Addr.mk gv 0 none).add 9)=some (.int .i64 O1)∧
  ∀(NZ:Nat)(NF:World),NZ=Ny.heap.size→NF=Ny.alloc (.cells (#[(.int .u32 0),(.int .u32 0),(.int .u32 0),(.int .u32 0),(.int .u32 0),(.int .u32 0),(.int .u32 0),(.int .u32 0),(.slice none 0 0),(.int .i64 0)]) 174)→
  aA NF (Addr.mk NZ 0 none) [(.int .u32 Ue),(.int .u32 Ud),(.int .u32 Uc),(.int .u32 Ub),(.int .u32 Ua),(.int .u32 aaB),(.int .u32 aaA),(.int .u32 aaz),(.slice none 0 0),(.int .i64 (i64.wrap (O1+((wordsN:Nat):Int))))] fun NI=>
  ∀i:Int,i=0→
  ∃I:Nat→Option Addr→Nat→Nat→Int→World→Prop,(∃m,I m Qy Qw Qx i NI)∧∀(m:Nat)(QD:Nat→Value)(waitA:Option Addr)(waitN:Nat)(waitC:Nat)(i1:Int),∀NW,I m waitA waitN waitC i1 NW→
  split (decide ((i1:Int)<((wordsN:Nat):Int))) (
   (0≤(i1:Int)∧(i1:Int)<((wordsN:Nat):Int))∧
   au wordsA fun p36=>
   ∃Rz:Int,NW.cell? (p36.add (Int.toNat i1*1))=some (.int .u32 Rz)∧
   ∀(Xt:Nat)(NT:World),Xt=NW.heap.size→NT=NW.alloc (.cells #[(.int .u32 Rz)] 29)→
   ∃SW:Option Addr,∃R5:Nat,∃TW:Nat,∃NU,(Builtin.append_ #[62,62] 62 #[(.slice waitA waitN waitC),(.slice (some (Addr.mk Xt 0 none)) 1 1)]:Sem Value).run prog NT= .ok (.slice SW R5 TW) NU∧
   split ((((R5:Nat):Int):Int)==16) (
    ∃b:Nat→Nat→Prop,
    b 1 (((Addr.mk NZ 0 none).add 0).block)∧
    ∃ZE:Int,∃ZD:Int,∃ZC:Int,∃ZB:Int,∃ZA:Int,∃Zz:Int,∃Zy:Int,∃Zx:Int,(NU.drew.cell? (((Addr.mk NZ 0 none).add 0).add 0)=some (.int .u32 ZE)∧NU.drew.cell? (((Addr.mk NZ 0 none).add 0).add 1)=some (.int .u32 ZD)∧NU.drew.cell? (((Addr.mk NZ 0 none).add 0).add 2)=some (.int .u32 ZC)∧NU.drew.cell? (((Addr.mk NZ 0 none).add 0).add 3)=some (.int .u32 ZB)∧NU.drew.cell? (((Addr.mk NZ 0 none).add 0).add 4)=some (.int .u32 ZA)∧NU.drew.cell? (((Addr.mk NZ 0 none).add 0).add 5)=some (.int .u32 Zz)∧NU.drew.cell? (((Addr.mk NZ 0 none).add 0).add 6)=some (.int .u32 Zy)∧NU.drew.cell? (((Addr.mk NZ 0 none).add 0).add 7)=some (.int .u32 Zx))∧
    16≤R5∧
    au SW fun RM=>
    b 4 (RM.block)∧
    ∃Zt:Int,∃Zs:Int,∃Zr:Int,∃Zq:Int,∃Zp:Int,∃Zo:Int,∃Zn:Int,∃Zm:Int,∃Zl:Int,∃Zk:Int,∃Zj:Int,∃Zi:Int,∃Zh:Int,∃Zg:Int,∃Zf:Int,∃Ze:Int,(NU.drew.cell? (RM.add 0)=some (.int .u32 Zt)∧NU.drew.cell? (RM.add 1)=some (.int .u32 Zs)∧NU.drew.cell? (RM.add 2)=some (.int .u32 Zr)∧NU.drew.cell? (RM.add 3)=some (.int .u32 Zq)∧NU.drew.cell? (RM.add 4)=some (.int .u32 Zp)∧NU.drew.cell? (RM.add 5)=some (.int .u32 Zo)∧NU.drew.cell? (RM.add 6)=some (.int .u32 Zn)∧NU.drew.cell? (RM.add 7)=some (.int .u32 Zm)∧NU.drew.cell? (RM.add 8)=some (.int .u32 Zl)∧NU.drew.cell? (RM.add 9)=some (.int .u32 Zk)∧NU.drew.cell? (RM.add 10)=some (.int .u32 Zj)∧NU.drew.cell? (RM.add 11)=some (.int .u32 Zi)∧NU.drew.cell? (RM.add 12)=some (.int .u32 Zh)∧NU.drew.cell? (RM.add 13)=some (.int .u32 Zg)∧NU.drew.cell? (RM.add 14)=some (.int .u32 Zf)∧NU.drew.cell? (RM.add 15)=some (.int .u32 Ze))∧
    Calls prog 186 #[(.agg #[(.int .u32 ZE),(.int .u32 ZD),(.int .u32 ZC),(.int .u32 ZB),(.int .u32 ZA),(.int .u32 Zz),(.int .u32 Zy),(.int .u32 Zx)]),(.agg #[(.int .u32 Zt),(.int .u32 Zs),(.int .u32 Zr),(.int .u32 Zq),(.int .u32 Zp),(.int .u32 Zo),(.int .u32 Zn),(.int .u32 Zm),(.int .u32 Zl),(.int .u32 Zk),(.int .u32 Zj),(.int .u32 Zi),(.int .u32 Zh),(.int .u32 Zg),(.int .u32 Zf),(.int .u32 Ze)])] NU.drew fun e N1=>
    ∃TL:Int,∃TK:Int,∃TJ:Int,∃TI:Int,∃TH:Int,∃TG:Int,∃TF:Int,∃TE:Int,e= .returned (.agg #[(.int .u32 TL),(.int .u32 TK),(.int .u32 TJ),(.int .u32 TI),(.int .u32 TH),(.int .u32 TG),(.int .u32 TF),(.int .u32 TE)])∧
    ∃b1:Nat→Nat→Prop,(∀i k,b i k→b1 i k)∧
    aA N1 ((Addr.mk NZ 0 none).add 0) [(.int .u32 TL),(.int .u32 TK),(.int .u32 TJ),(.int .u32 TI),(.int .u32 TH),(.int .u32 TG),(.int .u32 TF),(.int .u32 TE)] fun Oy=>
    ∃b2:Nat→Nat→Prop,(∀i k,b1 i k→b2 i k)∧
    ∀i2:Int,i2=(i64.wrap (i1+1))→
    ∃m1,m1<m∧I m1 none 0 0 i2 Oy) (
    ∀i2:Int,i2=(i64.wrap (i1+1))→
    ∃m1,m1<m∧I m1 SW R5 TW i2 NU)) (
   aA NW ((Addr.mk NZ 0 none).add 8) [(.slice waitA waitN waitC)] fun NT=>
   ∃TD:Int,∃TC:Int,∃TB:Int,∃TA:Int,∃Tz:Int,∃Ty:Int,∃Tx:Int,∃Tw:Int,∃x52iA:Option Addr,∃x52iN:Nat,∃x52iC:Nat,∃YT:Int,(NT.cell? ((Addr.mk NZ 0 none).add 0)=some (.int .u32 TD)∧NT.cell? ((Addr.mk NZ 0 none).add 1)=some (.int .u32 TC)∧NT.cell? ((Addr.mk NZ 0 none).add 2)=some (.int .u32 TB)∧NT.cell? ((Addr.mk NZ 0 none).add 3)=some (.int .u32 TA)∧NT.cell? ((Addr.mk NZ 0 none).add 4)=some (.int .u32 Tz)∧NT.cell? ((Addr.mk NZ 0 none).add 5)=some (.int .u32 Ty)∧NT.cell? ((Addr.mk NZ 0 none).add 6)=some (.int .u32 Tx)∧NT.cell? ((Addr.mk NZ 0 none).add 7)=some (.int .u32 Tw)∧NT.cell? ((Addr.mk NZ 0 none).add 8)=some (.slice x52iA x52iN x52iC)∧NT.cell? ((Addr.mk NZ 0 none).add 9)=some (.int .i64 YT))∧
   aA NT (Addr.mk NB 0 none) [(.int .u32 TD),(.int .u32 TC),(.int .u32 TB),(.int .u32 TA),(.int .u32 Tz),(.int .u32 Ty),(.int .u32 Tx),(.int .u32 Tw),(.slice x52iA x52iN x52iC),(.int .i64 YT)] fun NU=>
   ∃O8:Int,∃O7:Int,∃Pk:Int,∃Pj:Int,∃Ph:Int,∃PU:Int,∃PT:Int,∃PS:Int,∃r0iA:Option Addr,∃r0iN:Nat,∃r0iC:Nat,∃QV:Int,(NU.cell? ((Addr.mk NB 0 none).add 0)=some (.int .u32 O8)∧NU.cell? ((Addr.mk NB 0 none).add 1)=some (.int .u32 O7)∧NU.cell? ((Addr.mk NB 0 none).add 2)=some (.int .u32 Pk)∧NU.cell? ((Addr.mk NB 0 none).add 3)=some (.int .u32 Pj)∧NU.cell? ((Addr.mk NB 0 none).add 4)=some (.int .u32 Ph)∧NU.cell? ((Addr.mk NB 0 none).add 5)=some (.int .u32 PU)∧NU.cell? ((Addr.mk NB 0 none).add 6)=some (.int .u32 PT)∧NU.cell? ((Addr.mk NB 0 none).add 7)=some (.int .u32 PS)∧NU.cell? ((Addr.mk NB 0 none).add 8)=some (.slice r0iA r0iN r0iC)∧NU.cell? ((Addr.mk NB 0 none).add 9)=some (.int .i64 QV))∧
   R (.agg #[(.int .u32 O8),(.int .u32 O7),(.int .u32 Pk),(.int .u32 Pj),(.int .u32 Ph),(.int .u32 PU),(.int .u32 PT),(.int .u32 PS),(.slice r0iA r0iN r0iC),(.int .i64 QV)]) NU))
def FC:Ann:=(.node none .leaf (.node none .leaf (.node none .leaf (.node none .leaf (.node none .leaf (.node none (.node none .leaf (.node none (.node (some ⟨[(5,.one (.slice)),(7,.one (.int .i64))],[5,7,27,28,29,30,31,32,33,34,35,36,37,38,39,40,41,42,43,44,45,46,47,48,49]⟩) .leaf .leaf) .leaf)) .leaf))))))
theorem R02Add_eq(da:Int)(db:Int)(dc:Int)(dd:Int)(de:Int)(df:Int)(dg:Int)(dh:Int)(diA:Option Addr)(diN:Nat)(diC:Nat)(dj:Int)(wordsA:Option Addr)(wordsN:Nat)(wordsC:Nat)(R:aD)(w:World):vG da db dc dd de df dg dh diA diN diC dj wordsA wordsN wordsC R w=vcF prog aK [5,7] Tryz.f161 FC [(.agg #[(.int .u32 da),(.int .u32 db),(.int .u32 dc),(.int .u32 dd),(.int .u32 de),(.int .u32 df),(.int .u32 dg),(.int .u32 dh),(.slice diA diN diC),(.int .i64 dj)]),(.slice wordsA wordsN wordsC)] R none w:=by kernel_rfl
theorem xb(da:Int)(db:Int)(dc:Int)(dd:Int)(de:Int)(df:Int)(dg:Int)(dh:Int)(diA:Option Addr)(diN:Nat)(diC:Nat)(dj:Int)(wordsA:Option Addr)(wordsN:Nat)(wordsC:Nat) {R:aD} {w:World}(h:vG da db dc dd de df dg dh diA diN diC dj wordsA wordsN wordsC R w):Calls prog 161 #[(.agg #[(.int .u32 da),(.int .u32 db),(.int .u32 dc),(.int .u32 dd),(.int .u32 de),(.int .u32 df),(.int .u32 dg),(.int .u32 dh),(.slice diA diN diC),(.int .i64 dj)]),(.slice wordsA wordsN wordsC)] w fun e w'=>∃v,e= .returned v∧R v w':=
 ak Tryz.func161 aw aa ((R02Add_eq da db dc dd de df dg dh diA diN diC dj wordsA wordsN wordsC R w).mp h)
def zr(wordsA:Option Addr)(wordsN:Nat)(wordsC:Nat)(R:aD)(w:World):Prop:=
 split ((((wordsN:Nat):Int):Int) !=26) (
  R (.tuple #[(.pointer none),(.int .i64 20)]) w) (
  (0≤(8:Int)∧(8:Int)<((wordsN:Nat):Int))∧
  au wordsA fun VC=>
  ∃P6:Int,w.drew.cell? (VC.add (Int.toNat 8*1))=some (.int .u32 P6)∧
  (0≤(9:Int)∧(9:Int)<((wordsN:Nat):Int))∧
  au wordsA fun Va=>
  ∃Pw:Int,w.drew.cell? (Va.add (Int.toNat 9*1))=some (.int .u32 Pw)∧
  ∀n:Int,n=(u64.wrap (BitVec.ofInt u64.bits (u64.wrap ((u64.wrap P6:Int)*2 ^ 32)) ||| BitVec.ofInt u64.bits (u64.wrap Pw)).toNat)→
  (0≤(8:Int)∧(8:Int)≤((wordsC:Nat):Int))∧
  (0≤(8:Int)∧(8:Int)≤((Int.toNat 8:Nat):Int))∧
  ∀Ra:Option Addr,Ra=(if(Int.toNat 8)=0 then wordsA else(wordsA:Option Addr).map (·.add (0*1)))→∀Q9:Nat,Q9=(Int.toNat 8) - 0→∀RC:Nat,RC=(Int.toNat 8) - 0→
  8≤Q9∧
  au Ra fun U9=>
  ∃T9:Int,∃Vu:Int,∃Vt:Int,∃Vs:Int,∃Vr:Int,∃aav:Int,∃aau:Int,∃aat:Int,(w.drew.cell? (U9.add 0)=some (.int .u32 T9)∧w.drew.cell? (U9.add 1)=some (.int .u32 Vu)∧w.drew.cell? (U9.add 2)=some (.int .u32 Vt)∧w.drew.cell? (U9.add 3)=some (.int .u32 Vs)∧w.drew.cell? (U9.add 4)=some (.int .u32 Vr)∧w.drew.cell? (U9.add 5)=some (.int .u32 aav)∧w.drew.cell? (U9.add 6)=some (.int .u32 aau)∧w.drew.cell? (U9.add 7)=some (.int .u32 aat))∧
  ∀(gv:Nat)(wv:World),gv=w.drew.heap.size→wv=w.drew.alloc (.cells #[(.int .u32 T9),(.int .u32 Vu),(.int .u32 Vt),(.int .u32 Vs),(.int .u32 Vr),(.int .u32 aav),(.int .u32 aau),(.int .u32 aat),(.int .i64 (i64.wrap n)),(.slice none 0 0)] 228)→
  ∃J:Bool→World→Prop,(
   ∃b:Nat→Nat→Prop,
   split (decide ((n:Int)>36028797018963968)) (
    J true wv.drew) (
    split (decide ((n:Int)<16)) (
     b 9 (((Addr.mk gv 0 none).add 0).block)∧
     ∃Z6:Int,∃Z5:Int,∃Z4:Int,∃Z3:Int,∃ZZ:Int,∃ZY:Int,∃ZX:Int,∃ZW:Int,(wv.drew.cell? (((Addr.mk gv 0 none).add 0).add 0)=some (.int .u32 Z6)∧wv.drew.cell? (((Addr.mk gv 0 none).add 0).add 1)=some (.int .u32 Z5)∧wv.drew.cell? (((Addr.mk gv 0 none).add 0).add 2)=some (.int .u32 Z4)∧wv.drew.cell? (((Addr.mk gv 0 none).add 0).add 3)=some (.int .u32 Z3)∧wv.drew.cell? (((Addr.mk gv 0 none).add 0).add 4)=some (.int .u32 ZZ)∧wv.drew.cell? (((Addr.mk gv 0 none).add 0).add 5)=some (.int .u32 ZY)∧wv.drew.cell? (((Addr.mk gv 0 none).add 0).add 6)=some (.int .u32 ZX)∧wv.drew.cell? (((Addr.mk gv 0 none).add 0).add 7)=some (.int .u32 ZW))∧
     Calls prog 137 #[] wv.drew fun e Nw=>
     ∃TV:Int,∃TU:Int,∃TT:Int,∃TS:Int,∃TR:Int,∃TQ:Int,∃TP:Int,∃TO:Int,e= .returned (.agg #[(.int .u32 TV),(.int .u32 TU),(.int .u32 TT),(.int .u32 TS),(.int .u32 TR),(.int .u32 TQ),(.int .u32 TP),(.int .u32 TO)])∧
     Kept (bE b [0,6,7,8,9]) wv.drew Nw∧∃b1:Nat→Nat→Prop,(∀i k,b i k→b1 i k)∧
     J (!(cq #[(.int .u32 Z6),(.int .u32 Z5),(.int .u32 Z4),(.int .u32 Z3),(.int .u32 ZZ),(.int .u32 ZY),(.int .u32 ZX),(.int .u32 ZW)] #[(.int .u32 TV),(.int .u32 TU),(.int .u32 TT),(.int .u32 TS),(.int .u32 TR),(.int .u32 TQ),(.int .u32 TP),(.int .u32 TO)])) Nw) (
     J false wv.drew)))∧∀(Oi:Nat→Value)(Qj:Bool),∀Nw,J Qj Nw→
  split Qj (
   R (.tuple #[(.pointer none),(.int .i64 20)]) Nw) (
   ∀waits:Int,waits=(i64.wrap ((n:Int).tmod 16))→
   (0≤(i64.wrap (10+waits):Int)∧(i64.wrap (10+waits):Int)≤((wordsN:Nat):Int))∧
   ∀Qv:Option Addr,Qv=(if wordsC=(Int.toNat (i64.wrap (10+waits)))then wordsA else(wordsA:Option Addr).map (·.add ((Int.toNat (i64.wrap (10+waits)))*1)))→∀PH:Nat,PH=wordsN - (Int.toNat (i64.wrap (10+waits)))→∀Q2:Nat,Q2=wordsC - (Int.toNat (i64.wrap (10+waits)))→
   ∃I:Nat→Int→World→Prop,(∃m,I m 0 Nw)∧∀(m:Nat)(OW:Nat→Value)(Qu:Int),∀Ny,I m Qu Ny→
   split (decide ((Qu:Int)<((PH:Nat):Int))) (
    (0≤(Qu:Int)∧(Qu:Int)<((PH:Nat):Int))∧
    au Qv fun p54=>
    ∃YS:Int,Ny.cell? (p54.add (Int.toNat Qu*1))=some (.int .u32 YS)∧
    split ((YS:Int) !=0) (
     R (.tuple #[(.pointer none),(.int .i64 20)]) Ny) (
     ∃m1,m1<m∧I m1 (i64.wrap (Qu+1)) Ny)) (
    (0≤(i64.wrap (10+waits):Int)∧(i64.wrap (10+waits):Int)≤((wordsC:Nat):Int))∧
    (0≤(i64.wrap (10+waits):Int)∧(i64.wrap (10+waits):Int)≤((Int.toNat (i64.wrap (10+waits)):Nat):Int))∧
    (0≤(10:Int)∧(10:Int)≤((Int.toNat (i64.wrap (10+waits)):Nat):Int))∧
    ∀Vo:Option Addr,Vo=(if(Int.toNat (i64.wrap (10+waits)))=(Int.toNat 10)then wordsA else(wordsA:Option Addr).map (·.add ((Int.toNat 10)*1)))→∀Ru:Nat,Ru=(Int.toNat (i64.wrap (10+waits))) - (Int.toNat 10)→∀Vn:Nat,Vn=(Int.toNat (i64.wrap (10+waits))) - (Int.toNat 10)→
    ∃Ts:Option Addr,∃Tq:Nat,∃Tr:Nat,∃NF,(Builtin.append_ #[62,62] 62 #[(.slice none 0 0),(.slice Vo Ru Vn)]:Sem Value).run prog Ny= .ok (.slice Ts Tq Tr) NF∧
    aA NF ((Addr.mk gv 0 none).add 9) [(.slice Ts Tq Tr)] fun NI=>
    R (.tuple #[(.pointer (some (Addr.mk gv 0 none))),(.int .i64 0)]) NI)))
def H9:Ann:=(.node none .leaf (.node none .leaf (.node none .leaf (.node none .leaf (.node none (.node none (.node (some ⟨[(43,.one (.bool))],[30,31,32,33,34,35,36,37,38,39,40,41,42,43]⟩) .leaf .leaf) .leaf) (.node none .leaf (.node none (.node none .leaf (.node none (.node (some ⟨[(52,.one (.int .i64))],[2,3,8,52,53,54,55,56,57,58]⟩) .leaf .leaf) .leaf)) .leaf)))))))
theorem SLoad_eq(wordsA:Option Addr)(wordsN:Nat)(wordsC:Nat)(R:aD)(w:World):zr wordsA wordsN wordsC R w=vcF prog aK [4,6] Tryz.f70 H9 [(.slice wordsA wordsN wordsC)] R none w:=by kernel_rfl
theorem zs(wordsA:Option Addr)(wordsN:Nat)(wordsC:Nat) {R:aD} {w:World}(h:zr wordsA wordsN wordsC R w):Calls prog 70 #[(.slice wordsA wordsN wordsC)] w fun e w'=>∃v,e= .returned v∧R v w':=
 ak Tryz.func70 aw aa ((SLoad_eq wordsA wordsN wordsC R w).mp h)
def tx(wordsA:Option Addr)(wordsN:Nat)(wordsC:Nat)(R:aD)(w:World):Prop:=
 ∀(gv:Nat)(wv:World),gv=w.heap.size→wv=w.alloc (.cells (#[(.int .u32 0),(.int .u32 0),(.int .u32 0),(.int .u32 0),(.int .u32 0),(.int .u32 0),(.int .u32 0),(.int .u32 0),(.slice none 0 0),(.int .i64 0)]) 174)→
 split ((((wordsN:Nat):Int):Int) !=26) (
  aA wv (Addr.mk gv 0 none) [(.int .u32 0),(.int .u32 0),(.int .u32 0),(.int .u32 0),(.int .u32 0),(.int .u32 0),(.int .u32 0),(.int .u32 0),(.slice none 0 0),(.int .i64 0)] fun Nw=>
  ∃O8:Int,∃O7:Int,∃Pk:Int,∃Pj:Int,∃Ph:Int,∃PU:Int,∃PT:Int,∃PS:Int,∃r0iA:Option Addr,∃r0iN:Nat,∃r0iC:Nat,∃QV:Int,(Nw.cell? ((Addr.mk gv 0 none).add 0)=some (.int .u32 O8)∧Nw.cell? ((Addr.mk gv 0 none).add 1)=some (.int .u32 O7)∧Nw.cell? ((Addr.mk gv 0 none).add 2)=some (.int .u32 Pk)∧Nw.cell? ((Addr.mk gv 0 none).add 3)=some (.int .u32 Pj)∧Nw.cell? ((Addr.mk gv 0 none).add 4)=some (.int .u32 Ph)∧Nw.cell? ((Addr.mk gv 0 none).add 5)=some (.int .u32 PU)∧Nw.cell? ((Addr.mk gv 0 none).add 6)=some (.int .u32 PT)∧Nw.cell? ((Addr.mk gv 0 none).add 7)=some (.int .u32 PS)∧Nw.cell? ((Addr.mk gv 0 none).add 8)=some (.slice r0iA r0iN r0iC)∧Nw.cell? ((Addr.mk gv 0 none).add 9)=some (.int .i64 QV))∧
  R (.tuple #[(.agg #[(.int .u32 O8),(.int .u32 O7),(.int .u32 Pk),(.int .u32 Pj),(.int .u32 Ph),(.int .u32 PU),(.int .u32 PT),(.int .u32 PS),(.slice r0iA r0iN r0iC),(.int .i64 QV)]),(.int .i64 20)]) Nw) (
  ∀(NB:Nat)(Nw:World),NB=wv.heap.size→Nw=wv.alloc (.cells (#[(.int .u32 0),(.int .u32 0),(.int .u32 0),(.int .u32 0),(.int .u32 0),(.int .u32 0),(.int .u32 0),(.int .u32 0),(.slice none 0 0),(.int .i64 0)]) 174)→
  ∀i:Int,i=0→
  ∃I:Nat→Int→World→Prop,(∃m,I m i Nw)∧∀(m:Nat)(OW:Nat→Value)(i1:Int),∀Ny,I m i1 Ny→
  split (decide ((i1:Int)<8)) (
   (0≤(i1:Int)∧(i1:Int)<((wordsN:Nat):Int))∧
   au wordsA fun p19=>
   ∃ON:Int,Ny.cell? (p19.add (Int.toNat i1*1))=some (.int .u32 ON)∧
   (0≤(i1:Int)∧(i1:Int)<((8:Nat):Int))∧
   aA Ny (((Addr.mk NB 0 none).add 0).add (Int.toNat i1*1)) [(.int .u32 ON)] fun NF=>
   ∀i2:Int,i2=(i64.wrap (i1+1))→
   ∃m1,m1<m∧I m1 i2 NF) (
   (0≤(8:Int)∧(8:Int)<((wordsN:Nat):Int))∧
   au wordsA fun p24=>
   ∃PJ:Int,Ny.drew.cell? (p24.add (Int.toNat 8*1))=some (.int .u32 PJ)∧
   (0≤(9:Int)∧(9:Int)<((wordsN:Nat):Int))∧
   au wordsA fun SE=>
   ∃OU:Int,Ny.drew.cell? (SE.add (Int.toNat 9*1))=some (.int .u32 OU)∧
   ∀n:Int,n=(u64.wrap ((u64.wrap ((u64.wrap PJ:Int)*2 ^ 32))+(u64.wrap OU)))→
   ∃J:Bool→World→Prop,(
    ∃b:Nat→Nat→Prop,
    split (decide ((n:Int)>36028797018963968)) (
     J true Ny.drew.drew) (
     split (decide ((n:Int)<16)) (
      b 7 (((Addr.mk NB 0 none).add 0).block)∧
      ∃TV:Int,∃TU:Int,∃TT:Int,∃TS:Int,∃TR:Int,∃TQ:Int,∃TP:Int,∃TO:Int,(Ny.drew.drew.cell? (((Addr.mk NB 0 none).add 0).add 0)=some (.int .u32 TV)∧Ny.drew.drew.cell? (((Addr.mk NB 0 none).add 0).add 1)=some (.int .u32 TU)∧Ny.drew.drew.cell? (((Addr.mk NB 0 none).add 0).add 2)=some (.int .u32 TT)∧Ny.drew.drew.cell? (((Addr.mk NB 0 none).add 0).add 3)=some (.int .u32 TS)∧Ny.drew.drew.cell? (((Addr.mk NB 0 none).add 0).add 4)=some (.int .u32 TR)∧Ny.drew.drew.cell? (((Addr.mk NB 0 none).add 0).add 5)=some (.int .u32 TQ)∧Ny.drew.drew.cell? (((Addr.mk NB 0 none).add 0).add 6)=some (.int .u32 TP)∧Ny.drew.drew.cell? (((Addr.mk NB 0 none).add 0).add 7)=some (.int .u32 TO))∧
      Calls prog 159 #[] Ny.drew.drew fun e NF=>
      ∃ZQ:Int,∃ZP:Int,∃ZO:Int,∃ZN:Int,∃ZM:Int,∃ZL:Int,∃ZK:Int,∃ZJ:Int,e= .returned (.agg #[(.int .u32 ZQ),(.int .u32 ZP),(.int .u32 ZO),(.int .u32 ZN),(.int .u32 ZM),(.int .u32 ZL),(.int .u32 ZK),(.int .u32 ZJ)])∧
      Kept (bE b [0,6,7]) Ny.drew.drew NF∧∃b1:Nat→Nat→Prop,(∀i k,b i k→b1 i k)∧
      J (!(cq #[(.int .u32 TV),(.int .u32 TU),(.int .u32 TT),(.int .u32 TS),(.int .u32 TR),(.int .u32 TQ),(.int .u32 TP),(.int .u32 TO)] #[(.int .u32 ZQ),(.int .u32 ZP),(.int .u32 ZO),(.int .u32 ZN),(.int .u32 ZM),(.int .u32 ZL),(.int .u32 ZK),(.int .u32 ZJ)])) NF) (
      J false Ny.drew.drew)))∧∀(QD:Nat→Value)(VS:Bool),∀NF,J VS NF→
   split VS (
    aA NF (Addr.mk gv 0 none) [(.int .u32 0),(.int .u32 0),(.int .u32 0),(.int .u32 0),(.int .u32 0),(.int .u32 0),(.int .u32 0),(.int .u32 0),(.slice none 0 0),(.int .i64 0)] fun NI=>
    ∃O8:Int,∃O7:Int,∃Pk:Int,∃Pj:Int,∃Ph:Int,∃PU:Int,∃PT:Int,∃PS:Int,∃r0iA:Option Addr,∃r0iN:Nat,∃r0iC:Nat,∃QV:Int,(NI.cell? ((Addr.mk gv 0 none).add 0)=some (.int .u32 O8)∧NI.cell? ((Addr.mk gv 0 none).add 1)=some (.int .u32 O7)∧NI.cell? ((Addr.mk gv 0 none).add 2)=some (.int .u32 Pk)∧NI.cell? ((Addr.mk gv 0 none).add 3)=some (.int .u32 Pj)∧NI.cell? ((Addr.mk gv 0 none).add 4)=some (.int .u32 Ph)∧NI.cell? ((Addr.mk gv 0 none).add 5)=some (.int .u32 PU)∧NI.cell? ((Addr.mk gv 0 none).add 6)=some (.int .u32 PT)∧NI.cell? ((Addr.mk gv 0 none).add 7)=some (.int .u32 PS)∧NI.cell? ((Addr.mk gv 0 none).add 8)=some (.slice r0iA r0iN r0iC)∧NI.cell? ((Addr.mk gv 0 none).add 9)=some (.int .i64 QV))∧
    R (.tuple #[(.agg #[(.int .u32 O8),(.int .u32 O7),(.int .u32 Pk),(.int .u32 Pj),(.int .u32 Ph),(.int .u32 PU),(.int .u32 PT),(.int .u32 PS),(.slice r0iA r0iN r0iC),(.int .i64 QV)]),(.int .i64 20)]) NI) (
    aA NF ((Addr.mk NB 0 none).add 9) [(.int .i64 (i64.wrap n))] fun NI=>
    ∀i2:Int,i2=10→
    ∃I1:Nat→Int→World→Prop,(∃m2,I1 m2 i2 NI)∧∀(m2:Nat)(Ro:Nat→Value)(i3:Int),∀NW,I1 m2 i3 NW→
    split (decide ((i3:Int)<26)) (
     split (decide ((i3:Int)<(i64.wrap (10+(i64.wrap ((n:Int).tmod 16)))))) (
      ∃b:Nat→Nat→Prop,
      b 1 (((Addr.mk NB 0 none).add 8).block)∧
      ∃YO:Option Addr,∃YM:Nat,∃YN:Nat,NW.drew.cell? ((Addr.mk NB 0 none).add 8)=some (.slice YO YM YN)∧
      (0≤(i3:Int)∧(i3:Int)<((wordsN:Nat):Int))∧
      au wordsA fun p63=>
      b 5 ((p63.add (Int.toNat i3*1)).block)∧
      ∃YJ:Int,NW.drew.cell? (p63.add (Int.toNat i3*1))=some (.int .u32 YJ)∧
      ∀(Ox:Nat)(NT:World),Ox=NW.drew.heap.size→NT=NW.drew.alloc (.cells #[(.int .u32 YJ)] 29)→
      Kept (bE b [0,1]) NW.drew NT∧∃b1:Nat→Nat→Prop,(∀i k,b i k→b1 i k)∧
      ∃Ts:Option Addr,∃Tq:Nat,∃Tr:Nat,∃NU,(Builtin.append_ #[62,62] 62 #[(.slice YO YM YN),(.slice (some (Addr.mk Ox 0 none)) 1 1)]:Sem Value).run prog NT= .ok (.slice Ts Tq Tr) NU∧
      Kept (bE b1 [2,3]) NT NU∧∃b2:Nat→Nat→Prop,(∀i k,b1 i k→b2 i k)∧
      aA NU ((Addr.mk NB 0 none).add 8) [(.slice Ts Tq Tr)] fun N1=>
      ∃b3:Nat→Nat→Prop,(∀i k,b2 i k→b3 i k)∧
      ∀i4:Int,i4=(i64.wrap (i3+1))→
      ∃m3,m3<m2∧I1 m3 i4 N1) (
      (0≤(i3:Int)∧(i3:Int)<((wordsN:Nat):Int))∧
      au wordsA fun p70=>
      ∃RW:Int,NW.cell? (p70.add (Int.toNat i3*1))=some (.int .u32 RW)∧
      split ((RW:Int) !=0) (
       aA NW (Addr.mk gv 0 none) [(.int .u32 0),(.int .u32 0),(.int .u32 0),(.int .u32 0),(.int .u32 0),(.int .u32 0),(.int .u32 0),(.int .u32 0),(.slice none 0 0),(.int .i64 0)] fun NT=>
       ∃O8:Int,∃O7:Int,∃Pk:Int,∃Pj:Int,∃Ph:Int,∃PU:Int,∃PT:Int,∃PS:Int,∃r0iA:Option Addr,∃r0iN:Nat,∃r0iC:Nat,∃QV:Int,(NT.cell? ((Addr.mk gv 0 none).add 0)=some (.int .u32 O8)∧NT.cell? ((Addr.mk gv 0 none).add 1)=some (.int .u32 O7)∧NT.cell? ((Addr.mk gv 0 none).add 2)=some (.int .u32 Pk)∧NT.cell? ((Addr.mk gv 0 none).add 3)=some (.int .u32 Pj)∧NT.cell? ((Addr.mk gv 0 none).add 4)=some (.int .u32 Ph)∧NT.cell? ((Addr.mk gv 0 none).add 5)=some (.int .u32 PU)∧NT.cell? ((Addr.mk gv 0 none).add 6)=some (.int .u32 PT)∧NT.cell? ((Addr.mk gv 0 none).add 7)=some (.int .u32 PS)∧NT.cell? ((Addr.mk gv 0 none).add 8)=some (.slice r0iA r0iN r0iC)∧NT.cell? ((Addr.mk gv 0 none).add 9)=some (.int .i64 QV))∧
       R (.tuple #[(.agg #[(.int .u32 O8),(.int .u32 O7),(.int .u32 Pk),(.int .u32 Pj),(.int .u32 Ph),(.int .u32 PU),(.int .u32 PT),(.int .u32 PS),(.slice r0iA r0iN r0iC),(.int .i64 QV)]),(.int .i64 20)]) NT) (
       ∀i4:Int,i4=(i64.wrap (i3+1))→
       ∃m3,m3<m2∧I1 m3 i4 NW))) (
     ∃Yw:Int,∃Yv:Int,∃Yu:Int,∃Yt:Int,∃Ys:Int,∃Yr:Int,∃Yq:Int,∃Yp:Int,∃x74iA:Option Addr,∃x74iN:Nat,∃x74iC:Nat,∃Yo:Int,(NW.cell? ((Addr.mk NB 0 none).add 0)=some (.int .u32 Yw)∧NW.cell? ((Addr.mk NB 0 none).add 1)=some (.int .u32 Yv)∧NW.cell? ((Addr.mk NB 0 none).add 2)=some (.int .u32 Yu)∧NW.cell? ((Addr.mk NB 0 none).add 3)=some (.int .u32 Yt)∧NW.cell? ((Addr.mk NB 0 none).add 4)=some (.int .u32 Ys)∧NW.cell? ((Addr.mk NB 0 none).add 5)=some (.int .u32 Yr)∧NW.cell? ((Addr.mk NB 0 none).add 6)=some (.int .u32 Yq)∧NW.cell? ((Addr.mk NB 0 none).add 7)=some (.int .u32 Yp)∧NW.cell? ((Addr.mk NB 0 none).add 8)=some (.slice x74iA x74iN x74iC)∧NW.cell? ((Addr.mk NB 0 none).add 9)=some (.int .i64 Yo))∧
     aA NW (Addr.mk gv 0 none) [(.int .u32 Yw),(.int .u32 Yv),(.int .u32 Yu),(.int .u32 Yt),(.int .u32 Ys),(.int .u32 Yr),(.int .u32 Yq),(.int .u32 Yp),(.slice x74iA x74iN x74iC),(.int .i64 Yo)] fun NT=>
     ∃O8:Int,∃O7:Int,∃Pk:Int,∃Pj:Int,∃Ph:Int,∃PU:Int,∃PT:Int,∃PS:Int,∃r0iA:Option Addr,∃r0iN:Nat,∃r0iC:Nat,∃QV:Int,(NT.cell? ((Addr.mk gv 0 none).add 0)=some (.int .u32 O8)∧NT.cell? ((Addr.mk gv 0 none).add 1)=some (.int .u32 O7)∧NT.cell? ((Addr.mk gv 0 none).add 2)=some (.int .u32 Pk)∧NT.cell? ((Addr.mk gv 0 none).add 3)=some (.int .u32 Pj)∧NT.cell? ((Addr.mk gv 0 none).add 4)=some (.int .u32 Ph)∧NT.cell? ((Addr.mk gv 0 none).add 5)=some (.int .u32 PU)∧NT.cell? ((Addr.mk gv 0 none).add 6)=some (.int .u32 PT)∧NT.cell? ((Addr.mk gv 0 none).add 7)=some (.int .u32 PS)∧NT.cell? ((Addr.mk gv 0 none).add 8)=some (.slice r0iA r0iN r0iC)∧NT.cell? ((Addr.mk gv 0 none).add 9)=some (.int .i64 QV))∧
     R (.tuple #[(.agg #[(.int .u32 O8),(.int .u32 O7),(.int .u32 Pk),(.int .u32 Pj),(.int .u32 Ph),(.int .u32 PU),(.int .u32 PT),(.int .u32 PS),(.slice r0iA r0iN r0iC),(.int .i64 QV)]),(.int .i64 0)]) NT))))
def Cw:Ann:=(.node none .leaf (.node none .leaf (.node none .leaf (.node none (.node none .leaf (.node none (.node (some ⟨[(5,.one (.int .i64))],[5,12,13,14,15,16,17,18,19,20,21,22]⟩) .leaf .leaf) .leaf)) (.node none .leaf (.node none (.node none (.node (some ⟨[(44,.one (.bool))],[33,34,35,36,37,38,39,40,41,42,43,44]⟩) .leaf .leaf) .leaf) (.node none .leaf (.node none (.node none .leaf (.node none (.node (some ⟨[(7,.one (.int .i64))],[3,7,49,50,51,52,53,54,55,56,57,58,59,60,61,62,63,64,65,66,67,68,69,70,71,72,73]⟩) .leaf .leaf) .leaf)) .leaf))))))))
theorem R02Load_eq(wordsA:Option Addr)(wordsN:Nat)(wordsC:Nat)(R:aD)(w:World):tx wordsA wordsN wordsC R w=vcF prog aK [5,6,7] Tryz.f160 Cw [(.slice wordsA wordsN wordsC)] R none w:=by kernel_rfl
theorem uz(wordsA:Option Addr)(wordsN:Nat)(wordsC:Nat) {R:aD} {w:World}(h:tx wordsA wordsN wordsC R w):Calls prog 160 #[(.slice wordsA wordsN wordsC)] w fun e w'=>∃v,e= .returned v∧R v w':=
 ak Tryz.func160 aw aa ((R02Load_eq wordsA wordsN wordsC R w).mp h)
end
section
set_option maxRecDepth 100000
def DV(m:Option Addr)(R:aD)(w:World):Prop:=
 split m.isNone (
  R (.pointer none) w) (
  Calls prog 54 #[(.pointer m)] w fun e wv=>
  ∃x7:Int,e= .returned (.int .i64 x7)∧
  ∃I:Nat→Int→World→Prop,(∃m1,I m1 0 wv)∧∀(m1:Nat)(PO:Nat→Value)(x8:Int),∀Nw,I m1 x8 Nw→
  split (decide ((x8:Int)<x7)) (
   Calls prog 78 #[(.int .i64 x8)] Nw fun e Ny=>
   ∃Pf:Bool,∃Pq:Int,e= .returned (.agg #[(.bool Pf),(.int .i64 Pq)])∧
   Calls prog 77 #[(.pointer m),(.agg #[(.bool Pf),(.int .i64 Pq)])] Ny fun e NF=>
   ∃P6:Int,e= .returned (.int .i64 P6)∧
   ∃m2,m2<m1∧I m2 (i64.wrap (x8+1)) NF) (
   Calls prog 54 #[(.pointer m)] Nw fun e Ny=>
   ∃RX:Int,e= .returned (.int .i64 RX)∧
   ∃Uh:Option Addr,∃Uf:Nat,∃Ug:Nat,∃NF,(Instr.makeSlice 62 (.int .i64 (i64.wrap (2*RX))) (.int .i64 (i64.wrap (2*RX))):Sem Value).run prog Ny= .ok (.slice Uh Uf Ug) NF∧
   ∀(NB:Nat)(NI:World),NB=NF.heap.size→NI=NF.alloc (.cells #[(.pointer m),(.int .i64 0),(.slice Uh Uf Ug)] 110)→
   R (.pointer (some (Addr.mk NB 0 none))) NI))
def KE:Ann:=(.node none .leaf (.node none .leaf (.node none (.node none .leaf (.node none (.node (some ⟨[(8,.one (.int .i64))],[3,8,9,10,11,12,13,14,15]⟩) .leaf .leaf) .leaf)) .leaf)))
theorem DNew_eq(m:Option Addr)(R:aD)(w:World):DV m R w=vcF prog aK [] Tryz.f29 KE [(.pointer m)] R none w:=by kernel_rfl
theorem CK(m:Option Addr) {R:aD} {w:World}(h:DV m R w):Calls prog 29 #[(.pointer m)] w fun e w'=>∃v,e= .returned v∧R v w':=
 ak Tryz.func29 aw aa ((DNew_eq m R w).mp h)
def vN(d:Option Addr)(R:aD)(w:World):Prop:=
 au d fun p5=>
 ∃Tp:Option Addr,∃SQ:Nat,∃U2:Nat,w.cell? (p5.add 2)=some (.slice Tp SQ U2)∧
 ∃Uy:Option Addr,∃Ux:Nat,∃Vz:Nat,∃wv,(Instr.makeSlice 62 (.int .i64 (i64.wrap (1+((SQ:Nat):Int)))) (.int .i64 (i64.wrap (1+((SQ:Nat):Int)))):Sem Value).run prog w= .ok (.slice Uy Ux Vz) wv∧
 au d fun VC=>
 ∃PQ:Int,wv.cell? (VC.add 1)=some (.int .i64 PQ)∧
 (0≤(0:Int)∧(0:Int)<((Ux:Nat):Int))∧
 au Uy fun p17=>
 aA wv (p17.add (Int.toNat 0*1)) [(.int .u32 (u32.wrap PQ))] fun Nw=>
 ∃b:Nat→Nat→Prop,
 (0≤(1:Int)∧(1:Int)≤((Ux:Nat):Int))∧
 ∀Uk:Option Addr,Uk=(if Vz=(Int.toNat 1)then Uy else(Uy:Option Addr).map (·.add ((Int.toNat 1)*1)))→∀Ui:Nat,Ui=Ux - (Int.toNat 1)→∀Uj:Nat,Uj=Vz - (Int.toNat 1)→
 au d fun UC=>
 b 5 ((UC.add 2).block)∧
 ∃Ra:Option Addr,∃Q9:Nat,∃RC:Nat,Nw.drew.cell? (UC.add 2)=some (.slice Ra Q9 RC)∧
 ∃Qh:Int,∃Ny,(Builtin.copy_ #[62,62] 3 #[(.slice Uk Ui Uj),(.slice Ra Q9 RC)]:Sem Value).run prog Nw.drew= .ok (.int .i64 Qh) Ny∧
 Kept (bE b [2]) Nw.drew Ny∧∃b1:Nat→Nat→Prop,(∀i k,b i k→b1 i k)∧
 R (.slice Uy Ux Vz) Ny
def F8:Ann:= .leaf
theorem DWords_eq(d:Option Addr)(R:aD)(w:World):vN d R w=vcF prog aK [] Tryz.f52 F8 [(.pointer d)] R none w:=by kernel_rfl
theorem xB(d:Option Addr) {R:aD} {w:World}(h:vN d R w):Calls prog 52 #[(.pointer d)] w fun e w'=>∃v,e= .returned v∧R v w':=
 ak Tryz.func52 aw aa ((DWords_eq d R w).mp h)
def pZ(d:Option Addr)(R:aD)(w:World):Prop:=
 au d fun p8=>
 ∃OH:Int,w.cell? (p8.add 2)=some (.int .i64 OH)∧
 ∀(gv:Nat)(wv:World),gv=w.heap.size→wv=w.alloc (.cells #[(.int .u32 (u32.wrap OH))] 29)→
 ∀p:Int,p=0→
 ∃I:Nat→Option Addr→Nat→Nat→Int→World→Prop,(∃m,I m (some (Addr.mk gv 0 none)) 1 1 p wv)∧∀(m:Nat)(Oi:Nat→Value)(lA:Option Addr)(lN:Nat)(lC:Nat)(p1:Int),∀Nw,I m lA lN lC p1 Nw→
 au d fun p15=>
 ∃Sb:Option Addr,∃RF:Nat,∃Sa:Nat,Nw.cell? (p15.add 1)=some (.slice Sb RF Sa)∧
 split (decide ((p1:Int)<((RF:Nat):Int))) (
  au d fun p24=>
  ∃aas:Option Addr,∃aar:Nat,∃adr:Nat,Nw.cell? (p24.add 1)=some (.slice aas aar adr)∧
  (0≤(p1:Int)∧(p1:Int)<((aar:Nat):Int))∧
  au aas fun p28=>
  ∃aaq:Int,∃aap:Int,∃aao:Int,∃aan:Int,∃aam:Bool,(Nw.cell? ((p28.add (Int.toNat p1*5)).add 0)=some (.int .i64 aaq)∧Nw.cell? ((p28.add (Int.toNat p1*5)).add 1)=some (.int .i64 aap)∧Nw.cell? ((p28.add (Int.toNat p1*5)).add 2)=some (.int .i64 aao)∧Nw.cell? ((p28.add (Int.toNat p1*5)).add 3)=some (.int .i64 aan)∧Nw.cell? ((p28.add (Int.toNat p1*5)).add 4)=some (.bool aam))∧
  Calls prog 123 #[(.agg #[(.int .i64 aaq),(.int .i64 aap),(.int .i64 aao),(.int .i64 aan),(.bool aam)])] Nw fun e Ny=>
  ∃x30aa:Int,∃x30ab:Int,∃WL:Int,e= .returned (.tuple #[(.agg #[(.int .u32 x30aa),(.int .u32 x30ab)]),(.int .i64 WL)])∧
  ∀(NZ:Nat)(NF:World),NZ=Ny.heap.size→NF=Ny.alloc (.cells (#[(.int .u32 0),(.int .u32 0)]) 197)→
  aA NF (Addr.mk NZ 0 none) [(.int .u32 x30aa),(.int .u32 x30ab)] fun NI=>
  (0≤(0:Int)∧(0:Int)<((2:Nat):Int))∧
  ∃P8:Int,NI.cell? ((Addr.mk NZ 0 none).add (Int.toNat 0*1))=some (.int .u32 P8)∧
  (0≤(1:Int)∧(1:Int)<((2:Nat):Int))∧
  ∃Rz:Int,NI.cell? ((Addr.mk NZ 0 none).add (Int.toNat 1*1))=some (.int .u32 Rz)∧
  ∀(Oa:Nat)(NW:World),Oa=NI.heap.size→NW=NI.alloc (.cells #[(.int .u32 P8),(.int .u32 Rz)] 29)→
  ∃SW:Option Addr,∃R5:Nat,∃TW:Nat,∃NT,(Builtin.append_ #[62,62] 62 #[(.slice lA lN lC),(.slice (some (Addr.mk Oa 0 none)) 2 2)]:Sem Value).run prog NW= .ok (.slice SW R5 TW) NT∧
  ∀p2:Int,p2=(i64.wrap (p1+1))→
  ∃m1,m1<m∧I m1 SW R5 TW p2 NT) (
  R (.slice lA lN lC) Nw)
def zB:Ann:=(.node none .leaf (.node none .leaf (.node none (.node none .leaf (.node none (.node (some ⟨[(3,.one (.slice)),(4,.one (.int .i64))],[3,4,5,6,13,14,15,16,17,18,19,20,21,22,23,24,25,26,27,28,29,30,31,32,33,34,35,36,37,38,39]⟩) .leaf .leaf) .leaf)) .leaf)))
theorem R12Words_eq(d:Option Addr)(R:aD)(w:World):pZ d R w=vcF prog aK [3,4] Tryz.f53 zB [(.pointer d)] R none w:=by kernel_rfl
theorem ta(d:Option Addr) {R:aD} {w:World}(h:pZ d R w):Calls prog 53 #[(.pointer d)] w fun e w'=>∃v,e= .returned v∧R v w':=
 ak Tryz.func53 aw aa ((R12Words_eq d R w).mp h)
end
section
set_option maxRecDepth 100000
def AL(m:Option Addr)(wordsA:Option Addr)(wordsN:Nat)(wordsC:Nat)(R:aD)(w:World):Prop:=
 ∃J:Bool→World→Prop,(
  split m.isNone (
   J true w) (
   Calls prog 54 #[(.pointer m)] w fun e wv=>
   ∃OJ:Int,e= .returned (.int .i64 OJ)∧
   split ((((wordsN:Nat):Int):Int) !=(i64.wrap (1+(i64.wrap (2*OJ))))) (
    J true wv) (
    (0≤(0:Int)∧(0:Int)<((wordsN:Nat):Int))∧
    au wordsA fun SF=>
    ∃Qh:Int,wv.cell? (SF.add (Int.toNat 0*1))=some (.int .u32 Qh)∧
    J (decide ((Qh:Int)>64)) wv)))∧∀(PO:Nat→Value)(RB:Bool),∀wv,J RB wv→
 split RB (
  R (.tuple #[(.pointer none),(.int .i64 110)]) wv) (
  ∃b:Nat→Nat→Prop,
  (0≤(0:Int)∧(0:Int)<((wordsN:Nat):Int))∧
  au wordsA fun SE=>
  b 3 ((SE.add (Int.toNat 0*1)).block)∧
  ∃OU:Int,wv.drew.cell? (SE.add (Int.toNat 0*1))=some (.int .u32 OU)∧
  ∃T4:Option Addr,∃TZ:Nat,∃Vq:Nat,∃Nw,(Instr.makeSlice 62 (.int .i64 (i64.wrap (((wordsN:Nat):Int) - 1))) (.int .i64 (i64.wrap (((wordsN:Nat):Int) - 1))):Sem Value).run prog wv.drew= .ok (.slice T4 TZ Vq) Nw∧
  Kept (bE b [0,1,2,3,4]) wv.drew Nw∧∃b1:Nat→Nat→Prop,(∀i k,b i k→b1 i k)∧
  ∀(NB:Nat)(Ny:World),NB=Nw.heap.size→Ny=Nw.alloc (.cells #[(.pointer m),(.int .i64 (i64.wrap OU)),(.slice T4 TZ Vq)] 110)→
  Kept (bE b1 [1,2,5,6]) Nw Ny∧∃b2:Nat→Nat→Prop,(∀i k,b1 i k→b2 i k)∧
  ∃b3:Nat→Nat→Prop,
  b3 3 (((Addr.mk NB 0 none).add 2).block)∧
  ∃ZT:Option Addr,∃ZR:Nat,∃ZS:Nat,Ny.drew.cell? ((Addr.mk NB 0 none).add 2)=some (.slice ZT ZR ZS)∧
  (0≤(1:Int)∧(1:Int)≤((wordsN:Nat):Int))∧
  ∀SV:Option Addr,SV=(if wordsC=(Int.toNat 1)then wordsA else(wordsA:Option Addr).map (·.add ((Int.toNat 1)*1)))→∀SS:Nat,SS=wordsN - (Int.toNat 1)→∀SU:Nat,SU=wordsC - (Int.toNat 1)→
  ∃VS:Int,∃NF,(Builtin.copy_ #[62,62] 3 #[(.slice ZT ZR ZS),(.slice SV SS SU)]:Sem Value).run prog Ny.drew= .ok (.int .i64 VS) NF∧
  Kept (bE b3 [0]) Ny.drew NF∧∃b4:Nat→Nat→Prop,(∀i k,b3 i k→b4 i k)∧
  Calls prog 120 #[(.pointer (some (Addr.mk NB 0 none)))] NF fun e NI=>
  ∃Zw:Int,e= .returned (.int .i64 Zw)∧
  ∃I:Nat→Int→World→Prop,(∃m1,I m1 0 NI)∧∀(m1:Nat)(OW:Nat→Value)(Tc:Int),∀NW,I m1 Tc NW→
  split (decide ((Tc:Int)<Zw)) (
   ∃WG:Option Addr,∃WD:Nat,∃WE:Nat,NW.cell? ((Addr.mk NB 0 none).add 2)=some (.slice WG WD WE)∧
   (0≤(i64.wrap (2*Tc):Int)∧(i64.wrap (2*Tc):Int)≤((WD:Nat):Int))∧
   ∀Tu:Option Addr,Tu=(if WE=(Int.toNat (i64.wrap (2*Tc)))then WG else(WG:Option Addr).map (·.add ((Int.toNat (i64.wrap (2*Tc)))*1)))→∀Tt:Nat,Tt=WD - (Int.toNat (i64.wrap (2*Tc)))→∀Vp:Nat,Vp=WE - (Int.toNat (i64.wrap (2*Tc)))→
   2≤Tt∧
   au Tu fun p59=>
   ∃YQ:Int,∃YP:Int,(NW.cell? (p59.add 0)=some (.int .u32 YQ)∧NW.cell? (p59.add 1)=some (.int .u32 YP))∧
   Calls prog 121 #[(.agg #[(.int .u32 YQ),(.int .u32 YP)])] NW fun e NT=>
   ∃x60aa:Int,∃x60ab:Int,∃x60ac:Int,∃x60ad:Int,∃x60ae:Bool,∃YL:Int,e= .returned (.tuple #[(.agg #[(.int .i64 x60aa),(.int .i64 x60ab),(.int .i64 x60ac),(.int .i64 x60ad),(.bool x60ae)]),(.int .i64 YL)])∧
   ∀(Oa:Nat)(NU:World),Oa=NT.heap.size→NU=NT.alloc (.cells (#[(.int .i64 0),(.int .i64 0),(.int .i64 0),(.int .i64 0),(.bool false)]) 50)→
   aA NU (Addr.mk Oa 0 none) [(.int .i64 x60aa),(.int .i64 x60ab),(.int .i64 x60ac),(.int .i64 x60ad),(.bool x60ae)] fun N1=>
   ∃J1:Bool→World→Prop,(
    split ((YL:Int) !=0) (
     J1 true N1) (
     ∃x68:Int,N1.cell? ((Addr.mk Oa 0 none).add 1)=some (.int .i64 x68)∧
     Calls prog 57 #[(.pointer (some (Addr.mk NB 0 none))),(.int .i64 x68)] N1 fun e Oy=>
     ∃Yx:Bool,e= .returned (.bool Yx)∧
     J1 (!Yx) Oy))∧∀(Ro:Nat→Value)(RW:Bool),∀Oy,J1 RW Oy→
   split RW (
    R (.tuple #[(.pointer none),(.int .i64 110)]) Oy) (
    ∃m2,m2<m1∧I m2 (i64.wrap (Tc+1)) Oy)) (
   R (.tuple #[(.pointer (some (Addr.mk NB 0 none))),(.int .i64 0)]) NW))
def IU:Ann:=(.node none .leaf (.node none (.node none (.node (some ⟨[(26,.one (.bool))],[10,11,12,13,14,15,16,17,18,19,20,21,22,23,24,25,26]⟩) .leaf .leaf) .leaf) (.node none .leaf (.node none .leaf (.node none (.node none .leaf (.node none (.node (some ⟨[(47,.one (.int .i64))],[4,5,7,8,9,47,48,49,50,51,52,53,54,55,56,57,58,59,60,61,62,63,64,65,66,67,68,69,70,71,72]⟩) (.node none .leaf (.node none .leaf (.node none (.node none (.node none .leaf (.node none .leaf (.node none (.node (some ⟨[(71,.one (.bool))],[63,64,65,66,67,68,69,70,71]⟩) .leaf .leaf) .leaf))) .leaf) .leaf))) .leaf) .leaf)) .leaf)))))
theorem DLoad_eq(m:Option Addr)(wordsA:Option Addr)(wordsN:Nat)(wordsC:Nat)(R:aD)(w:World):AL m wordsA wordsN wordsC R w=vcF prog aK [] Tryz.f50 IU [(.pointer m),(.slice wordsA wordsN wordsC)] R none w:=by kernel_rfl
theorem AM(m:Option Addr)(wordsA:Option Addr)(wordsN:Nat)(wordsC:Nat) {R:aD} {w:World}(h:AL m wordsA wordsN wordsC R w):Calls prog 50 #[(.pointer m),(.slice wordsA wordsN wordsC)] w fun e w'=>∃v,e= .returned v∧R v w':=
 ak Tryz.func50 aw aa ((DLoad_eq m wordsA wordsN wordsC R w).mp h)
def vR(d:Option Addr)(R:aD)(w:World):Prop:=
 ∃b:Nat→Nat→Prop,
 au d fun p5=>
 b 3 ((p5.add 0).block)∧
 ∃x7:Option Addr,w.drew.cell? (p5.add 0)=some (.pointer x7)∧
 au d fun XO=>
 b 8 ((XO.add 1).block)∧
 ∃OX:Int,w.drew.cell? (XO.add 1)=some (.int .i64 OX)∧
 au d fun SG=>
 b 12 ((SG.add 2).block)∧
 ∃Um:Option Addr,∃Rb:Nat,∃Ul:Nat,w.drew.cell? (SG.add 2)=some (.slice Um Rb Ul)∧
 (Calls prog 51 #[(.pointer x7)] w.drew fun e wv=>
  ∃x8:Option Addr,e= .returned (.pointer x8)∧
  Kept (bE b [0,5,6,7,8,9,10,11,12,13]) w.drew wv∧∃b1:Nat→Nat→Prop,(∀i k,b i k→b1 i k)∧
  ∃Qy:Option Addr,∃Qw:Nat,∃Qx:Nat,∃Nw,(Instr.makeSlice 62 (.int .i64 ((Rb:Nat):Int)) (.int .i64 ((Rb:Nat):Int)):Sem Value).run prog wv= .ok (.slice Qy Qw Qx) Nw∧
  Kept (bE b1 [0,1,2,3,4,5,6,7,8,9,10]) wv Nw∧∃b2:Nat→Nat→Prop,(∀i k,b1 i k→b2 i k)∧
  ∀(gv:Nat)(Ny:World),gv=Nw.heap.size→Ny=Nw.alloc (.cells #[(.pointer x8),(.int .i64 OX),(.slice Qy Qw Qx)] 110)→
  Kept (bE b2 [0,1,2,5,6,9,10,11,12]) Nw Ny∧∃b3:Nat→Nat→Prop,(∀i k,b2 i k→b3 i k)∧
  ∃b4:Nat→Nat→Prop,
  b4 3 (((Addr.mk gv 0 none).add 2).block)∧
  ∃Ql:Option Addr,∃P9:Nat,∃Qk:Nat,Ny.drew.cell? ((Addr.mk gv 0 none).add 2)=some (.slice Ql P9 Qk)∧
  au d fun Sf=>
  b4 7 ((Sf.add 2).block)∧
  ∃PN:Option Addr,∃PI:Nat,∃PW:Nat,Ny.drew.cell? (Sf.add 2)=some (.slice PN PI PW)∧
  ∃QO:Int,∃NF,(Builtin.copy_ #[62,62] 3 #[(.slice Ql P9 Qk),(.slice PN PI PW)]:Sem Value).run prog Ny.drew= .ok (.int .i64 QO) NF∧
  Kept (bE b4 [0,4]) Ny.drew NF∧∃b5:Nat→Nat→Prop,(∀i k,b4 i k→b5 i k)∧
  R (.pointer (some (Addr.mk gv 0 none))) NF)∧
 (∃Qy:Option Addr,∃Qw:Nat,∃Qx:Nat,∃wv,(Instr.makeSlice 62 (.int .i64 ((Rb:Nat):Int)) (.int .i64 ((Rb:Nat):Int)):Sem Value).run prog w.drew= .ok (.slice Qy Qw Qx) wv∧
  Kept (bE b [0,1,2,3,5,6,7,8,9,10]) w.drew wv∧∃b1:Nat→Nat→Prop,(∀i k,b i k→b1 i k)∧
  Calls prog 51 #[(.pointer x7)] wv fun e Nw=>
  ∃x8:Option Addr,e= .returned (.pointer x8)∧
  Kept (bE b1 [0,5,6,7,8,9,10,11,12,13,14]) wv Nw∧∃b2:Nat→Nat→Prop,(∀i k,b1 i k→b2 i k)∧
  ∀(gv:Nat)(Ny:World),gv=Nw.heap.size→Ny=Nw.alloc (.cells #[(.pointer x8),(.int .i64 OX),(.slice Qy Qw Qx)] 110)→
  Kept (bE b2 [0,1,2,5,6,9,10,11,12]) Nw Ny∧∃b3:Nat→Nat→Prop,(∀i k,b2 i k→b3 i k)∧
  ∃b4:Nat→Nat→Prop,
  b4 3 (((Addr.mk gv 0 none).add 2).block)∧
  ∃Ql:Option Addr,∃P9:Nat,∃Qk:Nat,Ny.drew.cell? ((Addr.mk gv 0 none).add 2)=some (.slice Ql P9 Qk)∧
  au d fun Sf=>
  b4 7 ((Sf.add 2).block)∧
  ∃PN:Option Addr,∃PI:Nat,∃PW:Nat,Ny.drew.cell? (Sf.add 2)=some (.slice PN PI PW)∧
  ∃QO:Int,∃NF,(Builtin.copy_ #[62,62] 3 #[(.slice Ql P9 Qk),(.slice PN PI PW)]:Sem Value).run prog Ny.drew= .ok (.int .i64 QO) NF∧
  Kept (bE b4 [0,4]) Ny.drew NF∧∃b5:Nat→Nat→Prop,(∀i k,b4 i k→b5 i k)∧
  R (.pointer (some (Addr.mk gv 0 none))) NF)
def Gd:Ann:= .leaf
theorem DClone_eq(d:Option Addr)(R:aD)(w:World):vR d R w=vcF prog aK [] Tryz.f17 Gd [(.pointer d)] R none w:=by kernel_rfl
theorem xJ(d:Option Addr) {R:aD} {w:World}(h:vR d R w):Calls prog 17 #[(.pointer d)] w fun e w'=>∃v,e= .returned v∧R v w':=
 ak Tryz.func17 aw aa ((DClone_eq d R w).mp h)
end
end Go.Proofs.YtinhphjfnedhgaaGreatDoor
namespace Go.Proofs.YtinhphjfnedhgaaGreatDoor
open Go.Proofs.Tryz (prog)
open Go Go.RowKit V
open Go.IntKind (i64 u32 u64)
namespace Mem
def cH(m:Mem):Nat→Mem
 | 0=>m
 | k+1=>(cH m k).zero true k
theorem K0(m:Mem)(s:Bool)(p:Int):(m.zero s p).S=m.S:=by unfold zero;split<;>rfl
theorem K1(m:Mem)(s:Bool)(p:Int):(m.zero s p).I=m.I:=by unfold zero;split<;>rfl
@[simp] theorem l8(m:Mem):∀k,(m.cH k).S=m.S
 | 0=>rfl
 | k+1=>by rw [cH,K0,l8 m k]
@[simp] theorem I6(m:Mem):∀k,(m.cH k).I=m.I
 | 0=>rfl
 | k+1=>by rw [cH,K1,I6 m k]
theorem qR(m:Mem) {p:Int}(h:0≤p∧p<9000000000000000000):m.cH (i64.wrap (p+1)).toNat=(m.cH p.toNat).zero true p:=by
 rw [aq (by omega),show(p+1).toNat=p.toNat+1 by omega,cH,show((p.toNat:Nat):Int)=p by omega]
end Mem
def DB.new(m:Mem):DB:=⟨m.cH m.S,0,fun _=>.free⟩
theorem DB.yy(m:Mem):(DB.new m).S=m.S:=m.l8 _
theorem DB.kA(m:Mem)(h:1≤m.S):(DB.new m).Ok:=⟨fun p hp=>⟨Ent.wC,by show(0:Int)<((DB.new m).S:Nat);rw [DB.yy];omega⟩,by show(0:Int)≤0∧(0:Int)≤64;omega⟩
def DB.ws(D:DB):List Int:=(List.range D.S).flatMap fun p=>[(D.ent p).w0,(D.ent p).w1]
theorem nB {α:Type}(f g:Nat→α):∀n,((List.range n).flatMap fun p=>[f p,g p]).length=2*n
 | 0=>rfl
 | n+1=>by rw [List.range_succ,List.flatMap_append,List.length_append,nB f g n];simp;omega
theorem mf {α:Type}(f g:Nat→α):∀n i,i<2*n→((List.range n).flatMap fun p=>[f p,g p])[i]? =some (if i % 2=0 then f (i / 2)else g (i / 2))
 | 0,i,h=>by omega
 | n+1,i,h=>by
  rw [List.range_succ,List.flatMap_append]
  by_cases hi:i<2*n
  ·rw [List.getElem?_append_left (by rw [nB];exact hi),mf f g n i hi]
  ·rw [List.getElem?_append_right (by rw [nB];omega),nB]
   by_cases h2:i=2*n
   ·subst h2
    have e1:2*n % 2=0:=by omega
    have e2:2*n / 2=n:=by omega
    simp [e1,e2]
   ·have:i=2*n+1:=by omega
    subst this
    have e1:(2*n+1) % 2=1:=by omega
    have e2:(2*n+1) / 2=n:=by omega
    simp [e1,e2]
theorem DB.jG(D:DB):D.ws.length=2*D.S:=nB _ _ _
theorem DB.words_eq(D:DB):D.words=D.aF::D.ws:=rfl
theorem DBP.ints {w:World} {L:gj} {D:DB}(h:DBP w L D):dA w (fun k=>k=L.a) .u32 (some (Addr.mk L.a 0 none)) D.n2 D.n2 D.ws:=by
 obtain⟨T,cs,hb,hs,hc⟩:=h.ws
 refine dA.blk (Z:=fun k=>k=L.a) (m:=0) hb rfl (Nat.le_refl _) (D.jG) fun j x hj=>?_
 have QS:j<2*D.S:=by rw [← D.jG];exact(List.getElem?_eq_some_iff.1 hj).1
 have h2:=mf (fun p=>(D.ent p).w0) (fun p=>(D.ent p).w1) D.S j QS
 have h3:D.ws[j]? =_:=h2
 rw [hj]at h3
 injection h3 with h3
 have hp:=hc (j / 2) (by omega)
 rw [Nat.zero_add,h3]
 split
 ·have:=hp.1
  rwa [show 2*(j / 2)=j by omega]at this
 ·have:=hp.2
  rwa [show 2*(j / 2)+1=j by omega]at this
theorem DB.lay {D:DB} {n:Nat}(hn:n=1+2*D.S):fI ((List.replicate n 0).set 0 D.aF) 1 (D.ws.take (min (2*D.S) (n - 1)))=D.words:=by
 subst hn
 rw [List.take_of_length_le (by rw [D.jG];omega),show 1+2*D.S=(2*D.S)+1 by omega,List.replicate_succ,List.set_cons_zero]
 have:=rA [D.aF] D.ws [] (List.replicate (2*D.S) 0) (by rw [D.jG];simp)
 simpa [D.words_eq]using this
theorem DB.cS(D:DB):D.words.length=1+2*D.S:=by rw [D.words_eq,List.length_cons,D.jG];omega
theorem DB.AY {D:DB} {l:List U32} {p:Int}(hl:l=(D.aF::(List.range p.toNat).flatMap fun p=>[(D.ent p).w0,(D.ent p).w1]).map U32.mk)(h:0≤p∧p<64)(OZ:(D.at_ p).ok=true) {a b:Int}(ha:a=if(D.at_ p).ok then(D.at_ p).w0 else 0)(hb:b=if(D.at_ p).ok then(D.at_ p).w1 else 0):
 l++List.map U32.mk [a,b]=(D.aF::(List.range (i64.wrap (p+1)).toNat).flatMap fun p=>[(D.ent p).w0,(D.ent p).w1]).map U32.mk:=by
 rw [aq (by omega),show(p+1).toNat=p.toNat+1 by omega,List.range_succ,List.flatMap_append,← List.cons_append,List.map_append,← hl,ha,hb,if_pos OZ,if_pos OZ]
 simp [DB.at_]
def DB.Lp(D:DB)(s:Int)(n:Nat):List I64:=((List.range n).filter (D.Jt s)).map fun(p:Nat)=>I64.mk (p:Int)
def DB.wd(l:List U32)(i:Nat):Int:=(l.getD i ⟨0⟩).v
def DB.load(m:Mem)(l:List U32):DB:=⟨m,DB.wd l 0,fun p=>Ent.dec (DB.wd l (1+2*p)) (DB.wd l (2+2*p))⟩
def DB.k7(m:Mem)(l:List U32)(p:Nat):Bool:=Ent.fm (DB.wd l (1+2*p)) (DB.wd l (2+2*p))==0 && decide ((Ent.dec (DB.wd l (1+2*p)) (DB.wd l (2+2*p))).owner<m.S)
def DB.ay(m:Mem)(l:List U32):Int:=
 if l.length≠1+2*m.S then 110 else if DB.wd l 0>64 then 110 else if(List.range m.S).all (DB.k7 m l)then 0 else 110
theorem DB.JF {m:Mem} {l:List U32}(hw:∀x∈l,0≤x.v∧x.v<4294967296)(h:DB.ay m l=0):(DB.load m l).Ok:=by
 unfold DB.ay at h
 split at h
 ·omega
 rename_i h1
 split at h
 ·omega
 rename_i h2
 split at h
 ·rename_i h3
  refine⟨fun p hp=>?_,?_⟩
  ·have hq:=List.all_eq_true.1 h3 p (List.mem_range.2 hp)
   simp only [DB.k7,Bool.and_eq_true,beq_iff_eq,decide_eq_true_eq]at hq
   exact⟨(Ent.iy hq.1).1,hq.2⟩
  ·have h0:0<l.length:=by omega
   have:=hw _ (List.getElem_mem h0)
   have e:DB.wd l 0=l[0].v:=by unfold DB.wd;rw [List.getD_eq_getElem?_getD,List.getElem?_eq_getElem h0];rfl
   show 0≤DB.wd l 0∧DB.wd l 0≤64
   rw [e]at h2 ⊢
   omega
 ·omega
theorem Da {n:Nat} {v:Value} {i:Nat}(h:i<n):(Array.replicate n v)[i]? =some v:=by simp [h]
end Go.Proofs.YtinhphjfnedhgaaGreatDoor
