/- SvcQuotes returns true for every input; each argument reads behind the call as it read before. -/
import Derived.Test.YtfmcaoaaiganbaaGreatDoorU2
import Derived.Great.BuildSlice
import Derived.ProofKit
import Derived.SizedLaws
import Derived.OpenShut
import Derived.LaidMore
import Derived.MakeChecks
import Derived.Handed
import Derived.Deep.SlicePairs
set_option linter.unusedVariables false
set_option linter.unusedSimpArgs false
namespace Go.Proofs.YtfmcaoaaiganbaaGreatDoor.V
open Go Go.RowKit
open Go.IntKind (i64 u32 u64)
open Enc (enc)
section
section
variable {U:Uni} {P:Program} {tbl:Tb U} {may:List Nat} {k0:Nat}
variable {w0:World} {X0 X:Nat→Nat→Prop} {w:World} {fr:Fr} {st:St U} {Qp:Option (List PanicEntry→World→Prop)}
theorem uG:∀ {vs:List Value} {F:Prop},(∀v,v∈vs→one? v True)→F→lv vs F
 | [],_,_,h=>h
 | v::r,F,h1,h=>by
  have h2:=mJ (h1 v (List.mem_cons_self ..))
  have h3:=uG (F:=F) (fun u hu=>h1 u (List.mem_cons_of_mem _ hu)) h
  unfold lv one?
  cases v<;>first | exact h3 | exact absurd rfl (h2.2.1 _) | exact absurd rfl (h2.2.2 _)
theorem pZ(hI:Inv w0 k0 X0 may st.rs X w)(hk:aE st.rs fr st.kn) {i:Nat} {a b:Res U}(ha:nth st.rs i=some a)(hc:jU may k0 i=true) {w':World}(q:Ch (X i) w w')(Uw:cK a b)(hb:RS (X i) w' b) {kn':List (Key×Kn)}(OF:aE (bR st.rs i b) fr kn'):
 cZ w0 k0 X0 may fr st X w ⟨bR st.rs i b,kn',i::st.md⟩ X w' [i]:=by
 have hi:=aR ha
 have hinv:=hI.set hi (fK hc) q hb (fun k hk=>.inl hk)
 have e:jr X i (X i)=X:=by
  funext j
  unfold jr
  split
  ·rename_i h;rw [h]
  ·rfl
 rw [e]at hinv
 exact⟨hinv,OF,rfl,fun j hj=>by simp at hj;subst hj;exact hi,fun j hj=>by simp at hj;subst hj;exact fK hc,by simp,fun j hj Oq=>⟨by rw [aZ,if_neg (fun hh=>Oq (by simp [hh.1]))],rfl⟩,fun _ _ _ h=>.inl h,fun j h1 h2=>by simp at h2;omega,q.mono fun k hk=>⟨i,by simp,hk⟩,fun j c hj=>by
  by_cases Oq:j=i
  ·subst Oq
   rw [ha]at hj
   injection hj with hj
   subst hj
   exact⟨b,by rw [aZ,if_pos ⟨rfl,hi⟩],Uw⟩
  ·exact⟨c,by rw [aZ,if_neg (fun hh=>Oq hh.1)];exact hj,cK.refl c⟩⟩
theorem nJ(hI:Inv w0 k0 X0 may st.rs X w)(hk:aE st.rs fr st.kn) {r:Res U} {Z:Nat→Prop} {w':World}(q:Pu w w')(hr:RS Z w' r)(hz:∀k,Z k→w.heap.size≤k) {kn':List (Key×Kn)}(OF:aE (st.rs++ [r]) fr kn'):
 cZ w0 k0 X0 may fr st X w ⟨st.rs++ [r],kn',st.md⟩ (jr X st.rs.length Z) w' []:=
 ⟨hI.more q hr hz,OF,rfl,fun j hj=>(by cases hj),fun j hj=>(by cases hj),by simp,fun i hi _=>⟨by rw [bu,if_pos hi],ic _ _ (by omega)⟩,fun i hi=>(by cases hi),fun i h1 h2 k hk=>by
  simp at h2
  obtain rfl:i=st.rs.length:=by omega
  rw [updX_eq]at hk
  exact hz k hk,q.mono fun k h=>h.elim,fun i a ha=>⟨a,by rw [bu,if_pos (aR ha)];exact ha,cK.refl a⟩⟩
theorem pA(hk:aE st.rs fr st.kn)(r:Res U):aE (st.rs++ [r]) fr st.kn:=
 hk.iI (M:= []) (fun i hi _=>by rw [bu,if_pos hi]) (fun i hi=>by cases hi) fun key k h=>⟨h,fun p _=>.inl (by simp),fun id off _=>.inl (by simp)⟩
theorem Blk.rs {g:Nat} {cs:Array Value} {T:TypeId} {w':World}(h:Blk w' g cs T):RS (U:=U) (fun k=>k=g) w' (.blk g cs.toList T):=⟨rfl,fun _ h=>h,h⟩
theorem j1 {α:Type}(vs L:List α)(off:Nat)(h:off+vs.length≤L.length):eW L off vs=L.take off++vs++L.drop (off+vs.length):=by
 apply List.ext_getElem?
 intro j
 rw [← aK,kX _ _ _ _ h,List.append_assoc]
 by_cases h3:off≤j∧j<off+vs.length
 ·rw [if_pos h3,List.getElem?_append_right (by simp;omega),List.getElem?_append_left (by simp;omega),aK]
  congr 1
  simp
  omega
 ·rw [if_neg h3,aK]
  by_cases h4:j<off
  ·rw [List.getElem?_append_left (by simp;omega),List.getElem?_take,if_pos h4]
  ·rw [List.getElem?_append_right (by simp;omega),List.getElem?_append_right (by simp;omega),List.getElem?_drop]
   congr 1
   simp
   omega
theorem g9.cells {rs:List (Res U)} {v:Value} {k:Kn}(h:g9 rs v k)(hna:∀l,k≠ .ag l):v.cells= #[v]:=by
 cases k with
 | pan=>exact h.elim
 | ag l=>exact absurd rfl (hna l)
 | p k=>
  have h:bK U k (nth rs k.id)=some v:=h
  cases hn:nth rs k.id with
  | none=>rw [hn]at h;cases k<;>simp [bK]at h
  | some r=>
   rw [hn]at h
   cases k with
   | loc _ _=>cases r<;>simp only [bK,reduceCtorEq,Option.some.injEq]at h;subst h;rfl
   | obj _ _ _=>cases r<;>simp only [bK,reduceCtorEq,Option.some.injEq]at h;subst h;rfl
   | sl _ li=>
    simp only [bK]at h
    split at h
    ·injection h with h;subst h;rfl
    ·cases h
   | el _ li _ _=>
    simp only [bK]at h
    split at h
    ·split at h
     ·injection h with h;subst h;rfl
     ·cases h
    ·cases h
 | w k n=>obtain⟨a,c,_,rfl⟩:=h;rfl
 | t l=>obtain⟨vs,rfl,_⟩:=h;rfl
 | f a b=>obtain⟨f,fs,cs,rfl,_,_⟩:=h;rfl
theorem l6 {id:Nat} {key:Key} {q:Kn}:∀ {l:List (Option PK)} {o:Nat},(key,q)∈uW id o l→∃j p,key= .c id (o+j)∧q= .p p∧nth l j=some (some p)
 | [],_,h=>by cases h
 | none::l,o,h=>by
  obtain⟨j,p,h1,h2,h3⟩:=l6 (l:=l) (o:=o+1) h
  exact⟨j+1,p,by rw [h1];congr 1;omega,h2,h3⟩
 | some p::l,o,h=>by
  rcases List.mem_cons.1 h with e | h
  ·injection e with e1 e2
   exact⟨0,p,e1,e2,rfl⟩
  ·obtain⟨j,p,h1,h2,h3⟩:=l6 (l:=l) (o:=o+1) h
   exact⟨j+1,p,by rw [h1];congr 1;omega,h2,h3⟩
theorem oI {rs:List (Res U)} {v:Value} {ky:Option Kn}(hv:KnO rs v ky) {id off:Nat} {sc:Bool} {key:Key} {q:Kn}(h:(key,q)∈cellsOf id off sc ky):∃j u,key= .c id (off+j)∧nth v.cells.toList j=some u∧g9 rs u q:=by
 have one:∀ {k:Kn},ky=some k→(∀l,k≠ .ag l)→(key,q)∈(match sc with | true=>[(Key.c id off,k)] | false=>[])→∃j u,key= .c id (off+j)∧nth v.cells.toList j=some u∧g9 rs u q:=by
  intro k hk hna hm
  subst hk
  split at hm
  ·simp only [List.mem_singleton,Prod.mk.injEq]at hm
   obtain⟨rfl,rfl⟩:=hm
   exact⟨0,v,rfl,by rw [g9.cells hv hna];rfl,hv⟩
  ·cases hm
 cases ky with
 | none=>cases h
 | some k=>
  cases k with
  | pan=>cases h
  | w k n=>cases h
  | ag l=>
   obtain⟨j,p,h1,h2,h3⟩:=l6 h
   obtain⟨cs,rfl,hh⟩:=hv
   obtain⟨u,hu,hd⟩:=hh j p h3
   subst h2
   exact⟨j,u,h1,by show nth cs.toList j=_;rw [aK];simpa using hu,hd⟩
  | p p=>exact one rfl (fun l e=>by cases e) h
  | t l=>exact one rfl (fun l e=>by cases e) h
  | f a b=>exact one rfl (fun l e=>by cases e) h
theorem aE.roots {rs rs':List (Res U)} {fr:Fr} {kn:List (Key×Kn)}(h:aE rs fr kn)(hr:∀i a,nth rs i=some a→∃b,nth rs' i=some b∧(a=b∨∃t own T A c l l',a= .lst t own T A c l∧b= .lst t own T A c l'∧l'.length=l.length)):aE rs' fr kn:=by
 have hd:∀p u,den U rs p=some u→den U rs' p=some u:=by
  intro p u hu
  unfold den at hu ⊢
  cases hn:nth rs p.id with
  | none=>rw [hn]at hu;cases p<;>simp [bK]at hu
  | some a=>
   rw [hn]at hu
   obtain⟨b,hb,rfl | ⟨t,own,T,A,c,l,l',rfl,rfl,hl⟩⟩:=hr _ _ hn
   ·rw [hb];exact hu
   ·rw [hb,← hu];cases p<;>simp only [bK,fg,hl]
 intro key k hk
 have h0:=h key k hk
 cases key with
 | s i=>exact g9.mono h0 fun p _=>hd p
 | c id off=>
  obtain⟨g,cs,T,v,e1,e2,e3⟩:=h0
  obtain⟨b,hb,rfl | ⟨_,_,_,_,_,_,_,hh,_⟩⟩:=hr _ _ e1
  ·exact⟨g,cs,T,v,hb,e2,e3.mono fun p _=>hd p⟩
  ·cases hh
 | l id path=>
  obtain⟨t,r,s,e1,e2⟩:=h0
  obtain⟨b,hb,rfl | ⟨_,_,_,_,_,_,_,hh,_⟩⟩:=hr _ _ e1
  ·exact⟨t,r,s,hb,e2.mono fun p _=>hd p⟩
  ·cases hh
theorem gC {t:TypeId} {x y:Operand} {p:Addr} {fr:Fr} {dst:Option Tmp} {ty:TypeId} {pos:String} {after:Array Edge} {gd:Option (Nat×Bool)} {Y:Bool} {K:aC}(hx:ev fr x= .pointer (some p))(OK:HY P t=false)(ND:Nat.beq (ev fr y).cells.toList.length (aP P t)=true)(hT:hasType P t=true)
 (h1:∀v,v∈(ev fr y).cells.toList→one? v True)(h:aF w p (ev fr y).cells.toList fun w'=>K undef w'):opW P Y Qp ⟨dst,.store t x y,ty,pos,after,gd⟩ (ev fr) w K:=by
 refine By (C:= []) rfl ?_
 show(match ev fr x with
  | .pointer a=>match cY P t with
   | .row n=>(match hasType P t && Nat.beq n (aP P t),ev fr y with
    | true,.agg cs=>aB a fun p=>cs.size=n∧(∀v∈cs.toList,one? v True)∧aF w p cs.toList fun w'=>K undef w'
    | _,_=>False)
   | _=>match Nat.beq (ev fr y).cells.toList.length (aP P t) && hasType P t with
    | true=>aB a fun p=>lv (ev fr y).cells.toList (aF w p (ev fr y).cells.toList fun w'=>K undef w')
    | false=>False
  | _=>False)
 rw [hx]
 unfold HY at OK
 cases hs:cY P t with
 | row n=>rw [hs]at OK;cases OK
 | one s=>simp only [ND,hT];exact au p rfl (uG h1 h)
 | agg l=>simp only [ND,hT];exact au p rfl (uG h1 h)
theorem step_done {K:dz U} {st':St U} {X':Nat→Nat→Prop} {w':World} {M l:List Nat} {v:Value} {k:Option Kn}(hs:cZ w0 k0 X0 may fr st X w st' X' w' M)(hv:KnO st'.rs v k)(h:nmL st'.rs l fun Oc=>K v k ⟨Oc,st'.kn,st'.md⟩):
 ∃k st' X' M,K v k st'∧KnO st'.rs v k∧cZ w0 k0 X0 may fr st X w st' X' w' M:=
 ⟨k,st',X',M,kY (F:=fun Oc=>K v k ⟨Oc,st'.kn,st'.md⟩) (fun i r hr=>⟨_,_,hs.inv.sat.res i r hr⟩) h,hv,hs⟩
theorem nT {tt:Nat} {r:Nat→Nat} {s s':U.ty tt} {id:Nat} {u:Value} {K:dz U}(hI:Inv w0 k0 X0 may st.rs X w)(hk:aE st.rs fr st.kn)(hn:nth st.rs id=some (.ob tt r s))(NV:jU may k0 id=true) {w2:World}(hq:Ch (X id) w w2)(NN:U.pred tt r s' (X id) w2)
 (hK:nmL (bR st.rs id (.ob tt r s')) [id] fun Oc=>K u none ⟨Oc,dO [id] st.kn,id::st.md⟩):
 ∃k st' X' M,K u k st'∧KnO st'.rs u k∧cZ w0 k0 X0 may fr st X w st' X' w2 M:=by
 refine step_done (k:=none) (st':=⟨bR st.rs id (.ob tt r s'),dO [id] st.kn,id::st.md⟩) (pZ hI hk hn NV hq (.ob tt r s s') NN ?_) trivial hK
 refine hk.dO (M:= [id]) (fun i _ hi=>by rw [aZ,if_neg (fun hh=>hi (by simp [hh.1]))]) fun i hi a ha=>?_
 simp only [List.mem_singleton]at hi
 subst hi
 rw [hn]at ha
 injection ha with ha
 subst ha
 exact⟨_,by rw [aZ,if_pos ⟨rfl,aR hn⟩],.ob tt r s s'⟩
theorem zp {t:TypeId} {x y:Operand} {p:Addr} {n:Nat} {cs:Array Value} {fr:Fr} {dst:Option Tmp} {ty:TypeId} {pos:String} {after:Array Edge} {gd:Option (Nat×Bool)} {Y:Bool} {K:aC}(hx:ev fr x= .pointer (some p))(OK:cY P t= .row n)(hy:ev fr y= .agg cs)(hn:Nat.beq n (aP P t)=true)(hc:cs.size=n)(hT:hasType P t=true)
 (h1:∀v,v∈cs.toList→one? v True)(h:aF w p cs.toList fun w'=>K undef w'):opW P Y Qp ⟨dst,.store t x y,ty,pos,after,gd⟩ (ev fr) w K:=by
 refine By (C:= []) rfl ?_
 show(match ev fr x with
  | .pointer a=>match cY P t with
   | .row n=>(match hasType P t && Nat.beq n (aP P t),ev fr y with
    | true,.agg cs=>aB a fun p=>cs.size=n∧(∀v∈cs.toList,one? v True)∧aF w p cs.toList fun w'=>K undef w'
    | _,_=>False)
   | _=>match Nat.beq (ev fr y).cells.toList.length (aP P t) && hasType P t with
    | true=>aB a fun p=>lv (ev fr y).cells.toList (aF w p (ev fr y).cells.toList fun w'=>K undef w')
    | false=>False
  | _=>False)
 rw [hx,OK,hy]
 simp only [hT,hn,Bool.and_self]
 exact au p rfl ⟨hc,h1,h⟩
theorem vP {t:TypeId} {x y:Operand} {K:dz U}(hI:Inv w0 k0 X0 may st.rs X w)(hk:aE st.rs fr st.kn)(h:uz U P may k0 t (kf st.kn x) (ev fr y) st K) {Y:Bool} {dst:Option Tmp} {ty:TypeId} {pos:String} {after:Array Edge} {gd:Option (Nat×Bool)}:
 opW P Y Qp ⟨dst,.store t x y,ty,pos,after,gd⟩ (ev fr) w fun v w'=>∃k st' X' M,K v k st'∧KnO st'.rs v k∧cZ w0 k0 X0 may fr st X w st' X' w' M:=by
 unfold uz at h
 have Oj:=hk.kf x
 split at h
 ·rename_i n id path off cs OK OF hy
  rw [OF]at Oj
  split at h
  ·rename_i tt r s hb hn NV
   obtain⟨h,h1⟩:=dQ h
   simp only [Bool.and_eq_true]at hb
   split at h
   ·rename_i c s' Qj
    obtain⟨hc,hK⟩:=h
    have hd:den U st.rs (.obj id path off)=some (ev fr x):=Oj
    simp only [den,PK.id,hn,bK,Option.some.injEq]at hd
    have hp:U.pred tt r s (X id) w:=hI.sat.res id _ hn
    exact zp (p:=⟨r path,off,none⟩) hd.symm OK hy hb.2.1 (by have:=Nat.eq_of_beq_eq_true hb.2.2;simpa using this) hb.1 h1 (U.ov hp Qj hc fun w2 NN hq=>nT hI hk hn NV hq NN hK)
   ·exact h.elim
  ·exact h.elim
 ·exact h.elim
theorem BX {v:Value} {ky:Option Kn} {sc:Bool} {id off g n:Nat} {cs:List Value} {T:TypeId} {u:Value} {K:dz U}(hI:Inv w0 k0 X0 may st.rs X w)(hk:aE st.rs fr st.kn)(hky:KnO st.rs v ky)(hn:nth st.rs id=some (.blk g cs T))(NV:jU may k0 id=true)(O0:v.cells.toList.length=n)(hb:off+n≤cs.length) {w2:World}(hs:bI w g (setAt ⟨cs⟩ off v.cells.toList) T w2)
 (h:K u none ⟨bR st.rs id (.blk g (eW cs off v.cells.toList) T),cellsOf id off sc ky++dF (fun a _=>!(a.pB id off n)) st.kn,id::st.md⟩):
 ∃k st' X' M,K u k st'∧KnO st'.rs u k∧cZ w0 k0 X0 may fr st X w st' X' w2 M:=by
 obtain⟨hg,hX,Ug⟩:=hI.sat.res id _ hn
 rw [oA]at hs
 have q:Ch (X id) w w2:=(bI.ch hs).mono fun k e=>e▸hg
 refine⟨none,_,X,[id],h,trivial,pZ hI hk hn NV q (.blk g cs (eW cs off v.cells.toList) T (by simp)) (show RS (X id) w2 (.blk g (eW cs off v.cells.toList) T)from⟨hg,hX,hs.blk⟩) ?_⟩
 have OE:∀i,i∈ [id]→∀a,nth st.rs i=some a→∃b,nth (bR st.rs id (.blk g (eW cs off v.cells.toList) T)) i=some b∧cK a b:=by
  intro i hi a ha
  simp at hi
  subst hi
  rw [hn]at ha
  injection ha with ha
  subst ha
  exact⟨_,by rw [aZ,if_pos ⟨rfl,aR hn⟩],.blk _ _ _ _ (by simp)⟩
 have Uu:∀i,i<st.rs.length→i ∉ [id]→nth (bR st.rs id (.blk g (eW cs off v.cells.toList) T)) i=nth st.rs i:=fun i _ hi=>by rw [aZ,if_neg (fun hh=>hi (by simp [hh.1]))]
 have hnl:∀ {k:Kn} {v:Value},g9 st.rs v k→∀p,k.has p→p.id ∉ [id]∨p.ofList p.id=false:=by
  intro k v QM p hp
  by_cases W4:p.id=id
  ·right
   cases ho:p.ofList p.id
   ·rfl
   ·exfalso
    have hdd:∃u,den U st.rs p=some u:=by
     cases k with
     | pan=>exact hp.elim
     | p k=>cases hp;exact⟨_,QM⟩
     | w k n=>cases hp;obtain⟨a,c,h1,_⟩:=QM;exact⟨_,h1⟩
     | t l=>obtain⟨j,hj⟩:=hp;obtain⟨vs,_,h3⟩:=QM;obtain⟨u,_,hu⟩:=h3 j p hj;exact⟨u,hu⟩
     | ag l=>obtain⟨j,hj⟩:=hp;obtain⟨vs,_,h3⟩:=QM;obtain⟨u,_,hu⟩:=h3 j p hj;exact⟨u,hu⟩
     | f a b=>
      obtain⟨f,fs,cs,_,_,h3,h4⟩:=QM
      rcases hp with⟨j,hj⟩ | ⟨j,hj⟩
      ·obtain⟨u,_,hu⟩:=h3 j p hj;exact⟨u,hu⟩
      ·obtain⟨u,_,hu⟩:=h4 j p hj;exact⟨u,hu⟩
    obtain⟨u,hu⟩:=hdd
    unfold den at hu
    rw [W4,hn]at hu
    cases p<;>simp_all [bK,PK.ofList,PK.id,fg]
  ·exact .inl (by simpa using W4)
 refine aE.app ?_ (hk.iI Uu OE fun key k hm=>?_)
 ·intro key q hq
  obtain⟨j,u0,rfl,hu0,QM⟩:=oI hky hq
  refine⟨g,_,T,u0,by rw [aZ,if_pos ⟨rfl,aR hn⟩],?_,QM.mono fun p hp u hu=>qJ Uu OE (hnl QM p hp) hu⟩
  have hj:=aR hu0
  rw [kX _ _ _ _ (by omega),if_pos ⟨by omega,by omega⟩,show off+j - off=j by omega,hu0]
 ·obtain⟨VD,QK⟩:=dq hm
  have h0:=hk _ _ VD
  refine⟨VD,?_,fun id' off' e=>?_⟩
  ·cases key with
   | s i=>exact hnl h0
   | c i o=>obtain⟨_,_,_,_,_,_,h0⟩:=h0;exact hnl h0
   | l i o=>obtain⟨_,_,_,_,h0⟩:=h0;exact hnl h0
  ·subst e
   by_cases hi:id'=id
   ·subst hi
    right
    obtain⟨g',cs',T',v,e1,_⟩:=h0
    rw [hn]at e1
    injection e1 with e1
    injection e1 with e1 e2 e3
    subst e1;subst e2;subst e3
    refine⟨g,cs,_,T,hn,by rw [aZ,if_pos ⟨rfl,aR hn⟩],?_⟩
    rw [kX _ _ _ _ (by omega),if_neg]
    simp only [Key.pB,Nat.beq_refl,Bool.true_and,Bool.not_eq_true',Bool.and_eq_false_iff]at QK
    rintro⟨h3,h4⟩
    rcases QK with h5 | h5
    ·rw [Nat.ble_eq_true_of_le h3]at h5;cases h5
    ·have:Nat.blt off' (off+n)=true:=by rw [Nat.blt_eq];omega
     rw [this]at h5;cases h5
   ·exact .inl (by simpa using hi)
theorem zq {t:TypeId} {x y:Operand} {K:dz U}(hI:Inv w0 k0 X0 may st.rs X w)(hk:aE st.rs fr st.kn)(h:zr U P may k0 t (kf st.kn x) (ev fr y) (kf st.kn y) st K) {Y:Bool} {dst:Option Tmp} {ty:TypeId} {pos:String} {after:Array Edge} {gd:Option (Nat×Bool)}:
 opW P Y Qp ⟨dst,.store t x y,ty,pos,after,gd⟩ (ev fr) w fun v w'=>∃k st' X' M,K v k st'∧KnO st'.rs v k∧cZ w0 k0 X0 may fr st X w st' X' w' M:=by
 unfold zr at h
 split at h
 ·exact vP hI hk h
 split at h
 ·exact h.elim
 rename_i Pc
 simp only [Bool.and_eq_true,Bool.not_eq_true']at Pc
 obtain⟨OK,ND,hT⟩:=Pc
 have O0:(ev fr y).cells.toList.length=aP P t:=Nat.eq_of_beq_eq_true ND
 have Oj:=hk.kf x
 have hky:=hk.kf y
 split at h
 ·rename_i id off OF
  rw [OF]at Oj
  split at h
  ·rename_i g cs T hn NV
   split at h
   ·rename_i hb
    obtain⟨h,h1⟩:=dQ h
    have hb:off+aP P t≤cs.length:=Nat.le_of_ble_eq_true hb
    have hd:den U st.rs (.loc id off)=some (ev fr x):=Oj
    simp only [den,PK.id,hn,bK,Option.some.injEq]at hd
    obtain⟨hg,hX,Ug⟩:=hI.sat.res id _ hn
    refine gC hd.symm OK ND hT h1 ⟨g,off,⟨cs⟩,T,rfl,Ug,by simpa [O0]using hb,fun w2 hs=>?_⟩
    exact BX hI hk hky hn NV O0 hb hs h
   ·exact h.elim
  ·exact h.elim
 ·rename_i id i off OF
  rw [OF]at Oj
  split at h
  ·rename_i tt T A c l hn NV
   split at h
   ·rename_i hb
    obtain⟨h,h1⟩:=dQ h
    have hb:off+aP P t≤(U.en tt).size:=Nat.le_of_ble_eq_true hb
    obtain⟨x',Vx,hK⟩:=cD h
    have hd:den U st.rs (.el id 0 i off)=some (ev fr x):=Oj
    simp only [den,PK.id,hn,bK,fg]at hd
    split at hd
    case isFalse=>cases hd
    rename_i hr
    injection hd with hd
    obtain⟨ho,NO⟩:Own w (X id) T A l.length c l∧∀k,X id k→k<w.heap.size:=hI.sat.res id _ hn
    have W7:i.toNat<l.length:=by omega
    obtain⟨g,hA,hZ,hgl⟩:=ho.lt (by omega)
    have hll:=ho.len
    have OL:l[i.toNat]? =some (l.getD i.toNat (U.df tt)):=by rw [List.getD_eq_getElem?_getD,List.getElem?_eq_getElem (by omega)];rfl
    have Uf:=U.iJ Vx
    have hel:(U.en tt).enc (l.getD i.toNat (U.df tt))=enc (l.getD i.toNat (U.df tt)):=rfl
    have hlen:(enc (l.getD i.toNat (U.df tt))).length=(U.en tt).size:=bV _
    have TW:enc x'=(enc (l.getD i.toNat (U.df tt))).take off++(ev fr y).cells.toList++(enc (l.getD i.toNat (U.df tt))).drop (off+(ev fr y).cells.toList.length):=by
     show(U.en tt).enc x'=_
     rw [Uf,hel]
     exact j1 _ _ _ (by rw [hlen,O0];exact hb)
    refine gC (p:=elA U tt A i off) hd.symm OK ND hT h1 ?_
    have Qj:=ho.st (p:=Addr.mk g 0 none) hA W7 OL (o:=off) (vs:=(ev fr y).cells.toList) (by rw [O0];exact hb) TW (K:=fun w2=>∃k st' X' M,K undef k st'∧KnO st'.rs undef k∧cZ w0 k0 X0 may fr st X w st' X' w2 M) (fun w2 RC hq=>by
     refine step_done (k:=none) (st':=⟨bR st.rs id (.lst tt true T A c (l.set i.toNat x')),st.kn,id::st.md⟩) (pZ hI hk hn NV hq (.lst tt true T A A c c l (l.set i.toNat x')) (show RS (X id) w2 (.lst tt true T A c (l.set i.toNat x'))from⟨by rw [List.length_set];exact RC,fun k hk=>Nat.lt_of_lt_of_le (NO k hk) hq.size⟩) ?_) trivial hK
     refine hk.roots fun j a ha=>?_
     by_cases hj:j=id
     ·subst hj
      rw [hn]at ha
      injection ha with ha
      exact⟨_,by rw [aZ,if_pos ⟨rfl,aR hn⟩],.inr ⟨_,_,_,_,_,_,_,ha.symm,rfl,List.length_set ..⟩⟩
     ·exact⟨a,by rw [aZ,if_neg (fun hh=>hj hh.1)];exact ha,.inl rfl⟩)
    unfold elA
    rw [hA]
    exact Qj
   ·exact h.elim
  ·rename_i tt r s hn NV
   split at h
   ·rename_i L hL
    split at h
    ·rename_i hb
     obtain⟨h,h1⟩:=dQ h
     have hb:off+aP P t≤(U.en L.t).size:=Nat.le_of_ble_eq_true hb
     obtain⟨x',Vx,h⟩:=cD h
     split at h
     ·rename_i c s' Qj
      obtain⟨hc,hK⟩:=h
      have hd:den U st.rs (.el id 0 i off)=some (ev fr x):=Oj
      simp only [den,PK.id,hn,bK,fg,hL]at hd
      split at hd
      case isFalse=>cases hd
      rename_i hr
      injection hd with hd
      have hp:U.pred tt r s (X id) w:=hI.sat.res id _ hn
      have OL:L.l[i.toNat]? =some (L.l.getD i.toNat (U.df L.t)):=by rw [List.getD_eq_getElem?_getD,List.getElem?_eq_getElem (by omega)];rfl
      have Uf:=U.iJ Vx
      have hlen:((U.en L.t).enc (L.l.getD i.toNat (U.df L.t))).length=(U.en L.t).size:=(U.en L.t).len _
      have TW:(U.en L.t).enc x'=((U.en L.t).enc (L.l.getD i.toNat (U.df L.t))).take off++(ev fr y).cells.toList++((U.en L.t).enc (L.l.getD i.toNat (U.df L.t))).drop (off+(ev fr y).cells.toList.length):=by
       rw [Uf]
       exact j1 _ _ _ (by rw [hlen,O0];exact hb)
      refine gC (p:=elA U L.t L.A i off) hd.symm OK ND hT h1 ?_
      exact U.mD hp hL OL (by rw [O0];exact hb) TW Qj hc fun w2 NN hq=>nT hI hk hn NV hq NN hK
     ·exact h.elim
    ·exact h.elim
   ·exact h.elim
  ·exact h.elim
 ·rename_i id li i off OF
  rw [OF]at Oj
  split at h
  ·rename_i tt r s hn NV
   split at h
   ·rename_i L hL
    split at h
    ·rename_i hb
     obtain⟨h,h1⟩:=dQ h
     have hb:off+aP P t≤(U.en L.t).size:=Nat.le_of_ble_eq_true hb
     obtain⟨x',Vx,h⟩:=cD h
     split at h
     ·rename_i c s' Qj
      obtain⟨hc,hK⟩:=h
      have hd:den U st.rs (.el id (li+1) i off)=some (ev fr x):=Oj
      simp only [den,PK.id,hn,bK,fg,hL]at hd
      split at hd
      case isFalse=>cases hd
      rename_i hr
      injection hd with hd
      have hp:U.pred tt r s (X id) w:=hI.sat.res id _ hn
      have OL:L.l[i.toNat]? =some (L.l.getD i.toNat (U.df L.t)):=by rw [List.getD_eq_getElem?_getD,List.getElem?_eq_getElem (by omega)];rfl
      have Uf:=U.iJ Vx
      have hlen:((U.en L.t).enc (L.l.getD i.toNat (U.df L.t))).length=(U.en L.t).size:=(U.en L.t).len _
      have TW:(U.en L.t).enc x'=((U.en L.t).enc (L.l.getD i.toNat (U.df L.t))).take off++(ev fr y).cells.toList++((U.en L.t).enc (L.l.getD i.toNat (U.df L.t))).drop (off+(ev fr y).cells.toList.length):=by
       rw [Uf]
       exact j1 _ _ _ (by rw [hlen,O0];exact hb)
      refine gC (p:=elA U L.t L.A i off) hd.symm OK ND hT h1 ?_
      exact U.mD hp hL OL (by rw [O0];exact hb) TW Qj hc fun w2 NN hq=>nT hI hk hn NV hq NN hK
     ·exact h.elim
    ·exact h.elim
   ·exact h.elim
  ·exact h.elim
 ·rename_i id path off OF
  rw [OF]at Oj
  split at h
  ·rename_i tt r s v hn NV Pm
   obtain⟨h,h1⟩:=dQ h
   split at h
   ·rename_i c s' Qj
    obtain⟨hc,hK⟩:=h
    have hd:den U st.rs (.obj id path off)=some (ev fr x):=Oj
    simp only [den,PK.id,hn,bK,Option.some.injEq]at hd
    have hp:U.pred tt r s (X id) w:=hI.sat.res id _ hn
    rw [Pm]at O0
    refine gC (p:=⟨r path,off,none⟩) hd.symm OK ND hT (by rw [Pm];exact h1) ?_
    rw [Pm]
    exact U.qC hp Qj hc fun w2 NN hq=>nT hI hk hn NV hq NN hK
   ·exact h.elim
  ·rename_i tt r s v v2 vs hn NV Pm
   obtain⟨h,h1⟩:=dQ h
   split at h
   ·rename_i c s' Qj
    obtain⟨hc,hK⟩:=h
    have hd:den U st.rs (.obj id path off)=some (ev fr x):=Oj
    simp only [den,PK.id,hn,bK,Option.some.injEq]at hd
    have hp:U.pred tt r s (X id) w:=hI.sat.res id _ hn
    refine gC (p:=⟨r path,off,none⟩) hd.symm OK ND hT (by rw [Pm];exact h1) ?_
    rw [Pm]
    exact U.ov hp Qj hc fun w2 NN hq=>nT hI hk hn NV hq NN hK
   ·exact h.elim
  ·exact h.elim
 ·exact h.elim
theorem BA:∀(a n j:Nat),nth (upN a n) j=if j<n then some (a+j)else none
 | _,0,_=>rfl
 | a,n+1,0=>by simp [upN,nth]
 | a,n+1,j+1=>by
  simp only [upN,nth,BA (a+1) n j,Nat.add_lt_add_iff_right]
  rw [show a+1+j=a+(j+1)by omega]
theorem It {α:Type}(E:Enc α)(h:E.size=1)(x:α):(E.enc x)[0]? =some (hd1 (E.enc x)):=by
 have:=E.len x
 rw [h]at this
 match hx:E.enc x,this with
 | [v],_=>rfl
theorem oK {tt:Nat} {Z:Nat→Prop} {A:Option Addr} {c n:Nat} {l:List (U.el tt)} {p:Addr} {w:World}(h1:(U.en tt).size=1)(hr:Rd w Z A l.length c l)(hA:A=some p)(hle:n≤l.length) {j:Nat} {u:Value}(hj:(kq U tt l 0 n)[j]? =some u):w.cell? (p.add j)=some u:=by
 unfold kq at hj
 rw [← aK,bo,BA]at hj
 split at hj
 ·rename_i hjn
  injection hj with hj
  obtain⟨p',y',Qq,hy',_,SH⟩:=hr.ld (i:=(j:Int)) (by omega) (by omega)
  rw [hA]at Qq
  injection Qq with e
  subst e
  rw [Int.toNat_natCast]at hy' SH
  have hc0:=SH 0 (by show 0<(U.en tt).size;omega)
  rw [show(p.add (j*Enc.size (U.el tt))).add 0=p.add j by rw [add_add,Nat.add_zero];show p.add (j*(U.en tt).size)=_;rw [h1,Nat.mul_one]]at hc0
  rw [hc0,← hj]
  dsimp only
  rw [Nat.zero_add,Nat.zero_add,List.getD_eq_getElem?_getD,hy']
  exact It (U.en tt) h1 y'
 ·cases hj
theorem EO {k:Option Kn} {n:Nat} {F:List Value→Prop} {v:Value}(hS:Sat st.rs X w)(hx:KnO st.rs v k)(h:Ko U k n st F):∃(b:Addr)(m d:Nat)(vs:List Value),v= .slice (some b) m d∧vs.length=Nat.min m n∧(∀j u,vs[j]? =some u→w.cell? (b.add j)=some u)∧F vs:=by
 have Wt:∀m,uJ n m=Nat.min m n:=fun m=>by
  show _=min m n
  unfold uJ
  split
  ·rename_i h;have:=Nat.le_of_ble_eq_true h;omega
  ·rename_i h
   have:¬n≤m:=fun hh=>by rw [Nat.ble_eq_true_of_le hh]at h;cases h
   omega
 unfold Ko at h
 split at h
 ·rename_i id off m
  obtain⟨a,c,h1,rfl⟩:=hx
  split at h
  ·rename_i g cs T hn
   split at h
   ·rename_i hb
    have hb:=Nat.le_of_ble_eq_true hb
    simp only [den,PK.id,hn,bK,Option.some.injEq,Value.pointer.injEq]at h1
    obtain⟨hg,hX,Ug⟩:=hS.res id _ hn
    refine⟨a,m,c,_,rfl,?_,fun j u hj=>?_,h⟩
    ·rw [← Wt,dm,dU];simp;omega
    ·rw [dm,dU,List.getElem?_take]at hj
     split at hj
     ·rw [List.getElem?_drop]at hj
      rw [← h1,bF]
      exact Ug.cell (by simpa using hj)
     ·cases hj
   ·exact h.elim
  ·exact h.elim
 ·rename_i id path off m
  obtain⟨a,c,h1,rfl⟩:=hx
  split at h
  ·rename_i tt r s hn
   split at h
   ·rename_i cd cs hw
    obtain⟨hc,h⟩:=h
    split at h
    ·rename_i hlen
     have hlen:=Nat.eq_of_beq_eq_true hlen
     simp only [den,PK.id,hn,bK,Option.some.injEq,Value.pointer.injEq]at h1
     refine⟨a,m,c,_,rfl,by rw [hlen,Wt],fun j u hj=>?_,h⟩
     rw [← h1,bF]
     exact(U.pP (hS.res id _ hn) hw hc).2 j u hj
    ·exact h.elim
   ·exact h.elim
  ·exact h.elim
 ·rename_i id li
  have hx:den U st.rs (.sl id li)=some v:=hx
  split at h
  ·rename_i tt r s hn
   split at h
   ·rename_i L hL
    split at h
    ·rename_i h1
     have h1:(U.en L.t).size=1:=Nat.eq_of_beq_eq_true h1
     obtain⟨⟨hn0,hle⟩,h⟩:=h
     simp only [den,PK.id,hn,bK,fg,hL,Option.some.injEq]at hx
     have hr:=U.mT (hS.res id _ hn) hL
     obtain⟨p,y,hA,hy,_,OG⟩:=hr.ld (i:=0) (by omega) (by omega)
     refine⟨p,_,_,_,by rw [← hx,hA],?_,fun j u hj=>?_,h⟩
     ·unfold kq;rw [qy,js];show _=min _ _;omega
     ·exact oK h1 hr hA hle hj
    ·exact h.elim
   ·exact h.elim
  ·rename_i tt own T A c l hn
   split at h
   ·rename_i h1
    have h1:(U.en tt).size=1:=Nat.eq_of_beq_eq_true h1
    obtain⟨⟨hn0,hlc⟩,h⟩:=h
    have hm:=Wt c
    have hm:uJ n c=min c n:=hm
    simp only [den,PK.id,hn,bK,fg,Option.some.injEq]at hx
    have hr:∃Z,Rd w Z A l.length c l:=by
     have:=hS.res id _ hn
     cases own
     ·exact⟨_,this⟩
     ·exact⟨_,this.1.rd⟩
    obtain⟨Z,hr⟩:=hr
    obtain⟨p,y,hA,hy,_,OG⟩:=hr.ld (i:=0) (by omega) (by omega)
    refine⟨p,_,_,_,by rw [← hx,hA],?_,fun j u hj=>oK h1 hr hA (by omega) hj,h⟩
    unfold kq;rw [qy,js,hm,hlc]
   ·exact h.elim
  ·exact h.elim
 ·exact h.elim
theorem FX {q:PK} {vs:List Value} {K:dz U} {a:Addr}(hI:Inv w0 k0 X0 may st.rs X w)(hk:aE st.rs fr st.kn)(hq:den U st.rs q=some (.pointer (some a)))(h:K1 U may k0 q vs st K):
 (∀v∈vs,one? v True)∧aF w a vs fun w2=>∃k st' X' M,K (.int .i64 vs.length) k st'∧KnO st'.rs (.int .i64 vs.length) k∧cZ w0 k0 X0 may fr st X w st' X' w2 M:=by
 unfold K1 at h
 split at h
 ·rename_i id off
  split at h
  ·rename_i g cs T hn NV
   split at h
   ·rename_i hb
    have hb:=Nat.le_of_ble_eq_true hb
    obtain⟨h,h1⟩:=dQ h
    simp only [den,PK.id,hn,bK,Option.some.injEq,Value.pointer.injEq]at hq
    obtain⟨hg,hX,Ug⟩:=hI.sat.res id _ hn
    exact⟨h1,g,off,⟨cs⟩,T,hq.symm,Ug,by simpa using hb,fun w2 hs=>BX (v:= .agg ⟨vs⟩) (ky:=none) (sc:=false) hI hk trivial hn NV rfl hb hs h⟩
   ·exact h.elim
  ·exact h.elim
 ·rename_i id path off
  split at h
  ·rename_i tt r s hn NV
   obtain⟨h,h1⟩:=dQ h
   split at h
   ·rename_i c s' Qj
    obtain⟨hc,hK⟩:=h
    simp only [den,PK.id,hn,bK,Option.some.injEq,Value.pointer.injEq]at hq
    rw [← hq]
    exact⟨h1,U.ov (hI.sat.res id _ hn) Qj hc fun w2 NN O5=>nT hI hk hn NV O5 NN hK⟩
   ·exact h.elim
  ·exact h.elim
 ·exact h.elim
theorem De {x y:Operand} {t t':TypeId} {K:dz U} {Y:Bool} {dst:Option Tmp} {ty:TypeId} {pos:String} {after:Array Edge} {gd:Option (Nat×Bool)}(hI:Inv w0 k0 X0 may st.rs X w)(hk:aE st.rs fr st.kn)(h:F4 U P may k0 t (kf st.kn x) (kf st.kn y) st K):
 opW P Y Qp {dst:=dst,op:= .call {callee:= .builtin .copy,args:= #[x,y],argTypes:= #[t,t']},type:=ty,pos:=pos,after:=after,guard:=gd} (ev fr) w fun v w'=>∃k st' X' M,K v k st'∧KnO st'.rs v k∧cZ w0 k0 X0 may fr st X w st' X' w' M:=by
 unfold F4 at h
 have Oj:=hk.kf x
 have hky:=hk.kf y
 split at h
 ·rename_i q n OF SU
  rw [OF]at Oj
  obtain⟨a,c,hq,hx⟩:=Oj
  obtain⟨b,m,d,vs,hy,hlen,adn,h⟩:=EO hI.sat hky h
  obtain⟨h1,g,o,cs,T,ha,hb,hle,hK⟩:=FX hI hk hq h
  unfold slB at SU
  split at SU
  ·rename_i e hu
   split at SU
   ·rename_i i hi
    have hs:=Nat.eq_of_beq_eq_true SU
    subst ha
    have hr:=run_copy_cells (P:=P) w t t' ty e g o n c b m d vs hu (by rw [hi];simp [hs]) hlen adn
     (by
      intro j hj
      have:cs[o+j]? =some (cs[o+j]'(by omega)):=Array.getElem?_eq_getElem (by omega)
      rw [hb.cell this];rfl)
     (by
      intro j hj
      unfold Blk at hb
      simp [World.frozen?,hb])
     (by
      intro u hu
      obtain⟨_,ha,hb⟩:=mJ (h1 u hu)
      cases u<;>first | rfl | exact absurd rfl (ha _) | exact absurd rfl (hb _))
    refine⟨rfl,?_⟩
    rw [jW (s:=Builtin.copy_ #[t,t'] ty #[.slice (some ⟨g,o,none⟩) n c,.slice (some b) m d]) (by simp [rV,hx,hy]) w hr]
    exact hK _ (eD g T vs o w cs hb)
   ·cases SU
  ·cases SU
 ·exact h.elim
theorem Dp {t:TypeId} {z:Value}(h:(P.info? t).bind (·.zero)=some z)(w:World):(Instr.alloc t true (.tuple #[])).run P w= .ok (.pointer (some ⟨w.heap.size,0,none⟩)) (w.alloc (.cells z.cells t)):=by
 cases hi:P.info? t with
 | none=>rw [hi]at h;cases h
 | some i=>
  rw [hi]at h
  have h:i.zero=some z:=h
  have hz:(zeroValue t).run P w= .ok z w:=by
   unfold zeroValue
   rw [Sem.run_bind,run_typeInfo (w:=w) hi,Result.andThen_ok,h]
   rfl
  unfold Instr.alloc
  rw [Sem.run_bind,hz,Result.andThen_ok]
  rfl
theorem wD {cs:List Value} {T:TypeId} {ck:Option Kn} {K:dz U}(hI:Inv w0 k0 X0 may st.rs X w)(hk:aE st.rs fr st.kn) {v0:Value}(Pc:KnO st.rs v0 ck)(Pm:ck=none∨v0.cells.toList=cs)(h:Ih U cs T ck st K):
 ∃k st' X' M,K (.pointer (some ⟨w.heap.size,0,none⟩)) k st'∧KnO st'.rs (.pointer (some ⟨w.heap.size,0,none⟩)) k∧cZ w0 k0 X0 may fr st X w st' X' (w.alloc (.cells ⟨cs⟩ T)) M:=by
 have hm:Made w w.heap.size ⟨cs⟩ T (w.alloc (.cells ⟨cs⟩ T)):=made rfl rfl
 unfold Ih at h
 split at h
 ·rename_i t s hmk
  have QL:nth (st.rs++ [Res.ob t (fun _=>w.heap.size) s]) st.rs.length=some (.ob t (fun _=>w.heap.size) s):=by rw [bu,if_neg (by omega),Nat.sub_self];rfl
  refine step_done (nJ hI hk hm.pu (Z:=fun k=>k=w.heap.size) (show RS (fun k=>k=w.heap.size) _ (.ob t (fun _=>w.heap.size) s)from U.uI hmk hm.blk) (fun k e=>by rw [e];exact Nat.le_refl _) (pA hk _)) ?_ (h w.heap.size)
  show den U _ (.obj _ 0 0)=_
  simp only [den,PK.id,QL,bK]
 have QL:nth (st.rs++ [Res.blk w.heap.size cs T]) st.rs.length=some (.blk w.heap.size cs T):=by rw [bu,if_neg (by omega),Nat.sub_self];rfl
 refine⟨_,_,_,[],h w.heap.size,?_,nJ hI hk hm.pu (Z:=fun k=>k=w.heap.size) (show RS (fun k=>k=w.heap.size) _ (.blk w.heap.size cs T)from⟨rfl,fun _ h=>h,hm.blk⟩) (fun k e=>by rw [e];exact Nat.le_refl _) (aE.app ?_ (pA hk _))⟩
 ·show den U _ (.loc _ 0)=_
  simp only [den,PK.id,QL,bK]
 ·intro key q hq
  obtain⟨j,u,rfl,hu,QM⟩:=oI Pc hq
  rcases Pm with rfl | Pm
  ·cases hq
  rw [Pm]at hu
  rw [Nat.zero_add]
  exact⟨_,cs,T,u,QL,hu,QM.mono fun p hp u hu=>qJ (M:= []) (fun i hi _=>by rw [bu,if_pos hi]) (fun i hi=>by cases hi) (.inl (by simp)) hu⟩
theorem xp {tt:Nat}:∀ {n:Nat} {cs:List Value} {l:List (U.el tt)},Db U tt n cs=some l→l.length=n∧l.flatMap enc=cs
 | 0,[],l,h=>by simp only [Db,Option.some.injEq]at h;subst h;exact⟨rfl,rfl⟩
 | 0,_::_,l,h=>by simp [Db]at h
 | n+1,cs,l,h=>by
  simp only [Db]at h
  split at h
  ·rename_i x r hx hr
   injection h with h
   subst h
   obtain⟨h1,h2⟩:=xp hr
   refine⟨by simp [h1],?_⟩
   have h3:enc x=ig (U.en tt).size cs:=U.iJ hx
   rw [List.flatMap_cons,h2,h3,dm,dU,List.take_append_drop]
  ·cases h
theorem qc {t e:TypeId} {tt:Nat} {ie:TypeInfo} {z:Value}(h:EP U P t=some (e,tt,ie,z)):SN P t e z (U.en tt).size ie.bytes∧P.info? e=some ie∧ie.zero=some z∧ie.size=(U.en tt).size∧0<ie.bytes:=by
 unfold EP at h
 split at h
 ·rename_i e' hu
  split at h
  ·rename_i tt' ie' _ hi
   split at h
   ·rename_i z' hz
    split at h
    ·rename_i hb
     simp only [Option.some.injEq,Prod.mk.injEq]at h
     obtain⟨rfl,rfl,rfl,rfl⟩:=h
     simp only [Bool.and_eq_true]at hb
     have h1:=Nat.eq_of_beq_eq_true hb.1
     have h2:=Nat.eq_of_beq_eq_true hb.2.1
     have h3:0<ie'.bytes:=by simpa [Nat.blt_eq]using hb.2.2
     exact⟨⟨hu,⟨ie',hi,hz,h1,rfl⟩,by rw [← h1,← h2];simp,(U.en tt').pos⟩,hi,hz,h1,h3⟩
    ·cases h
   ·cases h
  ·cases h
 ·cases h
theorem EN {tt:Nat} {x:Operand} {F:List (U.el tt)→Prop}(hS:Sat st.rs X w)(hk:aE st.rs fr st.kn)(h:Km U tt (ev fr x) (kf st.kn x) st F):∃(l:List (U.el tt))(A:Option Addr)(c:Nat)(Y:Nat→Prop),ev fr x= .slice A l.length c∧Rd w Y A l.length c l∧F l:=by
 have Oj:=hk.kf x
 unfold Km at h
 split at h
 ·rename_i id li OF
  rw [OF]at Oj
  have hd:den U st.rs (.sl id li)=some (ev fr x):=Oj
  split at h
  ·rename_i r hn
   split at h
   ·rename_i L hL
    simp only [den,PK.id,hn,bK,hL,Option.some.injEq]at hd
    split at h
    ·rename_i ht
     have hr:=(hS.res id _ hn).ls hL
     obtain⟨t',A,c,l⟩:=L
     cases ht
     exact⟨l,A,c,_,hd.symm,hr,h⟩
    ·exact h.elim
   ·exact h.elim
  ·exact h.elim
 ·split at h
  ·rename_i d hx
   exact⟨[],none,d,_,hx,Rd.nil,h⟩
  ·exact h.elim
theorem wQ {rs:List (Res U)} {r:Res U}:nth (rs++ [r]) rs.length=some r:=by rw [bu,if_neg (by omega),Nat.sub_self];rfl
theorem qt {tt:Nat} {T:TypeId} {A:Option Addr} {c:Nat} {l:List (U.el tt)} {K:dz U}(hI:Inv w0 k0 X0 may st.rs X w)(hk:aE st.rs fr st.kn) {w':World}(q:Pu w w') {Z:Nat→Prop}(ho:Own w' Z T A l.length c l)(hz:∀k,Z k→w.heap.size≤k) {v:Value}(hv:v= .slice A l.length c)
 (h:nmL (st.rs++ [.lst tt true T A c l]) [st.rs.length] fun Oc=>K v (some (.p (.sl st.rs.length 0))) ⟨Oc,st.kn,st.md⟩):
 ∃k st' X' M,K v k st'∧KnO st'.rs v k∧cZ w0 k0 X0 may fr st X w st' X' w' M:=by
 refine step_done (st':=⟨st.rs++ [.lst tt true T A c l],st.kn,st.md⟩) (nJ hI hk q (Z:=fun k=>Z k∧k<w'.heap.size) (show RS (fun k=>Z k∧k<w'.heap.size) _ (.lst tt true T A c l)from⟨ho.narrow,fun k hk=>hk.2⟩) (fun k hk=>hz k hk.1) (pA hk _)) ?_ h
 show den U _ (.sl _ 0)=_
 simp only [den,PK.id,wQ,bK,fg,hv]
theorem Ct(hI:Inv w0 k0 X0 may st.rs X w) {i:Nat} {a b:Res U}(ha:nth st.rs i=some a)(hc:jU may k0 i=true) {w':World}(q:Ch (X i) w w')(Uw:cK a b) {Z:Nat→Prop}(hb:RS Z w' b)(hz:∀k,Z k→X i k∨w.heap.size≤k) {kn':List (Key×Kn)}(OF:aE (bR st.rs i b) fr kn'):
 cZ w0 k0 X0 may fr st X w ⟨bR st.rs i b,kn',i::st.md⟩ (jr X i Z) w' [i]:=by
 have hi:=aR ha
 exact⟨hI.set hi (fK hc) q hb hz,OF,rfl,fun j hj=>by simp at hj;subst hj;exact hi,fun j hj=>by simp at hj;subst hj;exact fK hc,by simp,fun j hj Oq=>⟨by rw [aZ,if_neg (fun hh=>Oq (by simp [hh.1]))],ic _ _ (by simpa using Oq)⟩,fun j hj k hk=>by
  simp at hj;subst hj;rw [updX_eq]at hk;exact hz k hk,fun j h1 h2=>by simp at h2;omega,q.mono fun k hk=>⟨i,by simp,hk⟩,fun j c hj=>by
  by_cases Oq:j=i
  ·subst Oq
   rw [ha]at hj
   injection hj with hj
   subst hj
   exact⟨b,by rw [aZ,if_pos ⟨rfl,hi⟩],Uw⟩
  ·exact⟨c,by rw [aZ,if_neg (fun hh=>Oq hh.1)];exact hj,cK.refl c⟩⟩
theorem zI {tt:Nat} {z:Value} {x:U.el tt}(hx:enc x=z.cells.toList)(n:Nat):(List.replicate n x).flatMap enc=(madeCells z.cells (n*(U.en tt).size)).toList:=by
 have hs:z.cells.size=(U.en tt).size:=by have:=bV x;rw [hx]at this;simpa using this
 have hp:0<Enc.size (U.el tt):=Enc.pos
 apply List.ext_getElem?
 intro j
 by_cases hj:j<n*Enc.size (U.el tt)
 ·have hq:j / Enc.size (U.el tt)<n:=(Nat.div_lt_iff_lt_mul hp).2 hj
  have hr:j % Enc.size (U.el tt)<Enc.size (U.el tt):=Nat.mod_lt _ hp
  have h4:=flat_get (List.replicate n x) (j / Enc.size (U.el tt)) (j % Enc.size (U.el tt)) x (by rw [List.getElem?_replicate,if_pos hq]) hr
  have h5:j / Enc.size (U.el tt)*Enc.size (U.el tt)+j % Enc.size (U.el tt)=j:=by rw [Nat.mul_comm];exact Nat.div_add_mod j _
  rw [h5]at h4
  rw [h4,hx]
  have U1:j<n*(U.en tt).size:=hj
  have Nr:j % (U.en tt).size<z.cells.size:=by rw [hs];exact hr
  have e1:(madeCells z.cells (n*(U.en tt).size)).toList[j]? =some (z.cells[j % z.cells.size]!):=by
   simp [madeCells,U1]
  rw [e1,hs]
  show z.cells.toList[j % (U.en tt).size]? =_
  rw [Array.getElem?_toList,Array.getElem?_eq_getElem Nr,getElem!_pos z.cells _ Nr]
 ·rw [List.getElem?_eq_none (by rw [dx,List.length_replicate];omega),List.getElem?_eq_none (by rw [Array.length_toList,size_madeCells];exact Nat.le_of_not_lt hj)]
def DZ(fr:Fr)(w0:World)(k0:Nat)(X0:Nat→Nat→Prop)(may:List Nat)(st:St U)(X:Nat→Nat→Prop)(w:World)(K:dz U):Option (List PanicEntry→World→Prop):=
 some fun ch w'=>∃v st' X' M,ch= [⟨v,false,false⟩]∧K v (some .pan) st'∧cZ w0 k0 X0 may fr st X w st' X' w' M
theorem Fp {Y:Bool} {q:List PanicEntry→World→Prop} {o:Oper} {ρ:Operand→Value} {K:aC}(h:opW P Y (some q) o ρ w K)(hq:∀ch w',q ch w'→False):opW P Y none o ρ w K:=by
 refine⟨h.1,?_⟩
 have h2:=h.2
 generalize (execOp ρ o).run P w=r at h2 ⊢
 cases r with
 | ok nx w'=>
  cases nx<;>simp only [Out]at h2 ⊢
  case value v=>exact h2
  case skip=>exact h2
  case enter f args=>exact h2.mono fun e w'' he=>he.imp id fun⟨ch,_,h2⟩=>(hq _ _ h2).elim
  case round l f tmps assign body=>exact⟨h2.1,h2.2.mono fun e w'' he=>he.imp id fun⟨ch,_,h2⟩=>(hq _ _ h2).elim⟩
 | halt x w'=>
  cases x<;>simp only [Out]at h2 ⊢
  exact(hq _ _ h2).elim
theorem Bx {Y:Bool} {q q':List PanicEntry→World→Prop} {o:Oper} {ρ:Operand→Value} {K:aC}(h:opW P Y (some q) o ρ w K)(hq:∀ch w',q ch w'→q' ch w'):opW P Y (some q') o ρ w K:=by
 refine⟨h.1,?_⟩
 have h2:=h.2
 generalize (execOp ρ o).run P w=r at h2 ⊢
 cases r with
 | ok nx w'=>
  cases nx<;>simp only [Out]at h2 ⊢
  case value v=>exact h2
  case skip=>exact h2
  case enter f args=>exact h2.mono fun e w'' he=>he.imp id fun⟨ch,h1,h2⟩=>⟨ch,h1,hq _ _ h2⟩
  case round l f tmps assign body=>exact⟨h2.1,h2.2.mono fun e w'' he=>he.imp id fun⟨ch,h1,h2⟩=>⟨ch,h1,hq _ _ h2⟩⟩
 | halt x w'=>
  cases x<;>simp only [Out]at h2 ⊢
  exact hq _ _ h2
theorem qp {Y:Bool} {Qp:Option (List PanicEntry→World→Prop)} {o:Oper} {ρ:Operand→Value} {K K':aC}(h:opW P Y Qp o ρ w K)(hK:∀v w',K v w'→K' v w'):opW P Y Qp o ρ w K':=by
 refine⟨h.1,?_⟩
 have h2:=h.2
 generalize (execOp ρ o).run P w=r at h2 ⊢
 cases r with
 | ok nx w'=>
  cases nx<;>simp only [Out]at h2 ⊢
  case value v=>exact hK _ _ h2
  case skip=>exact hK _ _ h2
  case enter f args=>exact h2.mono fun e w'' he=>he.imp (fun⟨v,h1,h2⟩=>⟨v,h1,hK _ _ h2⟩) id
  case round l f tmps assign body=>exact⟨h2.1,h2.2.mono fun e w'' he=>he.imp (fun⟨v,h1,h2⟩=>⟨v,h1,hK _ _ h2⟩) id⟩
 | halt x w'=>
  cases x<;>simp only [Out]at h2 ⊢
  exact h2
theorem Inv.JG {rs rs':List (Res U)}(h:Inv w0 k0 X0 may rs X w)(hl:rs'.length≤rs.length)(he:∀i,i<rs'.length→nth rs' i=nth rs i)(hk:k0≤rs'.length):Inv w0 k0 X0 may rs' X w:=
 ⟨⟨fun i r hr=>h.sat.res i r (by rw [← he i (aR hr)];exact hr),fun i j hi hj=>h.sat.dis i j (by omega) (by omega)⟩,h.ch,h.old,fun i h1 h2=>h.new i h1 (by omega),hk⟩
theorem Bt {k:Option Kn} {B:Prop}(h:zA k False B):B:=by
 unfold zA at h
 split at h
 ·exact h.elim
 ·exact h
theorem FT:∀ {s:Sh} {F:Value→Prop},LX s F→∃v,F v
 | .int _,_,⟨_,h⟩=>⟨_,h⟩
 | .bool,_,⟨_,h⟩=>⟨_,h⟩
 | .str,_,⟨_,h⟩=>⟨_,h⟩
 | .ptr,_,⟨_,h⟩=>⟨_,h⟩
 | .slice,_,⟨_,h⟩=>⟨_,h⟩
 | .map,_,⟨_,h⟩=>⟨_,h⟩
 | .val,_,⟨_,h⟩=>⟨_,h⟩
theorem Bu {α:Type} {F:α→Prop}:∀ {l:List α},orL F l→∃a,F a
 | [a],h=>⟨a,h⟩
 | a::b::r,h=>by
  rcases h with h | h
  ·exact⟨a,h⟩
  ·exact Bu (l:=b::r) h
theorem Iq {args:List Operand}(hk:aE st.rs fr st.kn):∀j v k,nth (aI (ev fr) args) j=some v→nth (aI (V.kf st.kn) args) j=some k→KnO st.rs v k:=by
 intro j v k h1 h2
 rw [bo]at h1 h2
 cases hn:nth args j with
 | none=>rw [hn]at h1;cases h1
 | some x=>
  rw [hn]at h1 h2
  injection h1 with h1
  injection h2 with h2
  subst h1;subst h2
  exact hk.kf x
theorem FC {rs:List (Res U)} {a1 a2:List Value} {k1 k2:List (Option Kn)}(hl:a1.length=k1.length)(h1:∀j v k,nth a1 j=some v→nth k1 j=some k→KnO rs v k)(h2:∀j v k,nth a2 j=some v→nth k2 j=some k→KnO rs v k):∀j v k,nth (a1++a2) j=some v→nth (k1++k2) j=some k→KnO rs v k:=by
 intro j v k hj N3
 rw [bu]at hj N3
 by_cases hc:j<a1.length
 ·rw [if_pos hc]at hj
  rw [if_pos (by omega)]at N3
  exact h1 j v k hj N3
 ·rw [if_neg hc]at hj
  rw [if_neg (by omega),← hl]at N3
  exact h2 _ v k hj N3
theorem JX {K:dz U} {Y:Bool} {dst:Option Tmp} {ty:TypeId} {pos:String} {after:Array Edge} {gd:Option (Nat×Bool)} {f:Operand} {args:Array Operand} {ats:Array TypeId} {f':Nat} {first cap:Array Value} {ks:List (Option Kn)}(OT:∀f c,tbl.c f=some c→LV U P f c∧bW P f=true)(hI:Inv w0 k0 X0 may st.rs X w)(hk:aE st.rs fr st.kn)(hf:ev fr f= .func (.func f') first cap)
 (hks:∀j v k,nth (first.toList++(aI (ev fr) args.toList++cap.toList)) j=some v→nth ks j=some k→KnO st.rs v k)(h:call2 U tbl may k0 f' (first.toList++(aI (ev fr) args.toList++cap.toList)) ks st K):
 opW P Y (DZ fr w0 k0 X0 may st X w K) {dst:=dst,op:= .call {callee:= .value f,args:=args,argTypes:=ats},type:=ty,pos:=pos,after:=after,guard:=gd} (ev fr) w fun v w'=>∃k st' X' M,K v k st'∧KnO st'.rs v k∧cZ w0 k0 X0 may fr st X w st' X' w' M:=by
 have QO:bW P f'=true:=by
  unfold call2 at h
  split at h
  ·exact h.elim
  ·rename_i c hc;exact(OT f' c hc).2
 refine⟨rfl,?_⟩
 have h1:=dV (P:=P) (C:= [f']) (f:=f') (by simp [eh,QO]) (by simp) (first++args.map (ev fr)++cap) w
 have hr:(execOp (ev fr) {dst:=dst,op:= .call {callee:= .value f,args:=args,argTypes:=ats},type:=ty,pos:=pos,after:=after,guard:=gd}).run P w= .ok (.enter f' (first++args.map (ev fr)++cap)) w:=by
  simp only [execOp,resolve,hf,Deferred.ofValue]
  rw [Sem.run_bind]
  exact h1
 rw [hr]
 have ha:(⟨first.toList++(aI (ev fr) args.toList++cap.toList)⟩:Array Value)=first++args.map (ev fr)++cap:=by
  apply Array.ext'
  simp [fG]
 have:=tI (fun f c h=>(OT f c h).1) hI hk hks h
 rw [ha]at this
 refine this.mono fun e w' hp=>?_
 obtain⟨v,k,st',X',M,rfl,h2,h3,h4⟩:=hp
 rcases h3 with rfl | h3
 ·exact .inr ⟨_,rfl,v,st',X',M,rfl,h2,h4⟩
 ·refine .inl ⟨v,?_,k,st',X',M,h2,h3,h4⟩
  cases k with
  | none=>rfl
  | some k=>cases k<;>first | rfl | exact h3.elim
theorem Md {K:dz U} {Y:Bool} {dst:Option Tmp} {ty:TypeId} {pos:String} {after:Array Edge} {gd:Option (Nat×Bool)} {x:Operand} {name:String} {args:Array Operand} {ats:Array TypeId} {t:TypeId} {u:Value} {f':Nat} {ks:List (Option Kn)}(OT:∀f c,tbl.c f=some c→LV U P f c∧bW P f=true)(hI:Inv w0 k0 X0 may st.rs X w)(hk:aE st.rs fr st.kn)(hx:ev fr x= .iface t u)(hm:wH P t name=some f')
 (hks:∀j v k,nth (u::aI (ev fr) args.toList) j=some v→nth ks j=some k→KnO st.rs v k)(h:call2 U tbl may k0 f' (u::aI (ev fr) args.toList) ks st K):
 opW P Y (DZ fr w0 k0 X0 may st X w K) {dst:=dst,op:= .call {callee:= .invoke x name,args:=args,argTypes:=ats},type:=ty,pos:=pos,after:=after,guard:=gd} (ev fr) w fun v w'=>∃k st' X' M,K v k st'∧KnO st'.rs v k∧cZ w0 k0 X0 may fr st X w st' X' w' M:=by
 have QO:bW P f'=true:=by
  unfold call2 at h
  split at h
  ·exact h.elim
  ·rename_i c hc;exact(OT f' c hc).2
 refine⟨rfl,?_⟩
 have h1:=dV (P:=P) (C:= [f']) (f:=f') (by simp [eh,QO]) (by simp) (#[u]++args.map (ev fr)) w
 have he:(#[ev fr x]++args.map (ev fr)).extract 1 (#[ev fr x]++args.map (ev fr)).size=args.map (ev fr):=by
  apply Array.ext'
  simp
  exact List.take_of_length_le (by simp)
 have hr:(execOp (ev fr) {dst:=dst,op:= .call {callee:= .invoke x name,args:=args,argTypes:=ats},type:=ty,pos:=pos,after:=after,guard:=gd}).run P w= .ok (.enter f' (#[u]++args.map (ev fr))) w:=by
  simp only [execOp,resolve]
  rw [Sem.run_bind]
  show(invoke (.fn (.method name) #[]) (#[ev fr x]++args.map (ev fr))).run P w=_
  have e0:(#[ev fr x]++args.map (ev fr))[0]? =some (.iface t u):=by rw [hx,Array.getElem?_append_left (by simp)];rfl
  simp only [invoke,e0,he]
  simp only [callMethod]
  rw [Sem.run_bind]
  have hp:(program:Sem Program).run P w= .ok P w:=rfl
  rw [hp]
  change Sem.run P (method (P.types.size+Made.depth) t u name>>=fun p=>callFunc p.1 (#[p.2]++Array.map (ev fr) args)) w=_
  rw [Sem.run_bind,ts hm]
  exact h1
 rw [hr]
 have ha:(⟨u::aI (ev fr) args.toList⟩:Array Value)= #[u]++args.map (ev fr):=by
  apply Array.ext'
  simp [fG]
 have:=tI (fun f c h=>(OT f c h).1) hI hk hks h
 rw [ha]at this
 refine this.mono fun e w' hp=>?_
 obtain⟨v,k,st',X',M,rfl,h2,h3,h4⟩:=hp
 rcases h3 with rfl | h3
 ·exact .inr ⟨_,rfl,v,st',X',M,rfl,h2,h4⟩
 ·refine .inl ⟨v,?_,k,st',X',M,h2,h3,h4⟩
  cases k with
  | none=>rfl
  | some k=>cases k<;>first | rfl | exact h3.elim
theorem xE {K:dz U} {Y:Bool} {dst:Option Tmp} {ty:TypeId} {pos:String} {after:Array Edge} {gd:Option (Nat×Bool)} {f:Operand} {args:Array Operand} {ats:Array TypeId}(OT:∀f c,tbl.c f=some c→LV U P f c∧bW P f=true)(hI:Inv w0 k0 X0 may st.rs X w)(hk:aE st.rs fr st.kn)
 (h:BW U tbl may k0 (ev fr f) (aI (ev fr) args.toList) (aI (V.kf st.kn) args.toList) st K):
 opW P Y (DZ fr w0 k0 X0 may st X w K) {dst:=dst,op:= .call {callee:= .value f,args:=args,argTypes:=ats},type:=ty,pos:=pos,after:=after,guard:=gd} (ev fr) w fun v w'=>∃k st' X' M,K v k st'∧KnO st'.rs v k∧cZ w0 k0 X0 may fr st X w st' X' w' M:=by
 obtain⟨r,h1,hK⟩:=FT h
 obtain⟨⟨f',az,bs⟩,h2⟩:=Bu h1
 dsimp only at h2
 split at h2
 ·rename_i hd
  simp only [Bool.and_eq_true]at hd
  obtain⟨hf,h2⟩:=h2
  have pk:∀ {l:List PK},iK (Da st.rs) l=true→∀j v k,nth (aI (dv st.rs) l) j=some v→nth (aI (fun p=>some (Kn.p p)) l) j=some k→KnO st.rs v k:=by
   intro l hl j v k hj N3
   rw [bo]at hj N3
   cases hn:nth l j with
   | none=>rw [hn]at hj;cases hj
   | some p=>
    rw [hn]at hj N3
    injection hj with hj
    injection N3 with N3
    subst hj;subst N3
    have:=cr.1 hl p (gu hn)
    unfold Da at this
    show den U st.rs p=some (dv st.rs p)
    unfold dv
    split at this
    ·rename_i u hu;rw [hu];rfl
    ·cases this
  refine qp (Bx (q':=fun ch w'=>∃v st' X' M,ch= [⟨v,false,false⟩]∧K v (some .pan) st'∧cZ w0 k0 X0 may fr st X w st' X' w' M) (hq:=fun ch w' ⟨_,_,_,_,_,h,_⟩=>h.elim) (JX (K:=_) (first:=⟨aI (dv st.rs) az⟩) (cap:=⟨aI (dv st.rs) bs⟩) OT hI hk hf (FC (by simp) (pk hd.1) (FC (by simp) (Iq hk) (pk hd.2))) h2)) fun v w' hp=>?_
  obtain⟨k,st',X',M,g1,g2,g3⟩:=hp
  have g1:=Bt g1
  split at g1
  ·rename_i hl
   subst g1
   simp only [Bool.and_eq_true]at hl
   have l1:=Nat.eq_of_beq_eq_true hl.1
   have l2:=Nat.eq_of_beq_eq_true hl.2
   have hM:M= []:=by
    have:=g3.md
    rw [this,List.length_append]at l2
    exact List.eq_nil_of_length_eq_zero (by omega)
   subst hM
   refine⟨none,st,X',[],hK,trivial,g3.inv.JG (by omega) (fun i hi=>(g3.same i hi (by simp)).1.symm) hI.len,hk,rfl,fun i hi=>(by cases hi),fun i hi=>(by cases hi),Nat.le_refl _,fun i hi _=>⟨rfl,(g3.same i hi (by simp)).2⟩,fun i hi=>(by cases hi),fun i h1 h2=>by omega,g3.ch,fun i a ha=>⟨a,ha,cK.refl a⟩⟩
  ·exact g1.elim
 ·exact h2.elim
theorem py:∀ {rs:List (Res U)} {r:Nat→Nat} {l:List (Int×Value)},mpL U rs=some (r,l)→∃i t s,nth rs i=some (.ob t r s)∧U.mp t s=some l
 | [],r,l,h=>by cases h
 | .ob t r0 s::rs,r,l,h=>by
  simp only [mpL]at h
  split at h
  ·rename_i m hm
   simp only [Option.some.injEq,Prod.mk.injEq]at h
   obtain⟨rfl,rfl⟩:=h
   exact⟨0,t,s,rfl,hm⟩
  ·obtain⟨i,t,s,h1,h2⟩:=py h
   exact⟨i+1,t,s,h1,h2⟩
 | .blk .. ::rs,r,l,h=>by
  simp only [mpL]at h
  obtain⟨i,t,s,h1,h2⟩:=py h
  exact⟨i+1,t,s,h1,h2⟩
 | .lst .. ::rs,r,l,h=>by
  simp only [mpL]at h
  obtain⟨i,t,s,h1,h2⟩:=py h
  exact⟨i+1,t,s,h1,h2⟩
theorem Cu {b:Bool} {x y:Prop}(h:split b x y)(hb:b=true):x:=(fq h).elim (·.2) fun h=>by rw [hb]at h;cases h.1
theorem Cv {b:Bool} {x y:Prop}(h:split b x y)(hb:b=false):y:=(fq h).elim (fun h=>by rw [hb]at h;cases h.1) (·.2)
theorem BD:∀ {l:List (Int×Value)} {i:Int} {z:Value} {F:Value→Bool→Prop},lkS l i z F→F ((lkF l i).getD z) (lkF l i).isSome
 | [],i,z,F,h=>h
 | (a,v)::r,i,z,F,h=>by
  unfold lkS at h
  unfold lkF
  by_cases e:i=a
  ·rw [if_pos e];exact Cu h (decide_eq_true e)
  ·rw [if_neg e];exact BD (Cv h (decide_eq_false e))
theorem Im {T:TypeId} {z:Value}(h:lkT P T=some z)(w:World):∃K E,P.underlying T=some (.map K E)∧P.underlying K=some (.int .u32)∧(zeroValue E).run P w= .ok z w:=by
 unfold lkT at h
 split at h
 ·rename_i K E hT
  split at h
  ·rename_i hK
   cases hi:P.info? E with
   | none=>rw [hi]at h;cases h
   | some i=>
    rw [hi]at h
    exact⟨K,E,hT,hK,by simp [zeroValue,typeInfo,hi,show i.zero=some z from h]⟩
  ·cases h
 ·cases h
theorem Fy {o:Oper} {K:dz U} {Y:Bool}(OT:∀f c,tbl.c f=some c→LV U P f c∧bW P f=true)(hI:Inv w0 k0 X0 may st.rs X w)(hk:aE st.rs fr st.kn)(h:KP U P tbl may k0 o (ev fr) st K):
 opW P Y (DZ fr w0 k0 X0 may st X w K) o (ev fr) w fun v w'=>∃k st' X' M,K v k st'∧KnO st'.rs v k∧cZ w0 k0 X0 may fr st X w st' X' w' M:=by
 obtain⟨dst,op,ty,pos,after,gd⟩:=o
 cases op<;>simp only [KP]at h<;>skip
 case panic x=>
  refine⟨rfl,?_⟩
  split at h
  ·rename_i t v hx
   have hr:(execOp (ev fr) ⟨dst,.panic x,ty,pos,after,gd⟩).run P w= .halt (.panic (.iface t v)) w:=by
    simp [execOp,hx,Instr.panic,goPanic]
   rw [hr]
   exact⟨_,st,X,[],rfl,h,hI,hk,rfl,fun i hi=>(by cases hi),fun i hi=>(by cases hi),Nat.le_refl _,fun _ _ _=>⟨rfl,rfl⟩,fun i hi=>(by cases hi),fun i h1 h2=>by omega,Ch.refl _ _,fun i a ha=>⟨a,ha,cK.refl a⟩⟩
  ·exact h.elim
 case store t x y=>exact zq hI hk h
 case alloc t=>
  split at h
  ·rename_i z hz
   refine⟨rfl,?_⟩
   have hr:(execOp (ev fr) ⟨dst,.alloc t,ty,pos,after,gd⟩).run P w= .ok (.value (.pointer (some ⟨w.heap.size,0,none⟩))) (w.alloc (.cells z.cells t)):=by
    simp [execOp,Dp hz]
   rw [hr]
   exact wD hI hk (v0:=undef) (ck:=none) trivial (.inl rfl) h
  ·exact h.elim
 case box t x=>
  refine⟨rfl,?_⟩
  have hr:(execOp (ev fr) ⟨dst,.box t x,ty,pos,after,gd⟩).run P w= .ok (.value (.pointer (some ⟨w.heap.size,0,none⟩))) (w.alloc (.cells (ev fr x).cells t)):=rfl
  rw [hr]
  exact wD hI hk (hk.kf x) (.inr rfl) h
 case call c=>
  obtain⟨cal,args,ats⟩:=c
  simp only at h
  split at h
  ·rename_i f
   split at h
   ·exact xE OT hI hk h
   split at h
   ·rename_i f' first cap hf
    refine JX OT hI hk hf (fun j v k hj N3=>?_) h
    ·
     have PL:∀j v k,nth (aI (ev fr) args.toList) j=some v→nth (aI (V.kf st.kn) args.toList) j=some k→KnO st.rs v k:=by
      intro j v k h1 h2
      rw [bo]at h1 h2
      cases hn:nth args.toList j with
      | none=>rw [hn]at h1;cases h1
      | some x=>
       rw [hn]at h1 h2
       injection h1 with h1
       injection h2 with h2
       subst h1;subst h2
       exact hk.kf x
     have hfk:=hk.kf f
     have app:∀ {a1 a2:List Value} {k1 k2:List (Option Kn)},a1.length=k1.length→(∀j v k,nth a1 j=some v→nth k1 j=some k→KnO st.rs v k)→(∀j v k,nth a2 j=some v→nth k2 j=some k→KnO st.rs v k)→∀j v k,nth (a1++a2) j=some v→nth (k1++k2) j=some k→KnO st.rs v k:=by
      intro a1 a2 k1 k2 hl h1 h2 j v k hj N3
      rw [bu]at hj N3
      by_cases hc:j<a1.length
      ·rw [if_pos hc]at hj
       rw [if_pos (by omega)]at N3
       exact h1 j v k hj N3
      ·rw [if_neg hc]at hj
       rw [if_neg (by omega),← hl]at N3
       exact h2 _ v k hj N3
     have pt:∀ {vs:Array Value} {l:List (Option PK)},(∀j k,nth l j=some (some k)→∃u,vs[j]? =some u∧den U st.rs k=some u)→∀j v k,nth vs.toList j=some v→nth (aI (fun o:Option PK=>o.map Kn.p) l) j=some k→KnO st.rs v k:=by
      intro vs l hh j v k hj N3
      rw [bo]at N3
      cases hn:nth l j with
      | none=>rw [hn]at N3;cases N3
      | some o=>
       rw [hn]at N3
       injection N3 with N3
       subst N3
       cases o with
       | none=>exact trivial
       | some p=>
        obtain⟨u,hu,hd⟩:=hh j p hn
        rw [aK]at hj
        simp at hj
        rw [hu]at hj
        injection hj with hj
        subst hj
        exact hd
     have no:∀ {vs:List Value},∀j v k,nth vs j=some v→nth (aI (fun _:Value=>(none:Option Kn)) vs) j=some k→KnO st.rs v k:=by
      intro vs j v k hj N3
      rw [bo,hj]at N3
      injection N3 with N3
      subst N3
      exact trivial
     unfold LS at N3
     split at N3
     ·rename_i a b hkf
      rw [hkf,hf]at hfk
      obtain⟨_,fs,cs,e,⟨Pz,Qu⟩,h3,h4⟩:=hfk
      injection e with _ e1 e2
      subst e1;subst e2
      exact app (by simp [Pz]) (pt h3) (app (by simp) PL (pt h4)) j v k hj N3
     ·exact app (by simp) no (app (by simp) PL no) j v k hj N3
   ·exact h.elim
  ·rename_i x name
   split at h
   ·rename_i t u hx
    split at h
    ·rename_i f' hm
     refine Md OT hI hk hx hm (fun j v k hj N3=>?_) h
     cases j with
     | zero=>
      simp only [nth,Option.some.injEq]at N3
      subst N3
      exact trivial
     | succ j=>
      simp only [nth]at hj N3
      rw [bo]at hj N3
      cases hn:nth args.toList j with
      | none=>rw [hn]at hj;cases hj
      | some y=>
       rw [hn]at hj N3
       injection hj with hj
       injection N3 with N3
       subst hj;subst N3
       exact hk.kf y
    ·exact h.elim
   ·exact h.elim
  ·split at h
   ·rename_i x y t t' ha hat
    split at h
    ·rename_i e tt ie z SU htt
     have htt:=Nat.eq_of_beq_eq_true htt
     subst htt
     obtain⟨VV,hi,hz,ND,U5⟩:=qc SU
     obtain⟨l2,B,d,Y2,hy,Q3,h⟩:=EN hI.sat hk h
     have ha':args= #[x,y]:=by apply Array.ext';simpa using ha
     have hat':ats= #[t,t]:=by apply Array.ext';simpa using hat
     subst ha';subst hat'
     have key:∀ {A:Option Addr} {m c:Nat} {K':Value→World→Prop},ev fr x= .slice A m c→(∃(A':Option Addr)(n' c':Nat)(w2:World),(Builtin.append_ #[t,t] ty #[.slice A m c,.slice B l2.length d]:Sem Value).run P w= .ok (.slice A' n' c') w2∧K' (.slice A' n' c') w2)→
      opW P Y (DZ fr w0 k0 X0 may st X w K) {dst:=dst,op:= .call {callee:= .builtin .append,args:= #[x,y],argTypes:= #[t,t]},type:=ty,pos:=pos,after:=after,guard:=gd} (ev fr) w K':=by
      intro A m c K' hx hh
      obtain⟨A',n',c',w2,hr,hK⟩:=hh
      refine⟨rfl,?_⟩
      rw [jW (s:=Builtin.append_ #[t,t] ty #[.slice A m c,.slice B l2.length d]) (by simp [rV,hx,hy]) w hr]
      exact hK
     split at h
     ·rename_i id OF
      split at h
      ·rename_i tt' T A0 c0 l hn NV
       split at h
       ·rename_i hT
        have hT:=Nat.eq_of_beq_eq_true hT
        subst hT
        split at h
        ·rename_i htt
         subst htt
         obtain⟨hbd,h⟩:=h
         have Oj:=hk.kf x
         rw [OF]at Oj
         have hd:den U st.rs (.sl id 0)=some (ev fr x):=Oj
         simp only [den,PK.id,hn,bK,fg,Option.some.injEq]at hd
         obtain⟨ho,NO⟩:Own w (X id) T A0 l.length c0 l∧∀k,X id k→k<w.heap.size:=hI.sat.res id _ hn
         have QP:l.length+l2.length≤9223372036854775807:=by
          have:=Nat.le_mul_of_pos_right (l.length+l2.length) U5
          omega
         have fin:∀(A':Option Addr)(c':Nat)(w2:World)(Z:Nat→Prop),Own w2 Z T A' (l++l2).length c' (l++l2)→(∀k,Z k→X id k∨w.heap.size≤k)→Ch (X id) w w2→∃k st' X' M,K (.slice A' (l++l2).length c') k st'∧KnO st'.rs (.slice A' (l++l2).length c') k∧cZ w0 k0 X0 may fr st X w st' X' w2 M:=by
          intro A' c' w2 Z RC hz2 hq
          have OE:cK (Res.lst tt' true T A0 c0 l) (.lst tt' true T A' c' (l++l2)):= .lst _ _ _ _ _ _ _ _ _
          have hat:nth (bR st.rs id (Res.lst tt' true T A' c' (l++l2))) id=some (.lst tt' true T A' c' (l++l2)):=by rw [aZ,if_pos ⟨rfl,aR hn⟩]
          refine step_done (st':=⟨bR st.rs id (.lst tt' true T A' c' (l++l2)),dO [id] st.kn,id::st.md⟩) (k:=some (.p (.sl id 0))) (Ct hI hn NV hq OE (Z:=fun k=>Z k∧k<w2.heap.size) (show RS _ w2 (.lst tt' true T A' c' (l++l2))from⟨RC.narrow,fun k hk=>hk.2⟩) (fun k hk=>hz2 k hk.1) ?_) ?_ (h A' c')
          rotate_left
          ·show den U _ (.sl id 0)=_
           simp only [den,PK.id,hat,bK,fg]
          ·refine hk.dO (M:= [id]) (fun i _ hi=>by rw [aZ,if_neg (fun hh=>hi (by simp [hh.1]))]) fun i hi a ha=>?_
           simp at hi
           subst hi
           rw [hn]at ha
           injection ha with ha
           subst ha
           exact⟨_,hat,OE⟩
         refine key hd.symm ?_
         refine Own.apps (ho.mono (Y:=fun k=>X id k∨w.heap.size≤k) fun k hk=>.inl hk) VV Q3 QP hbd (.inr (Nat.le_refl _)) (fun A' c' w2 RC hq=>?_) (fun h0 hB=>?_)
         ·rw [← List.length_append]at RC ⊢
          refine fin A' c' w2 _ RC (fun k hk=>hk) ⟨hq.kept.mono fun k hk=>⟨hk.1,fun hh=>hh.elim hk.2 (fun hh=>absurd hk.1 (Nat.not_lt.2 hh))⟩⟩
         ·have Qu:l2= []:=List.eq_nil_of_length_eq_zero h0
          subst Qu
          refine⟨_,_,_,_,run_append_nothing w t t ty T ie VV.und hi A0 l.length c0 ho.own.F7 _ (Src.ofNil _ VV.und d),?_⟩
          have:=fin A0 c0 w (X id) (by rw [List.append_nil];exact ho) (fun k hk=>.inl hk) (Ch.refl _ _)
          rw [List.append_nil]at this
          exact this
        ·exact h.elim
       ·exact h.elim
      ·exact h.elim
     ·split at h
      ·rename_i hx
       obtain⟨hbd,h⟩:=h
       have QP:l2.length≤9223372036854775807:=by
        have:=Nat.le_mul_of_pos_right l2.length U5
        omega
       refine key hx ?_
       refine nd VV Q3 QP hbd fun A' c' w2 RC hq=>?_
       exact qt hI hk hq RC (fun k hk=>hk.1) rfl (h A' c')
      ·exact h.elim
     ·exact h.elim
    ·exact h.elim
   ·exact h.elim
  ·split at h
   ·rename_i x y t t' ha hat
    have ha':args= #[x,y]:=by apply Array.ext';simpa using ha
    have hat':ats= #[t,t']:=by apply Array.ext';simpa using hat
    subst ha';subst hat'
    exact De hI hk h
   ·exact h.elim
  ·exact h.elim
 case buildSlice t len parts=>
  split at h
  ·rename_i e tt ie z SU
   obtain⟨VV,hi,hz,ND,U5⟩:=qc SU
   split at h
   ·rename_i cells hf hb
    split at h
    ·rename_i l hl
     simp only [Bool.and_eq_true]at hb
     have h1:0<len:=by simpa [Nat.blt_eq]using hb.1
     have h2:len*ie.size≤16777216:=Nat.le_of_ble_eq_true hb.2
     have Wl:0<ie.size:=by rw [ND];exact(U.en tt).pos
     have hls:0<len*ie.size:=Nat.mul_pos h1 Wl
     obtain⟨hll,hlf⟩:=xp hl
     refine⟨rfl,?_⟩
     have hr:(execOp (ev fr) {dst:=dst,op:= .buildSlice t len parts,type:=ty,pos:=pos,after:=after,guard:=gd}).run P w= .ok (.value (.slice (some ⟨w.heap.size,0,none⟩) len len)) (w.alloc (.cells cells e)):=by
      have:=Go.run_buildSlice (P:=P) w t e len (parts.map fun(ix:Nat×Operand)=>(ix.1,ev fr ix.2)) cells ie z VV.und hi hz (by omega) (by omega) hf
      simp only [execOp]
      rw [Sem.run_bind,this]
      rfl
     rw [hr]
     have Pm:cells.size=len*(U.en tt).size:=by
      rw [← Array.length_toList,← hlf,dx,hll]
     have OK:=World.ownsRow_lit (base:=0) (e:=e) (size:=(U.en tt).size) w cells len (Nat.zero_le _) (by
      have:=Nat.le_mul_of_pos_right len Wl
      simp only [maxLen];omega) Pm
     refine qt hI hk (Z:=fun k=>k=w.heap.size) (show Pu w (w.alloc (.cells cells e))from(made (w2:=w.alloc (.cells cells e)) rfl rfl).pu) ⟨⟨?_,fun a ha=>by injection ha with ha;rw [← ha]⟩,rfl⟩ (fun k e=>by rw [e];exact Nat.le_refl _) (by rw [hll]) (h w.heap.size)
     rw [hlf,hll]
     exact OK
    ·exact h.elim
   ·exact h.elim
  ·exact h.elim
 case lookup T x ix ok=>
  cases ok with
  | false=>exact h.elim
  | true=>
   simp only at h
   split at h
   ·rename_i g i z r l hx hi hz hm
    obtain⟨rfl,h⟩:=h
    obtain⟨j,t,s,hn,hmp⟩:=py hm
    obtain⟨K,E,h1,h2,h3⟩:=Im hz w
    have hr:=CA h1 h2 h3 (U.wG (hI.sat.res j _ hn) hmp) i
    refine⟨rfl,?_⟩
    rw [jW (s:=Instr.lookup T (.map (some (r 0))) (.int .u32 i) true) (by simp [rV,hx,hi]) w hr]
    exact⟨none,st,X,[],BD h,trivial,hI,hk,rfl,fun i hi=>(by cases hi),fun i hi=>(by cases hi),Nat.le_refl _,fun _ _ _=>⟨rfl,rfl⟩,fun i hi=>(by cases hi),fun i h1 h2=>by omega,Ch.refl _ _,fun i a ha=>⟨a,ha,cK.refl a⟩⟩
   ·exact h.elim
 case makeSlice t l c=>
  split at h
  ·rename_i a b e tt ie z hla hlb SU
   obtain⟨VV,hi,hz,ND,U5⟩:=qc SU
   split at h
   ·rename_i x hx
    obtain⟨⟨rfl,h0,hb⟩,h⟩:=h
    have QP:a≤9223372036854775807:=by
     have h9:(1:Int)*a≤(ie.bytes:Int)*a:=Int.mul_le_mul_of_nonneg_right (by omega) h0
     omega
    have hr:=run_make (P:=P) w t e ie z VV.und hi hz .i64 .i64 a a h0 (Int.le_refl _) hb QP
    refine⟨rfl,?_⟩
    rw [jW (s:=Instr.makeSlice t (.int .i64 a) (.int .i64 a)) (by simp [rV,hla,hlb]) w hr]
    have OG:=zI (x:=x) (U.iJ hx) a.toNat
    have hlen:(List.replicate a.toNat x).length=a.toNat:=List.length_replicate
    rw [ND]
    have OK:=World.ownsRow_lit (base:=0) (e:=e) (size:=(U.en tt).size) w (madeCells z.cells (a.toNat *(U.en tt).size)) a.toNat (Nat.zero_le _) (by simp only [maxLen];omega) (size_madeCells _ _)
    refine qt hI hk (Z:=fun k=>k=w.heap.size) (l:=List.replicate a.toNat x) (c:=a.toNat) (T:=e) (A:=some ⟨w.heap.size,0,none⟩) ((made (w2:=w.alloc (.cells (madeCells z.cells (a.toNat *(U.en tt).size)) e)) rfl rfl).pu) ⟨⟨?_,fun a ha=>by injection ha with ha;rw [← ha]⟩,rfl⟩ (fun k e=>by rw [e];exact Nat.le_refl _) (by rw [hlen]) ?_
    ·rw [OG,hlen]
     exact OK
    ·have:=h w.heap.size
     rw [hlen]at this
     exact this
   ·exact h.elim
  ·exact h.elim
theorem Bz {o:Oper} {K:dz U} {Y:Bool}(OT:∀f c,tbl.c f=some c→LV U P f c∧bW P f=true)(hI:Inv w0 k0 X0 may st.rs X w)(hk:aE st.rs fr st.kn)(h:op2 U P tbl may k0 o (ev fr) st K):
 opW P Y (DZ fr w0 k0 X0 may st X w K) o (ev fr) w fun v w'=>∃k st' X' M,K v k st'∧KnO st'.rs v k∧cZ w0 k0 X0 may fr st X w st' X' w' M:=by
 unfold op2 at h
 split at h
 ·exact Fy OT hI hk h
 ·obtain⟨v,k,h1,h2,h3⟩:=tv hI.sat hk h
  have hr:=h3 w (Kept.refl _ _)
  refine⟨?_,?_⟩
  ·obtain⟨dst,op,ty,pos,after,gd⟩:=o
   cases op<;>first | rfl | skip
   exact absurd (show oD P _ _ _ from h) (fun hh=>hh.elim)
  ·rw [hr]
   exact⟨k,st,X,[],h1,h2,hI,hk,rfl,fun i hi=>(by cases hi),fun i hi=>(by cases hi),Nat.le_refl _,fun _ _ _=>⟨rfl,rfl⟩,fun i hi=>(by cases hi),fun i h1 h2=>by omega,Ch.refl _ _,fun i a ha=>⟨a,ha,cK.refl a⟩⟩
structure Steps(w0:World)(k0:Nat)(X0:Nat→Nat→Prop)(may:List Nat)(st:St U)(X:Nat→Nat→Prop)(st':St U)(X':Nat→Nat→Prop)(w':World):Prop where
 inv:Inv w0 k0 X0 may st'.rs X' w'
 len:st.rs.length≤st'.rs.length
 md:∃L,st'.md=L++st.md∧(∀i,i∈L→i∈may∨k0≤i)∧∀i,i<st.rs.length→i ∉ L→nth st'.rs i=nth st.rs i∧X' i=X i
 root:∀i a,nth st.rs i=some a→∃b,nth st'.rs i=some b∧cK a b
theorem Steps.refl(h:Inv w0 k0 X0 may st.rs X w):Steps w0 k0 X0 may st X st X w:=⟨h,Nat.le_refl _,⟨[],rfl,fun i hi=>(by cases hi),fun _ _ _=>⟨rfl,rfl⟩⟩,fun i a ha=>⟨a,ha,cK.refl a⟩⟩
theorem Steps.trans {TS OV:St U} {X1 X2:Nat→Nat→Prop} {w1 w2:World}(h:Steps w0 k0 X0 may st X TS X1 w1)(k:Steps w0 k0 X0 may TS X1 OV X2 w2):Steps w0 k0 X0 may st X OV X2 w2:=by
 obtain⟨L,hL,cL,hl⟩:=h.md
 obtain⟨M,hM,cM,hm⟩:=k.md
 exact⟨k.inv,Nat.le_trans h.len k.len,⟨M++L,by rw [hM,hL,List.append_assoc],fun i hi=>(List.mem_append.1 hi).elim (cM i) (cL i),fun i hi hn=>by
  rw [List.mem_append,not_or]at hn
  obtain⟨e1,e2⟩:=hm i (Nat.lt_of_lt_of_le hi h.len) hn.1
  obtain⟨e3,e4⟩:=hl i hi hn.2
  exact⟨e1.trans e3,e2.trans e4⟩⟩,fun i a ha=>by
  obtain⟨b,hb,hr⟩:=h.root i a ha
  obtain⟨c,hc,W3⟩:=k.root i b hb
  exact⟨c,hc,hr.trans W3⟩⟩
theorem cZ.steps {st':St U} {X':Nat→Nat→Prop} {w':World} {M:List Nat}(h:cZ w0 k0 X0 may fr st X w st' X' w' M):Steps w0 k0 X0 may st X st' X' w':=⟨h.inv,h.len,⟨M,h.md,h.can,fun i hi hm=>h.same i hi hm⟩,h.root⟩
theorem Steps.kn {st' OV:St U} {X':Nat→Nat→Prop} {w':World}(h:Steps w0 k0 X0 may st X st' X' w')(h1:OV.rs=st'.rs)(h2:OV.md=st'.md):Steps w0 k0 X0 may st X OV X' w':=by
 obtain⟨a,b,c,d⟩:=h
 exact⟨by rw [h1];exact a,by rw [h1];exact b,by rw [h1,h2];exact c,by rw [h1];exact d⟩
variable {n:Nat} {N:List Nat} {ops:Array Oper}
theorem gD {dst:Option Tmp} {v:Value} {F G:Fr→Prop}(h:iF n N fr dst v F)(hF:∀fr',F fr'→G fr'):iF n N fr dst v G:=by
 unfold iF at h ⊢
 cases dst with
 | none=>exact hF _ h
 | some d=>
  simp only at h ⊢
  split at h
  ·split at h
   ·cases v with
    | int k x=>exact fun z hz=>hF _ (h z hz)
    | bool x=>exact fun z hz=>hF _ (h z hz)
    | _=>exact hF _ h
   ·exact hF _ h
  ·exact h.elim
def Aft(w0:World)(k0:Nat)(X0:Nat→Nat→Prop)(may:List Nat)(st:St U)(X:Nat→Nat→Prop)(ds:List Deferred)(K:Fr→St U→Prop)(fr':Fr)(w':World):Prop:=
 ∃st' X',Steps w0 k0 X0 may st X st' X' w'∧aE st'.rs fr' st'.kn∧fr'.ds=ds∧K fr' st'
def ED(M:Fr→Oper→World→aC→Prop)(n:Nat)(N:List Nat)(ops:Array Oper)(K:Fr→World→Prop):List Oper→Fr→World→Prop
 | [],fr,w=>K fr w
 | o::rest,fr,w=>fW ops o fr
  (fun fr=>M fr o w (fun v w'=>iF n N fr o.dst v fun fr'=>ED M n N ops K rest fr' w'))
  (fun fr=>iF n N fr o.dst undef fun fr'=>ED M n N ops K rest fr' w)
def lK(n:Nat)(ws:List Nat)(a0:Act)(Q:QF):Exit→Act→World→Prop
 | .outgrown,_,_=>False
 | x,a,w=>∃fr,Rep n fr a∧Q x fr w∧Agr ws a0 a
theorem lP {Qp:Fr→List PanicEntry→World→Prop} {K:Fr→World→Prop} {ws:List Nat} {a0:Act} {r:Option Nat}:
 ∀(l:List Oper),(∀o∈l,∀d,o.dst=some d→d∈ws)→∀(fr:Fr)(a:Act)(w:World),Rep n fr a→Agr ws a0 a→ED (fun fr o w K=>opW P true (some (Qp fr)) o (ev fr) w K) n N ops K l fr w→
  wpListIn (WF r) 0 P ops (lK n ws a0 fun x fr w=>match x with | .normal=>K fr w | .panic ch=>Qp fr ch w | _=>False) l a w
 | [],_,fr,a,w,hr,ha,h=>⟨fr,hr,h,ha⟩
 | o::rest,hd,fr,a,w,hr,ha,h=>by
  obtain⟨fr',Nr,hh⟩:=jE hr h
  simp only [wpListIn]
  rcases hh with⟨hw,hh⟩ | ⟨hw,hh⟩
  ·rw [if_pos hw]
   refine Bv (K:=fun fr' w'=>ED (fun fr o w K=>opW P true (some (Qp fr)) o (ev fr) w K) n N ops K rest fr' w') Nr ha (hd o (List.mem_cons_self ..)) hh ?_ ?_
   ·intro Oz a2 w2 h2 h3 h4
    exact lP rest (fun o' Sk=>hd o' (List.mem_cons_of_mem _ Sk)) Oz a2 w2 h2 h3 h4
   ·intro ch w' hq
    exact⟨fr',Nr,hq,ha⟩
  ·rw [if_neg (by rw [hw];simp)]
   obtain⟨Oz,h2,h3⟩:=fE Nr hh
   exact⟨jI,lP rest (fun o' Sk=>hd o' (List.mem_cons_of_mem _ Sk)) Oz _ w h2 (ha.trans (Agr.put a o.dst undef (hd o (List.mem_cons_self ..)))) h3⟩
theorem Ff {k:Option Kn} {A B:Prop} {rs:List (Res U)} {v:Value}(h:zA k A B)(hk:KnO rs v k):B:=by
 unfold zA at h
 split at h
 ·exact hk.elim
 ·exact h
theorem pS {K:Fr→St U→Prop} {Kp:List PanicEntry→Fr→St U→Prop}(OT:∀f c,tbl.c f=some c→LV U P f c∧bW P f=true):∀(l:List Oper)(fr:Fr)(st0 st:St U)(Xs X:Nat→Nat→Prop)(w:World)(ds:List Deferred),Steps w0 k0 X0 may st0 Xs st X w→aE st.rs fr st.kn→fr.ds=ds→Cl U P tbl may k0 n N ops K Kp l fr st→
 ED (fun fr o w K=>opW P true (some fun ch w'=>Aft w0 k0 X0 may st0 Xs ds (Kp ch) fr w') o (ev fr) w K) n N ops (Aft w0 k0 X0 may st0 Xs ds K) l fr w
 | [],fr,st0,st,Xs,X,w,ds,hS,hk,hd,h=>⟨st,X,hS,hk,hd,h⟩
 | o::rest,fr,st0,st,Xs,X,w,ds,hS,hk,hd,h=>by
  refine kh h (fun fr' hl PG h=>?_) (fun fr' hl PG h=>?_)
  ·have QN:=hk.same hl
   refine qp (Bx (Bz OT hS.inv QN h) ?_) fun v w' hp=>?_
   ·rintro ch w' ⟨v,st',X',M,rfl,h1,h3⟩
    exact⟨st',X',hS.trans h3.steps,h3.kn,by rw [PG,hd],h1⟩
   ·obtain⟨k,st',X',M,h1,h2,h3⟩:=hp
    refine gD (iR (Ff h1 h2) h3.kn h2) fun Oz hp=>?_
    obtain⟨OV,e1,e2,h4,h5,h6⟩:=hp
    exact pS OT rest Oz st0 OV Xs X' w' ds ((hS.trans h3.steps).kn e1 e2) (by rw [e1];exact h4) (by rw [h5,PG,hd]) h6
  ·have QN:=hk.same hl
   refine gD (iR h QN trivial) fun Oz hp=>?_
   obtain⟨OV,e1,e2,h4,h5,h6⟩:=hp
   exact pS OT rest Oz st0 OV Xs X w ds (hS.kn e1 e2) (by rw [e1];exact h4) (by rw [h5,PG,hd]) h6
theorem Inv.drew(h:Inv w0 k0 X0 may st.rs X w):Inv w0 k0 X0 may st.rs X w.drew:=h.pu (Pu.aY w)
structure BOk(V:List Nat)(rd:List (Nat×List Nat))(b:Nat→Nat→Prop)(rs:List (Res U))(X:Nat→Nat→Prop)(w:World):Prop where
 has:∀i id k,id∈oB i rd→id<rs.length→X id k→b i k
 all:∀i k,i∈V→b i k
 only:∀i k,i ∉ V→b i k→k<w.heap.size∧∀j,j<rs.length→X j k→j∈oB i rd
end
end
end Go.Proofs.YtfmcaoaaiganbaaGreatDoor.V
namespace Go.Proofs.YtfmcaoaaiganbaaGreatDoor.V
open Go Go.RowKit
open Go.IntKind (i64 u32 u64)
section
section
variable {U:Uni} {P:Program} {tbl:Tb U} {may:List Nat} {k0:Nat}
variable {w0:World} {X0 X:Nat→Nat→Prop} {w:World} {fr:Fr} {st:St U} {n:Nat} {N:List Nat} {ops:Array Oper}
def MSw(P:Program):Lj:=fun B o ρ w F=>∃v,F v∧∀w',Kept (held B w) w w'→(execOp ρ o).run P w'= .ok (.value v) w'
theorem tO {F G:Nat→Prop}:∀ {l:List Nat},z2 F l→(∀i,F i→G i)→z2 G l
 | [],_,_=>trivial
 | [_],h,hg=>hg _ h
 | _::j::r,h,hg=>⟨hg _ h.1,tO (l:=j::r) h.2 hg⟩
theorem xP {b:Nat→Nat→Prop}:∀ {l:List Nat} {k:Nat},du b l k→∃i,i∈l∧b i k
 | [i],k,h=>⟨i,by simp,h⟩
 | i::j::r,k,h=>by
  rcases h with h | h
  ·exact⟨i,by simp,h⟩
  ·obtain⟨i',h1,h2⟩:=xP (l:=j::r) h
   exact⟨i',List.mem_cons_of_mem _ h1,h2⟩
theorem EK {α:Type}(M L:List α):ig ((M++L).length - L.length) (M++L)=M:=by
 rw [dm,List.length_append,Nat.add_sub_cancel,List.take_left]
theorem K2 {rs:List (Res U)} {p:PK} {v:Value}(h:den U rs p=some v):p.id<rs.length:=by
 unfold den at h
 cases hn:nth rs p.id with
 | none=>rw [hn]at h;cases p<;>simp [bK]at h
 | some r=>exact aR hn
theorem BOk.step {V:List Nat} {rd:List (Nat×List Nat)} {b:Nat→Nat→Prop}(hb:BOk V rd b st.rs X w) {st':St U} {X':Nat→Nat→Prop} {w':World} {M:List Nat}(hs:cZ w0 k0 X0 may fr st X w st' X' w' M):
 BOk V rd (fun i k=>b i k∨∃id,id∈oB i rd∧id<st'.rs.length∧X' id k) st'.rs X' w':=by
 refine⟨fun i id k h1 h2 h3=>.inr ⟨id,h1,h2,h3⟩,fun i k h=>.inl (hb.all i k h),fun i k hi hk=>?_⟩
 rcases hk with hk | ⟨id,h1,h2,h3⟩
 ·obtain⟨h4,h5⟩:=hb.only i k hi hk
  refine⟨Nat.lt_of_lt_of_le h4 hs.ch.size,fun j hj hx=>?_⟩
  by_cases Wx:j<st.rs.length
  ·by_cases hm:j∈M
   ·rcases hs.grow j hm k hx with h6 | h6
    ·exact h5 j Wx h6
    ·omega
   ·rw [(hs.same j Wx hm).2]at hx
    exact h5 j Wx hx
  ·have:=hs.new j (Nat.le_of_not_lt Wx) hj k hx
   omega
 ·refine⟨hs.inv.sat.lt h2 k h3,fun j hj hx=>?_⟩
  by_cases Oq:id=j
  ·rw [← Oq];exact h1
  ·exact absurd hx (hs.inv.sat.dis id j h2 hj Oq k h3)
theorem zX {V:List Nat} {rd:List (Nat×List Nat)} {M beh:List Nat}(h:zY V rd M beh=true):∀i,i∈beh→i ∉ V∧∀j,j∈M→j ∉ oB i rd:=by
 intro i hi
 have:=cr.1 h i hi
 simp only [Bool.and_eq_true,Bool.not_eq_true']at this
 refine⟨fun hv=>?_,fun j hj hr=>?_⟩
 ·rw [ew.2 hv]at this;cases this.1
 ·have h2:=cr.1 this.2 j hj
  rw [ew.2 hr]at h2;cases h2
theorem BOk.kept {V:List Nat} {rd:List (Nat×List Nat)} {b:Nat→Nat→Prop}(hb:BOk V rd b st.rs X w) {st':St U} {X':Nat→Nat→Prop} {w':World} {M:List Nat}(hs:cZ w0 k0 X0 may fr st X w st' X' w' M) {beh:List Nat}(h:zY V rd M beh=true):Kept (du b beh) w w':=by
 refine hs.ch.kept.mono fun k hk=>?_
 obtain⟨i,hi,hbi⟩:=xP hk
 obtain⟨h1,h2⟩:=zX h i hi
 obtain⟨h3,h4⟩:=hb.only i k h1 hbi
 exact⟨h3,fun⟨j,hj,hx⟩=>h2 j hj (h4 j (hs.mlt j hj) hx)⟩
theorem H2 {o:Oper} {kn:List (Key×Kn)} {x:Nat}(h:rdX o kn X x):∃t a p,o.op= .load t a∧kf kn a=some (.p p)∧X p.id x:=by
 unfold rdX at h
 cases hop:o.op<;>simp only [hop]at h
 rename_i t a
 cases hk:V.kf kn a with
 | none=>simp only [hk]at h
 | some k=>cases k<;>simp only [hk]at h;exact⟨t,a,_,rfl,hk,h⟩
theorem EF {all:Bool} {V:List Nat} {rd:List (Nat×List Nat)} {K:Fr→St U→Prop}(OT:∀f c,tbl.c f=some c→LV U P f c∧bW P f=true):
 ∀(fuel:Nat)(listed:Array Bool)(fr:Fr)(st0 st:St U)(Xs X:Nat→Nat→Prop)(w:World)(ds:List Deferred)(b:Nat→Nat→Prop),(all=false→BOk V rd b st.rs X w)→(all=true→∀i k,b i k)→Steps w0 k0 X0 may st0 Xs st X w→aE st.rs fr st.kn→fr.ds=ds→
  rU U P tbl may k0 n N ops all V rd K fuel listed fr st→
  oW P (fun o ρ w K=>opW P false none o ρ w K) (MSw P) n N ops (Aft w0 k0 X0 may st0 Xs ds K) fuel (some b) listed fr w:=by
 intro fuel
 induction fuel with
 | zero=>
  intro listed fr st0 st Xs X w ds b hb Oh hS hk hd h
  simp only [rU]at h
  simp only [oW]
  split at h
  ·rename_i Q3
   try simp only [Q3]
   exact⟨st,X,hS,hk,hd,h⟩
  ·exact h.elim
 | succ fuel ih=>
  intro listed fr st0 st Xs X w ds b hb Oh hS hk hd h
  simp only [rU]at h
  simp only [oW]
  split at h
  ·rename_i Q3
   try simp only [Q3]
   exact⟨st,X,hS,hk,hd,h⟩
  ·rename_i i0 r0 Q3
   try simp only [Q3]
   split at h
   ·rename_i i hfa
    try simp only [hfa]
    split at h
    ·rename_i o ho
     try simp only [ho]
     refine kh h (fun fr' hl PG hq=>?_) (fun fr' hl PG h=>?_)
     ·have QN:=hk.same hl
      clear h
      have h:=hq
      clear hq
      cases NK:FH o with
      | true=>simp only [NK]at h
      | false=>
      cases Ux:KA all V rd i o st.kn with
      | false=>simp only [NK,Ux]at h
      | true=>
       simp only [NK,Ux]at h
       obtain⟨v,k,h1,h2,h3⟩:=tv hS.inv.sat QN h
       refine⟨v,?_,fun w' hw=>h3 w' (hw.mono fun x hx=>?_)⟩
       ·refine gD (iR h1 QN h2) fun Oz hp=>?_
        obtain⟨OV,e1,e2,h4,h5,h6⟩:=hp
        exact ih _ Oz st0 OV Xs X w ds b (by rw [e1];exact hb) Oh (hS.kn e1 e2) (by rw [e1];exact h4) (by rw [h5,PG,hd]) h6
       ·show b i x
        obtain⟨t,a,p,hop,hp,hx⟩:=H2 hx
        unfold KA at Ux
        simp only [hop,hp]at Ux
        by_cases ha:all=true
        ·exact Oh ha i x
        have hb:=hb (by simpa using ha)
        split at Ux
        ·rename_i hv
         rcases Bool.or_eq_true_iff.1 hv with hv | hv
         ·exact absurd hv ha
         ·exact hb.all i x (ew.1 hv)
        ·have hpk:=QN.kf a
         rw [hp]at hpk
         exact hb.has i p.id x (ew.1 Ux) (K2 (show den U st.rs p=some _ from hpk)) hx
     ·refine gD (iR h (hk.same hl) trivial) fun Oz hp=>?_
      obtain⟨OV,e1,e2,h4,h5,h6⟩:=hp
      exact ih _ Oz st0 OV Xs X w ds b (by rw [e1];exact hb) Oh (hS.kn e1 e2) (by rw [e1];exact h4) (by rw [h5,PG,hd]) h6
    ·exact h.elim
   ·split at h
    ·exact h.elim
    ·rename_i Xd _
     try simp only [Xd]
     refine tO h fun i h=>?_
     split at h
     ·rename_i o ho
      try simp only [ho]
      refine kh h (fun fr' hl PG h=>?_) (fun fr' hl PG h=>?_)
      ·have QN:=hk.same hl
       refine qp (Fp (Bz OT hS.inv QN h) fun ch w' ⟨_,_,_,_,_,h,_⟩=>h.elim) fun v w' hp=>?_
       obtain⟨k,st',X',M,h1,h2,h3⟩:=hp
       have h1:=Bt h1
       split at h1
       ·rename_i hap
        rw [h3.md,EK]at hap
        refine gD (iR h1 h3.kn h2) fun Oz hp=>?_
        obtain⟨OV,e1,e2,h4,h5,h6⟩:=hp
        have hb:=hb rfl
        have SJ:=hb.step h3
        have VI:=ih (listed.setIfInBounds i true) Oz st0 OV Xs X' w' ds _ (fun _=>by rw [e1];exact SJ) (fun ha=>by cases ha) ((hS.trans h3.steps).kn e1 e2) (by rw [e1];exact h4) (by rw [h5,PG,hd]) h6
        unfold BB
        simp only
        split
        ·exact⟨_,fun i k hik=>.inl hik,VI⟩
        ·exact⟨hb.kept h3 hap,_,fun i k hik=>.inl hik,VI⟩
       ·exact h1.elim
      ·refine gD (iR h (hk.same hl) trivial) fun Oz hp=>?_
       obtain⟨OV,e1,e2,h4,h5,h6⟩:=hp
       exact ih _ Oz st0 OV Xs X w ds b (by rw [e1];exact hb) Oh (hS.kn e1 e2) (by rw [e1];exact h4) (by rw [h5,PG,hd]) h6
     ·exact h.elim
variable (U P tbl may k0 w0 X0 n)in
def rj(c:Code)(V:QF2 U→Fr→St U→Prop):Prop:=
 ∀(Q:QF2 U)(fr:Fr)(st:St U)(X:Nat→Nat→Prop)(a:Act)(w:World),Rep n fr a→Inv w0 k0 X0 may st.rs X w→aE st.rs fr st.kn→V Q fr st→
  c.wpIn (WF none) 0 P (lK n (writes c) a fun x fr' w'=>Aft w0 k0 X0 may st X fr.ds (fun fr' st'=>Q x fr' st') fr' w') a w
theorem Real.two {ws:List Nat} {a0:Act} {Q:QF} {e:Exit} {a':Act} {w':World}(h:Real n ws a0 none Q e a' w'):lK n ws a0 Q e a' w':=by
 cases e<;>first | exact h | exact h.1.elim
theorem lK.mono {ws ws':List Nat} {a0:Act} {Q Q':QF} {e:Exit} {a':Act} {w':World}(h:lK n ws a0 Q e a' w')(hw:∀i,i∈ws→i∈ws')(hQ:∀x fr w,Q x fr w→Q' x fr w):lK n ws' a0 Q' e a' w':=by
 cases e<;>first | exact h | (obtain⟨fr,h1,h2,h3⟩:=h;exact⟨fr,h1,hQ _ _ _ h2,h3.mono hw⟩)
theorem Aft.mono {ds:List Deferred} {K K':Fr→St U→Prop} {fr':Fr} {w':World}(h:Aft w0 k0 X0 may st X ds K fr' w')(hK:∀fr st,K fr st→K' fr st):Aft w0 k0 X0 may st X ds K' fr' w':=by
 obtain⟨st',X',h1,h2,h3,h4⟩:=h
 exact⟨st',X',h1,h2,h3,hK _ _ h4⟩
theorem Aft.pre {TS:St U} {X1:Nat→Nat→Prop} {w1:World} {ds:List Deferred} {K:Fr→St U→Prop} {fr':Fr} {w':World}(hs:Steps w0 k0 X0 may st X TS X1 w1)(h:Aft w0 k0 X0 may TS X1 ds K fr' w'):Aft w0 k0 X0 may st X ds K fr' w':=by
 obtain⟨st',X',h1,h2,h3,h4⟩:=h
 exact⟨st',X',hs.trans h1,h2,h3,h4⟩
theorem rX {id:Nat} {Q:QF2 U} {a:Act}(OT:∀f c,tbl.c f=some c→LV U P f c∧bW P f=true)(hr:Rep n fr a)(hI:Inv w0 k0 X0 may st.rs X w)(hk:aE st.rs fr st.kn)(h:Cl U P tbl may k0 n N ops (Q .normal) (fun ch=>Q (.panic ch)) ops.toList fr st):
 (Code.region id ops false).wpIn (WF none) 0 P (lK n (writes (.region id ops false)) a fun x fr' w'=>Aft w0 k0 X0 may st X fr.ds (fun fr' st'=>Q x fr' st') fr' w') a w:=by
 have hv:=pS (n:=n) (N:=N) (ops:=ops) OT ops.toList fr st st X X w fr.ds (Steps.refl hI) hk rfl h
 exact wpIn_mono (wpIn_region_list (lP (ws:=writes (.region id ops false)) (a0:=a) ops.toList (fun o ho d hd=>List.mem_filterMap.2 ⟨o,ho,hd⟩) fr a w hr (Agr.refl _ _) hv)) fun e a' w' he=>by
  cases e<;>first | exact he | (obtain⟨_,_,h,_⟩:=he;exact h.elim)
theorem uD {id:Nat} {Q:QF2 U} {a:Act} {V:List Nat} {rd:List (Nat×List Nat)}(OT:∀f c,tbl.c f=some c→LV U P f c∧bW P f=true)(hm:P.follows .mixedOrders=true)(hs:Region.noSelect ops=true)(P6:dP ops.toList=true)(hr:Rep n fr a)(hI:Inv w0 k0 X0 may st.rs X w)(hk:aE st.rs fr st.kn) {all:Bool}
 (h:rU U P tbl may k0 n N ops all V rd (Q .normal) ops.size (Array.replicate ops.size false) fr st):
 (Code.region id ops true).wpIn (WF none) 0 P (lK n (writes (.region id ops true)) a fun x fr' w'=>Aft w0 k0 X0 may st X fr.ds (fun fr' st'=>Q x fr' st') fr' w') a w:=by
 have hI':=Inv.drew hI
 have hS:Steps w0 k0 X0 may st X st X w.drew:=Steps.refl hI'
 have hv:=EF (n:=n) (N:=N) (ops:=ops) OT ops.size (Array.replicate ops.size false) fr st st X X w.drew fr.ds (fun i k=>i∈V∨all=true∨∃id,id∈oB i rd∧id<st.rs.length∧X id k) (fun ha=>⟨fun i id k h1 h2 h3=>.inr (.inr ⟨id,h1,h2,h3⟩),fun i k h=>.inl h,fun i k hi hk=>by
  rcases hk with hk | hk | ⟨id,h1,h2,h3⟩
  ·exact absurd hk hi
  ·rw [ha]at hk;cases hk
  ·refine⟨hI'.sat.lt h2 k h3,fun j hj hx=>?_⟩
   by_cases Oq:id=j
   ·rw [← Oq];exact h1
   ·exact absurd hx (hI'.sat.dis id j h2 hj Oq k h3)⟩) (fun ha i k=>.inr (.inl ha)) hS hk rfl h
 exact wpIn_mono (iL hm mH (fun o ho=>gN P6 o (Array.mem_toList_iff.2 ho)) (pT (ws:=writes (.region id ops true)) (a0:=a) (Qp:=none) (M:=fun o ρ w K=>opW P false none o ρ w K) (MS:=MSw P) (fun _ _ _ _ h=>h) (fun _ _ _ _ _ h=>h) hs (fun i o ho d hd=>qv ho hd) ops.size _ (fun _ _ _=>True) _ fr a w.drew (gh.none _ _) (lL.none _ _) hr (Agr.refl _ _) hv)) fun e a' w' he=>Real.two (j8 he)
end
end
section
section
variable {U:Uni} {P:Program} {tbl:Tb U} {may:List Nat} {k0:Nat}
variable {w0:World} {X0 X:Nat→Nat→Prop} {w:World} {fr:Fr} {st:St U} {n:Nat} {N:List Nat} {ops:Array Oper}
theorem vM {T:Type}:∀ {l:List (Nat×Sh2)} {J:SlT l T} {fr:Fr} {F:T→Prop},Kb l J fr F→∃J' vs,F J'∧(∀G:T→List (Nat×Value)→Prop,alS l J G→G J' vs)∧∀s v,(s,v)∈vs→lk fr.g s fr.e=v
 | [],J,fr,F,h=>⟨J,[],h,fun G hG=>hG,fun s v hv=>by cases hv⟩
 | (s,sh)::r,J,fr,F,h=>by
  obtain⟨J1,h1,g1⟩:=tK h
  obtain⟨J2,vs,h2,g2,e2⟩:=vM h1
  refine⟨J2,(s,lk fr.g s fr.e)::vs,h2,fun G hG=>g2 (fun J'' vs=>G J'' ((s,lk fr.g s fr.e)::vs)) (g1 (fun J' v=>alS r J' fun J'' vs=>G J'' ((s,v)::vs)) hG),fun s' v hv=>?_⟩
  rcases List.mem_cons.1 hv with e | hv
  ·injection e with e1 e2;rw [e1,e2]
  ·exact e2 s' v hv
def cV(kn:List (Key×Kn))(id:Nat):Nat→List AV→List Value→Prop
 | _,[],[]=>True
 | i,.v x::r,v::vs=>x=v∧cV kn id (i+1) r vs
 | i,.k p::r,_::vs=>cA (.c id i) kn=some (.p p)∧cV kn id (i+1) r vs
 | _,_,_=>False
theorem pV {T:Type} {id:Nat} {kn:List (Key×Kn)}:∀ {l:List CS} {J:CST l T} {i:Nat} {vs:List Value} {F:T→Prop},zh id kn l J i vs F→∃J' az,F J'∧(∀G:T→List AV→Prop,Gq l J G→G J' az)∧cV kn id i az vs∧∀n,iq n l=true→∀p,AV.k p∈az→p.id<n
 | [],J,i,[],F,h=>⟨J,[],h,fun G hG=>hG,trivial,fun _ _ p hp=>by cases hp⟩
 | [],_,_,_::_,_,h=>h.elim
 | .v _::_,_,_,[],_,h=>h.elim
 | .k _::_,_,_,[],_,h=>h.elim
 | .v s::r,J,i,v::vs,F,h=>by
  obtain⟨J1,h1,g1⟩:=nf h
  obtain⟨J2,az,h2,g2,d2,b2⟩:=pV h1
  refine⟨J2,.v v::az,h2,fun G hG=>g2 (fun J'' vs=>G J'' (.v v::vs)) (g1 (fun J' v=>Gq r J' fun J'' l=>G J'' (.v v::l)) hG),⟨rfl,d2⟩,fun n hn p hp=>?_⟩
  rcases List.mem_cons.1 hp with e | hp
  ·cases e
  ·exact b2 n hn p hp
 | .k p::r,J,i,v::vs,F,h=>by
  simp only [zh]at h
  split at h
  ·rename_i q hq
   split at h
   ·rename_i he
    obtain⟨J2,az,h2,g2,d2,b2⟩:=pV h
    refine⟨J2,.k p::az,h2,fun G hG=>g2 (fun J'' vs=>G J'' (.k p::vs)) hG,⟨by rw [hq,(Kn.l0 he).1],d2⟩,fun n hn p' hp=>?_⟩
    simp only [iq]at hn
    split at hn
    ·rename_i NO
     rcases List.mem_cons.1 hp with e | hp
     ·injection e with e;subst e;simpa [Nat.blt_eq]using NO
     ·exact b2 n hn p' hp
    ·cases hn
   ·exact h.elim
  ·exact h.elim
def UpD(rs:List (Res U))(kn:List (Key×Kn))(id:Nat):UP U→Prop
 | .ob t s=>∃r,nth rs id=some (.ob t r s)
 | .blk az=>∃g cs T,nth rs id=some (.blk g cs T)∧cV kn id 0 az cs
 | .lst t A c l=>∃own T,nth rs id=some (.lst t own T A c l)
theorem mr {T:Type} {rs:List (Res U)} {kn:List (Key×Kn)}:∀ {l:List (Nat×RSh)} {J:yr U l T} {F:T→Prop},oX rs kn l J F→∃J' us,F J'∧(∀G:T→List (Nat×UP U)→Prop,Dr l J G→G J' us)∧us.map (·.1)=l.map (·.1)∧(∀id u,(id,u)∈us→UpD rs kn id u)∧
 ∀n,dN n l=true→∀id u,(id,u)∈us→id<n∧∀az,u= .blk az→∀p,AV.k p∈az→p.id<n
 | [],J,F,h=>⟨J,[],h,fun G hG=>hG,rfl,fun id u hu=>(by cases hu),fun _ _ id u hu=>by cases hu⟩
 | (id,.ob t)::r,J,F,h=>by
  simp only [oX]at h
  split at h
  ·rename_i t' r' s hn
   split at h
   ·rename_i ht
    subst ht
    obtain⟨J2,us,h2,g2,m2,d2,b2⟩:=mr h
    refine⟨J2,(id,.ob t' s)::us,h2,fun G hG=>g2 (fun J'' vs=>G J'' ((id,.ob t' s)::vs)) (hG s),by simp [m2],fun i u hu=>?_,fun n hb i u hu=>?_⟩
    ·rcases List.mem_cons.1 hu with e | hu
     ·injection e with e1 e2;subst e1;subst e2;exact⟨r',hn⟩
     ·exact d2 i u hu
    ·simp only [dN]at hb
     split at hb
     ·rename_i NO
      rcases List.mem_cons.1 hu with e | hu
      ·injection e with e1 e2;subst e1;subst e2;exact⟨by simpa [Nat.blt_eq]using NO,fun az e=>by cases e⟩
      ·exact b2 n hb i u hu
     ·cases hb
   ·exact h.elim
  ·exact h.elim
 | (id,.blk l)::r,J,F,h=>by
  simp only [oX]at h
  split at h
  ·rename_i g cs T' hn
   obtain⟨J1,az,h1,g1,d1,b1⟩:=pV h
   obtain⟨J2,us,h2,g2,m2,d2,b2⟩:=mr h1
   refine⟨J2,(id,.blk az)::us,h2,fun G hG=>g2 (fun J'' vs=>G J'' ((id,.blk az)::vs)) (g1 (fun J' cs=>Dr r J' fun J'' us=>G J'' ((id,.blk cs)::us)) hG),by simp [m2],fun i u hu=>?_,fun n hb i u hu=>?_⟩
   ·rcases List.mem_cons.1 hu with e | hu
    ·injection e with e1 e2;subst e1;subst e2;exact⟨g,cs,T',hn,d1⟩
    ·exact d2 i u hu
   ·simp only [dN]at hb
    split at hb
    ·rename_i NO
     simp only [Bool.and_eq_true]at NO
     rcases List.mem_cons.1 hu with e | hu
     ·injection e with e1 e2;subst e1;subst e2
      exact⟨by simpa [Nat.blt_eq]using NO.1,fun as' e p hp=>by injection e with e;subst e;exact b1 n NO.2 p hp⟩
     ·exact b2 n hb i u hu
    ·cases hb
  ·exact h.elim
 | (id,.lst t)::r,J,F,h=>by
  simp only [oX]at h
  split at h
  ·rename_i t' own T' A c l hn
   split at h
   ·rename_i ht
    subst ht
    obtain⟨J2,us,h2,g2,m2,d2,b2⟩:=mr h
    refine⟨J2,(id,.lst t' A c l)::us,h2,fun G hG=>g2 (fun J'' vs=>G J'' ((id,.lst t' A c l)::vs)) (hG A c l),by simp [m2],fun i u hu=>?_,fun n hb i u hu=>?_⟩
    ·rcases List.mem_cons.1 hu with e | hu
     ·injection e with e1 e2;subst e1;subst e2;exact⟨own,T',hn⟩
     ·exact d2 i u hu
    ·simp only [dN]at hb
     split at hb
     ·rename_i NO
      rcases List.mem_cons.1 hu with e | hu
      ·injection e with e1 e2;subst e1;subst e2;exact⟨by simpa [Nat.blt_eq]using NO,fun az e=>by cases e⟩
      ·exact b2 n hb i u hu
     ·cases hb
   ·exact h.elim
  ·exact h.elim
theorem uP {f:Nat→Res U→Option (Res U)}:∀ {i:Nat} {l l':List (Res U)},lay f i l=some l'→l'.length=l.length∧∀j r,nth l j=some r→∃r',f (i+j) r=some r'∧nth l' j=some r'
 | i,[],l',h=>by
  simp only [lay,Option.some.injEq]at h
  subst h
  exact⟨rfl,fun j r hr=>by simp [nth]at hr⟩
 | i,r::l,l',h=>by
  simp only [lay]at h
  split at h
  ·rename_i r' l2 h1 h2
   injection h with h
   subst h
   obtain⟨e1,e2⟩:=uP h2
   refine⟨by simp [e1],fun j x hx=>?_⟩
   cases j with
   | zero=>simp [nth]at hx;subst hx;exact⟨r',h1,rfl⟩
   | succ j=>
    obtain⟨y,h3,h4⟩:=e2 j x hx
    exact⟨y,by rw [show i+(j+1)=i+1+j by omega];exact h3,h4⟩
  ·cases h
theorem iM {i:Nat} {u:UP U}:∀ {us:List (Nat×UP U)},jO i us=some u→(i,u)∈us
 | [],h=>by cases h
 | (j,x)::r,h=>by
  unfold jO at h
  split at h
  ·rename_i he
   injection h with h
   rw [← h,Nat.eq_of_beq_eq_true he]
   exact List.mem_cons_self ..
  ·exact List.mem_cons_of_mem _ (iM h)
theorem pW {i:Nat}:∀ {us:List (Nat×UP U)},jO i us=none→i ∉ us.map (·.1)
 | [],_=>by simp
 | (j,x)::r,h=>by
  unfold jO at h
  split at h
  ·cases h
  ·rename_i he
   rw [List.map_cons,List.mem_cons,not_or]
   exact⟨by rintro rfl;simp at he,pW h⟩
theorem nZ {kn:List (Key×Kn)} {s:Nat} {k:Kn}:∀ {l:List (Nat×Kn)},BG kn l=true→(s,k)∈l→∃p,k= .p p∧cA (.s s) kn=some (.p p)
 | [],_,h=>by cases h
 | (a,q)::r,h,hm=>by
  simp only [BG]at h
  split at h
  ·rename_i x hx
   split at h
   ·rename_i he
    rcases List.mem_cons.1 hm with e | hm
    ·injection e with e1 e2
     subst e1;subst e2
     obtain⟨e3,p,e4⟩:=Kn.l0 he
     exact⟨p,by rw [← e3,e4],by rw [hx,e4]⟩
    ·exact nZ h hm
   ·cases h
  ·cases h
theorem jB {m:Nat} {s:Nat} {p:PK}:∀ {l:List (Nat×Kn)},mU m l=true→(s,Kn.p p)∈l→p.id<m
 | [],_,h=>by cases h
 | (a,.p q)::r,h,hm=>by
  simp only [mU]at h
  split at h
  ·rename_i NO
   rcases List.mem_cons.1 hm with e | hm
   ·injection e with e1 e2;injection e2 with e2;subst e2;simpa [Nat.blt_eq]using NO
   ·exact jB h hm
  ·cases h
 | (a,.t _)::r,h,_=>by cases h
 | (a,.ag _)::r,h,_=>by cases h
 | (a,.f _ _)::r,h,_=>by cases h
theorem qb {key:Key} {k:Kn}:∀ {l:List (Nat×Kn)},(key,k)∈zu l→∃s,key= .s s∧(s,k)∈l
 | [],h=>by cases h
 | (s,q)::r,h=>by
  rcases List.mem_cons.1 h with e | h
  ·injection e with e1 e2;subst e1;subst e2;exact⟨s,rfl,List.mem_cons_self ..⟩
  ·obtain⟨s',h1,h2⟩:=qb (l:=r) h;exact⟨s',h1,List.mem_cons_of_mem _ h2⟩
theorem eK {rs:List (Res U)} {s:Nat} {v:Value}:∀ {l:List (Nat×Kn)},(s,v)∈kg rs l→∃p,(s,Kn.p p)∈l∧v=(den U rs p).getD undef
 | [],h=>by cases h
 | (a,.p q)::r,h=>by
  rcases List.mem_cons.1 h with e | h
  ·injection e with e1 e2;subst e1;subst e2;exact⟨q,List.mem_cons_self ..,rfl⟩
  ·obtain⟨p,h1,h2⟩:=eK (l:=r) h;exact⟨p,List.mem_cons_of_mem _ h1,h2⟩
 | (a,.t _)::r,h=>by obtain⟨p,h1,h2⟩:=eK (l:=r) h;exact⟨p,List.mem_cons_of_mem _ h1,h2⟩
 | (a,.ag _)::r,h=>by obtain⟨p,h1,h2⟩:=eK (l:=r) h;exact⟨p,List.mem_cons_of_mem _ h1,h2⟩
 | (a,.f _ _)::r,h=>by obtain⟨p,h1,h2⟩:=eK (l:=r) h;exact⟨p,List.mem_cons_of_mem _ h1,h2⟩
 | (a,.pan)::r,h=>by obtain⟨p,h1,h2⟩:=eK (l:=r) h;exact⟨p,List.mem_cons_of_mem _ h1,h2⟩
 | (a,.w _ _)::r,h=>by obtain⟨p,h1,h2⟩:=eK (l:=r) h;exact⟨p,List.mem_cons_of_mem _ h1,h2⟩
theorem cV.J9 {kn:List (Key×Kn)} {id:Nat} {V:PK→Value}:∀ {i:Nat} {az:List AV} {vs:List Value},cV kn id i az vs→(∀j p v,nth az j=some (.k p)→nth vs j=some v→V p=v)→aI (fun a=>match a with | .v x=>x | .k p=>V p) az=vs
 | _,[],[],_,_=>rfl
 | _,[],_::_,h,_=>by simp [cV]at h
 | _,_::_,[],h,_=>by rename_i a l;cases a<;>simp [cV]at h
 | i,.v x::r,v::vs,h,hv=>by
  simp only [cV]at h
  simp only [aI,h.1]
  rw [cV.J9 h.2 fun j p v h1 h2=>hv (j+1) p v h1 h2]
 | i,.k p::r,v::vs,h,hv=>by
  simp only [cV]at h
  simp only [aI]
  rw [hv 0 p v rfl rfl,cV.J9 h.2 fun j p v h1 h2=>hv (j+1) p v h1 h2]
theorem cV.kn {kn:List (Key×Kn)} {id:Nat}:∀ {i j:Nat} {az:List AV} {vs:List Value} {p:PK},cV kn id i az vs→nth az j=some (.k p)→cA (.c id (i+j)) kn=some (.p p)
 | _,_,[],_,_,_,h=>by simp [nth]at h
 | i,0,.v _::_,_::_,_,_,h=>by simp [nth]at h
 | i,0,.k p::r,v::vs,p',hd,h=>by
  simp only [cV]at hd
  simp only [nth,Option.some.injEq,AV.k.injEq]at h
  subst h
  exact hd.1
 | i,j+1,.v _::r,_::vs,p,hd,h=>by
  simp only [cV]at hd
  have:=cV.kn hd.2 (show nth r j=some (.k p)from h)
  rwa [show i+1+j=i+(j+1)by omega]at this
 | i,j+1,.k _::r,_::vs,p,hd,h=>by
  simp only [cV]at hd
  have:=cV.kn hd.2 (show nth r j=some (.k p)from h)
  rwa [show i+1+j=i+(j+1)by omega]at this
 | _,_,.v _::_,[],_,hd,_=>by simp [cV]at hd
 | _,_,.k _::_,[],_,hd,_=>by simp [cV]at hd
theorem l7 {id:Nat} {key:Key} {k:Kn}:∀ {i:Nat} {l:List CS},(key,k)∈uX id i l→∃j p,key= .c id (i+j)∧k= .p p∧nth l j=some (.k p)
 | _,[],h=>by cases h
 | i,.v _::r,h=>by
  obtain⟨j,p,h1,h2,h3⟩:=l7 (l:=r) h
  exact⟨j+1,p,by rw [h1];congr 1;omega,h2,h3⟩
 | i,.k q::r,h=>by
  rcases List.mem_cons.1 h with e | h
  ·injection e with e1 e2;exact⟨0,q,e1,e2,rfl⟩
  ·obtain⟨j,p,h1,h2,h3⟩:=l7 (l:=r) h
   exact⟨j+1,p,by rw [h1];congr 1;omega,h2,h3⟩
theorem kV {key:Key} {k:Kn}:∀ {l:List (Nat×RSh)},(key,k)∈Bk l→∃id cs j p,(id,RSh.blk cs)∈l∧key= .c id j∧k= .p p∧nth cs j=some (.k p)
 | [],h=>by cases h
 | (id,.blk cs)::r,h=>by
  rcases List.mem_append.1 h with h | h
  ·obtain⟨j,p,h1,h2,h3⟩:=l7 h
   exact⟨id,cs,j,p,List.mem_cons_self ..,by simpa using h1,h2,h3⟩
  ·obtain⟨a,b,c,d,h1,h2⟩:=kV (l:=r) h;exact⟨a,b,c,d,List.mem_cons_of_mem _ h1,h2⟩
 | (id,.ob _)::r,h=>by obtain⟨a,b,c,d,h1,h2⟩:=kV (l:=r) h;exact⟨a,b,c,d,List.mem_cons_of_mem _ h1,h2⟩
 | (id,.lst _)::r,h=>by obtain⟨a,b,c,d,h1,h2⟩:=kV (l:=r) h;exact⟨a,b,c,d,List.mem_cons_of_mem _ h1,h2⟩
theorem uv {T:Type} {id:Nat} {kn:List (Key×Kn)}:∀ {l:List CS} {J:CST l T} {i:Nat} {vs:List Value} {F:T→Prop},zh id kn l J i vs F→(∃J',F J')∧∀j p,nth l j=some (.k p)→cA (.c id (i+j)) kn=some (.p p)
 | [],J,i,[],F,h=>⟨⟨J,h⟩,fun j p hp=>by simp [nth]at hp⟩
 | [],_,_,_::_,_,h=>h.elim
 | .v _::_,_,_,[],_,h=>h.elim
 | .k _::_,_,_,[],_,h=>h.elim
 | .v s::r,J,i,v::vs,F,h=>by
  obtain⟨J1,h1,_⟩:=nf h
  obtain⟨h2,h3⟩:=uv h1
  refine⟨h2,fun j p hp=>?_⟩
  cases j with
  | zero=>simp [nth]at hp
  | succ j=>have:=h3 j p hp;rwa [show i+1+j=i+(j+1)by omega]at this
 | .k q::r,J,i,v::vs,F,h=>by
  simp only [zh]at h
  split at h
  ·rename_i x hx
   split at h
   ·rename_i he
    obtain⟨h2,h3⟩:=uv h
    refine⟨h2,fun j p hp=>?_⟩
    cases j with
    | zero=>simp only [nth,Option.some.injEq,CS.k.injEq]at hp;subst hp;rw [Nat.add_zero,hx,(Kn.l0 he).1]
    | succ j=>have:=h3 j p hp;rwa [show i+1+j=i+(j+1)by omega]at this
   ·exact h.elim
  ·exact h.elim
theorem pq {T:Type} {rs:List (Res U)} {kn:List (Key×Kn)}:∀ {l:List (Nat×RSh)} {J:yr U l T} {F:T→Prop},oX rs kn l J F→∀id cs,(id,RSh.blk cs)∈l→∀j p,nth cs j=some (.k p)→cA (.c id j) kn=some (.p p)
 | [],_,_,_,_,_,h=>by cases h
 | (id,.ob t)::r,J,F,h,i,cs,hm=>by
  simp only [oX]at h
  split at h
  ·split at h
   ·exact pq h i cs ((List.mem_cons.1 hm).resolve_left fun e=>by cases e)
   ·exact h.elim
  ·exact h.elim
 | (id,.lst t)::r,J,F,h,i,cs,hm=>by
  simp only [oX]at h
  split at h
  ·split at h
   ·exact pq h i cs ((List.mem_cons.1 hm).resolve_left fun e=>by cases e)
   ·exact h.elim
  ·exact h.elim
 | (id,.blk l)::r,J,F,h,i,cs,hm=>by
  simp only [oX]at h
  split at h
  ·obtain⟨⟨J',h1⟩,h2⟩:=uv h
   intro j p hp
   rcases List.mem_cons.1 hm with e | hm
   ·injection e with e1 e2
    injection e2 with e2
    subst e1;subst e2
    have:=h2 j p hp
    rwa [Nat.zero_add]at this
   ·exact pq h1 i cs hm j p hp
  ·exact h.elim
theorem cK.IC {x:Res U} {g:Nat} {cs:List Value} {T:TypeId}(h:cK x (.blk g cs T)):∃Xg,x= .blk g Xg T∧Xg.length=cs.length:=by
 cases h
 rename_i c hc
 exact⟨c,rfl,hc⟩
theorem xt {ct:yZ} {J:JT2 U ct} {stb st':St U} {fr fr':Fr} {a a':Act} {w':World} {X X':Nat→Nat→Prop} {ws:List Nat}(hr:Rep n fr a)(Nr:Rep n fr' a')(N0:Agr ws a a')(OQ:qK ct.wr2 ws=true)
 (hkb:aE stb.rs fr stb.kn)(QN:aE st'.rs fr' st'.kn)(hI:Inv w0 k0 X0 may st'.rs X' w')(hlen:stb.rs.length≤st'.rs.length)(hmd:∀i,i<stb.rs.length→i ∉ st'.md→i ∉ aI (·.1) ct.rsh→nth st'.rs i=nth stb.rs i∧X' i=X i)(OE:∀i a,nth stb.rs i=some a→∃b,nth st'.rs i=some b∧cK a b)(Xa:k0≤stb.rs.length)
 (hu:nI ct stb.rs.length J fr' st') {F:List (Nat×Value)→St U→Prop}(Oh:z3 ct J stb fr.e F):
 ∃e OV,F e OV∧Rep n ⟨e,fun i=>a'.tmps.getD i undef,fr.ds⟩ a'∧Inv w0 k0 X0 may OV.rs X' w'∧aE OV.rs ⟨e,fun i=>a'.tmps.getD i undef,fr.ds⟩ OV.kn∧OV.md= []∧OV.rs.length=stb.rs.length∧(∀i,i<stb.rs.length→i ∉ aI (·.1) ct.rsh→nth OV.rs i=nth stb.rs i∧X' i=X i)∧∀i a,nth stb.rs i=some a→∃b,nth OV.rs i=some b∧cK a b:=by
 unfold nI at hu
 split at hu
 case h_2=>exact hu.elim
 rename_i Pc
 simp only [Bool.and_eq_true]at Pc
 obtain⟨abo,abi,aa2,abp⟩:=Pc
 obtain⟨J1,vs,h1,g1,e1⟩:=vM hu
 have UZ:=pq h1
 obtain⟨p,us,hp,g2,m2,d2,b2⟩:=mr h1
 have Oh:=g2 _ (g1 _ Oh) hp
 split at Oh
 case h_2=>exact Oh.elim
 rename_i SP Pz
 split at Oh
 case h_2=>exact Oh.elim
 rename_i Oc Qu
 obtain⟨l1,f1⟩:=uP Pz
 obtain⟨l2,f2⟩:=uP Qu
 have abz:aI (·.1) ct.rsh=us.map (·.1):=by rw [fG,m2]
 have r1:∀i x,nth stb.rs i=some x→∃y z,nth SP i=some y∧nth st'.rs i=some z∧((∀az,jO i us≠some (.blk az))→y=z)∧((∃az,jO i us=some (.blk az))→y=x):=by
  intro i x hx
  obtain⟨y,hy,hy1⟩:=f1 i x hx
  rw [Nat.zero_add]at hy
  obtain⟨z,hz,Vw⟩:=OE i x hx
  refine⟨y,z,hy1,hz,?_,?_⟩
  ·intro hnb
   unfold KT at hy
   cases hg:jO i us with
   | none=>
    rw [hg]at hy
    simp only [Option.some.injEq]at hy
    subst hy
    have Wp:=pW hg
    have:i ∉ st'.md:=fun hm=>by
     have:=cr.1 abi i hm
     rw [abz]at this
     rcases Bool.or_eq_true_iff.1 this with h | h
     ·have:=Nat.le_of_ble_eq_true h;have:=aR hx;omega
     ·exact Wp (ew.1 h)
    have h2:=(hmd i (aR hx) this (by rw [abz];exact Wp)).1
    rw [hz,hx]at h2
    injection h2 with h2
    exact h2.symm
   | some u=>
    rw [hg]at hy
    have hd:=d2 i u (iM hg)
    cases u with
    | ob t s=>
     obtain⟨r,hr⟩:=hd
     rw [hz]at hr
     injection hr with hr
     subst hr
     have h2:cQ x (.ob t s)=some y:=hy
     cases Vw
     simp only [cQ,dif_pos]at h2
     injection h2 with h2
     exact h2.symm
    | blk az=>exact absurd hg (hnb az)
    | lst t A c l=>
     obtain⟨own,T,hr⟩:=hd
     rw [hz]at hr
     injection hr with hr
     subst hr
     have h2:cQ x (.lst t A c l)=some y:=hy
     cases Vw
     simp only [cQ,dif_pos]at h2
     injection h2 with h2
     exact h2.symm
  ·rintro⟨az,hg⟩
   unfold KT at hy
   rw [hg]at hy
   simp only [Option.some.injEq]at hy
   exact hy.symm
 have Qn:∀q:PK,q.id<stb.rs.length→den U SP q=den U st'.rs q:=by
  intro q hq
  obtain⟨x,hx⟩:=cm hq
  obtain⟨y,z,hy,hz,ha,hb⟩:=r1 _ x hx
  unfold den
  rw [hy,hz]
  cases hg:jO q.id us with
  | none=>rw [ha (fun az e=>by rw [hg]at e;cases e)]
  | some u=>
   cases u with
   | ob t s=>rw [ha (fun az e=>by rw [hg]at e;cases e)]
   | lst t A c l=>rw [ha (fun az e=>by rw [hg]at e;cases e)]
   | blk az=>
    have hyx:=hb ⟨az,hg⟩
    subst hyx
    obtain⟨z',RN,Vw⟩:=OE _ _ hx
    rw [hz]at RN
    injection RN with RN
    subst RN
    obtain⟨g,cs,T,hc,_⟩:=d2 _ _ (iM hg)
    rw [hz]at hc
    injection hc with hc
    subst hc
    cases Vw
    cases q<;>rfl
 have r2:∀i,i<stb.rs.length→nth Oc i=nth st'.rs i:=by
  intro i hi
  obtain⟨x,hx⟩:=cm hi
  obtain⟨y,z,hy,hz,ha,hb⟩:=r1 i x hx
  obtain⟨v,hv,Sj⟩:=f2 i y hy
  rw [Nat.zero_add]at hv
  rw [Sj,hz]
  unfold LN at hv
  cases hg:jO i us with
  | none=>
   rw [hg]at hv
   simp only [Option.some.injEq]at hv
   rw [← hv,ha (fun az e=>by rw [hg]at e;cases e)]
  | some u=>
   rw [hg]at hv
   cases u with
   | ob t s=>simp only [Option.some.injEq]at hv;rw [← hv,ha (fun az e=>by rw [hg]at e;cases e)]
   | lst t A c l=>simp only [Option.some.injEq]at hv;rw [← hv,ha (fun az e=>by rw [hg]at e;cases e)]
   | blk az=>
    have hyx:=hb ⟨az,hg⟩
    subst hyx
    obtain⟨z',RN,Vw⟩:=OE _ _ hx
    rw [hz]at RN
    injection RN with RN
    subst RN
    obtain⟨g,cs,T,hc,hcd⟩:=d2 _ _ (iM hg)
    rw [hz]at hc
    injection hc with hc
    subst hc
    have Ug:=(b2 _ aa2 _ _ (iM hg)).2 az rfl
    have WB:aI (jb SP) az=cs:=by
     have:=hcd.J9 (V:=fun p=>(den U SP p).getD undef) (fun j p v hj hv=>by
      have hk:=hcd.kn hj
      obtain⟨g',cs',T',u,q1,q2,q3⟩:=QN.get hk
      rw [hz]at q1
      injection q1 with q1
      injection q1 with _ q1 _
      subst q1
      rw [Nat.zero_add]at q2
      rw [hv]at q2
      injection q2 with q2
      subst q2
      have q3:den U st'.rs p=some v:=q3
      rw [Qn p (Ug p (gu hj)),q3]
      rfl)
     have e:(fun a=>match a with | .v x=>x | .k p=>(den U SP p).getD undef)=jb SP:=by funext a;cases a<;>rfl
     rw [e]at this
     exact this
    have hv:cQ y (.blk (aI (jb SP) az))=some v:=hv
    rw [WB]at hv
    obtain⟨Xg,rfl,hle⟩:=Vw.IC
    simp only [cQ,hle,Nat.beq_refl]at hv
    exact hv.symm
 have abj:Oc.length=stb.rs.length:=by rw [l2,l1]
 have Ue:∀q:PK,q.id<stb.rs.length→den U Oc q=den U st'.rs q:=fun q hq=>by unfold den;rw [r2 _ hq]
 obtain⟨Sn,PG⟩:=n5 OQ
 have QM:∀s v,(s,v)∈vs++kg Oc ct.kns→lk fr'.g s fr'.e=v:=by
  intro s v hm
  rcases List.mem_append.1 hm with hm | hm
  ·exact e1 s v hm
  ·obtain⟨q,hq,rfl⟩:=eK hm
   obtain⟨q',hq',hg⟩:=nZ abo hq
   injection hq' with hq'
   subst hq'
   have:den U st'.rs q=some (lk fr'.g s fr'.e):=QN.get hg
   rw [Ue q (jB abp hq),this]
   rfl
 have Qz:Rep n ⟨vs++kg Oc ct.kns++forget ct.wr2 fr.e,fun i=>a'.tmps.getD i undef,fr.ds⟩ a':=uB hr Nr (N0.mono Sn) PG QM
 have hlk:∀i,lk (fun i=>a'.tmps.getD i undef) i (vs++kg Oc ct.kns++forget ct.wr2 fr.e)=lk fr'.g i fr'.e:=fun i=>by rw [← Nr.get];exact(Qz.get i).symm
 have Pa:∀i,i<stb.rs.length→i ∉ aI (·.1) ct.rsh→nth Oc i=nth stb.rs i∧X' i=X i:=by
  intro i hi Wp
  rw [r2 i hi]
  refine hmd i hi (fun hm=>?_) Wp
  have:=cr.1 abi i hm
  rcases Bool.or_eq_true_iff.1 this with h | h
  ·have:=Nat.le_of_ble_eq_true h;omega
  ·exact Wp (ew.1 h)
 have TY:∀i a,nth stb.rs i=some a→∃b,nth Oc i=some b∧cK a b:=by
  intro i x hx
  obtain⟨z,hz,Vw⟩:=OE i x hx
  exact⟨z,by rw [r2 i (aR hx)];exact hz,Vw⟩
 have hIt:Inv w0 k0 X0 may Oc X' w':=hI.JG (by omega) (fun i hi=>r2 i (by omega)) (by omega)
 have Oh:=iW (fun r hr=>by
  obtain⟨i,hi⟩:=qg hr
  exact⟨_,_,hIt.sat.res i r hi⟩) Oh
 refine⟨_,_,Oh,Qz,hIt,?_,rfl,abj,Pa,TY⟩
 refine aE.app ?_ (aE.app ?_ ?_)
 ·intro key k hm
  obtain⟨s,rfl,hs⟩:=qb hm
  obtain⟨q,rfl,hg⟩:=nZ abo hs
  show den U Oc q=some (lk _ s _)
  rw [hlk,Ue q (jB abp hs)]
  exact QN.get hg
 ·intro key k hm
  obtain⟨id,cs,j,q,h3,rfl,rfl,h5⟩:=kV hm
  have hg:=UZ id cs h3 j q h5
  obtain⟨g,cs',T,v,q1,q2,q3⟩:=QN.get hg
  have Uh:id<stb.rs.length∧q.id<stb.rs.length:=by
   have key:∀(l:List (Nat×RSh)),dN stb.rs.length l=true→(id,RSh.blk cs)∈l→id<stb.rs.length∧iq stb.rs.length cs=true:=by
    intro l
    induction l with
    | nil=>intro _ h;cases h
    | cons x r ih=>
     intro hb hm
     obtain⟨i,x⟩:=x
     cases x with
     | ob t=>
      simp only [dN]at hb
      split at hb
      ·exact ih hb ((List.mem_cons.1 hm).resolve_left fun e=>by cases e)
      ·cases hb
     | lst t=>
      simp only [dN]at hb
      split at hb
      ·exact ih hb ((List.mem_cons.1 hm).resolve_left fun e=>by cases e)
      ·cases hb
     | blk l=>
      simp only [dN]at hb
      split at hb
      ·rename_i NO
       simp only [Bool.and_eq_true]at NO
       rcases List.mem_cons.1 hm with e | hm
       ·injection e with e1 e2;injection e2 with e2;subst e1;subst e2
        exact⟨by simpa [Nat.blt_eq]using NO.1,NO.2⟩
       ·exact ih hb hm
      ·cases hb
   obtain⟨h6,h7⟩:=key ct.rsh aa2 h3
   refine⟨h6,?_⟩
   have key2:∀(l:List CS)(j:Nat),iq stb.rs.length l=true→nth l j=some (.k q)→q.id<stb.rs.length:=by
    intro l
    induction l with
    | nil=>intro j _ h;simp [nth]at h
    | cons x r ih=>
     intro j hb hj
     cases x with
     | v s=>
      cases j with
      | zero=>simp [nth]at hj
      | succ j=>exact ih j hb hj
     | k p'=>
      simp only [iq]at hb
      split at hb
      ·rename_i NO
       cases j with
       | zero=>simp only [nth,Option.some.injEq,CS.k.injEq]at hj;subst hj;simpa [Nat.blt_eq]using NO
       | succ j=>exact ih j hb hj
      ·cases hb
   exact key2 cs j h7 h5
  exact⟨g,cs',T,v,by rw [r2 id Uh.1];exact q1,q2,by show den U Oc q=_;rw [Ue q Uh.2];exact q3⟩
 ·have Ub:=aE.dO (M:=aI (·.1) ct.rsh) hkb (rs':=Oc) (fun i hi hm=>(Pa i hi hm).1) (fun i _ x hx=>TY i x hx)
  intro key k hm
  obtain⟨VD,QK⟩:=dq hm
  have h0:=Ub key k VD
  cases key with
  | s i=>
   have Wp:i ∉ ct.wr2:=by
    intro hh
    have QK:(!ke i ct.wr2)=true:=QK
    rw [ew.2 hh]at QK
    cases QK
   show g9 Oc (lk _ i _) k
   have:lk (fun i=>a'.tmps.getD i undef) i (vs++kg Oc ct.kns++forget ct.wr2 fr.e)=lk fr.g i fr.e:=by
    rw [hlk,← Nr.get,← hr.get]
    exact N0.tmps i fun hi=>Wp (Sn i hi)
   rw [this]
   exact h0
  | c id off=>exact h0
  | l id path=>exact h0
end
end
section
section
variable {U:Uni} {P:Program} {tbl:Tb U} {may:List Nat} {k0:Nat}
variable {w0:World} {X0 X:Nat→Nat→Prop} {w:World} {fr:Fr} {st:St U} {n:Nat} {N:List Nat} {ops:Array Oper}
theorem Steps.back {TS:St U} {X':Nat→Nat→Prop} {w':World}(h:Steps w0 k0 X0 may {st with md:= []} X TS X' w'):Steps w0 k0 X0 may st X (jA U TS st.md) X' w':=by
 obtain⟨a,b,⟨L,h1,h2,h3⟩,d⟩:=h
 refine⟨a,b,⟨L,?_,h2,h3⟩,d⟩
 show TS.md++st.md=L++st.md
 rw [h1];simp
theorem Fx {s j:Nat} {st st':St U} {X:Nat→Nat→Prop}(h:zH k0 s j st=some st')(hI:Inv w0 k0 X0 may st.rs X w)(hk:aE st.rs fr st.kn):∃X',Steps w0 k0 X0 may st X st' X' w∧aE st'.rs fr st'.kn:=by
 unfold zH at h
 split at h
 ·rename_i i OF
  split at h
  ·injection h with h;subst h;exact⟨X,Steps.refl hI,hk⟩
  ·rename_i Og
   have Og:i≠j:=fun e=>by rw [e,Nat.beq_refl]at Og;cases Og
   split at h
   ·rename_i t T A c l t' T' A' c' l' hi hj
    split at h
    ·rename_i hb
     injection h with h;subst h
     simp only [Bool.and_eq_true]at hb
     obtain⟨⟨b1,b2⟩,b3,b4⟩:=hb
     obtain rfl:=Nat.eq_of_beq_eq_true b3
     obtain rfl:=Nat.eq_of_beq_eq_true b4
     have b1:=Nat.le_of_ble_eq_true b1
     have b2:=Nat.le_of_ble_eq_true b2
     have li:=aR hi
     have lj:=aR hj
     have nj:nth (bR (bR st.rs j (.lst t true T A c l)) i (.lst t true T none 0 [])) j=some (.lst t true T A c l):=by
      rw [aZ,if_neg (by rintro⟨e,_⟩;exact Og e.symm),aZ,if_pos ⟨rfl,lj⟩]
     have ni:nth (bR (bR st.rs j (.lst t true T A c l)) i (.lst t true T none 0 [])) i=some (.lst t true T none 0 []):=by
      rw [aZ,if_pos ⟨rfl,by rw [qe];exact li⟩]
     have no:∀k,k≠i→k≠j→nth (bR (bR st.rs j (.lst t true T A c l)) i (.lst t true T none 0 [])) k=nth st.rs k:=fun k h1 h2=>by
      rw [aZ,if_neg (fun e=>h1 e.1),aZ,if_neg (fun e=>h2 e.1)]
     have mem:∀k,k∈ [i,j]→k=i∨k=j:=by simp
     have xi:jr (jr X j (X i)) i (fun _=>False) i=fun _=>False:=updX_eq ..
     have xj:jr (jr X j (X i)) i (fun _=>False) j=X i:=by rw [ic _ _ (Ne.symm Og),updX_eq]
     have xo:∀k,k ∉ [i,j]→jr (jr X j (X i)) i (fun _=>False) k=X k:=fun k hk=>by
      have:k≠i∧k≠j:=by simpa using hk
      rw [ic _ _ this.1,ic _ _ this.2]
     have hlen:(bR (bR st.rs j (Res.lst t true T A c l)) i (.lst t true T none 0 [])).length=st.rs.length:=by simp
     have OE:∀k a,nth st.rs k=some a→∃b,nth (bR (bR st.rs j (.lst t true T A c l)) i (.lst t true T none 0 [])) k=some b∧cK a b:=fun k a ha=>by
      by_cases e1:k=i
      ·subst e1;rw [hi]at ha;injection ha with ha;subst ha;exact⟨_,ni,cK.lst ..⟩
      by_cases e2:k=j
      ·subst e2;rw [hj]at ha;injection ha with ha;subst ha;exact⟨_,nj,cK.lst ..⟩
      exact⟨a,by rw [no k e1 e2];exact ha,cK.refl a⟩
     refine⟨jr (jr X j (X i)) i (fun _=>False),⟨?_,by rw [hlen];exact Nat.le_refl _,⟨[i,j],rfl,fun k hk=>.inr (by rcases mem k hk with rfl | rfl<;>assumption),fun k _ hk=>⟨no k (fun e=>hk (by simp [e])) (fun e=>hk (by simp [e])),xo k hk⟩⟩,OE⟩,?_⟩
     ·obtain⟨sat,ch,old,new,len⟩:=hI
      have sub:∀k,k<st.rs.length→∀b,jr (jr X j (X i)) i (fun _=>False) k b→(k=j∧X i b)∨(k≠j∧k≠i∧X k b):=fun k _ b hb=>by
       by_cases e1:k=i
       ·subst e1;rw [xi]at hb;exact hb.elim
       by_cases e2:k=j
       ·subst e2;rw [xj]at hb;exact .inl ⟨rfl,hb⟩
       rw [xo k (by simp [e1,e2])]at hb;exact .inr ⟨e2,e1,hb⟩
      refine⟨⟨fun k r hr=>?_,fun a b ha hb VM k hka hkb=>?_⟩,ch,fun k QN b hb=>?_,fun k h1 h2 b hb=>?_,by rw [hlen];exact len⟩
      ·by_cases e1:k=i
       ·subst e1;rw [ni]at hr;injection hr with hr;subst hr;rw [xi]
        exact(⟨Own.nil,fun k hk=>hk.elim⟩:RS (fun _=>False) w (.lst t true T none 0 []:Res U))
       by_cases e2:k=j
       ·subst e2;rw [nj]at hr;injection hr with hr;subst hr;rw [xj];exact sat.res i _ hi
       rw [no k e1 e2]at hr;rw [xo k (by simp [e1,e2])];exact sat.res k r hr
      ·rw [hlen]at ha hb
       rcases sub a ha k hka with⟨rfl,h1⟩ | ⟨h0,h00,h1⟩
       ·rcases sub b hb k hkb with⟨rfl,h2⟩ | ⟨_,h3,h2⟩
        ·exact VM rfl
        ·exact sat.dis i b li hb (Ne.symm h3) k h1 h2
       ·rcases sub b hb k hkb with⟨rfl,h2⟩ | ⟨_,h3,h2⟩
        ·exact sat.dis a i ha li h00 k h1 h2
        ·exact sat.dis a b ha hb VM k h1 h2
      ·rw [xo k (by simp;omega)]at hb;exact old k QN b hb
      ·rw [hlen]at h2
       rcases sub k h2 b hb with⟨rfl,h⟩ | ⟨_,_,h⟩
       ·exact new i b1 li b h
       ·exact new k h1 h2 b h
     ·have all:∀ {P:Key×Kn→Prop} {x:Key×Kn} {l:List (Key×Kn)},P x→(∀y,y∈l→P y)→∀y,y∈x::l→P y:=fun h1 h2 y hy=>(List.mem_cons.1 hy).elim (fun e=>e▸h1) (h2 y)
      refine fun key k hm=>all (P:=fun x=>ej _ fr x.1 x.2) ?_ ?_ (key,k) hm
      ·have h0:den U st.rs (.sl i 0)=some (lk fr.g s fr.e):=hk.get OF
       show den U _ (.sl j 0)=some (lk fr.g s fr.e)
       rw [← h0]
       simp only [den,PK.id,nj,hi,bK,fg]
      ·have:=hk.dO (M:= [i,j]) (rs':=bR (bR st.rs j (.lst t true T A c l)) i (.lst t true T none 0 [])) (fun k _ hk=>no k (fun e=>hk (by simp [e])) (fun e=>hk (by simp [e]))) (fun k _ a ha=>OE k a ha)
       exact fun x hx=>this x.1 x.2 hx
    ·cases h
   ·cases h
 ·cases h
theorem Ds {key:Key} {tt:Nat} {T:TypeId} {st:St U} {X:Nat→Nat→Prop}(hv:sS fr st key=some (.slice none 0 0))(hI:Inv w0 k0 X0 may st.rs X w)(hk:aE st.rs fr st.kn):∃X',Steps w0 k0 X0 may st X ⟨st.rs++ [.lst tt true T none 0 []],(key,.p (.sl st.rs.length 0))::dF (fun a _=>!(a.eq key)) st.kn,st.md⟩ X' w∧aE (st.rs++ [.lst tt true T none 0 []]) fr ((key,.p (.sl st.rs.length 0))::dF (fun a _=>!(a.eq key)) st.kn):=by
 have PZ:RS (fun _=>False) w (.lst tt true T none 0 []:Res U):=⟨Own.nil,fun k hk=>hk.elim⟩
 have QL:nth (st.rs++ [Res.lst tt true T none 0 []]) st.rs.length=some (.lst tt true T none 0 []):=wQ
 have hI2:=hI.more (Ch.refl _ _) PZ (fun k hk=>hk.elim)
 have Ol:=pA hk (Res.lst tt true T none 0 [])
 have hd:den U (st.rs++ [Res.lst tt true T none 0 []]) (.sl st.rs.length 0)=some (.slice none 0 0):=by
  simp only [den,PK.id,QL,bK,fg,List.length_nil]
 refine⟨jr X st.rs.length fun _=>False,⟨hI2,by simp,⟨[],rfl,fun i hi=>(by cases hi),fun i hi _=>⟨by show nth (st.rs++_) i=_;rw [bu,if_pos hi],ic _ _ (by omega)⟩⟩,fun i a ha=>⟨a,by show nth (st.rs++_) i=_;rw [bu,if_pos (aR ha)];exact ha,cK.refl a⟩⟩,?_⟩
 intro key' k hm
 rcases List.mem_cons.1 hm with e | hm
 ·injection e with e1 e2
  subst e1;subst e2
  cases key' with
  | s i=>
   simp only [sS,Option.some.injEq]at hv
   show den U _ _=some (lk fr.g i fr.e)
   rw [hv];exact hd
  | c id off=>
   simp only [sS]at hv
   split at hv
   ·rename_i g cs T' hn
    exact⟨g,cs,T',_,by rw [bu,if_pos (aR hn)];exact hn,hv,hd⟩
   ·cases hv
  | l id path=>simp only [sS,reduceCtorEq]at hv
 ·exact Ol _ _ (dq hm).1
theorem gT:∀ {l:List (Key×Nat×TypeId)} {st:St U} {X:Nat→Nat→Prop} {F:St U→Prop},jH k0 fr l st F→Inv w0 k0 X0 may st.rs X w→aE st.rs fr st.kn→∃st' X',F st'∧Steps w0 k0 X0 may st X st' X' w∧aE st'.rs fr st'.kn
 | [],st,X,F,h,hI,hk=>⟨st,X,h,Steps.refl hI,hk⟩
 | (key,tt,T)::r,st,X,F,h,hI,hk=>by
  have old:(match sS fr st key with
   | some (.slice none 0 0)=>jH k0 fr r ⟨st.rs++ [.lst tt true T none 0 []],(key,.p (.sl st.rs.length 0))::dF (fun a _=>!(a.eq key)) st.kn,st.md⟩ F
   | _=>False)→∃st' X',F st'∧Steps w0 k0 X0 may st X st' X' w∧aE st'.rs fr st'.kn:=fun h=>by
   split at h
   ·rename_i hv
    obtain⟨X1,h1,h2⟩:=Ds (tt:=tt) (T:=T) hv hI hk
    obtain⟨st',X',hF,h3,h4⟩:=gT h h1.inv h2
    exact⟨st',X',hF,h1.trans h3,h4⟩
   ·exact h.elim
  cases key with
  | s s=>
   cases hb:Nat.ble 1000 tt with
   | true=>
    simp only [jH,hb]at h
    unfold Bh at h
    split at h
    ·obtain⟨hd,h⟩:=h
     have Ol:aE st.rs fr ((.s s,.p (.sl (tt - 1000) 0))::st.kn):=fun key k hm=>by
      rcases List.mem_cons.1 hm with e | hm
      ·injection e with e1 e2
       subst e1;subst e2
       exact hd
      ·exact hk key k hm
     obtain⟨st',X',hF,h3,h4⟩:=gT h hI Ol
     exact⟨st',X',hF,⟨h3.inv,h3.len,h3.md,h3.root⟩,h4⟩
    ·split at h
     ·rename_i TS hm
      obtain⟨X1,h1,h2⟩:=Fx hm hI hk
      obtain⟨st',X',hF,h3,h4⟩:=gT h h1.inv h2
      exact⟨st',X',hF,h1.trans h3,h4⟩
     ·exact h.elim
   | false=>simp only [jH,hb]at h;exact old h
  | c id off=>cases hb:Nat.ble 1000 tt<;>simp only [jH,hb]at h<;>exact old h
  | l id path=>cases hb:Nat.ble 1000 tt<;>simp only [jH,hb]at h<;>exact old h
theorem J7 {c:Code} {Q:QF2 U} {a:Act} {st':St U} {X':Nat→Nat→Prop} {ws:List Nat}(hS:Steps w0 k0 X0 may st X st' X' w)(h:c.wpIn (WF none) 0 P (lK n ws a fun x Oz w2=>Aft w0 k0 X0 may st' X' fr.ds (fun fr' st'=>Q x fr' st') Oz w2) a w):
 c.wpIn (WF none) 0 P (lK n ws a fun x Oz w2=>Aft w0 k0 X0 may st X fr.ds (fun fr' st'=>Q x fr' st') Oz w2) a w:=by
 refine wpIn_mono h fun x a' w' he=>?_
 cases x
 case outgrown=>exact he
 all_goals
  obtain⟨fr',Nr,hq,N0⟩:=he
  exact⟨fr',Nr,hq.pre hS,N0⟩
theorem Dt {c:Code} {an:An} {V:QF2 U→Fr→St U→Prop}(h:rj U P may k0 w0 X0 n c V):rj U P may k0 w0 X0 n c fun Q fr st=>pR U k0 an Q fr st fun Q st=>V Q fr st:=by
 intro Q fr st X a w hr hI hk hv
 simp only [pR]at hv
 obtain⟨st',X',hv,h1,h2⟩:=gT hv hI hk
 refine wpIn_mono (h Q fr st' X' a w hr h1.inv h2 hv) fun x a' w' he=>?_
 cases x
 case outgrown=>exact he
 all_goals
  obtain⟨fr',Nr,hq,N0⟩:=he
  exact⟨fr',Nr,hq.pre h1,N0⟩
theorem fu {c:Code} {an:An} {V:QF2 U→Fr→St U→Prop}(h:rj U P may k0 w0 X0 n c V):rj U P may k0 w0 X0 n c fun Q fr st=>gF U may k0 c an Q fr st fun Q st=>V Q fr st:=by
 refine Dt (V:=fun Q fr st=>pQ U may k0 c an Q fr st fun Q st=>V Q fr st) ?_
 intro Q fr st X a w hr hI hk hv
 simp only [pQ]at hv
 split at hv
 ·exact h Q fr st X a w hr hI hk hv
 ·rename_i ct hct
  split at hv
  ·rename_i OQ
   simp only [Bool.and_eq_true]at OQ
   obtain⟨OQ,NV⟩:=OQ
   obtain⟨J,h1,h2⟩:=hv
   have VI:=h _ fr {st with md:= []} X a w hr hI hk h1
   refine wpIn_mono VI fun x a' w' he=>?_
   have other:∀fr',(Aft w0 k0 X0 may {st with md:= []} X fr.ds (fun fr' st'=>Q x fr' (jA U st' st.md)) fr' w')→Aft w0 k0 X0 may st X fr.ds (fun fr' st'=>Q x fr' st') fr' w':=by
    rintro fr' ⟨st',X',g1,g2,g3,g4⟩
    exact⟨jA U st' st.md,X',g1.back,g2,g3,g4⟩
   cases x
   case normal=>
    obtain⟨fr',Nr,⟨st',X',g1,g2,g3,g4⟩,N0⟩:=he
    obtain⟨L,hL,cL,hl⟩:=g1.md
    have hL:st'.md=L:=by rw [hL];simp
    obtain⟨e,OV,f1,f2,f3,f4,f5,f6,f7,f8⟩:=xt (stb:=st) (X:=X) hr Nr N0 OQ hk g2 g1.inv g1.len (fun i hi hm _=>hl i hi (by rw [← hL];exact hm)) g1.root hI.len g4 (h2 _)
    refine⟨_,f2,⟨jA U OV (aI (·.1) ct.rsh++st.md),X',⟨f3,by show st.rs.length≤OV.rs.length;omega,⟨aI (·.1) ct.rsh,?_,fun i hi=>fK (cr.1 NV i hi),f7⟩,f8⟩,f4,rfl,f1⟩,N0⟩
    show OV.md++(aI (·.1) ct.rsh++st.md)=_
    rw [f5];rfl
   case outgrown=>exact he
   all_goals
    obtain⟨fr',Nr,hq,N0⟩:=he
    exact⟨fr',Nr,other fr' hq,N0⟩
  ·exact hv.elim
theorem dL(OT:∀f c,tbl.c f=some c→LV U P f c∧bW P f=true)(hm:P.follows .mixedOrders=true):∀(c:Code)(an:An),rj U P may k0 w0 X0 n c (fun Q fr st=>jn U P tbl may k0 n N c an Q fr st)
 | .skip,an=>fun Q fr st X a w hr hI hk hv=>wpIn_skip ⟨fr,hr,⟨st,X,Steps.refl hI,hk,rfl,hv⟩,Agr.refl _ _⟩
 | .region id ops false,an=>fu (c:= .region id ops false) (V:=fun Q fr st=>Cl U P tbl may k0 n N ops (Q .normal) (fun ch=>Q (.panic ch)) ops.toList fr st) fun Q fr st X a w hr hI hk hv=>rX OT hr hI hk hv
 | .region id ops true,an=>fu (c:= .region id ops true) (V:=fun Q fr st=>match Region.noSelect ops,dP ops.toList with
  | true,true=>rU U P tbl may k0 n N ops (kt P ops.toList) an.V an.rd (Q .normal) ops.size (Array.replicate ops.size false) fr st
  | _,_=>False) fun Q fr st X a w hr hI hk hv=>by
  dsimp only at hv
  split at hv
  ·rename_i hs P6
   exact uD OT hm hs P6 hr hI hk hv
  ·exact hv.elim
 | .seq x y,an=>fu (c:= .seq x y) (V:=fun Q fr st=>jn U P tbl may k0 n N x an.l (fun e fr' st'=>match e with | .normal=>jn U P tbl may k0 n N y an.r Q fr' st' | e=>Q e fr' st') fr st) fun Q fr st X a w hr hI hk hv=>by
  refine wpIn_seq (wpIn_mono (dL OT hm x an.l _ fr st X a w hr hI hk hv) fun e a' w' he=>?_)
  cases e
  case normal=>
   obtain⟨fr',Nr,⟨st',X',g1,g2,g3,g4⟩,N0⟩:=he
   refine wpIn_mono (dL OT hm y an.r Q fr' st' X' a' w' Nr g1.inv g2 g4) fun e a2 w2 he=>?_
   cases e<;>first
    | exact he.elim
    | (obtain⟨Oz,h1,h2,h3⟩:=he
       exact⟨Oz,h1,g3▸h2.pre g1,(N0.mono fun i hi=>List.mem_append_left _ hi).trans (h3.mono fun i hi=>List.mem_append_right _ hi)⟩)
  all_goals first
   | exact he.elim
   | (obtain⟨Oz,h1,h2,h3⟩:=he
      exact⟨Oz,h1,h2,h3.mono fun i hi=>List.mem_append_left _ hi⟩)
 | .cond c x y,an=>fu (c:= .cond c x y) (V:=fun Q fr st=>match ev fr c with
  | .bool b=>split b (jn U P tbl may k0 n N x an.l Q fr st) (jn U P tbl may k0 n N y an.r Q fr st)
  | _=>False) fun Q fr st X a w hr hI hk hv=>by
  dsimp only at hv
  split at hv
  ·rename_i b hb
   rw [← hr.eval]at hb
   rcases fq hv with⟨rfl,Sj⟩ | ⟨rfl,Sj⟩
   ·exact wpIn_cond_true hb (wpIn_mono (dL OT hm x an.l Q fr st X a w hr hI hk Sj) fun e a' w' he=>he.mono (fun i hi=>List.mem_append_left _ hi) (fun _ _ _ h=>h))
   ·exact wpIn_cond_false hb (wpIn_mono (dL OT hm y an.r Q fr st X a w hr hI hk Sj) fun e a' w' he=>he.mono (fun i hi=>List.mem_append_right _ hi) (fun _ _ _ h=>h))
  ·exact hv.elim
 | .block id c,an=>fu (c:= .block id c) (V:=fun Q fr st=>jn U P tbl may k0 n N c an.l (fun e fr' st'=>match e with
  | .exit id'=>(match Nat.beq id' id with | true=>Q .normal fr' st' | false=>Q (.exit id') fr' st')
  | e=>Q e fr' st') fr st) fun Q fr st X a w hr hI hk hv=>by
  refine wpIn_block (wpIn_mono (dL OT hm c an.l _ fr st X a w hr hI hk hv) fun e a' w' he=>?_)
  cases e
  case exit id'=>
   obtain⟨fr',Nr,hq,N0⟩:=he
   simp only [Exit.inBlock]
   split
   ·rename_i hi
    subst hi
    exact⟨fr',Nr,hq.mono fun fr st QW=>(by dsimp only at QW;rw [Nat.beq_refl]at QW;exact QW),N0⟩
   ·rename_i hi
    refine⟨fr',Nr,hq.mono fun fr st QW=>?_,N0⟩
    dsimp only at QW
    split at QW
    ·rename_i hb;exact absurd (Nat.eq_of_beq_eq_true hb) hi
    ·exact QW
  all_goals exact he
 | .loop c,an=>fun Q fr st00 X00 a w hr aeb adE hv=>by
  simp only [jn,pR]at hv
  obtain⟨st,X,hv,abW,hk⟩:=gT hv aeb adE
  have hI:=abW.inv
  refine J7 abW ?_
  split at hv
  ·exact hv.elim
  ·rename_i ct hct
   split at hv
   ·rename_i OQ
    simp only [Bool.and_eq_true]at OQ
    obtain⟨OQ,NV⟩:=OQ
    obtain⟨I,⟨m0,h0⟩,Qk⟩:=hv
    refine mq (fun m a' w'=>∃fr' st' X',Rep n fr' a'∧(Inv w0 k0 X0 may st'.rs X' w'∧st.rs.length≤st'.rs.length∧(∀i,i<st.rs.length→i ∉ st'.md→i ∉ aI (·.1) ct.rsh→nth st'.rs i=nth st.rs i∧X' i=X i)∧∀i a,nth st.rs i=some a→∃b,nth st'.rs i=some b∧cK a b)∧aE st'.rs fr' st'.kn∧nI ct st.rs.length (I m) fr' st'∧Agr (writes c) a a') m0 ⟨fr,{st with md:= []},X,hr,⟨hI,Nat.le_refl _,fun _ _ _ _=>⟨rfl,rfl⟩,fun i a ha=>⟨a,ha,cK.refl a⟩⟩,hk,h0,Agr.refl _ _⟩ ?_
    rintro m a1 w1 ⟨fr1,TS,X1,UY,⟨Uv,Uu,hs3,hs4⟩,Pl,hu,N0⟩
    obtain⟨e,OV,f1,f2,f3,f4,f5,f6,f7,f8⟩:=xt (stb:=st) (X:=X) hr UY N0 OQ hk Pl Uv Uu hs3 hs4 hI.len hu (Qk m _)
    refine wpIn_mono (dL OT hm c an.l _ _ OV X1 a1 w1 f2 f3 f4 f1) fun x a' w' he=>?_
    have join:∀ {Sg:St U} {X3:Nat→Nat→Prop},Steps w0 k0 X0 may OV X1 Sg X3 w'→∃L3,Sg.md=L3∧(∀i,i∈L3→i∈may∨k0≤i)∧∀i,i<st.rs.length→i ∉ L3→i ∉ aI (·.1) ct.rsh→nth Sg.rs i=nth st.rs i∧X3 i=X i:=by
     intro Sg X3 hs3
     obtain⟨L3,hL3,cL3,Sm⟩:=hs3.md
     refine⟨L3,by rw [hL3,f5];simp,cL3,fun i hi hn SF=>?_⟩
     obtain⟨e1,e2⟩:=Sm i (by omega) hn
     obtain⟨e3,e4⟩:=f7 i hi SF
     exact⟨e1.trans e3,e2.trans e4⟩
    have rootj:∀ {Sg:St U} {X3:Nat→Nat→Prop},Steps w0 k0 X0 may OV X1 Sg X3 w'→∀i a,nth st.rs i=some a→∃b,nth Sg.rs i=some b∧cK a b:=by
     intro Sg X3 hs3 i x hx
     obtain⟨b,hb,hr⟩:=f8 i x hx
     obtain⟨c',SH,Nr⟩:=hs3.root i b hb
     exact⟨c',SH,hr.trans Nr⟩
    have out:∀ {K:Fr→St U→Prop} {fr':Fr},Aft w0 k0 X0 may OV X1 fr.ds (fun fr' st'=>K fr' (jA U st' (aI (·.1) ct.rsh++st.md))) fr' w'→Aft w0 k0 X0 may st X fr.ds K fr' w':=by
     rintro K fr' ⟨Sg,X3,g1,g2,g3,g4⟩
     obtain⟨L3,hL3,cL3,Sm⟩:=join g1
     refine⟨jA U Sg (aI (·.1) ct.rsh++st.md),X3,⟨g1.inv,?_,⟨L3++aI (·.1) ct.rsh,?_,fun i hi=>(List.mem_append.1 hi).elim (cL3 i) (fun hi=>fK (cr.1 NV i hi)),fun i hi hn=>?_⟩,fun i x hx=>rootj g1 i x hx⟩,g2,g3,g4⟩
     ·show st.rs.length≤Sg.rs.length
      have:=g1.len;omega
     ·show Sg.md++(_++_)=_
      rw [hL3,List.append_assoc]
     ·rw [List.mem_append,not_or]at hn
      exact Sm i hi hn.1 hn.2
    cases x
    case normal=>
     obtain⟨fr',Nr,⟨Sg,X3,g1,g2,g3,m',NO,hu'⟩,R1⟩:=he
     obtain⟨L3,hL3,_,Sm⟩:=join g1
     exact⟨m',NO,fr',Sg,X3,Nr,⟨g1.inv,by have:=g1.len;omega,fun i hi hn SF=>Sm i hi (by rw [← hL3];exact hn) SF,rootj g1⟩,g2,hu',N0.trans R1⟩
    case outgrown=>exact he
    all_goals
     obtain⟨fr',Nr,hq,R1⟩:=he
     exact⟨fr',Nr,out hq,N0.trans R1⟩
   ·exact hv.elim
 | .exit id,an=>fun Q fr st X a w hr hI hk hv=>wpIn_exit ⟨fr,hr,⟨st,X,Steps.refl hI,hk,rfl,hv⟩,Agr.refl _ _⟩
 | .ret,an=>fun Q fr st X a w hr hI hk hv=>wpIn_ret ⟨fr,hr,⟨st,X,Steps.refl hI,hk,rfl,hv⟩,Agr.refl _ _⟩
 | .scope c,an=>by
  refine fu (c:= .scope c) (V:=fun Q fr st=>jn U P tbl may k0 n N c an.l (fun e fr' st'=>match e with
   | .goto _=>False
   | e=>Q e fr' st') fr st) fun Q fr st X a w hr hI hk hv=>?_
  refine(wpIn_wide (n:=0)).2 (wp_scope_straight ((wpIn_wide (n:=0)).1 (wpIn_mono (dL OT hm c an.l _ fr st X a w hr hI hk hv) fun e a' w' he=>?_)))
  cases e
  case goto l=>obtain⟨_,_,⟨_,_,_,_,_,h⟩,_⟩:=he;exact h.elim
  all_goals exact he
 | .label _,an=>fun Q fr st X a w hr hI hk hv=>wpIn_label ⟨fr,hr,⟨st,X,Steps.refl hI,hk,rfl,hv⟩,Agr.refl _ _⟩
 | .rangeFunc _ _ _ _,an=>fun Q fr st X a w hr hI hk hv=>hv.elim
 | .goto _,an=>fun Q fr st X a w hr hI hk hv=>hv.elim
 | .refuse _,an=>fun Q fr st X a w hr hI hk hv=>hv.elim
end
end
end Go.Proofs.YtfmcaoaaiganbaaGreatDoor.V
namespace Go.Proofs.YtfmcaoaaiganbaaGreatDoor.V
open Go Go.RowKit
open Go.IntKind (i64 u32 u64)
open Enc (enc)
section
section
variable {U:Uni} {P:Program} {tbl:Tb U} {may:List Nat} {k0:Nat}
variable {w0:World} {X0 X:Nat→Nat→Prop} {w:World} {fr:Fr} {st:St U} {n:Nat} {N:List Nat}
theorem CV {t:TypeId} {k:Option Kn} {x:Value} {K:Value→Option Kn→Prop}(h:tx U P t k st K)(hx:KnO st.rs x k):∃q,x= .pointer (some q):=by
 unfold tx at h
 split at h
 ·rename_i id off
  split at h
  ·rename_i g cs T hn
   have hd:den U st.rs (.loc id off)=some x:=hx
   simp only [den,PK.id,hn,bK,Option.some.injEq]at hd
   exact⟨_,hd.symm⟩
  ·exact h.elim
 ·rename_i id path off
  split at h
  ·rename_i tt r s hn
   have hd:den U st.rs (.obj id path off)=some x:=hx
   simp only [den,PK.id,hn,bK,Option.some.injEq]at hd
   exact⟨_,hd.symm⟩
  ·exact h.elim
 ·rename_i id li i off
  split at h
  ·rename_i r hn
   split at h
   ·rename_i L hL
    have hd:den U st.rs (.el id li i off)=some x:=hx
    simp only [den,PK.id,hn,bK,hL]at hd
    split at hd
    ·injection hd with hd;exact⟨_,hd.symm⟩
    ·cases hd
   ·exact h.elim
  ·exact h.elim
 ·exact h.elim
theorem jv {tmps:Array Value}(ht:∀i,tmps.getD i undef=lk fr.g i fr.e)(hS:Sat st.rs X w)(hk:aE st.rs fr st.kn):∀(rs:List ResultVar) {F:List Value→List (Option Kn)→Prop},j7 U P fr st rs F→
 ∃vs ks,F vs ks∧vs.length=ks.length∧(∀j v k,nth vs j=some v→nth ks j=some k→KnO st.rs v k)∧(rs.mapM (j3 tmps)).run P w= .ok vs w
 | [],F,h=>⟨[],[],h,rfl,fun j v k hv=>by simp [nth]at hv,rfl⟩
 | .tmp t::r,F,h=>by
  obtain⟨vs,ks,hF,hl,OF,hr⟩:=jv ht hS hk r h
  refine⟨_,_,hF,by simp [hl],fun j v k hv N3=>?_,?_⟩
  ·cases j with
   | zero=>
    simp only [nth,Option.some.injEq]at hv N3
    subst hv;subst N3
    cases hg:cA (.s t) st.kn with
    | none=>exact trivial
    | some q=>exact hk.get hg
   | succ j=>exact OF j v k hv N3
  ·have h1:(j3 tmps (.tmp t)).run P w= .ok (lk fr.g t fr.e) w:=by rw [← ht];rfl
   rw [List.mapM_cons,Sem.run_bind,h1]
   show(Sem.run P (do let bs ← r.mapM (j3 tmps);pure (lk fr.g t fr.e::bs)) w)=_
   rw [Sem.run_bind,hr]
   rfl
 | .cell a t::r,F,h=>by
  simp only [j7]at h
  have hx:KnO st.rs (lk fr.g a fr.e) (cA (.s a) st.kn):=by
   cases hg:cA (.s a) st.kn with
   | none=>exact trivial
   | some q=>exact hk.get hg
  obtain⟨q,hq⟩:=CV h hx
  obtain⟨v,kv,hF,QM,Oo⟩:=tw hS hk hx h
  obtain⟨vs,ks,hF,hl,OF,hr⟩:=jv ht hS hk r hF
  refine⟨_,_,hF,by simp [hl],fun j u k hv N3=>?_,?_⟩
  ·cases j with
   | zero=>
    simp only [nth,Option.some.injEq]at hv N3
    subst hv;subst N3
    exact QM
   | succ j=>exact OF j u k hv N3
  ·have h2:=Oo w (Kept.refl _ _)
   rw [hq]at h2
   have h1:(j3 tmps (.cell a t)).run P w= .ok v w:=by
    show(do loadVar t (← asAddr (tmps.getD a undef)):Sem Value).run P w=_
    rw [ht,hq]
    exact h2
   rw [List.mapM_cons,Sem.run_bind,h1]
   show(Sem.run P (do let bs ← r.mapM (j3 tmps);pure (v::bs)) w)=_
   rw [Sem.run_bind,hr]
   rfl
theorem v8 {fn:Func} {tmps:Array Value} {vs:List Value}(hr:(fn.results.toList.mapM (j3 tmps)).run P w= .ok vs w):(results fn tmps).run P w= .ok (match vs with | [v]=>v | vs=>.tuple ⟨vs⟩) w:=by
 have hm:(fn.results.mapM (j3 tmps)).run P w= .ok ⟨vs⟩ w:=by
  rw [Array.mapM_eq_mapM_toList]
  simp [hr]
 have T9:results fn tmps=(do let vs ← fn.results.mapM (j3 tmps);pure (if h:vs.size=1 then vs[0]else .tuple vs)):=by
  unfold results j3
  congr 1
 rw [T9,Sem.run_bind,hm]
 cases vs with
 | nil=>rfl
 | cons v r=>
  cases r with
  | nil=>rfl
  | cons u r=>rfl
theorem u5 {a b:Res U}(h:cK a b):cQ a (sW U b)=some b:=by
 cases h
 ·rename_i h
  simp only [cQ,sW,h,Nat.beq_refl]
 ·simp [cQ,sW]
 ·simp [cQ,sW]
theorem lG {G:List (Res U)}:∀ {ms:List Nat} {us:List (Res U)} {L:List (Res U)},gP (nth G) ms=some us→(∀i,i∈ms→∀b,nth G i=some b→∃a,nth L i=some a∧cK a b)→∃L',bJ L ms (aI (sW U) us)=some L'∧L'.length=L.length∧(∀i,i∈ms→nth L' i=nth G i)∧∀i,i ∉ ms→nth L' i=nth L i
 | [],us,L,hM,h=>by
  simp only [gP,Option.some.injEq]at hM
  subst hM
  exact⟨L,rfl,rfl,fun i hi=>(by cases hi),fun _ _=>rfl⟩
 | m::ms,us,L,hM,h=>by
  simp only [gP]at hM
  split at hM
  ·rename_i b bs hb hbs
   injection hM with hM
   subst hM
   obtain⟨a,ha,hr⟩:=h m (List.mem_cons_self ..) b hb
   have hml:=aR ha
   have e:∀j,nth (bR L m b) j=if j=m then some b else nth L j:=fun j=>by
    rw [aZ]
    by_cases hj:j=m
    ·rw [if_pos ⟨hj,hml⟩,if_pos hj]
    ·rw [if_neg (fun hh=>hj hh.1),if_neg hj]
   obtain⟨L',h1,h2,h3,h4⟩:=lG (L:=bR L m b) hbs fun i hi x hx=>by
    rw [e]
    by_cases hj:i=m
    ·subst hj
     rw [hb]at hx
     injection hx with hx
     subst hx
     exact⟨b,by rw [if_pos rfl],cK.refl b⟩
    ·rw [if_neg hj];exact h i (List.mem_cons_of_mem _ hi) x hx
   refine⟨L',?_,by rw [h2];simp,fun i hi=>?_,fun i hi=>?_⟩
   ·simp only [aI,bJ,ha,u5 hr]
    exact h1
   ·by_cases hm:i∈ms
    ·exact h3 i hm
    ·have:i=m:=(List.mem_cons.1 hi).resolve_right hm
     subst this
     rw [h4 i hm,e,if_pos rfl,hb]
   ·rw [List.mem_cons,not_or]at hi
    rw [h4 i hi.2,e,if_neg hi.1]
  ·cases hM
theorem tg {i:Nat}:∀ {l:List Nat} {p q:Nat},posOf i l p=some q→p≤q∧nth l (q - p)=some i
 | [],_,_,h=>by cases h
 | j::r,p,q,h=>by
  simp only [posOf]at h
  split at h
  ·rename_i he
   injection h with h
   subst h
   exact⟨Nat.le_refl _,by rw [Nat.sub_self,Nat.eq_of_beq_eq_true he];rfl⟩
  ·obtain⟨h1,h2⟩:=tg h
   refine⟨by omega,?_⟩
   rw [show q - p=(q - (p+1))+1 by omega]
   exact h2
theorem wy {α β:Type} {f:α→Option β} {l:List α} {r:List β}(h:gP f l=some r) {i:Nat} {a:α}(ha:nth l i=some a):f a=nth r i:=by
 obtain⟨b,h1,h2⟩:=(qx h).2 i a ha
 rw [h1,h2]
theorem Fz {α β:Type} {f:α→Option β} {l:List α} {r:List β}(h:gP f l=some r):r.length=l.length:=(qx h).1
theorem n0 {rs:List (Res U)} {key:Key} {k:Kn}:∀ {l:List (Key×Kn)},oE rs l=true→(key,k)∈l→(∃p v,k= .p p∧den U rs p=some v)∨∃l,k= .ag l∧∀j p,nth l j=some (some p)→∃v,den U rs p=some v
 | [],_,h=>by cases h
 | (a,.p p)::r,h,hm=>by
  simp only [oE]at h
  split at h
  ·rename_i v hv
   rcases List.mem_cons.1 hm with e | hm
   ·injection e with e1 e2;subst e2;exact .inl ⟨p,v,rfl,hv⟩
   ·exact n0 h hm
  ·cases h
 | (a,.t _)::r,h,_=>by cases h
 | (a,.ag l)::r,h,hm=>by
  simp only [oE]at h
  split at h
  ·rename_i hl
   rcases List.mem_cons.1 hm with e | hm
   ·injection e with e1 e2;subst e2
    refine .inr ⟨l,rfl,fun j p hj=>?_⟩
    have:=cr.1 hl _ (gu hj)
    simp only [Da]at this
    split at this
    ·rename_i v hv;exact⟨v,hv⟩
    ·cases this
   ·exact n0 h hm
  ·cases h
 | (a,.f _ _)::r,h,_=>by cases h
theorem mL {key:Key} {k:Kn}:∀ {l:List (Option Kn)} {i:Nat},(key,k)∈rZ i l→∃j,key= .s (i+j)∧nth l j=some (some k)
 | [],_,h=>by cases h
 | none::r,i,h=>by
  obtain⟨j,h1,h2⟩:=mL (l:=r) h
  exact⟨j+1,by rw [h1];congr 1;omega,h2⟩
 | some q::r,i,h=>by
  rcases List.mem_cons.1 h with e | h
  ·injection e with e1 e2;subst e2;exact⟨0,e1,rfl⟩
  ·obtain⟨j,h1,h2⟩:=mL (l:=r) h
   exact⟨j+1,by rw [h1];congr 1;omega,h2⟩
theorem qP {id:Nat} {key:Key} {k:Kn}:∀ {l:List AV} {i:Nat},(key,k)∈IE id i l→∃j p,key= .c id (i+j)∧k= .p p∧nth l j=some (.k p)
 | [],_,h=>by cases h
 | .v _::r,i,h=>by
  obtain⟨j,p,h1,h2,h3⟩:=qP (l:=r) h
  exact⟨j+1,p,by rw [h1];congr 1;omega,h2,h3⟩
 | .k q::r,i,h=>by
  rcases List.mem_cons.1 h with e | h
  ·injection e with e1 e2;exact⟨0,q,e1,e2,rfl⟩
  ·obtain⟨j,p,h1,h2,h3⟩:=qP (l:=r) h
   exact⟨j+1,p,by rw [h1];congr 1;omega,h2,h3⟩
theorem j9 {key:Key} {k:Kn}:∀ {l:List (PR U)} {i:Nat},(key,k)∈zx i l→∃j g az T o p,nth l j=some (.blk g az T)∧key= .c (i+j) o∧k= .p p∧nth az o=some (.k p)
 | [],_,h=>by cases h
 | .blk g az T::r,i,h=>by
  rcases List.mem_append.1 h with h | h
  ·obtain⟨o,p,h1,h2,h3⟩:=qP h
   exact⟨0,g,az,T,o,p,rfl,by rw [h1];simp,h2,h3⟩
  ·obtain⟨j,a,b,c,o,p,h1,h2,h3⟩:=j9 (l:=r) h
   exact⟨j+1,a,b,c,o,p,h1,by rw [h2];congr 1;omega,h3⟩
 | .ob .. ::r,i,h=>by
  obtain⟨j,a,b,c,o,p,h1,h2,h3⟩:=j9 (l:=r) h
  exact⟨j+1,a,b,c,o,p,h1,by rw [h2];congr 1;omega,h3⟩
 | .lst .. ::r,i,h=>by
  obtain⟨j,a,b,c,o,p,h1,h2,h3⟩:=j9 (l:=r) h
  exact⟨j+1,a,b,c,o,p,h1,by rw [h2];congr 1;omega,h3⟩
theorem xS {T:Type} {c:CP} {J:c.T T} {F G:T→AV→Prop}(h:alC c J F)(hg:∀a b,F a b→G a b):alC c J G:=by
 cases c<;>simp only [alC]at h ⊢ <;>first | exact fun x=>hg _ _ (h x) | exact fun x y z=>hg _ _ (h x y z) | exact hg _ _ h
theorem oa {T:Type}:∀ {l:List CP} {J:AU l T} {F G:T→List AV→Prop},z4 l J F→(∀a b,F a b→G a b)→z4 l J G
 | [],_,_,_,h,hg=>hg _ _ h
 | c::l,J,F,G,h,hg=>xS (c:=c) h fun _ _ h=>oa h fun _ _ h=>hg _ _ h
theorem Gr {T:Type} {a:AP} {J:a.T U T} {F G:T→AA→Prop}(h:alA a J F)(hg:∀a b,F a b→G a b):alA a J G:=by
 cases a with
 | one c=>exact xS (c:=c) h fun _ _ h=>hg _ _ h
 | agg l=>exact oa (l:=l) h fun _ _ h=>hg _ _ h
 | enc tt=>exact fun x=>hg _ _ (h x)
theorem tR {T:Type}:∀ {l:List AP} {J:A5 U l T} {F G:T→List AA→Prop},vc l J F→(∀a b,F a b→G a b)→vc l J G
 | [],_,_,_,h,hg=>hg _ _ h
 | c::l,J,F,G,h,hg=>Gr (a:=c) h fun _ _ h=>tR h fun _ _ h=>hg _ _ h
theorem Gp {T:Type} {p:RP} {J:p.T U T} {F G:T→PR U→Prop}(h:alR p J F)(hg:∀a b,F a b→G a b):alR p J G:=by
 cases p with
 | ob t=>exact fun r s=>hg _ _ (h r s)
 | blk l T=>exact fun g=>oa (h g) fun _ _ h=>hg _ _ h
 | lst t own T=>exact fun A c l=>hg _ _ (h A c l)
theorem tQ {T:Type}:∀ {l:List RP} {J:DQ U l T} {F G:T→List (PR U)→Prop},u9 l J F→(∀a b,b.length=l.length→F a b→G a b)→u9 l J G
 | [],_,_,_,h,hg=>hg _ _ rfl h
 | c::l,J,F,G,h,hg=>Gp (p:=c) h fun _ _ h=>tQ h fun _ _ hl h=>hg _ _ (by simp [hl]) h
theorem wY {bE rets:List Nat} {Q:Ou U→Prop} {v:Value} {k:Option Kn} {Qy:List (Res U)} {X':Nat→Nat→Prop} {w':World}(h:KY U k0 bE rets Q v k st)(Xa:Qy.length=k0)(hs:Steps w k0 X bE ⟨Qy,[],[]⟩ X st X' w')(hk:aE st.rs fr st.kn)(hv:k=some .pan∨KnO st.rs v k)(Pv:∀i,i∈bE→i<k0):
 ∃out rs' X'',jS k v=jS out.kr out.res∧Q out∧bJ Qy bE out.upd=some rs'∧oT Qy bE X w out w' rs' X'':=by
 unfold KY at h
 split at h
 case h_2=>exact h.elim
 rename_i us ns hus hns Pc
 simp only [Bool.and_eq_true]at Pc
 obtain⟨SW,P6⟩:=Pc
 have SW:∀i,i∈rets→k0≤i:=fun i hi=>Nat.le_of_ble_eq_true (cr.1 SW i hi)
 have P6:=lY P6
 obtain⟨L,hL,cL,hl⟩:=hs.md
 have Pa:∀i,i<k0→i ∉ bE→nth st.rs i=nth Qy i∧X' i=X i:=by
  intro i hi hm
  refine hl i (by simp only [];omega) fun QK=>?_
  rcases cL i QK with h | h
  ·exact hm h
  ·omega
 obtain⟨rs',OU,abk,Sn,Wm⟩:=lG (L:=Qy) hus fun i hi b hb=>by
  obtain⟨a,ha⟩:=cm (l:=Qy) (i:=i) (by rw [Xa];exact Pv i hi)
  obtain⟨b',SJ,hr⟩:=hs.root i a ha
  rw [hb]at SJ
  injection SJ with SJ
  subst SJ
  exact⟨a,ha,hr⟩
 have TX:∀i,i<k0→nth rs' i=nth st.rs i:=by
  intro i hi
  by_cases hm:i∈bE
  ·exact Sn i hm
  ·rw [Wm i hm,(Pa i hi hm).1]
 have hnl:ns.length=rets.length:=Fz hns
 have TZ:rs'.length=k0:=by rw [abk,Xa]
 have Wn:∀i j,lW k0 rets i=some j→nth (rs'++ns) j=nth st.rs i:=by
  intro i j Og
  unfold lW at Og
  split at Og
  ·rename_i hb
   have hb:i<k0:=by simpa [Nat.blt_eq]using hb
   injection Og with Og
   subst Og
   rw [bu,if_pos (by omega),TX i hb]
  ·simp only [Option.map_eq_some_iff]at Og
   obtain⟨p,hp,rfl⟩:=Og
   obtain⟨_,NN⟩:=tg hp
   rw [Nat.sub_zero]at NN
   rw [bu,if_neg (by omega),show k0+p - rs'.length=p by omega,← wy hns NN]
 have Qn:∀ {p q:PK} {u:Value},p.ren (lW k0 rets)=some q→den U st.rs p=some u→den U (rs'++ns) q=some u:=by
  intro p q u hp hd
  have h1:=Wn _ _ (PK.uC hp)
  unfold den at hd ⊢
  rw [h1,← hd]
  cases p<;>simp only [PK.ren,Option.map_eq_some_iff]at hp<;>obtain⟨i,hi,rfl⟩:=hp<;>simp only [PK.id]<;>cases nth st.rs _<;>first | rfl | (rename_i r;cases r<;>rfl)
 have Ww:∀ {v:Value} {k k':Kn},k.ren (lW k0 rets)=some k'→g9 st.rs v k→g9 (rs'++ns) v k':=by
  intro v k k' hk hv
  cases k with
  | pan=>exact hv.elim
  | p p=>
   simp only [Kn.ren,Option.map_eq_some_iff]at hk
   obtain⟨q,hq,rfl⟩:=hk
   exact Qn hq hv
  | w p n=>
   simp only [Kn.ren,Option.map_eq_some_iff]at hk
   obtain⟨q,hq,rfl⟩:=hk
   obtain⟨a,c,h1,h2⟩:=hv
   exact⟨a,c,Qn hq h1,h2⟩
  | t l=>
   simp only [Kn.ren,Option.some.injEq]at hk
   subst hk
   obtain⟨vs,e,hh⟩:=hv
   refine⟨vs,e,fun j q hj=>?_⟩
   obtain⟨p,hp,hq⟩:=dh hj
   obtain⟨u,hu,hd⟩:=hh j p hp
   exact⟨u,hu,Qn hq hd⟩
  | ag l=>
   simp only [Kn.ren,Option.some.injEq]at hk
   subst hk
   obtain⟨vs,e,hh⟩:=hv
   refine⟨vs,e,fun j q hj=>?_⟩
   obtain⟨p,hp,hq⟩:=dh hj
   obtain⟨u,hu,hd⟩:=hh j p hp
   exact⟨u,hu,Qn hq hd⟩
  | f a b=>
   simp only [Kn.ren,Option.some.injEq]at hk
   subst hk
   obtain⟨fn,fs,cs,e,hl,h1,h2⟩:=hv
   refine⟨fn,fs,cs,e,by simpa using hl,fun j q hj=>?_,fun j q hj=>?_⟩
   ·obtain⟨p,hp,hq⟩:=dh hj
    obtain⟨u,hu,hd⟩:=h1 j p hp
    exact⟨u,hu,Qn hq hd⟩
   ·obtain⟨p,hp,hq⟩:=dh hj
    obtain⟨u,hu,hd⟩:=h2 j p hp
    exact⟨u,hu,Qn hq hd⟩
 let X'':Nat→Nat→Prop:=fun i=>if i<k0 then X' i else match nth rets (i - k0)with
  | some r=>X' r
  | none=>fun _=>False
 have hX:∀i,i<k0→X'' i=X' i:=fun i hi=>if_pos hi
 have hXr:∀i r,¬i<k0→nth rets (i - k0)=some r→X'' i=X' r:=fun i r hi hr=>by
  show(if i<k0 then _ else _)=_
  rw [if_neg hi,hr]
 have So:∀i,i<(rs'++ns).length→∃r,X'' i=X' r∧nth (rs'++ns) i=nth st.rs r∧r<st.rs.length∧((i<k0∧r=i)∨(¬i<k0∧k0≤r∧nth rets (i - k0)=some r)):=by
  intro i hi
  by_cases h1:i<k0
  ·refine⟨i,hX i h1,by rw [bu,if_pos (by omega),TX i h1],?_,.inl ⟨h1,rfl⟩⟩
   have:=hs.len
   simp only at this
   omega
  ·simp at hi
   obtain⟨r,hr⟩:=cm (l:=rets) (i:=i - k0) (by omega)
   have hn:=wy hns hr
   obtain⟨y,hy⟩:=cm (l:=ns) (i:=i - k0) (by omega)
   rw [hy]at hn
   exact⟨r,hXr i r h1 hr,by rw [bu,if_neg (by omega),show i - rs'.length=i - k0 by omega,hy,hn],aR hn,.inr ⟨h1,SW r (gu hr),hr⟩⟩
 refine⟨_,rs',X'',(tD ..).symm,h,OU,⟨⟨fun i r hr=>?_,fun i j hi hj Og k Uy=>?_⟩,hs.inv.ch,fun i hi hm=>?_,fun i hm k Uy=>?_,fun i h1 h2 k Uy=>?_,?_,fun key q hq hns=>?_⟩⟩
 ·obtain⟨m,e1,e2,_⟩:=So i (aR hr)
  rw [e1]
  exact hs.inv.sat.res m r (by rw [← e2];exact hr)
 ·obtain⟨a,a1,a2,a3,a4⟩:=So i hi
  obtain⟨b,b1,b2,b3,b4⟩:=So j hj
  rw [a1]at Uy
  rw [b1]
  refine hs.inv.sat.dis a b a3 b3 (fun VM=>?_) k Uy
  subst VM
  rcases a4 with⟨a5,a6⟩ | ⟨a5,a6,a7⟩<;>rcases b4 with⟨b5,b6⟩ | ⟨b5,b6,b7⟩
  ·exact Og (a6.symm.trans b6)
  ·omega
  ·omega
  ·have inj:∀(l:List Nat)(x y r:Nat),l.Nodup→nth l x=some r→nth l y=some r→x=y:=by
    intro l
    induction l with
    | nil=>intro x y r _ h;simp [nth]at h
    | cons z l ih=>
     intro x y r hn h1 h2
     rw [List.nodup_cons]at hn
     cases x with
     | zero=>
      simp only [nth,Option.some.injEq]at h1
      subst h1
      cases y with
      | zero=>rfl
      | succ y=>exact absurd (gu (l:=l) h2) hn.1
     | succ x=>
      cases y with
      | zero=>
       simp only [nth,Option.some.injEq]at h2
       subst h2
       exact absurd (gu (l:=l) h1) hn.1
      | succ y=>rw [ih x y r hn.2 h1 h2]
   have:=inj rets _ _ _ P6 a7 b7
   omega
 ·rw [hX i (by omega)]
  exact(Pa i (by omega) hm).2
 ·rw [hX i (Pv i hm)]at Uy
  exact hs.inv.old i (Pv i hm) k Uy
 ·obtain⟨m,e1,e2,e3,e4⟩:=So i (by simp only [List.length_append];simp only at h2;omega)
  rw [e1]at Uy
  rcases e4 with⟨e5,e6⟩ | ⟨e5,e6,_⟩
  ·omega
  ·exact hs.inv.new m e6 e3 k Uy
 ·rcases hv with rfl | hv
  ·exact .inl rfl
  right
  cases k with
  | none=>exact trivial
  | some k=>
   show KnO _ v (k.ren _)
   cases hkr:k.ren (lW k0 rets)with
   | none=>exact trivial
   | some k'=>exact Ww hkr hv
 ·obtain⟨i0,i',o',k1,⟨rfl,e2⟩ | ⟨rfl,e2⟩,e3,e4⟩:=iV hq
  ·obtain⟨VD,_⟩:=dq e2
   obtain⟨g,cs,T,u,q1,q2,q3⟩:=hk _ _ VD
   exact⟨g,cs,T,u,by show nth (rs'++ns) _=_;rw [Wn _ _ e3];exact q1,q2,Ww e4 q3⟩
  ·obtain⟨VD,_⟩:=dq e2
   obtain⟨t,r,s,q1,q2⟩:=hk _ _ VD
   exact⟨t,r,s,by show nth (rs'++ns) _=_;rw [Wn _ _ e3];exact q1,Ww e4 q2⟩
theorem BS {fn:Func} {rets:List Nat} {Q:Ou U→Prop} {Qy:List (Res U)} {bE:List Nat} {kn0:List (Key×Kn)} {a':Act} {w':World} {st':St U} {X':Nat→Nat→Prop}(TZ:Qy.length=k0)(Pv:∀i,i∈bE→i<k0)(hr:Rep n fr a')(hs:Steps w k0 X bE ⟨Qy,kn0,[]⟩ X st' X' w')(hk:aE st'.rs fr st'.kn)
 (T9:wc U P k0 bE rets Q fn fr st'):∃v,(results fn a'.tmps).run P w'= .ok v w'∧bP Qy bE X w Q (.returned v) w':=by
 obtain⟨vs,ks,hF,hlen,QM,Oo⟩:=jv hr.get hs.inv.sat hk _ T9
 refine⟨_,v8 Oo,?_⟩
 have hs':Steps w k0 X bE ⟨Qy,[],[]⟩ X st' X' w':=⟨hs.inv,hs.len,hs.md,hs.root⟩
 have go:∀ {v k},FQ U k0 bE rets Q v k st'→KnO st'.rs v k→∃out rs' X',Ending.returned v=jS out.kr out.res∧Q out∧bJ Qy bE out.upd=some rs'∧oT Qy bE X w out w' rs' X':=by
  intro v k RZ W9
  obtain⟨out,rs',X'',h1,h2,h3,h4⟩:=wY RZ TZ hs' hk (.inr W9) Pv
  exact⟨out,rs',X'',by rw [← h1];cases k with | none=>rfl | some k=>cases k<;>first | rfl | exact W9.elim,h2,h3,h4⟩
 have tup:∀ {vs:List Value} {ks:List (Option Kn)},vs.length=ks.length→(∀j v k,nth vs j=some v→nth ks j=some k→KnO st'.rs v k)→KnO st'.rs (.tuple ⟨vs⟩) (some (.t (aI iG ks))):=by
  intro vs ks hlen QM
  refine⟨⟨vs⟩,rfl,fun j p hj=>?_⟩
  rw [bo]at hj
  cases hn:nth ks j with
  | none=>rw [hn]at hj;cases hj
  | some k=>
   rw [hn]at hj
   injection hj with hj
   obtain⟨v,hv⟩:=cm (l:=vs) (i:=j) (by rw [hlen];exact aR hn)
   refine⟨v,by rw [aK]at hv;simpa using hv,?_⟩
   have:=QM j v k hv hn
   unfold iG at hj
   split at hj
   ·injection hj with hj;subst hj;exact this
   ·cases hj
 cases vs with
 | nil=>
  cases ks with
  | nil=>exact go hF (tup rfl QM)
  | cons _ _=>simp at hlen
 | cons v r=>
  cases ks with
  | nil=>simp at hlen
  | cons k s=>
   cases r with
   | nil=>
    cases s with
    | nil=>exact go hF (QM 0 v k rfl rfl)
    | cons _ _=>simp at hlen
   | cons u r=>
    cases s with
    | nil=>simp at hlen
    | cons _ _=>exact go hF (tup hlen QM)
theorem HL {f:Nat} {fn:Func} {c:Ctr U} {V:Code→(Ou U→Prop)→Fr→St U→Prop} {W:List Value→List (Option Kn)→List (Res U)→List (Key×Kn)→(Ou U→Prop)→Prop}(hf:P.funcs[f]? =some fn)
 (hV:∀(code:Code)(Q:Ou U→Prop)(Qy:List (Res U))(X:Nat→Nat→Prop)(w:World)(kn:List (Key×Kn))(fr:Fr)(a:Act),Qy.length=c.res.length→Inv w c.res.length X c.bE Qy X w→Rep fn.ntmps fr a→aE Qy fr kn→fr.ds= []→V code Q fr ⟨Qy,kn,[]⟩→code.wpIn (WF none) 0 P (bodyPostM (WF none) 0 P fn (bP Qy c.bE X w Q)) a w)
 (hW:∀args ks rs kc Q,W args ks rs kc Q→∃code,fn.body=some code∧Nat.ble args.length fn.ntmps=true∧oE rs (rZ 0 ks++kc)=true∧V code Q ⟨num 0 args,fun _=>undef,[]⟩ ⟨rs,rZ 0 ks++kc,[]⟩)
 (h:vc c.args c.body fun B az=>u9 c.res B fun B ps=>∀Q:Ou U→Prop,B Q→uS (dy ps) (W (aI (qU (aI PR.iP ps)) az) (aI Du az) (dy ps) (zx 0 ps++uN 0 ps) Q)):LV U P f c:=by
 refine tR h fun B az h=>tQ h fun B ps hl h=>?_
 intro Q hQ X w hsat hlkp
 have h:=iW (fun r hr=>by
  obtain⟨j,hj,he⟩:=List.mem_iff_getElem.1 hr
  exact⟨_,_,hsat.res j r (by rw [aK,List.getElem?_eq_getElem hj,he])⟩) (h Q hQ)
 obtain⟨code,hb,hnt,hkd,h⟩:=hW _ _ _ _ _ h
 have SV:(aI (qU (aI PR.iP ps)) az).length≤fn.ntmps:=Nat.le_of_ble_eq_true hnt
 have TZ:(dy ps).length=c.res.length:=by simp [hl]
 have hI:Inv w c.res.length X c.bE (dy ps) X w:=⟨hsat,Ch.refl _ _,fun i _ k hk=>.inl hk,fun i h1 h2=>by omega,by omega⟩
 generalize PL:aI (qU (aI PR.iP ps)) az=args at h SV ⊢
 have OF:aE (dy ps) ⟨num 0 args,fun _=>undef,[]⟩ (rZ 0 (aI Du az)++(zx 0 ps++uN 0 ps)):=by
  intro key k NK
  rcases n0 hkd NK with⟨p,v,rfl,hd⟩ | ⟨l,rfl,hd⟩
  rotate_left
  ·rcases List.mem_append.1 NK with NK | NK
   ·obtain⟨j,rfl,hj⟩:=mL NK
    rw [Nat.zero_add]
    rw [bo]at hj
    cases ha:nth az j with
    | none=>rw [ha]at hj;cases hj
    | some a=>
     rw [ha]at hj
     injection hj with hj
     obtain⟨as',rfl,rfl⟩:∃as',a= .agg as'∧l=aI avK as':=by
      unfold Du at hj
      split at hj
      ·cases hj
      ·cases hj
      ·split at hj
       ·injection hj with hj;injection hj with hj;exact⟨_,rfl,hj.symm⟩
       ·cases hj
     have hv:nth args j=some (.agg ⟨aI (jb (aI PR.iP ps)) as'⟩):=by rw [← PL,bo,ha];rfl
     have NO:=aR hv
     refine⟨⟨aI (jb (aI PR.iP ps)) as'⟩,?_,fun j' k hk=>?_⟩
     ·show lk _ j (num 0 args)=_
      rw [qA,dif_pos ⟨Nat.zero_le _,by simpa using NO⟩]
      rw [aK,List.getElem?_eq_getElem NO]at hv
      simpa using hv
     ·obtain⟨u,hu⟩:=hd j' k hk
      refine⟨u,?_,hu⟩
      rw [bo]at hk
      cases hn:nth as' j' with
      | none=>rw [hn]at hk;cases hk
      | some b=>
       rw [hn]at hk
       injection hk with hk
       cases b with
       | v x=>cases hk
       | k p=>
        injection hk with hk
        subst hk
        have h9:nth (aI (jb (aI PR.iP ps)) as') j'=some u:=by
         rw [bo,hn]
         show some ((den U (aI PR.iP ps) p).getD undef)=_
         rw [← pE,hu];rfl
        rw [aK]at h9
        simpa using h9
   ·rcases List.mem_append.1 NK with NK | NK
    ·obtain⟨_,_,_,_,_,_,_,_,h3,_⟩:=j9 NK
     cases h3
    ·have h9:=iU NK
     obtain⟨_,_,_,_,_,_,_,_,_,_,h3,h4⟩:=h9
     cases h4
  rcases List.mem_append.1 NK with NK | NK
  ·obtain⟨j,rfl,hj⟩:=mL NK
   rw [Nat.zero_add]
   rw [bo]at hj
   cases ha:nth az j with
   | none=>rw [ha]at hj;cases hj
   | some a=>
    rw [ha]at hj
    injection hj with hj
    have ha2:a= .one (.k p):=by
     unfold Du at hj
     split at hj
     ·injection hj with hj;injection hj with hj;rw [hj]
     ·cases hj
     ·split at hj<;>cases hj
    subst ha2
    show den U (dy ps) p=some (lk _ j (num 0 args))
    have hv:nth args j=some v:=by
     rw [← PL,bo,ha]
     show some ((den U (aI PR.iP ps) p).getD undef)=_
     rw [← pE,hd];rfl
    have NO:=aR hv
    rw [qA,dif_pos ⟨Nat.zero_le _,by simpa using NO⟩,hd]
    rw [aK,List.getElem?_eq_getElem NO]at hv
    rw [← hv]
    simp
  rcases List.mem_append.1 NK with NK | NK
  rotate_left
  ·have h0:=hlkp _ _ NK
   obtain⟨_,_,_,_,_,_,_,_,_,_,rfl,_⟩:=iU NK
   exact h0
  ·obtain⟨j,g,as',T,o,q,h1,h2,h3,h4⟩:=j9 NK
   injection h3 with h3
   subst h3
   rw [h2,Nat.zero_add]
   refine⟨g,aI (jb (aI PR.iP ps)) as',T,v,?_,?_,hd⟩
   ·rw [iY,h1];rfl
   ·rw [bo,h4]
    show some ((den U (aI PR.iP ps) p).getD undef)=_
    rw [← pE,hd];rfl
 refine(callsIn_wide (n:=0)).1 (callsIn_of_wp_marks (F:=WF none) hf hb trivial ?_)
 have Qz:Rep fn.ntmps ⟨num 0 args,fun _=>undef,[]⟩ {tmps:=(⟨args⟩:Array Value)++Array.replicate (fn.ntmps - (⟨args⟩:Array Value).size) undef,defers:= []}:=by
  refine⟨by simp;omega,fun i=>?_,rfl⟩
  rw [qA]
  simp only [Nat.zero_le,Nat.sub_zero,true_and,Array.getD_eq_getD_getElem?]
  by_cases hi:i<args.length
  ·rw [dif_pos hi,Array.getElem?_append_left (by simpa using hi)]
   simp [hi]
  ·rw [dif_neg hi,Array.getElem?_append_right (by simpa using hi)]
   rw [Array.getElem?_replicate]
   split<;>rfl
 exact hV code Q (dy ps) X w _ _ _ TZ hI Qz OF rfl h
theorem HM {f:Nat} {fn:Func} {an:An} {rets:List Nat} {c:Ctr U}(hf:P.funcs[f]? =some fn)(hm:P.follows .mixedOrders=true)(OT:∀f c,tbl.c f=some c→LV U P f c∧bW P f=true)(Pv:iK (fun i=>Nat.blt i c.res.length) c.bE=true)(h:Vc2 U P tbl N fn an rets c):LV U P f c:=by
 have RX:∀i,i∈c.bE→i<c.res.length:=fun i hi=>by simpa [Nat.blt_eq]using cr.1 Pv i hi
 refine HL (V:=fun code Q fr st=>jn U P tbl c.bE c.res.length fn.ntmps N code an (fun e fr st=>match fr.ds,e with
  | [],.normal=>wc U P c.res.length c.bE rets Q fn fr st
  | [],.ret=>wc U P c.res.length c.bE rets Q fn fr st
  | [],.panic [⟨v,false,false⟩]=>FQ U c.res.length c.bE rets Q v (some .pan) st
  | _,_=>False) fr st) hf ?_ (fun args ks rs kc Q h=>?_) h
 ·intro code Q Qy X w kn fr a TZ hI Qz OF PG h
  refine wpIn_mono (dL OT hm code an _ _ _ X _ w Qz hI OF h) fun e a' w' he=>?_
  cases e
  case normal=>
   obtain⟨fr',hr,⟨st',X',g1,g2,g3,g4⟩,_⟩:=he
   have g3:fr'.ds= []:=g3.trans PG
   rw [g3]at g4
   show LeavesInM (WF none) 0 P fn a'.tmps _ a'.defers .returning w'
   rw [hr.defers,g3]
   exact BS TZ RX hr g1 g2 g4
  case ret=>
   obtain⟨fr',hr,⟨st',X',g1,g2,g3,g4⟩,_⟩:=he
   have g3:fr'.ds= []:=g3.trans PG
   rw [g3]at g4
   show LeavesInM (WF none) 0 P fn a'.tmps _ a'.defers .returning w'
   rw [hr.defers,g3]
   exact BS TZ RX hr g1 g2 g4
  case panic ch=>
   obtain⟨fr',hr,⟨st',X',g1,g2,g3,g4⟩,_⟩:=he
   have g3:fr'.ds= []:=g3.trans PG
   rw [g3]at g4
   rcases ch with _ | ⟨⟨v,_ | _,_ | _⟩,_ | ⟨c2,r⟩⟩<;>first | exact g4.elim | skip
   obtain⟨out,rs',X'',h1,h2,h3,h4⟩:=wY g4 TZ ⟨g1.inv,g1.len,g1.md,g1.root⟩ g2 (.inl rfl) RX
   show LeavesInM (WF none) 0 P fn a'.tmps _ a'.defers (.panicking [⟨v,false,false⟩]) w'
   rw [hr.defers,g3]
   exact⟨out,rs',X'',h1,h2,h3,h4⟩
  case outgrown=>exact he.elim
  all_goals
   obtain⟨fr',hr,⟨st',X',g1,g2,g3,g4⟩,_⟩:=he
   have g3:fr'.ds= []:=g3.trans PG
   rw [g3]at g4
   exact g4.elim
 ·unfold Lr at h
  split at h
  case h_2=>exact h.elim
  rename_i code hb Pc
  simp only [Bool.and_eq_true]at Pc
  exact⟨code,hb,Pc.1,Pc.2,h⟩
def Cq {U:Uni}:List (Nat×Ctr U)→Nat→Option (Ctr U)
 | [],_=>none
 | (g,c)::r,f=>match Nat.beq g f with
  | true=>some c
  | false=>Cq r f
abbrev aU {U:Uni}(l:List (Nat×Ctr U)):Tb U:=⟨Cq l,.bool,[]⟩
def zl(U:Uni)(P:Program):List (Nat×Ctr U)→Prop
 | []=>True
 | (f,c)::r=>LV U P f c∧zl U P r
theorem sX {c:Ctr U} {f:Nat}:∀ {tb:List (Nat×Ctr U)},Cq tb f=some c→zl U P tb→iK (fun p=>bW P p.1) tb=true→LV U P f c∧bW P f=true
 | [],h,_,_=>by cases h
 | (g,d)::r,h,ha,hb=>by
  unfold Cq at h
  have hc:=cr.1 hb
  split at h
  ·rename_i he
   injection h with h
   rw [← h,← Nat.eq_of_beq_eq_true he]
   exact⟨ha.1,hc _ (List.mem_cons_self ..)⟩
  ·exact sX h ha.2 (cr.2 fun x hx=>hc x (List.mem_cons_of_mem _ hx))
theorem verify {f:Nat} {fn:Func} {an:An} {rets:List Nat} {c:Ctr U} {tb:List (Nat×Ctr U)} {sh:Sh} {al:List (Nat×List PK×List PK)}(hf:P.funcs[f]? =some fn)(hm:P.follows .mixedOrders=true)(ht:zl U P tb)(hb:(iK (fun p=>bW P p.1) tb && iK (fun i=>Nat.blt i c.res.length) c.bE)=true)(h:Vc2 U P ⟨Cq tb,sh,al⟩ N fn an rets c):LV U P f c:=by
 rw [Bool.and_eq_true]at hb
 exact HM hf hm (fun f c hfc=>sX hfc ht hb.1) hb.2 h
theorem bP.pu {rs:List (Res U)} {X:Nat→Nat→Prop} {w w':World} {Q:Ou U→Prop} {v:Value} {k:Option Kn}(hs:Sat rs X w)(q:Pu w w')(hQ:Q ⟨v,k,[],[],[]⟩)(hk:KnO rs v k):bP rs [] X w Q (.returned v) w':=by
 have hs':Sat (rs++ []) X w':=by
  rw [List.append_nil]
  exact⟨fun i r hr=>(hs.res i r hr).ch q (fun _ _ h=>h),hs.dis⟩
 refine⟨_,rs,X,fc hk,hQ,rfl,⟨hs',q.mono fun k hk=>hk.elim,fun _ _ _=>rfl,fun i hi=>(by cases hi),fun i h1 h2=>by simp at h2;omega,.inr (by simpa using hk),fun _ k hk=>by cases hk⟩⟩
theorem bP.one {t:Nat} {r:Nat→Nat} {s s':U.ty t} {X:Nat→Nat→Prop} {w w':World} {Q:Ou U→Prop} {v:Value} {k:Option Kn} {Z:Nat→Prop}(q:Ch (X 0) w w')(hp:U.pred t r s' Z w')(hz:∀k,Z k→X 0 k∨w.heap.size≤k)(hQ:Q ⟨v,k,[.ob t s'],[],[]⟩)(hk:KnO [.ob t r s'] v k):bP [.ob t r s] [0] X w Q (.returned v) w':=by
 have OU:bJ [Res.ob t r s] [0] [.ob t s']=some [.ob t r s']:=by simp [bJ,cQ,nth,bR]
 refine⟨_,_,fun i=>if i=0 then Z else X i,fc hk,hQ,OU,⟨⟨fun i r' hr=>?_,fun i j hi hj Og=>?_⟩,q.mono fun k hk=>⟨0,by simp,hk⟩,fun i hi hm=>?_,fun i hi k hk=>?_,fun i h1 h2=>by simp at h1 h2;omega,.inr hk,fun _ k hk=>by cases hk⟩⟩
 ·cases i with
  | zero=>simp only [List.append_nil,nth,Option.some.injEq]at hr;subst hr;exact hp
  | succ i=>simp [nth]at hr
 ·simp at hi hj;omega
 ·simp at hi hm;omega
 ·simp at hi;subst hi;exact hz k hk
theorem bP.new {t:Nat} {r:Nat→Nat} {s':U.ty t} {X:Nat→Nat→Prop} {w w':World} {Q:Ou U→Prop} {v:Value} {k:Option Kn} {Z:Nat→Prop}(q:Pu w w')(hp:U.pred t r s' Z w')(hz:∀k,Z k→w.heap.size≤k)(hQ:Q ⟨v,k,[],[.ob t r s'],[]⟩)(hk:KnO [.ob t r s'] v k):bP [] [] X w Q (.returned v) w':=by
 refine⟨_,[],fun i=>if i=0 then Z else X i,fc hk,hQ,rfl,⟨⟨fun i r' hr=>?_,fun i j hi hj Og=>?_⟩,q.mono fun k hk=>hk.elim,fun i hi hm=>?_,fun i hi=>(by cases hi),fun i h1 h2 k hk=>?_,.inr hk,fun _ k hk=>by cases hk⟩⟩
 ·cases i with
  | zero=>simp only [List.nil_append,nth,Option.some.injEq]at hr;subst hr;exact hp
  | succ i=>simp [nth]at hr
 ·simp at hi hj;omega
 ·simp at hi
 ·simp at h2;subst h2;exact hz k hk
theorem ak {a b:Prop}(h:a)(k:a→b):a∧b:=⟨h,k h⟩
theorem KnO.tup {U:Uni} {rs:List (Res U)} {vs:Array Value}:∀(l:List (Option PK)),(∀o∈l,o=none)→KnO rs (.tuple vs) (some (.t l)):=fun l h=>⟨vs,rfl,fun j k hj=>by have:=h _ (gu hj);cases this⟩
theorem allEq {α:Sort _} {a:α} {F:α→Prop}(h:F a):∀x,x=a→F x:=fun _ e=>e▸h
theorem ai {α:Type} {a b:α} {l m:List α}(h:a=b)(k:l=m):a::l=b::m:=by rw [h,k]
theorem bS {α:Type} {F:(α→Prop)→Prop} {G:α→Prop}(e:α)(h1:F (fun x=>x=e))(h2:G e):∃J:α→Prop,F J∧∀(_:Nat→Value)(x:α),J x→G x:=⟨_,h1,fun _ _ h=>h▸h2⟩
theorem o7 {α:Type} {F:(α→Prop)→Prop} {G:α→Prop}(h:F G):∃J:α→Prop,F J∧∀(_:Nat→Value)(x:α),J x→G x:=⟨_,h,fun _ _ h=>h⟩
theorem bG {U:Uni} {Q:Ou U→Prop} {a b:Bool} {k:Option Kn} {u:List (Upd U)} {n:List (Res U)} {kc:List (Key×Kn)}(h:Q ⟨.bool a,k,u,n,kc⟩)(h1:a=b):Q ⟨.bool b,k,u,n,kc⟩:=h1▸h
theorem fk {U:Uni} {Q:Ou U→Prop} {i:IntKind} {a b:Int} {k:Option Kn} {u:List (Upd U)} {n:List (Res U)} {kc:List (Key×Kn)}(h:Q ⟨.int i a,k,u,n,kc⟩)(h1:a=b):Q ⟨.int i b,k,u,n,kc⟩:=h1▸h
theorem aL {U:Uni} {Q:Ou U→Prop} {a b:Value} {k:Option Kn} {u u':List (Upd U)} {n n':List (Res U)} {kc:List (Key×Kn)}(h:Q ⟨a,k,u,n,kc⟩)(h1:a=b)(h2:u=u')(h3:n=n'):Q ⟨b,k,u',n',kc⟩:=by rw [← h1,← h2,← h3];exact h
end
theorem bj {a b:Int}(h:a=b):Value.int .i64 a=Value.int .i64 b:=congrArg _ h
theorem bU {a b:Int}(h:a=b):Value.int .u32 a=Value.int .u32 b:=congrArg _ h
theorem eQb {a b:Bool}(h:a=b):Value.bool a=Value.bool b:=congrArg _ h
end
end Go.Proofs.YtfmcaoaaiganbaaGreatDoor.V
namespace Go.Proofs.YtfmcaoaaiganbaaGreatDoor
open Go.Proofs.Tryz (prog)
open Go Go.RowKit V
open Go.IntKind (i64 u32 u64)
open Enc (enc)
structure bT where
 k:Int
 a:Int
 b:Int
 c:Int
 v:Int
 wA:Option Addr
 wN:Nat
 wC:Nat
instance:Enc bT:=⟨fun x=>[.int .i64 x.k,.int .i64 x.a,.int .i64 x.b,.int .i64 x.c,.int .u32 x.v,.slice x.wA x.wN x.wC],6,fun _=>rfl,by simp [Value.oneCell'],by omega⟩
def UEl:Nat→Type
 | 0=>I64
 | 1=>U32
 | 2=>U8
 | 3=>Bl
 | 4=>Ent
 | 5=>bT
 | 6=>Fl
 | 7=>Hd
 | _=>I64
@[reducible] def UEn:(t:Nat)→Enc (UEl t)
 | 0=>inferInstanceAs (Enc I64)
 | 1=>inferInstanceAs (Enc U32)
 | 2=>inferInstanceAs (Enc U8)
 | 3=>inferInstanceAs (Enc Bl)
 | 4=>inferInstanceAs (Enc Ent)
 | 5=>inferInstanceAs (Enc bT)
 | 6=>inferInstanceAs (Enc Fl)
 | 7=>inferInstanceAs (Enc Hd)
 | _+8=>inferInstanceAs (Enc I64)
def UDf:(t:Nat)→UEl t
 | 0=>I64.mk 0
 | 1=>U32.mk 0
 | 2=>U8.mk 0
 | 3=>Bl.mk false
 | 4=>Ent.free
 | 5=>⟨0,0,0,0,0,none,0,0⟩
 | 6=>Fl.zero
 | 7=>⟨none,0,0⟩
 | _+8=>I64.mk 0
def GU:(t:Nat)→List Value→Option (UEl t)
 | 0,[.int .i64 x]=>some (I64.mk x)
 | 1,[.int .u32 x]=>some (U32.mk x)
 | 2,[.int .u8 x]=>some (U8.mk x)
 | 3,[.bool x]=>some (Bl.mk x)
 | 4,[.int .i64 a,.int .i64 b,.int .i64 c,.int .i64 d,.bool e]=>some (Ent.mk a b c d e)
 | 5,[.int .i64 a,.int .i64 b,.int .i64 c,.int .i64 d,.int .u32 e,.slice x y z]=>some (bT.mk a b c d e x y z)
 | 7,[.slice x y z]=>some (Hd.mk x y z)
 | _,_=>none
theorem fO {t:Nat} {cs:List Value} {x:UEl t}(h:GU t cs=some x):(UEn t).enc x=cs:=by
 unfold GU at h
 split at h<;>first | (injection h with h;subst h;rfl) | cases h
def Mo:(t:Nat)→List Value→Option (UEl t)
 | 6,cs=>xq cs
 | t,cs=>GU t cs
theorem I8:∀ {t:Nat} {cs:List Value} {x:UEl t},Mo t cs=some x→(UEn t).enc x=cs
 | 6,_,_,h=>(n4 h).1.symm
 | 0,_,_,h=>fO (t:=0) h
 | 1,_,_,h=>fO (t:=1) h
 | 2,_,_,h=>fO (t:=2) h
 | 3,_,_,h=>fO (t:=3) h
 | 4,_,_,h=>fO (t:=4) h
 | 5,_,_,h=>fO (t:=5) h
 | 7,_,_,h=>fO (t:=7) h
 | t+8,_,_,h=>fO (t:=t+8) h
def UE:Els:=⟨UEl,UEn,UDf,Mo,I8⟩
def MR:Kind UE where
 ty:=Mem
 pred:=fun r s X w=>∃L:fi,r 0=L.g∧(∀k,L.X k↔X k)∧cS w L s
 ch:=fun⟨L,h1,h2,h3⟩ q hb=>⟨L,h1,h2,h3.ch q fun k hk=>hb k ((h2 k).1 hk)⟩
 lt:=fun⟨_,_,h2,h3⟩ k hk=>h3.lt k ((h2 k).2 hk)
 iv:=true
 inv:=Mem.Wf
 fV:=fun⟨_,_,_,h⟩=>⟨h.u32,h.eg⟩
def kPd:Kind UE where
 ty:=Pd
 pred:=fun r s X w=>∃a,(∀k,(k=r 0∨k=a)↔X k)∧PdP w (r 0) a (r 1) s
 ch:=fun⟨a,h1,h2⟩ q hb=>⟨a,h1,h2.ch q (hb _ ((h1 _).1 (.inl rfl))) (hb _ ((h1 _).1 (.inr rfl)))⟩
 lt:=fun⟨a,h1,h2⟩ k hk=>by rcases(h1 k).2 hk with rfl | rfl;exact h2.lt.1;exact h2.lt.2
 iv:=true
 inv:=Pd.Ok
 fV:=fun⟨_,_,h⟩=>h.ok
 fo:=fun _ s path off=>match path,off with
  | 0,0=>some (.o 1 0)
  | 0,1=>some (.v (.int .i64 s.aD))
  | _,_=>none
 qE:=by
  rintro r s X w path off f v ⟨a,hX,hD⟩ hf hv
  have h:=LD hD
  split at hf
  ·injection hf with hf;subst hf;simp only [fvV]at hv
   exact⟨(hX _).1 (.inl rfl),by rw [← hv];exact h.1⟩
  ·injection hf with hf;subst hf;simp only [fvV]at hv
   exact⟨(hX _).1 (.inl rfl),by rw [← hv];exact h.2⟩
  ·cases hf
 fs:=fun _ s path off v=>match path,off,v with
  | 0,1,.int .i64 x=>some (0≤x∧x≤64,s.eT x)
  | _,_,_=>none
 qC:=by
  rintro r s s' X w path off v c ⟨a,hX,hD⟩ hf hc K hK
  split at hf
  ·simp only [Option.some.injEq,Prod.mk.injEq]at hf
   obtain⟨rfl,rfl⟩:=hf
   exact hD.Cx hc fun w' h' q=>hK w' ⟨a,hX,h'⟩ (q.mono fun k hk=>(hX k).1 (.inl hk))
  ·cases hf
def LP:Kind UE where
 ty:=Mem
 pred:=fun r s X w=>∃L:fh,(∀k,L.X k↔X k)∧cw w (r 0) L s
 ch:=fun⟨L,h2,h3⟩ q hb=>⟨L,h2,h3.ch q fun k hk=>hb k ((h2 k).1 hk)⟩
 lt:=fun⟨_,h2,h3⟩ k hk=>h3.lt k ((h2 k).2 hk)
 iv:=true
 inv:=Mem.Wf
 fV:=fun⟨_,_,h⟩=>⟨h.u32,h.eg⟩
def MP:Kind UE where
 ty:=Pd
 pred:=fun r s X w=>(∀k,(k=r 0∨k=r 2)↔X k)∧nv w (r 0) (r 1) (r 2) (r 3) s
 ch:=fun⟨h1,h2⟩ q hb=>⟨h1,h2.ch q (hb _ ((h1 _).1 (.inl rfl))) (hb _ ((h1 _).1 (.inr rfl)))⟩
 lt:=fun⟨h1,h2⟩ k hk=>by rcases(h1 k).2 hk with rfl | rfl;exact h2.lt.1;exact h2.lt.2
 li:=fun r s i=>match i with
  | 0=>some ⟨4,some ⟨r 2,0,none⟩,r 3,s.aA⟩
  | _=>none
 mT:=by
  rintro r s X w i L h hl
  split at hl
  ·injection hl with hl;subst hl;exact Kx h.1 h.2
  ·cases hl
 st:=fun _ s j i tt=>match j,tt with
  | 0,4=>fun x=>some ((Ent.ok x=true∧Ent.owner x<((s.n:Nat):Int)),s.set i x)
  | _,_=>fun _=>none
 mD:=by
  rintro r s s' X w j i L x y off vs c h hl hx ho hy hs hc K hK
  split at hl
  ·injection hl with hl
   subst hl
   simp only [Option.some.injEq,Prod.mk.injEq]at hs
   obtain⟨rfl,rfl⟩:=hs
   exact h.2.Ks hx ho hy hc fun w' h' q=>hK w' ⟨h.1,h'⟩ (q.mono fun k hk=>(h.1 k).1 (.inr hk))
  ·cases hl
 iv:=true
 inv:=Pd.Ok
 fV:=fun⟨_,h⟩=>h.ok
 fo:=fun _ s path off=>match path,off with
  | 0,0=>some (.o 1 0)
  | 0,1=>some (.l 0)
  | 0,2=>some (.v (.int .i64 s.aD))
  | _,_=>none
 qE:=by
  rintro r s X w path off f v ⟨hX,hD⟩ hf hv
  have h:=Ky hD
  split at hf
  ·injection hf with hf;subst hf;simp only [fvV]at hv
   exact⟨(hX _).1 (.inl rfl),by rw [← hv];exact h.1⟩
  ·injection hf with hf;subst hf;simp only [fvV]at hv
   exact⟨(hX _).1 (.inl rfl),by rw [← hv];exact h.2.1⟩
  ·injection hf with hf;subst hf;simp only [fvV]at hv
   exact⟨(hX _).1 (.inl rfl),by rw [← hv];exact h.2.2⟩
  ·cases hf
 fs:=fun _ s path off v=>match path,off,v with
  | 0,2,.int .i64 x=>some (0≤x∧x≤64,s.eT x)
  | _,_,_=>none
 qC:=by
  rintro r s s' X w path off v c ⟨hX,hD⟩ hf hc K hK
  split at hf
  ·simp only [Option.some.injEq,Prod.mk.injEq]at hf
   obtain⟨rfl,rfl⟩:=hf
   exact hD.Cx hc fun w' h' q=>hK w' ⟨hX,h'⟩ (q.mono fun k hk=>(hX k).1 (.inl hk))
  ·cases hf
def MT:Kind UE where
 ty:=Dg
 pred:=fun r s X w=>∃L:DgL,(∀k,L.X (r 0) k↔X k)∧jj w (r 0) L s
 ch:=fun⟨L,h2,h3⟩ q hb=>⟨L,h2,h3.ch q fun k hk=>hb k ((h2 k).1 hk)⟩
 lt:=fun⟨_,h2,h3⟩ k hk=>h3.lt k ((h2 k).2 hk)
def LO(b:Nat):Kind UE where
 ty:=List Int
 pred:=fun _ s X w=>(∀k,k=b↔X k)∧gz w b s
 ch:=fun⟨h2,h3⟩ q hb=>⟨h2,h3.ch q fun k hk=>hb k ((h2 k).1 hk)⟩
 lt:=fun⟨h2,h3⟩ k hk=>h3.lt k ((h2 k).2 hk)
theorem HV {w:World} {g o n:Nat} {s:List U32} {X:Nat→Prop}(hX:∀k,k=g↔X k)(h:rl w g s)(hc:o+n≤s.length):X g∧∀j u,(aI (fun j=>Value.int .u32 (s.getD (o+j) (U32.mk 0)).v) (upN 0 n))[j]? =some u→w.cell? ⟨g,o+j,none⟩=some u:=by
 obtain⟨T,hb⟩:=h
 refine⟨(hX _).1 rfl,fun j u hj=>?_⟩
 rw [← aK,bo]at hj
 cases SF:nth (upN 0 n) j with
 | none=>rw [SF]at hj;cases hj
 | some i=>
  rw [SF]at hj
  have Og:i=j:=by have:=mu SF;omega
  have NO:=aR SF
  rw [js]at NO
  subst Og
  injection hj with hj
  rw [← hj]
  refine hb.cell ?_
  rw [mE (by simp;omega),List.getD_eq_getElem?_getD,List.getElem?_map]
  dsimp only
  rw [List.getD_eq_getElem?_getD]
  cases s[o+i]? <;>rfl
def kU:Kind UE where
 ty:=List U32
 pred:=fun r s X w=>(∀k,k=r 0↔X k)∧rl w (r 0) s
 ch:=fun⟨h2,T,h3⟩ q hb=>⟨h2,T,q.blk h3 (hb _ ((h2 _).1 rfl))⟩
 lt:=fun⟨h2,T,h3⟩ k hk=>by rw [(h2 k).2 hk];exact h3.lt
 li:=fun r s i=>match i with
  | 0=>some ⟨1,some ⟨r 0,0,none⟩,s.length,s⟩
  | _=>none
 mT:=by
  rintro r s X w i L h hl
  split at hl
  ·injection hl with hl;subst hl;exact Bm h.1 h.2
  ·cases hl
 st:=fun _ s j i tt=>match j,tt with
  | 0,1=>fun x=>some (True,s.set i x)
  | _,_=>fun _=>none
 mD:=by
  rintro r s s' X w j i L x y off vs c h hl hx ho hy hs hc K hK
  split at hl
  ·injection hl with hl
   subst hl
   simp only [Option.some.injEq,Prod.mk.injEq]at hs
   obtain⟨rfl,rfl⟩:=hs
   exact HW h.1 h.2 hx ho hy hK
  ·cases hl
 ix:=fun path off=>match path,off with
  | 0,0=>some 0
  | _,_=>none
 oF:=by
  rintro r s path off i L h hl
  split at h
  ·injection h with h;subst h
   injection hl with hl;subst hl;rfl
  ·cases h
 wl:=fun _ s path off n=>match path,off with
  | 0,o=>some (o+n≤s.length,aI (fun j=>.int .u32 (s.getD (o+j) (U32.mk 0)).v) (upN 0 n))
  | _,_=>none
 pP:=by
  rintro r s X w path off n c cs h hw hc
  split at hw
  ·simp only [Option.some.injEq,Prod.mk.injEq]at hw
   obtain⟨rfl,rfl⟩:=hw
   exact HV h.1 h.2 hc
  ·cases hw
 ws:=fun _ s path off vs=>match path,off with
  | 0,0=>(match si vs with
   | some l=>some (s.length=l.length,l)
   | none=>none)
  | _,_=>none
 ov:=by
  rintro r s s' X w path off vs c h hs hc K hK
  split at hs
  ·split at hs
   ·rename_i l hl
    simp only [Option.some.injEq,Prod.mk.injEq]at hs
    obtain⟨rfl,rfl⟩:=hs
    exact HU h.1 h.2 hl hc hK
   ·cases hs
  ·cases hs
def kFl:Kind UE where
 ty:=Fl
 pred:=fun r s X w=>(∀k,k=r 0↔X k)∧FlP w (r 0) s
 ch:=fun⟨h2,h3,T,h4⟩ q hb=>⟨h2,h3,T,q.blk h4 (hb _ ((h2 _).1 rfl))⟩
 lt:=fun⟨h2,_,T,h3⟩ k hk=>by rw [(h2 k).2 hk];exact h3.lt
 li:=fun r s i=>match i with
  | 0=>some ⟨1,some ⟨r 0,0,none⟩,s.rs.length,s.rs⟩
  | _=>none
 mT:=by
  rintro r s X w i L h hl
  split at hl
  ·injection hl with hl;subst hl;exact h.2.li h.1
  ·cases hl
 fs:=fun _ s path off v=>match path,off,v with
  | 0,15,.int .u32 x=>some (True,{s with pc:=x})
  | 0,16,.bool x=>some (True,{s with z:=x})
  | 0,17,.bool x=>some (True,{s with n:=x})
  | 0,18,.bool x=>some (True,{s with l:=x})
  | _,_,_=>none
 qC:=by
  rintro r s s' X w path off v c h hf hc K hK
  split at hf
  all_goals first
   | cases hf;done
   | (simp only [Option.some.injEq,Prod.mk.injEq]at hf
      obtain⟨rfl,rfl⟩:=hf
      exact FlP.st h.2 (by omega) (by exact h.2.len) (by rfl) fun w' h' q=>hK w' ⟨h.1,h'⟩ (q.mono fun k hk=>(h.1 k).1 hk))
 st:=fun _ s j i tt=>match j,tt with
  | 0,1=>fun x=>some (True,s.nK i x)
  | _,_=>fun _=>none
 mD:=by
  rintro r s s' X w j i L x y off vs c h hl hx ho hy hs hc K hK
  split at hl
  ·injection hl with hl
   subst hl
   simp only [Option.some.injEq,Prod.mk.injEq]at hs
   obtain⟨rfl,rfl⟩:=hs
   exact h.2.stR h.1 hx ho hy hK
  ·cases hl
 iv:=true
 inv:=Fl.Ok
 fV:=fun h=>h.2.len
 fo:=fun _ s path off=>match path,off with
  | 0,15=>some (.v (.int .u32 s.pc))
  | 0,16=>some (.v (.bool s.z))
  | 0,17=>some (.v (.bool s.n))
  | 0,18=>some (.v (.bool s.l))
  | _,_=>none
 qE:=by
  rintro r s X w path off f v ⟨hX,hl,T,hb⟩ hf hv
  split at hf
  all_goals first
   | cases hf;done
   | (injection hf with hf
      subst hf
      simp only [fvV,Option.some.injEq]at hv
      exact⟨(hX _).1 rfl,by rw [← hv];exact hb.cell rfl⟩)
 ix:=fun path off=>match path,off with
  | 0,0=>some 0
  | _,_=>none
 oF:=by
  rintro r s path off i L h hl
  split at h
  ·injection h with h;subst h
   injection hl with hl;subst hl;rfl
  ·cases h
 wl:=fun _ s path off n=>match path,off,n with
  | 0,0,19=>some (True,s.cells)
  | _,_,_=>none
 pP:=by
  rintro r s X w path off n c cs ⟨hX,hl,T,hb⟩ hw hc
  split at hw
  ·simp only [Option.some.injEq,Prod.mk.injEq]at hw
   obtain⟨rfl,rfl⟩:=hw
   exact⟨(hX _).1 rfl,fun j u hj=>by rw [Nat.zero_add];exact hb.cell (by simpa using hj)⟩
  ·cases hw
 ws:=fun _ _ path off vs=>match path,off with
  | 0,0=>(match xq vs with
   | some l=>some (True,l)
   | none=>none)
  | _,_=>none
 ov:=by
  rintro r s s' X w path off vs c h hs hc K hK
  split at hs
  ·split at hs
   ·rename_i l hl
    simp only [Option.some.injEq,Prod.mk.injEq]at hs
    obtain⟨rfl,rfl⟩:=hs
    obtain⟨e,h2⟩:=n4 hl
    subst e
    exact h.2.all h2 fun w' h' q=>hK w' ⟨h.1,h'⟩ (q.mono fun k hk=>(h.1 k).1 hk)
   ·cases hs
  ·cases hs
def clL:List (Int×Value):= [(1,.func (.func 136) #[] #[]),(2,.func (.func 137) #[] #[]),(3,.func (.func 138) #[] #[]),(4,.func (.func 139) #[] #[]),(5,.func (.func 140) #[] #[]),(6,.func (.func 141) #[] #[]),(7,.func (.func 142) #[] #[])]
def kCl:Kind UE where
 ty:=Unit
 pred:=fun r _ X w=>(∀k,k=r 0↔X k)∧ml w (r 0) clL
 ch:=fun⟨h1,h2⟩ q hb=>⟨h1,h2.ch q (hb _ ((h1 _).1 rfl))⟩
 lt:=fun⟨h1,h2⟩ k hk=>by rw [(h1 k).2 hk];exact h2.lt
 mp:=fun _=>some clL
 wG:=fun h e=>by injection e with e;rw [← e];exact h.2
theorem Nst.Fj {s:Nst} {k:Nat}(h:¬k<s.hs.length):s.hd k=⟨none,0,0⟩:=by unfold hd;rw [List.getD_eq_getElem?_getD,List.getElem?_eq_none (by omega)];rfl
theorem Nst.Fi {s:Nst} {k:Nat}(h:¬k<s.ls.length):s.l k= []:=by unfold l;rw [List.getD_eq_getElem?_getD,List.getElem?_eq_none (by omega)];rfl
theorem om.len {w:World} {s:Nst} {X:Nat→Prop}(h:om w s X)(k:Nat):(s.hd k).n=(s.l k).length:=by
 by_cases hk:k<s.hs.length
 ·exact h.ok.n k hk
 ·rw [Nst.Fj hk,Nst.Fi (by rw [h.ok.len];exact hk)];rfl
theorem om.rd {w:World} {s:Nst} {X:Nat→Prop}(h:om w s X)(k:Nat):Rd w X (s.hd k).A (s.l k).length (s.hd k).c (s.l k):=by
 by_cases hk:k<s.hs.length
 ·rw [← h.ok.n k hk];exact h.inn k hk
 ·rw [Nst.Fj hk,Nst.Fi (by rw [h.ok.len];exact hk)]
  exact⟨rfl,Nat.zero_le _,h.lt,fun i x hx=>by cases hx⟩
def MQ:Kind UE where
 ty:=Nst
 pred:=fun _ s X w=>om w s X
 ch:=fun h q hb=>h.ch q hb
 lt:=fun h=>h.lt
 iv:=true
 inv:=Nst.Ok
 fV:=fun h=>h.ok
 li:=fun _ s i=>match i with
  | 0=>some ⟨7,s.A,s.c,s.hs⟩
  | k+1=>some ⟨1,(s.hd k).A,(s.hd k).c,s.l k⟩
 mT:=by
  rintro r s X w i L h hl
  split at hl
  ·injection hl with hl;subst hl;exact h.out
  ·rename_i k;injection hl with hl;subst hl;exact h.rd k
 ne:=fun j=>Nat.beq j 0
 wE:=by
  rintro r s X w j i L x h hj hl hx
  have hj:=Nat.eq_of_beq_eq_true hj
  subst hj
  injection hl with hl
  subst hl
  exact⟨_,rfl,h.ne hx⟩
 st:=fun _ s j i tt=>match j,tt with
  | k+1,1=>fun x=>some (s.own=true,s.set k i x)
  | _,_=>fun _=>none
 mD:=by
  rintro r s s' X w j i L x y off vs c h hl hx ho hy hs hc K hK
  match j,hl with
  | 0,hl=>exact absurd hs (by intro e;cases e)
  | k+1,hl=>
   injection hl with hl
   subst hl
   simp only [Option.some.injEq,Prod.mk.injEq]at hs
   obtain⟨rfl,rfl⟩:=hs
   have hk:k<s.hs.length:=by
    have hx:(s.l k)[i]? =some x:=hx
    by_cases hk:k<s.hs.length
    ·exact hk
    ·rw [Nst.Fi (by rw [h.ok.len];exact hk)]at hx;cases hx
   exact h.st hc hk hx ho hy hK
def UK:Nat→Kind UE
 | 0=>MR
 | 1=>kPd
 | 2=>LP
 | 3=>MP
 | 4=>MT
 | 5=>LO 0
 | 6=>LO 1
 | 7=>kU
 | 10=>kFl
 | 12=>kCl
 | 13=>MQ
 | _=>Kind.none UE
abbrev dI(t:Nat)(r:Nat→Nat)(s:(UK t).ty)(X:Nat→Prop)(w:World):Prop:=(UK t).pred r s X w
theorem Lh {t:Nat} {r:Nat→Nat} {s:(UK t).ty} {X:Nat→Prop} {w:World}(h:dI t r s X w):(UK t).inv s:=(UK t).fV h
def UMk:TypeId→List Value→Option ((t:Nat)×(UK t).ty)
 | 168,cs=>(match si cs with
  | some l=>some ⟨7,l⟩
  | none=>none)
 | 24,cs=>(match si cs with
  | some l=>some ⟨7,l⟩
  | none=>none)
 | 263,cs=>(match si cs with
  | some l=>some ⟨7,l⟩
  | none=>none)
 | 218,cs=>(match si cs with
  | some l=>some ⟨7,l⟩
  | none=>none)
 | 37,cs=>(match xq cs with
  | some s=>some ⟨10,s⟩
  | none=>none)
 | _,_=>none
theorem Lg {T:TypeId} {cs:List Value} {q:(t:Nat)×(UK t).ty} {w:World} {g:Nat}(h:UMk T cs=some q)(hb:Blk w g ⟨cs⟩ T):(UK q.1).pred (fun _=>g) q.2 (fun k=>k=g) w:=by
 unfold UMk at h
 split at h
 ·split at h
  ·rename_i l hl
   injection h with h
   subst h
   have:=iZ hl
   subst this
   exact(⟨fun k=>Iff.rfl,_,hb.cast (by simp [cu])⟩:(∀k,k=g↔k=g)∧rl w g l)
  ·cases h
 ·split at h
  ·rename_i l hl
   injection h with h
   subst h
   have:=iZ hl
   subst this
   exact(⟨fun k=>Iff.rfl,_,hb.cast (by simp [cu])⟩:(∀k,k=g↔k=g)∧rl w g l)
  ·cases h
 ·split at h
  ·rename_i l hl
   injection h with h
   subst h
   have:=iZ hl
   subst this
   exact(⟨fun k=>Iff.rfl,_,hb.cast (by simp [cu])⟩:(∀k,k=g↔k=g)∧rl w g l)
  ·cases h
 ·split at h
  ·rename_i l hl
   injection h with h
   subst h
   have:=iZ hl
   subst this
   exact(⟨fun k=>Iff.rfl,_,hb.cast (by simp [cu])⟩:(∀k,k=g↔k=g)∧rl w g l)
  ·cases h
 ·split at h
  ·rename_i s hs
   injection h with h
   subst h
   obtain⟨rfl,h2⟩:=n4 hs
   exact(⟨fun k=>Iff.rfl,h2,_,hb⟩:(∀k,k=g↔k=g)∧FlP w g s)
  ·cases h
 ·cases h
def Un:Uni:=Uni.of UE UK (fun t=>match t with
 | 3=>some 0
 | 23=>some 1
 | 4=>some 3
 | 127=>some 4
 | 157=>some 4
 | 33=>some 5
 | 31=>some 7
 | _=>none) UMk Lg
theorem uO0 {a b:Mem}(h:a=b):Upd.ob (U:=Un) 0 a= .ob 0 b:=congrArg (Upd.ob (U:=Un) 0) h
theorem rO0 {r:Nat→Nat} {a b:Mem}(h:a=b):Res.ob (U:=Un) 0 r a= .ob 0 r b:=congrArg (Res.ob (U:=Un) 0 r) h
theorem uO1 {a b:Pd}(h:a=b):Upd.ob (U:=Un) 1 a= .ob 1 b:=congrArg (Upd.ob (U:=Un) 1) h
theorem rO1 {r:Nat→Nat} {a b:Pd}(h:a=b):Res.ob (U:=Un) 1 r a= .ob 1 r b:=congrArg (Res.ob (U:=Un) 1 r) h
theorem uO2 {a b:Mem}(h:a=b):Upd.ob (U:=Un) 2 a= .ob 2 b:=congrArg (Upd.ob (U:=Un) 2) h
theorem rO2 {r:Nat→Nat} {a b:Mem}(h:a=b):Res.ob (U:=Un) 2 r a= .ob 2 r b:=congrArg (Res.ob (U:=Un) 2 r) h
theorem uO3 {a b:Pd}(h:a=b):Upd.ob (U:=Un) 3 a= .ob 3 b:=congrArg (Upd.ob (U:=Un) 3) h
theorem rO3 {r:Nat→Nat} {a b:Pd}(h:a=b):Res.ob (U:=Un) 3 r a= .ob 3 r b:=congrArg (Res.ob (U:=Un) 3 r) h
end Go.Proofs.YtfmcaoaaiganbaaGreatDoor
namespace Go.Proofs.YtfmcaoaaiganbaaGreatDoor
open Go.Proofs.Tryz (prog)
open Go Go.RowKit V Go.ChangeShapes Go.WideShapes Go.ChangeAt
open Go.IntKind (i64 u32 u64)
open Enc (enc)
theorem wf_u32 {x:Int}(h:(Lit.int .u32 x).wf=true):0≤x∧x<4294967296:=by
 have:0≤x∧x≤4294967295:=by simpa [Lit.wf,IntKind.min,IntKind.max,IntKind.signed,IntKind.bits]using h
 omega
end Go.Proofs.YtfmcaoaaiganbaaGreatDoor
namespace Go.Proofs.YtfmcaoaaiganbaaGreatDoor
open Go.Proofs.Tryz (prog)
open Go Go.RowKit V
open Go.IntKind (i64 u32 u64)
section
set_option maxRecDepth 100000
def qW(wordsA:Option Addr)(aQ:Nat)(wordsC:Nat)(R:aC)(w:World):Prop:=
 ∃S2:Option Addr,∃SM:Nat,∃Uq:Nat,∃wv,(Instr.makeSlice 187 (.int .i64 0) (.int .i64 (i64.wrap (4*((aQ:Nat):Int)))):Sem Value).run prog w= .ok (.slice S2 SM Uq) wv∧
 ∃I:Nat→Option Addr→Nat→Nat→Int→World→Prop,(∃m,I m S2 SM Uq 0 wv)∧∀(m:Nat)(OO:Nat→Value)(outA:Option Addr)(outN:Nat)(outC:Nat)(Nj:Int),∀M5,I m outA outN outC Nj M5→
 split (decide ((Nj:Int)<((aQ:Nat):Int))) (
  (0≤(Nj:Int)∧(Nj:Int)<((aQ:Nat):Int))∧
  aB wordsA fun p17=>
  ∃Po:Int,M5.cell? (p17.add (Int.toNat Nj*1))=some (.int .u32 Po)∧
  ∀(Nd:Nat)(M6:World),Nd=M5.heap.size→M6=M5.alloc (.cells #[(.int .u8 (IntKind.u8.wrap ((Po:Int).fdiv (2 ^ 24)))),(.int .u8 (IntKind.u8.wrap ((Po:Int).fdiv (2 ^ 16)))),(.int .u8 (IntKind.u8.wrap ((Po:Int).fdiv (2 ^ 8)))),(.int .u8 (IntKind.u8.wrap ((Po:Int).fdiv (2 ^ 0))))] 5)→
  ∃Rc:Option Addr,∃Q9:Nat,∃Ra:Nat,∃Na,(Builtin.append_ #[187,187] 187 #[(.slice outA outN outC),(.slice (some (Addr.mk Nd 0 none)) 4 4)]:Sem Value).run prog M6= .ok (.slice Rc Q9 Ra) Na∧
  ∃m1,m1<m∧I m1 Rc Q9 Ra (i64.wrap (Nj+1)) Na) (
  R (.slice outA outN outC) M5)
def z8:Ann:=(.node none .leaf (.node none .leaf (.node none (.node none .leaf (.node none (.node (some ⟨[(3,.one (.slice)),(12,.one (.int .i64))],[3,4,5,12,13,14,15,16,17,18,19,20,21,22,23,24,25,26,27,28,29,30,31,32,33,34]⟩) .leaf .leaf) .leaf)) .leaf)))
theorem WdBytes_eq(wordsA:Option Addr)(aQ:Nat)(wordsC:Nat)(R:aC)(w:World):qW wordsA aQ wordsC R w=vcF prog aH [3] Tryz.f169 z8 [(.slice wordsA aQ wordsC)] R none w:=by kernel_rfl
theorem sm(wordsA:Option Addr)(aQ:Nat)(wordsC:Nat) {R:aC} {w:World}(h:qW wordsA aQ wordsC R w):Calls prog 169 #[(.slice wordsA aQ wordsC)] w fun e w'=>∃v,e= .returned v∧R v w':=
 ar Tryz.func169 aw aj ((WdBytes_eq wordsA aQ wordsC R w).mp h)
def qV(bA:Option Addr)(bN:Nat)(bC:Nat)(R:aC)(w:World):Prop:=
 split (decide ((((bN:Nat):Int):Int)>1048576)) (
  R (.tuple #[(.slice none 0 0),(.int .i64 2)]) w) (
  split (((((bN:Nat):Int):Int).tmod 4:Int) !=0) (
   R (.tuple #[(.slice none 0 0),(.int .i64 11)]) w) (
   ∃Sy:Option Addr,∃RU:Nat,∃Tt:Nat,∃wv,(Instr.makeSlice 31 (.int .i64 (i64.wrap ((((bN:Nat):Int):Int).tdiv 4))) (.int .i64 (i64.wrap ((((bN:Nat):Int):Int).tdiv 4))):Sem Value).run prog w= .ok (.slice Sy RU Tt) wv∧
   ∃I:Nat→Int→World→Prop,(∃m,I m 0 wv)∧∀(m:Nat)(OO:Nat→Value)(PB:Int),∀M5,I m PB M5→
   split (decide ((PB:Int)<((RU:Nat):Int))) (
    (0≤(i64.wrap (4*PB):Int)∧(i64.wrap (4*PB):Int)≤((bN:Nat):Int))∧
    ∀Rf:Option Addr,Rf=(if bC=(Int.toNat (i64.wrap (4*PB)))then bA else(bA:Option Addr).map (·.add ((Int.toNat (i64.wrap (4*PB)))*1)))→∀Re:Nat,Re=bN - (Int.toNat (i64.wrap (4*PB)))→∀UC:Nat,UC=bC - (Int.toNat (i64.wrap (4*PB)))→
    ∃b:Nat→Nat→Prop,
    (0≤(0:Int)∧(0:Int)<((Re:Nat):Int))∧
    aB Rf fun p30=>
    b 4 ((p30.add (Int.toNat 0*1)).block)∧
    ∃ZG:Int,M5.drew.cell? (p30.add (Int.toNat 0*1))=some (.int .u8 ZG)∧
    (0≤(1:Int)∧(1:Int)<((Re:Nat):Int))∧
    aB Rf fun p35=>
    b 9 ((p35.add (Int.toNat 1*1)).block)∧
    ∃OI:Int,M5.drew.cell? (p35.add (Int.toNat 1*1))=some (.int .u8 OI)∧
    (0≤(2:Int)∧(2:Int)<((Re:Nat):Int))∧
    aB Rf fun p41=>
    b 15 ((p41.add (Int.toNat 2*1)).block)∧
    ∃Q8:Int,M5.drew.cell? (p41.add (Int.toNat 2*1))=some (.int .u8 Q8)∧
    (0≤(3:Int)∧(3:Int)<((Re:Nat):Int))∧
    aB Rf fun p47=>
    b 21 ((p47.add (Int.toNat 3*1)).block)∧
    ∃Vj:Int,M5.drew.cell? (p47.add (Int.toNat 3*1))=some (.int .u8 Vj)∧
    (0≤(PB:Int)∧(PB:Int)<((RU:Nat):Int))∧
    aB Sy fun p52=>
    aF M5.drew (p52.add (Int.toNat PB*1)) [(.int .u32 (u32.wrap (BitVec.ofInt u32.bits (u32.wrap (BitVec.ofInt u32.bits (u32.wrap (BitVec.ofInt u32.bits (u32.wrap ((u32.wrap ZG:Int)*2 ^ 24)) ||| BitVec.ofInt u32.bits (u32.wrap ((u32.wrap OI:Int)*2 ^ 16))).toNat) ||| BitVec.ofInt u32.bits (u32.wrap ((u32.wrap Q8:Int)*2 ^ 8))).toNat) ||| BitVec.ofInt u32.bits (u32.wrap ((u32.wrap Vj:Int)*2 ^ 0))).toNat))] fun M6=>
    ∃b1:Nat→Nat→Prop,(∀i k,b i k→b1 i k)∧
    ∃m1,m1<m∧I m1 (i64.wrap (PB+1)) M6) (
    R (.tuple #[(.slice Sy RU Tt),(.int .i64 0)]) M5)))
def z7:Ann:=(.node none .leaf (.node none .leaf (.node none .leaf (.node none .leaf (.node none (.node none .leaf (.node none (.node (some ⟨[(20,.one (.int .i64))],[5,6,20,21,22,23,24,25,26,27,28,29,30,31,32,33,34,35,36,37,38,39,40,41,42,43,44,45,46,47,48,49,50,51,52,53]⟩) .leaf .leaf) .leaf)) .leaf)))))
theorem WdWords_eq(bA:Option Addr)(bN:Nat)(bC:Nat)(R:aC)(w:World):qV bA bN bC R w=vcF prog aH [] Tryz.f170 z7 [(.slice bA bN bC)] R none w:=by kernel_rfl
theorem sk(bA:Option Addr)(bN:Nat)(bC:Nat) {R:aC} {w:World}(h:qV bA bN bC R w):Calls prog 170 #[(.slice bA bN bC)] w fun e w'=>∃v,e= .returned v∧R v w':=
 ar Tryz.func170 aw aj ((WdWords_eq bA bN bC R w).mp h)
def rK(keyA:Option Addr)(keyN:Nat)(keyC:Nat)(pad:Int)(R:aC)(w:World):Prop:=
 ∃J:Option Addr→Nat→Nat→World→Prop,(
  split (decide ((((keyN:Nat):Int):Int)>64)) (
   Calls prog 211 #[(.slice keyA keyN keyC)] w fun e wv=>
   ∃Rv:Int,∃Ru:Int,∃TN:Int,∃TM:Int,∃TL:Int,∃TK:Int,∃TJ:Int,∃TI:Int,e= .returned (.agg #[(.int .u32 Rv),(.int .u32 Ru),(.int .u32 TN),(.int .u32 TM),(.int .u32 TL),(.int .u32 TK),(.int .u32 TJ),(.int .u32 TI)])∧
   ∀(gv:Nat)(M5:World),gv=wv.heap.size→M5=wv.alloc (.cells (#[(.int .u32 0),(.int .u32 0),(.int .u32 0),(.int .u32 0),(.int .u32 0),(.int .u32 0),(.int .u32 0),(.int .u32 0)]) 24)→
   aF M5 (Addr.mk gv 0 none) [(.int .u32 Rv),(.int .u32 Ru),(.int .u32 TN),(.int .u32 TM),(.int .u32 TL),(.int .u32 TK),(.int .u32 TJ),(.int .u32 TI)] fun M6=>
   ∀aaw:Option Addr,aaw=(some (if 8=0 then Addr.mk gv 0 none else(Addr.mk gv 0 none).add (0*1)))→∀aau:Nat,aau=8 - 0→∀aav:Nat,aav=8 - 0→
   Calls prog 169 #[(.slice aaw aau aav)] M6 fun e Na=>
   ∃TE:Option Addr,∃TD:Nat,∃UL:Nat,e= .returned (.slice TE TD UL)∧
   J TE TD UL Na) (
   J keyA keyN keyC w))∧∀(OO:Nat→Value)(keyA1:Option Addr)(keyN1:Nat)(keyC1:Nat),∀wv,J keyA1 keyN1 keyC1 wv→
 ∃Rq:Option Addr,∃Qv:Nat,∃Tz:Nat,∃M5,(Instr.makeSlice 187 (.int .i64 64) (.int .i64 64):Sem Value).run prog wv= .ok (.slice Rq Qv Tz) M5∧
 ∃Po:Int,∃M6,(Builtin.copy_ #[187,187] 3 #[(.slice Rq Qv Tz),(.slice keyA1 keyN1 keyC1)]:Sem Value).run prog M5= .ok (.int .i64 Po) M6∧
 ∃I:Nat→Int→World→Prop,(∃m,I m 0 M6)∧∀(m:Nat)(Nt:Nat→Value)(Om:Int),∀Na,I m Om Na→
 split (decide ((Om:Int)<((Qv:Nat):Int))) (
  (0≤(Om:Int)∧(Om:Int)<((Qv:Nat):Int))∧
  aB Rq fun WW=>
  ∃Tm:Int,Na.cell? (WW.add (Int.toNat Om*1))=some (.int .u8 Tm)∧
  (0≤(Om:Int)∧(Om:Int)<((Qv:Nat):Int))∧
  aB Rq fun p30=>
  aF Na (p30.add (Int.toNat Om*1)) [(.int .u8 (IntKind.u8.wrap (BitVec.ofInt IntKind.u8.bits Tm ^^^ BitVec.ofInt IntKind.u8.bits pad).toNat))] fun Nc=>
  ∃m1,m1<m∧I m1 (i64.wrap (Om+1)) Nc) (
  R (.slice Rq Qv Tz) Na)
def AG:Ann:=(.node none .leaf (.node none (.node none .leaf (.node (some ⟨[(0,.one (.slice))],[0,5,11,12,13,14]⟩) .leaf .leaf)) (.node none .leaf (.node none .leaf (.node none (.node none .leaf (.node none (.node (some ⟨[(21,.one (.int .i64))],[7,21,22,23,24,25,26,27,28,29,30,31]⟩) .leaf .leaf) .leaf)) .leaf)))))
theorem HPadded_eq(keyA:Option Addr)(keyN:Nat)(keyC:Nat)(pad:Int)(R:aC)(w:World):rK keyA keyN keyC pad R w=vcF prog aH [] Tryz.f171 AG [(.slice keyA keyN keyC),(.int .u8 pad)] R none w:=by kernel_rfl
theorem sK(keyA:Option Addr)(keyN:Nat)(keyC:Nat)(pad:Int) {R:aC} {w:World}(h:rK keyA keyN keyC pad R w):Calls prog 171 #[(.slice keyA keyN keyC),(.int .u8 pad)] w fun e w'=>∃v,e= .returned v∧R v w':=
 ar Tryz.func171 aw aj ((HPadded_eq keyA keyN keyC pad R w).mp h)
def ub(keyA:Option Addr)(keyN:Nat)(keyC:Nat)(pad:Int)(R:aC)(w:World):Prop:=
 Calls prog 92 #[] w fun e wv=>
 ∃x8:Option Addr,e= .returned (.pointer x8)∧
 Calls prog 171 #[(.slice keyA keyN keyC),(.int .u8 pad)] wv fun e M5=>
 ∃Sz:Option Addr,∃UM:Nat,∃TO:Nat,e= .returned (.slice Sz UM TO)∧
 Calls prog 170 #[(.slice Sz UM TO)] M5 fun e M6=>
 ∃x13aA:Option Addr,∃x13aN:Nat,∃x13aC:Nat,∃Ow:Int,e= .returned (.tuple #[(.slice x13aA x13aN x13aC),(.int .i64 Ow)])∧
 Calls prog 65 #[(.pointer x8),(.slice x13aA x13aN x13aC)] M6 fun e Na=>
 e= .returned (.tuple #[])∧
 R (.pointer x8) Na
def Eg:Ann:= .leaf
theorem HBegun_eq(keyA:Option Addr)(keyN:Nat)(keyC:Nat)(pad:Int)(R:aC)(w:World):ub keyA keyN keyC pad R w=vcF prog aH [] Tryz.f113 Eg [(.slice keyA keyN keyC),(.int .u8 pad)] R none w:=by kernel_rfl
theorem vu(keyA:Option Addr)(keyN:Nat)(keyC:Nat)(pad:Int) {R:aC} {w:World}(h:ub keyA keyN keyC pad R w):Calls prog 113 #[(.slice keyA keyN keyC),(.int .u8 pad)] w fun e w'=>∃v,e= .returned v∧R v w':=
 ar Tryz.func113 aw aj ((HBegun_eq keyA keyN keyC pad R w).mp h)
def ua(keyA:Option Addr)(keyN:Nat)(keyC:Nat)(R:aC)(w:World):Prop:=
 split (decide ((((keyN:Nat):Int):Int)>16)) (
  Calls prog 168 #[(.slice keyA keyN keyC)] w fun e wv=>
  ∃x8a:Int,∃x8b:Int,∃x8c:Int,∃x8d:Int,∃x8e:Int,∃x8f:Int,∃x8g:Int,∃x8h:Int,e= .returned (.agg #[(.int .u32 x8a),(.int .u32 x8b),(.int .u32 x8c),(.int .u32 x8d),(.int .u32 x8e),(.int .u32 x8f),(.int .u32 x8g),(.int .u32 x8h)])∧
  ∀(gv:Nat)(M5:World),gv=wv.heap.size→M5=wv.alloc (.cells (#[(.int .u32 0),(.int .u32 0),(.int .u32 0),(.int .u32 0),(.int .u32 0),(.int .u32 0),(.int .u32 0),(.int .u32 0)]) 24)→
  aF M5 (Addr.mk gv 0 none) [(.int .u32 x8a),(.int .u32 x8b),(.int .u32 x8c),(.int .u32 x8d),(.int .u32 x8e),(.int .u32 x8f),(.int .u32 x8g),(.int .u32 x8h)] fun M6=>
  ∀S2:Option Addr,S2=(some (if 8=0 then Addr.mk gv 0 none else(Addr.mk gv 0 none).add (0*1)))→∀SM:Nat,SM=8 - 0→∀Uq:Nat,Uq=8 - 0→
  Calls prog 169 #[(.slice S2 SM Uq)] M6 fun e Na=>
  ∃PY:Option Addr,∃PW:Nat,∃PX:Nat,e= .returned (.slice PY PW PX)∧
  R (.slice PY PW PX) Na) (
  Calls prog 169 #[(.slice keyA keyN keyC)] w fun e wv=>
  ∃PY:Option Addr,∃PW:Nat,∃PX:Nat,e= .returned (.slice PY PW PX)∧
  R (.slice PY PW PX) wv)
def Ef:Ann:= .leaf
theorem HShort_eq(keyA:Option Addr)(keyN:Nat)(keyC:Nat)(R:aC)(w:World):ua keyA keyN keyC R w=vcF prog aH [] Tryz.f112 Ef [(.slice keyA keyN keyC)] R none w:=by kernel_rfl
theorem vt(keyA:Option Addr)(keyN:Nat)(keyC:Nat) {R:aC} {w:World}(h:ua keyA keyN keyC R w):Calls prog 112 #[(.slice keyA keyN keyC)] w fun e w'=>∃v,e= .returned v∧R v w':=
 ar Tryz.func112 aw aj ((HShort_eq keyA keyN keyC R w).mp h)
def Cc(keyA:Option Addr)(keyN:Nat)(keyC:Nat)(R:aC)(w:World):Prop:=
 Calls prog 112 #[(.slice keyA keyN keyC)] w fun e wv=>
 ∃x5A:Option Addr,∃x5N:Nat,∃x5C:Nat,e= .returned (.slice x5A x5N x5C)∧
 Calls prog 113 #[(.slice x5A x5N x5C),(.int .u8 54)] wv fun e M5=>
 ∃x7:Option Addr,e= .returned (.pointer x7)∧
 Calls prog 113 #[(.slice x5A x5N x5C),(.int .u8 92)] M5 fun e M6=>
 ∃x9:Option Addr,e= .returned (.pointer x9)∧
 ∀(gv:Nat)(Na:World),gv=M6.heap.size→Na=M6.alloc (.cells #[(.pointer x7),(.pointer x9)] 114)→
 R (.pointer (some (Addr.mk gv 0 none))) Na
def Ju:Ann:= .leaf
theorem HNew_eq(keyA:Option Addr)(keyN:Nat)(keyC:Nat)(R:aC)(w:World):Cc keyA keyN keyC R w=vcF prog aH [] Tryz.f64 Ju [(.slice keyA keyN keyC)] R none w:=by kernel_rfl
theorem AH(keyA:Option Addr)(keyN:Nat)(keyC:Nat) {R:aC} {w:World}(h:Cc keyA keyN keyC R w):Calls prog 64 #[(.slice keyA keyN keyC)] w fun e w'=>∃v,e= .returned v∧R v w':=
 ar Tryz.func64 aw aj ((HNew_eq keyA keyN keyC R w).mp h)
def rJ(m:Option Addr)(R:aC)(w:World):Prop:=
 ∀(gv:Nat)(wv:World),gv=w.heap.size→wv=w.alloc (.cells (#[(.int .u32 0),(.int .u32 0),(.int .u32 0),(.int .u32 0),(.int .u32 0),(.int .u32 0),(.int .u32 0),(.int .u32 0)]) 24)→
 aB m fun p6=>
 ∃x8:Option Addr,wv.cell? (p6.add 0)=some (.pointer x8)∧
 Calls prog 115 #[(.pointer x8)] wv fun e M5=>
 ∃Se:Int,∃Sd:Int,∃Vg:Int,∃Vf:Int,∃Ve:Int,∃x9f:Int,∃x9g:Int,∃x9h:Int,e= .returned (.agg #[(.int .u32 Se),(.int .u32 Sd),(.int .u32 Vg),(.int .u32 Vf),(.int .u32 Ve),(.int .u32 x9f),(.int .u32 x9g),(.int .u32 x9h)])∧
 ∀(Nd:Nat)(M6:World),Nd=M5.heap.size→M6=M5.alloc (.cells (#[(.int .u32 0),(.int .u32 0),(.int .u32 0),(.int .u32 0),(.int .u32 0),(.int .u32 0),(.int .u32 0),(.int .u32 0)]) 24)→
 aF M6 (Addr.mk Nd 0 none) [(.int .u32 Se),(.int .u32 Sd),(.int .u32 Vg),(.int .u32 Vf),(.int .u32 Ve),(.int .u32 x9f),(.int .u32 x9g),(.int .u32 x9h)] fun Na=>
 aB m fun p11=>
 ∃On:Option Addr,Na.cell? (p11.add 1)=some (.pointer On)∧
 Calls prog 116 #[(.pointer On)] Na fun e Nc=>
 ∃Nn:Option Addr,e= .returned (.pointer Nn)∧
 ∀Rl:Option Addr,Rl=(some (if 8=0 then Addr.mk Nd 0 none else(Addr.mk Nd 0 none).add (0*1)))→∀P9:Nat,P9=8 - 0→∀Rk:Nat,Rk=8 - 0→
 Calls prog 65 #[(.pointer Nn),(.slice Rl P9 Rk)] Nc fun e No=>
 e= .returned (.tuple #[])∧
 Calls prog 115 #[(.pointer Nn)] No fun e NU=>
 ∃Z6:Int,∃Z5:Int,∃Z4:Int,∃Z3:Int,∃Z2:Int,∃ZZ:Int,∃ZY:Int,∃ZX:Int,e= .returned (.agg #[(.int .u32 Z6),(.int .u32 Z5),(.int .u32 Z4),(.int .u32 Z3),(.int .u32 Z2),(.int .u32 ZZ),(.int .u32 ZY),(.int .u32 ZX)])∧
 aF NU (Addr.mk gv 0 none) [(.int .u32 Z6),(.int .u32 Z5),(.int .u32 Z4),(.int .u32 Z3),(.int .u32 Z2),(.int .u32 ZZ),(.int .u32 ZY),(.int .u32 ZX)] fun NL=>
 ∃O8:Int,∃O7:Int,∃Pr:Int,∃Pq:Int,∃Pp:Int,∃QI:Int,∃QH:Int,∃QG:Int,(NL.cell? ((Addr.mk gv 0 none).add 0)=some (.int .u32 O8)∧NL.cell? ((Addr.mk gv 0 none).add 1)=some (.int .u32 O7)∧NL.cell? ((Addr.mk gv 0 none).add 2)=some (.int .u32 Pr)∧NL.cell? ((Addr.mk gv 0 none).add 3)=some (.int .u32 Pq)∧NL.cell? ((Addr.mk gv 0 none).add 4)=some (.int .u32 Pp)∧NL.cell? ((Addr.mk gv 0 none).add 5)=some (.int .u32 QI)∧NL.cell? ((Addr.mk gv 0 none).add 6)=some (.int .u32 QH)∧NL.cell? ((Addr.mk gv 0 none).add 7)=some (.int .u32 QG))∧
 R (.agg #[(.int .u32 O8),(.int .u32 O7),(.int .u32 Pr),(.int .u32 Pq),(.int .u32 Pp),(.int .u32 QI),(.int .u32 QH),(.int .u32 QG)]) NL
def AF:Ann:= .leaf
theorem HTagMac_eq(m:Option Addr)(R:aC)(w:World):rJ m R w=vcF prog aH [] Tryz.f66 AF [(.pointer m)] R none w:=by kernel_rfl
theorem sI(m:Option Addr) {R:aC} {w:World}(h:rJ m R w):Calls prog 66 #[(.pointer m)] w fun e w'=>∃v,e= .returned v∧R v w':=
 ar Tryz.func66 aw aj ((HTagMac_eq m R w).mp h)
def yN(keyA:Option Addr)(keyN:Nat)(keyC:Nat)(messageA:Option Addr)(messageN:Nat)(messageC:Nat)(R:aC)(w:World):Prop:=
 ∀(gv:Nat)(wv:World),gv=w.heap.size→wv=w.alloc (.cells (#[(.int .u32 0),(.int .u32 0),(.int .u32 0),(.int .u32 0),(.int .u32 0),(.int .u32 0),(.int .u32 0),(.int .u32 0)]) 24)→
 Calls prog 64 #[(.slice keyA keyN keyC)] wv fun e M5=>
 ∃x7:Option Addr,e= .returned (.pointer x7)∧
 aB x7 fun p9=>
 ∃Nm:Option Addr,M5.cell? (p9.add 0)=some (.pointer Nm)∧
 Calls prog 65 #[(.pointer Nm),(.slice messageA messageN messageC)] M5 fun e M6=>
 e= .returned (.tuple #[])∧
 Calls prog 66 #[(.pointer x7)] M6 fun e Na=>
 ∃Qa:Int,∃PC:Int,∃Rp:Int,∃Ro:Int,∃Rn:Int,∃Ty:Int,∃Tx:Int,∃Tw:Int,e= .returned (.agg #[(.int .u32 Qa),(.int .u32 PC),(.int .u32 Rp),(.int .u32 Ro),(.int .u32 Rn),(.int .u32 Ty),(.int .u32 Tx),(.int .u32 Tw)])∧
 aF Na (Addr.mk gv 0 none) [(.int .u32 Qa),(.int .u32 PC),(.int .u32 Rp),(.int .u32 Ro),(.int .u32 Rn),(.int .u32 Ty),(.int .u32 Tx),(.int .u32 Tw)] fun Nc=>
 ∃O8:Int,∃O7:Int,∃Pr:Int,∃Pq:Int,∃Pp:Int,∃QI:Int,∃QH:Int,∃QG:Int,(Nc.cell? ((Addr.mk gv 0 none).add 0)=some (.int .u32 O8)∧Nc.cell? ((Addr.mk gv 0 none).add 1)=some (.int .u32 O7)∧Nc.cell? ((Addr.mk gv 0 none).add 2)=some (.int .u32 Pr)∧Nc.cell? ((Addr.mk gv 0 none).add 3)=some (.int .u32 Pq)∧Nc.cell? ((Addr.mk gv 0 none).add 4)=some (.int .u32 Pp)∧Nc.cell? ((Addr.mk gv 0 none).add 5)=some (.int .u32 QI)∧Nc.cell? ((Addr.mk gv 0 none).add 6)=some (.int .u32 QH)∧Nc.cell? ((Addr.mk gv 0 none).add 7)=some (.int .u32 QG))∧
 R (.agg #[(.int .u32 O8),(.int .u32 O7),(.int .u32 Pr),(.int .u32 Pq),(.int .u32 Pp),(.int .u32 QI),(.int .u32 QH),(.int .u32 QG)]) Nc
def Ho:Ann:= .leaf
theorem HTagF_eq(keyA:Option Addr)(keyN:Nat)(keyC:Nat)(messageA:Option Addr)(messageN:Nat)(messageC:Nat)(R:aC)(w:World):yN keyA keyN keyC messageA messageN messageC R w=vcF prog aH [] Tryz.f20 Ho [(.slice keyA keyN keyC),(.slice messageA messageN messageC)] R none w:=by kernel_rfl
theorem yO(keyA:Option Addr)(keyN:Nat)(keyC:Nat)(messageA:Option Addr)(messageN:Nat)(messageC:Nat) {R:aC} {w:World}(h:yN keyA keyN keyC messageA messageN messageC R w):Calls prog 20 #[(.slice keyA keyN keyC),(.slice messageA messageN messageC)] w fun e w'=>∃v,e= .returned v∧R v w':=
 ar Tryz.func20 aw aj ((HTagF_eq keyA keyN keyC messageA messageN messageC R w).mp h)
def yp(d:Option Addr)(R:aC)(w:World):Prop:=
 aB d fun p5=>
 ∃XO:Int,∃XN:Int,∃x6c:Int,∃x6d:Int,∃x6e:Int,∃x6f:Int,∃x6g:Int,∃x6h:Int,∃x6i:Int,∃x6jA:Option Addr,∃x6jN:Nat,∃x6jC:Nat,(w.cell? (p5.add 0)=some (.int .u32 XO)∧w.cell? (p5.add 1)=some (.int .u32 XN)∧w.cell? (p5.add 2)=some (.int .u32 x6c)∧w.cell? (p5.add 3)=some (.int .u32 x6d)∧w.cell? (p5.add 4)=some (.int .u32 x6e)∧w.cell? (p5.add 5)=some (.int .u32 x6f)∧w.cell? (p5.add 6)=some (.int .u32 x6g)∧w.cell? (p5.add 7)=some (.int .u32 x6h)∧w.cell? (p5.add 8)=some (.int .i64 x6i)∧w.cell? (p5.add 9)=some (.slice x6jA x6jN x6jC))∧
 ∀(gv:Nat)(wv:World),gv=w.heap.size→wv=w.alloc (.cells (#[(.int .u32 0),(.int .u32 0),(.int .u32 0),(.int .u32 0),(.int .u32 0),(.int .u32 0),(.int .u32 0),(.int .u32 0),(.int .i64 0),(.slice none 0 0)]) 191)→
 aF wv (Addr.mk gv 0 none) [(.int .u32 XO),(.int .u32 XN),(.int .u32 x6c),(.int .u32 x6d),(.int .u32 x6e),(.int .u32 x6f),(.int .u32 x6g),(.int .u32 x6h),(.int .i64 x6i),(.slice x6jA x6jN x6jC)] fun M5=>
 aB d fun p8=>
 ∃TR:Option Addr,∃TP:Nat,∃TQ:Nat,M5.cell? (p8.add 9)=some (.slice TR TP TQ)∧
 ∃PY:Option Addr,∃PW:Nat,∃PX:Nat,∃M6,(Builtin.append_ #[31,31] 31 #[(.slice none 0 0),(.slice TR TP TQ)]:Sem Value).run prog M5= .ok (.slice PY PW PX) M6∧
 aF M6 ((Addr.mk gv 0 none).add 9) [(.slice PY PW PX)] fun Na=>
 R (.pointer (some (Addr.mk gv 0 none))) Na
def G1:Ann:= .leaf
theorem SCopy_eq(d:Option Addr)(R:aC)(w:World):yp d R w=vcF prog aH [] Tryz.f116 G1 [(.pointer d)] R none w:=by kernel_rfl
theorem yq(d:Option Addr) {R:aC} {w:World}(h:yp d R w):Calls prog 116 #[(.pointer d)] w fun e w'=>∃v,e= .returned v∧R v w':=
 ar Tryz.func116 aw aj ((SCopy_eq d R w).mp h)
def Cg(keya:Int)(keyb:Int)(keyc:Int)(keyd:Int)(keye:Int)(keyf:Int)(keyg:Int)(keyh:Int)(measurementa:Int)(measurementb:Int)(measurementc:Int)(measurementd:Int)(measuremente:Int)(measurementf:Int)(measurementg:Int)(measurementh:Int)(dataa:Int)(datab:Int)(datac:Int)(datad:Int)(datae:Int)(dataf:Int)(datag:Int)(datah:Int)(R:aC)(w:World):Prop:=
 ∀(gv:Nat)(wv:World),gv=w.heap.size→wv=w.alloc (.cells #[(.int .u32 keya),(.int .u32 keyb),(.int .u32 keyc),(.int .u32 keyd),(.int .u32 keye),(.int .u32 keyf),(.int .u32 keyg),(.int .u32 keyh)] 24)→
 ∀(Nd:Nat)(M5:World),Nd=wv.heap.size→M5=wv.alloc (.cells #[(.int .u32 measurementa),(.int .u32 measurementb),(.int .u32 measurementc),(.int .u32 measurementd),(.int .u32 measuremente),(.int .u32 measurementf),(.int .u32 measurementg),(.int .u32 measurementh)] 24)→
 ∀(NC:Nat)(M6:World),NC=M5.heap.size→M6=M5.alloc (.cells #[(.int .u32 dataa),(.int .u32 datab),(.int .u32 datac),(.int .u32 datad),(.int .u32 datae),(.int .u32 dataf),(.int .u32 datag),(.int .u32 datah)] 24)→
 ∀(Nh:Nat)(Na:World),Nh=M6.heap.size→Na=M6.alloc (.cells (#[(.int .u32 0),(.int .u32 0),(.int .u32 0),(.int .u32 0),(.int .u32 0),(.int .u32 0),(.int .u32 0),(.int .u32 0)]) 24)→
 ∃b:Nat→Nat→Prop,
 ∀XJ:Option Addr,XJ=(some (if 8=0 then Addr.mk gv 0 none else(Addr.mk gv 0 none).add (0*1)))→∀XG:Nat,XG=8 - 0→∀XH:Nat,XH=8 - 0→
 (0≤(8:Int)∧(8:Int)≤((8:Nat):Int))∧
 (0≤(8:Int)∧(8:Int)≤((Int.toNat 8:Nat):Int))∧
 ∀XE:Option Addr,XE=(some (if(Int.toNat 8)=0 then Addr.mk Nd 0 none else(Addr.mk Nd 0 none).add (0*1)))→∀XC:Nat,XC=(Int.toNat 8) - 0→∀XD:Nat,XD=(Int.toNat 8) - 0→
 ∀S2:Option Addr,S2=(some (if 8=0 then Addr.mk NC 0 none else(Addr.mk NC 0 none).add (0*1)))→∀SM:Nat,SM=8 - 0→∀Uq:Nat,Uq=8 - 0→
 ∃TR:Option Addr,∃TP:Nat,∃TQ:Nat,∃Nc,(Builtin.append_ #[31,31] 31 #[(.slice XE XC XD),(.slice S2 SM Uq)]:Sem Value).run prog Na.drew= .ok (.slice TR TP TQ) Nc∧
 Kept (du b [0]) Na.drew Nc∧∃b1:Nat→Nat→Prop,(∀i k,b i k→b1 i k)∧
 Calls prog 20 #[(.slice XJ XG XH),(.slice TR TP TQ)] Nc fun e No=>
 ∃Rw:Int,∃RV:Int,∃UQ:Int,∃UO:Int,∃UN:Int,∃aaz:Int,∃aay:Int,∃aax:Int,e= .returned (.agg #[(.int .u32 Rw),(.int .u32 RV),(.int .u32 UQ),(.int .u32 UO),(.int .u32 UN),(.int .u32 aaz),(.int .u32 aay),(.int .u32 aax)])∧
 ∃b2:Nat→Nat→Prop,(∀i k,b1 i k→b2 i k)∧
 aF No (Addr.mk Nh 0 none) [(.int .u32 Rw),(.int .u32 RV),(.int .u32 UQ),(.int .u32 UO),(.int .u32 UN),(.int .u32 aaz),(.int .u32 aay),(.int .u32 aax)] fun NU=>
 ∃b3:Nat→Nat→Prop,(∀i k,b2 i k→b3 i k)∧
 ∃O8:Int,∃O7:Int,∃Pr:Int,∃Pq:Int,∃Pp:Int,∃QI:Int,∃QH:Int,∃QG:Int,(NU.cell? ((Addr.mk Nh 0 none).add 0)=some (.int .u32 O8)∧NU.cell? ((Addr.mk Nh 0 none).add 1)=some (.int .u32 O7)∧NU.cell? ((Addr.mk Nh 0 none).add 2)=some (.int .u32 Pr)∧NU.cell? ((Addr.mk Nh 0 none).add 3)=some (.int .u32 Pq)∧NU.cell? ((Addr.mk Nh 0 none).add 4)=some (.int .u32 Pp)∧NU.cell? ((Addr.mk Nh 0 none).add 5)=some (.int .u32 QI)∧NU.cell? ((Addr.mk Nh 0 none).add 6)=some (.int .u32 QH)∧NU.cell? ((Addr.mk Nh 0 none).add 7)=some (.int .u32 QG))∧
 R (.agg #[(.int .u32 O8),(.int .u32 O7),(.int .u32 Pr),(.int .u32 Pq),(.int .u32 Pp),(.int .u32 QI),(.int .u32 QH),(.int .u32 QG)]) NU
def JD:Ann:= .leaf
theorem ATag_eq(keya:Int)(keyb:Int)(keyc:Int)(keyd:Int)(keye:Int)(keyf:Int)(keyg:Int)(keyh:Int)(measurementa:Int)(measurementb:Int)(measurementc:Int)(measurementd:Int)(measuremente:Int)(measurementf:Int)(measurementg:Int)(measurementh:Int)(dataa:Int)(datab:Int)(datac:Int)(datad:Int)(datae:Int)(dataf:Int)(datag:Int)(datah:Int)(R:aC)(w:World):Cg keya keyb keyc keyd keye keyf keyg keyh measurementa measurementb measurementc measurementd measuremente measurementf measurementg measurementh dataa datab datac datad datae dataf datag datah R w=vcF prog aH [] Tryz.f187 JD [(.agg #[(.int .u32 keya),(.int .u32 keyb),(.int .u32 keyc),(.int .u32 keyd),(.int .u32 keye),(.int .u32 keyf),(.int .u32 keyg),(.int .u32 keyh)]),(.agg #[(.int .u32 measurementa),(.int .u32 measurementb),(.int .u32 measurementc),(.int .u32 measurementd),(.int .u32 measuremente),(.int .u32 measurementf),(.int .u32 measurementg),(.int .u32 measurementh)]),(.agg #[(.int .u32 dataa),(.int .u32 datab),(.int .u32 datac),(.int .u32 datad),(.int .u32 datae),(.int .u32 dataf),(.int .u32 datag),(.int .u32 datah)])] R none w:=by kernel_rfl
theorem AY(keya:Int)(keyb:Int)(keyc:Int)(keyd:Int)(keye:Int)(keyf:Int)(keyg:Int)(keyh:Int)(measurementa:Int)(measurementb:Int)(measurementc:Int)(measurementd:Int)(measuremente:Int)(measurementf:Int)(measurementg:Int)(measurementh:Int)(dataa:Int)(datab:Int)(datac:Int)(datad:Int)(datae:Int)(dataf:Int)(datag:Int)(datah:Int) {R:aC} {w:World}(h:Cg keya keyb keyc keyd keye keyf keyg keyh measurementa measurementb measurementc measurementd measuremente measurementf measurementg measurementh dataa datab datac datad datae dataf datag datah R w):Calls prog 187 #[(.agg #[(.int .u32 keya),(.int .u32 keyb),(.int .u32 keyc),(.int .u32 keyd),(.int .u32 keye),(.int .u32 keyf),(.int .u32 keyg),(.int .u32 keyh)]),(.agg #[(.int .u32 measurementa),(.int .u32 measurementb),(.int .u32 measurementc),(.int .u32 measurementd),(.int .u32 measuremente),(.int .u32 measurementf),(.int .u32 measurementg),(.int .u32 measurementh)]),(.agg #[(.int .u32 dataa),(.int .u32 datab),(.int .u32 datac),(.int .u32 datad),(.int .u32 datae),(.int .u32 dataf),(.int .u32 datag),(.int .u32 datah)])] w fun e w'=>∃v,e= .returned v∧R v w':=
 ar Tryz.func187 aw aj ((ATag_eq keya keyb keyc keyd keye keyf keyg keyh measurementa measurementb measurementc measurementd measuremente measurementf measurementg measurementh dataa datab datac datad datae dataf datag datah R w).mp h)
def rT(keya:Int)(keyb:Int)(keyc:Int)(keyd:Int)(keye:Int)(keyf:Int)(keyg:Int)(keyh:Int)(measurementa:Int)(measurementb:Int)(measurementc:Int)(measurementd:Int)(measuremente:Int)(measurementf:Int)(measurementg:Int)(measurementh:Int)(dataa:Int)(datab:Int)(datac:Int)(datad:Int)(datae:Int)(dataf:Int)(datag:Int)(datah:Int)(taga:Int)(tagb:Int)(tagc:Int)(tagd:Int)(tage:Int)(tagf:Int)(tagg:Int)(tagh:Int)(R:aC)(w:World):Prop:=
 ∀(gv:Nat)(wv:World),gv=w.heap.size→wv=w.alloc (.cells #[(.int .u32 keya),(.int .u32 keyb),(.int .u32 keyc),(.int .u32 keyd),(.int .u32 keye),(.int .u32 keyf),(.int .u32 keyg),(.int .u32 keyh)] 24)→
 ∀(Nd:Nat)(M5:World),Nd=wv.heap.size→M5=wv.alloc (.cells #[(.int .u32 measurementa),(.int .u32 measurementb),(.int .u32 measurementc),(.int .u32 measurementd),(.int .u32 measuremente),(.int .u32 measurementf),(.int .u32 measurementg),(.int .u32 measurementh)] 24)→
 ∀(NC:Nat)(M6:World),NC=M5.heap.size→M6=M5.alloc (.cells #[(.int .u32 dataa),(.int .u32 datab),(.int .u32 datac),(.int .u32 datad),(.int .u32 datae),(.int .u32 dataf),(.int .u32 datag),(.int .u32 datah)] 24)→
 ∀(Nh:Nat)(Na:World),Nh=M6.heap.size→Na=M6.alloc (.cells #[(.int .u32 taga),(.int .u32 tagb),(.int .u32 tagc),(.int .u32 tagd),(.int .u32 tage),(.int .u32 tagf),(.int .u32 tagg),(.int .u32 tagh)] 24)→
 ∃b:Nat→Nat→Prop,
 b 0 ((Addr.mk gv 0 none).block)∧
 ∃Rv:Int,∃Ru:Int,∃TN:Int,∃TM:Int,∃TL:Int,∃TK:Int,∃TJ:Int,∃TI:Int,(Na.drew.cell? ((Addr.mk gv 0 none).add 0)=some (.int .u32 Rv)∧Na.drew.cell? ((Addr.mk gv 0 none).add 1)=some (.int .u32 Ru)∧Na.drew.cell? ((Addr.mk gv 0 none).add 2)=some (.int .u32 TN)∧Na.drew.cell? ((Addr.mk gv 0 none).add 3)=some (.int .u32 TM)∧Na.drew.cell? ((Addr.mk gv 0 none).add 4)=some (.int .u32 TL)∧Na.drew.cell? ((Addr.mk gv 0 none).add 5)=some (.int .u32 TK)∧Na.drew.cell? ((Addr.mk gv 0 none).add 6)=some (.int .u32 TJ)∧Na.drew.cell? ((Addr.mk gv 0 none).add 7)=some (.int .u32 TI))∧
 b 1 ((Addr.mk Nd 0 none).block)∧
 ∃OC:Int,∃Ow:Int,∃Qe:Int,∃Qd:Int,∃Qc:Int,∃TH:Int,∃TG:Int,∃TF:Int,(Na.drew.cell? ((Addr.mk Nd 0 none).add 0)=some (.int .u32 OC)∧Na.drew.cell? ((Addr.mk Nd 0 none).add 1)=some (.int .u32 Ow)∧Na.drew.cell? ((Addr.mk Nd 0 none).add 2)=some (.int .u32 Qe)∧Na.drew.cell? ((Addr.mk Nd 0 none).add 3)=some (.int .u32 Qd)∧Na.drew.cell? ((Addr.mk Nd 0 none).add 4)=some (.int .u32 Qc)∧Na.drew.cell? ((Addr.mk Nd 0 none).add 5)=some (.int .u32 TH)∧Na.drew.cell? ((Addr.mk Nd 0 none).add 6)=some (.int .u32 TG)∧Na.drew.cell? ((Addr.mk Nd 0 none).add 7)=some (.int .u32 TF))∧
 b 2 ((Addr.mk NC 0 none).block)∧
 ∃Qb:Int,∃PV:Int,∃Rt:Int,∃Rs:Int,∃Rr:Int,∃TC:Int,∃TB:Int,∃TA:Int,(Na.drew.cell? ((Addr.mk NC 0 none).add 0)=some (.int .u32 Qb)∧Na.drew.cell? ((Addr.mk NC 0 none).add 1)=some (.int .u32 PV)∧Na.drew.cell? ((Addr.mk NC 0 none).add 2)=some (.int .u32 Rt)∧Na.drew.cell? ((Addr.mk NC 0 none).add 3)=some (.int .u32 Rs)∧Na.drew.cell? ((Addr.mk NC 0 none).add 4)=some (.int .u32 Rr)∧Na.drew.cell? ((Addr.mk NC 0 none).add 5)=some (.int .u32 TC)∧Na.drew.cell? ((Addr.mk NC 0 none).add 6)=some (.int .u32 TB)∧Na.drew.cell? ((Addr.mk NC 0 none).add 7)=some (.int .u32 TA))∧
 b 4 ((Addr.mk Nh 0 none).block)∧
 ∃Tv:Int,∃Tu:Int,∃aai:Int,∃aah:Int,∃aag:Int,∃aaf:Int,∃aae:Int,∃aad:Int,(Na.drew.cell? ((Addr.mk Nh 0 none).add 0)=some (.int .u32 Tv)∧Na.drew.cell? ((Addr.mk Nh 0 none).add 1)=some (.int .u32 Tu)∧Na.drew.cell? ((Addr.mk Nh 0 none).add 2)=some (.int .u32 aai)∧Na.drew.cell? ((Addr.mk Nh 0 none).add 3)=some (.int .u32 aah)∧Na.drew.cell? ((Addr.mk Nh 0 none).add 4)=some (.int .u32 aag)∧Na.drew.cell? ((Addr.mk Nh 0 none).add 5)=some (.int .u32 aaf)∧Na.drew.cell? ((Addr.mk Nh 0 none).add 6)=some (.int .u32 aae)∧Na.drew.cell? ((Addr.mk Nh 0 none).add 7)=some (.int .u32 aad))∧
 Calls prog 187 #[(.agg #[(.int .u32 Rv),(.int .u32 Ru),(.int .u32 TN),(.int .u32 TM),(.int .u32 TL),(.int .u32 TK),(.int .u32 TJ),(.int .u32 TI)]),(.agg #[(.int .u32 OC),(.int .u32 Ow),(.int .u32 Qe),(.int .u32 Qd),(.int .u32 Qc),(.int .u32 TH),(.int .u32 TG),(.int .u32 TF)]),(.agg #[(.int .u32 Qb),(.int .u32 PV),(.int .u32 Rt),(.int .u32 Rs),(.int .u32 Rr),(.int .u32 TC),(.int .u32 TB),(.int .u32 TA)])] Na.drew fun e Nc=>
 ∃Qa:Int,∃PC:Int,∃Rp:Int,∃Ro:Int,∃Rn:Int,∃Ty:Int,∃Tx:Int,∃Tw:Int,e= .returned (.agg #[(.int .u32 Qa),(.int .u32 PC),(.int .u32 Rp),(.int .u32 Ro),(.int .u32 Rn),(.int .u32 Ty),(.int .u32 Tx),(.int .u32 Tw)])∧
 Kept (du b [4]) Na.drew Nc∧∃b1:Nat→Nat→Prop,(∀i k,b i k→b1 i k)∧
 Calls prog 221 #[(.agg #[(.int .u32 Qa),(.int .u32 PC),(.int .u32 Rp),(.int .u32 Ro),(.int .u32 Rn),(.int .u32 Ty),(.int .u32 Tx),(.int .u32 Tw)]),(.agg #[(.int .u32 Tv),(.int .u32 Tu),(.int .u32 aai),(.int .u32 aah),(.int .u32 aag),(.int .u32 aaf),(.int .u32 aae),(.int .u32 aad)])] Nc fun e No=>
 ∃Ts:Bool,∃Sx:Int,e= .returned (.tuple #[(.bool Ts),(.int .i64 Sx)])∧
 ∃b2:Nat→Nat→Prop,(∀i k,b1 i k→b2 i k)∧
 R (.bool Ts) No
def AX:Ann:= .leaf
theorem AVerify_eq(keya:Int)(keyb:Int)(keyc:Int)(keyd:Int)(keye:Int)(keyf:Int)(keyg:Int)(keyh:Int)(measurementa:Int)(measurementb:Int)(measurementc:Int)(measurementd:Int)(measuremente:Int)(measurementf:Int)(measurementg:Int)(measurementh:Int)(dataa:Int)(datab:Int)(datac:Int)(datad:Int)(datae:Int)(dataf:Int)(datag:Int)(datah:Int)(taga:Int)(tagb:Int)(tagc:Int)(tagd:Int)(tage:Int)(tagf:Int)(tagg:Int)(tagh:Int)(R:aC)(w:World):rT keya keyb keyc keyd keye keyf keyg keyh measurementa measurementb measurementc measurementd measuremente measurementf measurementg measurementh dataa datab datac datad datae dataf datag datah taga tagb tagc tagd tage tagf tagg tagh R w=vcF prog aH [] Tryz.f190 AX [(.agg #[(.int .u32 keya),(.int .u32 keyb),(.int .u32 keyc),(.int .u32 keyd),(.int .u32 keye),(.int .u32 keyf),(.int .u32 keyg),(.int .u32 keyh)]),(.agg #[(.int .u32 measurementa),(.int .u32 measurementb),(.int .u32 measurementc),(.int .u32 measurementd),(.int .u32 measuremente),(.int .u32 measurementf),(.int .u32 measurementg),(.int .u32 measurementh)]),(.agg #[(.int .u32 dataa),(.int .u32 datab),(.int .u32 datac),(.int .u32 datad),(.int .u32 datae),(.int .u32 dataf),(.int .u32 datag),(.int .u32 datah)]),(.agg #[(.int .u32 taga),(.int .u32 tagb),(.int .u32 tagc),(.int .u32 tagd),(.int .u32 tage),(.int .u32 tagf),(.int .u32 tagg),(.int .u32 tagh)])] R none w:=by kernel_rfl
theorem sQ(keya:Int)(keyb:Int)(keyc:Int)(keyd:Int)(keye:Int)(keyf:Int)(keyg:Int)(keyh:Int)(measurementa:Int)(measurementb:Int)(measurementc:Int)(measurementd:Int)(measuremente:Int)(measurementf:Int)(measurementg:Int)(measurementh:Int)(dataa:Int)(datab:Int)(datac:Int)(datad:Int)(datae:Int)(dataf:Int)(datag:Int)(datah:Int)(taga:Int)(tagb:Int)(tagc:Int)(tagd:Int)(tage:Int)(tagf:Int)(tagg:Int)(tagh:Int) {R:aC} {w:World}(h:rT keya keyb keyc keyd keye keyf keyg keyh measurementa measurementb measurementc measurementd measuremente measurementf measurementg measurementh dataa datab datac datad datae dataf datag datah taga tagb tagc tagd tage tagf tagg tagh R w):Calls prog 190 #[(.agg #[(.int .u32 keya),(.int .u32 keyb),(.int .u32 keyc),(.int .u32 keyd),(.int .u32 keye),(.int .u32 keyf),(.int .u32 keyg),(.int .u32 keyh)]),(.agg #[(.int .u32 measurementa),(.int .u32 measurementb),(.int .u32 measurementc),(.int .u32 measurementd),(.int .u32 measuremente),(.int .u32 measurementf),(.int .u32 measurementg),(.int .u32 measurementh)]),(.agg #[(.int .u32 dataa),(.int .u32 datab),(.int .u32 datac),(.int .u32 datad),(.int .u32 datae),(.int .u32 dataf),(.int .u32 datag),(.int .u32 datah)]),(.agg #[(.int .u32 taga),(.int .u32 tagb),(.int .u32 tagc),(.int .u32 tagd),(.int .u32 tage),(.int .u32 tagf),(.int .u32 tagg),(.int .u32 tagh)])] w fun e w'=>∃v,e= .returned v∧R v w':=
 ar Tryz.func190 aw aj ((AVerify_eq keya keyb keyc keyd keye keyf keyg keyh measurementa measurementb measurementc measurementd measuremente measurementf measurementg measurementh dataa datab datac datad datae dataf datag datah taga tagb tagc tagd tage tagf tagg tagh R w).mp h)
def yP(aa:Int)(ab:Int)(ac:Int)(ad:Int)(ae:Int)(af:Int)(ag:Int)(ah:Int)(ba:Int)(bb:Int)(bc:Int)(bd:Int)(be:Int)(bf:Int)(bg:Int)(bh:Int)(R:aC)(w:World):Prop:=
 ∀(gv:Nat)(wv:World),gv=w.heap.size→wv=w.alloc (.cells #[(.int .u32 aa),(.int .u32 ab),(.int .u32 ac),(.int .u32 ad),(.int .u32 ae),(.int .u32 af),(.int .u32 ag),(.int .u32 ah)] 24)→
 ∀(Nd:Nat)(M5:World),Nd=wv.heap.size→M5=wv.alloc (.cells #[(.int .u32 ba),(.int .u32 bb),(.int .u32 bc),(.int .u32 bd),(.int .u32 be),(.int .u32 bf),(.int .u32 bg),(.int .u32 bh)] 24)→
 ∀apart:Int,apart=0→
 ∃I:Nat→Int→Int→Int→World→Prop,(∃m,I m 0 apart 0 M5)∧∀(m:Nat)(Pw:Nat→Value)(looks:Int)(apart1:Int)(x8:Int),∀M6,I m looks apart1 x8 M6→
 split (decide ((x8:Int)<8)) (
  (0≤(x8:Int)∧(x8:Int)<((8:Nat):Int))∧
  ∃Nn:Int,M6.drew.cell? ((Addr.mk gv 0 none).add (Int.toNat x8*1))=some (.int .u32 Nn)∧
  (0≤(x8:Int)∧(x8:Int)<((8:Nat):Int))∧
  ∃OR:Int,M6.drew.cell? ((Addr.mk Nd 0 none).add (Int.toNat x8*1))=some (.int .u32 OR)∧
  ∀apart2:Int,apart2=(u32.wrap (BitVec.ofInt u32.bits apart1 ||| BitVec.ofInt u32.bits (u32.wrap (BitVec.ofInt u32.bits Nn ^^^ BitVec.ofInt u32.bits OR).toNat)).toNat)→
  ∃m1,m1<m∧I m1 (i64.wrap (looks+1)) apart2 (i64.wrap (x8+1)) M6.drew) (
  R (.tuple #[(.bool ((apart1:Int)==0)),(.int .i64 looks)]) M6)
def Hp:Ann:=(.node none .leaf (.node none .leaf (.node none (.node none .leaf (.node none (.node (some ⟨[(5,.one (.int .i64)),(6,.one (.int .u32)),(8,.one (.int .i64))],[5,6,7,8,9,10,11,12,13,14,15,16,17,18,19,20,21,22]⟩) .leaf .leaf) .leaf)) .leaf)))
theorem HSame_eq(aa:Int)(ab:Int)(ac:Int)(ad:Int)(ae:Int)(af:Int)(ag:Int)(ah:Int)(ba:Int)(bb:Int)(bc:Int)(bd:Int)(be:Int)(bf:Int)(bg:Int)(bh:Int)(R:aC)(w:World):yP aa ab ac ad ae af ag ah ba bb bc bd be bf bg bh R w=vcF prog aH [6] Tryz.f221 Hp [(.agg #[(.int .u32 aa),(.int .u32 ab),(.int .u32 ac),(.int .u32 ad),(.int .u32 ae),(.int .u32 af),(.int .u32 ag),(.int .u32 ah)]),(.agg #[(.int .u32 ba),(.int .u32 bb),(.int .u32 bc),(.int .u32 bd),(.int .u32 be),(.int .u32 bf),(.int .u32 bg),(.int .u32 bh)])] R none w:=by kernel_rfl
theorem yQ(aa:Int)(ab:Int)(ac:Int)(ad:Int)(ae:Int)(af:Int)(ag:Int)(ah:Int)(ba:Int)(bb:Int)(bc:Int)(bd:Int)(be:Int)(bf:Int)(bg:Int)(bh:Int) {R:aC} {w:World}(h:yP aa ab ac ad ae af ag ah ba bb bc bd be bf bg bh R w):Calls prog 221 #[(.agg #[(.int .u32 aa),(.int .u32 ab),(.int .u32 ac),(.int .u32 ad),(.int .u32 ae),(.int .u32 af),(.int .u32 ag),(.int .u32 ah)]),(.agg #[(.int .u32 ba),(.int .u32 bb),(.int .u32 bc),(.int .u32 bd),(.int .u32 be),(.int .u32 bf),(.int .u32 bg),(.int .u32 bh)])] w fun e w'=>∃v,e= .returned v∧R v w':=
 ar Tryz.func221 aw aj ((HSame_eq aa ab ac ad ae af ag ah ba bb bc bd be bf bg bh R w).mp h)
end
section
set_option maxRecDepth 100000
def B7(d:Option Addr)(last:Int)(long:Int)(R:aC)(w:World):Prop:=
 ∀(gv:Nat)(wv:World),gv=w.heap.size→wv=w.alloc (.cells (#[(.int .u32 0),(.int .u32 0),(.int .u32 0),(.int .u32 0),(.int .u32 0),(.int .u32 0),(.int .u32 0),(.int .u32 0)]) 24)→
 ∃b:Nat→Nat→Prop,
 aB d fun p10=>
 b 3 ((p10.add 9).block)∧
 ∃Sz:Option Addr,∃UM:Nat,∃TO:Nat,wv.drew.cell? (p10.add 9)=some (.slice Sz UM TO)∧
 aB d fun SC=>
 b 7 ((SC.add 9).block)∧
 ∃Rl:Option Addr,∃P9:Nat,∃Rk:Nat,wv.drew.cell? (SC.add 9)=some (.slice Rl P9 Rk)∧
 aB d fun p19=>
 b 12 ((p19.add 9).block)∧
 ∃UJ:Option Addr,∃QS:Nat,∃UI:Nat,wv.drew.cell? (p19.add 9)=some (.slice UJ QS UI)∧
 (0≤(((QS:Nat):Int):Int)∧(((QS:Nat):Int):Int)≤((TO:Nat):Int))∧
 (0≤(((P9:Nat):Int):Int)∧(((P9:Nat):Int):Int)≤((Int.toNat ((QS:Nat):Int):Nat):Int))∧
 ∀QR:Option Addr,QR=(if(Int.toNat ((QS:Nat):Int))=0 then Sz else(Sz:Option Addr).map (·.add (0*1)))→∀QQ:Nat,QQ=(Int.toNat ((P9:Nat):Int)) - 0→∀Ri:Nat,Ri=(Int.toNat ((QS:Nat):Int)) - 0→
 ∀(Nd:Nat)(M5:World),Nd=wv.drew.heap.size→M5=wv.drew.alloc (.cells #[(.int .u32 last)] 23)→
 Kept (du b [0,1,2,3,4,5,6,7,8,9,10,11,12,13,14]) wv.drew M5∧∃b1:Nat→Nat→Prop,(∀i k,b i k→b1 i k)∧
 ∃Rf:Option Addr,∃Re:Nat,∃UC:Nat,∃M6,(Builtin.append_ #[31,31] 31 #[(.slice QR QQ Ri),(.slice (some (Addr.mk Nd 0 none)) 1 1)]:Sem Value).run prog M5= .ok (.slice Rf Re UC) M6∧
 Kept (du b1 [0,1,4,5,6,9,10,11]) M5 M6∧∃b2:Nat→Nat→Prop,(∀i k,b1 i k→b2 i k)∧
 ∃I:Nat→Option Addr→Nat→Nat→World→Prop,(∃m,I m Rf Re UC M6)∧∀(m:Nat)(Pw:Nat→Value)(leftA:Option Addr)(leftN:Nat)(leftC:Nat),∀Na,I m leftA leftN leftC Na→
 split (((((leftN:Nat):Int):Int).tmod 16:Int) !=14) (
  ∀(Nh:Nat)(Nc:World),Nh=Na.heap.size→Nc=Na.alloc (.cells #[(.int .u32 0)] 23)→
  ∃Rc:Option Addr,∃Q9:Nat,∃Ra:Nat,∃No,(Builtin.append_ #[31,31] 31 #[(.slice leftA leftN leftC),(.slice (some (Addr.mk Nh 0 none)) 1 1)]:Sem Value).run prog Nc= .ok (.slice Rc Q9 Ra) No∧
  ∃m1,m1<m∧I m1 Rc Q9 Ra No) (
  ∀(Nh:Nat)(Nc:World),Nh=Na.heap.size→Nc=Na.alloc (.cells #[(.int .u32 (u32.wrap ((long:Int).fdiv (2 ^ 32)))),(.int .u32 (u32.wrap long))] 23)→
  ∃Zc:Option Addr,∃Za:Nat,∃Zb:Nat,∃No,(Builtin.append_ #[31,31] 31 #[(.slice leftA leftN leftC),(.slice (some (Addr.mk Nh 0 none)) 2 2)]:Sem Value).run prog Nc= .ok (.slice Zc Za Zb) No∧
  aB d fun Us=>
  ∃Y5:Int,∃Y4:Int,∃Y3:Int,∃Y1:Int,∃Y0:Int,∃YZ:Int,∃YY:Int,∃YX:Int,(No.cell? ((Us.add 0).add 0)=some (.int .u32 Y5)∧No.cell? ((Us.add 0).add 1)=some (.int .u32 Y4)∧No.cell? ((Us.add 0).add 2)=some (.int .u32 Y3)∧No.cell? ((Us.add 0).add 3)=some (.int .u32 Y1)∧No.cell? ((Us.add 0).add 4)=some (.int .u32 Y0)∧No.cell? ((Us.add 0).add 5)=some (.int .u32 YZ)∧No.cell? ((Us.add 0).add 6)=some (.int .u32 YY)∧No.cell? ((Us.add 0).add 7)=some (.int .u32 YX))∧
  ∀(PO:Nat)(NU:World),PO=No.heap.size→NU=No.alloc (.cells (#[(.int .u32 0),(.int .u32 0),(.int .u32 0),(.int .u32 0),(.int .u32 0),(.int .u32 0),(.int .u32 0),(.int .u32 0)]) 24)→
  aF NU (Addr.mk PO 0 none) [(.int .u32 Y5),(.int .u32 Y4),(.int .u32 Y3),(.int .u32 Y1),(.int .u32 Y0),(.int .u32 YZ),(.int .u32 YY),(.int .u32 YX)] fun NL=>
  ∃I1:Nat→Option Addr→Nat→Nat→World→Prop,(∃m2,I1 m2 Zc Za Zb NL)∧∀(m2:Nat)(ab4:Nat→Value)(leftA1:Option Addr)(leftN1:Nat)(leftC1:Nat),∀Nk,I1 m2 leftA1 leftN1 leftC1 Nk→
  split (decide ((((leftN1:Nat):Int):Int)>0)) (
   ∃b3:Nat→Nat→Prop,
   b3 0 ((Addr.mk PO 0 none).block)∧
   ∃Tf:Int,∃Te:Int,∃Td:Int,∃Tc:Int,∃Ta:Int,∃S9:Int,∃S7:Int,∃S6:Int,(Nk.drew.cell? ((Addr.mk PO 0 none).add 0)=some (.int .u32 Tf)∧Nk.drew.cell? ((Addr.mk PO 0 none).add 1)=some (.int .u32 Te)∧Nk.drew.cell? ((Addr.mk PO 0 none).add 2)=some (.int .u32 Td)∧Nk.drew.cell? ((Addr.mk PO 0 none).add 3)=some (.int .u32 Tc)∧Nk.drew.cell? ((Addr.mk PO 0 none).add 4)=some (.int .u32 Ta)∧Nk.drew.cell? ((Addr.mk PO 0 none).add 5)=some (.int .u32 S9)∧Nk.drew.cell? ((Addr.mk PO 0 none).add 6)=some (.int .u32 S7)∧Nk.drew.cell? ((Addr.mk PO 0 none).add 7)=some (.int .u32 S6))∧
   16≤leftN1∧
   aB leftA1 fun QU=>
   b3 3 (QU.block)∧
   ∃Yu:Int,∃Yt:Int,∃Ys:Int,∃Yr:Int,∃Yq:Int,∃Yp:Int,∃Yo:Int,∃Yn:Int,∃Ym:Int,∃Yl:Int,∃Yk:Int,∃Yj:Int,∃Yi:Int,∃Yh:Int,∃Yg:Int,∃Yf:Int,(Nk.drew.cell? (QU.add 0)=some (.int .u32 Yu)∧Nk.drew.cell? (QU.add 1)=some (.int .u32 Yt)∧Nk.drew.cell? (QU.add 2)=some (.int .u32 Ys)∧Nk.drew.cell? (QU.add 3)=some (.int .u32 Yr)∧Nk.drew.cell? (QU.add 4)=some (.int .u32 Yq)∧Nk.drew.cell? (QU.add 5)=some (.int .u32 Yp)∧Nk.drew.cell? (QU.add 6)=some (.int .u32 Yo)∧Nk.drew.cell? (QU.add 7)=some (.int .u32 Yn)∧Nk.drew.cell? (QU.add 8)=some (.int .u32 Ym)∧Nk.drew.cell? (QU.add 9)=some (.int .u32 Yl)∧Nk.drew.cell? (QU.add 10)=some (.int .u32 Yk)∧Nk.drew.cell? (QU.add 11)=some (.int .u32 Yj)∧Nk.drew.cell? (QU.add 12)=some (.int .u32 Yi)∧Nk.drew.cell? (QU.add 13)=some (.int .u32 Yh)∧Nk.drew.cell? (QU.add 14)=some (.int .u32 Yg)∧Nk.drew.cell? (QU.add 15)=some (.int .u32 Yf))∧
   Calls prog 114 #[(.agg #[(.int .u32 Tf),(.int .u32 Te),(.int .u32 Td),(.int .u32 Tc),(.int .u32 Ta),(.int .u32 S9),(.int .u32 S7),(.int .u32 S6)]),(.agg #[(.int .u32 Yu),(.int .u32 Yt),(.int .u32 Ys),(.int .u32 Yr),(.int .u32 Yq),(.int .u32 Yp),(.int .u32 Yo),(.int .u32 Yn),(.int .u32 Ym),(.int .u32 Yl),(.int .u32 Yk),(.int .u32 Yj),(.int .u32 Yi),(.int .u32 Yh),(.int .u32 Yg),(.int .u32 Yf)])] Nk.drew fun e OS=>
   ∃Ye:Int,∃Yd:Int,∃Yc:Int,∃Yb:Int,∃Ya:Int,∃X9:Int,∃X8:Int,∃X7:Int,e= .returned (.agg #[(.int .u32 Ye),(.int .u32 Yd),(.int .u32 Yc),(.int .u32 Yb),(.int .u32 Ya),(.int .u32 X9),(.int .u32 X8),(.int .u32 X7)])∧
   ∃b4:Nat→Nat→Prop,(∀i k,b3 i k→b4 i k)∧
   aF OS (Addr.mk PO 0 none) [(.int .u32 Ye),(.int .u32 Yd),(.int .u32 Yc),(.int .u32 Yb),(.int .u32 Ya),(.int .u32 X9),(.int .u32 X8),(.int .u32 X7)] fun PD=>
   ∃b5:Nat→Nat→Prop,(∀i k,b4 i k→b5 i k)∧
   (0≤(16:Int)∧(16:Int)≤((leftN1:Nat):Int))∧
   ∀Pe:Option Addr,Pe=(if leftC1=(Int.toNat 16)then leftA1 else(leftA1:Option Addr).map (·.add ((Int.toNat 16)*1)))→∀OA:Nat,OA=leftN1 - (Int.toNat 16)→∀PT:Nat,PT=leftC1 - (Int.toNat 16)→
   ∃m3,m3<m2∧I1 m3 Pe OA PT PD) (
   ∃S4:Int,∃S3:Int,∃X6:Int,∃X5:Int,∃X4:Int,∃XZ:Int,∃XY:Int,∃XX:Int,(Nk.cell? ((Addr.mk PO 0 none).add 0)=some (.int .u32 S4)∧Nk.cell? ((Addr.mk PO 0 none).add 1)=some (.int .u32 S3)∧Nk.cell? ((Addr.mk PO 0 none).add 2)=some (.int .u32 X6)∧Nk.cell? ((Addr.mk PO 0 none).add 3)=some (.int .u32 X5)∧Nk.cell? ((Addr.mk PO 0 none).add 4)=some (.int .u32 X4)∧Nk.cell? ((Addr.mk PO 0 none).add 5)=some (.int .u32 XZ)∧Nk.cell? ((Addr.mk PO 0 none).add 6)=some (.int .u32 XY)∧Nk.cell? ((Addr.mk PO 0 none).add 7)=some (.int .u32 XX))∧
   aF Nk (Addr.mk gv 0 none) [(.int .u32 S4),(.int .u32 S3),(.int .u32 X6),(.int .u32 X5),(.int .u32 X4),(.int .u32 XZ),(.int .u32 XY),(.int .u32 XX)] fun OS=>
   ∃O8:Int,∃O7:Int,∃Pr:Int,∃Pq:Int,∃Pp:Int,∃QI:Int,∃QH:Int,∃QG:Int,(OS.cell? ((Addr.mk gv 0 none).add 0)=some (.int .u32 O8)∧OS.cell? ((Addr.mk gv 0 none).add 1)=some (.int .u32 O7)∧OS.cell? ((Addr.mk gv 0 none).add 2)=some (.int .u32 Pr)∧OS.cell? ((Addr.mk gv 0 none).add 3)=some (.int .u32 Pq)∧OS.cell? ((Addr.mk gv 0 none).add 4)=some (.int .u32 Pp)∧OS.cell? ((Addr.mk gv 0 none).add 5)=some (.int .u32 QI)∧OS.cell? ((Addr.mk gv 0 none).add 6)=some (.int .u32 QH)∧OS.cell? ((Addr.mk gv 0 none).add 7)=some (.int .u32 QG))∧
   R (.agg #[(.int .u32 O8),(.int .u32 O7),(.int .u32 Pr),(.int .u32 Pq),(.int .u32 Pp),(.int .u32 QI),(.int .u32 QH),(.int .u32 QG)]) OS))
def Jh:Ann:=(.node none .leaf (.node none .leaf (.node none (.node none (.node (some ⟨[(7,.one (.slice))],[7,27,28,29,30,31,32,33]⟩) .leaf .leaf) .leaf) (.node none .leaf (.node none .leaf (.node none (.node none (.node (some ⟨[(7,.one (.slice))],[7,46,47,48,49,50,51,52,53,54,55]⟩) .leaf .leaf) .leaf) .leaf))))))
theorem SEnd_eq(d:Option Addr)(last:Int)(long:Int)(R:aC)(w:World):B7 d last long R w=vcF prog aH [7] Tryz.f174 Jh [(.pointer d),(.int .u32 last),(.int .u64 long)] R none w:=by kernel_rfl
theorem Al(d:Option Addr)(last:Int)(long:Int) {R:aC} {w:World}(h:B7 d last long R w):Calls prog 174 #[(.pointer d),(.int .u32 last),(.int .u64 long)] w fun e w'=>∃v,e= .returned v∧R v w':=
 ar Tryz.func174 aw aj ((SEnd_eq d last long R w).mp h)
def lJ(d:Option Addr)(R:aC)(w:World):Prop:=
 ∀(gv:Nat)(wv:World),gv=w.heap.size→wv=w.alloc (.cells (#[(.int .u32 0),(.int .u32 0),(.int .u32 0),(.int .u32 0),(.int .u32 0),(.int .u32 0),(.int .u32 0),(.int .u32 0)]) 24)→
 aB d fun p5=>
 ∃x7:Int,wv.cell? (p5.add 8)=some (.int .i64 x7)∧
 Calls prog 174 #[(.pointer d),(.int .u32 2147483648),(.int .u64 (u64.wrap (32*(u64.wrap x7))))] wv fun e M5=>
 ∃Qf:Int,∃Pf:Int,∃aaG:Int,∃aaF:Int,∃aaE:Int,∃aaD:Int,∃aaC:Int,∃aaB:Int,e= .returned (.agg #[(.int .u32 Qf),(.int .u32 Pf),(.int .u32 aaG),(.int .u32 aaF),(.int .u32 aaE),(.int .u32 aaD),(.int .u32 aaC),(.int .u32 aaB)])∧
 aF M5 (Addr.mk gv 0 none) [(.int .u32 Qf),(.int .u32 Pf),(.int .u32 aaG),(.int .u32 aaF),(.int .u32 aaE),(.int .u32 aaD),(.int .u32 aaC),(.int .u32 aaB)] fun M6=>
 ∃O8:Int,∃O7:Int,∃Pr:Int,∃Pq:Int,∃Pp:Int,∃QI:Int,∃QH:Int,∃QG:Int,(M6.cell? ((Addr.mk gv 0 none).add 0)=some (.int .u32 O8)∧M6.cell? ((Addr.mk gv 0 none).add 1)=some (.int .u32 O7)∧M6.cell? ((Addr.mk gv 0 none).add 2)=some (.int .u32 Pr)∧M6.cell? ((Addr.mk gv 0 none).add 3)=some (.int .u32 Pq)∧M6.cell? ((Addr.mk gv 0 none).add 4)=some (.int .u32 Pp)∧M6.cell? ((Addr.mk gv 0 none).add 5)=some (.int .u32 QI)∧M6.cell? ((Addr.mk gv 0 none).add 6)=some (.int .u32 QH)∧M6.cell? ((Addr.mk gv 0 none).add 7)=some (.int .u32 QG))∧
 R (.agg #[(.int .u32 O8),(.int .u32 O7),(.int .u32 Pr),(.int .u32 Pq),(.int .u32 Pp),(.int .u32 QI),(.int .u32 QH),(.int .u32 QG)]) M6
def sy:Ann:= .leaf
theorem SSumDigest_eq(d:Option Addr)(R:aC)(w:World):lJ d R w=vcF prog aH [] Tryz.f115 sy [(.pointer d)] R none w:=by kernel_rfl
theorem oe(d:Option Addr) {R:aC} {w:World}(h:lJ d R w):Calls prog 115 #[(.pointer d)] w fun e w'=>∃v,e= .returned v∧R v w':=
 ar Tryz.func115 aw aj ((SSumDigest_eq d R w).mp h)
end
section
set_option maxRecDepth 100000
end
section
set_option maxRecDepth 100000
def qY(ma:Bool)(mb:Int)(mc:Bool)(md:Bool)(R:aC)(w:World):Prop:=
 ∀(gv:Nat)(wv:World),gv=w.heap.size→wv=w.alloc (.cells #[(.bool ma),(.int .i64 mb),(.bool mc),(.bool md)] 255)→
 ∃J:Bool→World→Prop,(
  ∃x9:Int,wv.cell? (((Addr.mk gv 0 none).add 0).add 1)=some (.int .i64 x9)∧
  split (decide ((x9:Int)<0)) (
   J true wv) (
   ∃Nn:Int,wv.cell? (((Addr.mk gv 0 none).add 0).add 1)=some (.int .i64 Nn)∧
   J (decide ((Nn:Int)>63)) wv))∧∀(Nt:Nat→Value)(OB:Bool),∀M5,J OB M5→
 split OB (
  R (.tuple #[(.int .u32 0),(.int .i64 4)]) M5) (
  ∃J1:Bool→World→Prop,(
   ∃Po:Bool,M5.cell? ((Addr.mk gv 0 none).add 3)=some (.bool Po)∧
   split Po (
    ∃NI:Bool,M5.cell? (((Addr.mk gv 0 none).add 0).add 0)=some (.bool NI)∧
    J1 (!NI) M5) (
    J1 false M5))∧∀(Pw:Nat→Value)(To:Bool),∀M6,J1 To M6→
  split To (
   R (.tuple #[(.int .u32 0),(.int .i64 1)]) M6) (
   ∃Tm:Int,M6.cell? (((Addr.mk gv 0 none).add 0).add 1)=some (.int .i64 Tm)∧
   ∀Na:Int,Na=(u32.wrap (BitVec.ofInt u32.bits (u32.wrap ((u32.wrap Tm:Int)*2 ^ 8)) ||| BitVec.ofInt u32.bits 1).toNat)→
   ∃x33:Bool,M6.cell? (((Addr.mk gv 0 none).add 0).add 0)=some (.bool x33)∧
   ∃OI:Bool,M6.cell? ((Addr.mk gv 0 none).add 2)=some (.bool OI)∧
   ∃Oi:Bool,M6.cell? ((Addr.mk gv 0 none).add 3)=some (.bool Oi)∧
   ∀(Nh:Nat)(Nc:World),Nh=M6.heap.size→Nc=M6.alloc (.cells #[(.bool x33),(.int .u32 2),(.bool OI),(.int .u32 4),(.bool Oi),(.int .u32 8)] 308)→
   ∃I:Nat→Int→Int→World→Prop,(∃m,I m Na 0 Nc)∧∀(m:Nat)(P4:Nat→Value)(No:Int)(PA:Int),∀NU,I m No PA NU→
   split (decide ((PA:Int)<((3:Nat):Int))) (
    (0≤(PA:Int)∧(PA:Int)<((3:Nat):Int))∧
    ∃YW:Bool,∃YV:Int,(NU.cell? (((Addr.mk Nh 0 none).add (Int.toNat PA*2)).add 0)=some (.bool YW)∧NU.cell? (((Addr.mk Nh 0 none).add (Int.toNat PA*2)).add 1)=some (.int .u32 YV))∧
    ∀(Sp:Nat)(NL:World),Sp=NU.heap.size→NL=NU.alloc (.cells (#[(.bool false),(.int .u32 0)]) 308)→
    aF NL (Addr.mk Sp 0 none) [(.bool YW),(.int .u32 YV)] fun Nk=>
    ∃Vj:Bool,Nk.cell? ((Addr.mk Sp 0 none).add 0)=some (.bool Vj)∧
    split Vj (
     ∃Vi:Int,Nk.cell? ((Addr.mk Sp 0 none).add 1)=some (.int .u32 Vi)∧
     ∀OS:Int,OS=(u32.wrap (BitVec.ofInt u32.bits No ||| BitVec.ofInt u32.bits Vi).toNat)→
     ∃m1,m1<m∧I m1 OS (i64.wrap (PA+1)) Nk) (
     ∃m1,m1<m∧I m1 No (i64.wrap (PA+1)) Nk)) (
    R (.tuple #[(.int .u32 No),(.int .i64 0)]) NU)))
def Ab:Ann:=(.node none .leaf (.node none (.node none (.node (some ⟨[(16,.one (.bool))],[7,8,9,10,11,12,13,14,15,16]⟩) .leaf .leaf) .leaf) (.node none (.node none (.node (some ⟨[(24,.one (.bool))],[17,18,19,20,21,22,23,24]⟩) .leaf .leaf) .leaf) (.node none .leaf (.node none (.node none .leaf (.node none (.node (some ⟨[(4,.one (.int .u32)),(43,.one (.int .i64))],[4,6,43,44,45,46,47,48,49,50,51,52,53]⟩) .leaf .leaf) .leaf)) .leaf)))))
theorem WSecond_eq(ma:Bool)(mb:Int)(mc:Bool)(md:Bool)(R:aC)(w:World):qY ma mb mc md R w=vcF prog aH [4] Tryz.f217 Ab [(.agg #[(.bool ma),(.int .i64 mb),(.bool mc),(.bool md)])] R none w:=by kernel_rfl
theorem so(ma:Bool)(mb:Int)(mc:Bool)(md:Bool) {R:aC} {w:World}(h:qY ma mb mc md R w):Calls prog 217 #[(.agg #[(.bool ma),(.int .i64 mb),(.bool mc),(.bool md)])] w fun e w'=>∃v,e= .returned v∧R v w':=
 ar Tryz.func217 aw aj ((WSecond_eq ma mb mc md R w).mp h)
end
section
set_option maxRecDepth 100000
def gn(x:Int)(k:Int)(R:aC)(w:World):Prop:=
 ∀s:Int,s=(u64.wrap (BitVec.ofInt u64.bits (u64.wrap k) &&& BitVec.ofInt u64.bits 31).toNat)→
 dZ s fun OW=>
 dZ (u64.wrap (32 - s)) fun Qx=>
 R (.int .u32 (u32.wrap (BitVec.ofInt u32.bits (u32.wrap ((x:Int)*2 ^ (min OW u32.bits))) ||| BitVec.ofInt u32.bits ((x:Int).fdiv (2 ^ (min Qx u32.bits)))).toNat)) w
def lz:Ann:= .leaf
theorem BitsRotateLeft32_eq(x:Int)(k:Int)(R:aC)(w:World):gn x k R w=vcF prog aH [5] Tryz.f212 lz [(.int .u32 x),(.int .i64 k)] R none w:=by kernel_rfl
theorem jM(x:Int)(k:Int) {R:aC} {w:World}(h:gn x k R w):Calls prog 212 #[(.int .u32 x),(.int .i64 k)] w fun e w'=>∃v,e= .returned v∧R v w':=
 ar Tryz.func212 aw aj ((BitsRotateLeft32_eq x k R w).mp h)
def tU(wv:Int)(n:Int)(R:aC)(w:World):Prop:=
 Calls prog 212 #[(.int .u32 wv),(.int .i64 (i64.wrap (0 - n)))] w fun e M5=>
 ∃x8:Int,e= .returned (.int .u32 x8)∧
 R (.int .u32 x8) M5
def DN:Ann:= .leaf
theorem SRight_eq(wv:Int)(n:Int)(R:aC)(w:World):tU wv n R w=vcF prog aH [] Tryz.f173 DN [(.int .u32 wv),(.int .i64 n)] R none w:=by kernel_rfl
theorem vh(wv:Int)(n:Int) {R:aC} {w:World}(h:tU wv n R w):Calls prog 173 #[(.int .u32 wv),(.int .i64 n)] w fun e w'=>∃v,e= .returned v∧R v w':=
 ar Tryz.func173 aw aj ((SRight_eq wv n R w).mp h)
def nu(blocka:Int)(blockb:Int)(blockc:Int)(blockd:Int)(blocke:Int)(blockf:Int)(blockg:Int)(blockh:Int)(blocki:Int)(blockj:Int)(blockk:Int)(blockl:Int)(blockm:Int)(blockn:Int)(blocko:Int)(blockp:Int)(R:aC)(w:World):Prop:=
 ∀(gv:Nat)(wv:World),gv=w.heap.size→wv=w.alloc (.cells #[(.int .u32 blocka),(.int .u32 blockb),(.int .u32 blockc),(.int .u32 blockd),(.int .u32 blocke),(.int .u32 blockf),(.int .u32 blockg),(.int .u32 blockh),(.int .u32 blocki),(.int .u32 blockj),(.int .u32 blockk),(.int .u32 blockl),(.int .u32 blockm),(.int .u32 blockn),(.int .u32 blocko),(.int .u32 blockp)] 193)→
 ∀(Nd:Nat)(M5:World),Nd=wv.heap.size→M5=wv.alloc (.cells (Array.replicate 64 (.int .u32 0)) 240)→
 ∀(NC:Nat)(M6:World),NC=M5.heap.size→M6=M5.alloc (.cells (Array.replicate 64 (.int .u32 0)) 240)→
 ∃b:Nat→Nat→Prop,
 ∀XJ:Option Addr,XJ=(some (if 64=0 then Addr.mk NC 0 none else(Addr.mk NC 0 none).add (0*1)))→∀XG:Nat,XG=64 - 0→∀XH:Nat,XH=64 - 0→
 ∀XE:Option Addr,XE=(some (if 16=0 then Addr.mk gv 0 none else(Addr.mk gv 0 none).add (0*1)))→∀XC:Nat,XC=16 - 0→∀XD:Nat,XD=16 - 0→
 ∃x9:Int,∃Na,(Builtin.copy_ #[31,31] 3 #[(.slice XJ XG XH),(.slice XE XC XD)]:Sem Value).run prog M6.drew= .ok (.int .i64 x9) Na∧
 ∃b1:Nat→Nat→Prop,(∀i k,b i k→b1 i k)∧
 ∀t:Int,t=16→
 ∃I:Nat→Int→World→Prop,(∃m,I m t Na)∧∀(m:Nat)(Sc:Nat→Value)(t1:Int),∀Nc,I m t1 Nc→
 split (decide ((t1:Int)<64)) (
  (0≤(i64.wrap (t1 - 15):Int)∧(i64.wrap (t1 - 15):Int)<((64:Nat):Int))∧
  ∃OR:Int,Nc.drew.cell? ((Addr.mk NC 0 none).add (Int.toNat (i64.wrap (t1 - 15))*1))=some (.int .u32 OR)∧
  (0≤(i64.wrap (t1 - 2):Int)∧(i64.wrap (t1 - 2):Int)<((64:Nat):Int))∧
  ∃Om:Int,Nc.drew.cell? ((Addr.mk NC 0 none).add (Int.toNat (i64.wrap (t1 - 2))*1))=some (.int .u32 Om)∧
  ∃b2:Nat→Nat→Prop,
  (0≤(i64.wrap (t1 - 16):Int)∧(i64.wrap (t1 - 16):Int)<((64:Nat):Int))∧
  b2 4 (((Addr.mk NC 0 none).add (Int.toNat (i64.wrap (t1 - 16))*1)).block)∧
  ∃P8:Int,Nc.drew.drew.cell? ((Addr.mk NC 0 none).add (Int.toNat (i64.wrap (t1 - 16))*1))=some (.int .u32 P8)∧
  (0≤(i64.wrap (t1 - 7):Int)∧(i64.wrap (t1 - 7):Int)<((64:Nat):Int))∧
  b2 17 (((Addr.mk NC 0 none).add (Int.toNat (i64.wrap (t1 - 7))*1)).block)∧
  ∃Oi:Int,Nc.drew.drew.cell? ((Addr.mk NC 0 none).add (Int.toNat (i64.wrap (t1 - 7))*1))=some (.int .u32 Oi)∧
  Calls prog 173 #[(.int .u32 OR),(.int .i64 7)] Nc.drew.drew fun e No=>
  ∃QB:Int,e= .returned (.int .u32 QB)∧
  Kept (du b2 [0,1,2,3,4,7,10,11,14,15,16,17,19,21,24,25]) Nc.drew.drew No∧∃b3:Nat→Nat→Prop,(∀i k,b2 i k→b3 i k)∧
  Calls prog 173 #[(.int .u32 OR),(.int .i64 18)] No fun e NU=>
  ∃Od:Int,e= .returned (.int .u32 Od)∧
  Kept (du b3 [0,1,2,3,4,10,11,14,15,16,17,19,21,24,25]) No NU∧∃b4:Nat→Nat→Prop,(∀i k,b3 i k→b4 i k)∧
  Calls prog 173 #[(.int .u32 Om),(.int .i64 17)] NU fun e NL=>
  ∃Q8:Int,e= .returned (.int .u32 Q8)∧
  Kept (du b4 [0,1,2,3,4,9,10,11,12,13,14,15,16,17,18,21,24,25]) NU NL∧∃b5:Nat→Nat→Prop,(∀i k,b4 i k→b5 i k)∧
  Calls prog 173 #[(.int .u32 Om),(.int .i64 19)] NL fun e Nk=>
  ∃x44:Int,e= .returned (.int .u32 x44)∧
  Kept (du b5 [0,1,2,3,4,5,9,10,11,12,13,14,15,16,17,18,24,25]) NL Nk∧∃b6:Nat→Nat→Prop,(∀i k,b5 i k→b6 i k)∧
  (0≤(t1:Int)∧(t1:Int)<((64:Nat):Int))∧
  aF Nk ((Addr.mk NC 0 none).add (Int.toNat t1*1)) [(.int .u32 (u32.wrap ((u32.wrap ((u32.wrap (P8+(u32.wrap (BitVec.ofInt u32.bits (u32.wrap (BitVec.ofInt u32.bits QB ^^^ BitVec.ofInt u32.bits Od).toNat) ^^^ BitVec.ofInt u32.bits ((OR:Int).fdiv (2 ^ 3))).toNat)))+Oi))+(u32.wrap (BitVec.ofInt u32.bits (u32.wrap (BitVec.ofInt u32.bits Q8 ^^^ BitVec.ofInt u32.bits x44).toNat) ^^^ BitVec.ofInt u32.bits ((Om:Int).fdiv (2 ^ 10))).toNat))))] fun OS=>
  ∃b7:Nat→Nat→Prop,(∀i k,b6 i k→b7 i k)∧
  ∀t2:Int,t2=(i64.wrap (t1+1))→
  ∃m1,m1<m∧I m1 t2 OS) (
  ∃Vi:Array Value,(Vi.size=64∧∀i u,Vi[i]? =some u→Nc.cell? ((Addr.mk NC 0 none).add i)=some u)∧
  Vi.size=64∧(∀v∈Vi.toList,one? v True)∧
  aF Nc (Addr.mk Nd 0 none) Vi.toList fun No=>
  ∃r0:Array Value,(r0.size=64∧∀i u,r0[i]? =some u→No.cell? ((Addr.mk Nd 0 none).add i)=some u)∧
  R (.agg r0) No)
def vg:Ann:=(.node none .leaf (.node none .leaf (.node none .leaf (.node none (.node none .leaf (.node none (.node (some ⟨[(4,.one (.int .i64))],[4,5,6,10,11,12,13,14,15,16,17,18,19,20,21,22,23,24,25,26,27,28,29,30,31,32,33,34,35,36,37,38,39,40,41,42,43,44,45,46,47,48,49,50]⟩) .leaf .leaf) .leaf)) .leaf))))
theorem SSchedule_eq(blocka:Int)(blockb:Int)(blockc:Int)(blockd:Int)(blocke:Int)(blockf:Int)(blockg:Int)(blockh:Int)(blocki:Int)(blockj:Int)(blockk:Int)(blockl:Int)(blockm:Int)(blockn:Int)(blocko:Int)(blockp:Int)(R:aC)(w:World):nu blocka blockb blockc blockd blocke blockf blockg blockh blocki blockj blockk blockl blockm blockn blocko blockp R w=vcF prog aH [4] Tryz.f172 vg [(.agg #[(.int .u32 blocka),(.int .u32 blockb),(.int .u32 blockc),(.int .u32 blockd),(.int .u32 blocke),(.int .u32 blockf),(.int .u32 blockg),(.int .u32 blockh),(.int .u32 blocki),(.int .u32 blockj),(.int .u32 blockk),(.int .u32 blockl),(.int .u32 blockm),(.int .u32 blockn),(.int .u32 blocko),(.int .u32 blockp)])] R none w:=by kernel_rfl
theorem ph(blocka:Int)(blockb:Int)(blockc:Int)(blockd:Int)(blocke:Int)(blockf:Int)(blockg:Int)(blockh:Int)(blocki:Int)(blockj:Int)(blockk:Int)(blockl:Int)(blockm:Int)(blockn:Int)(blocko:Int)(blockp:Int) {R:aC} {w:World}(h:nu blocka blockb blockc blockd blocke blockf blockg blockh blocki blockj blockk blockl blockm blockn blocko blockp R w):Calls prog 172 #[(.agg #[(.int .u32 blocka),(.int .u32 blockb),(.int .u32 blockc),(.int .u32 blockd),(.int .u32 blocke),(.int .u32 blockf),(.int .u32 blockg),(.int .u32 blockh),(.int .u32 blocki),(.int .u32 blockj),(.int .u32 blockk),(.int .u32 blockl),(.int .u32 blockm),(.int .u32 blockn),(.int .u32 blocko),(.int .u32 blockp)])] w fun e w'=>∃v,e= .returned v∧R v w':=
 ar Tryz.func172 aw aj ((SSchedule_eq blocka blockb blockc blockd blocke blockf blockg blockh blocki blockj blockk blockl blockm blockn blocko blockp R w).mp h)
def tW(statea:Int)(stateb:Int)(statec:Int)(stated:Int)(statee:Int)(statef:Int)(stateg:Int)(stateh:Int)(blocka:Int)(blockb:Int)(blockc:Int)(blockd:Int)(blocke:Int)(blockf:Int)(blockg:Int)(blockh:Int)(blocki:Int)(blockj:Int)(blockk:Int)(blockl:Int)(blockm:Int)(blockn:Int)(blocko:Int)(blockp:Int)(R:aC)(w:World):Prop:=
 ∀(gv:Nat)(wv:World),gv=w.heap.size→wv=w.alloc (.cells #[(.int .u32 statea),(.int .u32 stateb),(.int .u32 statec),(.int .u32 stated),(.int .u32 statee),(.int .u32 statef),(.int .u32 stateg),(.int .u32 stateh)] 24)→
 ∀(Nd:Nat)(M5:World),Nd=wv.heap.size→M5=wv.alloc (.cells #[(.int .u32 blocka),(.int .u32 blockb),(.int .u32 blockc),(.int .u32 blockd),(.int .u32 blocke),(.int .u32 blockf),(.int .u32 blockg),(.int .u32 blockh),(.int .u32 blocki),(.int .u32 blockj),(.int .u32 blockk),(.int .u32 blockl),(.int .u32 blockm),(.int .u32 blockn),(.int .u32 blocko),(.int .u32 blockp)] 193)→
 ∀(NC:Nat)(M6:World),NC=M5.heap.size→M6=M5.alloc (.cells (#[(.int .u32 0),(.int .u32 0),(.int .u32 0),(.int .u32 0),(.int .u32 0),(.int .u32 0),(.int .u32 0),(.int .u32 0)]) 24)→
 ∃OC:Int,∃Ow:Int,∃Qe:Int,∃Qd:Int,∃Qc:Int,∃TH:Int,∃TG:Int,∃TF:Int,(M6.cell? ((Addr.mk gv 0 none).add 0)=some (.int .u32 OC)∧M6.cell? ((Addr.mk gv 0 none).add 1)=some (.int .u32 Ow)∧M6.cell? ((Addr.mk gv 0 none).add 2)=some (.int .u32 Qe)∧M6.cell? ((Addr.mk gv 0 none).add 3)=some (.int .u32 Qd)∧M6.cell? ((Addr.mk gv 0 none).add 4)=some (.int .u32 Qc)∧M6.cell? ((Addr.mk gv 0 none).add 5)=some (.int .u32 TH)∧M6.cell? ((Addr.mk gv 0 none).add 6)=some (.int .u32 TG)∧M6.cell? ((Addr.mk gv 0 none).add 7)=some (.int .u32 TF))∧
 ∀(Nh:Nat)(Na:World),Nh=M6.heap.size→Na=M6.alloc (.cells (#[(.int .u32 0),(.int .u32 0),(.int .u32 0),(.int .u32 0),(.int .u32 0),(.int .u32 0),(.int .u32 0),(.int .u32 0)]) 24)→
 aF Na (Addr.mk Nh 0 none) [(.int .u32 OC),(.int .u32 Ow),(.int .u32 Qe),(.int .u32 Qd),(.int .u32 Qc),(.int .u32 TH),(.int .u32 TG),(.int .u32 TF)] fun Nc=>
 ∃Qb:Int,∃PV:Int,∃Rt:Int,∃Rs:Int,∃Rr:Int,∃TC:Int,∃TB:Int,∃TA:Int,∃aas:Int,∃aar:Int,∃aaq:Int,∃aap:Int,∃aao:Int,∃aan:Int,∃aam:Int,∃aal:Int,(Nc.cell? ((Addr.mk Nd 0 none).add 0)=some (.int .u32 Qb)∧Nc.cell? ((Addr.mk Nd 0 none).add 1)=some (.int .u32 PV)∧Nc.cell? ((Addr.mk Nd 0 none).add 2)=some (.int .u32 Rt)∧Nc.cell? ((Addr.mk Nd 0 none).add 3)=some (.int .u32 Rs)∧Nc.cell? ((Addr.mk Nd 0 none).add 4)=some (.int .u32 Rr)∧Nc.cell? ((Addr.mk Nd 0 none).add 5)=some (.int .u32 TC)∧Nc.cell? ((Addr.mk Nd 0 none).add 6)=some (.int .u32 TB)∧Nc.cell? ((Addr.mk Nd 0 none).add 7)=some (.int .u32 TA)∧Nc.cell? ((Addr.mk Nd 0 none).add 8)=some (.int .u32 aas)∧Nc.cell? ((Addr.mk Nd 0 none).add 9)=some (.int .u32 aar)∧Nc.cell? ((Addr.mk Nd 0 none).add 10)=some (.int .u32 aaq)∧Nc.cell? ((Addr.mk Nd 0 none).add 11)=some (.int .u32 aap)∧Nc.cell? ((Addr.mk Nd 0 none).add 12)=some (.int .u32 aao)∧Nc.cell? ((Addr.mk Nd 0 none).add 13)=some (.int .u32 aan)∧Nc.cell? ((Addr.mk Nd 0 none).add 14)=some (.int .u32 aam)∧Nc.cell? ((Addr.mk Nd 0 none).add 15)=some (.int .u32 aal))∧
 Calls prog 172 #[(.agg #[(.int .u32 Qb),(.int .u32 PV),(.int .u32 Rt),(.int .u32 Rs),(.int .u32 Rr),(.int .u32 TC),(.int .u32 TB),(.int .u32 TA),(.int .u32 aas),(.int .u32 aar),(.int .u32 aaq),(.int .u32 aap),(.int .u32 aao),(.int .u32 aan),(.int .u32 aam),(.int .u32 aal)])] Nc fun e No=>
 ∃NQ:Array Value,e= .returned (.agg NQ)∧
 ∃I:Nat→Int→World→Prop,(∃m,I m 0 No)∧∀(m:Nat)(P4:Nat→Value)(OB:Int),∀NU,I m OB NU→
 split (decide ((OB:Int)<64)) (
  (0≤(OB:Int)∧(OB:Int)<((64:Nat):Int))∧
  ∃NP:Int,NQ[Int.toNat OB*1]? =some (.int .u32 NP)∧
  (0≤(0:Int)∧(0:Int)<((8:Nat):Int))∧
  ∃Om:Int,NU.drew.cell? ((Addr.mk Nh 0 none).add (Int.toNat 0*1))=some (.int .u32 Om)∧
  (0≤(4:Int)∧(4:Int)<((8:Nat):Int))∧
  ∃SO:Int,NU.drew.cell? ((Addr.mk Nh 0 none).add (Int.toNat 4*1))=some (.int .u32 SO)∧
  ∃b:Nat→Nat→Prop,
  (0≤(7:Int)∧(7:Int)<((8:Nat):Int))∧
  b 1 (((Addr.mk Nh 0 none).add (Int.toNat 7*1)).block)∧
  ∃Rh:Int,NU.drew.drew.cell? ((Addr.mk Nh 0 none).add (Int.toNat 7*1))=some (.int .u32 Rh)∧
  (0≤(5:Int)∧(5:Int)<((8:Nat):Int))∧
  b 13 (((Addr.mk Nh 0 none).add (Int.toNat 5*1)).block)∧
  ∃Zx:Int,NU.drew.drew.cell? ((Addr.mk Nh 0 none).add (Int.toNat 5*1))=some (.int .u32 Zx)∧
  (0≤(6:Int)∧(6:Int)<((8:Nat):Int))∧
  b 18 (((Addr.mk Nh 0 none).add (Int.toNat 6*1)).block)∧
  ∃Q8:Int,NU.drew.drew.cell? ((Addr.mk Nh 0 none).add (Int.toNat 6*1))=some (.int .u32 Q8)∧
  (0≤(OB:Int)∧(OB:Int)<((64:Nat):Int))∧
  b 24 (((Addr.mk 0 0 none).add (Int.toNat OB*1)).block)∧
  ∃Vj:Int,NU.drew.drew.cell? ((Addr.mk 0 0 none).add (Int.toNat OB*1))=some (.int .u32 Vj)∧
  Calls prog 173 #[(.int .u32 SO),(.int .i64 6)] NU.drew.drew fun e NL=>
  ∃Tm:Int,e= .returned (.int .u32 Tm)∧
  Kept (du b [0,1,4,7,11,12,13,14,15,16,17,18,19,20,22,23,24,26]) NU.drew.drew NL∧∃b1:Nat→Nat→Prop,(∀i k,b i k→b1 i k)∧
  Calls prog 173 #[(.int .u32 SO),(.int .i64 11)] NL fun e Nk=>
  ∃Sf:Int,e= .returned (.int .u32 Sf)∧
  Kept (du b1 [0,1,7,11,12,13,14,15,16,17,18,19,20,22,23,24,26]) NL Nk∧∃b2:Nat→Nat→Prop,(∀i k,b1 i k→b2 i k)∧
  Calls prog 173 #[(.int .u32 SO),(.int .i64 25)] Nk fun e OS=>
  ∃O4:Int,e= .returned (.int .u32 O4)∧
  Kept (du b2 [0,1,6,11,12,13,14,15,16,17,18,19,20,22,23,24,26]) Nk OS∧∃b3:Nat→Nat→Prop,(∀i k,b2 i k→b3 i k)∧
  ∀t1:Int,t1=(u32.wrap ((u32.wrap ((u32.wrap ((u32.wrap (Rh+(u32.wrap (BitVec.ofInt u32.bits (u32.wrap (BitVec.ofInt u32.bits Tm ^^^ BitVec.ofInt u32.bits Sf).toNat) ^^^ BitVec.ofInt u32.bits O4).toNat)))+(u32.wrap (BitVec.ofInt u32.bits (u32.wrap (BitVec.ofInt u32.bits SO &&& BitVec.ofInt u32.bits Zx).toNat) ^^^ BitVec.ofInt u32.bits (u32.wrap (BitVec.ofInt u32.bits (u32.wrap (BitVec.ofInt u32.bits (if u32.signed then -1 else u32.max) ^^^ BitVec.ofInt u32.bits SO).toNat) &&& BitVec.ofInt u32.bits Q8).toNat)).toNat)))+Vj))+NP))→
  ∃b4:Nat→Nat→Prop,
  (0≤(1:Int)∧(1:Int)<((8:Nat):Int))∧
  b4 10 (((Addr.mk Nh 0 none).add (Int.toNat 1*1)).block)∧
  ∃x62:Int,OS.drew.cell? ((Addr.mk Nh 0 none).add (Int.toNat 1*1))=some (.int .u32 x62)∧
  (0≤(2:Int)∧(2:Int)<((8:Nat):Int))∧
  b4 14 (((Addr.mk Nh 0 none).add (Int.toNat 2*1)).block)∧
  ∃x66:Int,OS.drew.cell? ((Addr.mk Nh 0 none).add (Int.toNat 2*1))=some (.int .u32 x66)∧
  (0≤(1:Int)∧(1:Int)<((8:Nat):Int))∧
  b4 18 (((Addr.mk Nh 0 none).add (Int.toNat 1*1)).block)∧
  ∃x70:Int,OS.drew.cell? ((Addr.mk Nh 0 none).add (Int.toNat 1*1))=some (.int .u32 x70)∧
  (0≤(2:Int)∧(2:Int)<((8:Nat):Int))∧
  b4 20 (((Addr.mk Nh 0 none).add (Int.toNat 2*1)).block)∧
  ∃x72:Int,OS.drew.cell? ((Addr.mk Nh 0 none).add (Int.toNat 2*1))=some (.int .u32 x72)∧
  Calls prog 173 #[(.int .u32 Om),(.int .i64 2)] OS.drew fun e PD=>
  ∃Yw:Int,e= .returned (.int .u32 Yw)∧
  Kept (du b4 [2,5,8,9,10,11,12,13,14,15,16,17,18,19,20,21,22]) OS.drew PD∧∃b5:Nat→Nat→Prop,(∀i k,b4 i k→b5 i k)∧
  Calls prog 173 #[(.int .u32 Om),(.int .i64 13)] PD fun e QT=>
  ∃S5:Int,e= .returned (.int .u32 S5)∧
  Kept (du b5 [5,8,9,10,11,12,13,14,15,16,17,18,19,20,21,22]) PD QT∧∃b6:Nat→Nat→Prop,(∀i k,b5 i k→b6 i k)∧
  Calls prog 173 #[(.int .u32 Om),(.int .i64 22)] QT fun e Qw=>
  ∃x58:Int,e= .returned (.int .u32 x58)∧
  Kept (du b6 [4,8,9,10,11,12,13,14,15,16,17,18,19,20,21,22]) QT Qw∧∃b7:Nat→Nat→Prop,(∀i k,b6 i k→b7 i k)∧
  ∀t2:Int,t2=(u32.wrap ((u32.wrap (BitVec.ofInt u32.bits (u32.wrap (BitVec.ofInt u32.bits Yw ^^^ BitVec.ofInt u32.bits S5).toNat) ^^^ BitVec.ofInt u32.bits x58).toNat)+(u32.wrap (BitVec.ofInt u32.bits (u32.wrap (BitVec.ofInt u32.bits (u32.wrap (BitVec.ofInt u32.bits Om &&& BitVec.ofInt u32.bits x62).toNat) ^^^ BitVec.ofInt u32.bits (u32.wrap (BitVec.ofInt u32.bits Om &&& BitVec.ofInt u32.bits x66).toNat)).toNat) ^^^ BitVec.ofInt u32.bits (u32.wrap (BitVec.ofInt u32.bits x70 &&& BitVec.ofInt u32.bits x72).toNat)).toNat)))→
  (0≤(0:Int)∧(0:Int)<((8:Nat):Int))∧
  ∃x80:Int,Qw.cell? ((Addr.mk Nh 0 none).add (Int.toNat 0*1))=some (.int .u32 x80)∧
  (0≤(1:Int)∧(1:Int)<((8:Nat):Int))∧
  ∃XF:Int,Qw.cell? ((Addr.mk Nh 0 none).add (Int.toNat 1*1))=some (.int .u32 XF)∧
  (0≤(2:Int)∧(2:Int)<((8:Nat):Int))∧
  ∃x84:Int,Qw.cell? ((Addr.mk Nh 0 none).add (Int.toNat 2*1))=some (.int .u32 x84)∧
  (0≤(3:Int)∧(3:Int)<((8:Nat):Int))∧
  ∃x86:Int,Qw.cell? ((Addr.mk Nh 0 none).add (Int.toNat 3*1))=some (.int .u32 x86)∧
  (0≤(4:Int)∧(4:Int)<((8:Nat):Int))∧
  ∃x90:Int,Qw.cell? ((Addr.mk Nh 0 none).add (Int.toNat 4*1))=some (.int .u32 x90)∧
  (0≤(5:Int)∧(5:Int)<((8:Nat):Int))∧
  ∃x92:Int,Qw.cell? ((Addr.mk Nh 0 none).add (Int.toNat 5*1))=some (.int .u32 x92)∧
  (0≤(6:Int)∧(6:Int)<((8:Nat):Int))∧
  ∃x94:Int,Qw.cell? ((Addr.mk Nh 0 none).add (Int.toNat 6*1))=some (.int .u32 x94)∧
  aF Qw (Addr.mk Nh 0 none) [(.int .u32 (u32.wrap (t1+t2))),(.int .u32 x80),(.int .u32 XF),(.int .u32 x84),(.int .u32 (u32.wrap (x86+t1))),(.int .u32 x90),(.int .u32 x92),(.int .u32 x94)] fun aaJ=>
  ∃m1,m1<m∧I m1 (i64.wrap (OB+1)) aaJ) (
  ∃I1:Nat→Int→World→Prop,(∃m2,I1 m2 0 NU)∧∀(m2:Nat)(ab4:Nat→Value)(PS:Int),∀NL,I1 m2 PS NL→
  split (decide ((PS:Int)<8)) (
   ∃b:Nat→Nat→Prop,
   (0≤(PS:Int)∧(PS:Int)<((8:Nat):Int))∧
   b 2 (((Addr.mk Nh 0 none).add (Int.toNat PS*1)).block)∧
   ∃aaI:Int,NL.drew.cell? ((Addr.mk Nh 0 none).add (Int.toNat PS*1))=some (.int .u32 aaI)∧
   (0≤(PS:Int)∧(PS:Int)<((8:Nat):Int))∧
   b 5 (((Addr.mk gv 0 none).add (Int.toNat PS*1)).block)∧
   ∃aaH:Int,NL.drew.cell? ((Addr.mk gv 0 none).add (Int.toNat PS*1))=some (.int .u32 aaH)∧
   (0≤(PS:Int)∧(PS:Int)<((8:Nat):Int))∧
   aF NL.drew ((Addr.mk Nh 0 none).add (Int.toNat PS*1)) [(.int .u32 (u32.wrap (aaI+aaH)))] fun Nk=>
   ∃b1:Nat→Nat→Prop,(∀i k,b i k→b1 i k)∧
   ∃m3,m3<m2∧I1 m3 (i64.wrap (PS+1)) Nk) (
   ∃Vt:Int,∃Vs:Int,∃Vr:Int,∃Vq:Int,∃Vp:Int,∃Vo:Int,∃Vn:Int,∃Vm:Int,(NL.cell? ((Addr.mk Nh 0 none).add 0)=some (.int .u32 Vt)∧NL.cell? ((Addr.mk Nh 0 none).add 1)=some (.int .u32 Vs)∧NL.cell? ((Addr.mk Nh 0 none).add 2)=some (.int .u32 Vr)∧NL.cell? ((Addr.mk Nh 0 none).add 3)=some (.int .u32 Vq)∧NL.cell? ((Addr.mk Nh 0 none).add 4)=some (.int .u32 Vp)∧NL.cell? ((Addr.mk Nh 0 none).add 5)=some (.int .u32 Vo)∧NL.cell? ((Addr.mk Nh 0 none).add 6)=some (.int .u32 Vn)∧NL.cell? ((Addr.mk Nh 0 none).add 7)=some (.int .u32 Vm))∧
   aF NL (Addr.mk NC 0 none) [(.int .u32 Vt),(.int .u32 Vs),(.int .u32 Vr),(.int .u32 Vq),(.int .u32 Vp),(.int .u32 Vo),(.int .u32 Vn),(.int .u32 Vm)] fun Nk=>
   ∃O8:Int,∃O7:Int,∃Pr:Int,∃Pq:Int,∃Pp:Int,∃QI:Int,∃QH:Int,∃QG:Int,(Nk.cell? ((Addr.mk NC 0 none).add 0)=some (.int .u32 O8)∧Nk.cell? ((Addr.mk NC 0 none).add 1)=some (.int .u32 O7)∧Nk.cell? ((Addr.mk NC 0 none).add 2)=some (.int .u32 Pr)∧Nk.cell? ((Addr.mk NC 0 none).add 3)=some (.int .u32 Pq)∧Nk.cell? ((Addr.mk NC 0 none).add 4)=some (.int .u32 Pp)∧Nk.cell? ((Addr.mk NC 0 none).add 5)=some (.int .u32 QI)∧Nk.cell? ((Addr.mk NC 0 none).add 6)=some (.int .u32 QH)∧Nk.cell? ((Addr.mk NC 0 none).add 7)=some (.int .u32 QG))∧
   R (.agg #[(.int .u32 O8),(.int .u32 O7),(.int .u32 Pr),(.int .u32 Pq),(.int .u32 Pp),(.int .u32 QI),(.int .u32 QH),(.int .u32 QG)]) Nk))
def DP:Ann:=(.node none .leaf (.node none .leaf (.node none (.node none .leaf (.node none (.node (some ⟨[(16,.one (.int .i64))],[6,7,8,9,10,11,16,17,18,19,20,21,22,23,24,25,26,27,28,29,30,31,32,33,34,35,36,37,38,39,40,41,42,43,44,45,46,47,48,49,50,51,52,53,54,55,56,57,58,59,60,61,62,63,64,65,66,67,68,69,70,71,72,73,74,75,76,77,78,79,80,81,82,83,84,85,86,87,88,89,90,91,92,93,94,95,96]⟩) .leaf .leaf) .leaf)) (.node none (.node none .leaf (.node none (.node (some ⟨[(97,.one (.int .i64))],[12,97,98,99,100,101,102,103,104,105,106,107,108]⟩) .leaf .leaf) .leaf)) .leaf))))
theorem SBlock_eq(statea:Int)(stateb:Int)(statec:Int)(stated:Int)(statee:Int)(statef:Int)(stateg:Int)(stateh:Int)(blocka:Int)(blockb:Int)(blockc:Int)(blockd:Int)(blocke:Int)(blockf:Int)(blockg:Int)(blockh:Int)(blocki:Int)(blockj:Int)(blockk:Int)(blockl:Int)(blockm:Int)(blockn:Int)(blocko:Int)(blockp:Int)(R:aC)(w:World):tW statea stateb statec stated statee statef stateg stateh blocka blockb blockc blockd blocke blockf blockg blockh blocki blockj blockk blockl blockm blockn blocko blockp R w=vcF prog aH [10,11] Tryz.f114 DP [(.agg #[(.int .u32 statea),(.int .u32 stateb),(.int .u32 statec),(.int .u32 stated),(.int .u32 statee),(.int .u32 statef),(.int .u32 stateg),(.int .u32 stateh)]),(.agg #[(.int .u32 blocka),(.int .u32 blockb),(.int .u32 blockc),(.int .u32 blockd),(.int .u32 blocke),(.int .u32 blockf),(.int .u32 blockg),(.int .u32 blockh),(.int .u32 blocki),(.int .u32 blockj),(.int .u32 blockk),(.int .u32 blockl),(.int .u32 blockm),(.int .u32 blockn),(.int .u32 blocko),(.int .u32 blockp)])] R none w:=by kernel_rfl
theorem vk(statea:Int)(stateb:Int)(statec:Int)(stated:Int)(statee:Int)(statef:Int)(stateg:Int)(stateh:Int)(blocka:Int)(blockb:Int)(blockc:Int)(blockd:Int)(blocke:Int)(blockf:Int)(blockg:Int)(blockh:Int)(blocki:Int)(blockj:Int)(blockk:Int)(blockl:Int)(blockm:Int)(blockn:Int)(blocko:Int)(blockp:Int) {R:aC} {w:World}(h:tW statea stateb statec stated statee statef stateg stateh blocka blockb blockc blockd blocke blockf blockg blockh blocki blockj blockk blockl blockm blockn blocko blockp R w):Calls prog 114 #[(.agg #[(.int .u32 statea),(.int .u32 stateb),(.int .u32 statec),(.int .u32 stated),(.int .u32 statee),(.int .u32 statef),(.int .u32 stateg),(.int .u32 stateh)]),(.agg #[(.int .u32 blocka),(.int .u32 blockb),(.int .u32 blockc),(.int .u32 blockd),(.int .u32 blocke),(.int .u32 blockf),(.int .u32 blockg),(.int .u32 blockh),(.int .u32 blocki),(.int .u32 blockj),(.int .u32 blockk),(.int .u32 blockl),(.int .u32 blockm),(.int .u32 blockn),(.int .u32 blocko),(.int .u32 blockp)])] w fun e w'=>∃v,e= .returned v∧R v w':=
 ar Tryz.func114 aw aj ((SBlock_eq statea stateb statec stated statee statef stateg stateh blocka blockb blockc blockd blocke blockf blockg blockh blocki blockj blockk blockl blockm blockn blocko blockp R w).mp h)
def tV(R:aC)(w:World):Prop:=
 ∀(gv:Nat)(wv:World),gv=w.heap.size→wv=w.alloc (.cells (#[(.int .u32 0),(.int .u32 0),(.int .u32 0),(.int .u32 0),(.int .u32 0),(.int .u32 0),(.int .u32 0),(.int .u32 0)]) 24)→
 aF wv (Addr.mk gv 0 none) [(.int .u32 1779033703),(.int .u32 3144134277),(.int .u32 1013904242),(.int .u32 2773480762),(.int .u32 1359893119),(.int .u32 2600822924),(.int .u32 528734635),(.int .u32 1541459225)] fun M5=>
 ∃O8:Int,∃O7:Int,∃Pr:Int,∃Pq:Int,∃Pp:Int,∃QI:Int,∃QH:Int,∃QG:Int,(M5.cell? ((Addr.mk gv 0 none).add 0)=some (.int .u32 O8)∧M5.cell? ((Addr.mk gv 0 none).add 1)=some (.int .u32 O7)∧M5.cell? ((Addr.mk gv 0 none).add 2)=some (.int .u32 Pr)∧M5.cell? ((Addr.mk gv 0 none).add 3)=some (.int .u32 Pq)∧M5.cell? ((Addr.mk gv 0 none).add 4)=some (.int .u32 Pp)∧M5.cell? ((Addr.mk gv 0 none).add 5)=some (.int .u32 QI)∧M5.cell? ((Addr.mk gv 0 none).add 6)=some (.int .u32 QH)∧M5.cell? ((Addr.mk gv 0 none).add 7)=some (.int .u32 QG))∧
 R (.agg #[(.int .u32 O8),(.int .u32 O7),(.int .u32 Pr),(.int .u32 Pq),(.int .u32 Pp),(.int .u32 QI),(.int .u32 QH),(.int .u32 QG)]) M5
def DO:Ann:= .leaf
theorem SFirst_eq(R:aC)(w:World):tV R w=vcF prog aH [] Tryz.f148 DO [] R none w:=by kernel_rfl
theorem vj {R:aC} {w:World}(h:tV R w):Calls prog 148 #[] w fun e w'=>∃v,e= .returned v∧R v w':=
 ar Tryz.func148 aw aj ((SFirst_eq R w).mp h)
end
end Go.Proofs.YtfmcaoaaiganbaaGreatDoor
