/- SvcDraws returns true for every input of bulk at most 1048576; each argument reads behind the call as it read before. -/
import Derived.Test.YtfmcaoaaiganbaaGreatDoorD2
import Derived.Great.BuildSlice
import Derived.ProofKit
import Derived.SizedLaws
import Derived.OpenShut
import Derived.LaidMore
import Derived.MakeChecks
import Derived.Handed
import Derived.Deep.SlicePairs
import Derived.Maps.Own
import Derived.Test.YtfmcaoaaiganbaaGreatDoorRows
import Derived.KernelRfl
set_option linter.unusedVariables false
set_option linter.unusedSimpArgs false
namespace Go.Proofs.YtfmcaoaaiganbaaGreatDoor.V
open Go Go.RowKit
open Go.IntKind (i64 u32 u64)
open Enc (enc)
section
section
variable {U:Uni} {P:Program} {tbl:Tb U} {may:List Nat} {k0:Nat}
variable {w0:World} {X0 X:Nat→Nat→Prop} {w:World} {fr:Fr} {st:St U} {Qp:Option (List PanicEntry→World→Prop)}
theorem qW:∀ {vs:List Value} {F:Prop},(∀v,v∈vs→one? v True)→F→ke vs F
 | [],_,_,h=>h
 | v::r,F,h1,h=>by
  have h2:=mI (h1 v (List.mem_cons_self ..))
  have h3:=qW (F:=F) (fun u hu=>h1 u (List.mem_cons_of_mem _ hu)) h
  unfold ke one?
  cases v<;>first | exact h3 | exact absurd rfl (h2.2.1 _) | exact absurd rfl (h2.2.2 _)
theorem nf(hI:Inv w0 k0 X0 may st.rs X w)(hk:ar st.rs fr st.kn) {i:Nat} {a b:Res U}(ha:nth st.rs i=some a)(hc:jR may k0 i=true) {w':World}(q:Ch (X i) w w')(Mm:bQ a b)(hb:RS (X i) w' b) {kn':List (Key×Kn)}(Ik:ar (bh st.rs i b) fr kn'):
 cz w0 k0 X0 may fr st X w ⟨bh st.rs i b,kn',i::st.md⟩ X w' [i]:=by
 have hi:=aH ha
 have hinv:=hI.set hi (ez hc) q hb (fun k hk=>.inl hk)
 have e:gQ X i (X i)=X:=by
  funext j
  unfold gQ
  split
  ·rename_i h;rw [h]
  ·rfl
 rw [e]at hinv
 exact⟨hinv,Ik,rfl,fun j hj=>by simp at hj;subst hj;exact hi,fun j hj=>by simp at hj;subst hj;exact ez hc,by simp,fun j hj HT=>⟨by rw [aJ,if_neg (fun hh=>HT (by simp [hh.1]))],rfl⟩,fun _ _ _ h=>.inl h,fun j h1 h2=>by simp at h2;omega,q.mono fun k hk=>⟨i,by simp,hk⟩,fun j c hj=>by
  by_cases HT:j=i
  ·subst HT
   rw [ha]at hj
   injection hj with hj
   subst hj
   exact⟨b,by rw [aJ,if_pos ⟨rfl,hi⟩],Mm⟩
  ·exact⟨c,by rw [aJ,if_neg (fun hh=>HT hh.1)];exact hj,bQ.refl c⟩⟩
theorem lh(hI:Inv w0 k0 X0 may st.rs X w)(hk:ar st.rs fr st.kn) {r:Res U} {Z:Nat→Prop} {w':World}(q:Pu w w')(hr:RS Z w' r)(hz:∀k,Z k→w.heap.size≤k) {kn':List (Key×Kn)}(Ik:ar (st.rs++ [r]) fr kn'):
 cz w0 k0 X0 may fr st X w ⟨st.rs++ [r],kn',st.md⟩ (gQ X st.rs.length Z) w' []:=
 ⟨hI.more q hr hz,Ik,rfl,fun j hj=>(by cases hj),fun j hj=>(by cases hj),by simp,fun i hi _=>⟨by rw [aO,if_pos hi],fD _ _ (by omega)⟩,fun i hi=>(by cases hi),fun i h1 h2 k hk=>by
  simp at h2
  obtain rfl:i=st.rs.length:=by omega
  rw [updX_eq]at hk
  exact hz k hk,q.mono fun k h=>h.elim,fun i a ha=>⟨a,by rw [aO,if_pos (aH ha)];exact ha,bQ.refl a⟩⟩
theorem mK(hk:ar st.rs fr st.kn)(r:Res U):ar (st.rs++ [r]) fr st.kn:=
 hk.fY (M:= []) (fun i hi _=>by rw [aO,if_pos hi]) (fun i hi=>by cases hi) fun key k h=>⟨h,fun p _=>.inl (by simp),fun id off _=>.inl (by simp)⟩
theorem Blk.rs {g:Nat} {cs:Array Value} {T:TypeId} {w':World}(h:Blk w' g cs T):RS (U:=U) (fun k=>k=g) w' (.blk g cs.toList T):=⟨rfl,fun _ h=>h,h⟩
theorem ik {α:Type}(vs L:List α)(off:Nat)(h:off+vs.length≤L.length):ek L off vs=L.take off++vs++L.drop (off+vs.length):=by
 apply List.ext_getElem?
 intro j
 rw [← aB,jg _ _ _ _ h,List.append_assoc]
 by_cases h3:off≤j∧j<off+vs.length
 ·rw [if_pos h3,List.getElem?_append_right (by simp;omega),List.getElem?_append_left (by simp;omega),aB]
  congr 1
  simp
  omega
 ·rw [if_neg h3,aB]
  by_cases h4:j<off
  ·rw [List.getElem?_append_left (by simp;omega),List.getElem?_take,if_pos h4]
  ·rw [List.getElem?_append_right (by simp;omega),List.getElem?_append_right (by simp;omega),List.getElem?_drop]
   congr 1
   simp
   omega
theorem fz.cells {rs:List (Res U)} {v:Value} {k:Kn}(h:fz rs v k)(SI:∀l,k≠ .ag l):v.cells= #[v]:=by
 cases k with
 | pan=>exact h.elim
 | ag l=>exact absurd rfl (SI l)
 | p k=>
  have h:bm U k (nth rs k.id)=some v:=h
  cases hn:nth rs k.id with
  | none=>rw [hn]at h;cases k<;>simp [bm]at h
  | some r=>
   rw [hn]at h
   cases k with
   | loc _ _=>cases r<;>simp only [bm,reduceCtorEq,Option.some.injEq]at h;subst h;rfl
   | obj _ _ _=>cases r<;>simp only [bm,reduceCtorEq,Option.some.injEq]at h;subst h;rfl
   | sl _ li=>
    simp only [bm]at h
    split at h
    ·injection h with h;subst h;rfl
    ·cases h
   | el _ li _ _=>
    simp only [bm]at h
    split at h
    ·split at h
     ·injection h with h;subst h;rfl
     ·cases h
    ·cases h
 | t l=>obtain⟨vs,rfl,_⟩:=h;rfl
 | f a b=>obtain⟨f,fs,cs,rfl,_,_⟩:=h;rfl
theorem jP {id:Nat} {key:Key} {q:Kn}:∀ {l:List (Option PK)} {o:Nat},(key,q)∈rz id o l→∃j p,key= .c id (o+j)∧q= .p p∧nth l j=some (some p)
 | [],_,h=>by cases h
 | none::l,o,h=>by
  obtain⟨j,p,h1,h2,h3⟩:=jP (l:=l) (o:=o+1) h
  exact⟨j+1,p,by rw [h1];congr 1;omega,h2,h3⟩
 | some p::l,o,h=>by
  rcases List.mem_cons.1 h with e | h
  ·injection e with e1 e2
   exact⟨0,p,e1,e2,rfl⟩
  ·obtain⟨j,p,h1,h2,h3⟩:=jP (l:=l) (o:=o+1) h
   exact⟨j+1,p,by rw [h1];congr 1;omega,h2,h3⟩
theorem l5 {rs:List (Res U)} {v:Value} {ky:Option Kn}(hv:KnO rs v ky) {id off:Nat} {sc:Bool} {key:Key} {q:Kn}(h:(key,q)∈cellsOf id off sc ky):∃j u,key= .c id (off+j)∧nth v.cells.toList j=some u∧fz rs u q:=by
 have one:∀ {k:Kn},ky=some k→(∀l,k≠ .ag l)→(key,q)∈(match sc with | true=>[(Key.c id off,k)] | false=>[])→∃j u,key= .c id (off+j)∧nth v.cells.toList j=some u∧fz rs u q:=by
  intro k hk SI hm
  subst hk
  split at hm
  ·simp only [List.mem_singleton,Prod.mk.injEq]at hm
   obtain⟨rfl,rfl⟩:=hm
   exact⟨0,v,rfl,by rw [fz.cells hv SI];rfl,hv⟩
  ·cases hm
 cases ky with
 | none=>cases h
 | some k=>
  cases k with
  | pan=>cases h
  | ag l=>
   obtain⟨j,p,h1,h2,h3⟩:=jP h
   obtain⟨cs,rfl,hh⟩:=hv
   obtain⟨u,hu,hd⟩:=hh j p h3
   subst h2
   exact⟨j,u,h1,by show nth cs.toList j=_;rw [aB];simpa using hu,hd⟩
  | p p=>exact one rfl (fun l e=>by cases e) h
  | t l=>exact one rfl (fun l e=>by cases e) h
  | f a b=>exact one rfl (fun l e=>by cases e) h
theorem ar.roots {rs rs':List (Res U)} {fr:Fr} {kn:List (Key×Kn)}(h:ar rs fr kn)(hr:∀i a,nth rs i=some a→∃b,nth rs' i=some b∧(a=b∨∃t own T A c l l',a= .lst t own T A c l∧b= .lst t own T A c l'∧l'.length=l.length)):ar rs' fr kn:=by
 have hd:∀p u,den U rs p=some u→den U rs' p=some u:=by
  intro p u hu
  unfold den at hu ⊢
  cases hn:nth rs p.id with
  | none=>rw [hn]at hu;cases p<;>simp [bm]at hu
  | some a=>
   rw [hn]at hu
   obtain⟨b,hb,rfl | ⟨t,own,T,A,c,l,l',rfl,rfl,hl⟩⟩:=hr _ _ hn
   ·rw [hb];exact hu
   ·rw [hb,← hu];cases p<;>simp only [bm,eP,hl]
 intro key k hk
 have h0:=h key k hk
 cases key with
 | s i=>exact fz.mono h0 fun p _=>hd p
 | c id off=>
  obtain⟨g,cs,T,v,e1,e2,e3⟩:=h0
  obtain⟨b,hb,rfl | ⟨_,_,_,_,_,_,_,hh,_⟩⟩:=hr _ _ e1
  ·exact⟨g,cs,T,v,hb,e2,e3.mono fun p _=>hd p⟩
  ·cases hh
 | l id path=>
  obtain⟨t,r,s,e1,e2⟩:=h0
  obtain⟨b,hb,rfl | ⟨_,_,_,_,_,_,_,hh,_⟩⟩:=hr _ _ e1
  ·exact⟨t,r,s,hb,e2.mono fun p _=>hd p⟩
  ·cases hh
theorem eU {t:TypeId} {x y:Operand} {p:Addr} {fr:Fr} {dst:Option Tmp} {ty:TypeId} {pos:String} {after:Array Edge} {gd:Option (Nat×Bool)} {Y:Bool} {K:ax}(hx:ev fr x= .pointer (some p))(H6:C8 P t=false)(Hv:Nat.beq (ev fr y).cells.toList.length (aP P t)=true)(hT:hasType P t=true)
 (h1:∀v,v∈(ev fr y).cells.toList→one? v True)(h:aD w p (ev fr y).cells.toList fun w'=>K undef w'):opW P Y Qp ⟨dst,.store t x y,ty,pos,after,gd⟩ (ev fr) w K:=by
 refine xr (C:= []) rfl ?_
 show(match ev fr x with
  | .pointer a=>match cj P t with
   | .row n=>(match hasType P t && Nat.beq n (aP P t),ev fr y with
    | true,.agg cs=>av a fun p=>cs.size=n∧(∀v∈cs.toList,one? v True)∧aD w p cs.toList fun w'=>K undef w'
    | _,_=>False)
   | _=>match Nat.beq (ev fr y).cells.toList.length (aP P t) && hasType P t with
    | true=>av a fun p=>ke (ev fr y).cells.toList (aD w p (ev fr y).cells.toList fun w'=>K undef w')
    | false=>False
  | _=>False)
 rw [hx]
 unfold C8 at H6
 cases hs:cj P t with
 | row n=>rw [hs]at H6;cases H6
 | one s=>simp only [Hv,hT];exact ao p rfl (qW h1 h)
 | agg l=>simp only [Hv,hT];exact ao p rfl (qW h1 h)
theorem step_done {K:dC U} {st':St U} {X':Nat→Nat→Prop} {w':World} {M l:List Nat} {v:Value} {k:Option Kn}(hs:cz w0 k0 X0 may fr st X w st' X' w' M)(hv:KnO st'.rs v k)(h:nmL st'.rs l fun HK=>K v k ⟨HK,st'.kn,st'.md⟩):
 ∃k st' X' M,K v k st'∧KnO st'.rs v k∧cz w0 k0 X0 may fr st X w st' X' w' M:=
 ⟨k,st',X',M,jh (F:=fun HK=>K v k ⟨HK,st'.kn,st'.md⟩) (fun i r hr=>⟨_,_,hs.inv.sat.res i r hr⟩) h,hv,hs⟩
theorem nF {tt:Nat} {r:Nat→Nat} {s s':U.ty tt} {id:Nat} {K:dC U}(hI:Inv w0 k0 X0 may st.rs X w)(hk:ar st.rs fr st.kn)(hn:nth st.rs id=some (.ob tt r s))(HO:jR may k0 id=true) {w2:World}(hq:Ch (X id) w w2)(HH:U.pred tt r s' (X id) w2)
 (hK:nmL (bh st.rs id (.ob tt r s')) [id] fun HK=>K undef none ⟨HK,cQ [id] st.kn,id::st.md⟩):
 ∃k st' X' M,K undef k st'∧KnO st'.rs undef k∧cz w0 k0 X0 may fr st X w st' X' w2 M:=by
 refine step_done (k:=none) (st':=⟨bh st.rs id (.ob tt r s'),cQ [id] st.kn,id::st.md⟩) (nf hI hk hn HO hq (.ob tt r s s') HH ?_) trivial hK
 refine hk.cQ (M:= [id]) (fun i _ hi=>by rw [aJ,if_neg (fun hh=>hi (by simp [hh.1]))]) fun i hi a ha=>?_
 simp only [List.mem_singleton]at hi
 subst hi
 rw [hn]at ha
 injection ha with ha
 subst ha
 exact⟨_,by rw [aJ,if_pos ⟨rfl,aH hn⟩],.ob tt r s s'⟩
theorem vo {t:TypeId} {x y:Operand} {p:Addr} {n:Nat} {cs:Array Value} {fr:Fr} {dst:Option Tmp} {ty:TypeId} {pos:String} {after:Array Edge} {gd:Option (Nat×Bool)} {Y:Bool} {K:ax}(hx:ev fr x= .pointer (some p))(H6:cj P t= .row n)(hy:ev fr y= .agg cs)(hn:Nat.beq n (aP P t)=true)(hc:cs.size=n)(hT:hasType P t=true)
 (h1:∀v,v∈cs.toList→one? v True)(h:aD w p cs.toList fun w'=>K undef w'):opW P Y Qp ⟨dst,.store t x y,ty,pos,after,gd⟩ (ev fr) w K:=by
 refine xr (C:= []) rfl ?_
 show(match ev fr x with
  | .pointer a=>match cj P t with
   | .row n=>(match hasType P t && Nat.beq n (aP P t),ev fr y with
    | true,.agg cs=>av a fun p=>cs.size=n∧(∀v∈cs.toList,one? v True)∧aD w p cs.toList fun w'=>K undef w'
    | _,_=>False)
   | _=>match Nat.beq (ev fr y).cells.toList.length (aP P t) && hasType P t with
    | true=>av a fun p=>ke (ev fr y).cells.toList (aD w p (ev fr y).cells.toList fun w'=>K undef w')
    | false=>False
  | _=>False)
 rw [hx,H6,hy]
 simp only [hT,hn,Bool.and_self]
 exact ao p rfl ⟨hc,h1,h⟩
theorem ss {t:TypeId} {x y:Operand} {K:dC U}(hI:Inv w0 k0 X0 may st.rs X w)(hk:ar st.rs fr st.kn)(h:qO U P may k0 t (kf st.kn x) (ev fr y) st K) {Y:Bool} {dst:Option Tmp} {ty:TypeId} {pos:String} {after:Array Edge} {gd:Option (Nat×Bool)}:
 opW P Y Qp ⟨dst,.store t x y,ty,pos,after,gd⟩ (ev fr) w fun v w'=>∃k st' X' M,K v k st'∧KnO st'.rs v k∧cz w0 k0 X0 may fr st X w st' X' w' M:=by
 unfold qO at h
 have Ij:=hk.kf x
 split at h
 ·rename_i n id path off cs H6 Ik hy
  rw [Ik]at Ij
  split at h
  ·rename_i tt r s hb hn HO
   obtain⟨h,h1⟩:=dF h
   simp only [Bool.and_eq_true]at hb
   split at h
   ·rename_i c s' Jg
    obtain⟨hc,hK⟩:=h
    have hd:den U st.rs (.obj id path off)=some (ev fr x):=Ij
    simp only [den,PK.id,hn,bm,Option.some.injEq]at hd
    have hp:U.pred tt r s (X id) w:=hI.sat.res id _ hn
    exact vo (p:=⟨r path,off,none⟩) hd.symm H6 hy hb.2.1 (by have:=Nat.eq_of_beq_eq_true hb.2.2;simpa using this) hb.1 h1 (U.mT hp Jg hc fun w2 HH hq=>nF hI hk hn HO hq HH hK)
   ·exact h.elim
  ·exact h.elim
 ·exact h.elim
theorem vp {t:TypeId} {x y:Operand} {K:dC U}(hI:Inv w0 k0 X0 may st.rs X w)(hk:ar st.rs fr st.kn)(h:vq U P may k0 t (kf st.kn x) (ev fr y) (kf st.kn y) st K) {Y:Bool} {dst:Option Tmp} {ty:TypeId} {pos:String} {after:Array Edge} {gd:Option (Nat×Bool)}:
 opW P Y Qp ⟨dst,.store t x y,ty,pos,after,gd⟩ (ev fr) w fun v w'=>∃k st' X' M,K v k st'∧KnO st'.rs v k∧cz w0 k0 X0 may fr st X w st' X' w' M:=by
 unfold vq at h
 split at h
 ·exact ss hI hk h
 split at h
 ·exact h.elim
 rename_i Ip
 simp only [Bool.and_eq_true,Bool.not_eq_true']at Ip
 obtain⟨H6,Hv,hT⟩:=Ip
 have Ir:(ev fr y).cells.toList.length=aP P t:=Nat.eq_of_beq_eq_true Hv
 have Ij:=hk.kf x
 have hky:=hk.kf y
 split at h
 ·rename_i id off Ik
  rw [Ik]at Ij
  split at h
  ·rename_i g cs T hn HO
   split at h
   ·rename_i hb
    obtain⟨h,h1⟩:=dF h
    have hb:off+aP P t≤cs.length:=Nat.le_of_ble_eq_true hb
    have hd:den U st.rs (.loc id off)=some (ev fr x):=Ij
    simp only [den,PK.id,hn,bm,Option.some.injEq]at hd
    obtain⟨hg,hX,Rg⟩:=hI.sat.res id _ hn
    refine eU hd.symm H6 Hv hT h1 ⟨g,off,⟨cs⟩,T,rfl,Rg,by simpa [Ir]using hb,fun w2 hs=>?_⟩
    rw [lT]at hs
    have q:Ch (X id) w w2:=(bb.ch hs).mono fun k e=>e▸hg
    refine⟨none,_,X,[id],h,trivial,nf hI hk hn HO q (.blk g cs (ek cs off (ev fr y).cells.toList) T (by simp)) (show RS (X id) w2 (.blk g (ek cs off (ev fr y).cells.toList) T)from⟨hg,hX,hs.blk⟩) ?_⟩
    have H0:∀i,i∈ [id]→∀a,nth st.rs i=some a→∃b,nth (bh st.rs id (.blk g (ek cs off (ev fr y).cells.toList) T)) i=some b∧bQ a b:=by
     intro i hi a ha
     simp at hi
     subst hi
     rw [hn]at ha
     injection ha with ha
     subst ha
     exact⟨_,by rw [aJ,if_pos ⟨rfl,aH hn⟩],.blk _ _ _ _ (by simp)⟩
    have MO:∀i,i<st.rs.length→i ∉ [id]→nth (bh st.rs id (.blk g (ek cs off (ev fr y).cells.toList) T)) i=nth st.rs i:=fun i _ hi=>by rw [aJ,if_neg (fun hh=>hi (by simp [hh.1]))]
    have QM:∀ {k:Kn} {v:Value},fz st.rs v k→∀p,k.has p→p.id ∉ [id]∨p.ofList p.id=false:=by
     intro k v Jv p hp
     by_cases Om:p.id=id
     ·right
      cases ho:p.ofList p.id
      ·rfl
      ·exfalso
       have hdd:∃u,den U st.rs p=some u:=by
        cases k with
        | pan=>exact hp.elim
        | p k=>cases hp;exact⟨_,Jv⟩
        | t l=>obtain⟨j,hj⟩:=hp;obtain⟨vs,_,h3⟩:=Jv;obtain⟨u,_,hu⟩:=h3 j p hj;exact⟨u,hu⟩
        | ag l=>obtain⟨j,hj⟩:=hp;obtain⟨vs,_,h3⟩:=Jv;obtain⟨u,_,hu⟩:=h3 j p hj;exact⟨u,hu⟩
        | f a b=>
         obtain⟨f,fs,cs,_,_,h3,h4⟩:=Jv
         rcases hp with⟨j,hj⟩ | ⟨j,hj⟩
         ·obtain⟨u,_,hu⟩:=h3 j p hj;exact⟨u,hu⟩
         ·obtain⟨u,_,hu⟩:=h4 j p hj;exact⟨u,hu⟩
       obtain⟨u,hu⟩:=hdd
       unfold den at hu
       rw [Om,hn]at hu
       cases p<;>simp_all [bm,PK.ofList,PK.id,eP]
     ·exact .inl (by simpa using Om)
    refine ar.app ?_ (hk.fY MO H0 fun key k hm=>?_)
    ·intro key q hq
     obtain⟨j,u0,rfl,hu0,Jv⟩:=l5 hky hq
     refine⟨g,_,T,u0,by rw [aJ,if_pos ⟨rfl,aH hn⟩],?_,Jv.mono fun p hp u hu=>nX MO H0 (QM Jv p hp) hu⟩
     have hj:=aH hu0
     rw [jg _ _ _ _ (by omega),if_pos ⟨by omega,by omega⟩,show off+j - off=j by omega,hu0]
    ·obtain⟨Nh,Jo⟩:=cq hm
     have h0:=hk _ _ Nh
     refine⟨Nh,?_,fun id' off' e=>?_⟩
     ·cases key with
      | s i=>exact QM h0
      | c i o=>obtain⟨_,_,_,_,_,_,h0⟩:=h0;exact QM h0
      | l i o=>obtain⟨_,_,_,_,h0⟩:=h0;exact QM h0
     ·subst e
      by_cases hi:id'=id
      ·subst hi
       right
       obtain⟨g',cs',T',v,e1,_⟩:=h0
       rw [hn]at e1
       injection e1 with e1
       injection e1 with e1 e2 e3
       subst e1;subst e2;subst e3
       refine⟨g,cs,_,T,hn,by rw [aJ,if_pos ⟨rfl,aH hn⟩],?_⟩
       rw [jg _ _ _ _ (by omega),if_neg]
       simp only [Key.xD,Nat.beq_refl,Bool.true_and,Bool.not_eq_true',Bool.and_eq_false_iff]at Jo
       rintro⟨h3,h4⟩
       rcases Jo with h5 | h5
       ·rw [Nat.ble_eq_true_of_le h3]at h5;cases h5
       ·have:Nat.blt off' (off+aP P t)=true:=by rw [Nat.blt_eq];omega
        rw [this]at h5;cases h5
      ·exact .inl (by simpa using hi)
   ·exact h.elim
  ·exact h.elim
 ·rename_i id i off Ik
  rw [Ik]at Ij
  split at h
  ·rename_i tt T A c l hn HO
   split at h
   ·rename_i hb
    obtain⟨h,h1⟩:=dF h
    have hb:off+aP P t≤(U.en tt).size:=Nat.le_of_ble_eq_true hb
    obtain⟨x',Qx,hK⟩:=bK h
    have hd:den U st.rs (.el id 0 i off)=some (ev fr x):=Ij
    simp only [den,PK.id,hn,bm,eP]at hd
    split at hd
    case isFalse=>cases hd
    rename_i hr
    injection hd with hd
    obtain⟨ho,Ho⟩:Own w (X id) T A l.length c l∧∀k,X id k→k<w.heap.size:=hI.sat.res id _ hn
    have Oq:i.toNat<l.length:=by omega
    obtain⟨g,hA,hZ,hgl⟩:=ho.lt (by omega)
    have Ni:=ho.len
    have HR:l[i.toNat]? =some (l.getD i.toNat (U.df tt)):=by rw [List.getD_eq_getElem?_getD,List.getElem?_eq_getElem (by omega)];rfl
    have L7:=U.ga Qx
    have hel:(U.en tt).enc (l.getD i.toNat (U.df tt))=enc (l.getD i.toNat (U.df tt)):=rfl
    have hlen:(enc (l.getD i.toNat (U.df tt))).length=(U.en tt).size:=bn _
    have LS:enc x'=(enc (l.getD i.toNat (U.df tt))).take off++(ev fr y).cells.toList++(enc (l.getD i.toNat (U.df tt))).drop (off+(ev fr y).cells.toList.length):=by
     show(U.en tt).enc x'=_
     rw [L7,hel]
     exact ik _ _ _ (by rw [hlen,Ir];exact hb)
    refine eU (p:=elA U tt A i off) hd.symm H6 Hv hT h1 ?_
    have Jg:=ho.st (p:=Addr.mk g 0 none) hA Oq HR (o:=off) (vs:=(ev fr y).cells.toList) (by rw [Ir];exact hb) LS (K:=fun w2=>∃k st' X' M,K undef k st'∧KnO st'.rs undef k∧cz w0 k0 X0 may fr st X w st' X' w2 M) (fun w2 Jb hq=>by
     refine step_done (k:=none) (st':=⟨bh st.rs id (.lst tt true T A c (l.set i.toNat x')),st.kn,id::st.md⟩) (nf hI hk hn HO hq (.lst tt true T A A c c l (l.set i.toNat x')) (show RS (X id) w2 (.lst tt true T A c (l.set i.toNat x'))from⟨by rw [List.length_set];exact Jb,fun k hk=>Nat.lt_of_lt_of_le (Ho k hk) hq.size⟩) ?_) trivial hK
     refine hk.roots fun j a ha=>?_
     by_cases hj:j=id
     ·subst hj
      rw [hn]at ha
      injection ha with ha
      exact⟨_,by rw [aJ,if_pos ⟨rfl,aH hn⟩],.inr ⟨_,_,_,_,_,_,_,ha.symm,rfl,List.length_set ..⟩⟩
     ·exact⟨a,by rw [aJ,if_neg (fun hh=>hj hh.1)];exact ha,.inl rfl⟩)
    unfold elA
    rw [hA]
    exact Jg
   ·exact h.elim
  ·rename_i tt r s hn HO
   split at h
   ·rename_i L hL
    split at h
    ·rename_i hb
     obtain⟨h,h1⟩:=dF h
     have hb:off+aP P t≤(U.en L.t).size:=Nat.le_of_ble_eq_true hb
     obtain⟨x',Qx,h⟩:=bK h
     split at h
     ·rename_i c s' Jg
      obtain⟨hc,hK⟩:=h
      have hd:den U st.rs (.el id 0 i off)=some (ev fr x):=Ij
      simp only [den,PK.id,hn,bm,eP,hL]at hd
      split at hd
      case isFalse=>cases hd
      rename_i hr
      injection hd with hd
      have hp:U.pred tt r s (X id) w:=hI.sat.res id _ hn
      have HR:L.l[i.toNat]? =some (L.l.getD i.toNat (U.df L.t)):=by rw [List.getD_eq_getElem?_getD,List.getElem?_eq_getElem (by omega)];rfl
      have L7:=U.ga Qx
      have hlen:((U.en L.t).enc (L.l.getD i.toNat (U.df L.t))).length=(U.en L.t).size:=(U.en L.t).len _
      have LS:(U.en L.t).enc x'=((U.en L.t).enc (L.l.getD i.toNat (U.df L.t))).take off++(ev fr y).cells.toList++((U.en L.t).enc (L.l.getD i.toNat (U.df L.t))).drop (off+(ev fr y).cells.toList.length):=by
       rw [L7]
       exact ik _ _ _ (by rw [hlen,Ir];exact hb)
      refine eU (p:=elA U L.t L.A i off) hd.symm H6 Hv hT h1 ?_
      exact U.j9 hp hL HR (by rw [Ir];exact hb) LS Jg hc fun w2 HH hq=>nF hI hk hn HO hq HH hK
     ·exact h.elim
    ·exact h.elim
   ·exact h.elim
  ·exact h.elim
 ·rename_i id li i off Ik
  rw [Ik]at Ij
  split at h
  ·rename_i tt r s hn HO
   split at h
   ·rename_i L hL
    split at h
    ·rename_i hb
     obtain⟨h,h1⟩:=dF h
     have hb:off+aP P t≤(U.en L.t).size:=Nat.le_of_ble_eq_true hb
     obtain⟨x',Qx,h⟩:=bK h
     split at h
     ·rename_i c s' Jg
      obtain⟨hc,hK⟩:=h
      have hd:den U st.rs (.el id (li+1) i off)=some (ev fr x):=Ij
      simp only [den,PK.id,hn,bm,eP,hL]at hd
      split at hd
      case isFalse=>cases hd
      rename_i hr
      injection hd with hd
      have hp:U.pred tt r s (X id) w:=hI.sat.res id _ hn
      have HR:L.l[i.toNat]? =some (L.l.getD i.toNat (U.df L.t)):=by rw [List.getD_eq_getElem?_getD,List.getElem?_eq_getElem (by omega)];rfl
      have L7:=U.ga Qx
      have hlen:((U.en L.t).enc (L.l.getD i.toNat (U.df L.t))).length=(U.en L.t).size:=(U.en L.t).len _
      have LS:(U.en L.t).enc x'=((U.en L.t).enc (L.l.getD i.toNat (U.df L.t))).take off++(ev fr y).cells.toList++((U.en L.t).enc (L.l.getD i.toNat (U.df L.t))).drop (off+(ev fr y).cells.toList.length):=by
       rw [L7]
       exact ik _ _ _ (by rw [hlen,Ir];exact hb)
      refine eU (p:=elA U L.t L.A i off) hd.symm H6 Hv hT h1 ?_
      exact U.j9 hp hL HR (by rw [Ir];exact hb) LS Jg hc fun w2 HH hq=>nF hI hk hn HO hq HH hK
     ·exact h.elim
    ·exact h.elim
   ·exact h.elim
  ·exact h.elim
 ·rename_i id path off Ik
  rw [Ik]at Ij
  split at h
  ·rename_i tt r s v hn HO H2
   obtain⟨h,h1⟩:=dF h
   split at h
   ·rename_i c s' Jg
    obtain⟨hc,hK⟩:=h
    have hd:den U st.rs (.obj id path off)=some (ev fr x):=Ij
    simp only [den,PK.id,hn,bm,Option.some.injEq]at hd
    have hp:U.pred tt r s (X id) w:=hI.sat.res id _ hn
    rw [H2]at Ir
    refine eU (p:=⟨r path,off,none⟩) hd.symm H6 Hv hT (by rw [H2];exact h1) ?_
    rw [H2]
    exact U.nP hp Jg hc fun w2 HH hq=>nF hI hk hn HO hq HH hK
   ·exact h.elim
  ·rename_i tt r s v v2 vs hn HO H2
   obtain⟨h,h1⟩:=dF h
   split at h
   ·rename_i c s' Jg
    obtain⟨hc,hK⟩:=h
    have hd:den U st.rs (.obj id path off)=some (ev fr x):=Ij
    simp only [den,PK.id,hn,bm,Option.some.injEq]at hd
    have hp:U.pred tt r s (X id) w:=hI.sat.res id _ hn
    refine eU (p:=⟨r path,off,none⟩) hd.symm H6 Hv hT (by rw [H2];exact h1) ?_
    rw [H2]
    exact U.mT hp Jg hc fun w2 HH hq=>nF hI hk hn HO hq HH hK
   ·exact h.elim
  ·exact h.elim
 ·exact h.elim
theorem zb {t:TypeId} {z:Value}(h:(P.info? t).bind (·.zero)=some z)(w:World):(Instr.alloc t true (.tuple #[])).run P w= .ok (.pointer (some ⟨w.heap.size,0,none⟩)) (w.alloc (.cells z.cells t)):=by
 cases hi:P.info? t with
 | none=>rw [hi]at h;cases h
 | some i=>
  rw [hi]at h
  have h:i.zero=some z:=h
  have hz:(zeroValue t).run P w= .ok z w:=by
   unfold zeroValue
   rw [Sem.run_bind,run_typeInfo (w:=w) hi,Result.andThen_ok,h]
   rfl
  unfold Instr.alloc
  rw [Sem.run_bind,hz,Result.andThen_ok]
  rfl
theorem sX {cs:List Value} {T:TypeId} {ck:Option Kn} {K:dC U}(hI:Inv w0 k0 X0 may st.rs X w)(hk:ar st.rs fr st.kn) {v0:Value}(Ip:KnO st.rs v0 ck)(H2:ck=none∨v0.cells.toList=cs)(h:Dl U cs T ck st K):
 ∃k st' X' M,K (.pointer (some ⟨w.heap.size,0,none⟩)) k st'∧KnO st'.rs (.pointer (some ⟨w.heap.size,0,none⟩)) k∧cz w0 k0 X0 may fr st X w st' X' (w.alloc (.cells ⟨cs⟩ T)) M:=by
 have hm:Made w w.heap.size ⟨cs⟩ T (w.alloc (.cells ⟨cs⟩ T)):=made rfl rfl
 unfold Dl at h
 split at h
 ·rename_i t s hmk
  have Jp:nth (st.rs++ [Res.ob t (fun _=>w.heap.size) s]) st.rs.length=some (.ob t (fun _=>w.heap.size) s):=by rw [aO,if_neg (by omega),Nat.sub_self];rfl
  refine step_done (lh hI hk hm.pu (Z:=fun k=>k=w.heap.size) (show RS (fun k=>k=w.heap.size) _ (.ob t (fun _=>w.heap.size) s)from U.qZ hmk hm.blk) (fun k e=>by rw [e];exact Nat.le_refl _) (mK hk _)) ?_ (h w.heap.size)
  show den U _ (.obj _ 0 0)=_
  simp only [den,PK.id,Jp,bm]
 have Jp:nth (st.rs++ [Res.blk w.heap.size cs T]) st.rs.length=some (.blk w.heap.size cs T):=by rw [aO,if_neg (by omega),Nat.sub_self];rfl
 refine⟨_,_,_,[],h w.heap.size,?_,lh hI hk hm.pu (Z:=fun k=>k=w.heap.size) (show RS (fun k=>k=w.heap.size) _ (.blk w.heap.size cs T)from⟨rfl,fun _ h=>h,hm.blk⟩) (fun k e=>by rw [e];exact Nat.le_refl _) (ar.app ?_ (mK hk _))⟩
 ·show den U _ (.loc _ 0)=_
  simp only [den,PK.id,Jp,bm]
 ·intro key q hq
  obtain⟨j,u,rfl,hu,Jv⟩:=l5 Ip hq
  rcases H2 with rfl | H2
  ·cases hq
  rw [H2]at hu
  rw [Nat.zero_add]
  exact⟨_,cs,T,u,Jp,hu,Jv.mono fun p hp u hu=>nX (M:= []) (fun i hi _=>by rw [aO,if_pos hi]) (fun i hi=>by cases hi) (.inl (by simp)) hu⟩
theorem tE {tt:Nat}:∀ {n:Nat} {cs:List Value} {l:List (U.el tt)},yQ U tt n cs=some l→l.length=n∧l.flatMap enc=cs
 | 0,[],l,h=>by simp only [yQ,Option.some.injEq]at h;subst h;exact⟨rfl,rfl⟩
 | 0,_::_,l,h=>by simp [yQ]at h
 | n+1,cs,l,h=>by
  simp only [yQ]at h
  split at h
  ·rename_i x r hx hr
   injection h with h
   subst h
   obtain⟨h1,h2⟩:=tE hr
   refine⟨by simp [h1],?_⟩
   have h3:enc x=gl (U.en tt).size cs:=U.ga hx
   rw [List.flatMap_cons,h2,h3,dq,dU,List.take_append_drop]
  ·cases h
theorem nm {t e:TypeId} {tt:Nat} {ie:TypeInfo} {z:Value}(h:Ao U P t=some (e,tt,ie,z)):SN P t e z (U.en tt).size ie.bytes∧P.info? e=some ie∧ie.zero=some z∧ie.size=(U.en tt).size∧0<ie.bytes:=by
 unfold Ao at h
 split at h
 ·rename_i e' hu
  split at h
  ·rename_i tt' ie' _ hi
   split at h
   ·rename_i z' hz
    split at h
    ·rename_i hb
     simp only [Option.some.injEq,Prod.mk.injEq]at h
     obtain⟨rfl,rfl,rfl,rfl⟩:=h
     simp only [Bool.and_eq_true]at hb
     have h1:=Nat.eq_of_beq_eq_true hb.1
     have h2:=Nat.eq_of_beq_eq_true hb.2.1
     have h3:0<ie'.bytes:=by simpa [Nat.blt_eq]using hb.2.2
     exact⟨⟨hu,⟨ie',hi,hz,h1,rfl⟩,by rw [← h1,← h2];simp,(U.en tt').pos⟩,hi,hz,h1,h3⟩
    ·cases h
   ·cases h
  ·cases h
 ·cases h
theorem Am {tt:Nat} {x:Operand} {F:List (U.el tt)→Prop}(hS:Sat st.rs X w)(hk:ar st.rs fr st.kn)(h:EM U tt (ev fr x) (kf st.kn x) st F):∃(l:List (U.el tt))(A:Option Addr)(c:Nat)(Y:Nat→Prop),ev fr x= .slice A l.length c∧Rd w Y A l.length c l∧F l:=by
 have Ij:=hk.kf x
 unfold EM at h
 split at h
 ·rename_i id li Ik
  rw [Ik]at Ij
  have hd:den U st.rs (.sl id li)=some (ev fr x):=Ij
  split at h
  ·rename_i r hn
   split at h
   ·rename_i L hL
    simp only [den,PK.id,hn,bm,hL,Option.some.injEq]at hd
    split at h
    ·rename_i ht
     have hr:=(hS.res id _ hn).ls hL
     obtain⟨t',A,c,l⟩:=L
     cases ht
     exact⟨l,A,c,_,hd.symm,hr,h⟩
    ·exact h.elim
   ·exact h.elim
  ·exact h.elim
 ·split at h
  ·rename_i d hx
   exact⟨[],none,d,_,hx,Rd.nil,h⟩
  ·exact h.elim
theorem th {rs:List (Res U)} {r:Res U}:nth (rs++ [r]) rs.length=some r:=by rw [aO,if_neg (by omega),Nat.sub_self];rfl
theorem nH {tt:Nat} {T:TypeId} {A:Option Addr} {c:Nat} {l:List (U.el tt)} {K:dC U}(hI:Inv w0 k0 X0 may st.rs X w)(hk:ar st.rs fr st.kn) {w':World}(q:Pu w w') {Z:Nat→Prop}(ho:Own w' Z T A l.length c l)(hz:∀k,Z k→w.heap.size≤k) {v:Value}(hv:v= .slice A l.length c)
 (h:nmL (st.rs++ [.lst tt true T A c l]) [st.rs.length] fun HK=>K v (some (.p (.sl st.rs.length 0))) ⟨HK,st.kn,st.md⟩):
 ∃k st' X' M,K v k st'∧KnO st'.rs v k∧cz w0 k0 X0 may fr st X w st' X' w' M:=by
 refine step_done (st':=⟨st.rs++ [.lst tt true T A c l],st.kn,st.md⟩) (lh hI hk q (Z:=fun k=>Z k∧k<w'.heap.size) (show RS (fun k=>Z k∧k<w'.heap.size) _ (.lst tt true T A c l)from⟨ho.narrow,fun k hk=>hk.2⟩) (fun k hk=>hz k hk.1) (mK hk _)) ?_ h
 show den U _ (.sl _ 0)=_
 simp only [den,PK.id,th,bm,eP,hv]
theorem yl(hI:Inv w0 k0 X0 may st.rs X w) {i:Nat} {a b:Res U}(ha:nth st.rs i=some a)(hc:jR may k0 i=true) {w':World}(q:Ch (X i) w w')(Mm:bQ a b) {Z:Nat→Prop}(hb:RS Z w' b)(hz:∀k,Z k→X i k∨w.heap.size≤k) {kn':List (Key×Kn)}(Ik:ar (bh st.rs i b) fr kn'):
 cz w0 k0 X0 may fr st X w ⟨bh st.rs i b,kn',i::st.md⟩ (gQ X i Z) w' [i]:=by
 have hi:=aH ha
 exact⟨hI.set hi (ez hc) q hb hz,Ik,rfl,fun j hj=>by simp at hj;subst hj;exact hi,fun j hj=>by simp at hj;subst hj;exact ez hc,by simp,fun j hj HT=>⟨by rw [aJ,if_neg (fun hh=>HT (by simp [hh.1]))],fD _ _ (by simpa using HT)⟩,fun j hj k hk=>by
  simp at hj;subst hj;rw [updX_eq]at hk;exact hz k hk,fun j h1 h2=>by simp at h2;omega,q.mono fun k hk=>⟨i,by simp,hk⟩,fun j c hj=>by
  by_cases HT:j=i
  ·subst HT
   rw [ha]at hj
   injection hj with hj
   subst hj
   exact⟨b,by rw [aJ,if_pos ⟨rfl,hi⟩],Mm⟩
  ·exact⟨c,by rw [aJ,if_neg (fun hh=>HT hh.1)];exact hj,bQ.refl c⟩⟩
theorem vG {tt:Nat} {z:Value} {x:U.el tt}(hx:enc x=z.cells.toList)(n:Nat):(List.replicate n x).flatMap enc=(madeCells z.cells (n*(U.en tt).size)).toList:=by
 have hs:z.cells.size=(U.en tt).size:=by have:=bn x;rw [hx]at this;simpa using this
 have hp:0<Enc.size (U.el tt):=Enc.pos
 apply List.ext_getElem?
 intro j
 by_cases hj:j<n*Enc.size (U.el tt)
 ·have hq:j / Enc.size (U.el tt)<n:=(Nat.div_lt_iff_lt_mul hp).2 hj
  have hr:j % Enc.size (U.el tt)<Enc.size (U.el tt):=Nat.mod_lt _ hp
  have h4:=flat_get (List.replicate n x) (j / Enc.size (U.el tt)) (j % Enc.size (U.el tt)) x (by rw [List.getElem?_replicate,if_pos hq]) hr
  have h5:j / Enc.size (U.el tt)*Enc.size (U.el tt)+j % Enc.size (U.el tt)=j:=by rw [Nat.mul_comm];exact Nat.div_add_mod j _
  rw [h5]at h4
  rw [h4,hx]
  have MU:j<n*(U.en tt).size:=hj
  have Hk:j % (U.en tt).size<z.cells.size:=by rw [hs];exact hr
  have e1:(madeCells z.cells (n*(U.en tt).size)).toList[j]? =some (z.cells[j % z.cells.size]!):=by
   simp [madeCells,MU]
  rw [e1,hs]
  show z.cells.toList[j % (U.en tt).size]? =_
  rw [Array.getElem?_toList,Array.getElem?_eq_getElem Hk,getElem!_pos z.cells _ Hk]
 ·rw [List.getElem?_eq_none (by rw [gA,List.length_replicate];omega),List.getElem?_eq_none (by rw [Array.length_toList,size_madeCells];exact Nat.le_of_not_lt hj)]
def zI(fr:Fr)(w0:World)(k0:Nat)(X0:Nat→Nat→Prop)(may:List Nat)(st:St U)(X:Nat→Nat→Prop)(w:World)(K:dC U):Option (List PanicEntry→World→Prop):=
 some fun ch w'=>∃v st' X' M,ch= [⟨v,false,false⟩]∧K v (some .pan) st'∧cz w0 k0 X0 may fr st X w st' X' w' M
theorem AJ {Y:Bool} {q:List PanicEntry→World→Prop} {o:Oper} {ρ:Operand→Value} {K:ax}(h:opW P Y (some q) o ρ w K)(hq:∀ch w',q ch w'→False):opW P Y none o ρ w K:=by
 refine⟨h.1,?_⟩
 have h2:=h.2
 generalize (execOp ρ o).run P w=r at h2 ⊢
 cases r with
 | ok nx w'=>
  cases nx<;>simp only [Out]at h2 ⊢
  case value v=>exact h2
  case skip=>exact h2
  case enter f args=>exact h2.mono fun e w'' he=>he.imp id fun⟨ch,_,h2⟩=>(hq _ _ h2).elim
  case round l f tmps assign body=>exact⟨h2.1,h2.2.mono fun e w'' he=>he.imp id fun⟨ch,_,h2⟩=>(hq _ _ h2).elim⟩
 | halt x w'=>
  cases x<;>simp only [Out]at h2 ⊢
  exact(hq _ _ h2).elim
theorem xq {Y:Bool} {q q':List PanicEntry→World→Prop} {o:Oper} {ρ:Operand→Value} {K:ax}(h:opW P Y (some q) o ρ w K)(hq:∀ch w',q ch w'→q' ch w'):opW P Y (some q') o ρ w K:=by
 refine⟨h.1,?_⟩
 have h2:=h.2
 generalize (execOp ρ o).run P w=r at h2 ⊢
 cases r with
 | ok nx w'=>
  cases nx<;>simp only [Out]at h2 ⊢
  case value v=>exact h2
  case skip=>exact h2
  case enter f args=>exact h2.mono fun e w'' he=>he.imp id fun⟨ch,h1,h2⟩=>⟨ch,h1,hq _ _ h2⟩
  case round l f tmps assign body=>exact⟨h2.1,h2.2.mono fun e w'' he=>he.imp id fun⟨ch,h1,h2⟩=>⟨ch,h1,hq _ _ h2⟩⟩
 | halt x w'=>
  cases x<;>simp only [Out]at h2 ⊢
  exact hq _ _ h2
theorem nD {Y:Bool} {Qp:Option (List PanicEntry→World→Prop)} {o:Oper} {ρ:Operand→Value} {K K':ax}(h:opW P Y Qp o ρ w K)(hK:∀v w',K v w'→K' v w'):opW P Y Qp o ρ w K':=by
 refine⟨h.1,?_⟩
 have h2:=h.2
 generalize (execOp ρ o).run P w=r at h2 ⊢
 cases r with
 | ok nx w'=>
  cases nx<;>simp only [Out]at h2 ⊢
  case value v=>exact hK _ _ h2
  case skip=>exact hK _ _ h2
  case enter f args=>exact h2.mono fun e w'' he=>he.imp (fun⟨v,h1,h2⟩=>⟨v,h1,hK _ _ h2⟩) id
  case round l f tmps assign body=>exact⟨h2.1,h2.2.mono fun e w'' he=>he.imp (fun⟨v,h1,h2⟩=>⟨v,h1,hK _ _ h2⟩) id⟩
 | halt x w'=>
  cases x<;>simp only [Out]at h2 ⊢
  exact h2
theorem Inv.Eg {rs rs':List (Res U)}(h:Inv w0 k0 X0 may rs X w)(hl:rs'.length≤rs.length)(he:∀i,i<rs'.length→nth rs' i=nth rs i)(hk:k0≤rs'.length):Inv w0 k0 X0 may rs' X w:=
 ⟨⟨fun i r hr=>h.sat.res i r (by rw [← he i (aH hr)];exact hr),fun i j hi hj=>h.sat.dis i j (by omega) (by omega)⟩,h.ch,h.old,fun i h1 h2=>h.new i h1 (by omega),hk⟩
theorem xm {k:Option Kn} {B:Prop}(h:vz k False B):B:=by
 unfold vz at h
 split at h
 ·exact h.elim
 ·exact h
theorem Be:∀ {s:Sh} {F:Value→Prop},Gj s F→∃v,F v
 | .int _,_,⟨_,h⟩=>⟨_,h⟩
 | .bool,_,⟨_,h⟩=>⟨_,h⟩
 | .str,_,⟨_,h⟩=>⟨_,h⟩
 | .ptr,_,⟨_,h⟩=>⟨_,h⟩
 | .slice,_,⟨_,h⟩=>⟨_,h⟩
 | .map,_,⟨_,h⟩=>⟨_,h⟩
 | .val,_,⟨_,h⟩=>⟨_,h⟩
theorem xn {α:Type} {F:α→Prop}:∀ {l:List α},orL F l→∃a,F a
 | [a],h=>⟨a,h⟩
 | a::b::r,h=>by
  rcases h with h | h
  ·exact⟨a,h⟩
  ·exact xn (l:=b::r) h
theorem Dr {args:List Operand}(hk:ar st.rs fr st.kn):∀j v k,nth (ay (ev fr) args) j=some v→nth (ay (V.kf st.kn) args) j=some k→KnO st.rs v k:=by
 intro j v k h1 h2
 rw [aR]at h1 h2
 cases hn:nth args j with
 | none=>rw [hn]at h1;cases h1
 | some x=>
  rw [hn]at h1 h2
  injection h1 with h1
  injection h2 with h2
  subst h1;subst h2
  exact hk.kf x
theorem AW {rs:List (Res U)} {a1 a2:List Value} {k1 k2:List (Option Kn)}(hl:a1.length=k1.length)(h1:∀j v k,nth a1 j=some v→nth k1 j=some k→KnO rs v k)(h2:∀j v k,nth a2 j=some v→nth k2 j=some k→KnO rs v k):∀j v k,nth (a1++a2) j=some v→nth (k1++k2) j=some k→KnO rs v k:=by
 intro j v k hj HI
 rw [aO]at hj HI
 by_cases hc:j<a1.length
 ·rw [if_pos hc]at hj
  rw [if_pos (by omega)]at HI
  exact h1 j v k hj HI
 ·rw [if_neg hc]at hj
  rw [if_neg (by omega),← hl]at HI
  exact h2 _ v k hj HI
theorem Ew {K:dC U} {Y:Bool} {dst:Option Tmp} {ty:TypeId} {pos:String} {after:Array Edge} {gd:Option (Nat×Bool)} {f:Operand} {args:Array Operand} {ats:Array TypeId} {f':Nat} {first cap:Array Value} {ks:List (Option Kn)}(H8:∀f c,tbl.c f=some c→LV U P f c∧bo P f=true)(hI:Inv w0 k0 X0 may st.rs X w)(hk:ar st.rs fr st.kn)(hf:ev fr f= .func (.func f') first cap)
 (QY:∀j v k,nth (first.toList++(ay (ev fr) args.toList++cap.toList)) j=some v→nth ks j=some k→KnO st.rs v k)(h:call2 U tbl may k0 f' (first.toList++(ay (ev fr) args.toList++cap.toList)) ks st K):
 opW P Y (zI fr w0 k0 X0 may st X w K) {dst:=dst,op:= .call {callee:= .value f,args:=args,argTypes:=ats},type:=ty,pos:=pos,after:=after,guard:=gd} (ev fr) w fun v w'=>∃k st' X' M,K v k st'∧KnO st'.rs v k∧cz w0 k0 X0 may fr st X w st' X' w' M:=by
 have Js:bo P f'=true:=by
  unfold call2 at h
  split at h
  ·exact h.elim
  ·rename_i c hc;exact(H8 f' c hc).2
 refine⟨rfl,?_⟩
 have h1:=cH (P:=P) (C:= [f']) (f:=f') (by simp [cO,Js]) (by simp) (first++args.map (ev fr)++cap) w
 have hr:(execOp (ev fr) {dst:=dst,op:= .call {callee:= .value f,args:=args,argTypes:=ats},type:=ty,pos:=pos,after:=after,guard:=gd}).run P w= .ok (.enter f' (first++args.map (ev fr)++cap)) w:=by
  simp only [execOp,resolve,hf,Deferred.ofValue]
  rw [Sem.run_bind]
  exact h1
 rw [hr]
 have ha:(⟨first.toList++(ay (ev fr) args.toList++cap.toList)⟩:Array Value)=first++args.map (ev fr)++cap:=by
  apply Array.ext'
  simp [er]
 have:=qj (fun f c h=>(H8 f c h).1) hI hk QY h
 rw [ha]at this
 refine this.mono fun e w' hp=>?_
 obtain⟨v,k,st',X',M,rfl,h2,h3,h4⟩:=hp
 rcases h3 with rfl | h3
 ·exact .inr ⟨_,rfl,v,st',X',M,rfl,h2,h4⟩
 ·refine .inl ⟨v,?_,k,st',X',M,h2,h3,h4⟩
  cases k with
  | none=>rfl
  | some k=>cases k<;>first | rfl | exact h3.elim
theorem Gu {K:dC U} {Y:Bool} {dst:Option Tmp} {ty:TypeId} {pos:String} {after:Array Edge} {gd:Option (Nat×Bool)} {x:Operand} {name:String} {args:Array Operand} {ats:Array TypeId} {t:TypeId} {u:Value} {f':Nat} {ks:List (Option Kn)}(H8:∀f c,tbl.c f=some c→LV U P f c∧bo P f=true)(hI:Inv w0 k0 X0 may st.rs X w)(hk:ar st.rs fr st.kn)(hx:ev fr x= .iface t u)(hm:tc P t name=some f')
 (QY:∀j v k,nth (u::ay (ev fr) args.toList) j=some v→nth ks j=some k→KnO st.rs v k)(h:call2 U tbl may k0 f' (u::ay (ev fr) args.toList) ks st K):
 opW P Y (zI fr w0 k0 X0 may st X w K) {dst:=dst,op:= .call {callee:= .invoke x name,args:=args,argTypes:=ats},type:=ty,pos:=pos,after:=after,guard:=gd} (ev fr) w fun v w'=>∃k st' X' M,K v k st'∧KnO st'.rs v k∧cz w0 k0 X0 may fr st X w st' X' w' M:=by
 have Js:bo P f'=true:=by
  unfold call2 at h
  split at h
  ·exact h.elim
  ·rename_i c hc;exact(H8 f' c hc).2
 refine⟨rfl,?_⟩
 have h1:=cH (P:=P) (C:= [f']) (f:=f') (by simp [cO,Js]) (by simp) (#[u]++args.map (ev fr)) w
 have he:(#[ev fr x]++args.map (ev fr)).extract 1 (#[ev fr x]++args.map (ev fr)).size=args.map (ev fr):=by
  apply Array.ext'
  simp
  exact List.take_of_length_le (by simp)
 have hr:(execOp (ev fr) {dst:=dst,op:= .call {callee:= .invoke x name,args:=args,argTypes:=ats},type:=ty,pos:=pos,after:=after,guard:=gd}).run P w= .ok (.enter f' (#[u]++args.map (ev fr))) w:=by
  simp only [execOp,resolve]
  rw [Sem.run_bind]
  show(invoke (.fn (.method name) #[]) (#[ev fr x]++args.map (ev fr))).run P w=_
  have e0:(#[ev fr x]++args.map (ev fr))[0]? =some (.iface t u):=by rw [hx,Array.getElem?_append_left (by simp)];rfl
  simp only [invoke,e0,he]
  simp only [callMethod]
  rw [Sem.run_bind]
  have hp:(program:Sem Program).run P w= .ok P w:=rfl
  rw [hp]
  change Sem.run P (method (P.types.size+Made.depth) t u name>>=fun p=>callFunc p.1 (#[p.2]++Array.map (ev fr) args)) w=_
  rw [Sem.run_bind,pW hm]
  exact h1
 rw [hr]
 have ha:(⟨u::ay (ev fr) args.toList⟩:Array Value)= #[u]++args.map (ev fr):=by
  apply Array.ext'
  simp [er]
 have:=qj (fun f c h=>(H8 f c h).1) hI hk QY h
 rw [ha]at this
 refine this.mono fun e w' hp=>?_
 obtain⟨v,k,st',X',M,rfl,h2,h3,h4⟩:=hp
 rcases h3 with rfl | h3
 ·exact .inr ⟨_,rfl,v,st',X',M,rfl,h2,h4⟩
 ·refine .inl ⟨v,?_,k,st',X',M,h2,h3,h4⟩
  cases k with
  | none=>rfl
  | some k=>cases k<;>first | rfl | exact h3.elim
theorem tS {K:dC U} {Y:Bool} {dst:Option Tmp} {ty:TypeId} {pos:String} {after:Array Edge} {gd:Option (Nat×Bool)} {f:Operand} {args:Array Operand} {ats:Array TypeId}(H8:∀f c,tbl.c f=some c→LV U P f c∧bo P f=true)(hI:Inv w0 k0 X0 may st.rs X w)(hk:ar st.rs fr st.kn)
 (h:xP U tbl may k0 (ev fr f) (ay (ev fr) args.toList) (ay (V.kf st.kn) args.toList) st K):
 opW P Y (zI fr w0 k0 X0 may st X w K) {dst:=dst,op:= .call {callee:= .value f,args:=args,argTypes:=ats},type:=ty,pos:=pos,after:=after,guard:=gd} (ev fr) w fun v w'=>∃k st' X' M,K v k st'∧KnO st'.rs v k∧cz w0 k0 X0 may fr st X w st' X' w' M:=by
 obtain⟨r,h1,hK⟩:=Be h
 obtain⟨⟨f',az,bs⟩,h2⟩:=xn h1
 dsimp only at h2
 split at h2
 ·rename_i hd
  simp only [Bool.and_eq_true]at hd
  obtain⟨hf,h2⟩:=h2
  have pk:∀ {l:List PK},gg (yP st.rs) l=true→∀j v k,nth (ay (dv st.rs) l) j=some v→nth (ay (fun p=>some (Kn.p p)) l) j=some k→KnO st.rs v k:=by
   intro l hl j v k hj HI
   rw [aR]at hj HI
   cases hn:nth l j with
   | none=>rw [hn]at hj;cases hj
   | some p=>
    rw [hn]at hj HI
    injection hj with hj
    injection HI with HI
    subst hj;subst HI
    have:=bD.1 hl p (eO hn)
    unfold yP at this
    show den U st.rs p=some (dv st.rs p)
    unfold dv
    split at this
    ·rename_i u hu;rw [hu];rfl
    ·cases this
  refine nD (xq (q':=fun ch w'=>∃v st' X' M,ch= [⟨v,false,false⟩]∧K v (some .pan) st'∧cz w0 k0 X0 may fr st X w st' X' w' M) (hq:=fun ch w' ⟨_,_,_,_,_,h,_⟩=>h.elim) (Ew (K:=_) (first:=⟨ay (dv st.rs) az⟩) (cap:=⟨ay (dv st.rs) bs⟩) H8 hI hk hf (AW (by simp) (pk hd.1) (AW (by simp) (Dr hk) (pk hd.2))) h2)) fun v w' hp=>?_
  obtain⟨k,st',X',M,g1,g2,g3⟩:=hp
  have g1:=xm g1
  split at g1
  ·rename_i hl
   subst g1
   simp only [Bool.and_eq_true]at hl
   have l1:=Nat.eq_of_beq_eq_true hl.1
   have l2:=Nat.eq_of_beq_eq_true hl.2
   have hM:M= []:=by
    have:=g3.md
    rw [this,List.length_append]at l2
    exact List.eq_nil_of_length_eq_zero (by omega)
   subst hM
   refine⟨none,st,X',[],hK,trivial,g3.inv.Eg (by omega) (fun i hi=>(g3.same i hi (by simp)).1.symm) hI.len,hk,rfl,fun i hi=>(by cases hi),fun i hi=>(by cases hi),Nat.le_refl _,fun i hi _=>⟨rfl,(g3.same i hi (by simp)).2⟩,fun i hi=>(by cases hi),fun i h1 h2=>by omega,g3.ch,fun i a ha=>⟨a,ha,bQ.refl a⟩⟩
  ·exact g1.elim
 ·exact h2.elim
theorem mJ:∀ {rs:List (Res U)} {r:Nat→Nat} {l:List (Int×Value)},mpL U rs=some (r,l)→∃i t s,nth rs i=some (.ob t r s)∧U.mp t s=some l
 | [],r,l,h=>by cases h
 | .ob t r0 s::rs,r,l,h=>by
  simp only [mpL]at h
  split at h
  ·rename_i m hm
   simp only [Option.some.injEq,Prod.mk.injEq]at h
   obtain⟨rfl,rfl⟩:=h
   exact⟨0,t,s,rfl,hm⟩
  ·obtain⟨i,t,s,h1,h2⟩:=mJ h
   exact⟨i+1,t,s,h1,h2⟩
 | .blk .. ::rs,r,l,h=>by
  simp only [mpL]at h
  obtain⟨i,t,s,h1,h2⟩:=mJ h
  exact⟨i+1,t,s,h1,h2⟩
 | .lst .. ::rs,r,l,h=>by
  simp only [mpL]at h
  obtain⟨i,t,s,h1,h2⟩:=mJ h
  exact⟨i+1,t,s,h1,h2⟩
theorem ym {b:Bool} {x y:Prop}(h:split b x y)(hb:b=true):x:=(dQ h).elim (·.2) fun h=>by rw [hb]at h;cases h.1
theorem yn {b:Bool} {x y:Prop}(h:split b x y)(hb:b=false):y:=(dQ h).elim (fun h=>by rw [hb]at h;cases h.1) (·.2)
theorem xy:∀ {l:List (Int×Value)} {i:Int} {z:Value} {F:Value→Bool→Prop},lkS l i z F→F ((lkF l i).getD z) (lkF l i).isSome
 | [],i,z,F,h=>h
 | (a,v)::r,i,z,F,h=>by
  unfold lkS at h
  unfold lkF
  by_cases e:i=a
  ·rw [if_pos e];exact ym h (decide_eq_true e)
  ·rw [if_neg e];exact xy (yn h (decide_eq_false e))
theorem Dp {T:TypeId} {z:Value}(h:lkT P T=some z)(w:World):∃K E,P.underlying T=some (.map K E)∧P.underlying K=some (.int .u32)∧(zeroValue E).run P w= .ok z w:=by
 unfold lkT at h
 split at h
 ·rename_i K E hT
  split at h
  ·rename_i hK
   cases hi:P.info? E with
   | none=>rw [hi]at h;cases h
   | some i=>
    rw [hi]at h
    exact⟨K,E,hT,hK,by simp [zeroValue,typeInfo,hi,show i.zero=some z from h]⟩
  ·cases h
 ·cases h
theorem AQ {o:Oper} {K:dC U} {Y:Bool}(H8:∀f c,tbl.c f=some c→LV U P f c∧bo P f=true)(hI:Inv w0 k0 X0 may st.rs X w)(hk:ar st.rs fr st.kn)(h:Fc U P tbl may k0 o (ev fr) st K):
 opW P Y (zI fr w0 k0 X0 may st X w K) o (ev fr) w fun v w'=>∃k st' X' M,K v k st'∧KnO st'.rs v k∧cz w0 k0 X0 may fr st X w st' X' w' M:=by
 obtain⟨dst,op,ty,pos,after,gd⟩:=o
 cases op<;>simp only [Fc]at h<;>skip
 case panic x=>
  refine⟨rfl,?_⟩
  split at h
  ·rename_i t v hx
   have hr:(execOp (ev fr) ⟨dst,.panic x,ty,pos,after,gd⟩).run P w= .halt (.panic (.iface t v)) w:=by
    simp [execOp,hx,Instr.panic,goPanic]
   rw [hr]
   exact⟨_,st,X,[],rfl,h,hI,hk,rfl,fun i hi=>(by cases hi),fun i hi=>(by cases hi),Nat.le_refl _,fun _ _ _=>⟨rfl,rfl⟩,fun i hi=>(by cases hi),fun i h1 h2=>by omega,Ch.refl _ _,fun i a ha=>⟨a,ha,bQ.refl a⟩⟩
  ·exact h.elim
 case store t x y=>exact vp hI hk h
 case alloc t=>
  split at h
  ·rename_i z hz
   refine⟨rfl,?_⟩
   have hr:(execOp (ev fr) ⟨dst,.alloc t,ty,pos,after,gd⟩).run P w= .ok (.value (.pointer (some ⟨w.heap.size,0,none⟩))) (w.alloc (.cells z.cells t)):=by
    simp [execOp,zb hz]
   rw [hr]
   exact sX hI hk (v0:=undef) (ck:=none) trivial (.inl rfl) h
  ·exact h.elim
 case box t x=>
  refine⟨rfl,?_⟩
  have hr:(execOp (ev fr) ⟨dst,.box t x,ty,pos,after,gd⟩).run P w= .ok (.value (.pointer (some ⟨w.heap.size,0,none⟩))) (w.alloc (.cells (ev fr x).cells t)):=rfl
  rw [hr]
  exact sX hI hk (hk.kf x) (.inr rfl) h
 case call c=>
  obtain⟨cal,args,ats⟩:=c
  simp only at h
  split at h
  ·rename_i f
   split at h
   ·exact tS H8 hI hk h
   split at h
   ·rename_i f' first cap hf
    refine Ew H8 hI hk hf (fun j v k hj HI=>?_) h
    ·
     have I6:∀j v k,nth (ay (ev fr) args.toList) j=some v→nth (ay (V.kf st.kn) args.toList) j=some k→KnO st.rs v k:=by
      intro j v k h1 h2
      rw [aR]at h1 h2
      cases hn:nth args.toList j with
      | none=>rw [hn]at h1;cases h1
      | some x=>
       rw [hn]at h1 h2
       injection h1 with h1
       injection h2 with h2
       subst h1;subst h2
       exact hk.kf x
     have hfk:=hk.kf f
     have app:∀ {a1 a2:List Value} {k1 k2:List (Option Kn)},a1.length=k1.length→(∀j v k,nth a1 j=some v→nth k1 j=some k→KnO st.rs v k)→(∀j v k,nth a2 j=some v→nth k2 j=some k→KnO st.rs v k)→∀j v k,nth (a1++a2) j=some v→nth (k1++k2) j=some k→KnO st.rs v k:=by
      intro a1 a2 k1 k2 hl h1 h2 j v k hj HI
      rw [aO]at hj HI
      by_cases hc:j<a1.length
      ·rw [if_pos hc]at hj
       rw [if_pos (by omega)]at HI
       exact h1 j v k hj HI
      ·rw [if_neg hc]at hj
       rw [if_neg (by omega),← hl]at HI
       exact h2 _ v k hj HI
     have pt:∀ {vs:Array Value} {l:List (Option PK)},(∀j k,nth l j=some (some k)→∃u,vs[j]? =some u∧den U st.rs k=some u)→∀j v k,nth vs.toList j=some v→nth (ay (fun o:Option PK=>o.map Kn.p) l) j=some k→KnO st.rs v k:=by
      intro vs l hh j v k hj HI
      rw [aR]at HI
      cases hn:nth l j with
      | none=>rw [hn]at HI;cases HI
      | some o=>
       rw [hn]at HI
       injection HI with HI
       subst HI
       cases o with
       | none=>exact trivial
       | some p=>
        obtain⟨u,hu,hd⟩:=hh j p hn
        rw [aB]at hj
        simp at hj
        rw [hu]at hj
        injection hj with hj
        subst hj
        exact hd
     have no:∀ {vs:List Value},∀j v k,nth vs j=some v→nth (ay (fun _:Value=>(none:Option Kn)) vs) j=some k→KnO st.rs v k:=by
      intro vs j v k hj HI
      rw [aR,hj]at HI
      injection HI with HI
      subst HI
      exact trivial
     unfold Gg at HI
     split at HI
     ·rename_i a b hkf
      rw [hkf,hf]at hfk
      obtain⟨_,fs,cs,e,⟨KX,JX⟩,h3,h4⟩:=hfk
      injection e with _ e1 e2
      subst e1;subst e2
      exact app (by simp [KX]) (pt h3) (app (by simp) I6 (pt h4)) j v k hj HI
     ·exact app (by simp) no (app (by simp) I6 no) j v k hj HI
   ·exact h.elim
  ·rename_i x name
   split at h
   ·rename_i t u hx
    split at h
    ·rename_i f' hm
     refine Gu H8 hI hk hx hm (fun j v k hj HI=>?_) h
     cases j with
     | zero=>
      simp only [nth,Option.some.injEq]at HI
      subst HI
      exact trivial
     | succ j=>
      simp only [nth]at hj HI
      rw [aR]at hj HI
      cases hn:nth args.toList j with
      | none=>rw [hn]at hj;cases hj
      | some y=>
       rw [hn]at hj HI
       injection hj with hj
       injection HI with HI
       subst hj;subst HI
       exact hk.kf y
    ·exact h.elim
   ·exact h.elim
  ·split at h
   ·rename_i x y t t' ha hat
    split at h
    ·rename_i e tt ie z Ml Qz
     have Qz:=Nat.eq_of_beq_eq_true Qz
     subst Qz
     obtain⟨Nz,hi,hz,Hv,MX⟩:=nm Ml
     obtain⟨l2,B,d,Y2,hy,Jz,h⟩:=Am hI.sat hk h
     have Tj:args= #[x,y]:=by apply Array.ext';simpa using ha
     have hat':ats= #[t,t]:=by apply Array.ext';simpa using hat
     subst Tj;subst hat'
     have key:∀ {A:Option Addr} {m c:Nat} {K':Value→World→Prop},ev fr x= .slice A m c→(∃(A':Option Addr)(n' c':Nat)(w2:World),(Builtin.append_ #[t,t] ty #[.slice A m c,.slice B l2.length d]:Sem Value).run P w= .ok (.slice A' n' c') w2∧K' (.slice A' n' c') w2)→
      opW P Y (zI fr w0 k0 X0 may st X w K) {dst:=dst,op:= .call {callee:= .builtin .append,args:= #[x,y],argTypes:= #[t,t]},type:=ty,pos:=pos,after:=after,guard:=gd} (ev fr) w K':=by
      intro A m c K' hx hh
      obtain⟨A',n',c',w2,hr,hK⟩:=hh
      refine⟨rfl,?_⟩
      rw [j3 (s:=Builtin.append_ #[t,t] ty #[.slice A m c,.slice B l2.length d]) (by simp [qJ,hx,hy]) w hr]
      exact hK
     split at h
     ·rename_i id Ik
      split at h
      ·rename_i tt' T A0 c0 l hn HO
       split at h
       ·rename_i hT
        have hT:=Nat.eq_of_beq_eq_true hT
        subst hT
        split at h
        ·rename_i Qz
         subst Qz
         obtain⟨Td,h⟩:=h
         have Ij:=hk.kf x
         rw [Ik]at Ij
         have hd:den U st.rs (.sl id 0)=some (ev fr x):=Ij
         simp only [den,PK.id,hn,bm,eP,Option.some.injEq]at hd
         obtain⟨ho,Ho⟩:Own w (X id) T A0 l.length c0 l∧∀k,X id k→k<w.heap.size:=hI.sat.res id _ hn
         have Kb:l.length+l2.length≤9223372036854775807:=by
          have:=Nat.le_mul_of_pos_right (l.length+l2.length) MX
          omega
         have fin:∀(A':Option Addr)(c':Nat)(w2:World)(Z:Nat→Prop),Own w2 Z T A' (l++l2).length c' (l++l2)→(∀k,Z k→X id k∨w.heap.size≤k)→Ch (X id) w w2→∃k st' X' M,K (.slice A' (l++l2).length c') k st'∧KnO st'.rs (.slice A' (l++l2).length c') k∧cz w0 k0 X0 may fr st X w st' X' w2 M:=by
          intro A' c' w2 Z Jb Sr hq
          have H0:bQ (Res.lst tt' true T A0 c0 l) (.lst tt' true T A' c' (l++l2)):= .lst _ _ _ _ _ _ _ _ _
          have hat:nth (bh st.rs id (Res.lst tt' true T A' c' (l++l2))) id=some (.lst tt' true T A' c' (l++l2)):=by rw [aJ,if_pos ⟨rfl,aH hn⟩]
          refine step_done (st':=⟨bh st.rs id (.lst tt' true T A' c' (l++l2)),cQ [id] st.kn,id::st.md⟩) (k:=some (.p (.sl id 0))) (yl hI hn HO hq H0 (Z:=fun k=>Z k∧k<w2.heap.size) (show RS _ w2 (.lst tt' true T A' c' (l++l2))from⟨Jb.narrow,fun k hk=>hk.2⟩) (fun k hk=>Sr k hk.1) ?_) ?_ (h A' c')
          rotate_left
          ·show den U _ (.sl id 0)=_
           simp only [den,PK.id,hat,bm,eP]
          ·refine hk.cQ (M:= [id]) (fun i _ hi=>by rw [aJ,if_neg (fun hh=>hi (by simp [hh.1]))]) fun i hi a ha=>?_
           simp at hi
           subst hi
           rw [hn]at ha
           injection ha with ha
           subst ha
           exact⟨_,hat,H0⟩
         refine key hd.symm ?_
         refine Own.apps (ho.mono (Y:=fun k=>X id k∨w.heap.size≤k) fun k hk=>.inl hk) Nz Jz Kb Td (.inr (Nat.le_refl _)) (fun A' c' w2 Jb hq=>?_) (fun h0 hB=>?_)
         ·rw [← List.length_append]at Jb ⊢
          refine fin A' c' w2 _ Jb (fun k hk=>hk) ⟨hq.kept.mono fun k hk=>⟨hk.1,fun hh=>hh.elim hk.2 (fun hh=>absurd hk.1 (Nat.not_lt.2 hh))⟩⟩
         ·have JX:l2= []:=List.eq_nil_of_length_eq_zero h0
          subst JX
          refine⟨_,_,_,_,run_append_nothing w t t ty T ie Nz.und hi A0 l.length c0 ho.own.Br _ (Src.ofNil _ Nz.und d),?_⟩
          have:=fin A0 c0 w (X id) (by rw [List.append_nil];exact ho) (fun k hk=>.inl hk) (Ch.refl _ _)
          rw [List.append_nil]at this
          exact this
        ·exact h.elim
       ·exact h.elim
      ·exact h.elim
     ·split at h
      ·rename_i hx
       obtain⟨Td,h⟩:=h
       have Kb:l2.length≤9223372036854775807:=by
        have:=Nat.le_mul_of_pos_right l2.length MX
        omega
       refine key hx ?_
       refine mP Nz Jz Kb Td fun A' c' w2 Jb hq=>?_
       exact nH hI hk hq Jb (fun k hk=>hk.1) rfl (h A' c')
      ·exact h.elim
     ·exact h.elim
    ·exact h.elim
   ·exact h.elim
  ·exact h.elim
 case buildSlice t len parts=>
  split at h
  ·rename_i e tt ie z Ml
   obtain⟨Nz,hi,hz,Hv,MX⟩:=nm Ml
   split at h
   ·rename_i cells hf hb
    split at h
    ·rename_i l hl
     simp only [Bool.and_eq_true]at hb
     have h1:0<len:=by simpa [Nat.blt_eq]using hb.1
     have h2:len*ie.size≤16777216:=Nat.le_of_ble_eq_true hb.2
     have QI:0<ie.size:=by rw [Hv];exact(U.en tt).pos
     have hls:0<len*ie.size:=Nat.mul_pos h1 QI
     obtain⟨Ni,hlf⟩:=tE hl
     refine⟨rfl,?_⟩
     have hr:(execOp (ev fr) {dst:=dst,op:= .buildSlice t len parts,type:=ty,pos:=pos,after:=after,guard:=gd}).run P w= .ok (.value (.slice (some ⟨w.heap.size,0,none⟩) len len)) (w.alloc (.cells cells e)):=by
      have:=Go.run_buildSlice (P:=P) w t e len (parts.map fun(ix:Nat×Operand)=>(ix.1,ev fr ix.2)) cells ie z Nz.und hi hz (by omega) (by omega) hf
      simp only [execOp]
      rw [Sem.run_bind,this]
      rfl
     rw [hr]
     have H2:cells.size=len*(U.en tt).size:=by
      rw [← Array.length_toList,← hlf,gA,Ni]
     have H6:=World.ownsRow_lit (base:=0) (e:=e) (size:=(U.en tt).size) w cells len (Nat.zero_le _) (by
      have:=Nat.le_mul_of_pos_right len QI
      simp only [maxLen];omega) H2
     refine nH hI hk (Z:=fun k=>k=w.heap.size) (show Pu w (w.alloc (.cells cells e))from(made (w2:=w.alloc (.cells cells e)) rfl rfl).pu) ⟨⟨?_,fun a ha=>by injection ha with ha;rw [← ha]⟩,rfl⟩ (fun k e=>by rw [e];exact Nat.le_refl _) (by rw [Ni]) (h w.heap.size)
     rw [hlf,Ni]
     exact H6
    ·exact h.elim
   ·exact h.elim
  ·exact h.elim
 case lookup T x ix ok=>
  cases ok with
  | false=>exact h.elim
  | true=>
   simp only at h
   split at h
   ·rename_i g i z r l hx hi hz hm
    obtain⟨rfl,h⟩:=h
    obtain⟨j,t,s,hn,hmp⟩:=mJ hm
    obtain⟨K,E,h1,h2,h3⟩:=Dp hz w
    have hr:=yr h1 h2 h3 (U.ta (hI.sat.res j _ hn) hmp) i
    refine⟨rfl,?_⟩
    rw [j3 (s:=Instr.lookup T (.map (some (r 0))) (.int .u32 i) true) (by simp [qJ,hx,hi]) w hr]
    exact⟨none,st,X,[],xy h,trivial,hI,hk,rfl,fun i hi=>(by cases hi),fun i hi=>(by cases hi),Nat.le_refl _,fun _ _ _=>⟨rfl,rfl⟩,fun i hi=>(by cases hi),fun i h1 h2=>by omega,Ch.refl _ _,fun i a ha=>⟨a,ha,bQ.refl a⟩⟩
   ·exact h.elim
 case makeSlice t l c=>
  split at h
  ·rename_i a b e tt ie z hla hlb Ml
   obtain⟨Nz,hi,hz,Hv,MX⟩:=nm Ml
   split at h
   ·rename_i x hx
    obtain⟨⟨rfl,h0,hb⟩,h⟩:=h
    have Kb:a≤9223372036854775807:=by
     have h9:(1:Int)*a≤(ie.bytes:Int)*a:=Int.mul_le_mul_of_nonneg_right (by omega) h0
     omega
    have hr:=run_make (P:=P) w t e ie z Nz.und hi hz .i64 .i64 a a h0 (Int.le_refl _) hb Kb
    refine⟨rfl,?_⟩
    rw [j3 (s:=Instr.makeSlice t (.int .i64 a) (.int .i64 a)) (by simp [qJ,hla,hlb]) w hr]
    have HC:=vG (x:=x) (U.ga hx) a.toNat
    have hlen:(List.replicate a.toNat x).length=a.toNat:=List.length_replicate
    rw [Hv]
    have H6:=World.ownsRow_lit (base:=0) (e:=e) (size:=(U.en tt).size) w (madeCells z.cells (a.toNat *(U.en tt).size)) a.toNat (Nat.zero_le _) (by simp only [maxLen];omega) (size_madeCells _ _)
    refine nH hI hk (Z:=fun k=>k=w.heap.size) (l:=List.replicate a.toNat x) (c:=a.toNat) (T:=e) (A:=some ⟨w.heap.size,0,none⟩) ((made (w2:=w.alloc (.cells (madeCells z.cells (a.toNat *(U.en tt).size)) e)) rfl rfl).pu) ⟨⟨?_,fun a ha=>by injection ha with ha;rw [← ha]⟩,rfl⟩ (fun k e=>by rw [e];exact Nat.le_refl _) (by rw [hlen]) ?_
    ·rw [HC,hlen]
     exact H6
    ·have:=h w.heap.size
     rw [hlen]at this
     exact this
   ·exact h.elim
  ·exact h.elim
theorem xt {o:Oper} {K:dC U} {Y:Bool}(H8:∀f c,tbl.c f=some c→LV U P f c∧bo P f=true)(hI:Inv w0 k0 X0 may st.rs X w)(hk:ar st.rs fr st.kn)(h:op2 U P tbl may k0 o (ev fr) st K):
 opW P Y (zI fr w0 k0 X0 may st X w K) o (ev fr) w fun v w'=>∃k st' X' M,K v k st'∧KnO st'.rs v k∧cz w0 k0 X0 may fr st X w st' X' w' M:=by
 unfold op2 at h
 split at h
 ·exact AQ H8 hI hk h
 ·obtain⟨v,k,h1,h2,h3⟩:=pY hI.sat hk h
  have hr:=h3 w (Kept.refl _ _)
  refine⟨?_,?_⟩
  ·obtain⟨dst,op,ty,pos,after,gd⟩:=o
   cases op<;>first | rfl | skip
   exact absurd (show lW P _ _ _ from h) (fun hh=>hh.elim)
  ·rw [hr]
   exact⟨k,st,X,[],h1,h2,hI,hk,rfl,fun i hi=>(by cases hi),fun i hi=>(by cases hi),Nat.le_refl _,fun _ _ _=>⟨rfl,rfl⟩,fun i hi=>(by cases hi),fun i h1 h2=>by omega,Ch.refl _ _,fun i a ha=>⟨a,ha,bQ.refl a⟩⟩
structure Steps(w0:World)(k0:Nat)(X0:Nat→Nat→Prop)(may:List Nat)(st:St U)(X:Nat→Nat→Prop)(st':St U)(X':Nat→Nat→Prop)(w':World):Prop where
 inv:Inv w0 k0 X0 may st'.rs X' w'
 len:st.rs.length≤st'.rs.length
 md:∃L,st'.md=L++st.md∧(∀i,i∈L→i∈may∨k0≤i)∧∀i,i<st.rs.length→i ∉ L→nth st'.rs i=nth st.rs i∧X' i=X i
 root:∀i a,nth st.rs i=some a→∃b,nth st'.rs i=some b∧bQ a b
theorem Steps.refl(h:Inv w0 k0 X0 may st.rs X w):Steps w0 k0 X0 may st X st X w:=⟨h,Nat.le_refl _,⟨[],rfl,fun i hi=>(by cases hi),fun _ _ _=>⟨rfl,rfl⟩⟩,fun i a ha=>⟨a,ha,bQ.refl a⟩⟩
theorem Steps.trans {LH Ib:St U} {X1 X2:Nat→Nat→Prop} {w1 w2:World}(h:Steps w0 k0 X0 may st X LH X1 w1)(k:Steps w0 k0 X0 may LH X1 Ib X2 w2):Steps w0 k0 X0 may st X Ib X2 w2:=by
 obtain⟨L,hL,cL,hl⟩:=h.md
 obtain⟨M,hM,cM,hm⟩:=k.md
 exact⟨k.inv,Nat.le_trans h.len k.len,⟨M++L,by rw [hM,hL,List.append_assoc],fun i hi=>(List.mem_append.1 hi).elim (cM i) (cL i),fun i hi hn=>by
  rw [List.mem_append,not_or]at hn
  obtain⟨e1,e2⟩:=hm i (Nat.lt_of_lt_of_le hi h.len) hn.1
  obtain⟨e3,e4⟩:=hl i hi hn.2
  exact⟨e1.trans e3,e2.trans e4⟩⟩,fun i a ha=>by
  obtain⟨b,hb,hr⟩:=h.root i a ha
  obtain⟨c,hc,Ol⟩:=k.root i b hb
  exact⟨c,hc,hr.trans Ol⟩⟩
theorem cz.steps {st':St U} {X':Nat→Nat→Prop} {w':World} {M:List Nat}(h:cz w0 k0 X0 may fr st X w st' X' w' M):Steps w0 k0 X0 may st X st' X' w':=⟨h.inv,h.len,⟨M,h.md,h.can,fun i hi hm=>h.same i hi hm⟩,h.root⟩
theorem Steps.kn {st' Ib:St U} {X':Nat→Nat→Prop} {w':World}(h:Steps w0 k0 X0 may st X st' X' w')(h1:Ib.rs=st'.rs)(h2:Ib.md=st'.md):Steps w0 k0 X0 may st X Ib X' w':=by
 obtain⟨a,b,c,d⟩:=h
 exact⟨by rw [h1];exact a,by rw [h1];exact b,by rw [h1,h2];exact c,by rw [h1];exact d⟩
variable {n:Nat} {N:List Nat} {ops:Array Oper}
theorem eV {dst:Option Tmp} {v:Value} {F G:Fr→Prop}(h:fV n N fr dst v F)(hF:∀fr',F fr'→G fr'):fV n N fr dst v G:=by
 unfold fV at h ⊢
 cases dst with
 | none=>exact hF _ h
 | some d=>
  simp only at h ⊢
  split at h
  ·split at h
   ·cases v with
    | int k x=>exact fun z hz=>hF _ (h z hz)
    | bool x=>exact fun z hz=>hF _ (h z hz)
    | _=>exact hF _ h
   ·exact hF _ h
  ·exact h.elim
def Aft(w0:World)(k0:Nat)(X0:Nat→Nat→Prop)(may:List Nat)(st:St U)(X:Nat→Nat→Prop)(ds:List Deferred)(K:Fr→St U→Prop)(fr':Fr)(w':World):Prop:=
 ∃st' X',Steps w0 k0 X0 may st X st' X' w'∧ar st'.rs fr' st'.kn∧fr'.ds=ds∧K fr' st'
def Ac(M:Fr→Oper→World→ax→Prop)(n:Nat)(N:List Nat)(ops:Array Oper)(K:Fr→World→Prop):List Oper→Fr→World→Prop
 | [],fr,w=>K fr w
 | o::rest,fr,w=>eG ops o fr
  (fun fr=>M fr o w (fun v w'=>fV n N fr o.dst v fun fr'=>Ac M n N ops K rest fr' w'))
  (fun fr=>fV n N fr o.dst undef fun fr'=>Ac M n N ops K rest fr' w)
def jB(n:Nat)(ws:List Nat)(a0:Act)(Q:QF):Exit→Act→World→Prop
 | .outgrown,_,_=>False
 | x,a,w=>∃fr,Rep n fr a∧Q x fr w∧Agr ws a0 a
theorem jF {Qp:Fr→List PanicEntry→World→Prop} {K:Fr→World→Prop} {ws:List Nat} {a0:Act} {r:Option Nat}:
 ∀(l:List Oper),(∀o∈l,∀d,o.dst=some d→d∈ws)→∀(fr:Fr)(a:Act)(w:World),Rep n fr a→Agr ws a0 a→Ac (fun fr o w K=>opW P true (some (Qp fr)) o (ev fr) w K) n N ops K l fr w→
  wpListIn (WF r) 0 P ops (jB n ws a0 fun x fr w=>match x with | .normal=>K fr w | .panic ch=>Qp fr ch w | _=>False) l a w
 | [],_,fr,a,w,hr,ha,h=>⟨fr,hr,h,ha⟩
 | o::rest,hd,fr,a,w,hr,ha,h=>by
  obtain⟨fr',Hk,hh⟩:=gZ hr h
  simp only [wpListIn]
  rcases hh with⟨hw,hh⟩ | ⟨hw,hh⟩
  ·rw [if_pos hw]
   refine xp (K:=fun fr' w'=>Ac (fun fr o w K=>opW P true (some (Qp fr)) o (ev fr) w K) n N ops K rest fr' w') Hk ha (hd o (List.mem_cons_self ..)) hh ?_ ?_
   ·intro HY a2 w2 h2 h3 h4
    exact jF rest (fun o' KK=>hd o' (List.mem_cons_of_mem _ KK)) HY a2 w2 h2 h3 h4
   ·intro ch w' hq
    exact⟨fr',Hk,hq,ha⟩
  ·rw [if_neg (by rw [hw];simp)]
   obtain⟨HY,h2,h3⟩:=eo Hk hh
   exact⟨g8,jF rest (fun o' KK=>hd o' (List.mem_cons_of_mem _ KK)) HY _ w h2 (ha.trans (Agr.put a o.dst undef (hd o (List.mem_cons_self ..)))) h3⟩
theorem AF {k:Option Kn} {A B:Prop} {rs:List (Res U)} {v:Value}(h:vz k A B)(hk:KnO rs v k):B:=by
 unfold vz at h
 split at h
 ·exact hk.elim
 ·exact h
theorem mX {K:Fr→St U→Prop} {Kp:List PanicEntry→Fr→St U→Prop}(H8:∀f c,tbl.c f=some c→LV U P f c∧bo P f=true):∀(l:List Oper)(fr:Fr)(st0 st:St U)(Xs X:Nat→Nat→Prop)(w:World)(ds:List Deferred),Steps w0 k0 X0 may st0 Xs st X w→ar st.rs fr st.kn→fr.ds=ds→yc U P tbl may k0 n N ops K Kp l fr st→
 Ac (fun fr o w K=>opW P true (some fun ch w'=>Aft w0 k0 X0 may st0 Xs ds (Kp ch) fr w') o (ev fr) w K) n N ops (Aft w0 k0 X0 may st0 Xs ds K) l fr w
 | [],fr,st0,st,Xs,X,w,ds,hS,hk,hd,h=>⟨st,X,hS,hk,hd,h⟩
 | o::rest,fr,st0,st,Xs,X,w,ds,hS,hk,hd,h=>by
  refine iF h (fun fr' hl IJ h=>?_) (fun fr' hl IJ h=>?_)
  ·have Jq:=hk.same hl
   refine nD (xq (xt H8 hS.inv Jq h) ?_) fun v w' hp=>?_
   ·rintro ch w' ⟨v,st',X',M,rfl,h1,h3⟩
    exact⟨st',X',hS.trans h3.steps,h3.kn,by rw [IJ,hd],h1⟩
   ·obtain⟨k,st',X',M,h1,h2,h3⟩:=hp
    refine eV (gr (AF h1 h2) h3.kn h2) fun HY hp=>?_
    obtain⟨Ib,e1,e2,h4,h5,h6⟩:=hp
    exact mX H8 rest HY st0 Ib Xs X' w' ds ((hS.trans h3.steps).kn e1 e2) (by rw [e1];exact h4) (by rw [h5,IJ,hd]) h6
  ·have Jq:=hk.same hl
   refine eV (gr h Jq trivial) fun HY hp=>?_
   obtain⟨Ib,e1,e2,h4,h5,h6⟩:=hp
   exact mX H8 rest HY st0 Ib Xs X w ds (hS.kn e1 e2) (by rw [e1];exact h4) (by rw [h5,IJ,hd]) h6
theorem Inv.drew(h:Inv w0 k0 X0 may st.rs X w):Inv w0 k0 X0 may st.rs X w.drew:=h.pu (Pu.dh w)
structure BOk(V:List Nat)(rd:List (Nat×List Nat))(b:Nat→Nat→Prop)(rs:List (Res U))(X:Nat→Nat→Prop)(w:World):Prop where
 has:∀i id k,id∈lU i rd→id<rs.length→X id k→b i k
 all:∀i k,i∈V→b i k
 only:∀i k,i ∉ V→b i k→k<w.heap.size∧∀j,j<rs.length→X j k→j∈lU i rd
end
end
end Go.Proofs.YtfmcaoaaiganbaaGreatDoor.V
namespace Go.Proofs.YtfmcaoaaiganbaaGreatDoor.V
open Go Go.RowKit
open Go.IntKind (i64 u32 u64)
section
section
variable {U:Uni} {P:Program} {tbl:Tb U} {may:List Nat} {k0:Nat}
variable {w0:World} {X0 X:Nat→Nat→Prop} {w:World} {fr:Fr} {st:St U} {n:Nat} {N:List Nat} {ops:Array Oper}
def MSw(P:Program):FK:=fun B o ρ w F=>∃v,F v∧∀w',Kept (held B w) w w'→(execOp ρ o).run P w'= .ok (.value v) w'
theorem qp {F G:Nat→Prop}:∀ {l:List Nat},vY F l→(∀i,F i→G i)→vY G l
 | [],_,_=>trivial
 | [_],h,hg=>hg _ h
 | _::j::r,h,hg=>⟨hg _ h.1,qp (l:=j::r) h.2 hg⟩
theorem ud {b:Nat→Nat→Prop}:∀ {l:List Nat} {k:Nat},fm b l k→∃i,i∈l∧b i k
 | [i],k,h=>⟨i,by simp,h⟩
 | i::j::r,k,h=>by
  rcases h with h | h
  ·exact⟨i,by simp,h⟩
  ·obtain⟨i',h1,h2⟩:=ud (l:=j::r) h
   exact⟨i',List.mem_cons_of_mem _ h1,h2⟩
theorem Ai {α:Type}(M L:List α):gl ((M++L).length - L.length) (M++L)=M:=by
 rw [dq,List.length_append,Nat.add_sub_cancel,List.take_left]
theorem Fu {rs:List (Res U)} {p:PK} {v:Value}(h:den U rs p=some v):p.id<rs.length:=by
 unfold den at h
 cases hn:nth rs p.id with
 | none=>rw [hn]at h;cases p<;>simp [bm]at h
 | some r=>exact aH hn
theorem BOk.step {V:List Nat} {rd:List (Nat×List Nat)} {b:Nat→Nat→Prop}(hb:BOk V rd b st.rs X w) {st':St U} {X':Nat→Nat→Prop} {w':World} {M:List Nat}(hs:cz w0 k0 X0 may fr st X w st' X' w' M):
 BOk V rd (fun i k=>b i k∨∃id,id∈lU i rd∧id<st'.rs.length∧X' id k) st'.rs X' w':=by
 refine⟨fun i id k h1 h2 h3=>.inr ⟨id,h1,h2,h3⟩,fun i k h=>.inl (hb.all i k h),fun i k hi hk=>?_⟩
 rcases hk with hk | ⟨id,h1,h2,h3⟩
 ·obtain⟨h4,h5⟩:=hb.only i k hi hk
  refine⟨Nat.lt_of_lt_of_le h4 hs.ch.size,fun j hj hx=>?_⟩
  by_cases L4:j<st.rs.length
  ·by_cases hm:j∈M
   ·rcases hs.grow j hm k hx with h6 | h6
    ·exact h5 j L4 h6
    ·omega
   ·rw [(hs.same j L4 hm).2]at hx
    exact h5 j L4 hx
  ·have:=hs.new j (Nat.le_of_not_lt L4) hj k hx
   omega
 ·refine⟨hs.inv.sat.lt h2 k h3,fun j hj hx=>?_⟩
  by_cases HT:id=j
  ·rw [← HT];exact h1
  ·exact absurd hx (hs.inv.sat.dis id j h2 hj HT k h3)
theorem vU {V:List Nat} {rd:List (Nat×List Nat)} {M beh:List Nat}(h:vV V rd M beh=true):∀i,i∈beh→i ∉ V∧∀j,j∈M→j ∉ lU i rd:=by
 intro i hi
 have:=bD.1 h i hi
 simp only [Bool.and_eq_true,Bool.not_eq_true']at this
 refine⟨fun hv=>?_,fun j hj hr=>?_⟩
 ·rw [cV.2 hv]at this;cases this.1
 ·have h2:=bD.1 this.2 j hj
  rw [cV.2 hr]at h2;cases h2
theorem BOk.kept {V:List Nat} {rd:List (Nat×List Nat)} {b:Nat→Nat→Prop}(hb:BOk V rd b st.rs X w) {st':St U} {X':Nat→Nat→Prop} {w':World} {M:List Nat}(hs:cz w0 k0 X0 may fr st X w st' X' w' M) {beh:List Nat}(h:vV V rd M beh=true):Kept (fm b beh) w w':=by
 refine hs.ch.kept.mono fun k hk=>?_
 obtain⟨i,hi,hbi⟩:=ud hk
 obtain⟨h1,h2⟩:=vU h i hi
 obtain⟨h3,h4⟩:=hb.only i k h1 hbi
 exact⟨h3,fun⟨j,hj,hx⟩=>h2 j hj (h4 j (hs.mlt j hj) hx)⟩
theorem C9 {o:Oper} {kn:List (Key×Kn)} {x:Nat}(h:rdX o kn X x):∃t a p,o.op= .load t a∧kf kn a=some (.p p)∧X p.id x:=by
 unfold rdX at h
 cases QJ:o.op<;>simp only [QJ]at h
 rename_i t a
 cases hk:V.kf kn a with
 | none=>simp only [hk]at h
 | some k=>cases k<;>simp only [hk]at h;exact⟨t,a,_,rfl,hk,h⟩
theorem Ae {all:Bool} {V:List Nat} {rd:List (Nat×List Nat)} {K:Fr→St U→Prop}(H8:∀f c,tbl.c f=some c→LV U P f c∧bo P f=true):
 ∀(fuel:Nat)(listed:Array Bool)(fr:Fr)(st0 st:St U)(Xs X:Nat→Nat→Prop)(w:World)(ds:List Deferred)(b:Nat→Nat→Prop),(all=false→BOk V rd b st.rs X w)→(all=true→∀i k,b i k)→Steps w0 k0 X0 may st0 Xs st X w→ar st.rs fr st.kn→fr.ds=ds→
  oO U P tbl may k0 n N ops all V rd K fuel listed fr st→
  mo P (fun o ρ w K=>opW P false none o ρ w K) (MSw P) n N ops (Aft w0 k0 X0 may st0 Xs ds K) fuel (some b) listed fr w:=by
 intro fuel
 induction fuel with
 | zero=>
  intro listed fr st0 st Xs X w ds b hb HP hS hk hd h
  simp only [oO]at h
  simp only [mo]
  split at h
  ·rename_i Jz
   try simp only [Jz]
   exact⟨st,X,hS,hk,hd,h⟩
  ·exact h.elim
 | succ fuel ih=>
  intro listed fr st0 st Xs X w ds b hb HP hS hk hd h
  simp only [oO]at h
  simp only [mo]
  split at h
  ·rename_i Jz
   try simp only [Jz]
   exact⟨st,X,hS,hk,hd,h⟩
  ·rename_i i0 r0 Jz
   try simp only [Jz]
   split at h
   ·rename_i i Q9
    try simp only [Q9]
    split at h
    ·rename_i o ho
     try simp only [ho]
     refine iF h (fun fr' hl IJ hq=>?_) (fun fr' hl IJ h=>?_)
     ·have Jq:=hk.same hl
      clear h
      have h:=hq
      clear hq
      cases Hu:A5 o with
      | true=>simp only [Hu]at h
      | false=>
      cases Mn:EY all V rd i o st.kn with
      | false=>simp only [Hu,Mn]at h
      | true=>
       simp only [Hu,Mn]at h
       obtain⟨v,k,h1,h2,h3⟩:=pY hS.inv.sat Jq h
       refine⟨v,?_,fun w' hw=>h3 w' (hw.mono fun x hx=>?_)⟩
       ·refine eV (gr h1 Jq h2) fun HY hp=>?_
        obtain⟨Ib,e1,e2,h4,h5,h6⟩:=hp
        exact ih _ HY st0 Ib Xs X w ds b (by rw [e1];exact hb) HP (hS.kn e1 e2) (by rw [e1];exact h4) (by rw [h5,IJ,hd]) h6
       ·show b i x
        obtain⟨t,a,p,QJ,hp,hx⟩:=C9 hx
        unfold EY at Mn
        simp only [QJ,hp]at Mn
        by_cases ha:all=true
        ·exact HP ha i x
        have hb:=hb (by simpa using ha)
        split at Mn
        ·rename_i hv
         rcases Bool.or_eq_true_iff.1 hv with hv | hv
         ·exact absurd hv ha
         ·exact hb.all i x (cV.1 hv)
        ·have hpk:=Jq.kf a
         rw [hp]at hpk
         exact hb.has i p.id x (cV.1 Mn) (Fu (show den U st.rs p=some _ from hpk)) hx
     ·refine eV (gr h (hk.same hl) trivial) fun HY hp=>?_
      obtain⟨Ib,e1,e2,h4,h5,h6⟩:=hp
      exact ih _ HY st0 Ib Xs X w ds b (by rw [e1];exact hb) HP (hS.kn e1 e2) (by rw [e1];exact h4) (by rw [h5,IJ,hd]) h6
    ·exact h.elim
   ·split at h
    ·exact h.elim
    ·rename_i No _
     try simp only [No]
     refine qp h fun i h=>?_
     split at h
     ·rename_i o ho
      try simp only [ho]
      refine iF h (fun fr' hl IJ h=>?_) (fun fr' hl IJ h=>?_)
      ·have Jq:=hk.same hl
       refine nD (AJ (xt H8 hS.inv Jq h) fun ch w' ⟨_,_,_,_,_,h,_⟩=>h.elim) fun v w' hp=>?_
       obtain⟨k,st',X',M,h1,h2,h3⟩:=hp
       have h1:=xm h1
       split at h1
       ·rename_i hap
        rw [h3.md,Ai]at hap
        refine eV (gr h1 h3.kn h2) fun HY hp=>?_
        obtain⟨Ib,e1,e2,h4,h5,h6⟩:=hp
        have hb:=hb rfl
        have KY:=hb.step h3
        have Ow:=ih (listed.setIfInBounds i true) HY st0 Ib Xs X' w' ds _ (fun _=>by rw [e1];exact KY) (fun ha=>by cases ha) ((hS.trans h3.steps).kn e1 e2) (by rw [e1];exact h4) (by rw [h5,IJ,hd]) h6
        unfold xv
        simp only
        split
        ·exact⟨_,fun i k Q5=>.inl Q5,Ow⟩
        ·exact⟨hb.kept h3 hap,_,fun i k Q5=>.inl Q5,Ow⟩
       ·exact h1.elim
      ·refine eV (gr h (hk.same hl) trivial) fun HY hp=>?_
       obtain⟨Ib,e1,e2,h4,h5,h6⟩:=hp
       exact ih _ HY st0 Ib Xs X w ds b (by rw [e1];exact hb) HP (hS.kn e1 e2) (by rw [e1];exact h4) (by rw [h5,IJ,hd]) h6
     ·exact h.elim
variable (U P tbl may k0 w0 X0 n)in
def ov(c:Code)(V:QF2 U→Fr→St U→Prop):Prop:=
 ∀(Q:QF2 U)(fr:Fr)(st:St U)(X:Nat→Nat→Prop)(a:Act)(w:World),Rep n fr a→Inv w0 k0 X0 may st.rs X w→ar st.rs fr st.kn→V Q fr st→
  c.wpIn (WF none) 0 P (jB n (writes c) a fun x fr' w'=>Aft w0 k0 X0 may st X fr.ds (fun fr' st'=>Q x fr' st') fr' w') a w
theorem Real.two {ws:List Nat} {a0:Act} {Q:QF} {e:Exit} {a':Act} {w':World}(h:Real n ws a0 none Q e a' w'):jB n ws a0 Q e a' w':=by
 cases e<;>first | exact h | exact h.1.elim
theorem jB.mono {ws ws':List Nat} {a0:Act} {Q Q':QF} {e:Exit} {a':Act} {w':World}(h:jB n ws a0 Q e a' w')(hw:∀i,i∈ws→i∈ws')(hQ:∀x fr w,Q x fr w→Q' x fr w):jB n ws' a0 Q' e a' w':=by
 cases e<;>first | exact h | (obtain⟨fr,h1,h2,h3⟩:=h;exact⟨fr,h1,hQ _ _ _ h2,h3.mono hw⟩)
theorem Aft.mono {ds:List Deferred} {K K':Fr→St U→Prop} {fr':Fr} {w':World}(h:Aft w0 k0 X0 may st X ds K fr' w')(hK:∀fr st,K fr st→K' fr st):Aft w0 k0 X0 may st X ds K' fr' w':=by
 obtain⟨st',X',h1,h2,h3,h4⟩:=h
 exact⟨st',X',h1,h2,h3,hK _ _ h4⟩
theorem Aft.pre {LH:St U} {X1:Nat→Nat→Prop} {w1:World} {ds:List Deferred} {K:Fr→St U→Prop} {fr':Fr} {w':World}(hs:Steps w0 k0 X0 may st X LH X1 w1)(h:Aft w0 k0 X0 may LH X1 ds K fr' w'):Aft w0 k0 X0 may st X ds K fr' w':=by
 obtain⟨st',X',h1,h2,h3,h4⟩:=h
 exact⟨st',X',hs.trans h1,h2,h3,h4⟩
theorem oR {id:Nat} {Q:QF2 U} {a:Act}(H8:∀f c,tbl.c f=some c→LV U P f c∧bo P f=true)(hr:Rep n fr a)(hI:Inv w0 k0 X0 may st.rs X w)(hk:ar st.rs fr st.kn)(h:yc U P tbl may k0 n N ops (Q .normal) (fun ch=>Q (.panic ch)) ops.toList fr st):
 (Code.region id ops false).wpIn (WF none) 0 P (jB n (writes (.region id ops false)) a fun x fr' w'=>Aft w0 k0 X0 may st X fr.ds (fun fr' st'=>Q x fr' st') fr' w') a w:=by
 have hv:=mX (n:=n) (N:=N) (ops:=ops) H8 ops.toList fr st st X X w fr.ds (Steps.refl hI) hk rfl h
 exact wpIn_mono (wpIn_region_list (jF (ws:=writes (.region id ops false)) (a0:=a) ops.toList (fun o ho d hd=>List.mem_filterMap.2 ⟨o,ho,hd⟩) fr a w hr (Agr.refl _ _) hv)) fun e a' w' he=>by
  cases e<;>first | exact he | (obtain⟨_,_,h,_⟩:=he;exact h.elim)
theorem qT {id:Nat} {Q:QF2 U} {a:Act} {V:List Nat} {rd:List (Nat×List Nat)}(H8:∀f c,tbl.c f=some c→LV U P f c∧bo P f=true)(hm:P.follows .mixedOrders=true)(hs:Region.noSelect ops=true)(IW:cE ops.toList=true)(hr:Rep n fr a)(hI:Inv w0 k0 X0 may st.rs X w)(hk:ar st.rs fr st.kn) {all:Bool}
 (h:oO U P tbl may k0 n N ops all V rd (Q .normal) ops.size (Array.replicate ops.size false) fr st):
 (Code.region id ops true).wpIn (WF none) 0 P (jB n (writes (.region id ops true)) a fun x fr' w'=>Aft w0 k0 X0 may st X fr.ds (fun fr' st'=>Q x fr' st') fr' w') a w:=by
 have Tt:=Inv.drew hI
 have hS:Steps w0 k0 X0 may st X st X w.drew:=Steps.refl Tt
 have hv:=Ae (n:=n) (N:=N) (ops:=ops) H8 ops.size (Array.replicate ops.size false) fr st st X X w.drew fr.ds (fun i k=>i∈V∨all=true∨∃id,id∈lU i rd∧id<st.rs.length∧X id k) (fun ha=>⟨fun i id k h1 h2 h3=>.inr (.inr ⟨id,h1,h2,h3⟩),fun i k h=>.inl h,fun i k hi hk=>by
  rcases hk with hk | hk | ⟨id,h1,h2,h3⟩
  ·exact absurd hk hi
  ·rw [ha]at hk;cases hk
  ·refine⟨Tt.sat.lt h2 k h3,fun j hj hx=>?_⟩
   by_cases HT:id=j
   ·rw [← HT];exact h1
   ·exact absurd hx (Tt.sat.dis id j h2 hj HT k h3)⟩) (fun ha i k=>.inr (.inl ha)) hS hk rfl h
 exact wpIn_mono (gj hm kb (fun o ho=>fi IW o (Array.mem_toList_iff.2 ho)) (mY (ws:=writes (.region id ops true)) (a0:=a) (Qp:=none) (M:=fun o ρ w K=>opW P false none o ρ w K) (MS:=MSw P) (fun _ _ _ _ h=>h) (fun _ _ _ _ _ h=>h) hs (fun i o ho d hd=>nJ ho hd) ops.size _ (fun _ _ _=>True) _ fr a w.drew (eK.none _ _) (jC.none _ _) hr (Agr.refl _ _) hv)) fun e a' w' he=>Real.two (iy he)
end
end
section
section
variable {U:Uni} {P:Program} {tbl:Tb U} {may:List Nat} {k0:Nat}
variable {w0:World} {X0 X:Nat→Nat→Prop} {w:World} {fr:Fr} {st:St U} {n:Nat} {N:List Nat} {ops:Array Oper}
theorem sr {T:Type}:∀ {l:List (Nat×Sh2)} {J:SlT l T} {fr:Fr} {F:T→Prop},EE l J fr F→∃J' vs,F J'∧(∀G:T→List (Nat×Value)→Prop,alS l J G→G J' vs)∧∀s v,(s,v)∈vs→lk fr.g s fr.e=v
 | [],J,fr,F,h=>⟨J,[],h,fun G hG=>hG,fun s v hv=>by cases hv⟩
 | (s,sh)::r,J,fr,F,h=>by
  obtain⟨J1,h1,g1⟩:=ql h
  obtain⟨J2,vs,h2,g2,e2⟩:=sr h1
  refine⟨J2,(s,lk fr.g s fr.e)::vs,h2,fun G hG=>g2 (fun J'' vs=>G J'' ((s,lk fr.g s fr.e)::vs)) (g1 (fun J' v=>alS r J' fun J'' vs=>G J'' ((s,v)::vs)) hG),fun s' v hv=>?_⟩
  rcases List.mem_cons.1 hv with e | hv
  ·injection e with e1 e2;rw [e1,e2]
  ·exact e2 s' v hv
def bZ(kn:List (Key×Kn))(id:Nat):Nat→List AV→List Value→Prop
 | _,[],[]=>True
 | i,.v x::r,v::vs=>x=v∧bZ kn id (i+1) r vs
 | i,.k p::r,_::vs=>bI (.c id i) kn=some (.p p)∧bZ kn id (i+1) r vs
 | _,_,_=>False
theorem na {T:Type} {id:Nat} {kn:List (Key×Kn)}:∀ {l:List CS} {J:CST l T} {i:Nat} {vs:List Value} {F:T→Prop},vk id kn l J i vs F→∃J' az,F J'∧(∀G:T→List AV→Prop,BJ l J G→G J' az)∧bZ kn id i az vs∧∀n,fJ n l=true→∀p,AV.k p∈az→p.id<n
 | [],J,i,[],F,h=>⟨J,[],h,fun G hG=>hG,trivial,fun _ _ p hp=>by cases hp⟩
 | [],_,_,_::_,_,h=>h.elim
 | .v _::_,_,_,[],_,h=>h.elim
 | .k _::_,_,_,[],_,h=>h.elim
 | .v s::r,J,i,v::vs,F,h=>by
  obtain⟨J1,h1,g1⟩:=kH h
  obtain⟨J2,az,h2,g2,d2,b2⟩:=na h1
  refine⟨J2,.v v::az,h2,fun G hG=>g2 (fun J'' vs=>G J'' (.v v::vs)) (g1 (fun J' v=>BJ r J' fun J'' l=>G J'' (.v v::l)) hG),⟨rfl,d2⟩,fun n hn p hp=>?_⟩
  rcases List.mem_cons.1 hp with e | hp
  ·cases e
  ·exact b2 n hn p hp
 | .k p::r,J,i,v::vs,F,h=>by
  simp only [vk]at h
  split at h
  ·rename_i q hq
   split at h
   ·rename_i he
    obtain⟨J2,az,h2,g2,d2,b2⟩:=na h
    refine⟨J2,.k p::az,h2,fun G hG=>g2 (fun J'' vs=>G J'' (.k p::vs)) hG,⟨by rw [hq,(Kn.jN he).1],d2⟩,fun n hn p' hp=>?_⟩
    simp only [fJ]at hn
    split at hn
    ·rename_i Ho
     rcases List.mem_cons.1 hp with e | hp
     ·injection e with e;subst e;simpa [Nat.blt_eq]using Ho
     ·exact b2 n hn p' hp
    ·cases hn
   ·exact h.elim
  ·exact h.elim
def UpD(rs:List (Res U))(kn:List (Key×Kn))(id:Nat):UP U→Prop
 | .ob t s=>∃r,nth rs id=some (.ob t r s)
 | .blk az=>∃g cs T,nth rs id=some (.blk g cs T)∧bZ kn id 0 az cs
 | .lst t A c l=>∃own T,nth rs id=some (.lst t own T A c l)
theorem j4 {T:Type} {rs:List (Res U)} {kn:List (Key×Kn)}:∀ {l:List (Nat×RSh)} {J:uF U l T} {F:T→Prop},mq rs kn l J F→∃J' us,F J'∧(∀G:T→List (Nat×UP U)→Prop,zd l J G→G J' us)∧us.map (·.1)=l.map (·.1)∧(∀id u,(id,u)∈us→UpD rs kn id u)∧
 ∀n,cD n l=true→∀id u,(id,u)∈us→id<n∧∀az,u= .blk az→∀p,AV.k p∈az→p.id<n
 | [],J,F,h=>⟨J,[],h,fun G hG=>hG,rfl,fun id u hu=>(by cases hu),fun _ _ id u hu=>by cases hu⟩
 | (id,.ob t)::r,J,F,h=>by
  simp only [mq]at h
  split at h
  ·rename_i t' r' s hn
   split at h
   ·rename_i ht
    subst ht
    obtain⟨J2,us,h2,g2,m2,d2,b2⟩:=j4 h
    refine⟨J2,(id,.ob t' s)::us,h2,fun G hG=>g2 (fun J'' vs=>G J'' ((id,.ob t' s)::vs)) (hG s),by simp [m2],fun i u hu=>?_,fun n hb i u hu=>?_⟩
    ·rcases List.mem_cons.1 hu with e | hu
     ·injection e with e1 e2;subst e1;subst e2;exact⟨r',hn⟩
     ·exact d2 i u hu
    ·simp only [cD]at hb
     split at hb
     ·rename_i Ho
      rcases List.mem_cons.1 hu with e | hu
      ·injection e with e1 e2;subst e1;subst e2;exact⟨by simpa [Nat.blt_eq]using Ho,fun az e=>by cases e⟩
      ·exact b2 n hb i u hu
     ·cases hb
   ·exact h.elim
  ·exact h.elim
 | (id,.blk l)::r,J,F,h=>by
  simp only [mq]at h
  split at h
  ·rename_i g cs T' hn
   obtain⟨J1,az,h1,g1,d1,b1⟩:=na h
   obtain⟨J2,us,h2,g2,m2,d2,b2⟩:=j4 h1
   refine⟨J2,(id,.blk az)::us,h2,fun G hG=>g2 (fun J'' vs=>G J'' ((id,.blk az)::vs)) (g1 (fun J' cs=>zd r J' fun J'' us=>G J'' ((id,.blk cs)::us)) hG),by simp [m2],fun i u hu=>?_,fun n hb i u hu=>?_⟩
   ·rcases List.mem_cons.1 hu with e | hu
    ·injection e with e1 e2;subst e1;subst e2;exact⟨g,cs,T',hn,d1⟩
    ·exact d2 i u hu
   ·simp only [cD]at hb
    split at hb
    ·rename_i Ho
     simp only [Bool.and_eq_true]at Ho
     rcases List.mem_cons.1 hu with e | hu
     ·injection e with e1 e2;subst e1;subst e2
      exact⟨by simpa [Nat.blt_eq]using Ho.1,fun as' e p hp=>by injection e with e;subst e;exact b1 n Ho.2 p hp⟩
     ·exact b2 n hb i u hu
    ·cases hb
  ·exact h.elim
 | (id,.lst t)::r,J,F,h=>by
  simp only [mq]at h
  split at h
  ·rename_i t' own T' A c l hn
   split at h
   ·rename_i ht
    subst ht
    obtain⟨J2,us,h2,g2,m2,d2,b2⟩:=j4 h
    refine⟨J2,(id,.lst t' A c l)::us,h2,fun G hG=>g2 (fun J'' vs=>G J'' ((id,.lst t' A c l)::vs)) (hG A c l),by simp [m2],fun i u hu=>?_,fun n hb i u hu=>?_⟩
    ·rcases List.mem_cons.1 hu with e | hu
     ·injection e with e1 e2;subst e1;subst e2;exact⟨own,T',hn⟩
     ·exact d2 i u hu
    ·simp only [cD]at hb
     split at hb
     ·rename_i Ho
      rcases List.mem_cons.1 hu with e | hu
      ·injection e with e1 e2;subst e1;subst e2;exact⟨by simpa [Nat.blt_eq]using Ho,fun az e=>by cases e⟩
      ·exact b2 n hb i u hu
     ·cases hb
   ·exact h.elim
  ·exact h.elim
theorem rl {f:Nat→Res U→Option (Res U)}:∀ {i:Nat} {l l':List (Res U)},lay f i l=some l'→l'.length=l.length∧∀j r,nth l j=some r→∃r',f (i+j) r=some r'∧nth l' j=some r'
 | i,[],l',h=>by
  simp only [lay,Option.some.injEq]at h
  subst h
  exact⟨rfl,fun j r hr=>by simp [nth]at hr⟩
 | i,r::l,l',h=>by
  simp only [lay]at h
  split at h
  ·rename_i r' l2 h1 h2
   injection h with h
   subst h
   obtain⟨e1,e2⟩:=rl h2
   refine⟨by simp [e1],fun j x hx=>?_⟩
   cases j with
   | zero=>simp [nth]at hx;subst hx;exact⟨r',h1,rfl⟩
   | succ j=>
    obtain⟨y,h3,h4⟩:=e2 j x hx
    exact⟨y,by rw [show i+(j+1)=i+1+j by omega];exact h3,h4⟩
  ·cases h
theorem gk {i:Nat} {u:UP U}:∀ {us:List (Nat×UP U)},ia i us=some u→(i,u)∈us
 | [],h=>by cases h
 | (j,x)::r,h=>by
  unfold ia at h
  split at h
  ·rename_i he
   injection h with h
   rw [← h,Nat.eq_of_beq_eq_true he]
   exact List.mem_cons_self ..
  ·exact List.mem_cons_of_mem _ (gk h)
theorem nb {i:Nat}:∀ {us:List (Nat×UP U)},ia i us=none→i ∉ us.map (·.1)
 | [],_=>by simp
 | (j,x)::r,h=>by
  unfold ia at h
  split at h
  ·cases h
  ·rename_i he
   rw [List.map_cons,List.mem_cons,not_or]
   exact⟨by rintro rfl;simp at he,nb h⟩
theorem ly {kn:List (Key×Kn)} {s:Nat} {k:Kn}:∀ {l:List (Nat×Kn)},xA kn l=true→(s,k)∈l→∃p,k= .p p∧bI (.s s) kn=some (.p p)
 | [],_,h=>by cases h
 | (a,q)::r,h,hm=>by
  simp only [xA]at h
  split at h
  ·rename_i x hx
   split at h
   ·rename_i he
    rcases List.mem_cons.1 hm with e | hm
    ·injection e with e1 e2
     subst e1;subst e2
     obtain⟨e3,p,e4⟩:=Kn.jN he
     exact⟨p,by rw [← e3,e4],by rw [hx,e4]⟩
    ·exact ly h hm
   ·cases h
  ·cases h
theorem gX {m:Nat} {s:Nat} {p:PK}:∀ {l:List (Nat×Kn)},ku m l=true→(s,Kn.p p)∈l→p.id<m
 | [],_,h=>by cases h
 | (a,.p q)::r,h,hm=>by
  simp only [ku]at h
  split at h
  ·rename_i Ho
   rcases List.mem_cons.1 hm with e | hm
   ·injection e with e1 e2;injection e2 with e2;subst e2;simpa [Nat.blt_eq]using Ho
   ·exact gX h hm
  ·cases h
 | (a,.t _)::r,h,_=>by cases h
 | (a,.ag _)::r,h,_=>by cases h
 | (a,.f _ _)::r,h,_=>by cases h
theorem ng {key:Key} {k:Kn}:∀ {l:List (Nat×Kn)},(key,k)∈vt l→∃s,key= .s s∧(s,k)∈l
 | [],h=>by cases h
 | (s,q)::r,h=>by
  rcases List.mem_cons.1 h with e | h
  ·injection e with e1 e2;subst e1;subst e2;exact⟨s,rfl,List.mem_cons_self ..⟩
  ·obtain⟨s',h1,h2⟩:=ng (l:=r) h;exact⟨s',h1,List.mem_cons_of_mem _ h2⟩
theorem dS {rs:List (Res U)} {s:Nat} {v:Value}:∀ {l:List (Nat×Kn)},(s,v)∈iE rs l→∃p,(s,Kn.p p)∈l∧v=(den U rs p).getD undef
 | [],h=>by cases h
 | (a,.p q)::r,h=>by
  rcases List.mem_cons.1 h with e | h
  ·injection e with e1 e2;subst e1;subst e2;exact⟨q,List.mem_cons_self ..,rfl⟩
  ·obtain⟨p,h1,h2⟩:=dS (l:=r) h;exact⟨p,List.mem_cons_of_mem _ h1,h2⟩
 | (a,.t _)::r,h=>by obtain⟨p,h1,h2⟩:=dS (l:=r) h;exact⟨p,List.mem_cons_of_mem _ h1,h2⟩
 | (a,.ag _)::r,h=>by obtain⟨p,h1,h2⟩:=dS (l:=r) h;exact⟨p,List.mem_cons_of_mem _ h1,h2⟩
 | (a,.f _ _)::r,h=>by obtain⟨p,h1,h2⟩:=dS (l:=r) h;exact⟨p,List.mem_cons_of_mem _ h1,h2⟩
 | (a,.pan)::r,h=>by obtain⟨p,h1,h2⟩:=dS (l:=r) h;exact⟨p,List.mem_cons_of_mem _ h1,h2⟩
theorem bZ.ED {kn:List (Key×Kn)} {id:Nat} {V:PK→Value}:∀ {i:Nat} {az:List AV} {vs:List Value},bZ kn id i az vs→(∀j p v,nth az j=some (.k p)→nth vs j=some v→V p=v)→ay (fun a=>match a with | .v x=>x | .k p=>V p) az=vs
 | _,[],[],_,_=>rfl
 | _,[],_::_,h,_=>by simp [bZ]at h
 | _,_::_,[],h,_=>by rename_i a l;cases a<;>simp [bZ]at h
 | i,.v x::r,v::vs,h,hv=>by
  simp only [bZ]at h
  simp only [ay,h.1]
  rw [bZ.ED h.2 fun j p v h1 h2=>hv (j+1) p v h1 h2]
 | i,.k p::r,v::vs,h,hv=>by
  simp only [bZ]at h
  simp only [ay]
  rw [hv 0 p v rfl rfl,bZ.ED h.2 fun j p v h1 h2=>hv (j+1) p v h1 h2]
theorem bZ.kn {kn:List (Key×Kn)} {id:Nat}:∀ {i j:Nat} {az:List AV} {vs:List Value} {p:PK},bZ kn id i az vs→nth az j=some (.k p)→bI (.c id (i+j)) kn=some (.p p)
 | _,_,[],_,_,_,h=>by simp [nth]at h
 | i,0,.v _::_,_::_,_,_,h=>by simp [nth]at h
 | i,0,.k p::r,v::vs,p',hd,h=>by
  simp only [bZ]at hd
  simp only [nth,Option.some.injEq,AV.k.injEq]at h
  subst h
  exact hd.1
 | i,j+1,.v _::r,_::vs,p,hd,h=>by
  simp only [bZ]at hd
  have:=bZ.kn hd.2 (show nth r j=some (.k p)from h)
  rwa [show i+1+j=i+(j+1)by omega]at this
 | i,j+1,.k _::r,_::vs,p,hd,h=>by
  simp only [bZ]at hd
  have:=bZ.kn hd.2 (show nth r j=some (.k p)from h)
  rwa [show i+1+j=i+(j+1)by omega]at this
 | _,_,.v _::_,[],_,hd,_=>by simp [bZ]at hd
 | _,_,.k _::_,[],_,hd,_=>by simp [bZ]at hd
theorem jQ {id:Nat} {key:Key} {k:Kn}:∀ {i:Nat} {l:List CS},(key,k)∈rA id i l→∃j p,key= .c id (i+j)∧k= .p p∧nth l j=some (.k p)
 | _,[],h=>by cases h
 | i,.v _::r,h=>by
  obtain⟨j,p,h1,h2,h3⟩:=jQ (l:=r) h
  exact⟨j+1,p,by rw [h1];congr 1;omega,h2,h3⟩
 | i,.k q::r,h=>by
  rcases List.mem_cons.1 h with e | h
  ·injection e with e1 e2;exact⟨0,q,e1,e2,rfl⟩
  ·obtain⟨j,p,h1,h2,h3⟩:=jQ (l:=r) h
   exact⟨j+1,p,by rw [h1];congr 1;omega,h2,h3⟩
theorem jf {key:Key} {k:Kn}:∀ {l:List (Nat×RSh)},(key,k)∈wZ l→∃id cs j p,(id,RSh.blk cs)∈l∧key= .c id j∧k= .p p∧nth cs j=some (.k p)
 | [],h=>by cases h
 | (id,.blk cs)::r,h=>by
  rcases List.mem_append.1 h with h | h
  ·obtain⟨j,p,h1,h2,h3⟩:=jQ h
   exact⟨id,cs,j,p,List.mem_cons_self ..,by simpa using h1,h2,h3⟩
  ·obtain⟨a,b,c,d,h1,h2⟩:=jf (l:=r) h;exact⟨a,b,c,d,List.mem_cons_of_mem _ h1,h2⟩
 | (id,.ob _)::r,h=>by obtain⟨a,b,c,d,h1,h2⟩:=jf (l:=r) h;exact⟨a,b,c,d,List.mem_cons_of_mem _ h1,h2⟩
 | (id,.lst _)::r,h=>by obtain⟨a,b,c,d,h1,h2⟩:=jf (l:=r) h;exact⟨a,b,c,d,List.mem_cons_of_mem _ h1,h2⟩
theorem qM {T:Type} {id:Nat} {kn:List (Key×Kn)}:∀ {l:List CS} {J:CST l T} {i:Nat} {vs:List Value} {F:T→Prop},vk id kn l J i vs F→(∃J',F J')∧∀j p,nth l j=some (.k p)→bI (.c id (i+j)) kn=some (.p p)
 | [],J,i,[],F,h=>⟨⟨J,h⟩,fun j p hp=>by simp [nth]at hp⟩
 | [],_,_,_::_,_,h=>h.elim
 | .v _::_,_,_,[],_,h=>h.elim
 | .k _::_,_,_,[],_,h=>h.elim
 | .v s::r,J,i,v::vs,F,h=>by
  obtain⟨J1,h1,_⟩:=kH h
  obtain⟨h2,h3⟩:=qM h1
  refine⟨h2,fun j p hp=>?_⟩
  cases j with
  | zero=>simp [nth]at hp
  | succ j=>have:=h3 j p hp;rwa [show i+1+j=i+(j+1)by omega]at this
 | .k q::r,J,i,v::vs,F,h=>by
  simp only [vk]at h
  split at h
  ·rename_i x hx
   split at h
   ·rename_i he
    obtain⟨h2,h3⟩:=qM h
    refine⟨h2,fun j p hp=>?_⟩
    cases j with
    | zero=>simp only [nth,Option.some.injEq,CS.k.injEq]at hp;subst hp;rw [Nat.add_zero,hx,(Kn.jN he).1]
    | succ j=>have:=h3 j p hp;rwa [show i+1+j=i+(j+1)by omega]at this
   ·exact h.elim
  ·exact h.elim
theorem mE {T:Type} {rs:List (Res U)} {kn:List (Key×Kn)}:∀ {l:List (Nat×RSh)} {J:uF U l T} {F:T→Prop},mq rs kn l J F→∀id cs,(id,RSh.blk cs)∈l→∀j p,nth cs j=some (.k p)→bI (.c id j) kn=some (.p p)
 | [],_,_,_,_,_,h=>by cases h
 | (id,.ob t)::r,J,F,h,i,cs,hm=>by
  simp only [mq]at h
  split at h
  ·split at h
   ·exact mE h i cs ((List.mem_cons.1 hm).resolve_left fun e=>by cases e)
   ·exact h.elim
  ·exact h.elim
 | (id,.lst t)::r,J,F,h,i,cs,hm=>by
  simp only [mq]at h
  split at h
  ·split at h
   ·exact mE h i cs ((List.mem_cons.1 hm).resolve_left fun e=>by cases e)
   ·exact h.elim
  ·exact h.elim
 | (id,.blk l)::r,J,F,h,i,cs,hm=>by
  simp only [mq]at h
  split at h
  ·obtain⟨⟨J',h1⟩,h2⟩:=qM h
   intro j p hp
   rcases List.mem_cons.1 hm with e | hm
   ·injection e with e1 e2
    injection e2 with e2
    subst e1;subst e2
    have:=h2 j p hp
    rwa [Nat.zero_add]at this
   ·exact mE h1 i cs hm j p hp
  ·exact h.elim
theorem bQ.Dz {x:Res U} {g:Nat} {cs:List Value} {T:TypeId}(h:bQ x (.blk g cs T)):∃Tw,x= .blk g Tw T∧Tw.length=cs.length:=by
 cases h
 rename_i c hc
 exact⟨c,rfl,hc⟩
theorem tH {ct:vf} {J:JT2 U ct} {stb st':St U} {fr fr':Fr} {a a':Act} {w':World} {X X':Nat→Nat→Prop} {ws:List Nat}(hr:Rep n fr a)(Hk:Rep n fr' a')(HF:Agr ws a a')(Im:nY ct.wr2 ws=true)
 (RM:ar stb.rs fr stb.kn)(Jq:ar st'.rs fr' st'.kn)(hI:Inv w0 k0 X0 may st'.rs X' w')(hlen:stb.rs.length≤st'.rs.length)(hmd:∀i,i<stb.rs.length→i ∉ st'.md→i ∉ ay (·.1) ct.rsh→nth st'.rs i=nth stb.rs i∧X' i=X i)(H0:∀i a,nth stb.rs i=some a→∃b,nth st'.rs i=some b∧bQ a b)(SS:k0≤stb.rs.length)
 (hu:k9 ct stb.rs.length J fr' st') {F:List (Nat×Value)→St U→Prop}(HP:vZ ct J stb fr.e F):
 ∃e Ib,F e Ib∧Rep n ⟨e,fun i=>a'.tmps.getD i undef,fr.ds⟩ a'∧Inv w0 k0 X0 may Ib.rs X' w'∧ar Ib.rs ⟨e,fun i=>a'.tmps.getD i undef,fr.ds⟩ Ib.kn∧Ib.md= []∧Ib.rs.length=stb.rs.length∧(∀i,i<stb.rs.length→i ∉ ay (·.1) ct.rsh→nth Ib.rs i=nth stb.rs i∧X' i=X i)∧∀i a,nth stb.rs i=some a→∃b,nth Ib.rs i=some b∧bQ a b:=by
 unfold k9 at hu
 split at hu
 case h_2=>exact hu.elim
 rename_i Ip
 simp only [Bool.and_eq_true]at Ip
 obtain⟨QZ,QU,QD,Q0⟩:=Ip
 obtain⟨J1,vs,h1,g1,e1⟩:=sr hu
 have MR:=mE h1
 obtain⟨p,us,hp,g2,m2,d2,b2⟩:=j4 h1
 have HP:=g2 _ (g1 _ HP) hp
 split at HP
 case h_2=>exact HP.elim
 rename_i K4 KX
 split at HP
 case h_2=>exact HP.elim
 rename_i HK JX
 obtain⟨l1,f1⟩:=rl KX
 obtain⟨l2,f2⟩:=rl JX
 have Q6:ay (·.1) ct.rsh=us.map (·.1):=by rw [er,m2]
 have r1:∀i x,nth stb.rs i=some x→∃y z,nth K4 i=some y∧nth st'.rs i=some z∧((∀az,ia i us≠some (.blk az))→y=z)∧((∃az,ia i us=some (.blk az))→y=x):=by
  intro i x hx
  obtain⟨y,hy,Su⟩:=f1 i x hx
  rw [Nat.zero_add]at hy
  obtain⟨z,hz,Nc⟩:=H0 i x hx
  refine⟨y,z,Su,hz,?_,?_⟩
  ·intro hnb
   unfold Ff at hy
   cases hg:ia i us with
   | none=>
    rw [hg]at hy
    simp only [Option.some.injEq]at hy
    subst hy
    have NU:=nb hg
    have:i ∉ st'.md:=fun hm=>by
     have:=bD.1 QU i hm
     rw [Q6]at this
     rcases Bool.or_eq_true_iff.1 this with h | h
     ·have:=Nat.le_of_ble_eq_true h;have:=aH hx;omega
     ·exact NU (cV.1 h)
    have h2:=(hmd i (aH hx) this (by rw [Q6];exact NU)).1
    rw [hz,hx]at h2
    injection h2 with h2
    exact h2.symm
   | some u=>
    rw [hg]at hy
    have hd:=d2 i u (gk hg)
    cases u with
    | ob t s=>
     obtain⟨r,hr⟩:=hd
     rw [hz]at hr
     injection hr with hr
     subst hr
     have h2:bU x (.ob t s)=some y:=hy
     cases Nc
     simp only [bU,dif_pos]at h2
     injection h2 with h2
     exact h2.symm
    | blk az=>exact absurd hg (hnb az)
    | lst t A c l=>
     obtain⟨own,T,hr⟩:=hd
     rw [hz]at hr
     injection hr with hr
     subst hr
     have h2:bU x (.lst t A c l)=some y:=hy
     cases Nc
     simp only [bU,dif_pos]at h2
     injection h2 with h2
     exact h2.symm
  ·rintro⟨az,hg⟩
   unfold Ff at hy
   rw [hg]at hy
   simp only [Option.some.injEq]at hy
   exact hy.symm
 have Ji:∀q:PK,q.id<stb.rs.length→den U K4 q=den U st'.rs q:=by
  intro q hq
  obtain⟨x,hx⟩:=bA hq
  obtain⟨y,z,hy,hz,ha,hb⟩:=r1 _ x hx
  unfold den
  rw [hy,hz]
  cases hg:ia q.id us with
  | none=>rw [ha (fun az e=>by rw [hg]at e;cases e)]
  | some u=>
   cases u with
   | ob t s=>rw [ha (fun az e=>by rw [hg]at e;cases e)]
   | lst t A c l=>rw [ha (fun az e=>by rw [hg]at e;cases e)]
   | blk az=>
    have Ss:=hb ⟨az,hg⟩
    subst Ss
    obtain⟨z',JO,Nc⟩:=H0 _ _ hx
    rw [hz]at JO
    injection JO with JO
    subst JO
    obtain⟨g,cs,T,hc,_⟩:=d2 _ _ (gk hg)
    rw [hz]at hc
    injection hc with hc
    subst hc
    cases Nc
    cases q<;>rfl
 have r2:∀i,i<stb.rs.length→nth HK i=nth st'.rs i:=by
  intro i hi
  obtain⟨x,hx⟩:=bA hi
  obtain⟨y,z,hy,hz,ha,hb⟩:=r1 i x hx
  obtain⟨v,hv,KI⟩:=f2 i y hy
  rw [Nat.zero_add]at hv
  rw [KI,hz]
  unfold Gc at hv
  cases hg:ia i us with
  | none=>
   rw [hg]at hv
   simp only [Option.some.injEq]at hv
   rw [← hv,ha (fun az e=>by rw [hg]at e;cases e)]
  | some u=>
   rw [hg]at hv
   cases u with
   | ob t s=>simp only [Option.some.injEq]at hv;rw [← hv,ha (fun az e=>by rw [hg]at e;cases e)]
   | lst t A c l=>simp only [Option.some.injEq]at hv;rw [← hv,ha (fun az e=>by rw [hg]at e;cases e)]
   | blk az=>
    have Ss:=hb ⟨az,hg⟩
    subst Ss
    obtain⟨z',JO,Nc⟩:=H0 _ _ hx
    rw [hz]at JO
    injection JO with JO
    subst JO
    obtain⟨g,cs,T,hc,hcd⟩:=d2 _ _ (gk hg)
    rw [hz]at hc
    injection hc with hc
    subst hc
    have Rg:=(b2 _ QD _ _ (gk hg)).2 az rfl
    have N4:ay (gD K4) az=cs:=by
     have:=hcd.ED (V:=fun p=>(den U K4 p).getD undef) (fun j p v hj hv=>by
      have hk:=hcd.kn hj
      obtain⟨g',cs',T',u,q1,q2,q3⟩:=Jq.get hk
      rw [hz]at q1
      injection q1 with q1
      injection q1 with _ q1 _
      subst q1
      rw [Nat.zero_add]at q2
      rw [hv]at q2
      injection q2 with q2
      subst q2
      have q3:den U st'.rs p=some v:=q3
      rw [Ji p (Rg p (eO hj)),q3]
      rfl)
     have e:(fun a=>match a with | .v x=>x | .k p=>(den U K4 p).getD undef)=gD K4:=by funext a;cases a<;>rfl
     rw [e]at this
     exact this
    have hv:bU y (.blk (ay (gD K4) az))=some v:=hv
    rw [N4]at hv
    obtain⟨Tw,rfl,hle⟩:=Nc.Dz
    simp only [bU,hle,Nat.beq_refl]at hv
    exact hv.symm
 have QV:HK.length=stb.rs.length:=by rw [l2,l1]
 have L6:∀q:PK,q.id<stb.rs.length→den U HK q=den U st'.rs q:=fun q hq=>by unfold den;rw [r2 _ hq]
 obtain⟨KL,IJ⟩:=lD Im
 have Jv:∀s v,(s,v)∈vs++iE HK ct.kns→lk fr'.g s fr'.e=v:=by
  intro s v hm
  rcases List.mem_append.1 hm with hm | hm
  ·exact e1 s v hm
  ·obtain⟨q,hq,rfl⟩:=dS hm
   obtain⟨q',QH,hg⟩:=ly QZ hq
   injection QH with QH
   subst QH
   have:den U st'.rs q=some (lk fr'.g s fr'.e):=Jq.get hg
   rw [L6 q (gX Q0 hq),this]
   rfl
 have Jh:Rep n ⟨vs++iE HK ct.kns++forget ct.wr2 fr.e,fun i=>a'.tmps.getD i undef,fr.ds⟩ a':=qR hr Hk (HF.mono KL) IJ Jv
 have RL:∀i,lk (fun i=>a'.tmps.getD i undef) i (vs++iE HK ct.kns++forget ct.wr2 fr.e)=lk fr'.g i fr'.e:=fun i=>by rw [← Hk.get];exact(Jh.get i).symm
 have Il:∀i,i<stb.rs.length→i ∉ ay (·.1) ct.rsh→nth HK i=nth stb.rs i∧X' i=X i:=by
  intro i hi NU
  rw [r2 i hi]
  refine hmd i hi (fun hm=>?_) NU
  have:=bD.1 QU i hm
  rcases Bool.or_eq_true_iff.1 this with h | h
  ·have:=Nat.le_of_ble_eq_true h;omega
  ·exact NU (cV.1 h)
 have LW:∀i a,nth stb.rs i=some a→∃b,nth HK i=some b∧bQ a b:=by
  intro i x hx
  obtain⟨z,hz,Nc⟩:=H0 i x hx
  exact⟨z,by rw [r2 i (aH hx)];exact hz,Nc⟩
 have hIt:Inv w0 k0 X0 may HK X' w':=hI.Eg (by omega) (fun i hi=>r2 i (by omega)) (by omega)
 have HP:=gz (fun r hr=>by
  obtain⟨i,hi⟩:=nr hr
  exact⟨_,_,hIt.sat.res i r hi⟩) HP
 refine⟨_,_,HP,Jh,hIt,?_,rfl,QV,Il,LW⟩
 refine ar.app ?_ (ar.app ?_ ?_)
 ·intro key k hm
  obtain⟨s,rfl,hs⟩:=ng hm
  obtain⟨q,rfl,hg⟩:=ly QZ hs
  show den U HK q=some (lk _ s _)
  rw [RL,L6 q (gX Q0 hs)]
  exact Jq.get hg
 ·intro key k hm
  obtain⟨id,cs,j,q,h3,rfl,rfl,h5⟩:=jf hm
  have hg:=MR id cs h3 j q h5
  obtain⟨g,cs',T,v,q1,q2,q3⟩:=Jq.get hg
  have Ma:id<stb.rs.length∧q.id<stb.rs.length:=by
   have key:∀(l:List (Nat×RSh)),cD stb.rs.length l=true→(id,RSh.blk cs)∈l→id<stb.rs.length∧fJ stb.rs.length cs=true:=by
    intro l
    induction l with
    | nil=>intro _ h;cases h
    | cons x r ih=>
     intro hb hm
     obtain⟨i,x⟩:=x
     cases x with
     | ob t=>
      simp only [cD]at hb
      split at hb
      ·exact ih hb ((List.mem_cons.1 hm).resolve_left fun e=>by cases e)
      ·cases hb
     | lst t=>
      simp only [cD]at hb
      split at hb
      ·exact ih hb ((List.mem_cons.1 hm).resolve_left fun e=>by cases e)
      ·cases hb
     | blk l=>
      simp only [cD]at hb
      split at hb
      ·rename_i Ho
       simp only [Bool.and_eq_true]at Ho
       rcases List.mem_cons.1 hm with e | hm
       ·injection e with e1 e2;injection e2 with e2;subst e1;subst e2
        exact⟨by simpa [Nat.blt_eq]using Ho.1,Ho.2⟩
       ·exact ih hb hm
      ·cases hb
   obtain⟨h6,h7⟩:=key ct.rsh QD h3
   refine⟨h6,?_⟩
   have key2:∀(l:List CS)(j:Nat),fJ stb.rs.length l=true→nth l j=some (.k q)→q.id<stb.rs.length:=by
    intro l
    induction l with
    | nil=>intro j _ h;simp [nth]at h
    | cons x r ih=>
     intro j hb hj
     cases x with
     | v s=>
      cases j with
      | zero=>simp [nth]at hj
      | succ j=>exact ih j hb hj
     | k p'=>
      simp only [fJ]at hb
      split at hb
      ·rename_i Ho
       cases j with
       | zero=>simp only [nth,Option.some.injEq,CS.k.injEq]at hj;subst hj;simpa [Nat.blt_eq]using Ho
       | succ j=>exact ih j hb hj
      ·cases hb
   exact key2 cs j h7 h5
  exact⟨g,cs',T,v,by rw [r2 id Ma.1];exact q1,q2,by show den U HK q=_;rw [L6 q Ma.2];exact q3⟩
 ·have LY:=ar.cQ (M:=ay (·.1) ct.rsh) RM (rs':=HK) (fun i hi hm=>(Il i hi hm).1) (fun i _ x hx=>LW i x hx)
  intro key k hm
  obtain⟨Nh,Jo⟩:=cq hm
  have h0:=LY key k Nh
  cases key with
  | s i=>
   have NU:i ∉ ct.wr2:=by
    intro hh
    have Jo:(!iC i ct.wr2)=true:=Jo
    rw [cV.2 hh]at Jo
    cases Jo
   show fz HK (lk _ i _) k
   have:lk (fun i=>a'.tmps.getD i undef) i (vs++iE HK ct.kns++forget ct.wr2 fr.e)=lk fr.g i fr.e:=by
    rw [RL,← Hk.get,← hr.get]
    exact HF.tmps i fun hi=>NU (KL i hi)
   rw [this]
   exact h0
  | c id off=>exact h0
  | l id path=>exact h0
end
end
section
section
variable {U:Uni} {P:Program} {tbl:Tb U} {may:List Nat} {k0:Nat}
variable {w0:World} {X0 X:Nat→Nat→Prop} {w:World} {fr:Fr} {st:St U} {n:Nat} {N:List Nat} {ops:Array Oper}
theorem Steps.back {LH:St U} {X':Nat→Nat→Prop} {w':World}(h:Steps w0 k0 X0 may {st with md:= []} X LH X' w'):Steps w0 k0 X0 may st X (gW U LH st.md) X' w':=by
 obtain⟨a,b,⟨L,h1,h2,h3⟩,d⟩:=h
 refine⟨a,b,⟨L,?_,h2,h3⟩,d⟩
 show LH.md++st.md=L++st.md
 rw [h1];simp
theorem AO {s j:Nat} {st st':St U} {X:Nat→Nat→Prop}(h:vF k0 s j st=some st')(hI:Inv w0 k0 X0 may st.rs X w)(hk:ar st.rs fr st.kn):∃X',Steps w0 k0 X0 may st X st' X' w∧ar st'.rs fr st'.kn:=by
 unfold vF at h
 split at h
 ·rename_i i Ik
  split at h
  ·injection h with h;subst h;exact⟨X,Steps.refl hI,hk⟩
  ·rename_i HN
   have HN:i≠j:=fun e=>by rw [e,Nat.beq_refl]at HN;cases HN
   split at h
   ·rename_i t T A c l t' T' A' c' l' hi hj
    split at h
    ·rename_i hb
     injection h with h;subst h
     simp only [Bool.and_eq_true]at hb
     obtain⟨⟨b1,b2⟩,b3,b4⟩:=hb
     obtain rfl:=Nat.eq_of_beq_eq_true b3
     obtain rfl:=Nat.eq_of_beq_eq_true b4
     have b1:=Nat.le_of_ble_eq_true b1
     have b2:=Nat.le_of_ble_eq_true b2
     have li:=aH hi
     have lj:=aH hj
     have nj:nth (bh (bh st.rs j (.lst t true T A c l)) i (.lst t true T none 0 [])) j=some (.lst t true T A c l):=by
      rw [aJ,if_neg (by rintro⟨e,_⟩;exact HN e.symm),aJ,if_pos ⟨rfl,lj⟩]
     have ni:nth (bh (bh st.rs j (.lst t true T A c l)) i (.lst t true T none 0 [])) i=some (.lst t true T none 0 []):=by
      rw [aJ,if_pos ⟨rfl,by rw [nq];exact li⟩]
     have no:∀k,k≠i→k≠j→nth (bh (bh st.rs j (.lst t true T A c l)) i (.lst t true T none 0 [])) k=nth st.rs k:=fun k h1 h2=>by
      rw [aJ,if_neg (fun e=>h1 e.1),aJ,if_neg (fun e=>h2 e.1)]
     have mem:∀k,k∈ [i,j]→k=i∨k=j:=by simp
     have xi:gQ (gQ X j (X i)) i (fun _=>False) i=fun _=>False:=updX_eq ..
     have xj:gQ (gQ X j (X i)) i (fun _=>False) j=X i:=by rw [fD _ _ (Ne.symm HN),updX_eq]
     have xo:∀k,k ∉ [i,j]→gQ (gQ X j (X i)) i (fun _=>False) k=X k:=fun k hk=>by
      have:k≠i∧k≠j:=by simpa using hk
      rw [fD _ _ this.1,fD _ _ this.2]
     have hlen:(bh (bh st.rs j (Res.lst t true T A c l)) i (.lst t true T none 0 [])).length=st.rs.length:=by simp
     have H0:∀k a,nth st.rs k=some a→∃b,nth (bh (bh st.rs j (.lst t true T A c l)) i (.lst t true T none 0 [])) k=some b∧bQ a b:=fun k a ha=>by
      by_cases e1:k=i
      ·subst e1;rw [hi]at ha;injection ha with ha;subst ha;exact⟨_,ni,bQ.lst ..⟩
      by_cases e2:k=j
      ·subst e2;rw [hj]at ha;injection ha with ha;subst ha;exact⟨_,nj,bQ.lst ..⟩
      exact⟨a,by rw [no k e1 e2];exact ha,bQ.refl a⟩
     refine⟨gQ (gQ X j (X i)) i (fun _=>False),⟨?_,by rw [hlen];exact Nat.le_refl _,⟨[i,j],rfl,fun k hk=>.inr (by rcases mem k hk with rfl | rfl<;>assumption),fun k _ hk=>⟨no k (fun e=>hk (by simp [e])) (fun e=>hk (by simp [e])),xo k hk⟩⟩,H0⟩,?_⟩
     ·obtain⟨sat,ch,old,new,len⟩:=hI
      have sub:∀k,k<st.rs.length→∀b,gQ (gQ X j (X i)) i (fun _=>False) k b→(k=j∧X i b)∨(k≠j∧k≠i∧X k b):=fun k _ b hb=>by
       by_cases e1:k=i
       ·subst e1;rw [xi]at hb;exact hb.elim
       by_cases e2:k=j
       ·subst e2;rw [xj]at hb;exact .inl ⟨rfl,hb⟩
       rw [xo k (by simp [e1,e2])]at hb;exact .inr ⟨e2,e1,hb⟩
      refine⟨⟨fun k r hr=>?_,fun a b ha hb K8 k hka RM=>?_⟩,ch,fun k Jq b hb=>?_,fun k h1 h2 b hb=>?_,by rw [hlen];exact len⟩
      ·by_cases e1:k=i
       ·subst e1;rw [ni]at hr;injection hr with hr;subst hr;rw [xi]
        exact(⟨Own.nil,fun k hk=>hk.elim⟩:RS (fun _=>False) w (.lst t true T none 0 []:Res U))
       by_cases e2:k=j
       ·subst e2;rw [nj]at hr;injection hr with hr;subst hr;rw [xj];exact sat.res i _ hi
       rw [no k e1 e2]at hr;rw [xo k (by simp [e1,e2])];exact sat.res k r hr
      ·rw [hlen]at ha hb
       rcases sub a ha k hka with⟨rfl,h1⟩ | ⟨h0,h00,h1⟩
       ·rcases sub b hb k RM with⟨rfl,h2⟩ | ⟨_,h3,h2⟩
        ·exact K8 rfl
        ·exact sat.dis i b li hb (Ne.symm h3) k h1 h2
       ·rcases sub b hb k RM with⟨rfl,h2⟩ | ⟨_,h3,h2⟩
        ·exact sat.dis a i ha li h00 k h1 h2
        ·exact sat.dis a b ha hb K8 k h1 h2
      ·rw [xo k (by simp;omega)]at hb;exact old k Jq b hb
      ·rw [hlen]at h2
       rcases sub k h2 b hb with⟨rfl,h⟩ | ⟨_,_,h⟩
       ·exact new i b1 li b h
       ·exact new k h1 h2 b h
     ·have all:∀ {P:Key×Kn→Prop} {x:Key×Kn} {l:List (Key×Kn)},P x→(∀y,y∈l→P y)→∀y,y∈x::l→P y:=fun h1 h2 y hy=>(List.mem_cons.1 hy).elim (fun e=>e▸h1) (h2 y)
      refine fun key k hm=>all (P:=fun x=>cP _ fr x.1 x.2) ?_ ?_ (key,k) hm
      ·have h0:den U st.rs (.sl i 0)=some (lk fr.g s fr.e):=hk.get Ik
       show den U _ (.sl j 0)=some (lk fr.g s fr.e)
       rw [← h0]
       simp only [den,PK.id,nj,hi,bm,eP]
      ·have:=hk.cQ (M:= [i,j]) (rs':=bh (bh st.rs j (.lst t true T A c l)) i (.lst t true T none 0 [])) (fun k _ hk=>no k (fun e=>hk (by simp [e])) (fun e=>hk (by simp [e]))) (fun k _ a ha=>H0 k a ha)
       exact fun x hx=>this x.1 x.2 hx
    ·cases h
   ·cases h
 ·cases h
theorem ze {key:Key} {tt:Nat} {T:TypeId} {st:St U} {X:Nat→Nat→Prop}(hv:py fr st key=some (.slice none 0 0))(hI:Inv w0 k0 X0 may st.rs X w)(hk:ar st.rs fr st.kn):∃X',Steps w0 k0 X0 may st X ⟨st.rs++ [.lst tt true T none 0 []],(key,.p (.sl st.rs.length 0))::cT (fun a _=>!(a.eq key)) st.kn,st.md⟩ X' w∧ar (st.rs++ [.lst tt true T none 0 []]) fr ((key,.p (.sl st.rs.length 0))::cT (fun a _=>!(a.eq key)) st.kn):=by
 have JG:RS (fun _=>False) w (.lst tt true T none 0 []:Res U):=⟨Own.nil,fun k hk=>hk.elim⟩
 have Jp:nth (st.rs++ [Res.lst tt true T none 0 []]) st.rs.length=some (.lst tt true T none 0 []):=th
 have hI2:=hI.more (Ch.refl _ _) JG (fun k hk=>hk.elim)
 have HM:=mK hk (Res.lst tt true T none 0 [])
 have hd:den U (st.rs++ [Res.lst tt true T none 0 []]) (.sl st.rs.length 0)=some (.slice none 0 0):=by
  simp only [den,PK.id,Jp,bm,eP,List.length_nil]
 refine⟨gQ X st.rs.length fun _=>False,⟨hI2,by simp,⟨[],rfl,fun i hi=>(by cases hi),fun i hi _=>⟨by show nth (st.rs++_) i=_;rw [aO,if_pos hi],fD _ _ (by omega)⟩⟩,fun i a ha=>⟨a,by show nth (st.rs++_) i=_;rw [aO,if_pos (aH ha)];exact ha,bQ.refl a⟩⟩,?_⟩
 intro key' k hm
 rcases List.mem_cons.1 hm with e | hm
 ·injection e with e1 e2
  subst e1;subst e2
  cases key' with
  | s i=>
   simp only [py,Option.some.injEq]at hv
   show den U _ _=some (lk fr.g i fr.e)
   rw [hv];exact hd
  | c id off=>
   simp only [py]at hv
   split at hv
   ·rename_i g cs T' hn
    exact⟨g,cs,T',_,by rw [aO,if_pos (aH hn)];exact hn,hv,hd⟩
   ·cases hv
  | l id path=>simp only [py,reduceCtorEq]at hv
 ·exact HM _ _ (cq hm).1
theorem fq:∀ {l:List (Key×Nat×TypeId)} {st:St U} {X:Nat→Nat→Prop} {F:St U→Prop},g7 k0 fr l st F→Inv w0 k0 X0 may st.rs X w→ar st.rs fr st.kn→∃st' X',F st'∧Steps w0 k0 X0 may st X st' X' w∧ar st'.rs fr st'.kn
 | [],st,X,F,h,hI,hk=>⟨st,X,h,Steps.refl hI,hk⟩
 | (key,tt,T)::r,st,X,F,h,hI,hk=>by
  have old:(match py fr st key with
   | some (.slice none 0 0)=>g7 k0 fr r ⟨st.rs++ [.lst tt true T none 0 []],(key,.p (.sl st.rs.length 0))::cT (fun a _=>!(a.eq key)) st.kn,st.md⟩ F
   | _=>False)→∃st' X',F st'∧Steps w0 k0 X0 may st X st' X' w∧ar st'.rs fr st'.kn:=fun h=>by
   split at h
   ·rename_i hv
    obtain⟨X1,h1,h2⟩:=ze (tt:=tt) (T:=T) hv hI hk
    obtain⟨st',X',hF,h3,h4⟩:=fq h h1.inv h2
    exact⟨st',X',hF,h1.trans h3,h4⟩
   ·exact h.elim
  cases key with
  | s s=>
   cases hb:Nat.ble 1000 tt with
   | true=>
    simp only [g7,hb]at h
    unfold wW at h
    split at h
    ·obtain⟨hd,h⟩:=h
     have HM:ar st.rs fr ((.s s,.p (.sl (tt - 1000) 0))::st.kn):=fun key k hm=>by
      rcases List.mem_cons.1 hm with e | hm
      ·injection e with e1 e2
       subst e1;subst e2
       exact hd
      ·exact hk key k hm
     obtain⟨st',X',hF,h3,h4⟩:=fq h hI HM
     exact⟨st',X',hF,⟨h3.inv,h3.len,h3.md,h3.root⟩,h4⟩
    ·split at h
     ·rename_i LH hm
      obtain⟨X1,h1,h2⟩:=AO hm hI hk
      obtain⟨st',X',hF,h3,h4⟩:=fq h h1.inv h2
      exact⟨st',X',hF,h1.trans h3,h4⟩
     ·exact h.elim
   | false=>simp only [g7,hb]at h;exact old h
  | c id off=>cases hb:Nat.ble 1000 tt<;>simp only [g7,hb]at h<;>exact old h
  | l id path=>cases hb:Nat.ble 1000 tt<;>simp only [g7,hb]at h<;>exact old h
theorem EC {c:Code} {Q:QF2 U} {a:Act} {st':St U} {X':Nat→Nat→Prop} {ws:List Nat}(hS:Steps w0 k0 X0 may st X st' X' w)(h:c.wpIn (WF none) 0 P (jB n ws a fun x HY w2=>Aft w0 k0 X0 may st' X' fr.ds (fun fr' st'=>Q x fr' st') HY w2) a w):
 c.wpIn (WF none) 0 P (jB n ws a fun x HY w2=>Aft w0 k0 X0 may st X fr.ds (fun fr' st'=>Q x fr' st') HY w2) a w:=by
 refine wpIn_mono h fun x a' w' he=>?_
 cases x
 case outgrown=>exact he
 all_goals
  obtain⟨fr',Hk,hq,HF⟩:=he
  exact⟨fr',Hk,hq.pre hS,HF⟩
theorem zf {c:Code} {an:An} {V:QF2 U→Fr→St U→Prop}(h:ov U P may k0 w0 X0 n c V):ov U P may k0 w0 X0 n c fun Q fr st=>mW U k0 an Q fr st fun Q st=>V Q fr st:=by
 intro Q fr st X a w hr hI hk hv
 simp only [mW]at hv
 obtain⟨st',X',hv,h1,h2⟩:=fq hv hI hk
 refine wpIn_mono (h Q fr st' X' a w hr h1.inv h2 hv) fun x a' w' he=>?_
 cases x
 case outgrown=>exact he
 all_goals
  obtain⟨fr',Hk,hq,HF⟩:=he
  exact⟨fr',Hk,hq.pre h1,HF⟩
theorem dV {c:Code} {an:An} {V:QF2 U→Fr→St U→Prop}(h:ov U P may k0 w0 X0 n c V):ov U P may k0 w0 X0 n c fun Q fr st=>eX U may k0 c an Q fr st fun Q st=>V Q fr st:=by
 refine zf (V:=fun Q fr st=>mV U may k0 c an Q fr st fun Q st=>V Q fr st) ?_
 intro Q fr st X a w hr hI hk hv
 simp only [mV]at hv
 split at hv
 ·exact h Q fr st X a w hr hI hk hv
 ·rename_i ct hct
  split at hv
  ·rename_i Im
   simp only [Bool.and_eq_true]at Im
   obtain⟨Im,HO⟩:=Im
   obtain⟨J,h1,h2⟩:=hv
   have Ow:=h _ fr {st with md:= []} X a w hr hI hk h1
   refine wpIn_mono Ow fun x a' w' he=>?_
   have other:∀fr',(Aft w0 k0 X0 may {st with md:= []} X fr.ds (fun fr' st'=>Q x fr' (gW U st' st.md)) fr' w')→Aft w0 k0 X0 may st X fr.ds (fun fr' st'=>Q x fr' st') fr' w':=by
    rintro fr' ⟨st',X',g1,g2,g3,g4⟩
    exact⟨gW U st' st.md,X',g1.back,g2,g3,g4⟩
   cases x
   case normal=>
    obtain⟨fr',Hk,⟨st',X',g1,g2,g3,g4⟩,HF⟩:=he
    obtain⟨L,hL,cL,hl⟩:=g1.md
    have hL:st'.md=L:=by rw [hL];simp
    obtain⟨e,Ib,f1,f2,f3,f4,f5,f6,f7,f8⟩:=tH (stb:=st) (X:=X) hr Hk HF Im hk g2 g1.inv g1.len (fun i hi hm _=>hl i hi (by rw [← hL];exact hm)) g1.root hI.len g4 (h2 _)
    refine⟨_,f2,⟨gW U Ib (ay (·.1) ct.rsh++st.md),X',⟨f3,by show st.rs.length≤Ib.rs.length;omega,⟨ay (·.1) ct.rsh,?_,fun i hi=>ez (bD.1 HO i hi),f7⟩,f8⟩,f4,rfl,f1⟩,HF⟩
    show Ib.md++(ay (·.1) ct.rsh++st.md)=_
    rw [f5];rfl
   case outgrown=>exact he
   all_goals
    obtain⟨fr',Hk,hq,HF⟩:=he
    exact⟨fr',Hk,other fr' hq,HF⟩
  ·exact hv.elim
theorem cC(H8:∀f c,tbl.c f=some c→LV U P f c∧bo P f=true)(hm:P.follows .mixedOrders=true):∀(c:Code)(an:An),ov U P may k0 w0 X0 n c (fun Q fr st=>gN U P tbl may k0 n N c an Q fr st)
 | .skip,an=>fun Q fr st X a w hr hI hk hv=>wpIn_skip ⟨fr,hr,⟨st,X,Steps.refl hI,hk,rfl,hv⟩,Agr.refl _ _⟩
 | .region id ops false,an=>dV (c:= .region id ops false) (V:=fun Q fr st=>yc U P tbl may k0 n N ops (Q .normal) (fun ch=>Q (.panic ch)) ops.toList fr st) fun Q fr st X a w hr hI hk hv=>oR H8 hr hI hk hv
 | .region id ops true,an=>dV (c:= .region id ops true) (V:=fun Q fr st=>match Region.noSelect ops,cE ops.toList with
  | true,true=>oO U P tbl may k0 n N ops (iK P ops.toList) an.V an.rd (Q .normal) ops.size (Array.replicate ops.size false) fr st
  | _,_=>False) fun Q fr st X a w hr hI hk hv=>by
  dsimp only at hv
  split at hv
  ·rename_i hs IW
   exact qT H8 hm hs IW hr hI hk hv
  ·exact hv.elim
 | .seq x y,an=>dV (c:= .seq x y) (V:=fun Q fr st=>gN U P tbl may k0 n N x an.l (fun e fr' st'=>match e with | .normal=>gN U P tbl may k0 n N y an.r Q fr' st' | e=>Q e fr' st') fr st) fun Q fr st X a w hr hI hk hv=>by
  refine wpIn_seq (wpIn_mono (cC H8 hm x an.l _ fr st X a w hr hI hk hv) fun e a' w' he=>?_)
  cases e
  case normal=>
   obtain⟨fr',Hk,⟨st',X',g1,g2,g3,g4⟩,HF⟩:=he
   refine wpIn_mono (cC H8 hm y an.r Q fr' st' X' a' w' Hk g1.inv g2 g4) fun e a2 w2 he=>?_
   cases e<;>first
    | exact he.elim
    | (obtain⟨HY,h1,h2,h3⟩:=he
       exact⟨HY,h1,g3▸h2.pre g1,(HF.mono fun i hi=>List.mem_append_left _ hi).trans (h3.mono fun i hi=>List.mem_append_right _ hi)⟩)
  all_goals first
   | exact he.elim
   | (obtain⟨HY,h1,h2,h3⟩:=he
      exact⟨HY,h1,h2,h3.mono fun i hi=>List.mem_append_left _ hi⟩)
 | .cond c x y,an=>dV (c:= .cond c x y) (V:=fun Q fr st=>match ev fr c with
  | .bool b=>split b (gN U P tbl may k0 n N x an.l Q fr st) (gN U P tbl may k0 n N y an.r Q fr st)
  | _=>False) fun Q fr st X a w hr hI hk hv=>by
  dsimp only at hv
  split at hv
  ·rename_i b hb
   rw [← hr.eval]at hb
   rcases dQ hv with⟨rfl,KI⟩ | ⟨rfl,KI⟩
   ·exact wpIn_cond_true hb (wpIn_mono (cC H8 hm x an.l Q fr st X a w hr hI hk KI) fun e a' w' he=>he.mono (fun i hi=>List.mem_append_left _ hi) (fun _ _ _ h=>h))
   ·exact wpIn_cond_false hb (wpIn_mono (cC H8 hm y an.r Q fr st X a w hr hI hk KI) fun e a' w' he=>he.mono (fun i hi=>List.mem_append_right _ hi) (fun _ _ _ h=>h))
  ·exact hv.elim
 | .block id c,an=>dV (c:= .block id c) (V:=fun Q fr st=>gN U P tbl may k0 n N c an.l (fun e fr' st'=>match e with
  | .exit id'=>(match Nat.beq id' id with | true=>Q .normal fr' st' | false=>Q (.exit id') fr' st')
  | e=>Q e fr' st') fr st) fun Q fr st X a w hr hI hk hv=>by
  refine wpIn_block (wpIn_mono (cC H8 hm c an.l _ fr st X a w hr hI hk hv) fun e a' w' he=>?_)
  cases e
  case exit id'=>
   obtain⟨fr',Hk,hq,HF⟩:=he
   simp only [Exit.inBlock]
   split
   ·rename_i hi
    subst hi
    exact⟨fr',Hk,hq.mono fun fr st JF=>(by dsimp only at JF;rw [Nat.beq_refl]at JF;exact JF),HF⟩
   ·rename_i hi
    refine⟨fr',Hk,hq.mono fun fr st JF=>?_,HF⟩
    dsimp only at JF
    split at JF
    ·rename_i hb;exact absurd (Nat.eq_of_beq_eq_true hb) hi
    ·exact JF
  all_goals exact he
 | .loop c,an=>fun Q fr st00 X00 a w hr Ts SR hv=>by
  simp only [gN,mW]at hv
  obtain⟨st,X,hv,Rp,hk⟩:=fq hv Ts SR
  have hI:=Rp.inv
  refine EC Rp ?_
  split at hv
  ·exact hv.elim
  ·rename_i ct hct
   split at hv
   ·rename_i Im
    simp only [Bool.and_eq_true]at Im
    obtain⟨Im,HO⟩:=Im
    obtain⟨I,⟨m0,h0⟩,I3⟩:=hv
    refine jZ (fun m a' w'=>∃fr' st' X',Rep n fr' a'∧(Inv w0 k0 X0 may st'.rs X' w'∧st.rs.length≤st'.rs.length∧(∀i,i<st.rs.length→i ∉ st'.md→i ∉ ay (·.1) ct.rsh→nth st'.rs i=nth st.rs i∧X' i=X i)∧∀i a,nth st.rs i=some a→∃b,nth st'.rs i=some b∧bQ a b)∧ar st'.rs fr' st'.kn∧k9 ct st.rs.length (I m) fr' st'∧Agr (writes c) a a') m0 ⟨fr,{st with md:= []},X,hr,⟨hI,Nat.le_refl _,fun _ _ _ _=>⟨rfl,rfl⟩,fun i a ha=>⟨a,ha,bQ.refl a⟩⟩,hk,h0,Agr.refl _ _⟩ ?_
    rintro m a1 w1 ⟨fr1,LH,X1,MP,⟨Jy,MO,NO,hs4⟩,II,hu,HF⟩
    obtain⟨e,Ib,f1,f2,f3,f4,f5,f6,f7,f8⟩:=tH (stb:=st) (X:=X) hr MP HF Im hk II Jy MO NO hs4 hI.len hu (I3 m _)
    refine wpIn_mono (cC H8 hm c an.l _ _ Ib X1 a1 w1 f2 f3 f4 f1) fun x a' w' he=>?_
    have join:∀ {KD:St U} {X3:Nat→Nat→Prop},Steps w0 k0 X0 may Ib X1 KD X3 w'→∃L3,KD.md=L3∧(∀i,i∈L3→i∈may∨k0≤i)∧∀i,i<st.rs.length→i ∉ L3→i ∉ ay (·.1) ct.rsh→nth KD.rs i=nth st.rs i∧X3 i=X i:=by
     intro KD X3 NO
     obtain⟨L3,Rq,Tx,K6⟩:=NO.md
     refine⟨L3,by rw [Rq,f5];simp,Tx,fun i hi hn Mq=>?_⟩
     obtain⟨e1,e2⟩:=K6 i (by omega) hn
     obtain⟨e3,e4⟩:=f7 i hi Mq
     exact⟨e1.trans e3,e2.trans e4⟩
    have rootj:∀ {KD:St U} {X3:Nat→Nat→Prop},Steps w0 k0 X0 may Ib X1 KD X3 w'→∀i a,nth st.rs i=some a→∃b,nth KD.rs i=some b∧bQ a b:=by
     intro KD X3 NO i x hx
     obtain⟨b,hb,hr⟩:=f8 i x hx
     obtain⟨c',N5,Hk⟩:=NO.root i b hb
     exact⟨c',N5,hr.trans Hk⟩
    have out:∀ {K:Fr→St U→Prop} {fr':Fr},Aft w0 k0 X0 may Ib X1 fr.ds (fun fr' st'=>K fr' (gW U st' (ay (·.1) ct.rsh++st.md))) fr' w'→Aft w0 k0 X0 may st X fr.ds K fr' w':=by
     rintro K fr' ⟨KD,X3,g1,g2,g3,g4⟩
     obtain⟨L3,Rq,Tx,K6⟩:=join g1
     refine⟨gW U KD (ay (·.1) ct.rsh++st.md),X3,⟨g1.inv,?_,⟨L3++ay (·.1) ct.rsh,?_,fun i hi=>(List.mem_append.1 hi).elim (Tx i) (fun hi=>ez (bD.1 HO i hi)),fun i hi hn=>?_⟩,fun i x hx=>rootj g1 i x hx⟩,g2,g3,g4⟩
     ·show st.rs.length≤KD.rs.length
      have:=g1.len;omega
     ·show KD.md++(_++_)=_
      rw [Rq,List.append_assoc]
     ·rw [List.mem_append,not_or]at hn
      exact K6 i hi hn.1 hn.2
    cases x
    case normal=>
     obtain⟨fr',Hk,⟨KD,X3,g1,g2,g3,m',Ho,hu'⟩,J0⟩:=he
     obtain⟨L3,Rq,_,K6⟩:=join g1
     exact⟨m',Ho,fr',KD,X3,Hk,⟨g1.inv,by have:=g1.len;omega,fun i hi hn Mq=>K6 i hi (by rw [← Rq];exact hn) Mq,rootj g1⟩,g2,hu',HF.trans J0⟩
    case outgrown=>exact he
    all_goals
     obtain⟨fr',Hk,hq,J0⟩:=he
     exact⟨fr',Hk,out hq,HF.trans J0⟩
   ·exact hv.elim
 | .exit id,an=>fun Q fr st X a w hr hI hk hv=>wpIn_exit ⟨fr,hr,⟨st,X,Steps.refl hI,hk,rfl,hv⟩,Agr.refl _ _⟩
 | .ret,an=>fun Q fr st X a w hr hI hk hv=>wpIn_ret ⟨fr,hr,⟨st,X,Steps.refl hI,hk,rfl,hv⟩,Agr.refl _ _⟩
 | .scope c,an=>by
  refine dV (c:= .scope c) (V:=fun Q fr st=>gN U P tbl may k0 n N c an.l (fun e fr' st'=>match e with
   | .goto _=>False
   | e=>Q e fr' st') fr st) fun Q fr st X a w hr hI hk hv=>?_
  refine(wpIn_wide (n:=0)).2 (wp_scope_straight ((wpIn_wide (n:=0)).1 (wpIn_mono (cC H8 hm c an.l _ fr st X a w hr hI hk hv) fun e a' w' he=>?_)))
  cases e
  case goto l=>obtain⟨_,_,⟨_,_,_,_,_,h⟩,_⟩:=he;exact h.elim
  all_goals exact he
 | .label _,an=>fun Q fr st X a w hr hI hk hv=>wpIn_label ⟨fr,hr,⟨st,X,Steps.refl hI,hk,rfl,hv⟩,Agr.refl _ _⟩
 | .rangeFunc _ _ _ _,an=>fun Q fr st X a w hr hI hk hv=>hv.elim
 | .goto _,an=>fun Q fr st X a w hr hI hk hv=>hv.elim
 | .refuse _,an=>fun Q fr st X a w hr hI hk hv=>hv.elim
end
end
end Go.Proofs.YtfmcaoaaiganbaaGreatDoor.V
namespace Go.Proofs.YtfmcaoaaiganbaaGreatDoor.V
open Go Go.RowKit
open Go.IntKind (i64 u32 u64)
open Enc (enc)
section
section
variable {U:Uni} {P:Program} {tbl:Tb U} {may:List Nat} {k0:Nat}
variable {w0:World} {X0 X:Nat→Nat→Prop} {w:World} {fr:Fr} {st:St U} {n:Nat} {N:List Nat}
theorem yI {t:TypeId} {k:Option Kn} {x:Value} {K:Value→Option Kn→Prop}(h:p6 U P t k st K)(hx:KnO st.rs x k):∃q,x= .pointer (some q):=by
 unfold p6 at h
 split at h
 ·rename_i id off
  split at h
  ·rename_i g cs T hn
   have hd:den U st.rs (.loc id off)=some x:=hx
   simp only [den,PK.id,hn,bm,Option.some.injEq]at hd
   exact⟨_,hd.symm⟩
  ·exact h.elim
 ·rename_i id path off
  split at h
  ·rename_i tt r s hn
   have hd:den U st.rs (.obj id path off)=some x:=hx
   simp only [den,PK.id,hn,bm,Option.some.injEq]at hd
   exact⟨_,hd.symm⟩
  ·exact h.elim
 ·rename_i id li i off
  split at h
  ·rename_i r hn
   split at h
   ·rename_i L hL
    have hd:den U st.rs (.el id li i off)=some x:=hx
    simp only [den,PK.id,hn,bm,hL]at hd
    split at hd
    ·injection hd with hd;exact⟨_,hd.symm⟩
    ·cases hd
   ·exact h.elim
  ·exact h.elim
 ·exact h.elim
theorem gT {tmps:Array Value}(ht:∀i,tmps.getD i undef=lk fr.g i fr.e)(hS:Sat st.rs X w)(hk:ar st.rs fr st.kn):∀(rs:List ResultVar) {F:List Value→List (Option Kn)→Prop},iw U P fr st rs F→
 ∃vs ks,F vs ks∧vs.length=ks.length∧(∀j v k,nth vs j=some v→nth ks j=some k→KnO st.rs v k)∧(rs.mapM (im tmps)).run P w= .ok vs w
 | [],F,h=>⟨[],[],h,rfl,fun j v k hv=>by simp [nth]at hv,rfl⟩
 | .tmp t::r,F,h=>by
  obtain⟨vs,ks,hF,hl,Ik,hr⟩:=gT ht hS hk r h
  refine⟨_,_,hF,by simp [hl],fun j v k hv HI=>?_,?_⟩
  ·cases j with
   | zero=>
    simp only [nth,Option.some.injEq]at hv HI
    subst hv;subst HI
    cases hg:bI (.s t) st.kn with
    | none=>exact trivial
    | some q=>exact hk.get hg
   | succ j=>exact Ik j v k hv HI
  ·have h1:(im tmps (.tmp t)).run P w= .ok (lk fr.g t fr.e) w:=by rw [← ht];rfl
   rw [List.mapM_cons,Sem.run_bind,h1]
   show(Sem.run P (do let bs ← r.mapM (im tmps);pure (lk fr.g t fr.e::bs)) w)=_
   rw [Sem.run_bind,hr]
   rfl
 | .cell a t::r,F,h=>by
  simp only [iw]at h
  have hx:KnO st.rs (lk fr.g a fr.e) (bI (.s a) st.kn):=by
   cases hg:bI (.s a) st.kn with
   | none=>exact trivial
   | some q=>exact hk.get hg
  obtain⟨q,hq⟩:=yI h hx
  obtain⟨v,kv,hF,Jv,Iy⟩:=pZ hS hk hx h
  obtain⟨vs,ks,hF,hl,Ik,hr⟩:=gT ht hS hk r hF
  refine⟨_,_,hF,by simp [hl],fun j u k hv HI=>?_,?_⟩
  ·cases j with
   | zero=>
    simp only [nth,Option.some.injEq]at hv HI
    subst hv;subst HI
    exact Jv
   | succ j=>exact Ik j u k hv HI
  ·have h2:=Iy w (Kept.refl _ _)
   rw [hq]at h2
   have h1:(im tmps (.cell a t)).run P w= .ok v w:=by
    show(do loadVar t (← asAddr (tmps.getD a undef)):Sem Value).run P w=_
    rw [ht,hq]
    exact h2
   rw [List.mapM_cons,Sem.run_bind,h1]
   show(Sem.run P (do let bs ← r.mapM (im tmps);pure (v::bs)) w)=_
   rw [Sem.run_bind,hr]
   rfl
theorem sB {fn:Func} {tmps:Array Value} {vs:List Value}(hr:(fn.results.toList.mapM (im tmps)).run P w= .ok vs w):(results fn tmps).run P w= .ok (match vs with | [v]=>v | vs=>.tuple ⟨vs⟩) w:=by
 have hm:(fn.results.mapM (im tmps)).run P w= .ok ⟨vs⟩ w:=by
  rw [Array.mapM_eq_mapM_toList]
  simp [hr]
 have LX:results fn tmps=(do let vs ← fn.results.mapM (im tmps);pure (if h:vs.size=1 then vs[0]else .tuple vs)):=by
  unfold results im
  congr 1
 rw [LX,Sem.run_bind,hm]
 cases vs with
 | nil=>rfl
 | cons v r=>
  cases r with
  | nil=>rfl
  | cons u r=>rfl
theorem rE {a b:Res U}(h:bQ a b):bU a (pD U b)=some b:=by
 cases h
 ·rename_i h
  simp only [bU,pD,h,Nat.beq_refl]
 ·simp [bU,pD]
 ·simp [bU,pD]
theorem jz {G:List (Res U)}:∀ {ms:List Nat} {us:List (Res U)} {L:List (Res U)},fk (nth G) ms=some us→(∀i,i∈ms→∀b,nth G i=some b→∃a,nth L i=some a∧bQ a b)→∃L',aV L ms (ay (pD U) us)=some L'∧L'.length=L.length∧(∀i,i∈ms→nth L' i=nth G i)∧∀i,i ∉ ms→nth L' i=nth L i
 | [],us,L,hM,h=>by
  simp only [fk,Option.some.injEq]at hM
  subst hM
  exact⟨L,rfl,rfl,fun i hi=>(by cases hi),fun _ _=>rfl⟩
 | m::ms,us,L,hM,h=>by
  simp only [fk]at hM
  split at hM
  ·rename_i b bs hb Rf
   injection hM with hM
   subst hM
   obtain⟨a,ha,hr⟩:=h m (List.mem_cons_self ..) b hb
   have RK:=aH ha
   have e:∀j,nth (bh L m b) j=if j=m then some b else nth L j:=fun j=>by
    rw [aJ]
    by_cases hj:j=m
    ·rw [if_pos ⟨hj,RK⟩,if_pos hj]
    ·rw [if_neg (fun hh=>hj hh.1),if_neg hj]
   obtain⟨L',h1,h2,h3,h4⟩:=jz (L:=bh L m b) Rf fun i hi x hx=>by
    rw [e]
    by_cases hj:i=m
    ·subst hj
     rw [hb]at hx
     injection hx with hx
     subst hx
     exact⟨b,by rw [if_pos rfl],bQ.refl b⟩
    ·rw [if_neg hj];exact h i (List.mem_cons_of_mem _ hi) x hx
   refine⟨L',?_,by rw [h2];simp,fun i hi=>?_,fun i hi=>?_⟩
   ·simp only [ay,aV,ha,rE hr]
    exact h1
   ·by_cases hm:i∈ms
    ·exact h3 i hm
    ·have:i=m:=(List.mem_cons.1 hi).resolve_right hm
     subst this
     rw [h4 i hm,e,if_pos rfl,hb]
   ·rw [List.mem_cons,not_or]at hi
    rw [h4 i hi.2,e,if_neg hi.1]
  ·cases hM
theorem pP {i:Nat}:∀ {l:List Nat} {p q:Nat},posOf i l p=some q→p≤q∧nth l (q - p)=some i
 | [],_,_,h=>by cases h
 | j::r,p,q,h=>by
  simp only [posOf]at h
  split at h
  ·rename_i he
   injection h with h
   subst h
   exact⟨Nat.le_refl _,by rw [Nat.sub_self,Nat.eq_of_beq_eq_true he];rfl⟩
  ·obtain⟨h1,h2⟩:=pP h
   refine⟨by omega,?_⟩
   rw [show q - p=(q - (p+1))+1 by omega]
   exact h2
theorem sU {α β:Type} {f:α→Option β} {l:List α} {r:List β}(h:fk f l=some r) {i:Nat} {a:α}(ha:nth l i=some a):f a=nth r i:=by
 obtain⟨b,h1,h2⟩:=(nK h).2 i a ha
 rw [h1,h2]
theorem AR {α β:Type} {f:α→Option β} {l:List α} {r:List β}(h:fk f l=some r):r.length=l.length:=(nK h).1
theorem lz {rs:List (Res U)} {key:Key} {k:Kn}:∀ {l:List (Key×Kn)},lY rs l=true→(key,k)∈l→(∃p v,k= .p p∧den U rs p=some v)∨∃l,k= .ag l∧∀j p,nth l j=some (some p)→∃v,den U rs p=some v
 | [],_,h=>by cases h
 | (a,.p p)::r,h,hm=>by
  simp only [lY]at h
  split at h
  ·rename_i v hv
   rcases List.mem_cons.1 hm with e | hm
   ·injection e with e1 e2;subst e2;exact .inl ⟨p,v,rfl,hv⟩
   ·exact lz h hm
  ·cases h
 | (a,.t _)::r,h,_=>by cases h
 | (a,.ag l)::r,h,hm=>by
  simp only [lY]at h
  split at h
  ·rename_i hl
   rcases List.mem_cons.1 hm with e | hm
   ·injection e with e1 e2;subst e2
    refine .inr ⟨l,rfl,fun j p hj=>?_⟩
    have:=bD.1 hl _ (eO hj)
    simp only [yP]at this
    split at this
    ·rename_i v hv;exact⟨v,hv⟩
    ·cases this
   ·exact lz h hm
  ·cases h
 | (a,.f _ _)::r,h,_=>by cases h
theorem ki {key:Key} {k:Kn}:∀ {l:List (Option Kn)} {i:Nat},(key,k)∈oT i l→∃j,key= .s (i+j)∧nth l j=some (some k)
 | [],_,h=>by cases h
 | none::r,i,h=>by
  obtain⟨j,h1,h2⟩:=ki (l:=r) h
  exact⟨j+1,by rw [h1];congr 1;omega,h2⟩
 | some q::r,i,h=>by
  rcases List.mem_cons.1 h with e | h
  ·injection e with e1 e2;subst e2;exact⟨0,e1,rfl⟩
  ·obtain⟨j,h1,h2⟩:=ki (l:=r) h
   exact⟨j+1,by rw [h1];congr 1;omega,h2⟩
theorem n8 {id:Nat} {key:Key} {k:Kn}:∀ {l:List AV} {i:Nat},(key,k)∈DC id i l→∃j p,key= .c id (i+j)∧k= .p p∧nth l j=some (.k p)
 | [],_,h=>by cases h
 | .v _::r,i,h=>by
  obtain⟨j,p,h1,h2,h3⟩:=n8 (l:=r) h
  exact⟨j+1,p,by rw [h1];congr 1;omega,h2,h3⟩
 | .k q::r,i,h=>by
  rcases List.mem_cons.1 h with e | h
  ·injection e with e1 e2;exact⟨0,q,e1,e2,rfl⟩
  ·obtain⟨j,p,h1,h2,h3⟩:=n8 (l:=r) h
   exact⟨j+1,p,by rw [h1];congr 1;omega,h2,h3⟩
theorem iz {key:Key} {k:Kn}:∀ {l:List (PR U)} {i:Nat},(key,k)∈vx i l→∃j g az T o p,nth l j=some (.blk g az T)∧key= .c (i+j) o∧k= .p p∧nth az o=some (.k p)
 | [],_,h=>by cases h
 | .blk g az T::r,i,h=>by
  rcases List.mem_append.1 h with h | h
  ·obtain⟨o,p,h1,h2,h3⟩:=n8 h
   exact⟨0,g,az,T,o,p,rfl,by rw [h1];simp,h2,h3⟩
  ·obtain⟨j,a,b,c,o,p,h1,h2,h3⟩:=iz (l:=r) h
   exact⟨j+1,a,b,c,o,p,h1,by rw [h2];congr 1;omega,h3⟩
 | .ob .. ::r,i,h=>by
  obtain⟨j,a,b,c,o,p,h1,h2,h3⟩:=iz (l:=r) h
  exact⟨j+1,a,b,c,o,p,h1,by rw [h2];congr 1;omega,h3⟩
 | .lst .. ::r,i,h=>by
  obtain⟨j,a,b,c,o,p,h1,h2,h3⟩:=iz (l:=r) h
  exact⟨j+1,a,b,c,o,p,h1,by rw [h2];congr 1;omega,h3⟩
theorem ug {T:Type} {c:CP} {J:c.T T} {F G:T→AV→Prop}(h:alC c J F)(hg:∀a b,F a b→G a b):alC c J G:=by
 cases c<;>simp only [alC]at h ⊢ <;>first | exact fun x=>hg _ _ (h x) | exact fun x y z=>hg _ _ (h x y z) | exact hg _ _ h
theorem lH {T:Type}:∀ {l:List CP} {J:wQ l T} {F G:T→List AV→Prop},v5 l J F→(∀a b,F a b→G a b)→v5 l J G
 | [],_,_,_,h,hg=>hg _ _ h
 | c::l,J,F,G,h,hg=>ug (c:=c) h fun _ _ h=>lH h fun _ _ h=>hg _ _ h
theorem BK {T:Type} {a:AP} {J:a.T U T} {F G:T→AA→Prop}(h:alA a J F)(hg:∀a b,F a b→G a b):alA a J G:=by
 cases a with
 | one c=>exact ug (c:=c) h fun _ _ h=>hg _ _ h
 | agg l=>exact lH (l:=l) h fun _ _ h=>hg _ _ h
 | enc tt=>exact fun x=>hg _ _ (h x)
theorem qt {T:Type}:∀ {l:List AP} {J:wS U l T} {F G:T→List AA→Prop},rI l J F→(∀a b,F a b→G a b)→rI l J G
 | [],_,_,_,h,hg=>hg _ _ h
 | c::l,J,F,G,h,hg=>BK (a:=c) h fun _ _ h=>qt h fun _ _ h=>hg _ _ h
theorem BI {T:Type} {p:RP} {J:p.T U T} {F G:T→PR U→Prop}(h:alR p J F)(hg:∀a b,F a b→G a b):alR p J G:=by
 cases p with
 | ob t=>exact fun r s=>hg _ _ (h r s)
 | blk l T=>exact fun g=>lH (h g) fun _ _ h=>hg _ _ h
 | lst t own T=>exact fun A c l=>hg _ _ (h A c l)
theorem qs {T:Type}:∀ {l:List RP} {J:zz U l T} {F G:T→List (PR U)→Prop},rH l J F→(∀a b,b.length=l.length→F a b→G a b)→rH l J G
 | [],_,_,_,h,hg=>hg _ _ rfl h
 | c::l,J,F,G,h,hg=>BI (p:=c) h fun _ _ h=>qs h fun _ _ hl h=>hg _ _ (by simp [hl]) h
theorem ts {aS rets:List Nat} {Q:Ou U→Prop} {v:Value} {k:Option Kn} {Jf:List (Res U)} {X':Nat→Nat→Prop} {w':World}(h:Fj U k0 aS rets Q v k st)(SS:Jf.length=k0)(hs:Steps w k0 X aS ⟨Jf,[],[]⟩ X st X' w')(hk:ar st.rs fr st.kn)(hv:k=some .pan∨KnO st.rs v k)(IA:∀i,i∈aS→i<k0):
 ∃out rs' X'',iI k v=iI out.kr out.res∧Q out∧aV Jf aS out.upd=some rs'∧mj Jf aS X w out w' rs' X'':=by
 unfold Fj at h
 split at h
 case h_2=>exact h.elim
 rename_i us ns hus RI Ip
 simp only [Bool.and_eq_true]at Ip
 obtain⟨L5,IW⟩:=Ip
 have L5:∀i,i∈rets→k0≤i:=fun i hi=>Nat.le_of_ble_eq_true (bD.1 L5 i hi)
 have IW:=jL IW
 obtain⟨L,hL,cL,hl⟩:=hs.md
 have Il:∀i,i<k0→i ∉ aS→nth st.rs i=nth Jf i∧X' i=X i:=by
  intro i hi hm
  refine hl i (by simp only [];omega) fun Jo=>?_
  rcases cL i Jo with h | h
  ·exact hm h
  ·omega
 obtain⟨rs',H9,QW,KL,LZ⟩:=jz (L:=Jf) hus fun i hi b hb=>by
  obtain⟨a,ha⟩:=bA (l:=Jf) (i:=i) (by rw [SS];exact IA i hi)
  obtain⟨b',KY,hr⟩:=hs.root i a ha
  rw [hb]at KY
  injection KY with KY
  subst KY
  exact⟨a,ha,hr⟩
 have LU:∀i,i<k0→nth rs' i=nth st.rs i:=by
  intro i hi
  by_cases hm:i∈aS
  ·exact KL i hm
  ·rw [LZ i hm,(Il i hi hm).1]
 have QM:ns.length=rets.length:=AR RI
 have Mo:rs'.length=k0:=by rw [QW,SS]
 have NT:∀i j,jK k0 rets i=some j→nth (rs'++ns) j=nth st.rs i:=by
  intro i j HN
  unfold jK at HN
  split at HN
  ·rename_i hb
   have hb:i<k0:=by simpa [Nat.blt_eq]using hb
   injection HN with HN
   subst HN
   rw [aO,if_pos (by omega),LU i hb]
  ·simp only [Option.map_eq_some_iff]at HN
   obtain⟨p,hp,rfl⟩:=HN
   obtain⟨_,HH⟩:=pP hp
   rw [Nat.sub_zero]at HH
   rw [aO,if_neg (by omega),show k0+p - rs'.length=p by omega,← sU RI HH]
 have Ji:∀ {p q:PK} {u:Value},p.ren (jK k0 rets)=some q→den U st.rs p=some u→den U (rs'++ns) q=some u:=by
  intro p q u hp hd
  have h1:=NT _ _ (PK.qS hp)
  unfold den at hd ⊢
  rw [h1,← hd]
  cases p<;>simp only [PK.ren,Option.map_eq_some_iff]at hp<;>obtain⟨i,hi,rfl⟩:=hp<;>simp only [PK.id]<;>cases nth st.rs _<;>first | rfl | (rename_i r;cases r<;>rfl)
 have NY:∀ {v:Value} {k k':Kn},k.ren (jK k0 rets)=some k'→fz st.rs v k→fz (rs'++ns) v k':=by
  intro v k k' hk hv
  cases k with
  | pan=>exact hv.elim
  | p p=>
   simp only [Kn.ren,Option.map_eq_some_iff]at hk
   obtain⟨q,hq,rfl⟩:=hk
   exact Ji hq hv
  | t l=>
   simp only [Kn.ren,Option.some.injEq]at hk
   subst hk
   obtain⟨vs,e,hh⟩:=hv
   refine⟨vs,e,fun j q hj=>?_⟩
   obtain⟨p,hp,hq⟩:=cm hj
   obtain⟨u,hu,hd⟩:=hh j p hp
   exact⟨u,hu,Ji hq hd⟩
  | ag l=>
   simp only [Kn.ren,Option.some.injEq]at hk
   subst hk
   obtain⟨vs,e,hh⟩:=hv
   refine⟨vs,e,fun j q hj=>?_⟩
   obtain⟨p,hp,hq⟩:=cm hj
   obtain⟨u,hu,hd⟩:=hh j p hp
   exact⟨u,hu,Ji hq hd⟩
  | f a b=>
   simp only [Kn.ren,Option.some.injEq]at hk
   subst hk
   obtain⟨fn,fs,cs,e,hl,h1,h2⟩:=hv
   refine⟨fn,fs,cs,e,by simpa using hl,fun j q hj=>?_,fun j q hj=>?_⟩
   ·obtain⟨p,hp,hq⟩:=cm hj
    obtain⟨u,hu,hd⟩:=h1 j p hp
    exact⟨u,hu,Ji hq hd⟩
   ·obtain⟨p,hp,hq⟩:=cm hj
    obtain⟨u,hu,hd⟩:=h2 j p hp
    exact⟨u,hu,Ji hq hd⟩
 let X'':Nat→Nat→Prop:=fun i=>if i<k0 then X' i else match nth rets (i - k0)with
  | some r=>X' r
  | none=>fun _=>False
 have hX:∀i,i<k0→X'' i=X' i:=fun i hi=>if_pos hi
 have hXr:∀i r,¬i<k0→nth rets (i - k0)=some r→X'' i=X' r:=fun i r hi hr=>by
  show(if i<k0 then _ else _)=_
  rw [if_neg hi,hr]
 have KN:∀i,i<(rs'++ns).length→∃r,X'' i=X' r∧nth (rs'++ns) i=nth st.rs r∧r<st.rs.length∧((i<k0∧r=i)∨(¬i<k0∧k0≤r∧nth rets (i - k0)=some r)):=by
  intro i hi
  by_cases h1:i<k0
  ·refine⟨i,hX i h1,by rw [aO,if_pos (by omega),LU i h1],?_,.inl ⟨h1,rfl⟩⟩
   have:=hs.len
   simp only at this
   omega
  ·simp at hi
   obtain⟨r,hr⟩:=bA (l:=rets) (i:=i - k0) (by omega)
   have hn:=sU RI hr
   obtain⟨y,hy⟩:=bA (l:=ns) (i:=i - k0) (by omega)
   rw [hy]at hn
   exact⟨r,hXr i r h1 hr,by rw [aO,if_neg (by omega),show i - rs'.length=i - k0 by omega,hy,hn],aH hn,.inr ⟨h1,L5 r (eO hr),hr⟩⟩
 refine⟨_,rs',X'',(qe ..).symm,h,H9,⟨⟨fun i r hr=>?_,fun i j hi hj HN k Ms=>?_⟩,hs.inv.ch,fun i hi hm=>?_,fun i hm k Ms=>?_,fun i h1 h2 k Ms=>?_,?_,fun key q hq RI=>?_⟩⟩
 ·obtain⟨m,e1,e2,_⟩:=KN i (aH hr)
  rw [e1]
  exact hs.inv.sat.res m r (by rw [← e2];exact hr)
 ·obtain⟨a,a1,a2,a3,a4⟩:=KN i hi
  obtain⟨b,b1,b2,b3,b4⟩:=KN j hj
  rw [a1]at Ms
  rw [b1]
  refine hs.inv.sat.dis a b a3 b3 (fun K8=>?_) k Ms
  subst K8
  rcases a4 with⟨a5,a6⟩ | ⟨a5,a6,a7⟩<;>rcases b4 with⟨b5,b6⟩ | ⟨b5,b6,b7⟩
  ·exact HN (a6.symm.trans b6)
  ·omega
  ·omega
  ·have inj:∀(l:List Nat)(x y r:Nat),l.Nodup→nth l x=some r→nth l y=some r→x=y:=by
    intro l
    induction l with
    | nil=>intro x y r _ h;simp [nth]at h
    | cons z l ih=>
     intro x y r hn h1 h2
     rw [List.nodup_cons]at hn
     cases x with
     | zero=>
      simp only [nth,Option.some.injEq]at h1
      subst h1
      cases y with
      | zero=>rfl
      | succ y=>exact absurd (eO (l:=l) h2) hn.1
     | succ x=>
      cases y with
      | zero=>
       simp only [nth,Option.some.injEq]at h2
       subst h2
       exact absurd (eO (l:=l) h1) hn.1
      | succ y=>rw [ih x y r hn.2 h1 h2]
   have:=inj rets _ _ _ IW a7 b7
   omega
 ·rw [hX i (by omega)]
  exact(Il i (by omega) hm).2
 ·rw [hX i (IA i hm)]at Ms
  exact hs.inv.old i (IA i hm) k Ms
 ·obtain⟨m,e1,e2,e3,e4⟩:=KN i (by simp only [List.length_append];simp only at h2;omega)
  rw [e1]at Ms
  rcases e4 with⟨e5,e6⟩ | ⟨e5,e6,_⟩
  ·omega
  ·exact hs.inv.new m e6 e3 k Ms
 ·rcases hv with rfl | hv
  ·exact .inl rfl
  right
  cases k with
  | none=>exact trivial
  | some k=>
   show KnO _ v (k.ren _)
   cases hkr:k.ren (jK k0 rets)with
   | none=>exact trivial
   | some k'=>exact NY hkr hv
 ·obtain⟨i0,i',o',k1,⟨rfl,e2⟩ | ⟨rfl,e2⟩,e3,e4⟩:=gy hq
  ·obtain⟨Nh,_⟩:=cq e2
   obtain⟨g,cs,T,u,q1,q2,q3⟩:=hk _ _ Nh
   exact⟨g,cs,T,u,by show nth (rs'++ns) _=_;rw [NT _ _ e3];exact q1,q2,NY e4 q3⟩
  ·obtain⟨Nh,_⟩:=cq e2
   obtain⟨t,r,s,q1,q2⟩:=hk _ _ Nh
   exact⟨t,r,s,by show nth (rs'++ns) _=_;rw [NT _ _ e3];exact q1,NY e4 q2⟩
theorem xL {fn:Func} {rets:List Nat} {Q:Ou U→Prop} {Jf:List (Res U)} {aS:List Nat} {kn0:List (Key×Kn)} {a':Act} {w':World} {st':St U} {X':Nat→Nat→Prop}(Mo:Jf.length=k0)(IA:∀i,i∈aS→i<k0)(hr:Rep n fr a')(hs:Steps w k0 X aS ⟨Jf,kn0,[]⟩ X st' X' w')(hk:ar st'.rs fr st'.kn)
 (LX:sF U P k0 aS rets Q fn fr st'):∃v,(results fn a'.tmps).run P w'= .ok v w'∧bd Jf aS X w Q (.returned v) w':=by
 obtain⟨vs,ks,hF,hlen,Jv,Iy⟩:=gT hr.get hs.inv.sat hk _ LX
 refine⟨_,sB Iy,?_⟩
 have QC:Steps w k0 X aS ⟨Jf,[],[]⟩ X st' X' w':=⟨hs.inv,hs.len,hs.md,hs.root⟩
 have go:∀ {v k},Bd U k0 aS rets Q v k st'→KnO st'.rs v k→∃out rs' X',Ending.returned v=iI out.kr out.res∧Q out∧aV Jf aS out.upd=some rs'∧mj Jf aS X w out w' rs' X':=by
  intro v k JY Nj
  obtain⟨out,rs',X'',h1,h2,h3,h4⟩:=ts JY Mo QC hk (.inr Nj) IA
  exact⟨out,rs',X'',by rw [← h1];cases k with | none=>rfl | some k=>cases k<;>first | rfl | exact Nj.elim,h2,h3,h4⟩
 have tup:∀ {vs:List Value} {ks:List (Option Kn)},vs.length=ks.length→(∀j v k,nth vs j=some v→nth ks j=some k→KnO st'.rs v k)→KnO st'.rs (.tuple ⟨vs⟩) (some (.t (ay fW ks))):=by
  intro vs ks hlen Jv
  refine⟨⟨vs⟩,rfl,fun j p hj=>?_⟩
  rw [aR]at hj
  cases hn:nth ks j with
  | none=>rw [hn]at hj;cases hj
  | some k=>
   rw [hn]at hj
   injection hj with hj
   obtain⟨v,hv⟩:=bA (l:=vs) (i:=j) (by rw [hlen];exact aH hn)
   refine⟨v,by rw [aB]at hv;simpa using hv,?_⟩
   have:=Jv j v k hv hn
   unfold fW at hj
   split at hj
   ·injection hj with hj;subst hj;exact this
   ·cases hj
 cases vs with
 | nil=>
  cases ks with
  | nil=>exact go hF (tup rfl Jv)
  | cons _ _=>simp at hlen
 | cons v r=>
  cases ks with
  | nil=>simp at hlen
  | cons k s=>
   cases r with
   | nil=>
    cases s with
    | nil=>exact go hF (Jv 0 v k rfl rfl)
    | cons _ _=>simp at hlen
   | cons u r=>
    cases s with
    | nil=>simp at hlen
    | cons _ _=>exact go hF (tup hlen Jv)
theorem CU {f:Nat} {fn:Func} {c:Ctr U} {V:Code→(Ou U→Prop)→Fr→St U→Prop} {W:List Value→List (Option Kn)→List (Res U)→List (Key×Kn)→(Ou U→Prop)→Prop}(hf:P.funcs[f]? =some fn)
 (hV:∀(code:Code)(Q:Ou U→Prop)(Jf:List (Res U))(X:Nat→Nat→Prop)(w:World)(kn:List (Key×Kn))(fr:Fr)(a:Act),Jf.length=c.res.length→Inv w c.res.length X c.aS Jf X w→Rep fn.ntmps fr a→ar Jf fr kn→fr.ds= []→V code Q fr ⟨Jf,kn,[]⟩→code.wpIn (WF none) 0 P (bodyPostM (WF none) 0 P fn (bd Jf c.aS X w Q)) a w)
 (hW:∀args ks rs kc Q,W args ks rs kc Q→∃code,fn.body=some code∧Nat.ble args.length fn.ntmps=true∧lY rs (oT 0 ks++kc)=true∧V code Q ⟨num 0 args,fun _=>undef,[]⟩ ⟨rs,oT 0 ks++kc,[]⟩)
 (h:rI c.args c.body fun B az=>rH c.res B fun B ps=>∀Q:Ou U→Prop,B Q→rq (cv ps) (W (ay (oe (ay PR.gn ps)) az) (ay zg az) (cv ps) (vx 0 ps++rj 0 ps) Q)):LV U P f c:=by
 refine qt h fun B az h=>qs h fun B ps hl h=>?_
 intro Q hQ X w hsat hlkp
 have h:=gz (fun r hr=>by
  obtain⟨j,hj,he⟩:=List.mem_iff_getElem.1 hr
  exact⟨_,_,hsat.res j r (by rw [aB,List.getElem?_eq_getElem hj,he])⟩) (h Q hQ)
 obtain⟨code,hb,hnt,hkd,h⟩:=hW _ _ _ _ _ h
 have Mr:(ay (oe (ay PR.gn ps)) az).length≤fn.ntmps:=Nat.le_of_ble_eq_true hnt
 have Mo:(cv ps).length=c.res.length:=by simp [hl]
 have hI:Inv w c.res.length X c.aS (cv ps) X w:=⟨hsat,Ch.refl _ _,fun i _ k hk=>.inl hk,fun i h1 h2=>by omega,by omega⟩
 generalize I6:ay (oe (ay PR.gn ps)) az=args at h Mr ⊢
 have Ik:ar (cv ps) ⟨num 0 args,fun _=>undef,[]⟩ (oT 0 (ay zg az)++(vx 0 ps++rj 0 ps)):=by
  intro key k Hu
  rcases lz hkd Hu with⟨p,v,rfl,hd⟩ | ⟨l,rfl,hd⟩
  rotate_left
  ·rcases List.mem_append.1 Hu with Hu | Hu
   ·obtain⟨j,rfl,hj⟩:=ki Hu
    rw [Nat.zero_add]
    rw [aR]at hj
    cases ha:nth az j with
    | none=>rw [ha]at hj;cases hj
    | some a=>
     rw [ha]at hj
     injection hj with hj
     obtain⟨as',rfl,rfl⟩:∃as',a= .agg as'∧l=ay avK as':=by
      unfold zg at hj
      split at hj
      ·cases hj
      ·cases hj
      ·split at hj
       ·injection hj with hj;injection hj with hj;exact⟨_,rfl,hj.symm⟩
       ·cases hj
     have hv:nth args j=some (.agg ⟨ay (gD (ay PR.gn ps)) as'⟩):=by rw [← I6,aR,ha];rfl
     have Ho:=aH hv
     refine⟨⟨ay (gD (ay PR.gn ps)) as'⟩,?_,fun j' k hk=>?_⟩
     ·show lk _ j (num 0 args)=_
      rw [nM,dif_pos ⟨Nat.zero_le _,by simpa using Ho⟩]
      rw [aB,List.getElem?_eq_getElem Ho]at hv
      simpa using hv
     ·obtain⟨u,hu⟩:=hd j' k hk
      refine⟨u,?_,hu⟩
      rw [aR]at hk
      cases hn:nth as' j' with
      | none=>rw [hn]at hk;cases hk
      | some b=>
       rw [hn]at hk
       injection hk with hk
       cases b with
       | v x=>cases hk
       | k p=>
        injection hk with hk
        subst hk
        have h9:nth (ay (gD (ay PR.gn ps)) as') j'=some u:=by
         rw [aR,hn]
         show some ((den U (ay PR.gn ps) p).getD undef)=_
         rw [← mN,hu];rfl
        rw [aB]at h9
        simpa using h9
   ·rcases List.mem_append.1 Hu with Hu | Hu
    ·obtain⟨_,_,_,_,_,_,_,_,h3,_⟩:=iz Hu
     cases h3
    ·have h9:=gx Hu
     obtain⟨_,_,_,_,_,_,_,_,_,_,h3,h4⟩:=h9
     cases h4
  rcases List.mem_append.1 Hu with Hu | Hu
  ·obtain⟨j,rfl,hj⟩:=ki Hu
   rw [Nat.zero_add]
   rw [aR]at hj
   cases ha:nth az j with
   | none=>rw [ha]at hj;cases hj
   | some a=>
    rw [ha]at hj
    injection hj with hj
    have Rk:a= .one (.k p):=by
     unfold zg at hj
     split at hj
     ·injection hj with hj;injection hj with hj;rw [hj]
     ·cases hj
     ·split at hj<;>cases hj
    subst Rk
    show den U (cv ps) p=some (lk _ j (num 0 args))
    have hv:nth args j=some v:=by
     rw [← I6,aR,ha]
     show some ((den U (ay PR.gn ps) p).getD undef)=_
     rw [← mN,hd];rfl
    have Ho:=aH hv
    rw [nM,dif_pos ⟨Nat.zero_le _,by simpa using Ho⟩,hd]
    rw [aB,List.getElem?_eq_getElem Ho]at hv
    rw [← hv]
    simp
  rcases List.mem_append.1 Hu with Hu | Hu
  rotate_left
  ·have h0:=hlkp _ _ Hu
   obtain⟨_,_,_,_,_,_,_,_,_,_,rfl,_⟩:=gx Hu
   exact h0
  ·obtain⟨j,g,as',T,o,q,h1,h2,h3,h4⟩:=iz Hu
   injection h3 with h3
   subst h3
   rw [h2,Nat.zero_add]
   refine⟨g,ay (gD (ay PR.gn ps)) as',T,v,?_,?_,hd⟩
   ·rw [gB,h1];rfl
   ·rw [aR,h4]
    show some ((den U (ay PR.gn ps) p).getD undef)=_
    rw [← mN,hd];rfl
 refine(callsIn_wide (n:=0)).1 (callsIn_of_wp_marks (F:=WF none) hf hb trivial ?_)
 have Jh:Rep fn.ntmps ⟨num 0 args,fun _=>undef,[]⟩ {tmps:=(⟨args⟩:Array Value)++Array.replicate (fn.ntmps - (⟨args⟩:Array Value).size) undef,defers:= []}:=by
  refine⟨by simp;omega,fun i=>?_,rfl⟩
  rw [nM]
  simp only [Nat.zero_le,Nat.sub_zero,true_and,Array.getD_eq_getD_getElem?]
  by_cases hi:i<args.length
  ·rw [dif_pos hi,Array.getElem?_append_left (by simpa using hi)]
   simp [hi]
  ·rw [dif_neg hi,Array.getElem?_append_right (by simpa using hi)]
   rw [Array.getElem?_replicate]
   split<;>rfl
 exact hV code Q (cv ps) X w _ _ _ Mo hI Jh Ik rfl h
theorem CV {f:Nat} {fn:Func} {an:An} {rets:List Nat} {c:Ctr U}(hf:P.funcs[f]? =some fn)(hm:P.follows .mixedOrders=true)(H8:∀f c,tbl.c f=some c→LV U P f c∧bo P f=true)(IA:gg (fun i=>Nat.blt i c.res.length) c.aS=true)(h:Vc2 U P tbl N fn an rets c):LV U P f c:=by
 have JW:∀i,i∈c.aS→i<c.res.length:=fun i hi=>by simpa [Nat.blt_eq]using bD.1 IA i hi
 refine CU (V:=fun code Q fr st=>gN U P tbl c.aS c.res.length fn.ntmps N code an (fun e fr st=>match fr.ds,e with
  | [],.normal=>sF U P c.res.length c.aS rets Q fn fr st
  | [],.ret=>sF U P c.res.length c.aS rets Q fn fr st
  | [],.panic [⟨v,false,false⟩]=>Bd U c.res.length c.aS rets Q v (some .pan) st
  | _,_=>False) fr st) hf ?_ (fun args ks rs kc Q h=>?_) h
 ·intro code Q Jf X w kn fr a Mo hI Jh Ik IJ h
  refine wpIn_mono (cC H8 hm code an _ _ _ X _ w Jh hI Ik h) fun e a' w' he=>?_
  cases e
  case normal=>
   obtain⟨fr',hr,⟨st',X',g1,g2,g3,g4⟩,_⟩:=he
   have g3:fr'.ds= []:=g3.trans IJ
   rw [g3]at g4
   show LeavesInM (WF none) 0 P fn a'.tmps _ a'.defers .returning w'
   rw [hr.defers,g3]
   exact xL Mo JW hr g1 g2 g4
  case ret=>
   obtain⟨fr',hr,⟨st',X',g1,g2,g3,g4⟩,_⟩:=he
   have g3:fr'.ds= []:=g3.trans IJ
   rw [g3]at g4
   show LeavesInM (WF none) 0 P fn a'.tmps _ a'.defers .returning w'
   rw [hr.defers,g3]
   exact xL Mo JW hr g1 g2 g4
  case panic ch=>
   obtain⟨fr',hr,⟨st',X',g1,g2,g3,g4⟩,_⟩:=he
   have g3:fr'.ds= []:=g3.trans IJ
   rw [g3]at g4
   rcases ch with _ | ⟨⟨v,_ | _,_ | _⟩,_ | ⟨c2,r⟩⟩<;>first | exact g4.elim | skip
   obtain⟨out,rs',X'',h1,h2,h3,h4⟩:=ts g4 Mo ⟨g1.inv,g1.len,g1.md,g1.root⟩ g2 (.inl rfl) JW
   show LeavesInM (WF none) 0 P fn a'.tmps _ a'.defers (.panicking [⟨v,false,false⟩]) w'
   rw [hr.defers,g3]
   exact⟨out,rs',X'',h1,h2,h3,h4⟩
  case outgrown=>exact he.elim
  all_goals
   obtain⟨fr',hr,⟨st',X',g1,g2,g3,g4⟩,_⟩:=he
   have g3:fr'.ds= []:=g3.trans IJ
   rw [g3]at g4
   exact g4.elim
 ·unfold FU at h
  split at h
  case h_2=>exact h.elim
  rename_i code hb Ip
  simp only [Bool.and_eq_true]at Ip
  exact⟨code,hb,Ip.1,Ip.2,h⟩
def yh {U:Uni}:List (Nat×Ctr U)→Nat→Option (Ctr U)
 | [],_=>none
 | (g,c)::r,f=>match Nat.beq g f with
  | true=>some c
  | false=>yh r f
abbrev aN {U:Uni}(l:List (Nat×Ctr U)):Tb U:=⟨yh l,.bool,[]⟩
def vn(U:Uni)(P:Program):List (Nat×Ctr U)→Prop
 | []=>True
 | (f,c)::r=>LV U P f c∧vn U P r
theorem pE {c:Ctr U} {f:Nat}:∀ {tb:List (Nat×Ctr U)},yh tb f=some c→vn U P tb→gg (fun p=>bo P p.1) tb=true→LV U P f c∧bo P f=true
 | [],h,_,_=>by cases h
 | (g,d)::r,h,ha,hb=>by
  unfold yh at h
  have hc:=bD.1 hb
  split at h
  ·rename_i he
   injection h with h
   rw [← h,← Nat.eq_of_beq_eq_true he]
   exact⟨ha.1,hc _ (List.mem_cons_self ..)⟩
  ·exact pE h ha.2 (bD.2 fun x hx=>hc x (List.mem_cons_of_mem _ hx))
theorem verify {f:Nat} {fn:Func} {an:An} {rets:List Nat} {c:Ctr U} {tb:List (Nat×Ctr U)} {sh:Sh} {al:List (Nat×List PK×List PK)}(hf:P.funcs[f]? =some fn)(hm:P.follows .mixedOrders=true)(ht:vn U P tb)(hb:(gg (fun p=>bo P p.1) tb && gg (fun i=>Nat.blt i c.res.length) c.aS)=true)(h:Vc2 U P ⟨yh tb,sh,al⟩ N fn an rets c):LV U P f c:=by
 rw [Bool.and_eq_true]at hb
 exact CV hf hm (fun f c S4=>pE S4 ht hb.1) hb.2 h
theorem bd.pu {rs:List (Res U)} {X:Nat→Nat→Prop} {w w':World} {Q:Ou U→Prop} {v:Value} {k:Option Kn}(hs:Sat rs X w)(q:Pu w w')(hQ:Q ⟨v,k,[],[],[]⟩)(hk:KnO rs v k):bd rs [] X w Q (.returned v) w':=by
 have QC:Sat (rs++ []) X w':=by
  rw [List.append_nil]
  exact⟨fun i r hr=>(hs.res i r hr).ch q (fun _ _ h=>h),hs.dis⟩
 refine⟨_,rs,X,dI hk,hQ,rfl,⟨QC,q.mono fun k hk=>hk.elim,fun _ _ _=>rfl,fun i hi=>(by cases hi),fun i h1 h2=>by simp at h2;omega,.inr (by simpa using hk),fun _ k hk=>by cases hk⟩⟩
theorem bd.one {t:Nat} {r:Nat→Nat} {s s':U.ty t} {X:Nat→Nat→Prop} {w w':World} {Q:Ou U→Prop} {v:Value} {k:Option Kn} {Z:Nat→Prop}(q:Ch (X 0) w w')(hp:U.pred t r s' Z w')(hz:∀k,Z k→X 0 k∨w.heap.size≤k)(hQ:Q ⟨v,k,[.ob t s'],[],[]⟩)(hk:KnO [.ob t r s'] v k):bd [.ob t r s] [0] X w Q (.returned v) w':=by
 have H9:aV [Res.ob t r s] [0] [.ob t s']=some [.ob t r s']:=by simp [aV,bU,nth,bh]
 refine⟨_,_,fun i=>if i=0 then Z else X i,dI hk,hQ,H9,⟨⟨fun i r' hr=>?_,fun i j hi hj HN=>?_⟩,q.mono fun k hk=>⟨0,by simp,hk⟩,fun i hi hm=>?_,fun i hi k hk=>?_,fun i h1 h2=>by simp at h1 h2;omega,.inr hk,fun _ k hk=>by cases hk⟩⟩
 ·cases i with
  | zero=>simp only [List.append_nil,nth,Option.some.injEq]at hr;subst hr;exact hp
  | succ i=>simp [nth]at hr
 ·simp at hi hj;omega
 ·simp at hi hm;omega
 ·simp at hi;subst hi;exact hz k hk
theorem bd.new {t:Nat} {r:Nat→Nat} {s':U.ty t} {X:Nat→Nat→Prop} {w w':World} {Q:Ou U→Prop} {v:Value} {k:Option Kn} {Z:Nat→Prop}(q:Pu w w')(hp:U.pred t r s' Z w')(hz:∀k,Z k→w.heap.size≤k)(hQ:Q ⟨v,k,[],[.ob t r s'],[]⟩)(hk:KnO [.ob t r s'] v k):bd [] [] X w Q (.returned v) w':=by
 refine⟨_,[],fun i=>if i=0 then Z else X i,dI hk,hQ,rfl,⟨⟨fun i r' hr=>?_,fun i j hi hj HN=>?_⟩,q.mono fun k hk=>hk.elim,fun i hi hm=>?_,fun i hi=>(by cases hi),fun i h1 h2 k hk=>?_,.inr hk,fun _ k hk=>by cases hk⟩⟩
 ·cases i with
  | zero=>simp only [List.nil_append,nth,Option.some.injEq]at hr;subst hr;exact hp
  | succ i=>simp [nth]at hr
 ·simp at hi hj;omega
 ·simp at hi
 ·simp at h2;subst h2;exact hz k hk
theorem af {a b:Prop}(h:a)(k:a→b):a∧b:=⟨h,k h⟩
theorem KnO.tup {U:Uni} {rs:List (Res U)} {vs:Array Value}:∀(l:List (Option PK)),(∀o∈l,o=none)→KnO rs (.tuple vs) (some (.t l)):=fun l h=>⟨vs,rfl,fun j k hj=>by have:=h _ (eO hj);cases this⟩
theorem allEq {α:Sort _} {a:α} {F:α→Prop}(h:F a):∀x,x=a→F x:=fun _ e=>e▸h
theorem ab {α:Type} {a b:α} {l m:List α}(h:a=b)(k:l=m):a::l=b::m:=by rw [h,k]
theorem bB {α:Type} {F:(α→Prop)→Prop} {G:α→Prop}(e:α)(h1:F (fun x=>x=e))(h2:G e):∃J:α→Prop,F J∧∀(_:Nat→Value)(x:α),J x→G x:=⟨_,h1,fun _ _ h=>h▸h2⟩
theorem mw {α:Type} {F:(α→Prop)→Prop} {G:α→Prop}(h:F G):∃J:α→Prop,F J∧∀(_:Nat→Value)(x:α),J x→G x:=⟨_,h,fun _ _ h=>h⟩
theorem dup2 {α β:Type} {F:(α→β→Prop)→Prop} {G:α→β→Prop}(h:F G):∃J:α→β→Prop,F J∧∀(_:Nat→Value)(x:α)(y:β),J x y→G x y:=⟨_,h,fun _ _ _ h=>h⟩
theorem bj {U:Uni} {Q:Ou U→Prop} {a b:Bool} {k:Option Kn} {u:List (Upd U)} {n:List (Res U)} {kc:List (Key×Kn)}(h:Q ⟨.bool a,k,u,n,kc⟩)(h1:a=b):Q ⟨.bool b,k,u,n,kc⟩:=h1▸h
theorem dN {U:Uni} {Q:Ou U→Prop} {i:IntKind} {a b:Int} {k:Option Kn} {u:List (Upd U)} {n:List (Res U)} {kc:List (Key×Kn)}(h:Q ⟨.int i a,k,u,n,kc⟩)(h1:a=b):Q ⟨.int i b,k,u,n,kc⟩:=h1▸h
theorem aF {U:Uni} {Q:Ou U→Prop} {a b:Value} {k:Option Kn} {u u':List (Upd U)} {n n':List (Res U)} {kc:List (Key×Kn)}(h:Q ⟨a,k,u,n,kc⟩)(h1:a=b)(h2:u=u')(h3:n=n'):Q ⟨b,k,u',n',kc⟩:=by rw [← h1,← h2,← h3];exact h
end
theorem bp {a b:Int}(h:a=b):Value.int .i64 a=Value.int .i64 b:=congrArg _ h
theorem tB {a b:Int}(h:a=b):Value.int .u32 a=Value.int .u32 b:=congrArg _ h
theorem eQb {a b:Bool}(h:a=b):Value.bool a=Value.bool b:=congrArg _ h
end
end Go.Proofs.YtfmcaoaaiganbaaGreatDoor.V
namespace Go.Proofs.YtfmcaoaaiganbaaGreatDoor
open Go.Proofs.Tryz (prog)
open Go Go.RowKit V
open Go.IntKind (i64 u32 u64)
open Enc (enc)
structure bf where
 k:Int
 a:Int
 b:Int
 c:Int
 v:Int
 wA:Option Addr
 wN:Nat
 wC:Nat
instance:Enc bf:=⟨fun x=>[.int .i64 x.k,.int .i64 x.a,.int .i64 x.b,.int .i64 x.c,.int .u32 x.v,.slice x.wA x.wN x.wC],6,fun _=>rfl,by simp [Value.oneCell'],by omega⟩
def UEl:Nat→Type
 | 0=>I64
 | 1=>U32
 | 2=>U8
 | 3=>Bl
 | 4=>Ent
 | 5=>bf
 | 6=>Fl
 | 7=>Hd
 | _=>I64
@[reducible] def UEn:(t:Nat)→Enc (UEl t)
 | 0=>inferInstanceAs (Enc I64)
 | 1=>inferInstanceAs (Enc U32)
 | 2=>inferInstanceAs (Enc U8)
 | 3=>inferInstanceAs (Enc Bl)
 | 4=>inferInstanceAs (Enc Ent)
 | 5=>inferInstanceAs (Enc bf)
 | 6=>inferInstanceAs (Enc Fl)
 | 7=>inferInstanceAs (Enc Hd)
 | _+8=>inferInstanceAs (Enc I64)
def UDf:(t:Nat)→UEl t
 | 0=>I64.mk 0
 | 1=>U32.mk 0
 | 2=>U8.mk 0
 | 3=>Bl.mk false
 | 4=>Ent.free
 | 5=>⟨0,0,0,0,0,none,0,0⟩
 | 6=>Fl.zero
 | 7=>⟨none,0,0⟩
 | _+8=>I64.mk 0
def B6:(t:Nat)→List Value→Option (UEl t)
 | 0,[.int .i64 x]=>some (I64.mk x)
 | 1,[.int .u32 x]=>some (U32.mk x)
 | 2,[.int .u8 x]=>some (U8.mk x)
 | 3,[.bool x]=>some (Bl.mk x)
 | 4,[.int .i64 a,.int .i64 b,.int .i64 c,.int .i64 d,.bool e]=>some (Ent.mk a b c d e)
 | 5,[.int .i64 a,.int .i64 b,.int .i64 c,.int .i64 d,.int .u32 e,.slice x y z]=>some (bf.mk a b c d e x y z)
 | 7,[.slice x y z]=>some (Hd.mk x y z)
 | _,_=>none
theorem eB {t:Nat} {cs:List Value} {x:UEl t}(h:B6 t cs=some x):(UEn t).enc x=cs:=by
 unfold B6 at h
 split at h<;>first | (injection h with h;subst h;rfl) | cases h
def GD:(t:Nat)→List Value→Option (UEl t)
 | 6,cs=>tF cs
 | t,cs=>B6 t cs
theorem DV:∀ {t:Nat} {cs:List Value} {x:UEl t},GD t cs=some x→(UEn t).enc x=cs
 | 6,_,_,h=>(lB h).1.symm
 | 0,_,_,h=>eB (t:=0) h
 | 1,_,_,h=>eB (t:=1) h
 | 2,_,_,h=>eB (t:=2) h
 | 3,_,_,h=>eB (t:=3) h
 | 4,_,_,h=>eB (t:=4) h
 | 5,_,_,h=>eB (t:=5) h
 | 7,_,_,h=>eB (t:=7) h
 | t+8,_,_,h=>eB (t:=t+8) h
def UE:Els:=⟨UEl,UEn,UDf,GD,DV⟩
def G2:Kind UE where
 ty:=Mem
 pred:=fun r s X w=>∃L:dM,r 0=L.g∧(∀k,L.X k↔X k)∧bV w L s
 ch:=fun⟨L,h1,h2,h3⟩ q hb=>⟨L,h1,h2,h3.ch q fun k hk=>hb k ((h2 k).1 hk)⟩
 lt:=fun⟨_,_,h2,h3⟩ k hk=>h3.lt k ((h2 k).2 hk)
 iv:=true
 inv:=Mem.Wf
 eF:=fun⟨_,_,_,h⟩=>⟨h.u32,h.most⟩
def kPd:Kind UE where
 ty:=Pd
 pred:=fun r s X w=>∃a,(∀k,(k=r 0∨k=a)↔X k)∧PdP w (r 0) a (r 1) s
 ch:=fun⟨a,h1,h2⟩ q hb=>⟨a,h1,h2.ch q (hb _ ((h1 _).1 (.inl rfl))) (hb _ ((h1 _).1 (.inr rfl)))⟩
 lt:=fun⟨a,h1,h2⟩ k hk=>by rcases(h1 k).2 hk with rfl | rfl;exact h2.lt.1;exact h2.lt.2
 iv:=true
 inv:=Pd.Ok
 eF:=fun⟨_,_,h⟩=>h.ok
 fo:=fun _ s path off=>match path,off with
  | 0,0=>some (.o 1 0)
  | 0,1=>some (.v (.int .i64 s.aq))
  | _,_=>none
 nR:=by
  rintro r s X w path off f v ⟨a,hX,hD⟩ hf hv
  have h:=F4 hD
  split at hf
  ·injection hf with hf;subst hf;simp only [fvV]at hv
   exact⟨(hX _).1 (.inl rfl),by rw [← hv];exact h.1⟩
  ·injection hf with hf;subst hf;simp only [fvV]at hv
   exact⟨(hX _).1 (.inl rfl),by rw [← hv];exact h.2⟩
  ·cases hf
 fs:=fun _ s path off v=>match path,off,v with
  | 0,1,.int .i64 x=>some (0≤x∧x≤64,s.dD x)
  | _,_,_=>none
 nP:=by
  rintro r s s' X w path off v c ⟨a,hX,hD⟩ hf hc K hK
  split at hf
  ·simp only [Option.some.injEq,Prod.mk.injEq]at hf
   obtain⟨rfl,rfl⟩:=hf
   exact hD.yp hc fun w' h' q=>hK w' ⟨a,hX,h'⟩ (q.mono fun k hk=>(hX k).1 (.inl hk))
  ·cases hf
def Ge:Kind UE where
 ty:=Mem
 pred:=fun r s X w=>∃L:dL,(∀k,L.X k↔X k)∧bF w (r 0) L s
 ch:=fun⟨L,h2,h3⟩ q hb=>⟨L,h2,h3.ch q fun k hk=>hb k ((h2 k).1 hk)⟩
 lt:=fun⟨_,h2,h3⟩ k hk=>h3.lt k ((h2 k).2 hk)
 iv:=true
 inv:=Mem.Wf
 eF:=fun⟨_,_,h⟩=>⟨h.u32,h.most⟩
def G0:Kind UE where
 ty:=Pd
 pred:=fun r s X w=>(∀k,(k=r 0∨k=r 2)↔X k)∧kO w (r 0) (r 1) (r 2) (r 3) s
 ch:=fun⟨h1,h2⟩ q hb=>⟨h1,h2.ch q (hb _ ((h1 _).1 (.inl rfl))) (hb _ ((h1 _).1 (.inr rfl)))⟩
 lt:=fun⟨h1,h2⟩ k hk=>by rcases(h1 k).2 hk with rfl | rfl;exact h2.lt.1;exact h2.lt.2
 li:=fun r s i=>match i with
  | 0=>some ⟨4,some ⟨r 2,0,none⟩,r 3,s.aj⟩
  | _=>none
 lX:=by
  rintro r s X w i L h hl
  split at hl
  ·injection hl with hl;subst hl;exact EV h.1 h.2
  ·cases hl
 st:=fun _ s j i tt=>match j,tt with
  | 0,4=>fun x=>some ((Ent.ok x=true∧Ent.owner x<((s.n:Nat):Int)),s.set i x)
  | _,_=>fun _=>none
 j9:=by
  rintro r s s' X w j i L x y off vs c h hl hx ho hy hs hc K hK
  split at hl
  ·injection hl with hl
   subst hl
   simp only [Option.some.injEq,Prod.mk.injEq]at hs
   obtain⟨rfl,rfl⟩:=hs
   exact h.2.EO hx ho hy hc fun w' h' q=>hK w' ⟨h.1,h'⟩ (q.mono fun k hk=>(h.1 k).1 (.inr hk))
  ·cases hl
 iv:=true
 inv:=Pd.Ok
 eF:=fun⟨_,h⟩=>h.ok
 fo:=fun _ s path off=>match path,off with
  | 0,0=>some (.o 1 0)
  | 0,1=>some (.l 0)
  | 0,2=>some (.v (.int .i64 s.aq))
  | _,_=>none
 nR:=by
  rintro r s X w path off f v ⟨hX,hD⟩ hf hv
  have h:=EW hD
  split at hf
  ·injection hf with hf;subst hf;simp only [fvV]at hv
   exact⟨(hX _).1 (.inl rfl),by rw [← hv];exact h.1⟩
  ·injection hf with hf;subst hf;simp only [fvV]at hv
   exact⟨(hX _).1 (.inl rfl),by rw [← hv];exact h.2.1⟩
  ·injection hf with hf;subst hf;simp only [fvV]at hv
   exact⟨(hX _).1 (.inl rfl),by rw [← hv];exact h.2.2⟩
  ·cases hf
 fs:=fun _ s path off v=>match path,off,v with
  | 0,2,.int .i64 x=>some (0≤x∧x≤64,s.dD x)
  | _,_,_=>none
 nP:=by
  rintro r s s' X w path off v c ⟨hX,hD⟩ hf hc K hK
  split at hf
  ·simp only [Option.some.injEq,Prod.mk.injEq]at hf
   obtain⟨rfl,rfl⟩:=hf
   exact hD.yp hc fun w' h' q=>hK w' ⟨hX,h'⟩ (q.mono fun k hk=>(hX k).1 (.inl hk))
  ·cases hf
def G3:Kind UE where
 ty:=Dg
 pred:=fun r s X w=>∃L:DgL,(∀k,L.X (r 0) k↔X k)∧po w (r 0) L s
 ch:=fun⟨L,h2,h3⟩ q hb=>⟨L,h2,h3.ch q fun k hk=>hb k ((h2 k).1 hk)⟩
 lt:=fun⟨_,h2,h3⟩ k hk=>h3.lt k ((h2 k).2 hk)
def Gd(b:Nat):Kind UE where
 ty:=List Int
 pred:=fun _ s X w=>(∀k,k=b↔X k)∧rO w b s
 ch:=fun⟨h2,h3⟩ q hb=>⟨h2,h3.ch q fun k hk=>hb k ((h2 k).1 hk)⟩
 lt:=fun⟨h2,h3⟩ k hk=>h3.lt k ((h2 k).2 hk)
def kU:Kind UE where
 ty:=List U32
 pred:=fun r s X w=>(∀k,k=r 0↔X k)∧rL w (r 0) s
 ch:=fun⟨h2,T,h3⟩ q hb=>⟨h2,T,q.blk h3 (hb _ ((h2 _).1 rfl))⟩
 lt:=fun⟨h2,T,h3⟩ k hk=>by rw [(h2 k).2 hk];exact h3.lt
 li:=fun r s i=>match i with
  | 0=>some ⟨1,some ⟨r 0,0,none⟩,s.length,s⟩
  | _=>none
 lX:=by
  rintro r s X w i L h hl
  split at hl
  ·injection hl with hl;subst hl;exact C6 h.1 h.2
  ·cases hl
 st:=fun _ s j i tt=>match j,tt with
  | 0,1=>fun x=>some (True,s.set i x)
  | _,_=>fun _=>none
 j9:=by
  rintro r s s' X w j i L x y off vs c h hl hx ho hy hs hc K hK
  split at hl
  ·injection hl with hl
   subst hl
   simp only [Option.some.injEq,Prod.mk.injEq]at hs
   obtain⟨rfl,rfl⟩:=hs
   exact C5 h.1 h.2 hx ho hy hK
  ·cases hl
 ix:=fun path off=>match path,off with
  | 0,0=>some 0
  | _,_=>none
 nO:=by
  rintro r s path off i L h hl
  split at h
  ·injection h with h;subst h
   injection hl with hl;subst hl;rfl
  ·cases h
 wl:=fun _ s path off n=>match path,off with
  | 0,0=>some (s.length=n,ay (fun j=>.int .u32 (s.getD j (U32.mk 0)).v) (upN 0 n))
  | _,_=>none
 px:=by
  rintro r s X w path off n c cs h hw hc
  split at hw
  ·simp only [Option.some.injEq,Prod.mk.injEq]at hw
   obtain⟨rfl,rfl⟩:=hw
   exact C4 h.1 h.2 hc
  ·cases hw
 ws:=fun _ s path off vs=>match path,off with
  | 0,0=>(match tD vs with
   | some l=>some (s.length=l.length,l)
   | none=>none)
  | _,_=>none
 mT:=by
  rintro r s s' X w path off vs c h hs hc K hK
  split at hs
  ·split at hs
   ·rename_i l hl
    simp only [Option.some.injEq,Prod.mk.injEq]at hs
    obtain⟨rfl,rfl⟩:=hs
    exact C3 h.1 h.2 hl hc hK
   ·cases hs
  ·cases hs
def kFl:Kind UE where
 ty:=Fl
 pred:=fun r s X w=>(∀k,k=r 0↔X k)∧FlP w (r 0) s
 ch:=fun⟨h2,h3,T,h4⟩ q hb=>⟨h2,h3,T,q.blk h4 (hb _ ((h2 _).1 rfl))⟩
 lt:=fun⟨h2,_,T,h3⟩ k hk=>by rw [(h2 k).2 hk];exact h3.lt
 li:=fun r s i=>match i with
  | 0=>some ⟨1,some ⟨r 0,0,none⟩,s.rs.length,s.rs⟩
  | _=>none
 lX:=by
  rintro r s X w i L h hl
  split at hl
  ·injection hl with hl;subst hl;exact h.2.li h.1
  ·cases hl
 fs:=fun _ s path off v=>match path,off,v with
  | 0,15,.int .u32 x=>some (True,{s with pc:=x})
  | 0,16,.bool x=>some (True,{s with z:=x})
  | 0,17,.bool x=>some (True,{s with n:=x})
  | 0,18,.bool x=>some (True,{s with l:=x})
  | _,_,_=>none
 nP:=by
  rintro r s s' X w path off v c h hf hc K hK
  split at hf
  all_goals first
   | cases hf;done
   | (simp only [Option.some.injEq,Prod.mk.injEq]at hf
      obtain⟨rfl,rfl⟩:=hf
      exact FlP.st h.2 (by omega) (by exact h.2.len) (by rfl) fun w' h' q=>hK w' ⟨h.1,h'⟩ (q.mono fun k hk=>(h.1 k).1 hk))
 st:=fun _ s j i tt=>match j,tt with
  | 0,1=>fun x=>some (True,s.oP i x)
  | _,_=>fun _=>none
 j9:=by
  rintro r s s' X w j i L x y off vs c h hl hx ho hy hs hc K hK
  split at hl
  ·injection hl with hl
   subst hl
   simp only [Option.some.injEq,Prod.mk.injEq]at hs
   obtain⟨rfl,rfl⟩:=hs
   exact h.2.stR h.1 hx ho hy hK
  ·cases hl
 iv:=true
 inv:=Fl.Ok
 eF:=fun h=>h.2.len
 fo:=fun _ s path off=>match path,off with
  | 0,15=>some (.v (.int .u32 s.pc))
  | 0,16=>some (.v (.bool s.z))
  | 0,17=>some (.v (.bool s.n))
  | 0,18=>some (.v (.bool s.l))
  | _,_=>none
 nR:=by
  rintro r s X w path off f v ⟨hX,hl,T,hb⟩ hf hv
  split at hf
  all_goals first
   | cases hf;done
   | (injection hf with hf
      subst hf
      simp only [fvV,Option.some.injEq]at hv
      exact⟨(hX _).1 rfl,by rw [← hv];exact hb.cell rfl⟩)
 ix:=fun path off=>match path,off with
  | 0,0=>some 0
  | _,_=>none
 nO:=by
  rintro r s path off i L h hl
  split at h
  ·injection h with h;subst h
   injection hl with hl;subst hl;rfl
  ·cases h
 wl:=fun _ s path off n=>match path,off,n with
  | 0,0,19=>some (True,s.cells)
  | _,_,_=>none
 px:=by
  rintro r s X w path off n c cs ⟨hX,hl,T,hb⟩ hw hc
  split at hw
  ·simp only [Option.some.injEq,Prod.mk.injEq]at hw
   obtain⟨rfl,rfl⟩:=hw
   exact⟨(hX _).1 rfl,fun j u hj=>by rw [Nat.zero_add];exact hb.cell (by simpa using hj)⟩
  ·cases hw
 ws:=fun _ _ path off vs=>match path,off with
  | 0,0=>(match tF vs with
   | some l=>some (True,l)
   | none=>none)
  | _,_=>none
 mT:=by
  rintro r s s' X w path off vs c h hs hc K hK
  split at hs
  ·split at hs
   ·rename_i l hl
    simp only [Option.some.injEq,Prod.mk.injEq]at hs
    obtain⟨rfl,rfl⟩:=hs
    obtain⟨e,h2⟩:=lB hl
    subst e
    exact h.2.all h2 fun w' h' q=>hK w' ⟨h.1,h'⟩ (q.mono fun k hk=>(h.1 k).1 hk)
   ·cases hs
  ·cases hs
def clL:List (Int×Value):= [(1,.func (.func 136) #[] #[]),(2,.func (.func 137) #[] #[]),(3,.func (.func 138) #[] #[]),(4,.func (.func 139) #[] #[]),(5,.func (.func 140) #[] #[]),(6,.func (.func 141) #[] #[]),(7,.func (.func 142) #[] #[])]
def kCl:Kind UE where
 ty:=Unit
 pred:=fun r _ X w=>(∀k,k=r 0↔X k)∧jX w (r 0) clL
 ch:=fun⟨h1,h2⟩ q hb=>⟨h1,h2.ch q (hb _ ((h1 _).1 rfl))⟩
 lt:=fun⟨h1,h2⟩ k hk=>by rw [(h1 k).2 hk];exact h2.lt
 mp:=fun _=>some clL
 ta:=fun h e=>by injection e with e;rw [← e];exact h.2
theorem Nst.AH {s:Nst} {k:Nat}(h:¬k<s.hs.length):s.hd k=⟨none,0,0⟩:=by unfold hd;rw [List.getD_eq_getElem?_getD,List.getElem?_eq_none (by omega)];rfl
theorem Nst.AG {s:Nst} {k:Nat}(h:¬k<s.ls.length):s.l k= []:=by unfold l;rw [List.getD_eq_getElem?_getD,List.getElem?_eq_none (by omega)];rfl
theorem gh.len {w:World} {s:Nst} {X:Nat→Prop}(h:gh w s X)(k:Nat):(s.hd k).n=(s.l k).length:=by
 by_cases hk:k<s.hs.length
 ·exact h.ok.n k hk
 ·rw [Nst.AH hk,Nst.AG (by rw [h.ok.len];exact hk)];rfl
theorem gh.rd {w:World} {s:Nst} {X:Nat→Prop}(h:gh w s X)(k:Nat):Rd w X (s.hd k).A (s.l k).length (s.hd k).c (s.l k):=by
 by_cases hk:k<s.hs.length
 ·rw [← h.ok.n k hk];exact h.inn k hk
 ·rw [Nst.AH hk,Nst.AG (by rw [h.ok.len];exact hk)]
  exact⟨rfl,Nat.zero_le _,h.lt,fun i x hx=>by cases hx⟩
def G1:Kind UE where
 ty:=Nst
 pred:=fun _ s X w=>gh w s X
 ch:=fun h q hb=>h.ch q hb
 lt:=fun h=>h.lt
 iv:=true
 inv:=Nst.Ok
 eF:=fun h=>h.ok
 li:=fun _ s i=>match i with
  | 0=>some ⟨7,s.A,s.c,s.hs⟩
  | k+1=>some ⟨1,(s.hd k).A,(s.hd k).c,s.l k⟩
 lX:=by
  rintro r s X w i L h hl
  split at hl
  ·injection hl with hl;subst hl;exact h.out
  ·rename_i k;injection hl with hl;subst hl;exact h.rd k
 ne:=fun j=>Nat.beq j 0
 sY:=by
  rintro r s X w j i L x h hj hl hx
  have hj:=Nat.eq_of_beq_eq_true hj
  subst hj
  injection hl with hl
  subst hl
  exact⟨_,rfl,h.ne hx⟩
 st:=fun _ s j i tt=>match j,tt with
  | k+1,1=>fun x=>some (s.own=true,s.set k i x)
  | _,_=>fun _=>none
 j9:=by
  rintro r s s' X w j i L x y off vs c h hl hx ho hy hs hc K hK
  match j,hl with
  | 0,hl=>exact absurd hs (by intro e;cases e)
  | k+1,hl=>
   injection hl with hl
   subst hl
   simp only [Option.some.injEq,Prod.mk.injEq]at hs
   obtain⟨rfl,rfl⟩:=hs
   have hk:k<s.hs.length:=by
    have hx:(s.l k)[i]? =some x:=hx
    by_cases hk:k<s.hs.length
    ·exact hk
    ·rw [Nst.AG (by rw [h.ok.len];exact hk)]at hx;cases hx
   exact h.st hc hk hx ho hy hK
def UK:Nat→Kind UE
 | 0=>G2
 | 1=>kPd
 | 2=>Ge
 | 3=>G0
 | 4=>G3
 | 5=>Gd 0
 | 6=>Gd 1
 | 7=>kU
 | 10=>kFl
 | 12=>kCl
 | 13=>G1
 | _=>Kind.none UE
abbrev dB(t:Nat)(r:Nat→Nat)(s:(UK t).ty)(X:Nat→Prop)(w:World):Prop:=(UK t).pred r s X w
theorem FG {t:Nat} {r:Nat→Nat} {s:(UK t).ty} {X:Nat→Prop} {w:World}(h:dB t r s X w):(UK t).inv s:=(UK t).eF h
def UMk:TypeId→List Value→Option ((t:Nat)×(UK t).ty)
 | 168,cs=>(match tD cs with
  | some l=>some ⟨7,l⟩
  | none=>none)
 | 24,cs=>(match tD cs with
  | some l=>some ⟨7,l⟩
  | none=>none)
 | 37,cs=>(match tF cs with
  | some s=>some ⟨10,s⟩
  | none=>none)
 | _,_=>none
theorem FF {T:TypeId} {cs:List Value} {q:(t:Nat)×(UK t).ty} {w:World} {g:Nat}(h:UMk T cs=some q)(hb:Blk w g ⟨cs⟩ T):(UK q.1).pred (fun _=>g) q.2 (fun k=>k=g) w:=by
 unfold UMk at h
 split at h
 ·split at h
  ·rename_i l hl
   injection h with h
   subst h
   have:=kB hl
   subst this
   exact(⟨fun k=>Iff.rfl,_,hb.cast (by simp [eN])⟩:(∀k,k=g↔k=g)∧rL w g l)
  ·cases h
 ·split at h
  ·rename_i l hl
   injection h with h
   subst h
   have:=kB hl
   subst this
   exact(⟨fun k=>Iff.rfl,_,hb.cast (by simp [eN])⟩:(∀k,k=g↔k=g)∧rL w g l)
  ·cases h
 ·split at h
  ·rename_i s hs
   injection h with h
   subst h
   obtain⟨rfl,h2⟩:=lB hs
   exact(⟨fun k=>Iff.rfl,h2,_,hb⟩:(∀k,k=g↔k=g)∧FlP w g s)
  ·cases h
 ·cases h
def Un:Uni:=Uni.of UE UK (fun t=>match t with
 | 3=>some 0
 | 23=>some 1
 | 4=>some 3
 | 127=>some 4
 | 157=>some 4
 | 33=>some 5
 | 31=>some 7
 | _=>none) UMk FF
theorem uO0 {a b:Mem}(h:a=b):Upd.ob (U:=Un) 0 a= .ob 0 b:=congrArg (Upd.ob (U:=Un) 0) h
theorem rO0 {r:Nat→Nat} {a b:Mem}(h:a=b):Res.ob (U:=Un) 0 r a= .ob 0 r b:=congrArg (Res.ob (U:=Un) 0 r) h
theorem uO1 {a b:Pd}(h:a=b):Upd.ob (U:=Un) 1 a= .ob 1 b:=congrArg (Upd.ob (U:=Un) 1) h
theorem rO1 {r:Nat→Nat} {a b:Pd}(h:a=b):Res.ob (U:=Un) 1 r a= .ob 1 r b:=congrArg (Res.ob (U:=Un) 1 r) h
theorem uO2 {a b:Mem}(h:a=b):Upd.ob (U:=Un) 2 a= .ob 2 b:=congrArg (Upd.ob (U:=Un) 2) h
theorem rO2 {r:Nat→Nat} {a b:Mem}(h:a=b):Res.ob (U:=Un) 2 r a= .ob 2 r b:=congrArg (Res.ob (U:=Un) 2 r) h
theorem uO3 {a b:Pd}(h:a=b):Upd.ob (U:=Un) 3 a= .ob 3 b:=congrArg (Upd.ob (U:=Un) 3) h
theorem rO3 {r:Nat→Nat} {a b:Pd}(h:a=b):Res.ob (U:=Un) 3 r a= .ob 3 r b:=congrArg (Res.ob (U:=Un) 3 r) h
end Go.Proofs.YtfmcaoaaiganbaaGreatDoor
namespace Go.Proofs.YtfmcaoaaiganbaaGreatDoor
open Go.Proofs.Tryz (prog)
open Go Go.RowKit V Go.ChangeShapes Go.WideShapes Go.ChangeAt
open Go.IntKind (i64 u32 u64)
open Enc (enc)
end Go.Proofs.YtfmcaoaaiganbaaGreatDoor
namespace Go.Proofs.YtfmcaoaaiganbaaGreatDoor
open Go.Proofs.Tryz (prog)
open Go Go.RowKit V
open Go.IntKind (i64 u32 u64)
section
set_option maxRecDepth 100000
def kW(streamsA:Option Addr)(streamsN:Nat)(streamsC:Nat)(R:ax)(w:World):Prop:=
 ∀i:Int,i=0→
 ∃I:Nat→Option Addr→Nat→Nat→Int→World→Prop,(∃m,I m none 0 0 i w)∧∀(m:Nat)(Ic:Nat→Value)(lA:Option Addr)(lN:Nat)(lC:Nat)(i1:Int),∀wv,I m lA lN lC i1 wv→
 split (decide ((i1:Int)<((streamsN:Nat):Int))) (
  (0≤(i1:Int)∧(i1:Int)<((streamsN:Nat):Int))∧
  av streamsA fun MK=>
  ∃Lx:Option Addr,∃Lv:Nat,∃Lw:Nat,wv.cell? (MK.add (Int.toNat i1*1))=some (.slice Lx Lv Lw)∧
  ∃P2:Option Addr,∃P0:Nat,∃P1:Nat,∃Hb,(Builtin.append_ #[31,31] 31 #[(.slice none 0 0),(.slice Lx Lv Lw)]:Sem Value).run prog wv= .ok (.slice P2 P0 P1) Hb∧
  ∀j:Int,j=0→
  ∃I1:Nat→Option Addr→Nat→Nat→Int→World→Prop,(∃m2,I1 m2 P2 P0 P1 j Hb)∧∀(m2:Nat)(Hn:Nat→Value)(sA:Option Addr)(sN:Nat)(sC:Nat)(j1:Int),∀He,I1 m2 sA sN sC j1 He→
  split (decide ((j1:Int)<120)) (
   ∀(IF:Nat)(Hf:World),IF=He.heap.size→Hf=He.alloc (.cells #[(.int .u32 (u32.wrap (77+(u32.wrap j1))))] 23)→
   ∃PL:Option Addr,∃PI:Nat,∃PJ:Nat,∃Hl,(Builtin.append_ #[31,31] 31 #[(.slice sA sN sC),(.slice (some (Addr.mk IF 0 none)) 1 1)]:Sem Value).run prog Hf= .ok (.slice PL PI PJ) Hl∧
   ∀j2:Int,j2=(i64.wrap (j1+1))→
   ∃m3,m3<m2∧I1 m3 PL PI PJ j2 Hl) (
   ∀(IF:Nat)(Hf:World),IF=He.heap.size→Hf=He.alloc (.cells #[(.slice sA sN sC)] 31)→
   ∃PA:Option Addr,∃Py:Nat,∃Pz:Nat,∃Hl,(Builtin.append_ #[25,25] 25 #[(.slice lA lN lC),(.slice (some (Addr.mk IF 0 none)) 1 1)]:Sem Value).run prog Hf= .ok (.slice PA Py Pz) Hl∧
   ∀i2:Int,i2=(i64.wrap (i1+1))→
   ∃m1,m1<m∧I m1 PA Py Pz i2 Hl)) (
  R (.slice lA lN lC) wv)
def rZ:Ann:=(.node none .leaf (.node none .leaf (.node none (.node none .leaf (.node none (.node (some ⟨[(3,.one (.slice)),(4,.one (.int .i64))],[3,4,5,6,7,8,9,10,11,12,13,14,15,16,17,18,19,20,21,22,23,24,25,26,27,28,29,30,31,32]⟩) (.node none .leaf (.node none (.node none (.node none .leaf (.node none .leaf (.node none (.node none .leaf (.node none (.node (some ⟨[(5,.one (.slice)),(6,.one (.int .i64))],[5,6,19,20,21,22,23,24,25,26,27,28]⟩) .leaf .leaf) .leaf)) .leaf))) .leaf) .leaf)) .leaf) .leaf)) .leaf)))
theorem L19Copied_eq(streamsA:Option Addr)(streamsN:Nat)(streamsC:Nat)(R:ax)(w:World):kW streamsA streamsN streamsC R w=vcF prog aE [3,4,5,6] Tryz.f25 rZ [(.slice streamsA streamsN streamsC)] R none w:=by kernel_rfl
theorem mB(streamsA:Option Addr)(streamsN:Nat)(streamsC:Nat) {R:ax} {w:World}(h:kW streamsA streamsN streamsC R w):Calls prog 25 #[(.slice streamsA streamsN streamsC)] w fun e w'=>∃v,e= .returned v∧R v w':=
 ai Tryz.func25 au aa ((L19Copied_eq streamsA streamsN streamsC R w).mp h)
def kT(lA:Option Addr)(lN:Nat)(lC:Nat)(R:ax)(w:World):Prop:=
 ∀i:Int,i=0→
 ∃I:Nat→Option Addr→Nat→Nat→Int→World→Prop,(∃m,I m none 0 0 i w)∧∀(m:Nat)(Ic:Nat→Value)(pA:Option Addr)(pN:Nat)(pC:Nat)(i1:Int),∀wv,I m pA pN pC i1 wv→
 split (decide ((i1:Int)<((lN:Nat):Int))) (
  ∃b:Nat→Nat→Prop,
  (0≤(i1:Int)∧(i1:Int)<((lN:Nat):Int))∧
  av lA fun Qv=>
  b 4 ((Qv.add (Int.toNat i1*1)).block)∧
  ∃KR:Option Addr,∃LA:Nat,∃KQ:Nat,wv.drew.cell? (Qv.add (Int.toNat i1*1))=some (.slice KR LA KQ)∧
  (0≤(i1:Int)∧(i1:Int)<((lN:Nat):Int))∧
  av lA fun RB=>
  b 8 ((RB.add (Int.toNat i1*1)).block)∧
  ∃MF:Option Addr,∃JS:Nat,∃ME:Nat,wv.drew.cell? (RB.add (Int.toNat i1*1))=some (.slice MF JS ME)∧
  (0≤(i64.wrap (((JS:Nat):Int) - 120):Int)∧(i64.wrap (((JS:Nat):Int) - 120):Int)≤((KQ:Nat):Int))∧
  ∀Lq:Option Addr,Lq=(if KQ=0 then KR else(KR:Option Addr).map (·.add (0*1)))→∀Lp:Nat,Lp=(Int.toNat (i64.wrap (((JS:Nat):Int) - 120))) - 0→∀MD:Nat,MD=KQ - 0→
  ∀(Hm:Nat)(Hb:World),Hm=wv.drew.heap.size→Hb=wv.drew.alloc (.cells #[(.slice Lq Lp MD)] 31)→
  Kept (fm b [0,1,2,5,6,7,8]) wv.drew Hb∧∃b1:Nat→Nat→Prop,(∀i k,b i k→b1 i k)∧
  ∃MC:Option Addr,∃Lm:Nat,∃MB:Nat,∃He,(Builtin.append_ #[25,25] 25 #[(.slice pA pN pC),(.slice (some (Addr.mk Hm 0 none)) 1 1)]:Sem Value).run prog Hb= .ok (.slice MC Lm MB) He∧
  Kept (fm b1 [1,2,3,5,6,7,8,9]) Hb He∧∃b2:Nat→Nat→Prop,(∀i k,b1 i k→b2 i k)∧
  ∀i2:Int,i2=(i64.wrap (i1+1))→
  ∃m1,m1<m∧I m1 MC Lm MB i2 He) (
  R (.slice pA pN pC) wv)
def rY:Ann:=(.node none .leaf (.node none .leaf (.node none (.node none .leaf (.node none (.node (some ⟨[(3,.one (.slice)),(4,.one (.int .i64))],[3,4,5,6,7,8,9,10,11,12,13,14,15,16,17,18,19,20,21,22,23,24]⟩) .leaf .leaf) .leaf)) .leaf)))
theorem L19Pieces_eq(lA:Option Addr)(lN:Nat)(lC:Nat)(R:ax)(w:World):kT lA lN lC R w=vcF prog aE [3,4] Tryz.f24 rY [(.slice lA lN lC)] R none w:=by kernel_rfl
theorem mA(lA:Option Addr)(lN:Nat)(lC:Nat) {R:ax} {w:World}(h:kT lA lN lC R w):Calls prog 24 #[(.slice lA lN lC)] w fun e w'=>∃v,e= .returned v∧R v w':=
 ai Tryz.func24 au aa ((L19Pieces_eq lA lN lC R w).mp h)
end
section
set_option maxRecDepth 100000
def ou(R:ax)(w:World):Prop:=
 ∃x1:Option Nat,∃wv,(Instr.makeMap 148 none:Sem Value).run prog w= .ok (.map x1) wv∧
 ∃Hb:World,(Instr.mapUpdate 148 (.map x1) (.int .u32 1) (.func (.func 136) #[] #[]):Sem Unit).run prog wv= .ok () Hb∧
 ∃He:World,(Instr.mapUpdate 148 (.map x1) (.int .u32 2) (.func (.func 137) #[] #[]):Sem Unit).run prog Hb= .ok () He∧
 ∃Hf:World,(Instr.mapUpdate 148 (.map x1) (.int .u32 3) (.func (.func 138) #[] #[]):Sem Unit).run prog He= .ok () Hf∧
 ∃Hl:World,(Instr.mapUpdate 148 (.map x1) (.int .u32 4) (.func (.func 139) #[] #[]):Sem Unit).run prog Hf= .ok () Hl∧
 ∃HG:World,(Instr.mapUpdate 148 (.map x1) (.int .u32 5) (.func (.func 140) #[] #[]):Sem Unit).run prog Hl= .ok () HG∧
 ∃ID:World,(Instr.mapUpdate 148 (.map x1) (.int .u32 6) (.func (.func 141) #[] #[]):Sem Unit).run prog HG= .ok () ID∧
 ∃IX:World,(Instr.mapUpdate 148 (.map x1) (.int .u32 7) (.func (.func 142) #[] #[]):Sem Unit).run prog ID= .ok () IX∧
 R (.map x1) IX
def we:Ann:= .leaf
theorem SvCalls_eq(R:ax)(w:World):ou R w=vcF prog aE [] Tryz.f77 we [] R none w:=by kernel_rfl
theorem o3 {R:ax} {w:World}(h:ou R w):Calls prog 77 #[] w fun e w'=>∃v,e= .returned v∧R v w':=
 ai Tryz.func77 au aa ((SvCalls_eq R w).mp h)
end
end Go.Proofs.YtfmcaoaaiganbaaGreatDoor
namespace Go.Proofs.YtfmcaoaaiganbaaGreatDoor
open Go.Proofs.Tryz (prog)
open Go Go.RowKit V
open Go.IntKind (i64 u32 u64)
structure Ci(w:World)(a n:Nat)(pg:Nat→Nat)(f:Nat→Nat→Int):Prop where
 row:∃T cs,Blk w a cs T∧∀i,i<n→cs[i]? =some (ptr (pg i))
 pgs:∀i,i<n→fw w (pg i) (f i)
theorem Ci.pu {w w':World} {a n:Nat} {pg:Nat→Nat} {f:Nat→Nat→Int}(h:Ci w a n pg f)(q:Pu w w'):Ci w' a n pg f:=by
 obtain⟨⟨T,cs,hr,h2⟩,h3⟩:=h
 exact⟨⟨T,cs,q.blk hr,h2⟩,fun i hi=>(h3 i hi).pu q⟩
def BH(n n':Nat)(f g:Nat→Nat→Int):Bool:=decide (n=n') && (List.range n).all fun i=>(List.range 1024).all fun o=>f i o==g i o
def Mem.same(m o:Mem):Bool:=BH m.S o.S (m.pg true) (o.pg true) && BH m.I o.I (m.pg false) (o.pg false)
namespace Ent
theorem or0 {e:Ent}(h:e.ok=true):u32.wrap (BitVec.ofInt u32.bits (u32.wrap (BitVec.ofInt u32.bits (u32.wrap ((u32.wrap e.typ:Int)*2 ^ 0)) ||| BitVec.ofInt u32.bits (u32.wrap ((u32.wrap e.state:Int)*2 ^ 4))).toNat) ||| BitVec.ofInt u32.bits (u32.wrap ((u32.wrap e.owner:Int)*2 ^ 16))).toNat=e.typ+16*e.state+65536*e.owner:=by
 have h1:=cS h
 have h2:=iB h
 rw [bM (x:=e.typ) (by omega),bM (x:=e.state) (by omega),bM (x:=e.owner) (by omega),bM (x:=e.typ*2 ^ 0) (by omega),bM (x:=e.state*2 ^ 4) (by omega),bM (x:=e.owner*2 ^ 16) (by omega),nB (x:=e.typ*2 ^ 0) (by omega) (by omega),kj,
  show e.state*2 ^ 4=2 ^ 4*e.state by omega,ef 4 (by omega) (by omega) (by omega),nB (by omega) (by omega),kj,show e.owner*2 ^ 16=2 ^ 16*e.owner by omega,ef 16 (by omega) (by omega) (by omega)]
 omega
theorem or1 {x:Int}(h:∃a b:Int,x=a+512*b∧0≤a∧a<256∧0≤b∧b<8388608):u32.wrap (BitVec.ofInt u32.bits x ||| BitVec.ofInt u32.bits 256).toNat=x+256:=by
 obtain⟨a,b,rfl,h1,h2,h3,h4⟩:=h
 have e1:nor (2 ^ 8*1) a=2 ^ 8*1+a:=ef 8 (by omega) h1 h2
 have e2:nor (2 ^ 9*b) a=2 ^ 9*b+a:=ef 9 h3 h1 (by omega)
 have e3:nor (2 ^ 9*b) (256+a)=2 ^ 9*b+(256+a):=ef 9 h3 (by omega) (by omega)
 rw [nB (by omega) (by omega)]
 have assoc:∀x y z:Int,nor (nor x y) z=nor x (nor y z):=by
  intro x y z;unfold nor;simp [Nat.or_assoc]
 rw [show a+512*b=2 ^ 9*b+a by omega,← e2,assoc,kj a 256,show nor 256 a=256+a by simpa using e1,e3,e2]
 omega
theorem mask(k:Nat) {x:Int}(m:Int)(hm:m=2 ^ k - 1)(hk:k≤31)(hx:0≤x∧x<4294967296):i64.wrap (u32.wrap (BitVec.ofInt u32.bits x &&& BitVec.ofInt u32.bits m).toNat)=x % 2 ^ k:=by
 have h2:(2:Int) ^ k≤2 ^ 31:=by exact_mod_cast Nat.pow_le_pow_right (n:=2) (by omega) hk
 have h3:(0:Int)<2 ^ k:=Int.pow_pos (by omega)
 have h4:=Int.emod_nonneg x (Int.ne_of_gt h3)
 have h5:=Int.emod_lt_of_pos x h3
 subst hm
 rw [rF hx (by omega),pU k hx.1,ah (by omega)]
theorem F8(k:Nat) {x:Int}(m:Int)(hm:m=2 ^ k - 1)(hk:k≤31)(hx:0≤x∧x<4294967296):u32.wrap (BitVec.ofInt u32.bits x &&& BitVec.ofInt u32.bits m).toNat=x % 2 ^ k:=by
 have h2:(2:Int) ^ k≤2 ^ 31:=by exact_mod_cast Nat.pow_le_pow_right (n:=2) (by omega) hk
 have h3:(0:Int)<2 ^ k:=Int.pow_pos (by omega)
 subst hm
 rw [rF hx (by omega),pU k hx.1]
theorem je {x:Int}(n:Nat)(hx:0≤x∧x<4294967296):0≤x.fdiv (2 ^ n)∧x.fdiv (2 ^ n)<4294967296:=by
 rw [nV]
 have h3:(0:Int)<2 ^ n:=Int.pow_pos (by omega)
 refine⟨Int.ediv_nonneg hx.1 (by omega),?_⟩
 have:=Int.ediv_le_self (2 ^ n) hx.1
 omega
theorem parts_eq {a b:Int}(ha:0≤a∧a<4294967296)(hb:0≤b∧b<4294967296):
 i64.wrap (u32.wrap (BitVec.ofInt u32.bits ((a:Int).fdiv (2 ^ 0)) &&& BitVec.ofInt u32.bits 7).toNat)=(parts a b).typ∧
 i64.wrap (u32.wrap (BitVec.ofInt u32.bits ((a:Int).fdiv (2 ^ 16)) &&& BitVec.ofInt u32.bits 63).toNat)=(parts a b).owner∧
 i64.wrap (u32.wrap (BitVec.ofInt u32.bits b &&& BitVec.ofInt u32.bits 63).toNat)=(parts a b).refs∧
 i64.wrap (u32.wrap (BitVec.ofInt u32.bits ((a:Int).fdiv (2 ^ 4)) &&& BitVec.ofInt u32.bits 3).toNat)=(parts a b).state∧
 ((u32.wrap (BitVec.ofInt u32.bits ((a:Int).fdiv (2 ^ 8)) &&& BitVec.ofInt u32.bits 1).toNat:Int)==1)=(parts a b).aM:=by
 refine⟨?_,?_,?_,?_,?_⟩
 ·rw [mask 3 7 (by decide) (by decide) (je 0 ha),nV];simp [parts]
 ·rw [mask 6 63 (by decide) (by decide) (je 16 ha),nV];simp [parts]
 ·rw [mask 6 63 (by decide) (by decide) hb];simp [parts]
 ·rw [mask 2 3 (by decide) (by decide) (je 4 ha),nV];simp [parts]
 ·rw [F8 1 1 (by decide) (by decide) (je 8 ha),nV];simp only [parts];rw [Bool.eq_iff_iff];simp
theorem eqW(a b c d:Int):aY #[.int .u32 a,.int .u32 b] #[.int .u32 c,.int .u32 d]=(decide (a=c) && decide (b=d)):=by
 simp [aY,eqL,js];rfl
end Ent
def yB(w:Int):Bool:=decide (w % 256=1∧w / 256<64)
def aG(w:Int):Int:=if yB w then w / 256 else 0
def iA(w:Int):Int:=if w=0 then 92 else if yB w then 0 else 90
def eI(p:Int):Int:=if 0≤p∧p<64 then 256*p+1 else 0
def cF(p:Int):Int:=if 0≤p∧p<64 then 0 else 4
structure Mp where
 aW:Bool
 ak:Int
 write:Bool
 exec:Bool
deriving DecidableEq
def Mp.bits(m:Mp):Int:=(if m.aW then 2 else 0)+(if m.write then 4 else 0)+(if m.exec then 8 else 0)
def Mp.err(m:Mp):Int:=if 0≤m.ak∧m.ak<64 then(if m.exec && !m.aW then 1 else 0)else 4
def Mp.word(m:Mp):Int:=if m.err=0 then 256*m.ak+1+m.bits else 0
abbrev Mp.nil:Mp:=⟨false,0,false,false⟩
def Mp.xG(w:Int):Mp:=⟨decide (w / 2 % 2=1),w / 256,decide (w / 4 % 2=1),decide (w / 8 % 2=1)⟩
def qU(w:Int):Bool:=decide ((Mp.xG w).err=0∧(Mp.xG w).word=w)
def bz(w:Int):Mp:=if w≠0∧qU w then Mp.xG w else Mp.nil
def kd(w:Int):Int:=if w=0 then 92 else if qU w then 0 else 90
theorem AI {p:Int}(h:0≤p∧p<64):u32.wrap (BitVec.ofInt u32.bits (u32.wrap ((u32.wrap p:Int)*2 ^ 8)) ||| BitVec.ofInt u32.bits 1).toNat=256*p+1:=by
 rw [bM (x:=p) (by omega),bM (x:=p*2 ^ 8) (by omega),nB (by omega) (by omega),show p*2 ^ 8=2 ^ 8*p by omega,ef 8 (by omega) (by omega) (by omega)];omega
theorem vB(k:Nat)(b:Int)(hb:b=2 ^ k)(hk:k≤3) {p a:Int}(h:0≤p∧p<64)(ha:0≤a∧a<b):u32.wrap (BitVec.ofInt u32.bits (256*p+a) ||| BitVec.ofInt u32.bits b).toNat=256*p+(a+b):=by
 subst hb
 have h3:(2:Int) ^ k≤2 ^ 3:=by exact_mod_cast Nat.pow_le_pow_right (n:=2) (by omega) hk
 have h4:(0:Int)<2 ^ k:=Int.pow_pos (by omega)
 have assoc:∀x y z:Int,nor (nor x y) z=nor x (nor y z):=by
  intro x y z;unfold nor;simp [Nat.or_assoc]
 have e1:nor (2 ^ k*1) a=2 ^ k*1+a:=ef k (by omega) ha.1 ha.2
 have e2:nor (2 ^ 8*p) a=2 ^ 8*p+a:=ef 8 h.1 ha.1 (by omega)
 have e3:nor (2 ^ 8*p) (2 ^ k+a)=2 ^ 8*p+(2 ^ k+a):=ef 8 h.1 (by omega) (by omega)
 rw [Int.mul_one]at e1
 rw [nB (by omega) (by omega),show 256*p+a=2 ^ 8*p+a by omega,← e2,assoc,kj a,e1,e3]
 omega
theorem eS(k:Nat)(b:Int)(hb:b=2 ^ k)(hk:k≤30) {x:Int}(hx:0≤x∧x<4294967296):((u32.wrap (BitVec.ofInt u32.bits x &&& BitVec.ofInt u32.bits b).toNat:Int) !=0)=decide (x / b % 2=1):=by
 subst hb
 rw [Bool.eq_iff_iff]
 simp only [bne_iff_ne,ne_eq,decide_eq_true_eq]
 show(¬u32.wrap (BitVec.ofInt u32.bits x &&& BitVec.ofInt u32.bits (2 ^ k)).toNat=0)↔x / 2 ^ k % 2=1
 have h3:(2:Int) ^ k≤2 ^ 30:=by exact_mod_cast Nat.pow_le_pow_right (n:=2) (by omega) hk
 have h4:(0:Int)<2 ^ k:=Int.pow_pos (by omega)
 rw [rF hx (by omega)]
 unfold Dm
 obtain⟨x,rfl⟩:=Int.eq_ofNat_of_zero_le hx.1
 have e:((2:Int) ^ k).toNat=2 ^ k:=by rw [show(2:Int) ^ k=((2 ^ k:Nat):Int)by push_cast;rfl,Int.toNat_natCast]
 rw [e,Int.toNat_natCast]
 have h5:x &&& 2 ^ k=if x.testBit k then 2 ^ k else 0:=by
  apply Nat.eq_of_testBit_eq
  intro j
  rw [Nat.testBit_and,Nat.testBit_two_pow]
  by_cases hj:k=j
  ·subst hj
   cases hb:x.testBit k<;>simp
  ·cases hb:x.testBit k<;>simp [hj,Nat.testBit_two_pow]
 have h6:x.testBit k=decide (x / 2 ^ k % 2=1):=Nat.testBit_eq_decide_div_mod_eq
 rw [h5,h6]
 have h7:((x:Int) / 2 ^ k % 2=1)↔(x / 2 ^ k % 2=1):=by
  rw [show(x:Int) / 2 ^ k % 2=((x / 2 ^ k % 2:Nat):Int)by push_cast;rfl]
  omega
 rw [h7]
 have h8:0<2 ^ k:=Nat.two_pow_pos k
 by_cases h9:x / 2 ^ k % 2=1
 ·simp [h9];omega
 ·simp [h9]
namespace File
def flags(f:Fl):Int:=if f.z then 1 else(if f.n then 2 else 0)+(if f.l then 4 else 0)
def eH(w:Int):Bool:=decide (w=0∨w=1∨w=2∨w=4∨w=6)
def eg(w:Int):Int:=if eH w then 0 else 80
def dj(f:Fl)(w:Int):Fl:=if eH w then {f with z:=decide (w=1),n:=decide (w=2∨w=6),l:=decide (w=4∨w=6)}else Fl.zero
def dO(l:List U32):Int:=if l.length=17 then eg (l.getD 16 ⟨0⟩).v else 80
def bare(l:List U32):Fl:=⟨l.take 15,(l.getD 15 ⟨0⟩).v,false,false,false⟩
def unpack(l:List U32):Fl:=if l.length=17 then dj (bare l) (l.getD 16 ⟨0⟩).v else Fl.zero
theorem tn {f:Fl} {w:Int}(h:eH w=false):dj f w=Fl.zero:=by unfold dj;rw [h];rfl
theorem tq {w:Int}(h:eH w=false):eg w=80:=by unfold eg;rw [h];rfl
theorem vM {f:Fl} {w:Int}(h:eH w=true):dj f w= {f with z:=decide (w=1),n:=decide (w=2∨w=6),l:=decide (w=4∨w=6)}:=by unfold dj;rw [h];rfl
theorem vN {w:Int}(h:eH w=true):eg w=0:=by unfold eg;rw [h];rfl
theorem lR {l:List U32}(h:l.length=17):unpack l=dj (bare l) (l.getD 16 ⟨0⟩).v∧dO l=eg (l.getD 16 ⟨0⟩).v:=⟨if_pos h,if_pos h⟩
theorem nc {l:List U32}(h:¬l.length=17):unpack l=Fl.zero∧dO l=80:=⟨if_neg h,if_neg h⟩
theorem vL {l:List U32}(hw:∀x∈l,0≤x.v∧x.v<4294967296)(i:Nat):0≤(l.getD i ⟨0⟩).v∧(l.getD i ⟨0⟩).v<4294967296:=by
 rw [List.getD_eq_getElem?_getD]
 cases h:l[i]? with
 | none=>simp
 | some x=>exact hw x (List.mem_of_getElem? h)
theorem tp {w:Int}(h:0≤w∧w<4294967296):(if decide (w / 1 % 2=1)then(1:Int)else(if decide (w / 2 % 2=1)then 2 else 0)+(if decide (w / 4 % 2=1)then 4 else 0))=w↔eH w=true:=by
 simp only [eH,decide_eq_true_eq]
 constructor
 ·intro h1;split at h1<;>(try split at h1)<;>(try split at h1)<;>omega
 ·intro h1;rcases h1 with rfl | rfl | rfl | rfl | rfl<;>decide
theorem yO {w:Int}(h:eH w=true):decide (w / 1 % 2=1)=decide (w=1)∧decide (w / 2 % 2=1)=decide (w=2∨w=6)∧decide (w / 4 % 2=1)=decide (w=4∨w=6):=by
 simp only [eH,decide_eq_true_eq]at h
 rcases h with rfl | rfl | rfl | rfl | rfl<;>decide
def part(l:List U32)(i:Int):Fl:=⟨l.take i.toNat++List.replicate (15 - i.toNat) (U32.mk 0),0,false,false,false⟩
theorem bare_eq {l:List U32}(h:l.length=17):Fl.mk [U32.mk ((l.getD 0 (U32.mk 0)).v),U32.mk ((l.getD 1 (U32.mk 0)).v),U32.mk ((l.getD 2 (U32.mk 0)).v),U32.mk ((l.getD 3 (U32.mk 0)).v),U32.mk ((l.getD 4 (U32.mk 0)).v),U32.mk ((l.getD 5 (U32.mk 0)).v),U32.mk ((l.getD 6 (U32.mk 0)).v),U32.mk ((l.getD 7 (U32.mk 0)).v),U32.mk ((l.getD 8 (U32.mk 0)).v),U32.mk ((l.getD 9 (U32.mk 0)).v),U32.mk ((l.getD 10 (U32.mk 0)).v),U32.mk ((l.getD 11 (U32.mk 0)).v),U32.mk ((l.getD 12 (U32.mk 0)).v),U32.mk ((l.getD 13 (U32.mk 0)).v),U32.mk ((l.getD 14 (U32.mk 0)).v)] ((l.getD (Int.toNat 15) (U32.mk 0)).v) false false false=bare l:=by
 match l,h with
 | [_,_,_,_,_,_,_,_,_,_,_,_,_,_,_,_,_],_=>rfl
theorem nT {l:List U32}(h:l.length=17)(w:Int):(dj (bare l) w).Ok:=by
 unfold dj
 split
 ·show(l.take 15).length=15;rw [List.length_take];omega
 ·rfl
end File
namespace Mem
def bx(m:Mem):Nat→Mem
 | 0=>m
 | k+1=>(bx m k).zero true k
theorem EA(m:Mem)(s:Bool)(p:Int):(m.zero s p).S=m.S:=by unfold zero;split<;>rfl
theorem EB(m:Mem)(s:Bool)(p:Int):(m.zero s p).I=m.I:=by unfold zero;split<;>rfl
@[simp] theorem gM(m:Mem):∀k,(m.bx k).S=m.S
 | 0=>rfl
 | k+1=>by rw [bx,EA,gM m k]
@[simp] theorem CO(m:Mem):∀k,(m.bx k).I=m.I
 | 0=>rfl
 | k+1=>by rw [bx,EB,CO m k]
theorem mR(m:Mem) {p:Int}(h:0≤p∧p<9000000000000000000):m.bx (i64.wrap (p+1)).toNat=(m.bx p.toNat).zero true p:=by
 rw [ah (by omega),show(p+1).toNat=p.toNat+1 by omega,bx,show((p.toNat:Nat):Int)=p by omega]
end Mem
def DB.new(m:Mem):DB:=⟨m.bx m.S,0,fun _=>.free⟩
theorem DB.sW(m:Mem):(DB.new m).S=m.S:=m.gM _
theorem DB.qY(m:Mem)(h:1≤m.S):(DB.new m).Ok:=⟨fun p hp=>⟨Ent.xI,by show(0:Int)<((DB.new m).S:Nat);rw [DB.sW];omega⟩,by show(0:Int)≤0∧(0:Int)≤64;omega⟩
def DB.ws(D:DB):List Int:=(List.range D.S).flatMap fun p=>[(D.ent p).w0,(D.ent p).w1]
theorem wT {α:Type}(f g:Nat→α):∀n,((List.range n).flatMap fun p=>[f p,g p]).length=2*n
 | 0=>rfl
 | n+1=>by rw [List.range_succ,List.flatMap_append,List.length_append,wT f g n];simp;omega
theorem DB.vh(D:DB):D.ws.length=2*D.S:=wT _ _ _
theorem DB.words_eq(D:DB):D.words=D.aq::D.ws:=rfl
theorem DB.lay {D:DB} {n:Nat}(hn:n=1+2*D.S):qQ ((List.replicate n 0).set 0 D.aq) 1 (D.ws.take (min (2*D.S) (n - 1)))=D.words:=by
 subst hn
 rw [List.take_of_length_le (by rw [D.vh];omega),show 1+2*D.S=(2*D.S)+1 by omega,List.replicate_succ,List.set_cons_zero]
 have:=sx [D.aq] D.ws [] (List.replicate (2*D.S) 0) (by rw [D.vh];simp)
 simpa [D.words_eq]using this
theorem DB.k8(D:DB):D.words.length=1+2*D.S:=by rw [D.words_eq,List.length_cons,D.vh];omega
def DB.cy(D:DB)(s:Int)(n:Nat):List I64:=((List.range n).filter (D.dZ s)).map fun(p:Nat)=>I64.mk (p:Int)
theorem DB.sO(D:DB)(s:Int) {p:Int}(h:0≤p∧p<64):D.cy s (i64.wrap (p+1)).toNat=if D.dZ s p.toNat then D.cy s p.toNat++ [I64.mk p]else D.cy s p.toNat:=by
 unfold DB.cy
 rw [ah (by omega),show(p+1).toNat=p.toNat+1 by omega,List.range_succ,List.filter_append,List.map_append]
 cases hq:D.dZ s p.toNat
 ·simp [List.filter,hq]
 ·simp [List.filter,hq,show((p.toNat:Nat):Int)=p by omega]
theorem DB.vA(D:DB)(s:Int)(n:Nat):(D.cy s n).length≤n:=by
 unfold DB.cy
 rw [List.length_map]
 exact Nat.le_trans (List.length_filter_le _ _) (by simp)
def DB.wd(l:List U32)(i:Nat):Int:=(l.getD i ⟨0⟩).v
def DB.load(m:Mem)(l:List U32):DB:=⟨m,DB.wd l 0,fun p=>Ent.dec (DB.wd l (1+2*p)) (DB.wd l (2+2*p))⟩
def DB.Bf(m:Mem)(l:List U32)(p:Nat):Bool:=Ent.eJ (DB.wd l (1+2*p)) (DB.wd l (2+2*p))==0 && decide ((Ent.dec (DB.wd l (1+2*p)) (DB.wd l (2+2*p))).owner<m.S)
def DB.bu(m:Mem)(l:List U32):Int:=
 if l.length≠1+2*m.S then 110 else if DB.wd l 0>64 then 110 else if(List.range m.S).all (DB.Bf m l)then 0 else 110
theorem w8 {n:Nat} {v:Value} {i:Nat}(h:i<n):(Array.replicate n v)[i]? =some v:=by simp [h]
def fB(f:Int→Bool)(lo hi:Int):Bool:=(List.range (hi - lo).toNat).all fun i=>f (lo+(i:Int))
theorem bC {f:Int→Bool} {lo hi:Int}:fB f lo hi=true↔∀x,lo≤x→x<hi→f x=true:=by
 unfold fB
 rw [List.all_eq_true]
 constructor
 ·intro h x h1 h2
  have:=h (x - lo).toNat (List.mem_range.2 (by omega))
  rwa [show lo+(((x - lo).toNat:Nat):Int)=x by omega]at this
 ·intro h i hi
  have:=List.mem_range.1 hi
  exact h _ (by omega) (by omega)
theorem gE {f:Int→Bool} {lo hi:Int}(h:hi≤lo):fB f lo hi=true:=bC.2 fun x h1 h2=>by omega
theorem dW {f:Int→Bool} {lo hi:Int}(h:fB f lo hi=true)(hf:f hi=true) {HX:Int}(e:HX=hi+1):fB f lo HX=true:=
 bC.2 fun x h1 h2=>by
  by_cases hx:x=hi
  ·subst hx;exact hf
  ·exact bC.1 h x h1 (by omega)
theorem fp {f:Int→Bool} {lo hi x:Int}(h1:lo≤x)(h2:x<hi)(hf:f x=false):fB f lo hi=false:=by
 cases h:fB f lo hi
 ·rfl
 ·have:=bC.1 h x h1 h2
  rw [hf]at this
  exact this.symm
def bR(f:Int→Bool)(n:Int):Int:=(((List.range n.toNat).countP fun(i:Nat)=>f (i:Int):Nat):Int)
theorem yU {f:Int→Bool}:bR f 0=0:=rfl
theorem cx {f:Int→Bool} {n:Int}(h:0≤n):bR f (n+1)=bR f n+(if f n then 1 else 0):=by
 unfold bR
 rw [show(n+1).toNat=n.toNat+1 by omega,List.range_succ,List.countP_append,Int.natCast_add]
 congr 1
 rw [List.countP_cons,List.countP_nil,show((n.toNat:Nat):Int)=n by omega]
 cases f n<;>simp
theorem fK {f:Int→Bool} {n:Int}:0≤bR f n:=by unfold bR;omega
theorem kC {f:Int→Bool} {n:Int}(h:0≤n):bR f n≤n:=by
 unfold bR
 have:=List.countP_le_length (p:=fun i=>f ((i:Nat):Int)) (l:=List.range n.toNat)
 rw [List.length_range]at this
 omega
theorem n0 {f g:Int→Bool} {n:Int}(h:∀x,0≤x→x<n→f x=g x):bR f n=bR g n:=by
 unfold bR
 congr 1
 apply List.countP_congr
 intro i hi
 have:=List.mem_range.1 hi
 rw [h _ (by omega) (by omega)]
namespace DB
def word(D:DB)(p o:Int):Int:=D.mem.ba true p o
def zero(D:DB)(p lo hi:Int):Bool:=fB (fun o=>D.word p o==0) lo hi
def is(D:DB)(p t:Int):Bool:=D.has p && (D.at_ p).typ==t
def of(D:DB)(p t o:Int):Bool:=D.is p t && (D.at_ p).owner==o
def alive(D:DB)(p:Int):Bool:=D.is (D.at_ p).owner 1 && (D.at_ (D.at_ p).owner).state !=3
def some_(D:DB)(p lo:Int)(n:Nat):List U32:=(List.range n).map fun(i:Nat)=>⟨D.word p (lo+(i:Int))⟩
def gP(D:DB)(p:Int):Bool:=
 decide (D.word p 1<D.aq) && decide (D.word p 2≤4096) && fB (fun q=>!((D.at_ q).typ==1 && D.word q 1==D.word p 1)) 0 p
def Af(D:DB)(p:Int):Bool:=Dg.bu (D.some_ p 11 26)==0 && D.zero p 3 11
def qK(D:DB)(p:Int):Bool:=
 D.zero p 37 1024 && (if(D.at_ p).state=1 then D.Af p else if(D.at_ p).state=2 then D.zero p 11 37 else D.Af p || D.zero p 11 37)
def qL(D:DB)(p:Int):Bool:=(D.at_ p).state==3 || (bR (fun q=>D.of q 3 p) D.S==1 && D.of (D.word p 0) 3 p)
def named(D:DB)(p:Int)(n q:Int):Int:=bR (fun i=>D.word p i !=0 && aG (D.word p i)==q) n
def gV(D:DB)(p i:Int):Bool:=D.word p i==0 || (iA (D.word p i)==0 && D.of (aG (D.word p i)) 4 (D.at_ p).owner)
def gO(D:DB)(p:Int):Bool:=
 D.zero p 256 1024 && (fB (D.gV p) 0 256 && fB (fun q=>!(decide (D.named p 256 q>1) || (D.of q 4 (D.at_ p).owner && D.named p 256 q==0))) 0 D.S)
def kp(D:DB)(p j:Int):Bool:=
 D.word p j==0 || (kd (D.word p j)==0 && (if(bz (D.word p j)).aW then D.of (bz (D.word p j)).ak 5 (D.at_ p).owner else decide ((bz (D.word p j)).ak<D.mem.I)))
def pB(D:DB)(p:Int):Bool:=fB (D.kp p) 0 1024
def gY(D:DB)(p q j:Int):Bool:=kd (D.word q j)==0 && ((bz (D.word q j)).aW && (bz (D.word q j)).ak==p)
def fG(D:DB)(p n:Int):Int:=((List.range n.toNat).map fun(q:Nat)=>if D.of (q:Int) 4 (D.at_ p).owner then bR (D.gY p (q:Int)) 1024 else 0).sum
def pz(D:DB)(p:Int):Bool:=D.fG p D.S==1
def mD(D:DB)(p:Int):Bool:=
 D.zero p 18 1024 && (if(D.at_ p).aM then File.dO (D.some_ p 1 17)==0 && !(D.is (D.at_ p).owner 1 && (D.at_ (D.at_ p).owner).state==1)else D.zero p 1 18)
def clause(D:DB)(c p:Int):Bool:=
 let t:=(D.at_ p).typ
 if c=1 then t !=1 || (D.at_ p).owner==p
 else if c=2 then t !=0 || D.zero p 0 1024
 else if c=3 then t==1 || (t==0 || D.is (D.at_ p).owner 1)
 else if c=4 then t !=1 || (D.at_ p).refs==((D.cy p D.S).length:Int)
 else if c=5 then t !=1 || D.gP p
 else if c=6 then t !=1 || D.qK p
 else if c=7 then t !=1 || D.qL p
 else if c=8 then t !=3 || (!D.alive p || D.gO p)
 else if c=9 then t !=4 || (!D.alive p || D.pB p)
 else if c=10 then t !=5 || (!D.alive p || D.pz p)
 else if c=11 then t !=2 || D.mD p
 else t !=6 || D.zero p 0 1024
def fZ(D:DB)(c:Int):Bool:=fB (D.clause c) 0 D.S
def holds(D:DB)(c:Int):Bool:=decide (1≤c∧c≤12) && D.fZ c
def rk(f:Int→Bool):Nat→Int→Int
 | 0,p=>p
 | n+1,p=>if f p then rk f n (p+1)else p
def eh(D:DB):Nat→Int→Int×Int
 | 0,_=>(0,0)
 | n+1,c=>if D.fZ c then eh D n (c+1)else(c,rk (D.clause c) D.S 0)
def broken(D:DB):Int×Int:=D.eh 12 1
end DB
theorem DB.leastN_eq {f:Int→Bool}:∀ {n:Nat} {lo x:Int},fB f lo x=true→f x=false→lo≤x→x<lo+n→rk f n lo=x
 | 0,lo,x,_,_,h1,h2=>by omega
 | n+1,lo,x,h,hf,h1,h2=>by
  unfold rk
  by_cases hx:lo=x
  ·subst hx;rw [hf];rfl
  ·rw [if_pos (bC.1 h lo (by omega) (by omega))]
   exact leastN_eq (bC.2 fun y a b=>bC.1 h y (by omega) b) hf (by omega) (by omega)
theorem tI {f g:Int→Bool} {n:Int}(h0:0≤n)(h:∀x,0≤x→x<n→f x=true→g x=true):bR f n≤bR g n∧(bR f n=bR g n→∀x,0≤x→x<n→g x=true→f x=true):=by
 obtain⟨m,rfl⟩:=Int.eq_ofNat_of_zero_le h0
 induction m with
 | zero=>exact⟨Int.le_refl _,fun _ x a b=>by omega⟩
 | succ m ih=>
  have h1:=ih (by omega) (fun x a b=>h x a (by omega))
  have e1:=cx (f:=f) (n:=(m:Int)) (by omega)
  have e2:=cx (f:=g) (n:=(m:Int)) (by omega)
  have hm:=h (m:Int) (by omega) (by omega)
  rw [show((m+1:Nat):Int)=(m:Int)+1 by omega,e1,e2]
  cases hf:f (m:Int)<;>cases hg:g (m:Int)<;>simp only [hf,hg,if_true,Bool.false_eq_true,if_false]at hm ⊢
  ·refine⟨by omega,fun e x a b hx=>?_⟩
   by_cases Sv:x=m
   ·subst Sv;rw [hg]at hx;exact absurd hx (by simp)
   ·exact h1.2 (by omega) x a (by omega) hx
  ·exact⟨by omega,fun e=>by omega⟩
  ·exact absurd (hm trivial) (by simp)
  ·refine⟨by omega,fun e x a b hx=>?_⟩
   by_cases Sv:x=m
   ·subst Sv;exact hf
   ·exact h1.2 (by omega) x a (by omega) hx
theorem AD {m:Mem}(h:m.Wf)(s:Bool)(p o:Int):0≤m.ba s p o∧m.ba s p o<4294967296:=by
 unfold Mem.ba
 split
 ·exact h.1 _ _ _
 ·omega
def sq(v:Int):Int:=if 1073741824≤v∨v % 4≠0 then 91 else 0
def vaI(v:Int):Int:=if sq v=0 then v / 4194304 else 0
def vaJ(v:Int):Int:=if sq v=0 then v / 4096 % 1024 else 0
def En(v:Int):Int:=if v % 4096≠0∨1073741824≤v then 91 else 0
def mgW(v:Int)(a b:Bool):Int:=if En v=0 then v+1+(if a then 2 else 0)+(if b then 4 else 0)else 0
def E5(w:Int):Bool:=decide (En (w - w % 4096)=0∧mgW (w - w % 4096) (decide (w / 2 % 2=1)) (decide (w / 4 % 2=1))=w)
def GU(w:Int):Int:=if E5 w then w - w % 4096 else 0
def paW(w:Int):Bool:=E5 w && decide (w / 2 % 2=1)
def paX(w:Int):Bool:=E5 w && decide (w / 4 % 2=1)
namespace DB
def fe(d:DB)(s:Int):Int:=
 if !d.has s then 5 else if(d.at_ s).typ≠1 then 124 else if(d.at_ s).state=3 then 3 else if d.of (d.word s 0) 3 s then 0 else 124
def tbl(d:DB)(s:Int):Int:=if d.fe s=0 then d.word s 0 else 0
def BL(d:DB)(s i q:Int):Int:=
 if d.fe s≠0 then d.fe s else if i<0∨256≤i then 4 else if !d.has q then 5 else if !d.of q 4 s then 124 else if d.word (d.tbl s) i≠0 then 140 else 0
def add(d:DB)(s i q:Int):DB:=if d.BL s i q=0 then d.kh (·.write true (d.tbl s) i (eI q))else d
def wX(d:DB)(s w:Int):Bool:=iA w==0 && d.of (aG w) 4 s
def jw(d:DB)(s va:Int):Int:=
 if d.fe s≠0 then d.fe s else if sq va≠0 then 91 else if d.wX s (d.word (d.tbl s) (vaI va))then 0 else 141
def plP(d:DB)(s va:Int):Int:=aG (d.word (d.tbl s) (vaI va))
def fE(d:DB)(s va:Int):Int:=if d.jw s va≠0 then d.jw s va else if d.word (d.plP s va) (vaJ va)≠0 then 140 else 0
def Az(d:DB)(s va:Int)(p:Mp):Int:=if d.fE s va≠0 then d.fE s va else p.err
def put(d:DB)(s va:Int)(p:Mp):DB:=if d.Az s va p=0 then d.kh (·.write true (d.plP s va) (vaJ va) p.word)else d
end DB
namespace DB
theorem xl(D:DB):D.pd.on D.mem=D:=rfl
def Fy(d:DB)(s va:Int):Int:=if d.jw s va≠0 then d.jw s va else if d.word (d.plP s va) (vaJ va)=0 then 92 else 0
def cut(d:DB)(s va:Int):DB:=if d.Fy s va=0 then d.kh (·.write true (d.plP s va) (vaJ va) 0)else d
def Ak(d:DB)(s t r:Int):Int:=if r<(d.S:Int)∧(d.entry r).typ=t∧(d.entry r).owner=s then r else -1
def eZ(d:DB)(t:Int):Prop:=d.aU t=0∧(d.entry t).typ=2∧d.aU (d.entry t).owner=0∧(d.entry (d.entry t).owner).typ=1∧(d.entry (d.entry t).owner).state=2∧d.fe (d.entry t).owner=0
end DB
def Fl.r0(f:Fl)(x:Int):Fl:=⟨U32.mk x::ay (fun j=>U32.mk (f.rs.getD (j+1) (U32.mk 0)).v) (upN 0 14),f.pc,f.z,f.n,f.l⟩
def Fl.start(pc a b c:Int):Fl:=⟨[U32.mk a,U32.mk b,U32.mk c,U32.mk 0,U32.mk 0,U32.mk 0,U32.mk 0,U32.mk 0,U32.mk 0,U32.mk 0,U32.mk 0,U32.mk 0,U32.mk 0,U32.mk 0,U32.mk 0],pc,false,false,false⟩
theorem CZ(w:World):Calls prog 77 #[] w fun e w'=>∃v,e= .returned v∧∃g,v= .map (some g)∧jX w' g clL∧w.heap.size≤g∧Pu w w':=by
 refine o3 ?_
 have tm:prog.underlying 148=some (.map 23 146):=by kernel_rfl
 have tk:prog.underlying 23=some (.int .u32):=by kernel_rfl
 have h0:=jX.made w
 obtain⟨w1,r1,h1,c1⟩:=fg (v:= .func (.func 136) #[] #[]) tm tk h0 (i:=1) rfl
 obtain⟨w2,r2,h2,c2⟩:=fg (v:= .func (.func 137) #[] #[]) tm tk h1 (i:=2) rfl
 obtain⟨w3,r3,h3,c3⟩:=fg (v:= .func (.func 138) #[] #[]) tm tk h2 (i:=3) rfl
 obtain⟨w4,r4,h4,c4⟩:=fg (v:= .func (.func 139) #[] #[]) tm tk h3 (i:=4) rfl
 obtain⟨w5,r5,h5,c5⟩:=fg (v:= .func (.func 140) #[] #[]) tm tk h4 (i:=5) rfl
 obtain⟨w6,r6,h6,c6⟩:=fg (v:= .func (.func 141) #[] #[]) tm tk h5 (i:=6) rfl
 obtain⟨w7,r7,h7,c7⟩:=fg (v:= .func (.func 142) #[] #[]) tm tk h6 (i:=7) rfl
 refine⟨some w.heap.size,_,run_makeMap ..,w1,r1,w2,r2,w3,r3,w4,r4,w5,r5,w6,r6,w7,r7,w.heap.size,rfl,h7,Nat.le_refl _,?_⟩
 have p0:Pu w (w.alloc (.map #[] 0)):=⟨⟨rfl,rfl,rfl,(by show _≤(w.heap.push _).size;rw [Array.size_push];omega),fun k hk=>(MapKept.heap_alloc w _).2 k hk.1⟩⟩
 have q:∀k,k=w.heap.size→False∨w.heap.size≤k:=fun k e=>.inr (by omega)
 exact((((((p0.call c1 q).call c2 q).call c3 q).call c4 q).call c5 q).call c6 q).call c7 q
def Nst.draw(s:Nst)(cp taken:Int):Int:=
 if cp<0∨(s.hs.length:Int)≤cp∨taken<0∨((s.l cp.toNat).length:Int)≤taken then 0 else((s.l cp.toNat).getD taken.toNat (U32.mk 0)).v
def Fl.r01(f:Fl)(x y:Int):Fl:=⟨U32.mk x::U32.mk y::ay (fun j=>U32.mk (f.rs.getD (j+2) (U32.mk 0)).v) (upN 0 13),f.pc,f.z,f.n,f.l⟩
def Mem.drawn(m:Mem)(sp:Int):Mem:=if m.ba true sp 2<4096 then m.write true sp 2 (u32.wrap (m.ba true sp 2+1))else m
end Go.Proofs.YtfmcaoaaiganbaaGreatDoor
namespace Go.Proofs.YtfmcaoaaiganbaaGreatDoor
open Go.Proofs.Tryz (prog)
open Go Go.RowKit V
open Go.IntKind (i64 u32 u64)
open Enc (enc)
def Nst.small(s:Nst):Prop:=s.hs.length≤1048576∧∀k,k<s.hs.length→(s.l k).length≤1048576
def Nst.big(s:Nst):Prop:=s.hs.length≤1048576∧∀k,(s.hs.getD k ⟨none,0,0⟩).n≤1048696
theorem snL:SN prog 25 31 (.slice none 0 0) 1 24:=(S1.of (by kernel_rfl) (by kernel_rfl) rfl:S1 prog 25 31 (.slice none 0 0) 24).sn
theorem FY:SN prog 31 23 (.int .u32 0) 1 4:=wY.sn
theorem yM {α:Type} {l:List α} {x d:α} {j:Nat}:(l++ [x]).getD j d=if j=l.length then x else l.getD j d:=by
 rw [List.getD_eq_getElem?_getD,List.getD_eq_getElem?_getD]
 by_cases h:j=l.length
 ·subst h;simp
 ·rw [if_neg h]
  by_cases h2:j<l.length
  ·rw [List.getElem?_append_left h2]
  ·rw [List.getElem?_eq_none (by simp;omega),List.getElem?_eq_none (by omega)]
theorem Own.at_ {α:Type} [Enc α] {w:World} {Z:Nat→Prop} {e:TypeId} {x n c:Nat} {l:List α}(h:Own w Z e (some ⟨x,0,none⟩) n c l):Own w (fun k=>k=x) e (some ⟨x,0,none⟩) n c l:=⟨⟨h.own.1,fun a ha=>by injection ha with ha;rw [← ha]⟩,h.len⟩
structure Cps(w0 w:World)(A:Option Addr)(c:Nat)(hs:List Hd)(g:Nat→Nat)(f:Nat→List U32):Prop where
 pu:Pu w0 w
 out:Own w (fun k=>w0.heap.size≤k∧∀j,j<hs.length→k≠g j) 31 A hs.length c hs
 inn:∀j,j<hs.length→w0.heap.size≤g j∧(∃d,hs.getD j ⟨none,0,0⟩=⟨some ⟨g j,0,none⟩,(f j).length,d⟩∧Own w (fun k=>k=g j) 23 (some ⟨g j,0,none⟩) (f j).length d (f j))∧(120≤(f j).length∧(f j).length≤1048696)
 ne:∀j k,j<hs.length→k<hs.length→j≠k→g j≠g k
theorem Cps.lt {w0 w:World} {A:Option Addr} {c:Nat} {hs:List Hd} {g:Nat→Nat} {f:Nat→List U32}(h:Cps w0 w A c hs g f) {j:Nat}(hj:j<hs.length):g j<w.heap.size:=by
 obtain⟨_,⟨d,_,ho⟩,hn⟩:=h.inn j hj
 obtain⟨x,e,_,hx⟩:=ho.lt (by omega)
 injection e with e
 injection e with e
 rw [e];exact hx
theorem Cps.step {w0 w w3 w4:World} {A:Option Addr} {c:Nat} {hs:List Hd} {g:Nat→Nat} {f:Nat→List U32}(h:Cps w0 w A c hs g f)(hN:hs.length<1048576) {sA:Option Addr} {sN sC:Nat} {l:List U32}(ho:Own w3 (fun k=>w.heap.size≤k) 23 sA sN sC l)(hl:120≤sN∧sN≤1048696)(q:Pu w w3) {gv:Nat}(hM:Made w3 gv #[.slice sA sN sC] 31 w4)
 {K:Option Addr→Nat→Nat→World→Prop}(hK:∀A' c' w5 hd g' f',Cps w0 w5 A' c' (hs++ [hd]) g' f'→K A' (hs.length+1) c' w5):
 ∃(A':Option Addr)(n' c':Nat)(w5:World),(Builtin.append_ #[25,25] 25 #[.slice A hs.length c,.slice (some (Addr.mk gv 0 none)) 1 1]:Sem Value).run prog w4= .ok (.slice A' n' c') w5∧K A' n' c' w5:=by
 obtain⟨x,hA,hx,hx3⟩:=ho.lt (by omega)
 have hx:w.heap.size≤x:=hx
 subst hA
 have Hv:=h.pu.size
 have q4:Pu w w4:=q.made hM
 have len:=ho.len
 have LZ:Own w4 (fun k=>w0.heap.size≤k∧∀j,j<hs.length+1→k≠if j=hs.length then x else g j) 31 A hs.length c hs:=by
  refine(h.out.within.pu q4).mono fun k hk=>⟨hk.1.1,fun j hj=>?_⟩
  by_cases e:j=hs.length
  ·rw [if_pos e];intro e2;have:=hk.2;omega
  ·rw [if_neg e];exact hk.1.2 j (by omega)
 refine LZ.app snL (x:=⟨some ⟨x,0,none⟩,sN,sC⟩) hM.blk rfl (by omega) (by omega) ⟨by have:=q4.size;omega,fun j hj=>?_⟩ fun A' c' w5 SF q5=>?_
 ·by_cases e:j=hs.length
  ·rw [if_pos e];have:=hM.pu.size;intro e2;have:=hM.size;omega
  ·rw [if_neg e];have:=h.lt (j:=j) (by omega);have:=q4.size;omega
 ·have hlen:(hs++ [(⟨some ⟨x,0,none⟩,sN,sC⟩:Hd)]).length=hs.length+1:=by rw [List.length_append];rfl
  have hgx:∀j,j<hs.length→g j≠x:=fun j hj e=>by have:=h.lt hj;omega
  refine hK A' c' w5 ⟨some ⟨x,0,none⟩,sN,sC⟩ (fun j=>if j=hs.length then x else g j) (fun j=>if j=hs.length then l else f j) ⟨?_,by rw [hlen];exact SF,fun j hj=>?_,fun j k hj hk NZ=>?_⟩
  ·exact(h.pu.trans q4).call q5 fun k hk=>.inr hk.1
  ·rw [hlen]at hj
   rw [yM]
   by_cases e:j=hs.length
   ·simp only [if_pos e]
    refine⟨by omega,⟨sC,by rw [len],?_⟩,by rw [len];exact hl⟩
    rw [len]
    have h9:Own w4 (fun k=>k=x) 23 (some ⟨x,0,none⟩) sN sC l:=(Own.at_ ho).pu hM.pu
    exact h9.ch q5 fun k hk HM=>HM.2 hs.length (by omega) (by rw [if_pos rfl];exact hk)
   ·simp only [if_neg e]
    obtain⟨b1,⟨d,b2,b3⟩,b4⟩:=h.inn j (by omega)
    exact⟨b1,⟨d,b2,(b3.pu q4).ch q5 fun k hk HM=>HM.2 j (by omega) (by rw [if_neg e];exact hk)⟩,b4⟩
  ·rw [hlen]at hj hk
   by_cases e:j=hs.length<;>by_cases e2:k=hs.length
   ·omega
   ·rw [if_pos e,if_neg e2];exact(hgx k (by omega)).symm
   ·rw [if_neg e,if_pos e2];exact hgx j (by omega)
   ·rw [if_neg e,if_neg e2];exact h.ne j k (by omega) (by omega) NZ
theorem Cps.nst {w0 w:World} {A:Option Addr} {c:Nat} {hs:List Hd} {g:Nat→Nat} {f:Nat→List U32}(h:Cps w0 w A c hs g f):gh w ⟨A,c,hs,(List.range hs.length).map f,true⟩ (fun k=>w0.heap.size≤k∧k<w.heap.size)∧∀k,k<hs.length→120≤(Nst.l ⟨A,c,hs,(List.range hs.length).map f,true⟩ k).length∧(Nst.l ⟨A,c,hs,(List.range hs.length).map f,true⟩ k).length≤1048696:=by
 have hl:∀k,k<hs.length→Nst.l ⟨A,c,hs,(List.range hs.length).map f,true⟩ k=f k:=fun k hk=>by
  show((List.range hs.length).map f).getD k []=f k
  rw [List.getD_eq_getElem?_getD,List.getElem?_map,List.getElem?_range hk];rfl
 have hd:∀k,Nst.hd ⟨A,c,hs,(List.range hs.length).map f,true⟩ k=hs.getD k ⟨none,0,0⟩:=fun _=>rfl
 have O:rU w ⟨A,c,hs,(List.range hs.length).map f,true⟩ (fun k=>w0.heap.size≤k∧k<w.heap.size) (fun k=>(w0.heap.size≤k∧∀j,j<hs.length→k≠g j)∧k<w.heap.size) g f:=
  ⟨h.out.rd,fun k hk=>⟨hk.1.1,hk.2⟩,fun k hk=>by
   have hk:k<hs.length:=hk
   obtain⟨b1,⟨d,b2,b3⟩,b4⟩:=h.inn k hk
   rw [hl k hk,hd,b2]
   exact⟨fun e=>e.1.2 k hk rfl,⟨b1,h.lt hk⟩,rfl,⟨d,b3⟩,Nat.le_refl _,(List.take_length ..).symm⟩,h.ne⟩
 refine⟨⟨⟨by show((List.range hs.length).map f).length=hs.length;rw [List.length_map,List.length_range],fun k hk=>?_⟩,fun k hk=>hk.2,?_,fun k hk=>?_,fun _=>⟨_,g,f,O⟩⟩,fun k hk=>by rw [hl k hk];exact(h.inn k hk).2.2⟩
 ·have hk:k<hs.length:=hk
  obtain⟨b1,⟨d,b2,b3⟩,b4⟩:=h.inn k hk
  rw [hl k hk,hd,b2]
 ·have:=O.out
  exact⟨this.len,this.cap,fun k hk=>hk.2,fun a b K8=>by
   obtain⟨p,e1,e2,e3⟩:=this.cell a b K8
   exact⟨p,e1,O.z _ e2,e3⟩⟩
 ·have hk:k<hs.length:=hk
  refine O.rd (fun k hk=>hk.2) hk ?_
  obtain⟨b1,⟨d,b2,b3⟩,b4⟩:=h.inn k hk
  rw [hd,b2];exact b3.rd.cap
theorem copied {w:World} {s:Nst} {X:Nat→Prop}(h:gh w s X)(hs:s.small):Calls prog 25 #[.slice s.A s.hs.length s.c] w fun e w'=>
 ∃v,e= .returned v∧∃s1:Nst,v= .slice s1.A s1.hs.length s1.c∧s1.own=true∧s1.hs.length≤1048576∧(∀k,k<s1.hs.length→120≤(s1.l k).length∧(s1.l k).length≤1048696)∧gh w' s1 (fun k=>w.heap.size≤k∧k<w'.heap.size)∧Pu w w':=by
 obtain⟨hN,hS⟩:=hs
 refine mB _ _ _ ?_
 rintro _ rfl
 refine⟨fun m A n c i w'=>∃(hs:List Hd)(g:Nat→Nat)(f:Nat→List U32),i=(hs.length:Int)∧n=hs.length∧hs.length≤s.hs.length∧m=s.hs.length - hs.length∧Cps w w' A c hs g f,⟨_,[],fun _=>0,fun _=>[],rfl,rfl,Nat.zero_le _,rfl,⟨Ch.refl _ _,Own.nil,fun j hj=>absurd hj (by simp),fun j k hj=>absurd hj (by simp)⟩⟩,?_⟩
 rintro m _ A n c i w1 ⟨hs,g,f,rfl,rfl,hle,rfl,hc⟩
 refine ae (fun hb=>?_) (fun hb=>?_)
 ·have Ho:hs.length<s.hs.length:=by simpa using hb
  refine⟨by omega,?_⟩
  obtain⟨p,hd,hA,HR,hX,HC⟩:=(h.out.pu hc.pu).ld (i:=(hs.length:Int)) (by omega) (by omega)
  rw [Int.toNat_natCast]at HR HC
  have he:s.hd hs.length=hd:=by unfold Nst.hd;rw [List.getD_eq_getElem?_getD,HR];rfl
  have hr:=(h.inn hs.length Ho).pu hc.pu
  have hn:=h.ok.n hs.length Ho
  have RF:=hS hs.length Ho
  rw [he]at hr hn
  refine ao p hA ⟨hd.A,hd.n,hd.c,by rw [Int.toNat_natCast];have:=HC 0 (by decide);exact this,?_⟩
  refine mP FY hr (by omega) (by omega) fun sA sC w2 Jb q2=>?_
  rintro _ rfl
  refine⟨fun m A n c j w'=>∃(k:Nat)(l:List U32),j=(k:Int)∧k≤120∧m=120 - k∧n=hd.n+k∧Own w' (fun k=>w1.heap.size≤k) 23 A n c l∧Pu w1 w',⟨120,0,_,rfl,by omega,rfl,rfl,Jb.mono fun k hk=>hk.1,q2⟩,?_⟩
  rintro m2 _ A2 n2 c2 _ w2' ⟨k,l,rfl,hk,rfl,rfl,ho,q⟩
  refine ae (fun JQ=>?_) (fun JQ=>?_)
  ·have HM:k<120:=by simp at JQ;omega
   intro gv w3 hg hw
   have hM:=made hg hw
   have NO:=(q.made hM).size
   refine(ho.pu hM.pu).app FY (x:=U32.mk (u32.wrap (77+u32.wrap (k:Int)))) hM.blk rfl (by omega) (by omega) NO fun A' c' w4 Oo q4=>?_
   rintro _ rfl
   exact⟨120 - (k+1),by omega,k+1,_,by rw [ah (by omega)];omega,by omega,rfl,by omega,Oo,(q.made hM).call q4 fun a ha=>.inr ha⟩
  ·have HM:k=120:=by simp at JQ;omega
   subst HM
   intro gv w3 hg hw
   have hM:=made hg hw
   refine hc.step (by omega) ho (by omega) q hM fun A' c' w5 hd' g' f' h5=>?_
   rintro _ rfl
   have e:(hs++ [hd']).length=hs.length+1:=by rw [List.length_append];rfl
   exact⟨s.hs.length - (hs.length+1),by omega,hs++ [hd'],g',f',by rw [e,ah (by omega)];omega,e.symm,by omega,by rw [e],h5⟩
 ·obtain⟨n1,n2⟩:=hc.nst
  exact⟨_,rfl,rfl,Nat.le_trans hle hN,n2,n1,hc.pu⟩
theorem pieces {w:World} {s:Nst} {X:Nat→Prop}(h:gh w s X)(ho:s.own=true)(Rs:∀k,k<s.hs.length→120≤(s.l k).length∧(s.l k).length≤1048696)(hN:s.hs.length≤1048576):Calls prog 24 #[.slice s.A s.hs.length s.c] w fun e w'=>
 ∃v,e= .returned v∧∃s1:Nst,v= .slice s1.A s1.hs.length s1.c∧s1.own=true∧s1.big∧gh w' s1 (fun k=>X k∨w.heap.size≤k∧k<w'.heap.size)∧Pu w w':=by
 obtain⟨Z,g,f,hO⟩:=h.own ho
 refine mA _ _ _ ?_
 rintro _ rfl
 let T:Nat→Hd:=fun j=>⟨(s.hd j).A,(s.hd j).n - 120,(s.hd j).c⟩
 have hT:∀k,((List.range k).map T).length=k:=fun k=>by rw [List.length_map,List.length_range]
 refine⟨fun m A n c i w'=>∃k:Nat,i=(k:Int)∧n=k∧k≤s.hs.length∧m=s.hs.length - k∧Own w' (fun a=>w.heap.size≤a) 31 A k c ((List.range k).map T)∧Pu w w',⟨_,0,rfl,rfl,Nat.zero_le _,rfl,Own.nil,Ch.refl _ _⟩,?_⟩
 rintro m _ A k c i w1 ⟨k',rfl,rfl,hle,rfl,hc,q⟩
 refine ae (fun hb=>?_) (fun hb=>?_)
 ·have Ho:k<s.hs.length:=by simpa using hb
  have qd:Pu w w1.drew:=q.drew
  obtain⟨p,hd,hA,HR,hX,HC⟩:=(h.out.pu qd).ld (i:=(k:Int)) (by omega) (by omega)
  rw [Int.toNat_natCast]at HR HC
  have he:s.hd k=hd:=by unfold Nst.hd;rw [List.getD_eq_getElem?_getD,HR];rfl
  have hn:=h.ok.n k Ho
  have hr:=h.inn k Ho
  have h12:=Rs k Ho
  have Re:=hr.cap
  obtain⟨_,_,hda,_⟩:=hO.inn k Ho
  have RH:p.block<w.heap.size:=h.lt _ hX
  have hTk:T k=⟨hd.A,hd.n - 120,hd.c⟩:=by show(⟨(s.hd k).A,(s.hd k).n - 120,(s.hd k).c⟩:Hd)=_;rw [he]
  rw [he]at hn hr Re hda
  have hce:w1.drew.cell? (p.add (k*1))=some (.slice hd.A hd.n hd.c):=by have:=HC 0 (by decide);exact this
  have ew:(i64.wrap ((hd.n:Int) - 120))=(hd.n:Int) - 120:=ah (by omega)
  refine⟨fun _ a=>a<w.heap.size,⟨by omega,by omega⟩,ao p hA ⟨by rw [block_add];exact RH,hd.A,hd.n,hd.c,by rw [Int.toNat_natCast];exact hce,⟨by omega,by omega⟩,ao p hA ⟨by rw [block_add];exact RH,hd.A,hd.n,hd.c,by rw [Int.toNat_natCast];exact hce,?_,?_⟩⟩⟩
  ·rw [ew];omega
  ·rintro _ rfl _ rfl _ rfl gv w2 hg hw
   have hM:=made hg hw
   have Hv:=qd.size
   have e1:(if hd.c=0 then hd.A else hd.A.map (·.add (0*1)))=hd.A:=by
    split
    ·rfl
    ·rw [hda];rfl
   have e2:(#[Value.slice (if hd.c=0 then hd.A else hd.A.map (·.add (0*1))) (Int.toNat (i64.wrap ((hd.n:Int) - 120)) - 0) (hd.c - 0)]:Array Value).toList=enc (T k):=by
    rw [e1,ew,hTk,show Int.toNat ((hd.n:Int) - 120) - 0=hd.n - 120 by omega];rfl
   refine⟨hM.pu.fY fun a ha=>?_,fun _ a=>a<w.heap.size,fun _ _ h=>h,?_⟩
   ·have ha:a<w.heap.size:=by simpa [fm]using ha
    omega
   ·refine((hc.pu (Pu.dh w1)).pu hM.pu).app snL hM.blk e2 (by omega) (by omega) (by have:=hM.pu.size;omega) fun A' c' w5 SF q5=>?_
    refine⟨q5.fY fun a ha=>?_,fun _ a=>a<w.heap.size,fun _ _ h=>h,?_⟩
    ·have ha:a<w.heap.size:=by simpa [fm]using ha
     exact⟨by have:=hM.pu.size;omega,by omega⟩
    ·rintro _ rfl
     refine⟨s.hs.length - (k+1),by omega,k+1,by rw [ah (by omega)];omega,rfl,by omega,rfl,?_,(qd.trans hM.pu).call q5 fun a ha=>.inr ha⟩
     rw [List.range_succ,List.map_append];exact SF
 ·have hk:k=s.hs.length:=by simp at hb;omega
  subst hk
  let F:Nat→List U32:=fun j=>(f j).take ((s.hd j).n - 120)
  let s1:Nst:=⟨A,c,(List.range s.hs.length).map T,(List.range s.hs.length).map F,true⟩
  have Jy:s1.hs.length=s.hs.length:=hT _
  have hh:∀j,j<s.hs.length→s1.hd j=T j:=fun j hj=>by
   show((List.range s.hs.length).map T).getD j ⟨none,0,0⟩=T j
   rw [List.getD_eq_getElem?_getD,List.getElem?_map,List.getElem?_range hj];rfl
  have hl:∀j,j<s.hs.length→s1.l j=F j:=fun j hj=>by
   show((List.range s.hs.length).map F).getD j []=F j
   rw [List.getD_eq_getElem?_getD,List.getElem?_map,List.getElem?_range hj,Option.map_some,Option.getD_some]
  have Ho:∀a,(X a∨w.heap.size≤a∧a<w1.heap.size)→a<w1.heap.size:=fun a ha=>ha.elim (fun h2=>Nat.lt_of_lt_of_le (h.lt a h2) q.size) fun h2=>h2.2
  have O:rU w1 s1 (fun a=>X a∨w.heap.size≤a∧a<w1.heap.size) (fun a=>w.heap.size≤a∧a<w1.heap.size) g f:=by
   refine⟨?_,fun a ha=>.inr ha,fun j hj=>?_,fun i j hi hj=>hO.ne i j (Nat.lt_of_lt_of_eq hi Jy) (Nat.lt_of_lt_of_eq hj Jy)⟩
   ·show Rd w1 _ A ((List.range s.hs.length).map T).length c ((List.range s.hs.length).map T)
    rw [hT];exact hc.rd
   ·replace hj:j<s.hs.length:=Nat.lt_of_lt_of_eq hj Jy
    obtain⟨b1,b2,b3,⟨d,b4⟩,b5,b6⟩:=hO.inn j hj
    rw [hh j hj,hl j hj]
    refine⟨fun e=>by have:=h.lt _ b2;omega,.inl b2,b3,⟨d,b4.pu q⟩,?_,rfl⟩
    show(s.hd j).n - 120≤_
    omega
  have IV:s1.big:=⟨by rw [Jy];exact hN,fun j=>by
   by_cases hj:j<s.hs.length
   ·have e:s1.hs.getD j ⟨none,0,0⟩=T j:=hh j hj
    have h1:=h.ok.n j hj
    have h2:=(Rs j hj).2
    rw [e];show(s.hd j).n - 120≤_;omega
   ·rw [List.getD_eq_getElem?_getD,List.getElem?_eq_none (by have:=Jy;omega)];exact Nat.zero_le _⟩
  refine⟨s1,(by show Value.slice A s.hs.length c= .slice A ((List.range s.hs.length).map T).length c;rw [hT]),rfl,IV,⟨⟨(by show((List.range s.hs.length).map F).length=((List.range s.hs.length).map T).length;rw [List.length_map,List.length_map]),fun j hj=>?_⟩,Ho,?_,fun j hj=>?_,fun _=>⟨_,g,f,O⟩⟩,q⟩
  ·replace hj:j<s.hs.length:=Nat.lt_of_lt_of_eq hj Jy
   obtain⟨b1,b2,b3,⟨d,b4⟩,b5,b6⟩:=hO.inn j hj
   rw [hh j hj,hl j hj]
   show(s.hd j).n - 120=((f j).take ((s.hd j).n - 120)).length
   rw [List.length_take,Nat.min_eq_left (by omega)]
  ·have:=O.out
   exact⟨this.len,this.cap,Ho,fun a b K8=>by
    obtain⟨p,e1,e2,e3⟩:=this.cell a b K8
    exact⟨p,e1,.inr e2,e3⟩⟩
  ·refine O.rd Ho hj ?_
   replace hj:j<s.hs.length:=Nat.lt_of_lt_of_eq hj Jy
   rw [hh j hj]
   have:=(h.inn j hj).cap
   show(s.hd j).n - 120≤(s.hd j).c
   omega
end Go.Proofs.YtfmcaoaaiganbaaGreatDoor
namespace Go.Proofs.YtfmcaoaaiganbaaGreatDoor
open Go.Proofs.Tryz (prog)
open Go Go.RowKit V Go.ChangeShapes Go.WideShapes Go.ChangeAt
open Go.IntKind (i64 u32 u64)
open Enc (enc)
section
theorem Bt {H:Type}(d:DataW H):1≤Rows.uptoBulk d:=by
 cases d with
 | lit x=>cases x<;>simp [Rows.uptoBulk]
 | _=>simp [Rows.uptoBulk]
theorem n5 {H:Type}:∀l:List (DataW H),l.length≤Rows.uptoBulkAll l
 | []=>Nat.zero_le _
 | d::r=>by
  have h1:=n5 r
  have h2:=Bt d
  simp only [Rows.uptoBulkAll,List.length_cons];omega
theorem n4 {H:Type}:∀ {l:List (DataW H)} {d:DataW H},d∈l→Rows.uptoBulk d≤Rows.uptoBulkAll l
 | e::r,d,h=>by
  simp only [Rows.uptoBulkAll]
  rcases List.mem_cons.1 h with rfl | h
  ·omega
  ·have:=n4 h;omega
section
variable {P:Program} {W:World} {H:Type} {enc:TypeId×Value→H}
theorem vC {u u2:TypeId} {n:Nat} {cs:List Value} {d:DataW H} {p:List MemPlace}(hu:P.underlying u=some (.slice u2))(h2:P.underlying u2=some (.int .u32))(c2:P.cellsOf u2=1)(h:DataW.trod enc P W 0 (fun _=>true) true n u cs=some (d,p)):
 ∃(x:Hd)(l:List U32),cs= [.slice x.A x.n x.c]∧x.n=l.length∧Rd W (fun k=>k<W.heap.size) x.A x.n x.c l∧l.length≤Rows.uptoBulk d:=by
 rcases Go.Deep.open_slice hu h with⟨H2,hx⟩ | ⟨a,len,cap,m,n,D,Pl,H2,_,hl,hm,QT,hx,HC⟩
 ·exact⟨⟨none,0,0⟩,[],H2,rfl,⟨rfl,Nat.le_refl _,fun _ h=>h,fun i x hi=>by cases hi⟩,Nat.zero_le _⟩
 ·simp only [if_true]at QT
  subst QT
  simp only [Prod.mk.injEq]at hx
  have each:∀i,i<m→∃x:U32,W.cell? (a.add (i*1))=some (.int .u32 x.v):=by
   intro i hi
   obtain⟨cs',h1,h3⟩:=HC i hi
   rw [c2]at h1
   obtain⟨_,hlen,hc⟩:=World.cells?_some h1
   obtain⟨z,e0,_,_⟩:=DataW.trod_int h2 h3
   subst e0
   exact⟨⟨z⟩,hc 0 (by omega)⟩
  have:Inhabited U32:=⟨⟨0⟩⟩
  obtain⟨q,hq⟩:=Go.Deep.choose_lt each
  have hlen:((List.range len).map q).length=len:=by rw [List.length_map,List.length_range]
  refine⟨⟨some a,len,m⟩,(List.range len).map q,H2,hlen.symm,⟨hlen,hl,fun _ h=>h,fun i x hi=>?_⟩,?_⟩
  ·have L4:i<len:=by
    rcases Nat.lt_or_ge i len with h | h
    ·exact h
    ·rw [List.getElem?_eq_none (by simpa using h)]at hi;cases hi
   rw [List.getElem?_map,List.getElem?_range L4]at hi
   injection hi with hi
   subst hi
   have h1:=hq i (by omega)
   refine⟨a,rfl,?_,fun j hj=>?_⟩
   ·have:=World.block_lt_of_cell? W _ h1
    rwa [V.block_add]at this
   ·have hj:j=0:=by have:Enc.size U32=1:=rfl;omega
    subst hj
    exact h1
  ·rw [hx.1]
   have:=n5 ((List.range len).map D)
   simp only [Rows.uptoBulk,List.length_map,List.length_range]at this ⊢
   omega
theorem yE {t u u2:TypeId} {v:Value} {d:DataW H} {p:List MemPlace}(ht:P.underlying t=some (.slice u))(hu:P.underlying u=some (.slice u2))(cu:P.cellsOf u=1)(h2:P.underlying u2=some (.int .u32))(c2:P.cellsOf u2=1) {base:Nat}
 (hv:Value.okWide P W .any base t v)(h:DataW.Trod enc P W 0 (fun _=>true) true t v d p):
 ∃s:Nst,v= .slice s.A s.hs.length s.c∧gh W s (fun k=>k<W.heap.size)∧(Rows.uptoBulk d≤1048576→s.small):=by
 obtain⟨a0,len,cap,rfl⟩:=okWide_slice ht hv
 obtain⟨fuel,hf⟩:=h
 rcases Go.Deep.open_slice ht hf with⟨H2,hx⟩ | ⟨a,len',cap',m,n,D,Pl,H2,_,hl,hm,QT,hx,HC⟩
 ·simp [Value.cells]at H2
  obtain⟨rfl,rfl,rfl⟩:=H2
  exact⟨⟨none,0,[],[],false⟩,rfl,⟨⟨rfl,fun k hk=>absurd hk (Nat.not_lt_zero _)⟩,fun _ h=>h,⟨rfl,Nat.le_refl _,fun _ h=>h,fun i x hi=>by cases hi⟩,fun k hk=>absurd hk (Nat.not_lt_zero _),fun e=>by cases e⟩,fun _=>⟨Nat.zero_le _,fun k hk=>absurd hk (Nat.not_lt_zero _)⟩⟩
 ·simp [Value.cells]at H2
  obtain⟨rfl,rfl,rfl⟩:=H2
  simp only [if_true]at QT
  subst QT
  simp only [Prod.mk.injEq]at hx
  have each:∀i,i<m→∃x:Hd×List U32,W.cell? (a.add (i*1))=some (.slice x.1.A x.1.n x.1.c)∧x.1.n=x.2.length∧Rd W (fun k=>k<W.heap.size) x.1.A x.1.n x.1.c x.2∧x.2.length≤Rows.uptoBulk (D i):=by
   intro i hi
   obtain⟨cs',h1,h3⟩:=HC i hi
   rw [cu]at h1
   obtain⟨_,hlen,hc⟩:=World.cells?_some h1
   obtain⟨x,l,e0,e1,e2,e3⟩:=vC hu h2 c2 h3
   subst e0
   exact⟨(x,l),hc 0 (by omega),e1,e2,e3⟩
  have:Inhabited (Hd×List U32):=⟨(⟨none,0,0⟩,[])⟩
  obtain⟨q,hq⟩:=Go.Deep.choose_lt each
  have h1:((List.range len).map fun i=>(q i).1).length=len:=by rw [List.length_map,List.length_range]
  have h2:((List.range len).map fun i=>(q i).2).length=len:=by rw [List.length_map,List.length_range]
  let s:Nst:=⟨some a,m,(List.range len).map fun i=>(q i).1,(List.range len).map fun i=>(q i).2,false⟩
  have hh:∀k,k<len→s.hd k=(q k).1:=fun k hk=>by
   show((List.range len).map fun i=>(q i).1).getD k _=_
   rw [List.getD_eq_getElem?_getD,List.getElem?_map,List.getElem?_range hk];rfl
  have Ni:∀k,k<len→s.l k=(q k).2:=fun k hk=>by
   show((List.range len).map fun i=>(q i).2).getD k _=_
   rw [List.getD_eq_getElem?_getD,List.getElem?_map,List.getElem?_range hk];rfl
  have Ml:s.hs.length=len:=h1
  refine⟨s,(by show Value.slice (some a) len m= .slice (some a) ((List.range len).map fun i=>(q i).1).length m;rw [h1]),⟨⟨h2.trans h1.symm,fun k hk=>?_⟩,fun _ h=>h,⟨rfl,(by show((List.range len).map fun i=>(q i).1).length≤m;rw [h1];exact hl),fun _ h=>h,fun i x hi=>?_⟩,fun k hk=>?_,fun e=>by cases e⟩,fun hb=>?_⟩
  ·have hk:=Nat.lt_of_lt_of_eq hk Ml
   rw [hh k hk,Ni k hk];exact(hq k (by omega)).2.1
  ·have hi:((List.range len).map fun i=>(q i).1)[i]? =some x:=hi
   have L4:i<len:=by
    rcases Nat.lt_or_ge i len with h | h
    ·exact h
    ·rw [List.getElem?_eq_none (by simpa using h)]at hi;cases hi
   rw [List.getElem?_map,List.getElem?_range L4]at hi
   injection hi with hi
   subst hi
   have h1:=(hq i (by omega)).1
   refine⟨a,rfl,?_,fun j hj=>?_⟩
   ·have:=World.block_lt_of_cell? W _ h1
    rwa [V.block_add]at this
   ·have hj:j=0:=by have:Enc.size Hd=1:=rfl;omega
    subst hj
    exact h1
  ·have hk:=Nat.lt_of_lt_of_eq hk Ml
   rw [hh k hk,Ni k hk];exact(hq k (by omega)).2.2.1
  ·rw [hx.1]at hb
   simp only [Rows.uptoBulk]at hb
   refine⟨?_,fun k hk=>?_⟩
   ·rw [Ml]
    have:=n5 ((List.range len).map D)
    rw [List.length_map,List.length_range]at this;omega
   ·have hk:=Nat.lt_of_lt_of_eq hk Ml
    rw [Ni k hk]
    have h3:=(hq k (by omega)).2.2.2
    have h4:=n4 (List.mem_map_of_mem (f:=D) (List.mem_range.2 hk))
    omega
end
end
end Go.Proofs.YtfmcaoaaiganbaaGreatDoor
namespace Go.Proofs.YtfmcaoaaiganbaaGreatDoor
open Go.Proofs.Tryz (prog)
open Go Go.RowKit V
open Go.IntKind (i64 u32 u64)
section
set_option maxRecDepth 100000
set_option maxHeartbeats 1000000
attribute [local irreducible] Vc2 VcD
attribute [local grind=] Pd.bN Pd.bt Pd.fX Pd.gu Pd.ep Pd.du Pd.dG Pd.dX Pd.jt DB.di
attribute [local grind .] Pd.Ok.ent
attribute [local grind→] Pd.Ok.most
def fv:Ctr Un:=⟨[.one (.obj 0 0),.agg [.bool,.int .i64],.one (.int .i64),.one (.int .u32)],[],[.ob 2 []],[0],fun fa fb off v rm m K=>(0≤(v:Int)∧(v:Int)<4294967296)∧K ⟨(.int .i64 (m.err fa fb off)),none,[.ob 2 (m.write fa fb off v)],[],[]⟩⟩
theorem oD:LV Un prog 55 fv:=by
 show ∀(fa:Bool)(fb:Int)(off:Int)(v:Int)(rm:Nat→Nat)(m:Mem),∀Q:Ou Un→Prop,((0≤(v:Int)∧(v:Int)<4294967296)∧Q ⟨(.int .i64 (m.err fa fb off)),none,[.ob 2 (m.write fa fb off v)],[],[]⟩)→∀(X:Nat→Nat→Prop)(w:World),Sat (U:=Un) [(.ob 2 rm m)] X w→ar (U:=Un) [(.ob 2 rm m)] fr0 []→Calls prog 55 #[(.pointer (some (Addr.mk (rm 0) 0 none))),(.agg #[(.bool fa),(.int .i64 fb)]),(.int .i64 off),(.int .u32 v)] w (bd (U:=Un) [(.ob 2 rm m)] [0] X w Q)
 intro fa fb off v rm m Q hQ X w hs hl
 obtain⟨hv,hQ⟩:=hQ
 obtain⟨L,hX,hM⟩:=(hs.res 0 _ rfl:dB 2 rm m (X 0) w)
 refine(Ay hM fa fb off v hv).mono ?_
 rintro e w' ⟨u,rfl,L1,rfl,h2,hg,q⟩
 exact bd.one (Z:=L1.X) (q.mono fun k hk=>(hX k).1 hk) (show dB 2 rm _ L1.X w' from⟨L1,fun _=>Iff.rfl,h2⟩) (fun k hk=>(hg k hk).imp (fun h=>(hX k).1 h) id) hQ trivial
def lL:Ctr Un:=⟨[.one (.obj 0 0),.agg [.bool,.int .i64]],[],[.ob 2 []],[0],fun fa fb rm m K=>K ⟨(.int .i64 (m.eM fa fb)),none,[.ob 2 (m.zero fa fb)],[],[]⟩⟩
theorem zG:LV Un prog 82 lL:=by
 show ∀(fa:Bool)(fb:Int)(rm:Nat→Nat)(m:Mem),∀Q:Ou Un→Prop,(Q ⟨(.int .i64 (m.eM fa fb)),none,[.ob 2 (m.zero fa fb)],[],[]⟩)→∀(X:Nat→Nat→Prop)(w:World),Sat (U:=Un) [(.ob 2 rm m)] X w→ar (U:=Un) [(.ob 2 rm m)] fr0 []→Calls prog 82 #[(.pointer (some (Addr.mk (rm 0) 0 none))),(.agg #[(.bool fa),(.int .i64 fb)])] w (bd (U:=Un) [(.ob 2 rm m)] [0] X w Q)
 intro fa fb rm m Q hQ X w hs hl
 obtain⟨L,hX,hM⟩:=(hs.res 0 _ rfl:dB 2 rm m (X 0) w)
 refine(Da hM fa fb).mono ?_
 rintro e w' ⟨u,rfl,L1,rfl,h2,hg,q⟩
 exact bd.one (Z:=L1.X) (q.mono fun k hk=>(hX k).1 hk) (show dB 2 rm _ L1.X w' from⟨L1,fun _=>Iff.rfl,h2⟩) (fun k hk=>(hg k hk).imp (fun h=>(hX k).1 h) id) hQ trivial
def dw:Ctr Un:=⟨[.one (.int .i64)],[],[],[],fun p K=>K ⟨(.agg #[(.bool true),(.int .i64 p)]),none,[],[],[]⟩⟩
def wh(p:Int)(Q:Ou Un→Prop):Prop:=
 ∀(gv:Nat),
 Q ⟨(.agg #[(.bool true),(.int .i64 p)]),none,[],[],[]⟩
theorem wi:Vc2 Un prog (aN []) [] Tryz.f83 .leaf [] dw=(∀p,∀Q,(dw.body p Q)→wh p Q):=by kernel_rfl
theorem oB:LV Un prog 83 dw:=verify Tryz.func83 aa (tb:= []) trivial (by kernel_rfl) (wi.mpr fun p Q h gv=>h)
section
attribute [local grind=] DB.turns
end
def kP:Ctr Un:=⟨[.one (.obj 0 0),.one (.int .i64),.one (.int .i64)],[],[.ob 3 []],[],fun p t r E K=>K ⟨(.bool (decide (0≤p∧p<(E.n:Int)) && (E.ent p.toNat).typ==t)),none,[],[],[]⟩⟩
def DY(p:Int)(t:Int)(r:Nat→Nat)(E:Pd)(Q:Ou Un→Prop):Prop:=
 Pd.Ok E→
 ∃J:Bool→Prop,(
  split (decide (p≥0)) (
   split (decide (p<((Pd.aj E).length:Int))) (
    (0≤p∧p<((Pd.aj E).length:Int))∧
    J (((Pd.aj E).getD p.toNat Ent.free).typ==t)) (
    J false)) (
   J false))∧∀(Ic:Nat→Value)(x6:Bool),J x6→
 Q ⟨(.bool x6),none,[],[],[]⟩
theorem DZ:Vc2 Un prog (aN []) [] Tryz.f90 (.r' (.two (.node [] (some ⟨[(6,(.one .bool))],[],upN 6 24,[]⟩) [] [] .leaf .leaf) .leaf)) [] kP=(∀p t r (E:Pd),∀Q,(kP.body p t r E Q)→DY p t r E Q):=by kernel_rfl
theorem DX:LV Un prog 90 kP:=verify Tryz.func90 aa (tb:= []) trivial (by kernel_rfl) (DZ.mpr fun p t r E Q h f1=>bB ((decide ((p:Int)≥0)) && ((decide ((p:Int)<(((Pd.aj E).length:Nat):Int))) && ((((Pd.aj E).getD p.toNat Ent.free).typ:Int)==t))) (ae (fun c1=>ae (fun c2=>af (by grind) fun s2=>(by grind)) fun c2=>(by grind)) fun c1=>(by grind))<| bj h (by grind))
def gG:Ctr Un:=⟨[.one (.obj 0 0),.one (.int .i64),.one (.int .i64),.one (.int .i64)],[],[.ob 3 [(1,1,0)],.ob 2 []],[0,1],fun p t o r E rm m K=>E.n=m.S∧K ⟨(.int .i64 ((E.on m).bJ p t o)),none,[.ob 3 (((E.on m).take p t o).pd),.ob 2 (((E.on m).take p t o).mem)],[],[]⟩⟩
def zB(p:Int)(t:Int)(o:Int)(r:Nat→Nat)(E:Pd)(rm:Nat→Nat)(m:Mem)(Q:Ou Un→Prop):Prop:=
 Pd.Ok E→
 Mem.Wf m→
 ∃J:Bool→Prop,(
  split (decide (p<0)) (
   J true) (
   J (decide (p≥((Pd.aj E).length:Int)))))∧∀(Ic:Nat→Value)(KC:Bool),J KC→
 split KC (
  Q ⟨(.int .i64 5),none,[.ob 3 E,.ob 2 m],[],[]⟩) (
  ∃J1:Bool→Prop,(
   split (t !=2) (
    split (t !=4) (
     split (t !=5) (
      J1 (t !=6)) (
      J1 false)) (
     J1 false)) (
    J1 false))∧∀(Hn:Nat→Value)(M6:Bool),J1 M6→
  split M6 (
   Q ⟨(.int .i64 124),none,[.ob 3 E,.ob 2 m],[],[]⟩) (
   ∃J2:Bool→Prop,(
    split (!(decide (0≤o∧o<E.n) && (E.ent o.toNat).typ==1)) (
     J2 true) (
     (0≤o∧o<((Pd.aj E).length:Int))∧
     J2 (decide (((Pd.aj E).getD o.toNat Ent.free).refs≥63))))∧∀(I7:Nat→Value)(x50:Bool),J2 x50→
   split x50 (
    Q ⟨(.int .i64 122),none,[.ob 3 E,.ob 2 m],[],[]⟩) (
    (0≤p∧p<((Pd.aj E).length:Int))∧
    split (((Pd.aj E).getD p.toNat Ent.free).typ !=0) (
     Q ⟨(.int .i64 120),none,[.ob 3 E,.ob 2 m],[],[]⟩) (
     (0≤p∧p<((Pd.aj E).length:Int))∧
     (Ent.ok (Ent.mk t o 0 0 false)=true∧Ent.owner (Ent.mk t o 0 0 false)<(Pd.n E:Int))∧
     ∀(E1:Pd),E1=(Pd.set E p.toNat (Ent.mk t o 0 0 false))→
     Pd.Ok E1→
     (0≤o∧o<((Pd.aj E1).length:Int))∧
     (0≤o∧o<((Pd.aj E1).length:Int))∧
     (Ent.ok (Ent.mk (((Pd.aj E1).getD o.toNat Ent.free).typ) (((Pd.aj E1).getD o.toNat Ent.free).owner) (i64.wrap ((((Pd.aj E1).getD o.toNat Ent.free).refs)+1)) (((Pd.aj E1).getD o.toNat Ent.free).state) (((Pd.aj E1).getD o.toNat Ent.free).aM))=true∧Ent.owner (Ent.mk (((Pd.aj E1).getD o.toNat Ent.free).typ) (((Pd.aj E1).getD o.toNat Ent.free).owner) (i64.wrap ((((Pd.aj E1).getD o.toNat Ent.free).refs)+1)) (((Pd.aj E1).getD o.toNat Ent.free).state) (((Pd.aj E1).getD o.toNat Ent.free).aM))<(Pd.n E1:Int))∧
     ∀(E2:Pd),E2=(Pd.set E1 o.toNat (Ent.mk (((Pd.aj E1).getD o.toNat Ent.free).typ) (((Pd.aj E1).getD o.toNat Ent.free).owner) (i64.wrap ((((Pd.aj E1).getD o.toNat Ent.free).refs)+1)) (((Pd.aj E1).getD o.toNat Ent.free).state) (((Pd.aj E1).getD o.toNat Ent.free).aM)))→
     Pd.Ok E2→
     Q ⟨(.int .i64 0),none,[.ob 3 E2,.ob 2 m],[],[]⟩))))
theorem zC:Vc2 Un prog (aN [(90,kP)]) [] Tryz.f43 (.r' (.two (.two (.node [] (some ⟨[(20,(.one .bool))],[],upN 10 11,[]⟩) [] [] .leaf .leaf) .leaf) (.two (.two (.node [] (some ⟨[(34,(.one .bool))],[],upN 21 14,[]⟩) [] [] .leaf .leaf) .leaf) (.r' (.two (.two (.node [] (some ⟨[(50,(.one .bool))],[],upN 38 13,[]⟩) [] [] .leaf .leaf) .leaf) .leaf))))) [] gG=(∀p t o r (E:Pd) rm (m:Mem),∀Q,(gG.body p t o r E rm m Q)→zB p t o r E rm m Q):=by kernel_rfl
section
attribute [local grind=] DB.take DB.bJ DB.dE DB.more DB.AK DB.turns
theorem zA:LV Un prog 43 gG:=verify Tryz.func43 aa (tb:= [(90,kP)]) ⟨DX,trivial⟩ (by kernel_rfl) (zC.mpr fun p t o r E rm m Q h=>by
 obtain⟨Hw,h⟩:=h
 exact fun f1 f2=>bB ((decide ((p:Int)<0)) || (decide ((p:Int)≥(((Pd.aj E).length:Nat):Int)))) (ae (fun c1=>(by grind)) fun c1=>(by grind))<| aL (fun c2=>aF h (bp (by grind)) (ab (uO3 (by grind)) (ab (uO2 (by grind)) rfl)) rfl) fun c2=>bB (((t:Int) !=2) && (((t:Int) !=4) && (((t:Int) !=5) && ((t:Int) !=6)))) (ae (fun c3=>ae (fun c4=>ae (fun c5=>(by grind)) fun c5=>(by grind)) fun c4=>(by grind)) fun c3=>(by grind))<| bW (fun c6=>aF h (bp (by grind)) (ab (uO3 (by grind)) (ab (uO2 (by grind)) rfl)) rfl) fun c6=>bB ((!(decide (0≤o∧o<(E.n:Int)) && (E.ent o.toNat).typ==1)) || (decide ((((Pd.aj E).getD o.toNat Ent.free).refs:Int)≥63))) (ae (fun c7=>(by grind)) fun c7=>af (by grind) fun s3=>(by grind))<| aL (fun c8=>aF h (bp (by grind)) (ab (uO3 (by grind)) (ab (uO2 (by grind)) rfl)) rfl) fun c8=>af (by grind) fun s4=>aX (fun c9=>aF h (bp (by grind)) (ab (uO3 (by grind)) (ab (uO2 (by grind)) rfl)) rfl) fun c9=>af ‹_› fun s5=>af (by grind) fun s6 E1 HD f7=>af (by grind) fun s8=>af ‹_› fun s9=>af (by(have he:E1.ent o.toNat=E.ent o.toNat:=by grind);(have h5:=f1.ent o.toNat (by grind));have h6:=Ent.cS h5.1;rw [Pd.bt (by grind),he,ah (by omega)];exact⟨DB.qX h5.1 (by grind) (by grind),by rw [HD];exact h5.2⟩) fun K3 E2 HJ f11=>aF h (bp (by grind)) (ab (uO3 (by(have h8:=Ent.cS (f1.ent o.toNat (by grind)).1);have h9:E1.ent o.toNat=E.ent o.toNat:=(by grind);rw [DB.take,if_pos (by grind),DB.dE,Pd.dG,DB.more,Pd.dG,Pd.ep _ _ (by exact Hw),← HD,HJ,Pd.bt (by grind),ah (by rw [h9];omega)];rfl)) (ab (uO2 (by grind)) rfl)) rfl)
end
section
attribute [local grind=] DB.CY DB.mF DB.vm Pd.kg Mem.wg DB.E8 Mem.eM DB.Dn
end
def cZ:Ctr Un:=⟨[.one (.obj 0 0),.one (.int .i64),.one (.int .i64)],[],[.ob 3 [(1,1,0)],.ob 2 []],[0,1],fun p t r E rm m K=>E.n=m.S∧K ⟨(.int .i64 ((E.on m).aT p t)),none,[.ob 3 (((E.on m).setState p t).pd),.ob 2 (((E.on m).setState p t).mem)],[],[]⟩⟩
def o5(p:Int)(t:Int)(r:Nat→Nat)(E:Pd)(rm:Nat→Nat)(m:Mem)(Q:Ou Un→Prop):Prop:=
 Pd.Ok E→
 Mem.Wf m→
 ∃J:Bool→Prop,(
  split (decide (p<0)) (
   J true) (
   J (decide (p≥((Pd.aj E).length:Int)))))∧∀(Ic:Nat→Value)(Iu:Bool),J Iu→
 split Iu (
  Q ⟨(.int .i64 5),none,[.ob 3 E,.ob 2 m],[],[]⟩) (
  (0≤p∧p<((Pd.aj E).length:Int))∧
  split (((Pd.aj E).getD p.toNat Ent.free).typ !=1) (
   Q ⟨(.int .i64 124),none,[.ob 3 E,.ob 2 m],[],[]⟩) (
   ∃J1:Bool→Prop,(
    split (t !=3) (
     split (t !=2) (
      J1 true) (
      (0≤p∧p<((Pd.aj E).length:Int))∧
      J1 (((Pd.aj E).getD p.toNat Ent.free).state !=1))) (
     J1 false))∧∀(Hn:Nat→Value)(It:Bool),J1 It→
   split It (
    Q ⟨(.int .i64 3),none,[.ob 3 E,.ob 2 m],[],[]⟩) (
    (0≤p∧p<((Pd.aj E).length:Int))∧
    (Ent.ok (Ent.mk (((Pd.aj E).getD p.toNat Ent.free).typ) (((Pd.aj E).getD p.toNat Ent.free).owner) (((Pd.aj E).getD p.toNat Ent.free).refs) t (((Pd.aj E).getD p.toNat Ent.free).aM))=true∧Ent.owner (Ent.mk (((Pd.aj E).getD p.toNat Ent.free).typ) (((Pd.aj E).getD p.toNat Ent.free).owner) (((Pd.aj E).getD p.toNat Ent.free).refs) t (((Pd.aj E).getD p.toNat Ent.free).aM))<(Pd.n E:Int))∧
    ∀(E1:Pd),E1=(Pd.set E p.toNat (Ent.mk (((Pd.aj E).getD p.toNat Ent.free).typ) (((Pd.aj E).getD p.toNat Ent.free).owner) (((Pd.aj E).getD p.toNat Ent.free).refs) t (((Pd.aj E).getD p.toNat Ent.free).aM)))→
    Pd.Ok E1→
    Q ⟨(.int .i64 0),none,[.ob 3 E1,.ob 2 m],[],[]⟩)))
theorem o6:Vc2 Un prog (aN []) [] Tryz.f49 (.r' (.two (.two (.node [] (some ⟨[(17,(.one .bool))],[],upN 7 11,[]⟩) [] [] .leaf .leaf) .leaf) (.r' (.two (.two (.node [] (some ⟨[(43,(.one .bool))],[],upN 27 17,[]⟩) [] [] .leaf .leaf) .leaf) .leaf)))) [] cZ=(∀p t r (E:Pd) rm (m:Mem),∀Q,(cZ.body p t r E rm m Q)→o5 p t r E rm m Q):=by kernel_rfl
section
attribute [local grind=] DB.setState DB.aT DB.Ek
theorem o4:LV Un prog 49 cZ:=verify Tryz.func49 aa (tb:= []) trivial (by kernel_rfl) (o6.mpr fun p t r E rm m Q h=>by
 obtain⟨Hw,h⟩:=h
 exact fun f1 f2=>bB ((decide ((p:Int)<0)) || (decide ((p:Int)≥(((Pd.aj E).length:Nat):Int)))) (ae (fun c1=>(by grind)) fun c1=>(by grind))<| aL (fun c2=>aF h (bp (by grind)) (ab (uO3 (by grind)) (ab (uO2 (by grind)) rfl)) rfl) fun c2=>af (by grind) fun s3=>aX (fun c3=>aF h (bp (by grind)) (ab (uO3 (by grind)) (ab (uO2 (by grind)) rfl)) rfl) fun c3=>bB (((t:Int) !=3) && (((t:Int) !=2) || ((((Pd.aj E).getD p.toNat Ent.free).state:Int) !=1))) (ae (fun c4=>ae (fun c5=>(by grind)) fun c5=>af ‹_› fun s4=>(by grind)) fun c4=>(by grind))<| bW (fun c6=>aF h (bp (by grind)) (ab (uO3 (by grind)) (ab (uO2 (by grind)) rfl)) rfl) fun c6=>af ‹_› fun s5=>af (by grind) fun s6 E1 HD f7=>aF h (bp (by grind)) (ab (uO3 (by grind)) (ab (uO2 (by grind)) rfl)) rfl)
end
section
attribute [local grind=] DB.vv DB.jv DB.vD
end
section
attribute [local grind=] DB.G4 DB.xH DB.Bc DB.more Pd.kg Mem.wg DB.qX Ent.xI
end
def cI:Ctr Un:=⟨[.one (.obj 0 0),.one (.int .i64),.one (.int .i64)],[],[.ob 3 [(1,1,0)],.ob 2 []],[0,1],fun p q r E rm m K=>E.n=m.S∧K ⟨(.int .i64 ((E.on m).aI p q)),none,[.ob 3 (((E.on m).aw p q).pd),.ob 2 (((E.on m).aw p q).mem)],[],[]⟩⟩
def oy(p:Int)(q:Int)(r:Nat→Nat)(E:Pd)(rm:Nat→Nat)(m:Mem)(Q:Ou Un→Prop):Prop:=
 Pd.Ok E→
 Mem.Wf m→
 ∃J:Bool→Prop,(
  split (decide (p<0)) (
   J true) (
   split (decide (p≥((Pd.aj E).length:Int))) (
    J true) (
    split (decide (q<0)) (
     J true) (
     J (decide (q≥((Pd.aj E).length:Int)))))))∧∀(Ic:Nat→Value)(HQ:Bool),J HQ→
 split HQ (
  Q ⟨(.int .i64 5),none,[.ob 3 E,.ob 2 m],[],[]⟩) (
  split (p==q) (
   Q ⟨(.int .i64 1),none,[.ob 3 E,.ob 2 m],[],[]⟩) (
   ∃J1:Bool→Prop,(
    (0≤p∧p<((Pd.aj E).length:Int))∧
    split (((Pd.aj E).getD p.toNat Ent.free).typ !=0) (
     J1 true) (
     (0≤q∧q<((Pd.aj E).length:Int))∧
     J1 (((Pd.aj E).getD q.toNat Ent.free).typ !=0)))∧∀(Hn:Nat→Value)(x53:Bool),J1 x53→
   split x53 (
    Q ⟨(.int .i64 120),none,[.ob 3 E,.ob 2 m],[],[]⟩) (
    split (decide ((Pd.aq E)≥64)) (
     Q ⟨(.int .i64 240),none,[.ob 3 E,.ob 2 m],[],[]⟩) (
     (0≤q∧q<((Pd.aj E).length:Int))∧
     (Ent.ok (Ent.mk 3 p 0 0 false)=true∧Ent.owner (Ent.mk 3 p 0 0 false)<(Pd.n E:Int))∧
     ∀(E1:Pd),E1=(Pd.set E q.toNat (Ent.mk 3 p 0 0 false))→
     Pd.Ok E1→
     (0≤p∧p<((Pd.aj E1).length:Int))∧
     (Ent.ok (Ent.mk 1 p 1 1 false)=true∧Ent.owner (Ent.mk 1 p 1 1 false)<(Pd.n E1:Int))∧
     ∀(E2:Pd),E2=(Pd.set E1 p.toNat (Ent.mk 1 p 1 1 false))→
     Pd.Ok E2→
     (0≤(u32.wrap q)∧(u32.wrap q)<4294967296)∧
     ∀(m1:Mem),m1=(m.write true p 0 (u32.wrap q))→
     Mem.Wf m1→
     (0≤(u32.wrap (Pd.aq E2))∧(u32.wrap (Pd.aq E2))<4294967296)∧
     ∀(m2:Mem),m2=(m1.write true p 1 (u32.wrap (Pd.aq E2)))→
     Mem.Wf m2→
     (0≤(0:Int)∧(0:Int)<4294967296)∧
     ∀(m3:Mem),m3=(m2.write true p 2 0)→
     Mem.Wf m3→
     (0≤(i64.wrap ((Pd.aq E2)+1))∧(i64.wrap ((Pd.aq E2)+1))≤64)∧
     ∀(E3:Pd),E3=(Pd.dD E2 (i64.wrap ((Pd.aq E2)+1)))→
     Pd.Ok E3→
     Q ⟨(.int .i64 0),none,[.ob 3 E3,.ob 2 m3],[],[]⟩))))
theorem oz:Vc2 Un prog (aN [(83,dw),(55,fv)]) [] Tryz.f41 (.r' (.two (.two (.node [] (some ⟨[(30,(.one .bool))],[],upN 7 24,[]⟩) [] [] .leaf .leaf) .leaf) (.r' (.two (.two (.node [] (some ⟨[(53,(.one .bool))],[],upN 34 20,[]⟩) [] [] .leaf .leaf) .leaf) (.r' (.r' (.r' (.two (.node [] none [] [(3,[0])] .leaf .leaf) (.two (.node [] none [] [(3,[0]),(9,[0])] .leaf .leaf) (.two (.node [] none [] [(3,[0])] .leaf .leaf) .leaf)))))))))) [] cI=(∀p q r (E:Pd) rm (m:Mem),∀Q,(cI.body p q r E rm m Q)→oy p q r E rm m Q):=by kernel_rfl
section
attribute [local grind=] DB.aw DB.aI DB.aZ Pd.nE Pd.sQ Pd.pT Pd.CR Mem.dJ ah bM Ent.ok Pd.vu DB.mem_set DB.yG DB.td
attribute [local grind→] Pd.Ok.aq
theorem ox:LV Un prog 41 cI:=verify Tryz.func41 aa (tb:= [(83,dw),(55,fv)]) ⟨oB,oD,trivial⟩ (by kernel_rfl) (oz.mpr fun p q r E rm m Q h=>by
 obtain⟨Hw,h⟩:=h
 exact fun f1 f2=>bB ((decide ((p:Int)<0)) || ((decide ((p:Int)≥(((Pd.aj E).length:Nat):Int))) || ((decide ((q:Int)<0)) || (decide ((q:Int)≥(((Pd.aj E).length:Nat):Int)))))) (ae (fun c1=>(by grind)) fun c1=>ae (fun c2=>(by grind)) fun c2=>ae (fun c3=>(by grind)) fun c3=>(by grind))<| aL (fun c4=>aF h (bp (by grind)) (ab (uO3 (by grind)) (ab (uO2 (by grind)) rfl)) rfl) fun c4=>aC (fun c5=>aF h (bp (by grind)) (ab (uO3 (by grind)) (ab (uO2 (by grind)) rfl)) rfl) fun c5=>bB (((((Pd.aj E).getD p.toNat Ent.free).typ:Int) !=0) || ((((Pd.aj E).getD q.toNat Ent.free).typ:Int) !=0)) (af (by grind) fun s3=>ae (fun c6=>(by grind)) fun c6=>af (by grind) fun s4=>(by grind))<| aL (fun c7=>aF h (bp (by grind)) (ab (uO3 (by grind)) (ab (uO2 (by grind)) rfl)) rfl) fun c7=>aA (fun c8=>aF h (bp (by grind)) (ab (uO3 (by grind)) (ab (uO2 (by grind)) rfl)) rfl) fun c8=>af (by grind) fun s5=>af (by grind) fun s6 E1 HD f7=>af (by grind) fun s8=>af (by grind) fun s9 E2 HJ f10=>af (dP _) fun JN m1 Hq f12=>af (dP _) fun LK m2 KZ f14=>af (by omega) fun Og m3 Hy f16=>af (by grind) fun Sn E3 N8 f18=>aF h (bp (by grind)) (ab (uO3 (by(rw [DB.aw,if_pos (by grind)];dsimp only [DB.aZ];rw [DB.set_comm _ (by grind),Pd.dG,Pd.dG,Pd.nE,Pd.sQ,Pd.ep _ _ (by simp only [Mem.dJ];exact Hw),← HD,← HJ,N8,ah (by have:=f10.aq;omega),HJ,HD];rfl))) (ab (uO2 (by(rw [DB.aw,if_pos (by grind)];dsimp only [DB.aZ,DB.dD,DB.aK];(have hb:E2.aq=E.aq:=by rw [HJ,HD];rfl);(have h7:=f1.aq);(have h8:=f1.most);rw [Hy,KZ,Hq,bM (x:=E2.aq) (by rw [hb];omega),bM (x:=q) (by grind),hb];rfl))) rfl)) rfl)
end
def own(D:DB)(s:Int):List I64:=if D.di s then D.cy s D.S else []
end
section
set_option maxRecDepth 100000
set_option maxHeartbeats 1000000
attribute [local irreducible] Vc2 VcD
theorem Ent.eqC(a b c d a' b' c' d':Int)(e e':Bool):aY #[.int .i64 a,.int .i64 b,.int .i64 c,.int .i64 d,.bool e] #[.int .i64 a',.int .i64 b',.int .i64 c',.int .i64 d',.bool e']=decide (a=a'∧b=b'∧c=c'∧d=d'∧e=e'):=by
 simp [aY,eqL,js];rw [Bool.eq_iff_iff];simp
theorem Ent.A8 {e:Ent}:(if e.ok then(0:Int)else 110)=0↔e.ok=true:=by cases e.ok<;>simp
def kX:Ctr Un:=⟨[.one (.int .i64)],[],[],[],fun n K=>K ⟨(.bool (decide (0≤n∧n≤63))),none,[],[],[]⟩⟩
def D9(n:Int)(Q:Ou Un→Prop):Prop:=
 ∃J:Bool→Prop,(
  split (decide (n≥0)) (
   J (decide (n≤63))) (
   J false))∧∀(Ic:Nat→Value)(x2:Bool),J x2→
 Q ⟨(.bool x2),none,[],[],[]⟩
theorem Ea:Vc2 Un prog (aN []) [] Tryz.f226 (.r' (.two (.node [] (some ⟨[(2,(.one .bool))],[],upN 2 7,[]⟩) [] [] .leaf .leaf) .leaf)) [] kX=(∀n,∀Q,(kX.body n Q)→D9 n Q):=by kernel_rfl
theorem D8:LV Un prog 226 kX:=verify Tryz.func226 aa (tb:= []) trivial (by kernel_rfl) (Ea.mpr fun n Q h=>bB ((decide ((n:Int)≥0)) && (decide ((n:Int)≤63))) (ae (fun c1=>(by show _=_;rw [Bool.eq_iff_iff];simp_all<;>omega)) fun c1=>(by show _=_;rw [Bool.eq_iff_iff];simp_all<;>omega))<| bj h (by rw [Bool.eq_iff_iff];simp))
def iY:Ctr Un:=⟨[.agg [.int .i64,.int .i64,.int .i64,.int .i64,.bool]],[],[],[],fun ea eb ec ed ee K=>K ⟨(.int .i64 (if(Ent.mk ea eb ec ed ee).ok then 0 else 110)),none,[],[],[]⟩⟩
def CI(ea:Int)(eb:Int)(ec:Int)(ed:Int)(ee:Bool)(Q:Ou Un→Prop):Prop:=
 ∀(gv:Nat),
 ∀(Hm:Nat),
 ∃J:Bool→Prop,(
  split (decide (ea≥0)) (
   ∀ok:Bool,ok=(decide ((ea:Int)<7))→
   J ok) (
   ∀ok:Bool,ok=false→
   J ok))∧∀(I7:Nat→Value)(ok:Bool),J ok→
 ∃J1:Bool→Int→Int→Int→Int→Bool→Prop,(
  split (ea !=0) (
   ∃J2:Bool→Prop,(
    split ok (
     ∀Jn:Bool,Jn=(decide (0≤eb∧eb≤63))→
     J2 Jn) (
     ∀Jn:Bool,Jn=false→
     J2 Jn))∧∀(Kj:Nat→Value)(Jn:Bool),J2 Jn→
   J1 Jn ea eb 0 0 false) (
   J1 ok ea 0 0 0 false))∧∀(Kj:Nat→Value)(Jn:Bool) Mg Mf JR M1 (M0:Bool),J1 Jn Mg Mf JR M1 M0→
 ∀HQ:Bool,HQ=((ea:Int)==1)→
 split HQ (
  ∃J2:Bool→Prop,(
   split Jn (
    split (decide (0≤ec∧ec≤63)) (
     split (decide (ed>0)) (
      ∀KH:Bool,KH=(decide ((ed:Int)<4))→
      J2 KH) (
      ∀KH:Bool,KH=false→
      J2 KH)) (
     ∀KH:Bool,KH=false→
     J2 KH)) (
    ∀KH:Bool,KH=false→
    J2 KH))∧∀(IC:Nat→Value)(KH:Bool),J2 KH→
  ∃J3:Bool→Prop,(
   split (!KH) (
    J3 true) (
    J3 (!(aY #[(.int .i64 ea),(.int .i64 eb),(.int .i64 ec),(.int .i64 ed),(.bool ee)] #[(.int .i64 Mg),(.int .i64 Mf),(.int .i64 ec),(.int .i64 ed),(.bool M0)]))))∧∀(Ry:Nat→Value)(M3:Bool),J3 M3→
  split M3 (
   Q ⟨(.int .i64 110),none,[],[],[]⟩) (
   Q ⟨(.int .i64 0),none,[],[],[]⟩)) (
  ∀OO:Bool,OO=((ea:Int)==2)→
  split OO (
   ∃J2:Bool→Prop,(
    split (!Jn) (
     J2 true) (
     J2 (!(aY #[(.int .i64 ea),(.int .i64 eb),(.int .i64 ec),(.int .i64 ed),(.bool ee)] #[(.int .i64 Mg),(.int .i64 Mf),(.int .i64 JR),(.int .i64 M1),(.bool ee)]))))∧∀(IC:Nat→Value)(M3:Bool),J2 M3→
   split M3 (
    Q ⟨(.int .i64 110),none,[],[],[]⟩) (
    Q ⟨(.int .i64 0),none,[],[],[]⟩)) (
   ∃J2:Bool→Prop,(
    split (!Jn) (
     J2 true) (
     J2 (!(aY #[(.int .i64 ea),(.int .i64 eb),(.int .i64 ec),(.int .i64 ed),(.bool ee)] #[(.int .i64 Mg),(.int .i64 Mf),(.int .i64 JR),(.int .i64 M1),(.bool M0)]))))∧∀(IC:Nat→Value)(M3:Bool),J2 M3→
   split M3 (
    Q ⟨(.int .i64 110),none,[],[],[]⟩) (
    Q ⟨(.int .i64 0),none,[],[],[]⟩)))
theorem CJ:Vc2 Un prog (aN [(226,kX)]) [4,30,54] Tryz.f199 (.r' (.r' (.two (.node [] (some ⟨[(4,(.one .bool))],[],[4]++upN 8 8,[]⟩) [] [] .leaf .leaf) (.two (.r' (.node [] (some ⟨[(4,(.one .bool))],[],[4]++upN 19 9,[(1,(.blk [(.v (.int .i64)),(.v (.int .i64)),(.v (.int .i64)),(.v (.int .i64)),(.v .bool)]))]⟩) [] [] (.r' (.node [] (some ⟨[(4,(.one .bool))],[],[4]++upN 22 6,[]⟩) [] [] .leaf .leaf)) .leaf)) (.two (.r' (.two (.r' (.two (.two (.node [] none [] [(1,[0]),(3,[0])] .leaf .leaf) (.node [] (some ⟨[(4,(.one .bool))],[],[4]++upN 38 16,[]⟩) [] [] .leaf .leaf)) .leaf)) .leaf)) (.two (.two (.node [] (some ⟨[(65,(.one .bool))],[],upN 59 7,[]⟩) [] [] .leaf .leaf) .leaf) .leaf)))))) [] iY=(∀ea eb ec ed ee,∀Q,(iY.body ea eb ec ed ee Q)→CI ea eb ec ed ee Q):=by kernel_rfl
section
attribute [local grind=] Ent.ok Ent.eqC
theorem CH:LV Un prog 199 iY:=verify Tryz.func199 aa (tb:= [(226,kX)]) ⟨D8,trivial⟩ (by kernel_rfl) (CJ.mpr fun ea eb ec ed ee Q h gv Hm=>bB ((decide ((ea:Int)≥0)) && (decide ((ea:Int)<7))) (ae (fun c1=>allEq<| (by grind)) fun c1=>allEq<| (by grind))<| ⟨fun Jn Mg Mf JR M1 M0=>(Jn=(decide (0≤ea∧ea<7) && (ea==0 || decide (0≤eb∧eb≤63))))∧(Mg=ea∧Mf=(if ea=0 then 0 else eb)∧JR=0∧M1=0∧M0=false),aX (fun c2=>bB (((decide ((ea:Int)≥0)) && (decide ((ea:Int)<7))) && (decide (0≤eb∧eb≤63))) (ae (fun c3=>allEq<| (by grind)) fun c3=>allEq<| (by grind))<| ⟨(by grind),(by grind)⟩) fun c2=>⟨(by grind),(by grind)⟩,fun _ Jn Mg Mf JR M1 M0 ⟨g1,g2⟩=>allEq<| aC (fun c4=>bB (Jn && ((decide (0≤ec∧ec≤63)) && ((decide ((ed:Int)>0)) && (decide ((ed:Int)<4))))) (ae (fun c5=>ae (fun c6=>ae (fun c7=>allEq<| (by grind)) fun c7=>allEq<| (by grind)) fun c6=>allEq<| (by grind)) fun c5=>allEq<| (by grind))<| bB ((!(Jn && ((decide (0≤ec∧ec≤63)) && ((decide ((ed:Int)>0)) && (decide ((ed:Int)<4)))))) || (!(aY #[(.int .i64 ea),(.int .i64 eb),(.int .i64 ec),(.int .i64 ed),(.bool ee)] #[(.int .i64 Mg),(.int .i64 Mf),(.int .i64 ec),(.int .i64 ed),(.bool M0)]))) (ae (fun c8=>(by grind)) fun c8=>(by grind))<| aL (fun c9=>dN h (by grind)) fun c9=>dN h (by grind)) fun c4=>allEq<| aC (fun Ki=>bB ((!Jn) || (!(aY #[(.int .i64 ea),(.int .i64 eb),(.int .i64 ec),(.int .i64 ed),(.bool ee)] #[(.int .i64 Mg),(.int .i64 Mf),(.int .i64 JR),(.int .i64 M1),(.bool ee)]))) (ae (fun K1=>(by grind)) fun K1=>(by grind))<| aL (fun Oe=>dN h (by grind)) fun Oe=>dN h (by grind)) fun Ki=>bB ((!Jn) || (!(aY #[(.int .i64 ea),(.int .i64 eb),(.int .i64 ec),(.int .i64 ed),(.bool ee)] #[(.int .i64 Mg),(.int .i64 Mf),(.int .i64 JR),(.int .i64 M1),(.bool M0)]))) (ae (fun Le=>(by grind)) fun Le=>(by grind))<| aL (fun Od=>dN h (by grind)) fun Od=>dN h (by grind)⟩)
end
section
attribute [local grind=] Ent.ok
end
def gJ:Ctr Un:=⟨[.agg [.int .i64,.int .i64,.int .i64,.int .i64,.bool]],[],[],[],fun ea eb ec ed ee K=>∀(x:Int)(y:Int)(z:Int),((x=(if(Ent.mk ea eb ec ed ee).ok then(Ent.mk ea eb ec ed ee).w0 else 0)∧y=(if(Ent.mk ea eb ec ed ee).ok then(Ent.mk ea eb ec ed ee).w1 else 0)∧z=(if(Ent.mk ea eb ec ed ee).ok then 0 else 110)))→K ⟨(.tuple #[(.agg #[(.int .u32 x),(.int .u32 y)]),(.int .i64 z)]),(some (.t [none,none])),[],[],[]⟩⟩
def zV(ea:Int)(eb:Int)(ec:Int)(ed:Int)(ee:Bool)(Q:Ou Un→Prop):Prop:=
 ∀(gv:Nat),
 ∀(Hm:Nat),
 split (((if(Ent.mk ea eb ec ed ee).ok then 0 else 110):Int) !=0) (
  Q ⟨(.tuple #[(.agg #[(.int .u32 0),(.int .u32 0)]),(.int .i64 110)]),(some (.t [none,none])),[],[],[]⟩) (
  ∀wv:Int,wv=(u32.wrap (BitVec.ofInt u32.bits (u32.wrap (BitVec.ofInt u32.bits (u32.wrap ((u32.wrap ea:Int)*2 ^ 0)) ||| BitVec.ofInt u32.bits (u32.wrap ((u32.wrap ed:Int)*2 ^ 4))).toNat) ||| BitVec.ofInt u32.bits (u32.wrap ((u32.wrap eb:Int)*2 ^ 16))).toNat)→
  split ee (
   ∀Hb:Int,Hb=(u32.wrap (BitVec.ofInt u32.bits wv ||| BitVec.ofInt u32.bits 256).toNat)→
   Q ⟨(.tuple #[(.agg #[(.int .u32 Hb),(.int .u32 (u32.wrap ec))]),(.int .i64 0)]),(some (.t [none,none])),[],[],[]⟩) (
   Q ⟨(.tuple #[(.agg #[(.int .u32 wv),(.int .u32 (u32.wrap ec))]),(.int .i64 0)]),(some (.t [none,none])),[],[],[]⟩))
theorem zW:Vc2 Un prog (aN [(199,iY)]) [4] Tryz.f147 .leaf [] gJ=(∀ea eb ec ed ee,∀Q,(gJ.body ea eb ec ed ee Q)→zV ea eb ec ed ee Q):=by kernel_rfl
theorem qz:LV Un prog 147 gJ:=verify Tryz.func147 aa (tb:= [(199,iY)]) ⟨CH,trivial⟩ (by kernel_rfl) (zW.mpr fun ea eb ec ed ee Q h gv Hm=>aX (fun c1=>(h 0 0 110 (by grind))) fun c1=>allEq<| ae (fun c2=>allEq<| aF (h (u32.wrap (BitVec.ofInt u32.bits (u32.wrap (BitVec.ofInt u32.bits (u32.wrap (BitVec.ofInt u32.bits (u32.wrap ((u32.wrap ea:Int)*2 ^ 0)) ||| BitVec.ofInt u32.bits (u32.wrap ((u32.wrap ed:Int)*2 ^ 4))).toNat) ||| BitVec.ofInt u32.bits (u32.wrap ((u32.wrap eb:Int)*2 ^ 16))).toNat) ||| BitVec.ofInt u32.bits 256).toNat) (u32.wrap ec) 0 (by have hk:=Ent.A8.1 c1;have h1:=Ent.cS hk;have h2:=Ent.iB hk;simp only at h1 h2;rw [if_pos hk,if_pos hk,if_pos hk];refine⟨?_,bM (x:=ec) (by omega),rfl⟩;have h3:=Ent.or0 hk;simp only at h3;rw [h3,Ent.or1 ⟨ea+16*ed,128*eb,by omega⟩];simp [Ent.w0,c2])) (congrArg (fun l=>Value.tuple (List.toArray l)) (ab (congrArg (fun l=>Value.agg (List.toArray l)) (ab rfl (ab (tB (by rfl)) rfl))) (ab rfl rfl))) rfl rfl) fun c2=>aF (h (u32.wrap (BitVec.ofInt u32.bits (u32.wrap (BitVec.ofInt u32.bits (u32.wrap ((u32.wrap ea:Int)*2 ^ 0)) ||| BitVec.ofInt u32.bits (u32.wrap ((u32.wrap ed:Int)*2 ^ 4))).toNat) ||| BitVec.ofInt u32.bits (u32.wrap ((u32.wrap eb:Int)*2 ^ 16))).toNat) (u32.wrap ec) 0 (by have hk:=Ent.A8.1 c1;have h1:=Ent.cS hk;have h2:=Ent.iB hk;simp only at h1 h2;rw [if_pos hk,if_pos hk,if_pos hk];refine⟨?_,bM (x:=ec) (by omega),rfl⟩;have h3:=Ent.or0 hk;simp only at h3;rw [h3];simp [Ent.w0,c2])) (congrArg (fun l=>Value.tuple (List.toArray l)) (ab (congrArg (fun l=>Value.agg (List.toArray l)) (ab rfl (ab (tB (by rfl)) rfl))) (ab rfl rfl))) rfl rfl)
theorem Ent.Dx {a b x y z:Int}(h:x=(if(parts a b).ok then(parts a b).w0 else 0)∧y=(if(parts a b).ok then(parts a b).w1 else 0)∧z=(if(parts a b).ok then 0 else 110))(c:(z !=0)=true∨(!(aY #[.int .u32 x,.int .u32 y] #[.int .u32 a,.int .u32 b]))=true):dec a b=free∧eJ a b=110:=by
 obtain⟨rfl,rfl,rfl⟩:=h
 rw [eqW]at c
 cases hk:(parts a b).ok<;>simp [hk]at c
 ·simp [dec,eJ,hk]
 ·have h2:¬((parts a b).w0=a∧(parts a b).w1=b):=by rcases c with c | c<;>simp [c]
  simp [dec,eJ,hk,h2]
theorem Ent.Bj {a b x y z:Int}(h:x=(if(parts a b).ok then(parts a b).w0 else 0)∧y=(if(parts a b).ok then(parts a b).w1 else 0)∧z=(if(parts a b).ok then 0 else 110))(c:(z !=0)=false∧(!(aY #[.int .u32 x,.int .u32 y] #[.int .u32 a,.int .u32 b]))=false):dec a b=parts a b∧eJ a b=0:=by
 obtain⟨rfl,rfl,rfl⟩:=h
 rw [eqW]at c
 cases hk:(parts a b).ok<;>simp [hk]at c
 simp [dec,eJ,hk,c]
def lM:Ctr Un:=⟨[.agg [.int .u32,.int .u32]],[],[],[],fun wa wb K=>(0≤(wa:Int)∧(wa:Int)<4294967296)∧(0≤(wb:Int)∧(wb:Int)<4294967296)∧K ⟨(.tuple #[(.agg #[(.int .i64 ((Ent.dec wa wb).typ)),(.int .i64 ((Ent.dec wa wb).owner)),(.int .i64 ((Ent.dec wa wb).refs)),(.int .i64 ((Ent.dec wa wb).state)),(.bool ((Ent.dec wa wb).aM))]),(.int .i64 (Ent.eJ wa wb))]),(some (.t [none,none])),[],[],[]⟩⟩
def zY(wa:Int)(wb:Int)(Q:Ou Un→Prop):Prop:=
 ∀(gv:Nat),
 ∀(Hm:Nat),
 (0≤(0:Int)∧(0:Int)<(2:Int))∧
 ∀H3:Int,H3=(i64.wrap (u32.wrap (BitVec.ofInt u32.bits ((wa:Int).fdiv (2 ^ 0)) &&& BitVec.ofInt u32.bits 7).toNat))→
 (0≤(0:Int)∧(0:Int)<(2:Int))∧
 ∀Ly:Int,Ly=(i64.wrap (u32.wrap (BitVec.ofInt u32.bits ((wa:Int).fdiv (2 ^ 4)) &&& BitVec.ofInt u32.bits 3).toNat))→
 (0≤(0:Int)∧(0:Int)<(2:Int))∧
 ∀IS:Bool,IS=((u32.wrap (BitVec.ofInt u32.bits ((wa:Int).fdiv (2 ^ 8)) &&& BitVec.ofInt u32.bits 1).toNat:Int)==1)→
 (0≤(0:Int)∧(0:Int)<(2:Int))∧
 ∀Jl:Int,Jl=(i64.wrap (u32.wrap (BitVec.ofInt u32.bits ((wa:Int).fdiv (2 ^ 16)) &&& BitVec.ofInt u32.bits 63).toNat))→
 (0≤(1:Int)∧(1:Int)<(2:Int))∧
 ∀HQ:Int,HQ=(i64.wrap (u32.wrap (BitVec.ofInt u32.bits wb &&& BitVec.ofInt u32.bits 63).toNat))→
 ∀(IF:Nat),
 ∀(x:Int)(y:Int)(z:Int),
 ((x=(if(Ent.mk H3 Jl HQ Ly IS).ok then(Ent.mk H3 Jl HQ Ly IS).w0 else 0)∧y=(if(Ent.mk H3 Jl HQ Ly IS).ok then(Ent.mk H3 Jl HQ Ly IS).w1 else 0)∧z=(if(Ent.mk H3 Jl HQ Ly IS).ok then 0 else 110)))→
 ∀(Jc:Nat),
 ∃J:Bool→Prop,(
  split (z !=0) (
   J true) (
   J (!(aY #[(.int .u32 x),(.int .u32 y)] #[(.int .u32 wa),(.int .u32 wb)]))))∧∀(IC:Nat→Value)(It:Bool),J It→
 split It (
  Q ⟨(.tuple #[(.agg #[(.int .i64 0),(.int .i64 0),(.int .i64 0),(.int .i64 0),(.bool false)]),(.int .i64 110)]),(some (.t [none,none])),[],[],[]⟩) (
  Q ⟨(.tuple #[(.agg #[(.int .i64 H3),(.int .i64 Jl),(.int .i64 HQ),(.int .i64 Ly),(.bool IS)]),(.int .i64 0)]),(some (.t [none,none])),[],[],[]⟩)
theorem zZ:Vc2 Un prog (aN [(147,gJ)]) [11,16,21,26,30] Tryz.f146 (.r' (.r' (.two (.r' (.two (.node [] (some ⟨[(43,(.one .bool))],[],upN 37 7,[]⟩) [] [] .leaf .leaf) .leaf)) .leaf))) [] lM=(∀wa wb,∀Q,(lM.body wa wb Q)→zY wa wb Q):=by kernel_rfl
theorem zX:LV Un prog 146 lM:=verify Tryz.func146 aa (tb:= [(147,gJ)]) ⟨qz,trivial⟩ (by kernel_rfl) (zZ.mpr fun wa wb Q h=>by
 obtain⟨e1,e2,e3,e4,e5⟩:=Ent.parts_eq h.1 h.2.1
 obtain⟨Hw,HB,h⟩:=h
 exact fun gv Hm=>af (by omega) fun s1 H3 IP=>af ‹_› fun s2 Ly Nv=>af ‹_› fun s3 IS Nt=>af ‹_› fun s4 Jl Ns=>af (by omega) fun s5 HQ Nr IF x y z f6=>(by rw [e1]at IP;rw [e2]at Ns;rw [e3]at Nr;rw [e4]at Nv;rw [e5]at Nt;subst IP Ns Nr Nv Nt;exact fun Jc=>bB (((z:Int) !=0) || (!(aY #[(.int .u32 x),(.int .u32 y)] #[(.int .u32 wa),(.int .u32 wb)]))) (ae (fun c1=>(by grind)) fun c1=>(by grind))<| aL (fun c2=>(by have hd:=Ent.Dx (a:=wa) (b:=wb) f6 c2;exact aF h (by rw [hd.1,hd.2]<;>rfl) rfl rfl)) fun c2=>(by have hd:=Ent.Bj (a:=wa) (b:=wb) f6 c2;exact aF h (by rw [hd.1,hd.2]<;>rfl) rfl rfl)))
theorem puC {P:Program} {f:Nat} {args:Array Value} {w:World} {v:Value} {k:Option Kn}(h:∀X:Nat→Nat→Prop,Sat (U:=Un) [] X w→ar (U:=Un) [] fr0 []→Calls P f args w (bd (U:=Un) [] [] X w (fun o=>o=⟨v,k,[],[],[]⟩)))(hk:iI k v= .returned v:=by rfl):Calls P f args w fun e w'=>∃u,e= .returned u∧u=v∧Pu w w':=by
 refine(h (fun _ _=>False) ⟨fun i r h=>by simp [nth]at h,fun _ _ _ _ _ _ h=>h.elim⟩ (fun _ _ h=>by cases h)).mono ?_
 rintro e w' ⟨out,rs',X',rfl,rfl,_,hp⟩
 exact⟨_,hk,rfl,hp.ch.mono fun k ⟨j,hj,_⟩=>by cases hj⟩
theorem Dv {w:World}(ea eb ec ed:Int)(ee:Bool):
 Calls prog 147 #[(.agg #[(.int .i64 ea),(.int .i64 eb),(.int .i64 ec),(.int .i64 ed),(.bool ee)])] w fun e w'=>∃v,e= .returned v∧v= .tuple #[(.agg #[(.int .u32 (if(Ent.mk ea eb ec ed ee).ok then(Ent.mk ea eb ec ed ee).w0 else 0)),(.int .u32 (if(Ent.mk ea eb ec ed ee).ok then(Ent.mk ea eb ec ed ee).w1 else 0))]),(.int .i64 (if(Ent.mk ea eb ec ed ee).ok then 0 else 110))]∧Pu w w':=
 puC fun X=>qz ea eb ec ed ee (fun o=>o=_) (fun x y z h=>by obtain⟨rfl,rfl,rfl⟩:=h;rfl) X w
theorem Dw {w:World}(wa wb:Int)(ha:0≤wa∧wa<4294967296)(hb:0≤wb∧wb<4294967296):
 Calls prog 146 #[(.agg #[(.int .u32 wa),(.int .u32 wb)])] w fun e w'=>∃v,e= .returned v∧v=(.tuple #[(.agg #[(.int .i64 ((Ent.dec wa wb).typ)),(.int .i64 ((Ent.dec wa wb).owner)),(.int .i64 ((Ent.dec wa wb).refs)),(.int .i64 ((Ent.dec wa wb).state)),(.bool ((Ent.dec wa wb).aM))]),(.int .i64 (Ent.eJ wa wb))])∧Pu w w':=
 puC fun X=>zX wa wb (fun o=>o=_) ⟨ha,hb,rfl⟩ X w
end
section
set_option maxRecDepth 100000
end
section
set_option maxRecDepth 100000
def og(ma:Bool)(mb:Int)(mc:Bool)(md:Bool)(R:ax)(w:World):Prop:=
 ∀(gv:Nat)(wv:World),gv=w.heap.size→wv=w.alloc (.cells #[(.bool ma),(.int .i64 mb),(.bool mc),(.bool md)] 255)→
 ∃J:Bool→World→Prop,(
  ∃x9:Int,wv.cell? (((Addr.mk gv 0 none).add 0).add 1)=some (.int .i64 x9)∧
  split (decide ((x9:Int)<0)) (
   J true wv) (
   ∃H4:Int,wv.cell? (((Addr.mk gv 0 none).add 0).add 1)=some (.int .i64 H4)∧
   J (decide ((H4:Int)>63)) wv))∧∀(Hn:Nat→Value)(Ly:Bool),∀Hb,J Ly Hb→
 split Ly (
  R (.tuple #[(.int .u32 0),(.int .i64 4)]) Hb) (
  ∃J1:Bool→World→Prop,(
   ∃Jd:Bool,Hb.cell? ((Addr.mk gv 0 none).add 3)=some (.bool Jd)∧
   split Jd (
    ∃Ht:Bool,Hb.cell? (((Addr.mk gv 0 none).add 0).add 0)=some (.bool Ht)∧
    J1 (!Ht) Hb) (
    J1 false Hb))∧∀(I7:Nat→Value)(Ln:Bool),∀He,J1 Ln He→
  split Ln (
   R (.tuple #[(.int .u32 0),(.int .i64 1)]) He) (
   ∃M7:Int,He.cell? (((Addr.mk gv 0 none).add 0).add 1)=some (.int .i64 M7)∧
   ∀Hf:Int,Hf=(u32.wrap (BitVec.ofInt u32.bits (u32.wrap ((u32.wrap M7:Int)*2 ^ 8)) ||| BitVec.ofInt u32.bits 1).toNat)→
   ∃x33:Bool,He.cell? (((Addr.mk gv 0 none).add 0).add 0)=some (.bool x33)∧
   ∃Ih:Bool,He.cell? ((Addr.mk gv 0 none).add 2)=some (.bool Ih)∧
   ∃HS:Bool,He.cell? ((Addr.mk gv 0 none).add 3)=some (.bool HS)∧
   ∀(Jc:Nat)(Hl:World),Jc=He.heap.size→Hl=He.alloc (.cells #[(.bool x33),(.int .u32 2),(.bool Ih),(.int .u32 4),(.bool HS),(.int .u32 8)] 308)→
   ∃I:Nat→Int→Int→World→Prop,(∃m,I m Hf 0 Hl)∧∀(m:Nat)(IC:Nat→Value)(HG:Int)(It:Int),∀ID,I m HG It ID→
   split (decide ((It:Int)<((3:Nat):Int))) (
    (0≤(It:Int)∧(It:Int)<((3:Nat):Int))∧
    ∃OQ:Bool,∃OP:Int,(ID.cell? (((Addr.mk Jc 0 none).add (Int.toNat It*2)).add 0)=some (.bool OQ)∧ID.cell? (((Addr.mk Jc 0 none).add (Int.toNat It*2)).add 1)=some (.int .u32 OP))∧
    ∀(Ld:Nat)(IX:World),Ld=ID.heap.size→IX=ID.alloc (.cells (#[(.bool false),(.int .u32 0)]) 308)→
    aD IX (Addr.mk Ld 0 none) [(.bool OQ),(.int .u32 OP)] fun Ja=>
    ∃x48:Bool,Ja.cell? ((Addr.mk Ld 0 none).add 0)=some (.bool x48)∧
    split x48 (
     ∃x51:Int,Ja.cell? ((Addr.mk Ld 0 none).add 1)=some (.int .u32 x51)∧
     ∀K2:Int,K2=(u32.wrap (BitVec.ofInt u32.bits HG ||| BitVec.ofInt u32.bits x51).toNat)→
     ∃m1,m1<m∧I m1 K2 (i64.wrap (It+1)) Ja) (
     ∃m1,m1<m∧I m1 HG (i64.wrap (It+1)) Ja)) (
    R (.tuple #[(.int .u32 HG),(.int .i64 0)]) ID)))
def v7:Ann:=(.node none .leaf (.node none (.node none (.node (some ⟨[(16,.one (.bool))],[7,8,9,10,11,12,13,14,15,16]⟩) .leaf .leaf) .leaf) (.node none (.node none (.node (some ⟨[(24,.one (.bool))],[17,18,19,20,21,22,23,24]⟩) .leaf .leaf) .leaf) (.node none .leaf (.node none (.node none .leaf (.node none (.node (some ⟨[(4,.one (.int .u32)),(43,.one (.int .i64))],[4,6,43,44,45,46,47,48,49,50,51,52,53]⟩) .leaf .leaf) .leaf)) .leaf)))))
theorem WSecond_eq(ma:Bool)(mb:Int)(mc:Bool)(md:Bool)(R:ax)(w:World):og ma mb mc md R w=vcF prog aE [4] Tryz.f217 v7 [(.agg #[(.bool ma),(.int .i64 mb),(.bool mc),(.bool md)])] R none w:=by kernel_rfl
theorem oV(ma:Bool)(mb:Int)(mc:Bool)(md:Bool) {R:ax} {w:World}(h:og ma mb mc md R w):Calls prog 217 #[(.agg #[(.bool ma),(.int .i64 mb),(.bool mc),(.bool md)])] w fun e w'=>∃v,e= .returned v∧R v w':=
 ai Tryz.func217 au aa ((WSecond_eq ma mb mc md R w).mp h)
end
end Go.Proofs.YtfmcaoaaiganbaaGreatDoor
namespace Go.Proofs.YtfmcaoaaiganbaaGreatDoor
open Go.Proofs.Tryz (prog)
open Go Go.RowKit V
open Go.IntKind (i64 u32 u64)
section
set_option maxRecDepth 10000
set_option maxHeartbeats 1000000
theorem CT {w:World}(ma:Bool)(mb:Int)(mc:Bool)(md:Bool):
 Calls prog 217 #[(.agg #[(.bool ma),(.int .i64 mb),(.bool mc),(.bool md)])] w fun e w'=>∃v,e= .returned v∧v= .tuple #[(.int .u32 ((Mp.mk ma mb mc md).word)),(.int .i64 ((Mp.mk ma mb mc md).err))]∧Pu w w':=by
 refine oV _ _ _ _ ?_
 have hp:=Ch.refl (fun _=>False) w
 refine mkd fun gv wv Hg=>?_
 have Ha:=Hg.blk
 refine⟨fun x w'=>x=((decide ((mb:Int)<0)) || (decide ((mb:Int)>63)))∧Pu wv w',?_,?_⟩
 ·refine⟨_,Ha.at2 rfl,?_⟩
  refine ae (fun c1=>?_) (fun c1=>?_)
  ·exact⟨by simp only [c1,Bool.true_and,Bool.and_true,Bool.false_and,Bool.and_false,Bool.true_or,Bool.or_true,Bool.false_or,Bool.or_false,Bool.not_true,Bool.not_false,if_true,if_false,Bool.false_eq_true],Ch.refl _ _⟩
  ·refine⟨_,Ha.at2 rfl,?_⟩
   exact⟨by simp only [c1,Bool.true_and,Bool.and_true,Bool.false_and,Bool.and_false,Bool.true_or,Bool.or_true,Bool.false_or,Bool.or_false,Bool.not_true,Bool.not_false,if_true,if_false,Bool.false_eq_true],Ch.refl _ _⟩
 rintro _ _ Hb ⟨rfl,Hc⟩
 refine aL (fun c2=>?_) (fun c2=>?_)
 ·have hp:=Ch.pu (Ch.made hp Hg) Hc
  exact⟨congrArg Value.tuple (oU (congrArg (Value.int .u32) (by grind [Mp.word,Mp.err,Mp.bits])) (congrArg (Value.int .i64) (by grind [Mp.word,Mp.err,Mp.bits]))),hp⟩
 ·refine⟨fun x w'=>x=(md && (!ma))∧Pu Hb w',?_,?_⟩
  ·have Ha:=Pu.blk Hc Ha
   refine⟨_,Ha.at rfl,?_⟩
   refine ae (fun c3=>?_) (fun c3=>?_)
   ·refine⟨_,Ha.at2 rfl,?_⟩
    exact⟨by simp only [c3,Bool.true_and,Bool.and_true,Bool.false_and,Bool.and_false,Bool.true_or,Bool.or_true,Bool.false_or,Bool.or_false,Bool.not_true,Bool.not_false,if_true,if_false,Bool.false_eq_true],Ch.refl _ _⟩
   ·exact⟨by simp only [c3,Bool.true_and,Bool.and_true,Bool.false_and,Bool.and_false,Bool.true_or,Bool.or_true,Bool.false_or,Bool.or_false,Bool.not_true,Bool.not_false,if_true,if_false,Bool.false_eq_true],Ch.refl _ _⟩
  rintro _ _ He ⟨rfl,Hs⟩
  refine bW (fun c4=>?_) (fun c4=>?_)
  ·have hp:=Ch.pu (Ch.pu (Ch.made hp Hg) Hc) Hs
   exact⟨congrArg Value.tuple (oU (congrArg (Value.int .u32) (by grind [Mp.word,Mp.err,Mp.bits])) (congrArg (Value.int .i64) (by grind [Mp.word,Mp.err,Mp.bits]))),hp⟩
  ·have LY:0≤mb∧mb<64:=by grind
   have Ha:=Pu.blk Hs (Pu.blk Hc Ha)
   refine⟨_,Ha.at2 rfl,?_⟩
   rintro _ rfl
   refine⟨_,Ha.at2 rfl,⟨_,Ha.at rfl,⟨_,Ha.at rfl,?_⟩⟩⟩
   refine mkd fun Jc Hl LQ=>?_
   have Hi:=LQ.blk
   have hp:=Ch.made (Ch.pu (Ch.pu (Ch.made hp Hg) Hc) Hs) LQ
   have Ha:=Made.old LQ Ha
   refine⟨fun mz HG It W=>Ch (fun _=>False) w W∧(∃T,Blk W gv #[(.bool ma),(.int .i64 mb),(.bool mc),(.bool md)] T)∧(∃T,Blk W Jc #[(.bool ma),(.int .u32 2),(.bool mc),(.int .u32 4),(.bool md),(.int .u32 8)] T)∧((mz=3∧HG=(256*mb+1)∧It=0)∨(mz=2∧HG=(256*mb+(1+(if ma then 2 else 0)))∧It=1)∨(mz=1∧HG=(256*mb+(1+(if ma then 2 else 0)+(if mc then 4 else 0)))∧It=2)∨(mz=0∧HG=(256*mb+(1+(if ma then 2 else 0)+(if mc then 4 else 0)+(if md then 8 else 0)))∧It=3)),⟨_,hp,⟨_,Ha⟩,⟨_,Hi⟩,.inl ⟨rfl,by exact AI LY,rfl⟩⟩,?_⟩
   rintro _ _ HG It ID ⟨hp,⟨_,Ha⟩,⟨_,Hi⟩,hU⟩
   rcases hU with⟨rfl,rfl,rfl⟩ | ⟨rfl,rfl,rfl⟩ | ⟨rfl,rfl,rfl⟩ | ⟨rfl,rfl,rfl⟩
   ·refine jd ⟨by decide,⟨_,_,⟨Hi.at2 rfl,Hi.at2 rfl⟩,?_⟩⟩
    refine mkd fun Ld IX Hh=>?_
    have Ig:=Hh.lo hp
    have Hx:=Hh.ne Ha
    have ne_gv3_gv5:=Hh.ne Hi
    have HW:=Hh.blk
    refine bq HW (by simp) fun Ja Hr=>?_
    have HW:Blk Ja Ld #[(.bool ma),(.int .u32 2)] _:=Hr.blk
    refine⟨_,HW.at rfl,?_⟩
    refine ae (fun c5=>?_) (fun c5=>?_)
    ·refine⟨_,HW.at rfl,?_⟩
     rintro _ rfl
     have hp:=Ch.call (Ch.made hp Hh) Hr.ch (by exact fun k e=>.inr (e▸Ig))
     have Ha:=Ch.blk Hr.ch (Made.old Hh Ha) (Hx)
     have Hi:=Ch.blk Hr.ch (Made.old Hh Hi) (ne_gv3_gv5)
     exact⟨2,by decide,hp,⟨_,Ha⟩,⟨_,Hi⟩,.inr (.inl ⟨rfl,by(rw [vB 1 2 (by decide) (by omega) LY (a:=1) (by constructor<;>grind)];simp only [c2,c4,c5,if_true];done),rfl⟩)⟩
    ·have hp:=Ch.call (Ch.made hp Hh) Hr.ch (by exact fun k e=>.inr (e▸Ig))
     have Ha:=Ch.blk Hr.ch (Made.old Hh Ha) (Hx)
     have Hi:=Ch.blk Hr.ch (Made.old Hh Hi) (ne_gv3_gv5)
     exact⟨2,by decide,hp,⟨_,Ha⟩,⟨_,Hi⟩,.inr (.inl ⟨rfl,by(simp [c2,c4,c5];done),rfl⟩)⟩
   ·refine jd ⟨by decide,⟨_,_,⟨Hi.at2 rfl,Hi.at2 rfl⟩,?_⟩⟩
    refine mkd fun Ld IX Hh=>?_
    have Ig:=Hh.lo hp
    have Hx:=Hh.ne Ha
    have ne_gv3_gv5:=Hh.ne Hi
    have HW:=Hh.blk
    refine bq HW (by simp) fun Ja Hr=>?_
    have HW:Blk Ja Ld #[(.bool mc),(.int .u32 4)] _:=Hr.blk
    refine⟨_,HW.at rfl,?_⟩
    refine ae (fun c6=>?_) (fun c6=>?_)
    ·refine⟨_,HW.at rfl,?_⟩
     rintro _ rfl
     have hp:=Ch.call (Ch.made hp Hh) Hr.ch (by exact fun k e=>.inr (e▸Ig))
     have Ha:=Ch.blk Hr.ch (Made.old Hh Ha) (Hx)
     have Hi:=Ch.blk Hr.ch (Made.old Hh Hi) (ne_gv3_gv5)
     exact⟨1,by decide,hp,⟨_,Ha⟩,⟨_,Hi⟩,.inr (.inr (.inl ⟨rfl,by(rw [vB 2 4 (by decide) (by omega) LY (a:=(1+(if ma then 2 else 0))) (by constructor<;>grind)];simp only [c2,c4,c6,if_true];done),rfl⟩))⟩
    ·have hp:=Ch.call (Ch.made hp Hh) Hr.ch (by exact fun k e=>.inr (e▸Ig))
     have Ha:=Ch.blk Hr.ch (Made.old Hh Ha) (Hx)
     have Hi:=Ch.blk Hr.ch (Made.old Hh Hi) (ne_gv3_gv5)
     exact⟨1,by decide,hp,⟨_,Ha⟩,⟨_,Hi⟩,.inr (.inr (.inl ⟨rfl,by(simp [c2,c4,c6];done),rfl⟩))⟩
   ·refine jd ⟨by decide,⟨_,_,⟨Hi.at2 rfl,Hi.at2 rfl⟩,?_⟩⟩
    refine mkd fun Ld IX Hh=>?_
    have Ig:=Hh.lo hp
    have Hx:=Hh.ne Ha
    have ne_gv3_gv5:=Hh.ne Hi
    have HW:=Hh.blk
    refine bq HW (by simp) fun Ja Hr=>?_
    have HW:Blk Ja Ld #[(.bool md),(.int .u32 8)] _:=Hr.blk
    refine⟨_,HW.at rfl,?_⟩
    refine ae (fun c7=>?_) (fun c7=>?_)
    ·refine⟨_,HW.at rfl,?_⟩
     rintro _ rfl
     have hp:=Ch.call (Ch.made hp Hh) Hr.ch (by exact fun k e=>.inr (e▸Ig))
     have Ha:=Ch.blk Hr.ch (Made.old Hh Ha) (Hx)
     have Hi:=Ch.blk Hr.ch (Made.old Hh Hi) (ne_gv3_gv5)
     exact⟨0,by decide,hp,⟨_,Ha⟩,⟨_,Hi⟩,.inr (.inr (.inr (⟨rfl,by(rw [vB 3 8 (by decide) (by omega) LY (a:=(1+(if ma then 2 else 0)+(if mc then 4 else 0))) (by constructor<;>grind)];simp only [c2,c4,c7,if_true];done),rfl⟩)))⟩
    ·have hp:=Ch.call (Ch.made hp Hh) Hr.ch (by exact fun k e=>.inr (e▸Ig))
     have Ha:=Ch.blk Hr.ch (Made.old Hh Ha) (Hx)
     have Hi:=Ch.blk Hr.ch (Made.old Hh Hi) (ne_gv3_gv5)
     exact⟨0,by decide,hp,⟨_,Ha⟩,⟨_,Hi⟩,.inr (.inr (.inr (⟨rfl,by(simp [c2,c4,c7];done),rfl⟩)))⟩
   ·refine gR ?_
    exact⟨congrArg Value.tuple (oU (congrArg (Value.int .u32) (by grind [Mp.word,Mp.err,Mp.bits])) (congrArg (Value.int .i64) (by grind [Mp.word,Mp.err,Mp.bits]))),hp⟩
end
end Go.Proofs.YtfmcaoaaiganbaaGreatDoor
