/- SnapForms returns true for every input: a snapshot that the program reads is read alike by the document's answer, with the same refusals and the same words. -/
import Derived.Test.YtoghdgcmhbanbaaGreatDoorF4
import Derived.Great.BuildSlice
import Derived.KernelRfl
set_option linter.unusedVariables false
set_option linter.unusedSimpArgs false
section
namespace Go.Proofs.YtoghdgcmhbanbaaGreatDoor.V
open Go Go.RowKit
open Go.IntKind (i64 u32 u64 wrap_i64 wrap_u32)
open Enc (enc)
section
variable {U:Uni}{P:Program}{tbl:Tb U}{may:List Nat}{k0:Nat}
variable {w0:World}{X0 X:Nat->Nat->Prop}{w:World}{fr:Fr}{st:St U}{Qp:Option (List PanicEntry->World->Prop)}
theorem xO:∀ {vs:List Value}{F:Prop},(∀v,v∈vs->one? v True)->F->mo vs F
 | [],_,_,h=>h
 | v::r,F,a,h=>by
  have b:=nY (a v (List.mem_cons_self ..));have c:=xO (F:=F) (λu hu=>a u (List.mem_cons_of_mem _ hu)) h;unfold mo one?;cases v<;>first|exact c|exact absurd rfl (b.2.1 _)|exact absurd rfl (b.2.2 _)
theorem sK(s:Inv w0 k0 X0 may st.rs X w)(f:aH st.rs fr st.kn){i:Nat}{a b:Res U}(o:nth st.rs i=some a)(p:ku may k0 i=true){l:World}(q:Ch (X i) w l)(t:cD a b)(u:RS (X i) l b){r:List (Key×Kn)}(v:aH (bK st.rs i b) fr r):
 dt w0 k0 X0 may fr st X w ⟨bK st.rs i b,r,i::st.md⟩ X l [i]:=by
 have hi:=aZ o;have hinv:=s.set hi (gA p) q u (λk f=>.inl f);have e:jP X i (X i)=X:=by
  funext j;unfold jP;split
  ·rename_i h;rw[h]
  ·rfl
 rw[e]at hinv;exact⟨hinv,v,rfl,λj d=>by simp at d;subst d;exact hi,λj d=>by simp at d;subst d;exact gA p,by simp,λj d g=>⟨by rw[bh,if_neg (λm=>g (by simp[m.1]))],rfl⟩,λ_ _ _ h=>.inl h,λj y x=>by simp at x;omega,q.mono λk f=>⟨i,by simp,f⟩,λj c d=>by
  by_cases g:j=i
  ·subst g;rw[o]at d;injection d with d
   subst d;exact⟨b,by rw[bh,if_pos ⟨rfl,hi⟩],t⟩
  ·exact⟨c,by rw[bh,if_neg (λm=>g m.1)];exact d,cD.refl c⟩⟩
theorem oP(l:Inv w0 k0 X0 may st.rs X w)(b:aH st.rs fr st.kn){r:Res U}{Z:Nat->Prop}{c:World}(q:Pu w c)(m:RS Z c r)(e:∀k,Z k->w.heap.size<=k){f:List (Key×Kn)}(o:aH (st.rs++ [r]) fr f):
 dt w0 k0 X0 may fr st X w ⟨st.rs++ [r],f,st.md⟩ (jP X st.rs.length Z) c []:=
 ⟨l.more q m e,o,rfl,λj d=>(by cases d),λj d=>(by cases d),by simp,λi hi _=>⟨by rw[bp,if_pos hi],iM _ _ (by omega)⟩,λi hi=>(by cases hi),λi s p k b=>by
  simp at p;obtain rfl:i=st.rs.length:=by omega
  rw[updX_eq]at b;exact e k b,q.mono λk h=>h.elim,λi a g=>⟨a,by rw[bp,if_pos (aZ g)];exact g,cD.refl a⟩⟩
theorem rL(a:aH st.rs fr st.kn)(r:Res U):aH (st.rs++ [r]) fr st.kn:=
 a.jo (M:= []) (λi hi _=>by rw[bp,if_pos hi]) (λi hi=>by cases hi) λkey k h=>⟨h,λp _=>.inl (by simp),λid off _=>.inl (by simp)⟩
theorem Blk.rs {g:Nat}{cs:Array Value}{T:TypeId}{a:World}(h:Blk a g cs T):RS (U:=U) (λk=>k=g) a (.blk g cs.toList T):=⟨rfl,λ_ h=>h,h⟩
theorem kH {α:Type}(vs L:List α)(off:Nat)(h:off+vs.length<=L.length):fB L off vs=L.take off++vs++L.drop (off+vs.length):=by
 apply List.ext_getElem?;intro j;rw[<-aO,lS _ _ _ _ h,List.append_assoc];by_cases a:off<=j/\j<off+vs.length
 ·rw[if_pos a,List.getElem?_append_right (by simp;omega),List.getElem?_append_left (by simp;omega),aO];congr 1;simp;omega
 ·rw[if_neg a,aO];by_cases b:j<off
  ·rw[List.getElem?_append_left (by simp;omega),List.getElem?_take,if_pos b]
  ·rw[List.getElem?_append_right (by simp;omega),List.getElem?_append_right (by simp;omega),List.getElem?_drop];congr 1;simp;omega
theorem iJ.cells {rs:List (Res U)}{v:Value}{k:Kn}(h:iJ rs v k)(e:∀l,k≠ .ag l):v.cells= #[v]:=by
 cases k with
 |pan=>exact h.elim
 |ag l=>exact absurd rfl (e l)
 | p k=>
  have h:bE U k (nth rs k.id)=some v:=h;cases d:nth rs k.id with
  |none=>rw[d]at h;cases k<;>simp[bE]at h
  | some r=>
   rw[d]at h;cases k with
   |loc _ _=>cases r<;>simp only[bE,reduceCtorEq,Option.some.injEq]at h;subst h;rfl
   |obj _ _ _=>cases r<;>simp only[bE,reduceCtorEq,Option.some.injEq]at h;subst h;rfl
   | sl _ li=>
    simp only[bE]at h;split at h
    ·injection h with h;subst h;rfl
    ·cases h
   | el _ li _ _=>
    simp only[bE]at h;split at h
    ·split at h
     ·injection h with h;subst h;rfl
     ·cases h
    ·cases h
 |w k n=>obtain⟨a,c,_,rfl⟩:=h;rfl
 |t l=>obtain⟨vs,rfl,_⟩:=h;rfl
 |f a b=>obtain⟨f,fs,cs,rfl,_,_⟩:=h;rfl
theorem nk {id:Nat}{key:Key}{q:Kn}:∀ {l:List (Option PK)}{o:Nat},(key,q)∈ym id o l->∃j p,key=.c id (o+j)/\q=.p p/\nth l j=some (some p)
 | [],_,h=>by cases h
 | none::l,o,h=>by
  obtain⟨j,p,a,b,c⟩:=nk (l:=l) (o:=o+1) h;exact⟨j+1,p,by rw[a];congr 1;omega,b,c⟩
 | some p::l,o,h=>by
  rcases List.mem_cons.1 h with e|h
  ·injection e with d f
   exact⟨0,p,d,f,rfl⟩
  ·obtain⟨j,p,a,b,c⟩:=nk (l:=l) (o:=o+1) h;exact⟨j+1,p,by rw[a];congr 1;omega,b,c⟩
theorem qD {rs:List (Res U)}{v:Value}{ky:Option Kn}(c:KnO rs v ky){id off:Nat}{sc:Bool}{key:Key}{q:Kn}(h:(key,q)∈cellsOf id off sc ky):∃j u,key=.c id (off+j)/\nth v.cells.toList j=some u/\iJ rs u q:=by
 have one:∀ {k:Kn},ky=some k->(∀l,k≠ .ag l)->(key,q)∈(match sc with|true=>[(Key.c id off,k)]|false=>[])->∃j u,key=.c id (off+j)/\nth v.cells.toList j=some u/\iJ rs u q:=by
  intro k d g hm;subst d;split at hm
  ·simp only[List.mem_singleton,Prod.mk.injEq]at hm;obtain⟨rfl,rfl⟩:=hm;exact⟨0,v,rfl,by rw[iJ.cells c g];rfl,c⟩
  ·cases hm
 cases ky with
 |none=>cases h
 | some k=>
  cases k with
  |pan=>cases h
  |w k n=>cases h
  | ag l=>
   obtain⟨j,p,i,m,o⟩:=nk h;obtain⟨cs,rfl,r⟩:=c;obtain⟨u,hu,hd⟩:=r j p o;subst m;exact⟨j,u,i,by show nth cs.toList j=_;rw[aO];simpa using hu,hd⟩
  |p p=>exact one rfl (λl e=>by cases e) h
  |t l=>exact one rfl (λl e=>by cases e) h
  |f a b=>exact one rfl (λl e=>by cases e) h
theorem aH.roots {rs rs':List (Res U)}{fr:Fr}{kn:List (Key×Kn)}(h:aH rs fr kn)(e:∀i a,nth rs i=some a->∃b,nth rs' i=some b/\(a=b\/∃t own T A c l l',a=.lst t own T A c l/\b=.lst t own T A c l'/\l'.length=l.length)):aH rs' fr kn:=by
 have hd:∀p u,den U rs p=some u->den U rs' p=some u:=by
  intro p u hu;unfold den at hu ⊢;cases f:nth rs p.id with
  |none=>rw[f]at hu;cases p<;>simp[bE]at hu
  | some a=>
   rw[f]at hu;obtain⟨b,d,rfl|⟨t,own,T,A,c,l,l',rfl,rfl,x⟩⟩:=e _ _ f
   ·rw[d];exact hu
   ·rw[d,<-hu];cases p<;>simp only[bE,fQ,x]
 intro key k y;have j:=h key k y;cases key with
 |s i=>exact iJ.mono j λp _=>hd p
 | c id off=>
  obtain⟨g,cs,T,v,m,o,z⟩:=j;obtain⟨b,d,rfl|⟨_,_,_,_,_,_,_,q,_⟩⟩:=e _ _ m
  ·exact⟨g,cs,T,v,d,o,z.mono λp _=>hd p⟩
  ·cases q
 | l id path=>
  obtain⟨t,r,s,m,o⟩:=j;obtain⟨b,d,rfl|⟨_,_,_,_,_,_,_,q,_⟩⟩:=e _ _ m
  ·exact⟨t,r,s,d,o.mono λp _=>hd p⟩
  ·cases q
theorem gW {t:TypeId}{x y:Operand}{p:Addr}{fr:Fr}{dst:Option Tmp}{ty:TypeId}{pos:String}{after:Array Edge}{g:Option (Nat×Bool)}{Y:Bool}{K:aK}(i:ev fr x=.pointer (some p))(c:Ja P t=false)(d:Nat.beq (ev fr y).cells.toList.length (aS P t)=true)(e:hasType P t=true)
 (f:∀v,v∈(ev fr y).cells.toList->one? v True)(h:ao w p (ev fr y).cells.toList λb=>K undef b):opW P Y Qp ⟨dst,.store t x y,ty,pos,after,g⟩ (ev fr) w K:=by
 refine DU (C:= []) rfl ?_;show(match ev fr x with
  | .pointer a=>match dg P t with
   | .row n=>(match hasType P t && Nat.beq n (aS P t),ev fr y with
    |true,.agg cs=>ai a λp=>cs.size=n/\(∀v∈cs.toList,one? v True)/\ao w p cs.toList λb=>K undef b
    |_,_=>False)
   | _=>match Nat.beq (ev fr y).cells.toList.length (aS P t) && hasType P t with
    |true=>ai a λp=>mo (ev fr y).cells.toList (ao w p (ev fr y).cells.toList λb=>K undef b)
    |false=>False
  |_=>False)
 rw[i];unfold Ja at c;cases j:dg P t with
 |row n=>rw[j]at c;cases c
 |one s=>simp only[d,e];exact ah p rfl (xO f h)
 |agg l=>simp only[d,e];exact ah p rfl (xO f h)
theorem step_done {K:dL U}{st':St U}{a:Nat->Nat->Prop}{c:World}{M l:List Nat}{v:Value}{k:Option Kn}(d:dt w0 k0 X0 may fr st X w st' a c M)(e:KnO st'.rs v k)(h:nmL st'.rs l λb=>K v k ⟨b,st'.kn,st'.md⟩):
 ∃k st' a M,K v k st'/\KnO st'.rs v k/\dt w0 k0 X0 may fr st X w st' a c M:=
 ⟨k,st',a,M,lT (F:=λb=>K v k ⟨b,st'.kn,st'.md⟩) (λi r f=>⟨_,_,d.inv.sat.res i r f⟩) h,e,d⟩
theorem pn {tt:Nat}{r:Nat->Nat}{s b:U.ty tt}{id:Nat}{u:Value}{K:dL U}(f:Inv w0 k0 X0 may st.rs X w)(e:aH st.rs fr st.kn)(d:nth st.rs id=some (.ob tt r s))(g:ku may k0 id=true){w2:World}(hq:Ch (X id) w w2)(h:U.pred tt r b (X id) w2)
 (j:nmL (bK st.rs id (.ob tt r b)) [id] λl=>K u none ⟨l,ef [id] st.kn,id::st.md⟩):
 ∃k st' m M,K u k st'/\KnO st'.rs u k/\dt w0 k0 X0 may fr st X w st' m w2 M:=by
 refine step_done (k:=none) (st':=⟨bK st.rs id (.ob tt r b),ef [id] st.kn,id::st.md⟩) (sK f e d g hq (.ob tt r s b) h ?_) trivial j;refine e.ef (M:= [id]) (λi _ hi=>by rw[bh,if_neg (λo=>hi (by simp[o.1]))]) λi hi a c=>?_;simp only[List.mem_singleton]at hi;subst hi;rw[d]at c;injection c with c
 subst c;exact⟨_,by rw[bh,if_pos ⟨rfl,aZ d⟩],.ob tt r s b⟩
theorem Ca {t:TypeId}{x y:Operand}{p:Addr}{n:Nat}{cs:Array Value}{fr:Fr}{dst:Option Tmp}{ty:TypeId}{pos:String}{after:Array Edge}{c:Option (Nat×Bool)}{Y:Bool}{K:aK}(d:ev fr x=.pointer (some p))(e:dg P t=.row n)(f:ev fr y=.agg cs)(g:Nat.beq n (aS P t)=true)(i:cs.size=n)(j:hasType P t=true)
 (k:∀v,v∈cs.toList->one? v True)(h:ao w p cs.toList λb=>K undef b):opW P Y Qp ⟨dst,.store t x y,ty,pos,after,c⟩ (ev fr) w K:=by
 refine DU (C:= []) rfl ?_;show(match ev fr x with
  | .pointer a=>match dg P t with
   | .row n=>(match hasType P t && Nat.beq n (aS P t),ev fr y with
    |true,.agg cs=>ai a λp=>cs.size=n/\(∀v∈cs.toList,one? v True)/\ao w p cs.toList λb=>K undef b
    |_,_=>False)
   | _=>match Nat.beq (ev fr y).cells.toList.length (aS P t) && hasType P t with
    |true=>ai a λp=>mo (ev fr y).cells.toList (ao w p (ev fr y).cells.toList λb=>K undef b)
    |false=>False
  |_=>False)
 rw[d,e,f];simp only[j,g,Bool.and_self];exact ah p rfl ⟨i,k,h⟩
theorem zm {t:TypeId}{x y:Operand}{K:dL U}(d:Inv w0 k0 X0 may st.rs X w)(e:aH st.rs fr st.kn)(h:xE U P may k0 t (kf st.kn x) (ev fr y) st K){Y:Bool}{dst:Option Tmp}{ty:TypeId}{pos:String}{after:Array Edge}{g:Option (Nat×Bool)}:
 opW P Y Qp ⟨dst,.store t x y,ty,pos,after,g⟩ (ev fr) w λv i=>∃k st' j M,K v k st'/\KnO st'.rs v k/\dt w0 k0 X0 may fr st X w st' j i M:=by
 unfold xE at h;have f:=e.kf x;split at h
 ·rename_i n id path off cs l m o;rw[m]at f;split at h
  ·rename_i tt r s a b q;obtain⟨h,u⟩:=ej h;simp only[Bool.and_eq_true]at a;split at h
   ·rename_i c E z;obtain⟨A,B⟩:=h;have hd:den U st.rs (.obj id path off)=some (ev fr x):=f;simp only[den,PK.id,b,bE,Option.some.injEq]at hd;have C:U.pred tt r s (X id) w:=d.sat.res id _ b;exact Ca (p:=⟨r path,off,none⟩) hd.symm l o a.2.1 (by have:=Nat.eq_of_beq_eq_true a.2.2;simpa using this) a.1 u (U.pV C z A λw2 D hq=>pn d e b q hq D B)
   ·exact h.elim
  ·exact h.elim
 ·exact h.elim
theorem Eu {v:Value}{ky:Option Kn}{sc:Bool}{id off g n:Nat}{cs:List Value}{T:TypeId}{u:Value}{K:dL U}(G:Inv w0 k0 X0 may st.rs X w)(E:aH st.rs fr st.kn)(V:KnO st.rs v ky)(d:nth st.rs id=some (.blk g cs T))(W:ku may k0 id=true)(aC:v.cells.toList.length=n)(hb:off+n<=cs.length){w2:World}(F:br w g (setAt ⟨cs⟩ off v.cells.toList) T w2)
 (h:K u none ⟨bK st.rs id (.blk g (fB cs off v.cells.toList) T),cellsOf id off sc ky++dS (λa _=>!(a.rM id off n)) st.kn,id::st.md⟩):
 ∃k st' Y M,K u k st'/\KnO st'.rs u k/\dt w0 k0 X0 may fr st X w st' Y w2 M:=by
 obtain⟨H,Z,aN⟩:=G.sat.res id _ d;rw[qf]at F;have q:Ch (X id) w w2:=(br.ch F).mono λk e=>e▸H;refine⟨none,_,X,[id],h,trivial,sK G E d W q (.blk g cs (fB cs off v.cells.toList) T (by simp)) (show RS (X id) w2 (.blk g (fB cs off v.cells.toList) T)from⟨H,Z,F.blk⟩) ?_⟩;have I:∀i,i∈ [id]->∀a,nth st.rs i=some a->∃b,nth (bK st.rs id (.blk g (fB cs off v.cells.toList) T)) i=some b/\cD a b:=by
  intro i hi a C;simp at hi;subst hi;rw[d]at C;injection C with C
  subst C;exact⟨_,by rw[bh,if_pos ⟨rfl,aZ d⟩],.blk _ _ _ _ (by simp)⟩
 have J:∀i,i<st.rs.length->i ∉ [id]->nth (bK st.rs id (.blk g (fB cs off v.cells.toList) T)) i=nth st.rs i:=λi _ hi=>by rw[bh,if_neg (λhh=>hi (by simp[hh.1]))]
 have D:∀ {k:Kn}{v:Value},iJ st.rs v k->∀p,k.has p->p.id ∉ [id]\/p.ofList p.id=false:=by
  intro k v m p r;by_cases L:p.id=id
  ·right;cases ho:p.ofList p.id
   ·rfl
   ·exfalso;have an:∃u,den U st.rs p=some u:=by
     cases k with
     |pan=>exact r.elim
     |p k=>cases r;exact⟨_,m⟩
     |w k n=>cases r;obtain⟨a,c,h1,_⟩:=m;exact⟨_,h1⟩
     |t l=>obtain⟨j,x⟩:=r;obtain⟨vs,_,z⟩:=m;obtain⟨u,_,hu⟩:=z j p x;exact⟨u,hu⟩
     |ag l=>obtain⟨j,x⟩:=r;obtain⟨vs,_,z⟩:=m;obtain⟨u,_,hu⟩:=z j p x;exact⟨u,hu⟩
     | f a b=>
      obtain⟨f,fs,cs,_,_,z,O⟩:=m;rcases r with⟨j,x⟩|⟨j,x⟩
      ·obtain⟨u,_,hu⟩:=z j p x;exact⟨u,hu⟩
      ·obtain⟨u,_,hu⟩:=O j p x;exact⟨u,hu⟩
    obtain⟨u,hu⟩:=an;unfold den at hu;rw[L,d]at hu;cases p<;>simp_all[bE,PK.ofList,PK.id,fQ]
  ·exact .inl (by simpa using L)
 refine aH.app ?_ (E.jo J I λkey k hm=>?_)
 ·intro key q hq;obtain⟨j,u0,rfl,Q,m⟩:=qD V hq;refine⟨g,_,T,u0,by rw[bh,if_pos ⟨rfl,aZ d⟩],?_,m.mono λp r u hu=>tP J I (D m p r) hu⟩;have x:=aZ Q;rw[lS _ _ _ _ (by omega),if_pos ⟨by omega,by omega⟩,show off+j - off=j by omega,Q]
 ·obtain⟨R,S⟩:=dE hm;have y:=E _ _ R;refine⟨R,?_,λaz aA e=>?_⟩
  ·cases key with
   |s i=>exact D y
   |c i o=>obtain⟨_,_,_,_,_,_,y⟩:=y;exact D y
   |l i o=>obtain⟨_,_,_,_,y⟩:=y;exact D y
  ·subst e;by_cases hi:az=id
   ·subst hi;right;obtain⟨g',a0,T',v,A,_⟩:=y;rw[d]at A;injection A with A
    injection A with A e2 e3
    subst A;subst e2;subst e3;refine⟨g,cs,_,T,d,by rw[bh,if_pos ⟨rfl,aZ d⟩],?_⟩;rw[lS _ _ _ _ (by omega),if_neg];simp only[Key.rM,Nat.beq_refl,Bool.true_and,Bool.not_eq_true',Bool.and_eq_false_iff]at S;rintro⟨z,O⟩;rcases S with B|B
    ·rw[Nat.ble_eq_true_of_le z]at B;cases B
    ·have:Nat.blt aA (off+n)=true:=by rw[Nat.blt_eq];omega
     rw[this]at B;cases B
   ·exact .inl (by simpa using hi)
theorem Cb {t:TypeId}{x y:Operand}{K:dL U}(e:Inv w0 k0 X0 may st.rs X w)(f:aH st.rs fr st.kn)(h:Cc U P may k0 t (kf st.kn x) (ev fr y) (kf st.kn y) st K){Y:Bool}{dst:Option Tmp}{ty:TypeId}{pos:String}{after:Array Edge}{gd:Option (Nat×Bool)}:
 opW P Y Qp ⟨dst,.store t x y,ty,pos,after,gd⟩ (ev fr) w λv w'=>∃k st' X' M,K v k st'/\KnO st'.rs v k/\dt w0 k0 X0 may fr st X w st' X' w' M:=by
 unfold Cc at h;split at h
 ·exact zm e f h
 split at h
 ·exact h.elim
 rename_i an;simp only[Bool.and_eq_true,Bool.not_eq_true']at an;obtain⟨J,E,O⟩:=an;have z:(ev fr y).cells.toList.length=aS P t:=Nat.eq_of_beq_eq_true E;have u:=f.kf x;have az:=f.kf y;split at h
 ·rename_i id off F;rw[F]at u;split at h
  ·rename_i g cs T b m;split at h
   ·rename_i d;obtain⟨h,q⟩:=ej h;have d:off+aS P t<=cs.length:=Nat.le_of_ble_eq_true d;have hd:den U st.rs (.loc id off)=some (ev fr x):=u;simp only[den,PK.id,b,bE,Option.some.injEq]at hd;obtain⟨hg,hX,aA⟩:=e.sat.res id _ b;refine gW hd.symm J E O q ⟨g,off,⟨cs⟩,T,rfl,aA,by simpa[z]using d,λw2 hs=>?_⟩;exact Eu e f az b m z d hs h
   ·exact h.elim
  ·exact h.elim
 ·rename_i id i off F;rw[F]at u;split at h
  ·rename_i tt T A c l b m;split at h
   ·rename_i d;obtain⟨h,q⟩:=ej h;have d:off+aS P t<=(U.en tt).size:=Nat.le_of_ble_eq_true d;obtain⟨B,R,C⟩:=cv h;have hd:den U st.rs (.el id 0 i off)=some (ev fr x):=u;simp only[den,PK.id,b,bE,fQ]at hd;split at hd
    case isFalse=>cases hd
    rename_i hr;injection hd with hd
    obtain⟨ho,aC⟩:Own w (X id) T A l.length c l/\∀k,X id k->k<w.heap.size:=e.sat.res id _ b;have aN:i.toNat<l.length:=by omega
    obtain⟨g,hA,hZ,a2⟩:=ho.lt (by omega);have a3:=ho.len;have S:l[i.toNat]? =some (l.getD i.toNat (U.df tt)):=by rw[List.getD_eq_getElem?_getD,List.getElem?_eq_getElem (by omega)];rfl
    have V:=U.fW R;have a0:(U.en tt).enc (l.getD i.toNat (U.df tt))=enc (l.getD i.toNat (U.df tt)):=rfl;have hlen:(enc (l.getD i.toNat (U.df tt))).length=(U.en tt).size:=bM _;have W:enc B=(enc (l.getD i.toNat (U.df tt))).take off++(ev fr y).cells.toList++(enc (l.getD i.toNat (U.df tt))).drop (off+(ev fr y).cells.toList.length):=by
     show(U.en tt).enc B=_;rw[V,a0];exact kH _ _ _ (by rw[hlen,z];exact d)
    refine gW (p:=elA U tt A i off) hd.symm J E O q ?_;have D:=ho.st (p:=Addr.mk g 0 none) hA aN S (o:=off) (vs:=(ev fr y).cells.toList) (by rw[z];exact d) W (K:=λw2=>∃k st' X' M,K undef k st'/\KnO st'.rs undef k/\dt w0 k0 X0 may fr st X w st' X' w2 M) (λw2 a1 hq=>by
     refine step_done (k:=none) (st':=⟨bK st.rs id (.lst tt true T A c (l.set i.toNat B)),st.kn,id::st.md⟩) (sK e f b m hq (.lst tt true T A A c c l (l.set i.toNat B)) (show RS (X id) w2 (.lst tt true T A c (l.set i.toNat B))from⟨by rw[List.length_set];exact a1,λk f=>Nat.lt_of_lt_of_le (aC k f) hq.size⟩) ?_) trivial C;refine f.roots λj a Z=>?_;by_cases hj:j=id
     ·subst hj;rw[b]at Z;injection Z with Z
      exact⟨_,by rw[bh,if_pos ⟨rfl,aZ b⟩],.inr ⟨_,_,_,_,_,_,_,Z.symm,rfl,List.length_set ..⟩⟩
     ·exact⟨a,by rw[bh,if_neg (λhh=>hj hh.1)];exact Z,.inl rfl⟩)
    unfold elA;rw[hA];exact D
   ·exact h.elim
  ·rename_i tt r s b m;split at h
   ·rename_i L hL;split at h
    ·rename_i d;obtain⟨h,q⟩:=ej h;have d:off+aS P t<=(U.en L.t).size:=Nat.le_of_ble_eq_true d;obtain⟨B,R,h⟩:=cv h;split at h
     ·rename_i c s' D;obtain⟨G,C⟩:=h;have hd:den U st.rs (.el id 0 i off)=some (ev fr x):=u;simp only[den,PK.id,b,bE,fQ,hL]at hd;split at hd
      case isFalse=>cases hd
      rename_i hr;injection hd with hd
      have H:U.pred tt r s (X id) w:=e.sat.res id _ b;have S:L.l[i.toNat]? =some (L.l.getD i.toNat (U.df L.t)):=by rw[List.getD_eq_getElem?_getD,List.getElem?_eq_getElem (by omega)];rfl
      have V:=U.fW R;have hlen:((U.en L.t).enc (L.l.getD i.toNat (U.df L.t))).length=(U.en L.t).size:=(U.en L.t).len _;have W:(U.en L.t).enc B=((U.en L.t).enc (L.l.getD i.toNat (U.df L.t))).take off++(ev fr y).cells.toList++((U.en L.t).enc (L.l.getD i.toNat (U.df L.t))).drop (off+(ev fr y).cells.toList.length):=by
       rw[V];exact kH _ _ _ (by rw[hlen,z];exact d)
      refine gW (p:=elA U L.t L.A i off) hd.symm J E O q ?_;exact U.pZ H hL S (by rw[z];exact d) W D G λw2 I hq=>pn e f b m hq I C
     ·exact h.elim
    ·exact h.elim
   ·exact h.elim
  ·exact h.elim
 ·rename_i id li i off F;rw[F]at u;split at h
  ·rename_i tt r s b m;split at h
   ·rename_i L hL;split at h
    ·rename_i d;obtain⟨h,q⟩:=ej h;have d:off+aS P t<=(U.en L.t).size:=Nat.le_of_ble_eq_true d;obtain⟨B,R,h⟩:=cv h;split at h
     ·rename_i c s' D;obtain⟨G,C⟩:=h;have hd:den U st.rs (.el id (li+1) i off)=some (ev fr x):=u;simp only[den,PK.id,b,bE,fQ,hL]at hd;split at hd
      case isFalse=>cases hd
      rename_i hr;injection hd with hd
      have H:U.pred tt r s (X id) w:=e.sat.res id _ b;have S:L.l[i.toNat]? =some (L.l.getD i.toNat (U.df L.t)):=by rw[List.getD_eq_getElem?_getD,List.getElem?_eq_getElem (by omega)];rfl
      have V:=U.fW R;have hlen:((U.en L.t).enc (L.l.getD i.toNat (U.df L.t))).length=(U.en L.t).size:=(U.en L.t).len _;have W:(U.en L.t).enc B=((U.en L.t).enc (L.l.getD i.toNat (U.df L.t))).take off++(ev fr y).cells.toList++((U.en L.t).enc (L.l.getD i.toNat (U.df L.t))).drop (off+(ev fr y).cells.toList.length):=by
       rw[V];exact kH _ _ _ (by rw[hlen,z];exact d)
      refine gW (p:=elA U L.t L.A i off) hd.symm J E O q ?_;exact U.pZ H hL S (by rw[z];exact d) W D G λw2 I hq=>pn e f b m hq I C
     ·exact h.elim
    ·exact h.elim
   ·exact h.elim
  ·exact h.elim
 ·rename_i id path off F;rw[F]at u;split at h
  ·rename_i tt r s v b m Q;obtain⟨h,q⟩:=ej h;split at h
   ·rename_i c s' D;obtain⟨G,C⟩:=h;have hd:den U st.rs (.obj id path off)=some (ev fr x):=u;simp only[den,PK.id,b,bE,Option.some.injEq]at hd;have H:U.pred tt r s (X id) w:=e.sat.res id _ b;rw[Q]at z;refine gW (p:=⟨r path,off,none⟩) hd.symm J E O (by rw[Q];exact q) ?_;rw[Q];exact U.tF H D G λw2 I hq=>pn e f b m hq I C
   ·exact h.elim
  ·rename_i tt r s v v2 vs b m Q;obtain⟨h,q⟩:=ej h;split at h
   ·rename_i c s' D;obtain⟨G,C⟩:=h;have hd:den U st.rs (.obj id path off)=some (ev fr x):=u;simp only[den,PK.id,b,bE,Option.some.injEq]at hd;have H:U.pred tt r s (X id) w:=e.sat.res id _ b;refine gW (p:=⟨r path,off,none⟩) hd.symm J E O (by rw[Q];exact q) ?_;rw[Q];exact U.pV H D G λw2 I hq=>pn e f b m hq I C
   ·exact h.elim
  ·exact h.elim
 ·exact h.elim
theorem DX:∀(a n j:Nat),nth (upN a n) j=if j<n then some (a+j)else none
 |_,0,_=>rfl
 |a,n+1,0=>by simp[upN,nth]
 | a,n+1,j+1=>by
  simp only[upN,nth,DX (a+1) n j,Nat.add_lt_add_iff_right];rw[show a+1+j=a+(j+1)by omega]
theorem JK {α:Type}(E:Enc α)(h:E.size=1)(x:α):(E.enc x)[0]? =some (hd1 (E.enc x)):=by
 have:=E.len x;rw[h]at this
 match a:E.enc x,this with
 | [v],_=>rfl
theorem qF {tt:Nat}{Z:Nat->Prop}{A:Option Addr}{c n:Nat}{l:List (U.el tt)}{p:Addr}{w:World}(b:(U.en tt).size=1)(k:Rd w Z A l.length c l)(m:A=some p)(hle:n<=l.length){j:Nat}{u:Value}(a:(lx U tt l 0 n)[j]? =some u):w.cell? (p.add j)=some u:=by
 unfold lx at a;rw[<-aO,bq,DX]at a;split at a
 ·rename_i q;injection a with a
  obtain⟨r,o,d,f,_,g⟩:=k.ld (i:=(j:Int)) (by omega) (by omega);rw[m]at d;injection d with e
  subst e;rw[Int.toNat_natCast]at f g;have h:=g 0 (by show 0<(U.en tt).size;omega);rw[show(p.add (j*Enc.size (U.el tt))).add 0=p.add j by rw[add_add,Nat.add_zero];show p.add (j*(U.en tt).size)=_;rw[b,Nat.mul_one]]at h;rw[h,<-a];dsimp only;rw[Nat.zero_add,Nat.zero_add,List.getD_eq_getElem?_getD,f];exact JK (U.en tt) b o
 ·cases a
theorem Gr {k:Option Kn}{n:Nat}{F:List Value->Prop}{v:Value}(z:Sat st.rs X w)(q:KnO st.rs v k)(h:KW U k n st F):∃(b:Addr)(m d:Nat)(vs:List Value),v=.slice (some b) m d/\vs.length=Nat.min m n/\(∀j u,vs[j]? =some u->w.cell? (b.add j)=some u)/\F vs:=by
 have B:∀m,xR n m=Nat.min m n:=λm=>by
  show _=min m n;unfold xR;split
  ·rename_i h;have:=Nat.le_of_ble_eq_true h;omega
  ·rename_i h;have:¬n<=m:=λE=>by rw[Nat.ble_eq_true_of_le E]at h;cases h
   omega
 unfold KW at h;split at h
 ·rename_i id off m;obtain⟨a,c,e,rfl⟩:=q;split at h
  ·rename_i g cs T f;split at h
   ·rename_i C;have C:=Nat.le_of_ble_eq_true C;simp only[den,PK.id,f,bE,Option.some.injEq,Value.pointer.injEq]at e;obtain⟨O,Q,G⟩:=z.res id _ f;refine⟨a,m,c,_,rfl,?_,λj u o=>?_,h⟩
    ·rw[<-B,dB,eu];simp;omega
    ·rw[dB,eu,List.getElem?_take]at o;split at o
     ·rw[List.getElem?_drop]at o;rw[<-e,bn];exact G.cell (by simpa using o)
     ·cases o
   ·exact h.elim
  ·exact h.elim
 ·rename_i id path off m;obtain⟨a,c,e,rfl⟩:=q;split at h
  ·rename_i tt r s f;split at h
   ·rename_i cd cs hw;obtain⟨H,h⟩:=h;split at h
    ·rename_i hlen;have hlen:=Nat.eq_of_beq_eq_true hlen;simp only[den,PK.id,f,bE,Option.some.injEq,Value.pointer.injEq]at e;refine⟨a,m,c,_,rfl,by rw[hlen,B],λj u o=>?_,h⟩;rw[<-e,bn];exact(U.sq (z.res id _ f) hw H).2 j u o
    ·exact h.elim
   ·exact h.elim
  ·exact h.elim
 ·rename_i id li;have q:den U st.rs (.sl id li)=some v:=q;split at h
  ·rename_i tt r s f;split at h
   ·rename_i L D;split at h
    ·rename_i e;have e:(U.en L.t).size=1:=Nat.eq_of_beq_eq_true e;obtain⟨⟨I,hle⟩,h⟩:=h;simp only[den,PK.id,f,bE,fQ,D,Option.some.injEq]at q;have t:=U.qt (z.res id _ f) D;obtain⟨p,y,x,J,_,K⟩:=t.ld (i:=0) (by omega) (by omega);refine⟨p,_,_,_,by rw[<-q,x],?_,λj u o=>?_,h⟩
     ·unfold lx;rw[tx,jQ];show _=min _ _;omega
     ·exact qF e t x hle o
    ·exact h.elim
   ·exact h.elim
  ·rename_i tt own T A c l f;split at h
   ·rename_i e;have e:(U.en tt).size=1:=Nat.eq_of_beq_eq_true e;obtain⟨⟨I,M⟩,h⟩:=h;have hm:=B c;have hm:xR n c=min c n:=hm;simp only[den,PK.id,f,bE,fQ,Option.some.injEq]at q;have t:∃Z,Rd w Z A l.length c l:=by
     have:=z.res id _ f;cases own
     ·exact⟨_,this⟩
     ·exact⟨_,this.1.rd⟩
    obtain⟨Z,t⟩:=t;obtain⟨p,y,x,J,_,K⟩:=t.ld (i:=0) (by omega) (by omega);refine⟨p,_,_,_,by rw[<-q,x],?_,λj u o=>qF e t x (by omega) o,h⟩;unfold lx;rw[tx,jQ,hm,M]
   ·exact h.elim
  ·exact h.elim
 ·exact h.elim
theorem HE {q:PK}{vs:List Value}{K:dL U}{a:Addr}(d:Inv w0 k0 X0 may st.rs X w)(j:aH st.rs fr st.kn)(hq:den U st.rs q=some (.pointer (some a)))(h:LK U may k0 q vs st K):
 (∀v∈vs,one? v True)/\ao w a vs λw2=>∃k st' l M,K (.int .i64 vs.length) k st'/\KnO st'.rs (.int .i64 vs.length) k/\dt w0 k0 X0 may fr st X w st' l w2 M:=by
 unfold LK at h;split at h
 ·rename_i id off;split at h
  ·rename_i g cs T b f;split at h
   ·rename_i e;have e:=Nat.le_of_ble_eq_true e;obtain⟨h,i⟩:=ej h;simp only[den,PK.id,b,bE,Option.some.injEq,Value.pointer.injEq]at hq;obtain⟨z,A,m⟩:=d.sat.res id _ b;exact⟨i,g,off,⟨cs⟩,T,hq.symm,m,by simpa using e,λw2 o=>Eu (v:=.agg ⟨vs⟩) (ky:=none) (sc:=false) d j trivial b f rfl e o h⟩
   ·exact h.elim
  ·exact h.elim
 ·rename_i id path off;split at h
  ·rename_i tt r s b f;obtain⟨h,i⟩:=ej h;split at h
   ·rename_i c B p;obtain⟨t,u⟩:=h;simp only[den,PK.id,b,bE,Option.some.injEq,Value.pointer.injEq]at hq;rw[<-hq];exact⟨i,U.pV (d.sat.res id _ b) p t λw2 x y=>pn d j b f y x u⟩
   ·exact h.elim
  ·exact h.elim
 ·exact h.elim
theorem Ft {x y:Operand}{t p:TypeId}{K:dL U}{Y:Bool}{dst:Option Tmp}{ty:TypeId}{pos:String}{after:Array Edge}{C:Option (Nat×Bool)}(A:Inv w0 k0 X0 may st.rs X w)(r:aH st.rs fr st.kn)(h:HL U P may k0 t (kf st.kn x) (kf st.kn y) st K):
 opW P Y Qp {dst:=dst,op:=.call {callee:=.builtin .copy,args:= #[x,y],argTypes:= #[t,p]},type:=ty,pos:=pos,after:=after,guard:=C} (ev fr) w λv D=>∃k st' E M,K v k st'/\KnO st'.rs v k/\dt w0 k0 X0 may fr st X w st' E D M:=by
 unfold HL at h;have B:=r.kf x;have F:=r.kf y;split at h
 ·rename_i q n G f;rw[G]at B;obtain⟨a,c,hq,H⟩:=B;obtain⟨b,m,d,vs,I,hlen,J,h⟩:=Gr A.sat F h;obtain⟨L,g,o,cs,T,z,l,hle,O⟩:=HE A r hq h;unfold slB at f;split at f
  ·rename_i e hu;split at f
   ·rename_i i hi;have Q:=Nat.eq_of_beq_eq_true f;subst z;have R:=run_copy_cells (P:=P) w t p ty e g o n c b m d vs hu (by rw[hi];simp[Q]) hlen J
     (by
      intro j S;have:cs[o+j]? =some (cs[o+j]'(by omega)):=Array.getElem?_eq_getElem (by omega);rw[l.cell this];rfl)
     (by
      intro j S;unfold Blk at l;simp[World.frozen?,l])
     (by
      intro u hu;obtain⟨_,z,l⟩:=nY (L u hu);cases u<;>first|rfl|exact absurd rfl (z _)|exact absurd rfl (l _))
    refine⟨rfl,?_⟩;rw[kE (s:=Builtin.copy_ #[t,p] ty #[.slice (some ⟨g,o,none⟩) n c,.slice (some b) m d]) (by simp[uV,H,I]) w R];exact O _ (eX g T vs o w cs l)
   ·cases f
  ·cases f
 ·exact h.elim
theorem FB {t:TypeId}{z:Value}(h:(P.info? t).bind (·.zero)=some z)(w:World):(Instr.alloc t true (.tuple #[])).run P w=.ok (.pointer (some ⟨w.heap.size,0,none⟩)) (w.alloc (.cells z.cells t)):=by
 cases hi:P.info? t with
 |none=>rw[hi]at h;cases h
 | some i=>
  rw[hi]at h;have h:i.zero=some z:=h;have a:(zeroValue t).run P w=.ok z w:=by
   unfold zeroValue;rw[Sem.run_bind,run_typeInfo (w:=w) hi,Result.andThen_ok,h];rfl
  unfold Instr.alloc;rw[Sem.run_bind,a,Result.andThen_ok];rfl
theorem zU {cs:List Value}{T:TypeId}{ck:Option Kn}{K:dL U}(d:Inv w0 k0 X0 may st.rs X w)(a:aH st.rs fr st.kn){v0:Value}(f:KnO st.rs v0 ck)(c:ck=none\/v0.cells.toList=cs)(h:Ju U cs T ck st K):
 ∃k st' g M,K (.pointer (some ⟨w.heap.size,0,none⟩)) k st'/\KnO st'.rs (.pointer (some ⟨w.heap.size,0,none⟩)) k/\dt w0 k0 X0 may fr st X w st' g (w.alloc (.cells ⟨cs⟩ T)) M:=by
 have hm:Made w w.heap.size ⟨cs⟩ T (w.alloc (.cells ⟨cs⟩ T)):=made rfl rfl;unfold Ju at h;split at h
 ·rename_i t s l;have b:nth (st.rs++ [Res.ob t (λ_=>w.heap.size) s]) st.rs.length=some (.ob t (λ_=>w.heap.size) s):=by rw[bp,if_neg (by omega),Nat.sub_self];rfl
  refine step_done (oP d a hm.pu (Z:=λk=>k=w.heap.size) (show RS (λk=>k=w.heap.size) _ (.ob t (λ_=>w.heap.size) s)from U.xQ l hm.blk) (λk e=>by rw[e];exact Nat.le_refl _) (rL a _)) ?_ (h w.heap.size);show den U _ (.obj _ 0 0)=_;simp only[den,PK.id,b,bE]
 have b:nth (st.rs++ [Res.blk w.heap.size cs T]) st.rs.length=some (.blk w.heap.size cs T):=by rw[bp,if_neg (by omega),Nat.sub_self];rfl
 refine⟨_,_,_,[],h w.heap.size,?_,oP d a hm.pu (Z:=λk=>k=w.heap.size) (show RS (λk=>k=w.heap.size) _ (.blk w.heap.size cs T)from⟨rfl,λ_ h=>h,hm.blk⟩) (λk e=>by rw[e];exact Nat.le_refl _) (aH.app ?_ (rL a _))⟩
 ·show den U _ (.loc _ 0)=_;simp only[den,PK.id,b,bE]
 ·intro key q hq;obtain⟨j,u,rfl,hu,m⟩:=qD f hq;rcases c with rfl|c
  ·cases hq
  rw[c]at hu;rw[Nat.zero_add];exact⟨_,cs,T,u,b,hu,m.mono λp o u hu=>tP (M:= []) (λi hi _=>by rw[bp,if_pos hi]) (λi hi=>by cases hi) (.inl (by simp)) hu⟩
theorem AF {tt:Nat}:∀ {n:Nat}{cs:List Value}{l:List (U.el tt)},Fq U tt n cs=some l->l.length=n/\l.flatMap enc=cs
 |0,[],l,h=>by simp only[Fq,Option.some.injEq]at h;subst h;exact⟨rfl,rfl⟩
 |0,_::_,l,h=>by simp[Fq]at h
 | n+1,cs,l,h=>by
  simp only[Fq]at h;split at h
  ·rename_i x r a b;injection h with h
   subst h;obtain⟨c,d⟩:=AF b;refine⟨by simp[c],?_⟩;have e:enc x=iN (U.en tt).size cs:=U.fW a;rw[List.flatMap_cons,d,e,dB,eu,List.take_append_drop]
  ·cases h
theorem sO {t e:TypeId}{tt:Nat}{a:TypeInfo}{z:Value}(h:Gs U P t=some (e,tt,a,z)):SN P t e z (U.en tt).size a.bytes/\P.info? e=some a/\a.zero=some z/\a.size=(U.en tt).size/\0<a.bytes:=by
 unfold Gs at h;split at h
 ·rename_i k hu;split at h
  ·rename_i g d _ hi;split at h
   ·rename_i l f;split at h
    ·rename_i b;simp only[Option.some.injEq,Prod.mk.injEq]at h;obtain⟨rfl,rfl,rfl,rfl⟩:=h;simp only[Bool.and_eq_true]at b;have c:=Nat.eq_of_beq_eq_true b.1;have i:=Nat.eq_of_beq_eq_true b.2.1;have j:0<d.bytes:=by simpa[Nat.blt_eq]using b.2.2
     exact⟨⟨hu,⟨d,hi,f,c,rfl⟩,by rw[<-c,<-i];simp,(U.en g).pos⟩,hi,f,c,j⟩
    ·cases h
   ·cases h
  ·cases h
 ·cases h
theorem Gq {tt:Nat}{x:Operand}{F:List (U.el tt)->Prop}(f:Sat st.rs X w)(g:aH st.rs fr st.kn)(h:KV U tt (ev fr x) (kf st.kn x) st F):∃(l:List (U.el tt))(A:Option Addr)(c:Nat)(Y:Nat->Prop),ev fr x=.slice A l.length c/\Rd w Y A l.length c l/\F l:=by
 have a:=g.kf x;unfold KV at h;split at h
 ·rename_i id li i;rw[i]at a;have hd:den U st.rs (.sl id li)=some (ev fr x):=a;split at h
  ·rename_i r b;split at h
   ·rename_i L e;simp only[den,PK.id,b,bE,e,Option.some.injEq]at hd;split at h
    ·rename_i j;have k:=(f.res id _ b).ls e;obtain⟨o,A,c,l⟩:=L;cases j;exact⟨l,A,c,_,hd.symm,k,h⟩
    ·exact h.elim
   ·exact h.elim
  ·exact h.elim
 ·split at h
  ·rename_i d m;exact⟨[],none,d,_,m,Rd.nil,h⟩
  ·exact h.elim
theorem Af {rs:List (Res U)}{r:Res U}:nth (rs++ [r]) rs.length=some r:=by rw[bp,if_neg (by omega),Nat.sub_self];rfl
theorem tr {tt:Nat}{T:TypeId}{A:Option Addr}{c:Nat}{l:List (U.el tt)}{K:dL U}(d:Inv w0 k0 X0 may st.rs X w)(a:aH st.rs fr st.kn){b:World}(q:Pu w b){Z:Nat->Prop}(e:Own b Z T A l.length c l)(f:∀k,Z k->w.heap.size<=k){v:Value}(g:v=.slice A l.length c)
 (h:nmL (st.rs++ [.lst tt true T A c l]) [st.rs.length] λi=>K v (some (.p (.sl st.rs.length 0))) ⟨i,st.kn,st.md⟩):
 ∃k st' j M,K v k st'/\KnO st'.rs v k/\dt w0 k0 X0 may fr st X w st' j b M:=by
 refine step_done (st':=⟨st.rs++ [.lst tt true T A c l],st.kn,st.md⟩) (oP d a q (Z:=λk=>Z k/\k<b.heap.size) (show RS (λk=>Z k/\k<b.heap.size) _ (.lst tt true T A c l)from⟨e.narrow,λk a=>a.2⟩) (λk a=>f k a.1) (rL a _)) ?_ h;show den U _ (.sl _ 0)=_;simp only[den,PK.id,Af,bE,fQ,g]
theorem EO(r:Inv w0 k0 X0 may st.rs X w){i:Nat}{a b:Res U}(l:nth st.rs i=some a)(m:ku may k0 i=true){g:World}(q:Ch (X i) w g)(s:cD a b){Z:Nat->Prop}(t:RS Z g b)(o:∀k,Z k->X i k\/w.heap.size<=k){p:List (Key×Kn)}(u:aH (bK st.rs i b) fr p):
 dt w0 k0 X0 may fr st X w ⟨bK st.rs i b,p,i::st.md⟩ (jP X i Z) g [i]:=by
 have hi:=aZ l;exact⟨r.set hi (gA m) q t o,u,rfl,λj d=>by simp at d;subst d;exact hi,λj d=>by simp at d;subst d;exact gA m,by simp,λj d e=>⟨by rw[bh,if_neg (λh=>e (by simp[h.1]))],iM _ _ (by simpa using e)⟩,λj d k f=>by
  simp at d;subst d;rw[updX_eq]at f;exact o k f,λj x v=>by simp at v;omega,q.mono λk f=>⟨i,by simp,f⟩,λj c d=>by
  by_cases e:j=i
  ·subst e;rw[l]at d;injection d with d
   subst d;exact⟨b,by rw[bh,if_pos ⟨rfl,hi⟩],s⟩
  ·exact⟨c,by rw[bh,if_neg (λh=>e h.1)];exact d,cD.refl c⟩⟩
theorem Cy {tt:Nat}{z:Value}{x:U.el tt}(b:enc x=z.cells.toList)(n:Nat):(List.replicate n x).flatMap enc=(madeCells z.cells (n*(U.en tt).size)).toList:=by
 have c:z.cells.size=(U.en tt).size:=by have:=bM x;rw[b]at this;simpa using this
 have d:0<Enc.size (U.el tt):=Enc.pos;apply List.ext_getElem?;intro j;by_cases a:j<n*Enc.size (U.el tt)
 ·have hq:j / Enc.size (U.el tt)<n:=(Nat.div_lt_iff_lt_mul d).2 a;have e:j % Enc.size (U.el tt)<Enc.size (U.el tt):=Nat.mod_lt _ d;have f:=flat_get (List.replicate n x) (j / Enc.size (U.el tt)) (j % Enc.size (U.el tt)) x (by rw[List.getElem?_replicate,if_pos hq]) e;have h:j / Enc.size (U.el tt)*Enc.size (U.el tt)+j % Enc.size (U.el tt)=j:=by rw[Nat.mul_comm];exact Nat.div_add_mod j _
  rw[h]at f;rw[f,b];have i:j<n*(U.en tt).size:=a;have g:j % (U.en tt).size<z.cells.size:=by rw[c];exact e
  have k:(madeCells z.cells (n*(U.en tt).size)).toList[j]? =some (z.cells[j % z.cells.size]!):=by
   simp[madeCells,i]
  rw[k,c];show z.cells.toList[j % (U.en tt).size]? =_;rw[Array.getElem?_toList,Array.getElem?_eq_getElem g,getElem!_pos z.cells _ g]
 ·rw[List.getElem?_eq_none (by rw[dh,List.length_replicate];omega),List.getElem?_eq_none (by rw[Array.length_toList,size_madeCells];exact Nat.le_of_not_lt a)]
def F6(fr:Fr)(w0:World)(k0:Nat)(X0:Nat->Nat->Prop)(may:List Nat)(st:St U)(X:Nat->Nat->Prop)(w:World)(K:dL U):Option (List PanicEntry->World->Prop):=
 some λch a=>∃v st' b M,ch= [⟨v,false,false⟩]/\K v (some .pan) st'/\dt w0 k0 X0 may fr st X w st' b a M
theorem G3 {Y:Bool}{q:List PanicEntry->World->Prop}{o:Oper}{ρ:Operand->Value}{K:aK}(h:opW P Y (some q) o ρ w K)(hq:∀ch b,q ch b->False):opW P Y none o ρ w K:=by
 refine⟨h.1,?_⟩;have a:=h.2;generalize (execOp ρ o).run P w=r at a ⊢;cases r with
 | ok c b=>
  cases c<;>simp only[Out]at a ⊢
  case value v=>exact a
  case skip=>exact a
  case enter f args=>exact a.mono λe d he=>he.imp id fun⟨ch,_,a⟩=>(hq _ _ a).elim
  case round l f tmps assign body=>exact⟨a.1,a.2.mono λe d he=>he.imp id fun⟨ch,_,a⟩=>(hq _ _ a).elim⟩
 | halt x b=>
  cases x<;>simp only[Out]at a ⊢
  exact(hq _ _ a).elim
theorem DT {Y:Bool}{q q':List PanicEntry->World->Prop}{o:Oper}{ρ:Operand->Value}{K:aK}(h:opW P Y (some q) o ρ w K)(hq:∀ch b,q ch b->q' ch b):opW P Y (some q') o ρ w K:=by
 refine⟨h.1,?_⟩;have a:=h.2;generalize (execOp ρ o).run P w=r at a ⊢;cases r with
 | ok d b=>
  cases d<;>simp only[Out]at a ⊢
  case value v=>exact a
  case skip=>exact a
  case enter f args=>exact a.mono λe g he=>he.imp id fun⟨ch,c,a⟩=>⟨ch,c,hq _ _ a⟩
  case round l f tmps assign body=>exact⟨a.1,a.2.mono λe g he=>he.imp id fun⟨ch,c,a⟩=>⟨ch,c,hq _ _ a⟩⟩
 | halt x b=>
  cases x<;>simp only[Out]at a ⊢
  exact hq _ _ a
theorem tp {Y:Bool}{Qp:Option (List PanicEntry->World->Prop)}{o:Oper}{ρ:Operand->Value}{K g:aK}(h:opW P Y Qp o ρ w K)(b:∀v c,K v c->g v c):opW P Y Qp o ρ w g:=by
 refine⟨h.1,?_⟩;have a:=h.2;generalize (execOp ρ o).run P w=r at a ⊢;cases r with
 | ok i c=>
  cases i<;>simp only[Out]at a ⊢
  case value v=>exact b _ _ a
  case skip=>exact b _ _ a
  case enter f args=>exact a.mono λe j he=>he.imp (fun⟨v,d,a⟩=>⟨v,d,b _ _ a⟩) id
  case round l f tmps assign body=>exact⟨a.1,a.2.mono λe j he=>he.imp (fun⟨v,d,a⟩=>⟨v,d,b _ _ a⟩) id⟩
 | halt x c=>
  cases x<;>simp only[Out]at a ⊢
  exact a
theorem Inv.Ku {rs rs':List (Res U)}(h:Inv w0 k0 X0 may rs X w)(d:rs'.length<=rs.length)(he:∀i,i<rs'.length->nth rs' i=nth rs i)(b:k0<=rs'.length):Inv w0 k0 X0 may rs' X w:=
 ⟨⟨λi r a=>h.sat.res i r (by rw[<-he i (aZ a)];exact a),λi j hi e=>h.sat.dis i j (by omega) (by omega)⟩,h.ch,h.old,λi c f=>h.new i c (by omega),b⟩
theorem DQ {k:Option Kn}{B:Prop}(h:Cp k False B):B:=by
 unfold Cp at h;split at h
 ·exact h.elim
 ·exact h
theorem HA:∀ {s:Sh}{F:Value->Prop},MK s F->∃v,F v
 |.int _,_,⟨_,h⟩=>⟨_,h⟩
 |.bool,_,⟨_,h⟩=>⟨_,h⟩
 |.str,_,⟨_,h⟩=>⟨_,h⟩
 |.ptr,_,⟨_,h⟩=>⟨_,h⟩
 |.slice,_,⟨_,h⟩=>⟨_,h⟩
 |.map,_,⟨_,h⟩=>⟨_,h⟩
 |.val,_,⟨_,h⟩=>⟨_,h⟩
theorem DR {α:Type}{F:α->Prop}:∀ {l:List α},orL F l->∃a,F a
 | [a],h=>⟨a,h⟩
 | a::b::r,h=>by
  rcases h with h|h
  ·exact⟨a,h⟩
  ·exact DR (l:=b::r) h
theorem JF {args:List Operand}(d:aH st.rs fr st.kn):∀j v k,nth (aM (ev fr) args) j=some v->nth (aM (V.kf st.kn) args) j=some k->KnO st.rs v k:=by
 intro j v k a b;rw[bq]at a b;cases c:nth args j with
 |none=>rw[c]at a;cases a
 | some x=>
  rw[c]at a b;injection a with a
  injection b with b
  subst a;subst b;exact d.kf x
theorem Hg {rs:List (Res U)}{c e:List Value}{d f:List (Option Kn)}(h:c.length=d.length)(i:∀j v k,nth c j=some v->nth d j=some k->KnO rs v k)(l:∀j v k,nth e j=some v->nth f j=some k->KnO rs v k):∀j v k,nth (c++e) j=some v->nth (d++f) j=some k->KnO rs v k:=by
 intro j v k a b;rw[bp]at a b;by_cases g:j<c.length
 ·rw[if_pos g]at a;rw[if_pos (by omega)]at b;exact i j v k a b
 ·rw[if_neg g]at a;rw[if_neg (by omega),<-h]at b;exact l _ v k a b
theorem KH {K:dL U}{Y:Bool}{dst:Option Tmp}{ty:TypeId}{pos:String}{after:Array Edge}{g:Option (Nat×Bool)}{f:Operand}{args:Array Operand}{i:Array TypeId}{a:Nat}{first cap:Array Value}{l:List (Option Kn)}(m:∀f c,tbl.c f=some c->LV U P f c/\bO P f=true)(r:Inv w0 k0 X0 may st.rs X w)(s:aH st.rs fr st.kn)(t:ev fr f=.func (.func a) first cap)
 (u:∀j v k,nth (first.toList++(aM (ev fr) args.toList++cap.toList)) j=some v->nth l j=some k->KnO st.rs v k)(h:call2 U tbl may k0 a (first.toList++(aM (ev fr) args.toList++cap.toList)) l st K):
 opW P Y (F6 fr w0 k0 X0 may st X w K) {dst:=dst,op:=.call {callee:=.value f,args:=args,argTypes:=i},type:=ty,pos:=pos,after:=after,guard:=g} (ev fr) w λv o=>∃k st' b M,K v k st'/\KnO st'.rs v k/\dt w0 k0 X0 may fr st X w st' b o M:=by
 have x:bO P a=true:=by
  unfold call2 at h;split at h
  ·exact h.elim
  ·rename_i c y;exact(m a c y).2
 refine⟨rfl,?_⟩;have z:=ew (P:=P) (C:= [a]) (f:=a) (by simp[eI,x]) (by simp) (first++args.map (ev fr)++cap) w;have A:(execOp (ev fr) {dst:=dst,op:=.call {callee:=.value f,args:=args,argTypes:=i},type:=ty,pos:=pos,after:=after,guard:=g}).run P w=.ok (.enter a (first++args.map (ev fr)++cap)) w:=by
  simp only[execOp,resolve,t,Deferred.ofValue];rw[Sem.run_bind];exact z
 rw[A];have B:(⟨first.toList++(aM (ev fr) args.toList++cap.toList)⟩:Array Value)=first++args.map (ev fr)++cap:=by
  apply Array.ext';simp[gy]
 have:=wL (λf c h=>(m f c h).1) r s u h;rw[B]at this;refine this.mono λe o D=>?_;obtain⟨v,k,st',b,M,rfl,p,d,q⟩:=D;rcases d with rfl|d
 ·exact .inr ⟨_,rfl,v,st',b,M,rfl,p,q⟩
 ·refine .inl ⟨v,?_,k,st',b,M,p,d,q⟩;cases k with
  |none=>rfl
  |some k=>cases k<;>first|rfl|exact d.elim
theorem MW {K:dL U}{Y:Bool}{dst:Option Tmp}{ty:TypeId}{pos:String}{after:Array Edge}{i:Option (Nat×Bool)}{x:Operand}{name:String}{args:Array Operand}{l:Array TypeId}{t:TypeId}{u:Value}{a:Nat}{m:List (Option Kn)}(o:∀f c,tbl.c f=some c->LV U P f c/\bO P f=true)(y:Inv w0 k0 X0 may st.rs X w)(z:aH st.rs fr st.kn)(A:ev fr x=.iface t u)(hm:zX P t name=some a)
 (B:∀j v k,nth (u::aM (ev fr) args.toList) j=some v->nth m j=some k->KnO st.rs v k)(h:call2 U tbl may k0 a (u::aM (ev fr) args.toList) m st K):
 opW P Y (F6 fr w0 k0 X0 may st X w K) {dst:=dst,op:=.call {callee:=.invoke x name,args:=args,argTypes:=l},type:=ty,pos:=pos,after:=after,guard:=i} (ev fr) w λv q=>∃k st' b M,K v k st'/\KnO st'.rs v k/\dt w0 k0 X0 may fr st X w st' b q M:=by
 have D:bO P a=true:=by
  unfold call2 at h;split at h
  ·exact h.elim
  ·rename_i c E;exact(o a c E).2
 refine⟨rfl,?_⟩;have F:=ew (P:=P) (C:= [a]) (f:=a) (by simp[eI,D]) (by simp) (#[u]++args.map (ev fr)) w;have he:(#[ev fr x]++args.map (ev fr)).extract 1 (#[ev fr x]++args.map (ev fr)).size=args.map (ev fr):=by
  apply Array.ext';simp;exact List.take_of_length_le (by simp)
 have G:(execOp (ev fr) {dst:=dst,op:=.call {callee:=.invoke x name,args:=args,argTypes:=l},type:=ty,pos:=pos,after:=after,guard:=i}).run P w=.ok (.enter a (#[u]++args.map (ev fr))) w:=by
  simp only[execOp,resolve];rw[Sem.run_bind];show(invoke (.fn (.method name) #[]) (#[ev fr x]++args.map (ev fr))).run P w=_;have H:(#[ev fr x]++args.map (ev fr))[0]? =some (.iface t u):=by rw[A,Array.getElem?_append_left (by simp)];rfl
  simp only[invoke,H,he];simp only[callMethod];rw[Sem.run_bind];have g:(program:Sem Program).run P w=.ok P w:=rfl;rw[g];change Sem.run P (method (P.types.size+Made.depth) t u name>>=λp=>callFunc p.1 (#[p.2]++Array.map (ev fr) args)) w=_;rw[Sem.run_bind,wg hm];exact F
 rw[G];have I:(⟨u::aM (ev fr) args.toList⟩:Array Value)= #[u]++args.map (ev fr):=by
  apply Array.ext';simp[gy]
 have:=wL (λf c h=>(o f c h).1) y z B h;rw[I]at this;refine this.mono λe q g=>?_;obtain⟨v,k,st',b,M,rfl,r,d,s⟩:=g;rcases d with rfl|d
 ·exact .inr ⟨_,rfl,v,st',b,M,rfl,r,s⟩
 ·refine .inl ⟨v,?_,k,st',b,M,r,d,s⟩;cases k with
  |none=>rfl
  |some k=>cases k<;>first|rfl|exact d.elim
theorem AO {K:dL U}{Y:Bool}{dst:Option Tmp}{ty:TypeId}{pos:String}{after:Array Edge}{B:Option (Nat×Bool)}{f:Operand}{args:Array Operand}{C:Array TypeId}(D:∀f c,tbl.c f=some c->LV U P f c/\bO P f=true)(y:Inv w0 k0 X0 may st.rs X w)(t:aH st.rs fr st.kn)
 (h:Es U tbl may k0 (ev fr f) (aM (ev fr) args.toList) (aM (V.kf st.kn) args.toList) st K):
 opW P Y (F6 fr w0 k0 X0 may st X w K) {dst:=dst,op:=.call {callee:=.value f,args:=args,argTypes:=C},type:=ty,pos:=pos,after:=after,guard:=B} (ev fr) w λv e=>∃k st' g M,K v k st'/\KnO st'.rs v k/\dt w0 k0 X0 may fr st X w st' g e M:=by
 obtain⟨r,z,E⟩:=HA h;obtain⟨⟨O,F,G⟩,b⟩:=DR z;dsimp only at b;split at b
 ·rename_i hd;simp only[Bool.and_eq_true]at hd;obtain⟨H,b⟩:=b;have A:∀ {l:List PK},iF (Fp st.rs) l=true->∀j v k,nth (aM (dv st.rs) l) j=some v->nth (aM (λp=>some (Kn.p p)) l) j=some k->KnO st.rs v k:=by
   intro l m j v k d o;rw[bq]at d o;cases x:nth l j with
   |none=>rw[x]at d;cases d
   | some p=>
    rw[x]at d o;injection d with d
    injection o with o
    subst d;subst o;have:=bY.1 m p (gQ x);unfold Fp at this;show den U st.rs p=some (dv st.rs p);unfold dv;split at this
    ·rename_i u hu;rw[hu];rfl
    ·cases this
  refine tp (DT (q':=λch e=>∃v st' g M,ch= [⟨v,false,false⟩]/\K v (some .pan) st'/\dt w0 k0 X0 may fr st X w st' g e M) (hq:=λch e ⟨_,_,_,_,_,h,_⟩=>h.elim) (KH (K:=_) (first:=⟨aM (dv st.rs) F⟩) (cap:=⟨aM (dv st.rs) G⟩) D y t H (Hg (by simp) (A hd.1) (Hg (by simp) (JF t) (A hd.2))) b)) λv e I=>?_;obtain⟨k,st',g,M,q,Q,s⟩:=I;have q:=DQ q;split at q
  ·rename_i m;subst q;simp only[Bool.and_eq_true]at m;have R:=Nat.eq_of_beq_eq_true m.1;have l2:=Nat.eq_of_beq_eq_true m.2;have J:M= []:=by
    have:=s.md;rw[this,List.length_append]at l2;exact List.eq_nil_of_length_eq_zero (by omega)
   subst J;refine⟨none,st,g,[],E,trivial,s.inv.Ku (by omega) (λi hi=>(s.same i hi (by simp)).1.symm) y.len,t,rfl,λi hi=>(by cases hi),λi hi=>(by cases hi),Nat.le_refl _,λi hi _=>⟨rfl,(s.same i hi (by simp)).2⟩,λi hi=>(by cases hi),λi z b=>by omega,s.ch,λi a L=>⟨a,L,cD.refl a⟩⟩
  ·exact q.elim
 ·exact b.elim
theorem rI:∀ {rs:List (Res U)}{r:Nat->Nat}{l:List (Int×Value)},mpL U rs=some (r,l)->∃i t s,nth rs i=some (.ob t r s)/\U.mp t s=some l
 | [],r,l,h=>by cases h
 | .ob t r0 s::rs,r,l,h=>by
  simp only[mpL]at h;split at h
  ·rename_i m hm;simp only[Option.some.injEq,Prod.mk.injEq]at h;obtain⟨rfl,rfl⟩:=h;exact⟨0,t,s,rfl,hm⟩
  ·obtain⟨i,t,s,a,b⟩:=rI h;exact⟨i+1,t,s,a,b⟩
 | .blk .. ::rs,r,l,h=>by
  simp only[mpL]at h;obtain⟨i,t,s,a,b⟩:=rI h;exact⟨i+1,t,s,a,b⟩
 | .lst .. ::rs,r,l,h=>by
  simp only[mpL]at h;obtain⟨i,t,s,a,b⟩:=rI h;exact⟨i+1,t,s,a,b⟩
theorem oR {b:Bool}{x y:Prop}(h:split b x y)(a:b=true):x:=(fT h).elim (·.2) λh=>by rw[a]at h;cases h.1
theorem jw {b:Bool}{x y:Prop}(h:split b x y)(a:b=false):y:=(fT h).elim (λh=>by rw[a]at h;cases h.1) (·.2)
theorem D6:∀ {l:List (Int×Value)}{i:Int}{z:Value}{F:Value->Bool->Prop},lkS l i z F->F ((lkF l i).getD z) (lkF l i).isSome
 | [],i,z,F,h=>h
 | (a,v)::r,i,z,F,h=>by
  unfold lkS at h;unfold lkF;by_cases e:i=a
  ·rw[if_pos e];exact oR h (decide_eq_true e)
  ·rw[if_neg e];exact D6 (jw h (decide_eq_false e))
theorem JB {T:TypeId}{z:Value}(h:lkT P T=some z)(w:World):∃K E,P.underlying T=some (.map K E)/\P.underlying K=some (.int .u32)/\(zeroValue E).run P w=.ok z w:=by
 unfold lkT at h;split at h
 ·rename_i K E a;split at h
  ·rename_i b;cases hi:P.info? E with
   |none=>rw[hi]at h;cases h
   | some i=>
    rw[hi]at h;exact⟨K,E,a,b,by simp[zeroValue,typeInfo,hi,show i.zero=some z from h]⟩
  ·cases h
 ·cases h
theorem Hb {o:Oper}{K:dL U}{Y:Bool}(a5:∀f c,tbl.c f=some c->LV U P f c/\bO P f=true)(H:Inv w0 k0 X0 may st.rs X w)(q:aH st.rs fr st.kn)(h:Lt U P tbl may k0 o (ev fr) st K):
 opW P Y (F6 fr w0 k0 X0 may st X w K) o (ev fr) w λv w'=>∃k st' X' M,K v k st'/\KnO st'.rs v k/\dt w0 k0 X0 may fr st X w st' X' w' M:=by
 obtain⟨dst,op,ty,pos,after,gd⟩:=o;cases op<;>simp only[Lt]at h<;>skip
 case panic x=>
  refine⟨rfl,?_⟩;split at h
  ·rename_i t v O;have J:(execOp (ev fr) ⟨dst,.panic x,ty,pos,after,gd⟩).run P w=.halt (.panic (.iface t v)) w:=by
    simp[execOp,O,Instr.panic,goPanic]
   rw[J];exact⟨_,st,X,[],rfl,h,H,q,rfl,λi hi=>(by cases hi),λi hi=>(by cases hi),Nat.le_refl _,λ_ _ _=>⟨rfl,rfl⟩,λi hi=>(by cases hi),λi I L=>by omega,Ch.refl _ _,λi a F=>⟨a,F,cD.refl a⟩⟩
  ·exact h.elim
 case store t x y=>exact Cb H q h
 case alloc t=>
  split at h
  ·rename_i z S;refine⟨rfl,?_⟩;have J:(execOp (ev fr) ⟨dst,.alloc t,ty,pos,after,gd⟩).run P w=.ok (.value (.pointer (some ⟨w.heap.size,0,none⟩))) (w.alloc (.cells z.cells t)):=by
    simp[execOp,FB S]
   rw[J];exact zU H q (v0:=undef) (ck:=none) trivial (.inl rfl) h
  ·exact h.elim
 case box t x=>
  refine⟨rfl,?_⟩;have J:(execOp (ev fr) ⟨dst,.box t x,ty,pos,after,gd⟩).run P w=.ok (.value (.pointer (some ⟨w.heap.size,0,none⟩))) (w.alloc (.cells (ev fr x).cells t)):=rfl;rw[J];exact zU H q (q.kf x) (.inr rfl) h
 case call c=>
  obtain⟨ca,args,bb⟩:=c;simp only at h;split at h
  ·rename_i f;split at h
   ·exact AO a5 H q h
   split at h
   ·rename_i f' first cap hf
    refine KH a5 H q hf (λj v k D C=>?_) h
    ·
     have bc:∀j v k,nth (aM (ev fr) args.toList) j=some v->nth (aM (V.kf st.kn) args.toList) j=some k->KnO st.rs v k:=by
      intro j v k I L;rw[bq]at I L;cases G:nth args.toList j with
      |none=>rw[G]at I;cases I
      | some x=>
       rw[G]at I L;injection I with I
       injection L with L
       subst I;subst L;exact q.kf x
     have bd:=q.kf f;have app:∀ {a1 a2:List Value}{k1 k2:List (Option Kn)},a1.length=k1.length->(∀j v k,nth a1 j=some v->nth k1 j=some k->KnO st.rs v k)->(∀j v k,nth a2 j=some v->nth k2 j=some k->KnO st.rs v k)->∀j v k,nth (a1++a2) j=some v->nth (k1++k2) j=some k->KnO st.rs v k:=by
      intro a1 a2 k1 k2 hl I L j v k D C;rw[bp]at D C;by_cases hc:j<a1.length
      ·rw[if_pos hc]at D;rw[if_pos (by omega)]at C;exact I j v k D C
      ·rw[if_neg hc]at D;rw[if_neg (by omega),<-hl]at C;exact L _ v k D C
     have pt:∀ {vs:Array Value}{l:List (Option PK)},(∀j k,nth l j=some (some k)->∃u,vs[j]? =some u/\den U st.rs k=some u)->∀j v k,nth vs.toList j=some v->nth (aM (λo:Option PK=>o.map Kn.p) l) j=some k->KnO st.rs v k:=by
      intro vs l Q j v k D C;rw[bq]at C;cases G:nth l j with
      |none=>rw[G]at C;cases C
      | some o=>
       rw[G]at C;injection C with C
       subst C;cases o with
       |none=>exact trivial
       | some p=>
        obtain⟨u,hu,hd⟩:=Q j p G;rw[aO]at D;simp at D;rw[hu]at D;injection D with D
        subst D;exact hd
     have no:∀ {vs:List Value},∀j v k,nth vs j=some v->nth (aM (λ_:Value=>(none:Option Kn)) vs) j=some k->KnO st.rs v k:=by
      intro vs j v k D C;rw[bq,D]at C;injection C with C
      subst C;exact trivial
     unfold MI at C;split at C
     ·rename_i a b b0;rw[b0,hf]at bd;obtain⟨_,fs,cs,e,⟨b1,bg⟩,h3,h4⟩:=bd;injection e with _ e1 e2
      subst e1;subst e2;exact app (by simp[b1]) (pt h3) (app (by simp) bc (pt h4)) j v k D C
     ·exact app (by simp) no (app (by simp) bc no) j v k D C
   ·exact h.elim
  ·rename_i x name;split at h
   ·rename_i t u O;split at h
    ·rename_i f' hm;refine MW a5 H q O hm (λj v k D C=>?_) h;cases j with
     | zero=>
      simp only[nth,Option.some.injEq]at C;subst C;exact trivial
     | succ j=>
      simp only[nth]at D C;rw[bq]at D C;cases G:nth args.toList j with
      |none=>rw[G]at D;cases D
      | some y=>
       rw[G]at D C;injection D with D
       injection C with C
       subst D;subst C;exact q.kf y
    ·exact h.elim
   ·exact h.elim
  ·split at h
   ·rename_i x y t t' F an;split at h
    ·rename_i e tt R z aC aN;have aN:=Nat.eq_of_beq_eq_true aN;subst aN;obtain⟨W,hi,S,a3,a4⟩:=sO aC;obtain⟨l2,B,d,Y2,hy,bl,h⟩:=Gq H.sat q h;have a6:args= #[x,y]:=by apply Array.ext';simpa using F
     have a7:bb= #[t,t]:=by apply Array.ext';simpa using an
     subst a6;subst a7;have key:∀ {A:Option Addr}{m c:Nat}{K':Value->World->Prop},ev fr x=.slice A m c->(∃(A':Option Addr)(n' c':Nat)(w2:World),(Builtin.append_ #[t,t] ty #[.slice A m c,.slice B l2.length d]:Sem Value).run P w=.ok (.slice A' n' c') w2/\K' (.slice A' n' c') w2)->
      opW P Y (F6 fr w0 k0 X0 may st X w K) {dst:=dst,op:=.call {callee:=.builtin .append,args:= #[x,y],argTypes:= #[t,t]},type:=ty,pos:=pos,after:=after,guard:=gd} (ev fr) w K':=by
      intro A m c K' O Q;obtain⟨A',n',c',w2,J,hK⟩:=Q;refine⟨rfl,?_⟩;rw[kE (s:=Builtin.append_ #[t,t] ty #[.slice A m c,.slice B l2.length d]) (by simp[uV,O,hy]) w J];exact hK
     split at h
     ·rename_i id b2;split at h
      ·rename_i az T A0 c0 l G b3;split at h
       ·rename_i hT;have hT:=Nat.eq_of_beq_eq_true hT;subst hT;split at h
        ·rename_i aN;subst aN;obtain⟨a8,h⟩:=h;have bs:=q.kf x;rw[b2]at bs;have hd:den U st.rs (.sl id 0)=some (ev fr x):=bs;simp only[den,PK.id,G,bE,fQ,Option.some.injEq]at hd;obtain⟨ho,cb⟩:Own w (X id) T A0 l.length c0 l/\∀k,X id k->k<w.heap.size:=H.sat.res id _ G;have a0:l.length+l2.length<=9223372036854775807:=by
          have:=Nat.le_mul_of_pos_right (l.length+l2.length) a4;omega
         have fin:∀(A':Option Addr)(c':Nat)(w2:World)(Z:Nat->Prop),Own w2 Z T A' (l++l2).length c' (l++l2)->(∀k,Z k->X id k\/w.heap.size<=k)->Ch (X id) w w2->∃k st' X' M,K (.slice A' (l++l2).length c') k st'/\KnO st'.rs (.slice A' (l++l2).length c') k/\dt w0 k0 X0 may fr st X w st' X' w2 M:=by
          intro A' c' w2 Z aA b4 hq;have bA:cD (Res.lst az true T A0 c0 l) (.lst az true T A' c' (l++l2)):=.lst _ _ _ _ _ _ _ _ _;have an:nth (bK st.rs id (Res.lst az true T A' c' (l++l2))) id=some (.lst az true T A' c' (l++l2)):=by rw[bh,if_pos ⟨rfl,aZ G⟩]
          refine step_done (st':=⟨bK st.rs id (.lst az true T A' c' (l++l2)),ef [id] st.kn,id::st.md⟩) (k:=some (.p (.sl id 0))) (EO H G b3 hq bA (Z:=λk=>Z k/\k<w2.heap.size) (show RS _ w2 (.lst az true T A' c' (l++l2))from⟨aA.narrow,λk q=>q.2⟩) (λk q=>b4 k q.1) ?_) ?_ (h A' c')
          rotate_left
          ·show den U _ (.sl id 0)=_;simp only[den,PK.id,an,bE,fQ]
          ·refine q.ef (M:= [id]) (λi _ hi=>by rw[bh,if_neg (λQ=>hi (by simp[Q.1]))]) λi hi a F=>?_;simp at hi;subst hi;rw[G]at F;injection F with F
           subst F;exact⟨_,an,bA⟩
         refine key hd.symm ?_;refine Own.apps (ho.mono (Y:=λk=>X id k\/w.heap.size<=k) λk q=>.inl q) W bl a0 a8 (.inr (Nat.le_refl _)) (λA' c' w2 aA hq=>?_) (λh0 hB=>?_)
         ·rw[<-List.length_append]at aA ⊢;refine fin A' c' w2 _ aA (λk q=>q) ⟨hq.kept.mono λk q=>⟨q.1,λQ=>Q.elim q.2 (λQ=>absurd q.1 (Nat.not_lt.2 Q))⟩⟩
         ·have bg:l2= []:=List.eq_nil_of_length_eq_zero h0;subst bg;refine⟨_,_,_,_,run_append_nothing w t t ty T R W.und hi A0 l.length c0 ho.own.CM _ (Src.ofNil _ W.und d),?_⟩;have:=fin A0 c0 w (X id) (by rw[List.append_nil];exact ho) (λk q=>.inl q) (Ch.refl _ _);rw[List.append_nil]at this;exact this
        ·exact h.elim
       ·exact h.elim
      ·exact h.elim
     ·split at h
      ·rename_i O;obtain⟨a8,h⟩:=h;have a0:l2.length<=9223372036854775807:=by
        have:=Nat.le_mul_of_pos_right l2.length a4;omega
       refine key O ?_;refine lX W bl a0 a8 λA' c' w2 aA hq=>?_;exact tr H q hq aA (λk q=>q.1) rfl (h A' c')
      ·exact h.elim
     ·exact h.elim
    ·exact h.elim
   ·exact h.elim
  ·split at h
   ·rename_i x y t t' F an;have a6:args= #[x,y]:=by apply Array.ext';simpa using F
    have a7:bb= #[t,t']:=by apply Array.ext';simpa using an
    subst a6;subst a7;exact Ft H q h
   ·exact h.elim
  ·exact h.elim
 case buildSlice t len parts=>
  split at h
  ·rename_i e tt R z aC;obtain⟨W,hi,S,a3,a4⟩:=sO aC;split at h
   ·rename_i cells hf hb;split at h
    ·rename_i l hl;simp only[Bool.and_eq_true]at hb;have I:0<len:=by simpa[Nat.blt_eq]using hb.1
     have L:len*R.size<=16777216:=Nat.le_of_ble_eq_true hb.2;have bC:0<R.size:=by rw[a3];exact(U.en tt).pos
     have cc:0<len*R.size:=Nat.mul_pos I bC;obtain⟨a9,bN⟩:=AF hl;refine⟨rfl,?_⟩;have J:(execOp (ev fr) {dst:=dst,op:=.buildSlice t len parts,type:=ty,pos:=pos,after:=after,guard:=gd}).run P w=.ok (.value (.slice (some ⟨w.heap.size,0,none⟩) len len)) (w.alloc (.cells cells e)):=by
      have:=Go.run_buildSlice (P:=P) w t e len (parts.map fun(ix:Nat×Operand)=>(ix.1,ev fr ix.2)) cells R z W.und hi S (by omega) (by omega) hf;simp only[execOp];rw[Sem.run_bind,this];rfl
     rw[J];have b5:cells.size=len*(U.en tt).size:=by
      rw[<-Array.length_toList,<-bN,dh,a9]
     have ba:=World.ownsRow_lit (base:=0) (e:=e) (size:=(U.en tt).size) w cells len (Nat.zero_le _) (by
      have:=Nat.le_mul_of_pos_right len bC;simp only[maxLen];omega) b5
     refine tr H q (Z:=λk=>k=w.heap.size) (show Pu w (w.alloc (.cells cells e))from(made (w2:=w.alloc (.cells cells e)) rfl rfl).pu) ⟨⟨?_,λa F=>by injection F with F;rw[<-F]⟩,rfl⟩ (λk e=>by rw[e];exact Nat.le_refl _) (by rw[a9]) (h w.heap.size);rw[bN,a9];exact ba
    ·exact h.elim
   ·exact h.elim
  ·exact h.elim
 case lookup T x ix ok=>
  cases ok with
  |false=>exact h.elim
  | true=>
   simp only at h;split at h
   ·rename_i g i z r l O hi S hm;obtain⟨rfl,h⟩:=h;obtain⟨j,t,s,G,b6⟩:=rI hm;obtain⟨K,E,I,L,h3⟩:=JB S w;have J:=EU I L h3 (U.D0 (H.sat.res j _ G) b6) i;refine⟨rfl,?_⟩;rw[kE (s:=Instr.lookup T (.map (some (r 0))) (.int .u32 i) true) (by simp[uV,O,hi]) w J];exact⟨none,st,X,[],D6 h,trivial,H,q,rfl,λi hi=>(by cases hi),λi hi=>(by cases hi),Nat.le_refl _,λ_ _ _=>⟨rfl,rfl⟩,λi hi=>(by cases hi),λi I L=>by omega,Ch.refl _ _,λi a F=>⟨a,F,cD.refl a⟩⟩
   ·exact h.elim
 case makeSlice t l c=>
  split at h
  ·rename_i a b e tt R z b7 b8 aC;obtain⟨W,hi,S,a3,a4⟩:=sO aC;split at h
   ·rename_i x O;obtain⟨⟨rfl,h0,hb⟩,h⟩:=h;have a0:a<=9223372036854775807:=by
     have h9:(1:Int)*a<=(R.bytes:Int)*a:=Int.mul_le_mul_of_nonneg_right (by omega) h0;omega
    have J:=run_make (P:=P) w t e R z W.und hi S .i64 .i64 a a h0 (Int.le_refl _) hb a0;refine⟨rfl,?_⟩;rw[kE (s:=Instr.makeSlice t (.int .i64 a) (.int .i64 a)) (by simp[uV,b7,b8]) w J];have b9:=Cy (x:=x) (U.fW O) a.toNat;have hlen:(List.replicate a.toNat x).length=a.toNat:=List.length_replicate;rw[a3];have ba:=World.ownsRow_lit (base:=0) (e:=e) (size:=(U.en tt).size) w (madeCells z.cells (a.toNat *(U.en tt).size)) a.toNat (Nat.zero_le _) (by simp only[maxLen];omega) (size_madeCells _ _);refine tr H q (Z:=λk=>k=w.heap.size) (l:=List.replicate a.toNat x) (c:=a.toNat) (T:=e) (A:=some ⟨w.heap.size,0,none⟩) ((made (w2:=w.alloc (.cells (madeCells z.cells (a.toNat *(U.en tt).size)) e)) rfl rfl).pu) ⟨⟨?_,λa F=>by injection F with F;rw[<-F]⟩,rfl⟩ (λk e=>by rw[e];exact Nat.le_refl _) (by rw[hlen]) ?_
    ·rw[b9,hlen];exact ba
    ·have:=h w.heap.size;rw[hlen]at this;exact this
   ·exact h.elim
  ·exact h.elim
theorem DV {o:Oper}{K:dL U}{Y:Bool}(j:∀f c,tbl.c f=some c->LV U P f c/\bO P f=true)(b:Inv w0 k0 X0 may st.rs X w)(d:aH st.rs fr st.kn)(h:op2 U P tbl may k0 o (ev fr) st K):
 opW P Y (F6 fr w0 k0 X0 may st X w K) o (ev fr) w λv l=>∃k st' m M,K v k st'/\KnO st'.rs v k/\dt w0 k0 X0 may fr st X w st' m l M:=by
 unfold op2 at h;split at h
 ·exact Hb j b d h
 ·obtain⟨v,k,e,g,p⟩:=wi b.sat d h;have q:=p w (Kept.refl _ _);refine⟨?_,?_⟩
  ·obtain⟨dst,op,ty,pos,after,t⟩:=o;cases op<;>first|rfl|skip
   exact absurd (show ql P _ _ _ from h) (λr=>r.elim)
  ·rw[q];exact⟨k,st,X,[],e,g,b,d,rfl,λi hi=>(by cases hi),λi hi=>(by cases hi),Nat.le_refl _,λ_ _ _=>⟨rfl,rfl⟩,λi hi=>(by cases hi),λi e g=>by omega,Ch.refl _ _,λi a s=>⟨a,s,cD.refl a⟩⟩
structure Steps(w0:World)(k0:Nat)(X0:Nat->Nat->Prop)(may:List Nat)(st:St U)(X:Nat->Nat->Prop)(st':St U)(X':Nat->Nat->Prop)(w':World):Prop where
 inv:Inv w0 k0 X0 may st'.rs X' w'
 len:st.rs.length<=st'.rs.length
 md:∃L,st'.md=L++st.md/\(∀i,i∈L->i∈may\/k0<=i)/\∀i,i<st.rs.length->i ∉ L->nth st'.rs i=nth st.rs i/\X' i=X i
 root:∀i a,nth st.rs i=some a->∃b,nth st'.rs i=some b/\cD a b
theorem Steps.refl(h:Inv w0 k0 X0 may st.rs X w):Steps w0 k0 X0 may st X st X w:=⟨h,Nat.le_refl _,⟨[],rfl,λi hi=>(by cases hi),λ_ _ _=>⟨rfl,rfl⟩⟩,λi a b=>⟨a,b,cD.refl a⟩⟩
theorem Steps.trans {e f:St U}{g j:Nat->Nat->Prop}{w1 w2:World}(h:Steps w0 k0 X0 may st X e g w1)(k:Steps w0 k0 X0 may e g f j w2):Steps w0 k0 X0 may st X f j w2:=by
 obtain⟨L,l,cL,m⟩:=h.md;obtain⟨M,o,p,hm⟩:=k.md;exact⟨k.inv,Nat.le_trans h.len k.len,⟨M++L,by rw[o,l,List.append_assoc],λi hi=>(List.mem_append.1 hi).elim (p i) (cL i),λi hi d=>by
  rw[List.mem_append,not_or]at d;obtain⟨q,r⟩:=hm i (Nat.lt_of_lt_of_le hi h.len) d.1;obtain⟨s,t⟩:=m i hi d.2;exact⟨q.trans s,r.trans t⟩⟩,λi a u=>by
  obtain⟨b,v,x⟩:=h.root i a u;obtain⟨c,y,z⟩:=k.root i b v;exact⟨c,y,x.trans z⟩⟩
theorem dt.steps {st':St U}{a:Nat->Nat->Prop}{b:World}{M:List Nat}(h:dt w0 k0 X0 may fr st X w st' a b M):Steps w0 k0 X0 may st X st' a b:=⟨h.inv,h.len,⟨M,h.md,h.can,λi hi hm=>h.same i hi hm⟩,h.root⟩
theorem Steps.kn {st' f:St U}{g:Nat->Nat->Prop}{i:World}(h:Steps w0 k0 X0 may st X st' g i)(e:f.rs=st'.rs)(j:f.md=st'.md):Steps w0 k0 X0 may st X f g i:=by
 obtain⟨a,b,c,d⟩:=h;exact⟨by rw[e];exact a,by rw[e];exact b,by rw[e,j];exact c,by rw[e];exact d⟩
variable {n:Nat}{N:List Nat}{ops:Array Oper}
theorem gX {dst:Option Tmp}{v:Value}{F G:Fr->Prop}(h:jl n N fr dst v F)(a:∀c,F c->G c):jl n N fr dst v G:=by
 unfold jl at h ⊢;cases dst with
 |none=>exact a _ h
 | some d=>
  simp only at h ⊢;split at h
  ·split at h
   ·cases v with
    |int k x=>exact λz b=>a _ (h z b)
    |bool x=>exact λz b=>a _ (h z b)
    |_=>exact a _ h
   ·exact a _ h
  ·exact h.elim
def Aft(w0:World)(k0:Nat)(X0:Nat->Nat->Prop)(may:List Nat)(st:St U)(X:Nat->Nat->Prop)(ds:List Deferred)(K:Fr->St U->Prop)(a:Fr)(b:World):Prop:=∃st' c,Steps w0 k0 X0 may st X st' c b/\aH st'.rs a st'.kn/\a.ds=ds/\K a st'
def Gj(M:Fr->Oper->World->aK->Prop)(n:Nat)(N:List Nat)(ops:Array Oper)(K:Fr->World->Prop):List Oper->Fr->World->Prop
 | [],fr,w=>K fr w
 | o::rest,fr,w=>gI ops o fr
  (λfr=>M fr o w (λv b=>jl n N fr o.dst v λa=>Gj M n N ops K rest a b))
  (λfr=>jl n N fr o.dst undef λa=>Gj M n N ops K rest a w)
def mE(n:Nat)(ws:List Nat)(a0:Act)(Q:QF):Exit->Act->World->Prop
 |.outgrown,_,_=>False
 |x,a,w=>∃fr,Rep n fr a/\Q x fr w/\Agr ws a0 a
theorem mL {Qp:Fr->List PanicEntry->World->Prop}{K:Fr->World->Prop}{ws:List Nat}{a0:Act}{r:Option Nat}:
 ∀(l:List Oper),(∀o∈l,∀d,o.dst=some d->d∈ws)->∀(fr:Fr)(a:Act)(w:World),Rep n fr a->Agr ws a0 a->Gj (λfr o w K=>opW P true (some (Qp fr)) o (ev fr) w K) n N ops K l fr w->
  wpListIn (WF r) 0 P ops (mE n ws a0 λx fr w=>match x with|.normal=>K fr w|.panic ch=>Qp fr ch w|_=>False) l a w
 | [],_,fr,a,w,e,b,h=>⟨fr,e,h,b⟩
 | o::rest,hd,fr,a,w,e,b,h=>by
  obtain⟨f,g,c⟩:=j7 e h;simp only[wpListIn];rcases c with⟨hw,c⟩|⟨hw,c⟩
  ·rw[if_pos hw];refine DS (K:=λf q=>Gj (λfr o w K=>opW P true (some (Qp fr)) o (ev fr) w K) n N ops K rest f q) g b (hd o (List.mem_cons_self ..)) c ?_ ?_
   ·intro i s w2 j k t;exact mL rest (λm p=>hd m (List.mem_cons_of_mem _ p)) i s w2 j k t
   ·intro ch q hq;exact⟨f,g,hq,b⟩
  ·rw[if_neg (by rw[hw];simp)];obtain⟨i,j,k⟩:=gn g c;exact⟨kg,mL rest (λm p=>hd m (List.mem_cons_of_mem _ p)) i _ w j (b.trans (Agr.put a o.dst undef (hd o (List.mem_cons_self ..)))) k⟩
theorem GW {k:Option Kn}{A B:Prop}{rs:List (Res U)}{v:Value}(h:Cp k A B)(a:KnO rs v k):B:=by
 unfold Cp at h;split at h
 ·exact a.elim
 ·exact h
theorem sv {K:Fr->St U->Prop}{C:List PanicEntry->Fr->St U->Prop}(p:∀f c,tbl.c f=some c->LV U P f c/\bO P f=true):∀(l:List Oper)(fr:Fr)(st0 st:St U)(a X:Nat->Nat->Prop)(w:World)(ds:List Deferred),Steps w0 k0 X0 may st0 a st X w->aH st.rs fr st.kn->fr.ds=ds->EF U P tbl may k0 n N ops K C l fr st->
 Gj (λfr o w K=>opW P true (some λch i=>Aft w0 k0 X0 may st0 a ds (C ch) fr i) o (ev fr) w K) n N ops (Aft w0 k0 X0 may st0 a ds K) l fr w
 | [],fr,st0,st,a,X,w,ds,b,j,hd,h=>⟨st,X,b,j,hd,h⟩
 | o::rest,fr,st0,st,a,X,w,ds,b,j,hd,h=>by
  refine lh h (λE q m h=>?_) (λE q m h=>?_)
  ·have r:=j.same q;refine tp (DT (DV p b.inv r h) ?_) λv i d=>?_
   ·rintro ch i ⟨v,st',s,M,rfl,t,e⟩;exact⟨st',s,b.trans e.steps,e.kn,by rw[m,hd],t⟩
   ·obtain⟨k,st',s,M,t,D,e⟩:=d;refine gX (jA (GW t D) e.kn D) λu d=>?_;obtain⟨x,g,y,z,A,B⟩:=d;exact sv p rest u st0 x a s i ds ((b.trans e.steps).kn g y) (by rw[g];exact z) (by rw[A,m,hd]) B
  ·have r:=j.same q;refine gX (jA h r trivial) λu d=>?_;obtain⟨x,g,y,z,A,B⟩:=d;exact sv p rest u st0 x a X w ds (b.kn g y) (by rw[g];exact z) (by rw[A,m,hd]) B
theorem Inv.drew(h:Inv w0 k0 X0 may st.rs X w):Inv w0 k0 X0 may st.rs X w.drew:=h.pu (Pu.aw w)
structure BOk(V:List Nat)(rd:List (Nat×List Nat))(b:Nat->Nat->Prop)(rs:List (Res U))(X:Nat->Nat->Prop)(w:World):Prop where
 has:∀i id k,id∈qh i rd->id<rs.length->X id k->b i k
 all:∀i k,i∈V->b i k
 only:∀i k,i ∉ V->b i k->k<w.heap.size/\∀j,j<rs.length->X j k->j∈qh i rd
end
end Go.Proofs.YtoghdgcmhbanbaaGreatDoor.V
end
section
namespace Go.Proofs.YtoghdgcmhbanbaaGreatDoor.V
open Go Go.RowKit
open Go.IntKind (i64 u32 u64 wrap_i64 wrap_u32)
section
variable {U:Uni}{P:Program}{tbl:Tb U}{may:List Nat}{k0:Nat}
variable {w0:World}{X0 X:Nat->Nat->Prop}{w:World}{fr:Fr}{st:St U}{n:Nat}{N:List Nat}{ops:Array Oper}
def MSw(P:Program):L9:=λB o ρ w F=>∃v,F v/\∀a,Kept (held B w) w a->(execOp ρ o).run P a=.ok (.value v) a
theorem wT {F G:Nat->Prop}:∀ {l:List Nat},CU F l->(∀i,F i->G i)->CU G l
 | [],_,_=>trivial
 | [_],h,a=>a _ h
 |_::j::r,h,a=>⟨a _ h.1,wT (l:=j::r) h.2 a⟩
theorem Bc {b:Nat->Nat->Prop}:∀ {l:List Nat}{k:Nat},aX b l k->∃i,i∈l/\b i k
 | [i],k,h=>⟨i,by simp,h⟩
 | i::j::r,k,h=>by
  rcases h with h|h
  ·exact⟨i,by simp,h⟩
  ·obtain⟨a,c,d⟩:=Bc (l:=j::r) h;exact⟨a,List.mem_cons_of_mem _ c,d⟩
theorem Gn {α:Type}(M L:List α):iN ((M++L).length - L.length) (M++L)=M:=by
 rw[dB,List.length_append,Nat.add_sub_cancel,List.take_left]
theorem LM {rs:List (Res U)}{p:PK}{v:Value}(h:den U rs p=some v):p.id<rs.length:=by
 unfold den at h;cases a:nth rs p.id with
 |none=>rw[a]at h;cases p<;>simp[bE]at h
 |some r=>exact aZ a
theorem BOk.step {V:List Nat}{rd:List (Nat×List Nat)}{b:Nat->Nat->Prop}(p:BOk V rd b st.rs X w){st':St U}{g:Nat->Nat->Prop}{q:World}{M:List Nat}(a:dt w0 k0 X0 may fr st X w st' g q M):
 BOk V rd (λi k=>b i k\/∃id,id∈qh i rd/\id<st'.rs.length/\g id k) st'.rs g q:=by
 refine⟨λi id k l d e=>.inr ⟨id,l,d,e⟩,λi k h=>.inl (p.all i k h),λi k hi m=>?_⟩;rcases m with m|⟨id,l,d,e⟩
 ·obtain⟨u,r⟩:=p.only i k hi m;refine⟨Nat.lt_of_lt_of_le u a.ch.size,λj o c=>?_⟩;by_cases f:j<st.rs.length
  ·by_cases hm:j∈M
   ·rcases a.grow j hm k c with s|s
    ·exact r j f s
    ·omega
   ·rw[(a.same j f hm).2]at c;exact r j f c
  ·have:=a.new j (Nat.le_of_not_lt f) o k c;omega
 ·refine⟨a.inv.sat.lt d k e,λj o c=>?_⟩;by_cases t:id=j
  ·rw[<-t];exact l
  ·exact absurd c (a.inv.sat.dis id j d o t k e)
theorem CQ {V:List Nat}{rd:List (Nat×List Nat)}{M a:List Nat}(h:CR V rd M a=true):∀i,i∈a->i ∉ V/\∀j,j∈M->j ∉ qh i rd:=by
 intro i hi;have:=bY.1 h i hi;simp only[Bool.and_eq_true,Bool.not_eq_true']at this;refine⟨λc=>?_,λj d e=>?_⟩
 ·rw[eQ.2 c]at this;cases this.1
 ·have b:=bY.1 this.2 j d;rw[eQ.2 e]at b;cases b
theorem BOk.kept {V:List Nat}{rd:List (Nat×List Nat)}{b:Nat->Nat->Prop}(f:BOk V rd b st.rs X w){st':St U}{g:Nat->Nat->Prop}{a:World}{M:List Nat}(c:dt w0 k0 X0 may fr st X w st' g a M){d:List Nat}(h:CR V rd M d=true):Kept (aX b d) w a:=by
 refine c.ch.kept.mono λk l=>?_;obtain⟨i,hi,m⟩:=Bc l;obtain⟨o,p⟩:=CQ h i hi;obtain⟨q,r⟩:=f.only i k o m;exact⟨q,fun⟨j,e,s⟩=>p j e (r j (c.mlt j e) s)⟩
theorem Ji {o:Oper}{kn:List (Key×Kn)}{x:Nat}(h:rdX o kn X x):∃t a p,o.op=.load t a/\kf kn a=some (.p p)/\X p.id x:=by
 unfold rdX at h;cases c:o.op<;>simp only[c]at h
 rename_i t a;cases b:V.kf kn a with
 |none=>simp only[b]at h
 |some k=>cases k<;>simp only[b]at h;exact⟨t,a,_,rfl,b,h⟩
theorem Gl {all:Bool}{V:List Nat}{rd:List (Nat×List Nat)}{K:Fr->St U->Prop}(aA:∀f c,tbl.c f=some c->LV U P f c/\bO P f=true):
 ∀(fuel:Nat)(listed:Array Bool)(fr:Fr)(st0 st:St U)(l X:Nat->Nat->Prop)(w:World)(ds:List Deferred)(b:Nat->Nat->Prop),(all=false->BOk V rd b st.rs X w)->(all=true->∀i k,b i k)->Steps w0 k0 X0 may st0 l st X w->aH st.rs fr st.kn->fr.ds=ds->
  uU U P tbl may k0 n N ops all V rd K fuel listed fr st->
  qR P (λo ρ w K=>opW P false none o ρ w K) (MSw P) n N ops (Aft w0 k0 X0 may st0 l ds K) fuel (some b) listed fr w:=by
 intro fuel
 induction fuel with
 | zero=>
  intro listed fr st0 st l X w ds b e F j m hd h;simp only[uU]at h;simp only[qR];split at h
  ·rename_i G;try simp only[G]
   exact⟨st,X,j,m,hd,h⟩
  ·exact h.elim
 | succ fuel L=>
  intro listed fr st0 st l X w ds b e F j m hd h;simp only[uU]at h;simp only[qR];split at h
  ·rename_i G;try simp only[G]
   exact⟨st,X,j,m,hd,h⟩
  ·rename_i i0 r0 G;try simp only[G]
   split at h
   ·rename_i i aC;try simp only[aC]
    split at h
    ·rename_i o Q;try simp only[Q]
     refine lh h (λR q r hq=>?_) (λR q r h=>?_)
     ·have H:=m.same q;clear h;have h:=hq;clear hq;cases S:Hm o with
      |true=>simp only[S]at h
      |false=>
      cases E:Lb all V rd i o st.kn with
      |false=>simp only[S,E]at h
      | true=>
       simp only[S,E]at h;obtain⟨v,k,s,T,u⟩:=wi j.inv.sat H h;refine⟨v,?_,λO hw=>u O (hw.mono λx W=>?_)⟩
       ·refine gX (jA s H T) λy g=>?_;obtain⟨z,d,A,B,C,D⟩:=g;exact L _ y st0 z l X w ds b (by rw[d];exact e) F (j.kn d A) (by rw[d];exact B) (by rw[C,r,hd]) D
       ·show b i x;obtain⟨t,a,p,aN,g,W⟩:=Ji W;unfold Lb at E;simp only[aN,g]at E;by_cases I:all=true
        ·exact F I i x
        have e:=e (by simpa using I);split at E
        ·rename_i J;rcases Bool.or_eq_true_iff.1 J with J|J
         ·exact absurd J I
         ·exact e.all i x (eQ.1 J)
        ·have Z:=H.kf a;rw[g]at Z;exact e.has i p.id x (eQ.1 E) (LM (show den U st.rs p=some _ from Z)) W
     ·refine gX (jA h (m.same q) trivial) λy g=>?_;obtain⟨z,d,A,B,C,D⟩:=g;exact L _ y st0 z l X w ds b (by rw[d];exact e) F (j.kn d A) (by rw[d];exact B) (by rw[C,r,hd]) D
    ·exact h.elim
   ·split at h
    ·exact h.elim
    ·rename_i a0 _;try simp only[a0]
     refine wT h λi h=>?_;split at h
     ·rename_i o Q;try simp only[Q]
      refine lh h (λR q r h=>?_) (λR q r h=>?_)
      ·have H:=m.same q;refine tp (G3 (DV aA j.inv H h) λch O ⟨_,_,_,_,_,h,_⟩=>h.elim) λv O g=>?_;obtain⟨k,st',X',M,s,T,u⟩:=g;have s:=DQ s;split at s
       ·rename_i an;rw[u.md,Gn]at an;refine gX (jA s u.kn T) λy g=>?_;obtain⟨z,d,A,B,C,D⟩:=g;have e:=e rfl;have a1:=e.step u;have az:=L (listed.setIfInBounds i true) y st0 z l X' O ds _ (λ_=>by rw[d];exact a1) (λI=>by cases I) ((j.trans u.steps).kn d A) (by rw[d];exact B) (by rw[C,r,hd]) D;unfold D3;simp only;split
        ·exact⟨_,λi k Y=>.inl Y,az⟩
        ·exact⟨e.kept u an,_,λi k Y=>.inl Y,az⟩
       ·exact s.elim
      ·refine gX (jA h (m.same q) trivial) λy g=>?_;obtain⟨z,d,A,B,C,D⟩:=g;exact L _ y st0 z l X w ds b (by rw[d];exact e) F (j.kn d A) (by rw[d];exact B) (by rw[C,r,hd]) D
     ·exact h.elim
variable (U P tbl may k0 w0 X0 n)in
def um(c:Code)(V:QF2 U->Fr->St U->Prop):Prop:=∀(Q:QF2 U)(fr:Fr)(st:St U)(X:Nat->Nat->Prop)(a:Act)(w:World),Rep n fr a->Inv w0 k0 X0 may st.rs X w->aH st.rs fr st.kn->V Q fr st->c.wpIn (WF none) 0 P (mE n (writes c) a λx b d=>Aft w0 k0 X0 may st X fr.ds (λb st'=>Q x b st') b d) a w
theorem Real.two {ws:List Nat}{a0:Act}{Q:QF}{e:Exit}{a':Act}{a:World}(h:Real n ws a0 none Q e a' a):mE n ws a0 Q e a' a:=by
 cases e<;>first|exact h|exact h.1.elim
theorem mE.mono {ws a:List Nat}{a0:Act}{Q b:QF}{e:Exit}{a':Act}{c:World}(h:mE n ws a0 Q e a' c)(hw:∀i,i∈ws->i∈a)(d:∀x fr w,Q x fr w->b x fr w):mE n a a0 b e a' c:=by
 cases e<;>first|exact h|(obtain⟨fr,f,g,j⟩:=h;exact⟨fr,f,d _ _ _ g,j.mono hw⟩)
theorem Aft.mono {ds:List Deferred}{K a:Fr->St U->Prop}{b:Fr}{c:World}(h:Aft w0 k0 X0 may st X ds K b c)(d:∀fr st,K fr st->a fr st):Aft w0 k0 X0 may st X ds a b c:=by
 obtain⟨st',e,f,g,i,j⟩:=h;exact⟨st',e,f,g,i,d _ _ j⟩
theorem Aft.pre {a:St U}{b:Nat->Nat->Prop}{w1:World}{ds:List Deferred}{K:Fr->St U->Prop}{c:Fr}{d:World}(e:Steps w0 k0 X0 may st X a b w1)(h:Aft w0 k0 X0 may a b ds K c d):Aft w0 k0 X0 may st X ds K c d:=by
 obtain⟨st',f,g,i,j,k⟩:=h;exact⟨st',f,e.trans g,i,j,k⟩
theorem uZ {id:Nat}{Q:QF2 U}{a:Act}(i:∀f c,tbl.c f=some c->LV U P f c/\bO P f=true)(j:Rep n fr a)(k:Inv w0 k0 X0 may st.rs X w)(l:aH st.rs fr st.kn)(h:EF U P tbl may k0 n N ops (Q .normal) (λch=>Q (.panic ch)) ops.toList fr st):
 (Code.region id ops false).wpIn (WF none) 0 P (mE n (writes (.region id ops false)) a λx b g=>Aft w0 k0 X0 may st X fr.ds (λb st'=>Q x b st') b g) a w:=by
 have m:=sv (n:=n) (N:=N) (ops:=ops) i ops.toList fr st st X X w fr.ds (Steps.refl k) l rfl h;exact wpIn_mono (wpIn_region_list (mL (ws:=writes (.region id ops false)) (a0:=a) ops.toList (λo p d hd=>List.mem_filterMap.2 ⟨o,p,hd⟩) fr a w j (Agr.refl _ _) m)) λe a' g he=>by
  cases e<;>first|exact he|(obtain⟨_,_,h,_⟩:=he;exact h.elim)
theorem xJ {id:Nat}{Q:QF2 U}{a:Act}{V:List Nat}{rd:List (Nat×List Nat)}(v:∀f c,tbl.c f=some c->LV U P f c/\bO P f=true)(hm:P.follows .mixedOrders=true)(y:Region.noSelect ops=true)(z:eh ops.toList=true)(A:Rep n fr a)(B:Inv w0 k0 X0 may st.rs X w)(b:aH st.rs fr st.kn){all:Bool}
 (h:uU U P tbl may k0 n N ops all V rd (Q .normal) ops.size (Array.replicate ops.size false) fr st):
 (Code.region id ops true).wpIn (WF none) 0 P (mE n (writes (.region id ops true)) a λx m t=>Aft w0 k0 X0 may st X fr.ds (λm st'=>Q x m st') m t) a w:=by
 have p:=Inv.drew B;have C:Steps w0 k0 X0 may st X st X w.drew:=Steps.refl p;have D:=Gl (n:=n) (N:=N) (ops:=ops) v ops.size (Array.replicate ops.size false) fr st st X X w.drew fr.ds (λi k=>i∈V\/all=true\/∃id,id∈qh i rd/\id<st.rs.length/\X id k) (λq=>⟨λi id k r g l=>.inr (.inr ⟨id,r,g,l⟩),λi k h=>.inl h,λi k hi b=>by
  rcases b with b|b|⟨id,r,g,l⟩
  ·exact absurd b hi
  ·rw[q]at b;cases b
  ·refine⟨p.sat.lt g k l,λj E F=>?_⟩;by_cases u:id=j
   ·rw[<-u];exact r
   ·exact absurd F (p.sat.dis id j g E u k l)⟩) (λq i k=>.inr (.inl q)) C b rfl h
 exact wpIn_mono (js hm nV (λo s=>iq z o (Array.mem_toList_iff.2 s)) (sw (ws:=writes (.region id ops true)) (a0:=a) (Qp:=none) (M:=λo ρ w K=>opW P false none o ρ w K) (MS:=MSw P) (λ_ _ _ _ h=>h) (λ_ _ _ _ _ h=>h) y (λi o s d hd=>tv s hd) ops.size _ (λ_ _ _=>True) _ fr a w.drew (gL.none _ _) (mG.none _ _) A (Agr.refl _ _) D)) λe a' t he=>Real.two (kQ he)
end
end Go.Proofs.YtoghdgcmhbanbaaGreatDoor.V
end
section
namespace Go.Proofs.YtoghdgcmhbanbaaGreatDoor.V
open Go Go.RowKit
open Go.IntKind (i64 u32 u64 wrap_i64 wrap_u32)
section
variable {U:Uni}{P:Program}{tbl:Tb U}{may:List Nat}{k0:Nat}
variable {w0:World}{X0 X:Nat->Nat->Prop}{w:World}{fr:Fr}{st:St U}{n:Nat}{N:List Nat}{ops:Array Oper}
theorem zi {T:Type}:∀ {l:List (Nat×Sh2)}{J:SlT l T}{fr:Fr}{F:T->Prop},KR l J fr F->∃b vs,F b/\(∀G:T->List (Nat×Value)->Prop,alS l J G->G b vs)/\∀s v,(s,v)∈vs->lk fr.g s fr.e=v
 | [],J,fr,F,h=>⟨J,[],h,λG c=>c,λs v a=>by cases a⟩
 | (s,sh)::r,J,fr,F,h=>by
  obtain⟨q,g,i⟩:=wP h;obtain⟨j,vs,k,m,d⟩:=zi g;refine⟨j,(s,lk fr.g s fr.e)::vs,k,λG c=>m (λf vs=>G f ((s,lk fr.g s fr.e)::vs)) (i (λb v=>alS r b λf vs=>G f ((s,v)::vs)) c),λo v a=>?_⟩;rcases List.mem_cons.1 a with e|a
  ·injection e with p d;rw[p,d]
  ·exact d o v a
def cT(kn:List (Key×Kn))(id:Nat):Nat->List AV->List Value->Prop
 |_,[],[]=>True
 |i,.v x::r,v::vs=>x=v/\cT kn id (i+1) r vs
 |i,.k p::r,_::vs=>cr (.c id i) kn=some (.p p)/\cT kn id (i+1) r vs
 |_,_,_=>False
theorem sy {T:Type}{id:Nat}{kn:List (Key×Kn)}:∀ {l:List CS}{J:CST l T}{i:Nat}{vs:List Value}{F:T->Prop},B8 id kn l J i vs F->∃g b,F g/\(∀G:T->List AV->Prop,Ic l J G->G g b)/\cT kn id i b vs/\∀n,iW n l=true->∀p,AV.k p∈b->p.id<n
 | [],J,i,[],F,h=>⟨J,[],h,λG d=>d,trivial,λ_ _ p a=>by cases a⟩
 | [],_,_,_::_,_,h=>h.elim
 |.v _::_,_,_,[],_,h=>h.elim
 |.k _::_,_,_,[],_,h=>h.elim
 | .v s::r,J,i,v::vs,F,h=>by
  obtain⟨z,t,u⟩:=oz h;obtain⟨j,b,k,m,d2,o⟩:=sy t;refine⟨j,.v v::b,k,λG d=>m (λf vs=>G f (.v v::vs)) (u (λg v=>Ic r g λf l=>G f (.v v::l)) d),⟨rfl,d2⟩,λn c p a=>?_⟩;rcases List.mem_cons.1 a with e|a
  ·cases e
  ·exact o n c p a
 | .k p::r,J,i,v::vs,F,h=>by
  simp only[B8]at h;split at h
  ·rename_i q hq;split at h
   ·rename_i he;obtain⟨j,b,k,m,d2,o⟩:=sy h;refine⟨j,.k p::b,k,λG d=>m (λf vs=>G f (.k p::vs)) d,⟨by rw[hq,(Kn.ng he).1],d2⟩,λn c x a=>?_⟩;simp only[iW]at c;split at c
    ·rename_i y;rcases List.mem_cons.1 a with e|a
     ·injection e with e;subst e;simpa[Nat.blt_eq]using y
     ·exact o n c x a
    ·cases c
   ·exact h.elim
  ·exact h.elim
def UpD(rs:List (Res U))(kn:List (Key×Kn))(id:Nat):UP U->Prop
 |.ob t s=>∃r,nth rs id=some (.ob t r s)
 |.blk a=>∃g cs T,nth rs id=some (.blk g cs T)/\cT kn id 0 a cs
 |.lst t A c l=>∃own T,nth rs id=some (.lst t own T A c l)
theorem nL {T:Type}{rs:List (Res U)}{kn:List (Key×Kn)}:∀ {l:List (Nat×RSh)}{J:BG U l T}{F:T->Prop},qS rs kn l J F->∃C us,F C/\(∀G:T->List (Nat×UP U)->Prop,FD l J G->G C us)/\us.map (·.1)=l.map (·.1)/\(∀id u,(id,u)∈us->UpD rs kn id u)/\
 ∀n,dZ n l=true->∀id u,(id,u)∈us->id<n/\∀f,u=.blk f->∀p,AV.k p∈f->p.id<n
 | [],J,F,h=>⟨J,[],h,λG j=>j,rfl,λid u hu=>(by cases hu),λ_ _ id u hu=>by cases hu⟩
 | (id,.ob t)::r,J,F,h=>by
  simp only[qS]at h;split at h
  ·rename_i o r' s q;split at h
   ·rename_i D;subst D;obtain⟨v,us,x,y,z,d2,B⟩:=nL h;refine⟨v,(id,.ob o s)::us,x,λG j=>y (λk vs=>G k ((id,.ob o s)::vs)) (j s),by simp[z],λi u hu=>?_,λn a i u hu=>?_⟩
    ·rcases List.mem_cons.1 hu with e|hu
     ·injection e with b d;subst b;subst d;exact⟨r',q⟩
     ·exact d2 i u hu
    ·simp only[dZ]at a;split at a
     ·rename_i m;rcases List.mem_cons.1 hu with e|hu
      ·injection e with b d;subst b;subst d;exact⟨by simpa[Nat.blt_eq]using m,λf e=>by cases e⟩
      ·exact B n a i u hu
     ·cases a
   ·exact h.elim
  ·exact h.elim
 | (id,.blk l)::r,J,F,h=>by
  simp only[qS]at h;split at h
  ·rename_i g cs E q;obtain⟨M,f,H,I,d1,K⟩:=sy h;obtain⟨v,us,x,y,z,d2,B⟩:=nL H;refine⟨v,(id,.blk f)::us,x,λG j=>y (λk vs=>G k ((id,.blk f)::vs)) (I (λC cs=>FD r C λk us=>G k ((id,.blk cs)::us)) j),by simp[z],λi u hu=>?_,λn a i u hu=>?_⟩
   ·rcases List.mem_cons.1 hu with e|hu
    ·injection e with b d;subst b;subst d;exact⟨g,cs,E,q,d1⟩
    ·exact d2 i u hu
   ·simp only[dZ]at a;split at a
    ·rename_i m;simp only[Bool.and_eq_true]at m;rcases List.mem_cons.1 hu with e|hu
     ·injection e with b d;subst b;subst d
      exact⟨by simpa[Nat.blt_eq]using m.1,λO e p L=>by injection e with e;subst e;exact K n m.2 p L⟩
     ·exact B n a i u hu
    ·cases a
  ·exact h.elim
 | (id,.lst t)::r,J,F,h=>by
  simp only[qS]at h;split at h
  ·rename_i o own E A c l q;split at h
   ·rename_i D;subst D;obtain⟨v,us,x,y,z,d2,B⟩:=nL h;refine⟨v,(id,.lst o A c l)::us,x,λG j=>y (λk vs=>G k ((id,.lst o A c l)::vs)) (j A c l),by simp[z],λi u hu=>?_,λn a i u hu=>?_⟩
    ·rcases List.mem_cons.1 hu with e|hu
     ·injection e with b d;subst b;subst d;exact⟨own,E,q⟩
     ·exact d2 i u hu
    ·simp only[dZ]at a;split at a
     ·rename_i m;rcases List.mem_cons.1 hu with e|hu
      ·injection e with b d;subst b;subst d;exact⟨by simpa[Nat.blt_eq]using m,λf e=>by cases e⟩
      ·exact B n a i u hu
     ·cases a
   ·exact h.elim
  ·exact h.elim
theorem ya {f:Nat->Res U->Option (Res U)}:∀ {i:Nat}{l l':List (Res U)},lay f i l=some l'->l'.length=l.length/\∀j r,nth l j=some r->∃r',f (i+j) r=some r'/\nth l' j=some r'
 | i,[],l',h=>by
  simp only[lay,Option.some.injEq]at h;subst h;exact⟨rfl,λj r b=>by simp[nth]at b⟩
 | i,r::l,l',h=>by
  simp only[lay]at h;split at h
  ·rename_i r' l2 c d;injection h with h
   subst h;obtain⟨e,g⟩:=ya d;refine⟨by simp[e],λj x a=>?_⟩;cases j with
   |zero=>simp[nth]at a;subst a;exact⟨r',c,rfl⟩
   | succ j=>
    obtain⟨y,k,m⟩:=g j x a;exact⟨y,by rw[show i+(j+1)=i+1+j by omega];exact k,m⟩
  ·cases h
theorem ju {i:Nat}{u:UP U}:∀ {us:List (Nat×UP U)},ko i us=some u->(i,u)∈us
 | [],h=>by cases h
 | (j,x)::r,h=>by
  unfold ko at h;split at h
  ·rename_i he;injection h with h
   rw[<-h,Nat.eq_of_beq_eq_true he];exact List.mem_cons_self ..
  ·exact List.mem_cons_of_mem _ (ju h)
theorem sB {i:Nat}:∀ {us:List (Nat×UP U)},ko i us=none->i ∉ us.map (·.1)
 | [],_=>by simp
 | (j,x)::r,h=>by
  unfold ko at h;split at h
  ·cases h
  ·rename_i he;rw[List.map_cons,List.mem_cons,not_or];exact⟨by rintro rfl;simp at he,sB h⟩
theorem pr {kn:List (Key×Kn)}{s:Nat}{k:Kn}:∀ {l:List (Nat×Kn)},D8 kn l=true->(s,k)∈l->∃p,k=.p p/\cr (.s s) kn=some (.p p)
 | [],_,h=>by cases h
 | (a,q)::r,h,hm=>by
  simp only[D8]at h;split at h
  ·rename_i x c;split at h
   ·rename_i he;rcases List.mem_cons.1 hm with e|hm
    ·injection e with d f
     subst d;subst f;obtain⟨g,p,b⟩:=Kn.ng he;exact⟨p,by rw[<-g,b],by rw[c,b]⟩
    ·exact pr h hm
   ·cases h
  ·cases h
theorem j6 {m s:Nat}{p:PK}:∀ {l:List (Nat×Kn)},oe m l=true->(s,Kn.p p)∈l->p.id<m
 | [],_,h=>by cases h
 | (a,.p q)::r,h,hm=>by
  simp only[oe]at h;split at h
  ·rename_i c;rcases List.mem_cons.1 hm with e|hm
   ·injection e with d b;injection b with b;subst b;simpa[Nat.blt_eq]using c
   ·exact j6 h hm
  ·cases h
 |(a,.t _)::r,h,_=>by cases h
 |(a,.ag _)::r,h,_=>by cases h
 |(a,.f _ _)::r,h,_=>by cases h
theorem sM {key:Key}{k:Kn}:∀ {l:List (Nat×Kn)},(key,k)∈Cd l->∃s,key=.s s/\(s,k)∈l
 | [],h=>by cases h
 | (s,q)::r,h=>by
  rcases List.mem_cons.1 h with e|h
  ·injection e with a b;subst a;subst b;exact⟨s,rfl,List.mem_cons_self ..⟩
  ·obtain⟨c,d,f⟩:=sM (l:=r) h;exact⟨c,d,List.mem_cons_of_mem _ f⟩
theorem ff {rs:List (Res U)}{s:Nat}{v:Value}:∀ {l:List (Nat×Kn)},(s,v)∈lf rs l->∃p,(s,Kn.p p)∈l/\v=(den U rs p).getD undef
 | [],h=>by cases h
 | (a,.p q)::r,h=>by
  rcases List.mem_cons.1 h with e|h
  ·injection e with d f;subst d;subst f;exact⟨q,List.mem_cons_self ..,rfl⟩
  ·obtain⟨p,b,c⟩:=ff (l:=r) h;exact⟨p,List.mem_cons_of_mem _ b,c⟩
 |(a,.t _)::r,h=>by obtain⟨p,b,c⟩:=ff (l:=r) h;exact⟨p,List.mem_cons_of_mem _ b,c⟩
 |(a,.ag _)::r,h=>by obtain⟨p,b,c⟩:=ff (l:=r) h;exact⟨p,List.mem_cons_of_mem _ b,c⟩
 |(a,.f _ _)::r,h=>by obtain⟨p,b,c⟩:=ff (l:=r) h;exact⟨p,List.mem_cons_of_mem _ b,c⟩
 |(a,.pan)::r,h=>by obtain⟨p,b,c⟩:=ff (l:=r) h;exact⟨p,List.mem_cons_of_mem _ b,c⟩
 |(a,.w _ _)::r,h=>by obtain⟨p,b,c⟩:=ff (l:=r) h;exact⟨p,List.mem_cons_of_mem _ b,c⟩
theorem cT.KQ {kn:List (Key×Kn)}{id:Nat}{V:PK->Value}:∀ {i:Nat}{c:List AV}{vs:List Value},cT kn id i c vs->(∀j p v,nth c j=some (.k p)->nth vs j=some v->V p=v)->aM (λa=>match a with|.v x=>x|.k p=>V p) c=vs
 |_,[],[],_,_=>rfl
 |_,[],_::_,h,_=>by simp[cT]at h
 |_,_::_,[],h,_=>by rename_i a l;cases a<;>simp[cT]at h
 | i,.v x::r,v::vs,h,b=>by
  simp only[cT]at h;simp only[aM,h.1];rw[cT.KQ h.2 λj p v d e=>b (j+1) p v d e]
 | i,.k p::r,v::vs,h,b=>by
  simp only[cT]at h;simp only[aM];rw[b 0 p v rfl rfl,cT.KQ h.2 λj p v d e=>b (j+1) p v d e]
theorem cT.kn {kn:List (Key×Kn)}{id:Nat}:∀ {i j:Nat}{a:List AV}{vs:List Value}{p:PK},cT kn id i a vs->nth a j=some (.k p)->cr (.c id (i+j)) kn=some (.p p)
 |_,_,[],_,_,_,h=>by simp[nth]at h
 |i,0,.v _::_,_::_,_,_,h=>by simp[nth]at h
 | i,0,.k p::r,v::vs,b,hd,h=>by
  simp only[cT]at hd;simp only[nth,Option.some.injEq,AV.k.injEq]at h;subst h;exact hd.1
 | i,j+1,.v _::r,_::vs,p,hd,h=>by
  simp only[cT]at hd;have:=cT.kn hd.2 (show nth r j=some (.k p)from h)
  rwa[show i+1+j=i+(j+1)by omega]at this
 | i,j+1,.k _::r,_::vs,p,hd,h=>by
  simp only[cT]at hd;have:=cT.kn hd.2 (show nth r j=some (.k p)from h)
  rwa[show i+1+j=i+(j+1)by omega]at this
 |_,_,.v _::_,[],_,hd,_=>by simp[cT]at hd
 |_,_,.k _::_,[],_,hd,_=>by simp[cT]at hd
theorem nm {id:Nat}{key:Key}{k:Kn}:∀ {i:Nat}{l:List CS},(key,k)∈yn id i l->∃j p,key=.c id (i+j)/\k=.p p/\nth l j=some (.k p)
 |_,[],h=>by cases h
 | i,.v _::r,h=>by
  obtain⟨j,p,a,b,c⟩:=nm (l:=r) h;exact⟨j+1,p,by rw[a];congr 1;omega,b,c⟩
 | i,.k q::r,h=>by
  rcases List.mem_cons.1 h with e|h
  ·injection e with d f;exact⟨0,q,d,f,rfl⟩
  ·obtain⟨j,p,a,b,c⟩:=nm (l:=r) h;exact⟨j+1,p,by rw[a];congr 1;omega,b,c⟩
theorem lP {key:Key}{k:Kn}:∀ {l:List (Nat×RSh)},(key,k)∈DH l->∃id cs j p,(id,RSh.blk cs)∈l/\key=.c id j/\k=.p p/\nth cs j=some (.k p)
 | [],h=>by cases h
 | (id,.blk cs)::r,h=>by
  rcases List.mem_append.1 h with h|h
  ·obtain⟨j,p,e,f,g⟩:=nm h;exact⟨id,cs,j,p,List.mem_cons_self ..,by simpa using e,f,g⟩
  ·obtain⟨a,b,c,d,e,f⟩:=lP (l:=r) h;exact⟨a,b,c,d,List.mem_cons_of_mem _ e,f⟩
 |(id,.ob _)::r,h=>by obtain⟨a,b,c,d,e,f⟩:=lP (l:=r) h;exact⟨a,b,c,d,List.mem_cons_of_mem _ e,f⟩
 |(id,.lst _)::r,h=>by obtain⟨a,b,c,d,e,f⟩:=lP (l:=r) h;exact⟨a,b,c,d,List.mem_cons_of_mem _ e,f⟩
theorem xx {T:Type}{id:Nat}{kn:List (Key×Kn)}:∀ {l:List CS}{J:CST l T}{i:Nat}{vs:List Value}{F:T->Prop},B8 id kn l J i vs F->(∃d,F d)/\∀j p,nth l j=some (.k p)->cr (.c id (i+j)) kn=some (.p p)
 | [],J,i,[],F,h=>⟨⟨J,h⟩,λj p a=>by simp[nth]at a⟩
 | [],_,_,_::_,_,h=>h.elim
 |.v _::_,_,_,[],_,h=>h.elim
 |.k _::_,_,_,[],_,h=>h.elim
 | .v s::r,J,i,v::vs,F,h=>by
  obtain⟨g,e,_⟩:=oz h;obtain⟨b,c⟩:=xx e;refine⟨b,λj p a=>?_⟩;cases j with
  |zero=>simp[nth]at a
  |succ j=>have:=c j p a;rwa[show i+1+j=i+(j+1)by omega]at this
 | .k q::r,J,i,v::vs,F,h=>by
  simp only[B8]at h;split at h
  ·rename_i x f;split at h
   ·rename_i he;obtain⟨b,c⟩:=xx h;refine⟨b,λj p a=>?_⟩;cases j with
    |zero=>simp only[nth,Option.some.injEq,CS.k.injEq]at a;subst a;rw[Nat.add_zero,f,(Kn.ng he).1]
    |succ j=>have:=c j p a;rwa[show i+1+j=i+(j+1)by omega]at this
   ·exact h.elim
  ·exact h.elim
theorem rF {T:Type}{rs:List (Res U)}{kn:List (Key×Kn)}:∀ {l:List (Nat×RSh)}{J:BG U l T}{F:T->Prop},qS rs kn l J F->∀id cs,(id,RSh.blk cs)∈l->∀j p,nth cs j=some (.k p)->cr (.c id j) kn=some (.p p)
 | [],_,_,_,_,_,h=>by cases h
 | (id,.ob t)::r,J,F,h,i,cs,hm=>by
  simp only[qS]at h;split at h
  ·split at h
   ·exact rF h i cs ((List.mem_cons.1 hm).resolve_left λe=>by cases e)
   ·exact h.elim
  ·exact h.elim
 | (id,.lst t)::r,J,F,h,i,cs,hm=>by
  simp only[qS]at h;split at h
  ·split at h
   ·exact rF h i cs ((List.mem_cons.1 hm).resolve_left λe=>by cases e)
   ·exact h.elim
  ·exact h.elim
 | (id,.blk l)::r,J,F,h,i,cs,hm=>by
  simp only[qS]at h;split at h
  ·obtain⟨⟨g,c⟩,d⟩:=xx h;intro j p b;rcases List.mem_cons.1 hm with e|hm
   ·injection e with f a
    injection a with a
    subst f;subst a;have:=d j p b
    rwa[Nat.zero_add]at this
   ·exact rF c i cs hm j p b
  ·exact h.elim
theorem cD.JV {x:Res U}{g:Nat}{cs:List Value}{T:TypeId}(h:cD x (.blk g cs T)):∃a,x=.blk g a T/\a.length=cs.length:=by
 cases h;rename_i c b;exact⟨c,rfl,b⟩
theorem AG {m:B3}{J:JT2 U m}{stb st':St U}{fr K:Fr}{a a':Act}{w':World}{X X':Nat->Nat->Prop}{ws:List Nat}(G:Rep n fr a)(a1:Rep n K a')(a5:Agr ws a a')(b3:tR m.wr2 ws=true)
 (b4:aH stb.rs fr stb.kn)(aC:aH st'.rs K st'.kn)(hI:Inv w0 k0 X0 may st'.rs X' w')(hlen:stb.rs.length<=st'.rs.length)(a6:∀i,i<stb.rs.length->i ∉ st'.md->i ∉ aM (·.1) m.rsh->nth st'.rs i=nth stb.rs i/\X' i=X i)(aN:∀i a,nth stb.rs i=some a->∃b,nth st'.rs i=some b/\cD a b)(cN:k0<=stb.rs.length)
 (hu:oO m stb.rs.length J K st'){F:List (Nat×Value)->St U->Prop}(L:CV m J stb fr.e F):
 ∃e R,F e R/\Rep n ⟨e,λi=>a'.tmps.getD i undef,fr.ds⟩ a'/\Inv w0 k0 X0 may R.rs X' w'/\aH R.rs ⟨e,λi=>a'.tmps.getD i undef,fr.ds⟩ R.kn/\R.md= []/\R.rs.length=stb.rs.length/\(∀i,i<stb.rs.length->i ∉ aM (·.1) m.rsh->nth R.rs i=nth stb.rs i/\X' i=X i)/\∀i a,nth stb.rs i=some a->∃b,nth R.rs i=some b/\cD a b:=by
 unfold oO at hu;split at hu
 case h_2=>exact hu.elim
 rename_i a7;simp only[Bool.and_eq_true]at a7;obtain⟨a8,a9,ba,bb⟩:=a7;obtain⟨J1,vs,h1,g1,e1⟩:=zi hu;have b5:=rF h1;obtain⟨p,us,hp,g2,m2,d2,b2⟩:=nL h1;have L:=g2 _ (g1 _ L) hp;split at L
 case h_2=>exact L.elim
 rename_i Z b6;split at L
 case h_2=>exact L.elim
 rename_i H b7;obtain⟨l1,f1⟩:=ya b6;obtain⟨l2,f2⟩:=ya b7;have bc:aM (·.1) m.rsh=us.map (·.1):=by rw[gy,m2]
 have r1:∀i x,nth stb.rs i=some x->∃y z,nth Z i=some y/\nth st'.rs i=some z/\((∀o,ko i us≠some (.blk o))->y=z)/\((∃o,ko i us=some (.blk o))->y=x):=by
  intro i x C;obtain⟨y,D,b8⟩:=f1 i x C;rw[Nat.zero_add]at D;obtain⟨z,E,S⟩:=aN i x C;refine⟨y,z,b8,E,?_,?_⟩
  ·intro b9;unfold Ly at D;cases d:ko i us with
   | none=>
    rw[d]at D;simp only[Option.some.injEq]at D;subst D;have an:=sB d;have:i ∉ st'.md:=λhm=>by
     have:=bY.1 a9 i hm;rw[bc]at this;rcases Bool.or_eq_true_iff.1 this with h|h
     ·have:=Nat.le_of_ble_eq_true h;have:=aZ C;omega
     ·exact an (eQ.1 h)
    have I:=(a6 i (aZ C) this (by rw[bc];exact an)).1;rw[E,C]at I;injection I with I
    exact I.symm
   | some u=>
    rw[d]at D;have hd:=d2 i u (ju d);cases u with
    | ob t s=>
     obtain⟨r,G⟩:=hd;rw[E]at G;injection G with G
     subst G;have I:dI x (.ob t s)=some y:=D;cases S;simp only[dI,dif_pos]at I;injection I with I
     exact I.symm
    |blk o=>exact absurd d (b9 o)
    | lst t A c l=>
     obtain⟨own,T,G⟩:=hd;rw[E]at G;injection G with G
     subst G;have I:dI x (.lst t A c l)=some y:=D;cases S;simp only[dI,dif_pos]at I;injection I with I
     exact I.symm
  ·rintro⟨o,d⟩;unfold Ly at D;rw[d]at D;simp only[Option.some.injEq]at D;exact D.symm
 have ca:∀q:PK,q.id<stb.rs.length->den U Z q=den U st'.rs q:=by
  intro q hq;obtain⟨x,C⟩:=bW hq;obtain⟨y,z,D,E,ha,f⟩:=r1 _ x C;unfold den;rw[D,E];cases d:ko q.id us with
  |none=>rw[ha (λo e=>by rw[d]at e;cases e)]
  | some u=>
   cases u with
   |ob t s=>rw[ha (λo e=>by rw[d]at e;cases e)]
   |lst t A c l=>rw[ha (λo e=>by rw[d]at e;cases e)]
   | blk o=>
    have a2:=f ⟨o,d⟩;subst a2;obtain⟨z',O,S⟩:=aN _ _ C;rw[E]at O;injection O with O
    subst O;obtain⟨g,cs,T,Q,_⟩:=d2 _ _ (ju d);rw[E]at Q;injection Q with Q
    subst Q;cases S;cases q<;>rfl
 have r2:∀i,i<stb.rs.length->nth H i=nth st'.rs i:=by
  intro i hi;obtain⟨x,C⟩:=bW hi;obtain⟨y,z,D,E,ha,f⟩:=r1 i x C;obtain⟨v,B,cb⟩:=f2 i y D;rw[Nat.zero_add]at B;rw[cb,E];unfold MC at B;cases d:ko i us with
  | none=>
   rw[d]at B;simp only[Option.some.injEq]at B;rw[<-B,ha (λo e=>by rw[d]at e;cases e)]
  | some u=>
   rw[d]at B;cases u with
   |ob t s=>simp only[Option.some.injEq]at B;rw[<-B,ha (λo e=>by rw[d]at e;cases e)]
   |lst t A c l=>simp only[Option.some.injEq]at B;rw[<-B,ha (λo e=>by rw[d]at e;cases e)]
   | blk o=>
    have a2:=f ⟨o,d⟩;subst a2;obtain⟨z',O,S⟩:=aN _ _ C;rw[E]at O;injection O with O
    subst O;obtain⟨g,cs,T,Q,bd⟩:=d2 _ _ (ju d);rw[E]at Q;injection Q with Q
    subst Q;have cc:=(b2 _ ba _ _ (ju d)).2 o rfl;have cf:aM (jI Z) o=cs:=by
     have:=bd.KQ (V:=λp=>(den U Z p).getD undef) (λj p v W B=>by
      have hk:=bd.kn W;obtain⟨g',bg,T',u,Y,q2,q3⟩:=aC.get hk;rw[E]at Y;injection Y with Y
      injection Y with _ Y _
      subst Y;rw[Nat.zero_add]at q2;rw[B]at q2;injection q2 with q2
      subst q2;have q3:den U st'.rs p=some v:=q3;rw[ca p (cc p (gQ W)),q3];rfl)
     have e:(λa=>match a with|.v x=>x|.k p=>(den U Z p).getD undef)=jI Z:=by funext a;cases a<;>rfl
     rw[e]at this;exact this
    have B:dI y (.blk (aM (jI Z) o))=some v:=B;rw[cf]at B;obtain⟨c0,rfl,hle⟩:=S.JV;simp only[dI,hle,Nat.beq_refl]at B;exact B.symm
 have cg:H.length=stb.rs.length:=by rw[l2,l1]
 have a3:∀q:PK,q.id<stb.rs.length->den U H q=den U st'.rs q:=λq hq=>by unfold den;rw[r2 _ hq]
 obtain⟨bl,cj⟩:=pz b3;have ck:∀s v,(s,v)∈vs++lf H m.kns->lk K.g s K.e=v:=by
  intro s v hm;rcases List.mem_append.1 hm with hm|hm
  ·exact e1 s v hm
  ·obtain⟨q,hq,rfl⟩:=ff hm;obtain⟨q',a4,d⟩:=pr a8 hq;injection a4 with a4
   subst a4;have:den U st'.rs q=some (lk K.g s K.e):=aC.get d;rw[a3 q (j6 bb hq),this];rfl
 have bs:Rep n ⟨vs++lf H m.kns++forget m.wr2 fr.e,λi=>a'.tmps.getD i undef,fr.ds⟩ a':=xH G a1 (a5.mono bl) cj ck;have bA:∀i,lk (λi=>a'.tmps.getD i undef) i (vs++lf H m.kns++forget m.wr2 fr.e)=lk K.g i K.e:=λi=>by rw[<-a1.get];exact(bs.get i).symm
 have bC:∀i,i<stb.rs.length->i ∉ aM (·.1) m.rsh->nth H i=nth stb.rs i/\X' i=X i:=by
  intro i hi an;rw[r2 i hi];refine a6 i hi (λhm=>?_) an;have:=bY.1 a9 i hm;rcases Bool.or_eq_true_iff.1 this with h|h
  ·have:=Nat.le_of_ble_eq_true h;omega
  ·exact an (eQ.1 h)
 have bN:∀i a,nth stb.rs i=some a->∃b,nth H i=some b/\cD a b:=by
  intro i x C;obtain⟨z,E,S⟩:=aN i x C;exact⟨z,by rw[r2 i (aZ C)];exact E,S⟩
 have b0:Inv w0 k0 X0 may H X' w':=hI.Ku (by omega) (λi hi=>r2 i (by omega)) (by omega);have L:=jE (λr G=>by
  obtain⟨i,hi⟩:=sU G;exact⟨_,_,b0.sat.res i r hi⟩) L
 refine⟨_,_,L,bs,b0,?_,rfl,cg,bC,bN⟩;refine aH.app ?_ (aH.app ?_ ?_)
 ·intro key k hm;obtain⟨s,rfl,hs⟩:=sM hm;obtain⟨q,rfl,d⟩:=pr a8 hs;show den U H q=some (lk _ s _);rw[bA,a3 q (j6 bb hs)];exact aC.get d
 ·intro key k hm;obtain⟨id,cs,j,q,h3,rfl,rfl,h5⟩:=lP hm;have d:=b5 id cs h3 j q h5;obtain⟨g,bg,T,v,Y,q2,q3⟩:=aC.get d;have b1:id<stb.rs.length/\q.id<stb.rs.length:=by
   have key:∀(l:List (Nat×RSh)),dZ stb.rs.length l=true->(id,RSh.blk cs)∈l->id<stb.rs.length/\iW stb.rs.length cs=true:=by
    intro l
    induction l with
    |nil=>intro _ h;cases h
    | cons x r ih=>
     intro f hm;obtain⟨i,x⟩:=x;cases x with
     | ob t=>
      simp only[dZ]at f;split at f
      ·exact ih f ((List.mem_cons.1 hm).resolve_left λe=>by cases e)
      ·cases f
     | lst t=>
      simp only[dZ]at f;split at f
      ·exact ih f ((List.mem_cons.1 hm).resolve_left λe=>by cases e)
      ·cases f
     | blk l=>
      simp only[dZ]at f;split at f
      ·rename_i aA;simp only[Bool.and_eq_true]at aA;rcases List.mem_cons.1 hm with e|hm
       ·injection e with e1 e2;injection e2 with e2;subst e1;subst e2
        exact⟨by simpa[Nat.blt_eq]using aA.1,aA.2⟩
       ·exact ih f hm
      ·cases f
   obtain⟨h6,h7⟩:=key m.rsh ba h3;refine⟨h6,?_⟩;have cA:∀(l:List CS)(j:Nat),iW stb.rs.length l=true->nth l j=some (.k q)->q.id<stb.rs.length:=by
    intro l
    induction l with
    |nil=>intro j _ h;simp[nth]at h
    | cons x r ih=>
     intro j f W;cases x with
     | v s=>
      cases j with
      |zero=>simp[nth]at W
      |succ j=>exact ih j f W
     | k p'=>
      simp only[iW]at f;split at f
      ·rename_i aA;cases j with
       |zero=>simp only[nth,Option.some.injEq,CS.k.injEq]at W;subst W;simpa[Nat.blt_eq]using aA
       |succ j=>exact ih j f W
      ·cases f
   exact cA cs j h7 h5
  exact⟨g,bg,T,v,by rw[r2 id b1.1];exact Y,q2,by show den U H q=_;rw[a3 q b1.2];exact q3⟩
 ·have cC:=aH.ef (M:=aM (·.1) m.rsh) b4 (rs':=H) (λi hi hm=>(bC i hi hm).1) (λi _ x C=>bN i x C);intro key k hm;obtain⟨cM,a0⟩:=dE hm;have h0:=cC key k cM;cases key with
  | s i=>
   have an:i ∉ m.wr2:=by
    intro hh;have a0:(!k9 i m.wr2)=true:=a0;rw[eQ.2 hh]at a0;cases a0
   show iJ H (lk _ i _) k;have:lk (λi=>a'.tmps.getD i undef) i (vs++lf H m.kns++forget m.wr2 fr.e)=lk fr.g i fr.e:=by
    rw[bA,<-a1.get,<-G.get];exact a5.tmps i λhi=>an (bl i hi)
   rw[this];exact h0
  |c id off=>exact h0
  |l id path=>exact h0
end
end Go.Proofs.YtoghdgcmhbanbaaGreatDoor.V
end
section
namespace Go.Proofs.YtoghdgcmhbanbaaGreatDoor.V
open Go Go.RowKit
open Go.IntKind (i64 u32 u64 wrap_i64 wrap_u32)
section
variable {U:Uni}{P:Program}{tbl:Tb U}{may:List Nat}{k0:Nat}
variable {w0:World}{X0 X:Nat->Nat->Prop}{w:World}{fr:Fr}{st:St U}{n:Nat}{N:List Nat}{ops:Array Oper}
theorem Steps.back {c:St U}{e:Nat->Nat->Prop}{f:World}(h:Steps w0 k0 X0 may {st with md:= []} X c e f):Steps w0 k0 X0 may st X (jZ U c st.md) e f:=by
 obtain⟨a,b,⟨L,g,i,j⟩,d⟩:=h;refine⟨a,b,⟨L,?_,i,j⟩,d⟩;show c.md++st.md=L++st.md;rw[g];simp
theorem G9 {s j:Nat}{st st':St U}{X:Nat->Nat->Prop}(h:Cx k0 s j st=some st')(D:Inv w0 k0 X0 may st.rs X w)(f:aH st.rs fr st.kn):∃R,Steps w0 k0 X0 may st X st' R w/\aH st'.rs fr st'.kn:=by
 unfold Cx at h;split at h
 ·rename_i i S;split at h
  ·injection h with h;subst h;exact⟨X,Steps.refl D,f⟩
  ·rename_i v;have v:i≠j:=λe=>by rw[e,Nat.beq_refl]at v;cases v
   split at h
   ·rename_i t T A c l t' T' A' c' l' hi E;split at h
    ·rename_i d;injection h with h;subst h
     simp only[Bool.and_eq_true]at d;obtain⟨⟨B,F⟩,V,W⟩:=d;obtain rfl:=Nat.eq_of_beq_eq_true V;obtain rfl:=Nat.eq_of_beq_eq_true W;have B:=Nat.le_of_ble_eq_true B;have F:=Nat.le_of_ble_eq_true F;have li:=aZ hi;have Y:=aZ E;have C:nth (bK (bK st.rs j (.lst t true T A c l)) i (.lst t true T none 0 [])) j=some (.lst t true T A c l):=by
      rw[bh,if_neg (by rintro⟨e,_⟩;exact v e.symm),bh,if_pos ⟨rfl,Y⟩]
     have G:nth (bK (bK st.rs j (.lst t true T A c l)) i (.lst t true T none 0 [])) i=some (.lst t true T none 0 []):=by
      rw[bh,if_pos ⟨rfl,by rw[sQ];exact li⟩]
     have no:∀k,k≠i->k≠j->nth (bK (bK st.rs j (.lst t true T A c l)) i (.lst t true T none 0 [])) k=nth st.rs k:=λk o m=>by
      rw[bh,if_neg (λe=>o e.1),bh,if_neg (λe=>m e.1)]
     have mem:∀k,k∈ [i,j]->k=i\/k=j:=by simp
     have H:jP (jP X j (X i)) i (λ_=>False) i=λ_=>False:=updX_eq ..;have I:jP (jP X j (X i)) i (λ_=>False) j=X i:=by rw[iM _ _ (Ne.symm v),updX_eq]
     have z:∀k,k ∉ [i,j]->jP (jP X j (X i)) i (λ_=>False) k=X k:=λk f=>by
      have:k≠i/\k≠j:=by simpa using f
      rw[iM _ _ this.1,iM _ _ this.2]
     have hlen:(bK (bK st.rs j (Res.lst t true T A c l)) i (.lst t true T none 0 [])).length=st.rs.length:=by simp
     have J:∀k a,nth st.rs k=some a->∃b,nth (bK (bK st.rs j (.lst t true T A c l)) i (.lst t true T none 0 [])) k=some b/\cD a b:=λk a g=>by
      by_cases p:k=i
      ·subst p;rw[hi]at g;injection g with g;subst g;exact⟨_,G,cD.lst ..⟩
      by_cases q:k=j
      ·subst q;rw[E]at g;injection g with g;subst g;exact⟨_,C,cD.lst ..⟩
      exact⟨a,by rw[no k p q];exact g,cD.refl a⟩
     refine⟨jP (jP X j (X i)) i (λ_=>False),⟨?_,by rw[hlen];exact Nat.le_refl _,⟨[i,j],rfl,λk f=>.inr (by rcases mem k f with rfl|rfl<;>assumption),λk _ f=>⟨no k (λe=>f (by simp[e])) (λe=>f (by simp[e])),z k f⟩⟩,J⟩,?_⟩
     ·obtain⟨sat,ch,old,new,len⟩:=D;have sub:∀k,k<st.rs.length->∀b,jP (jP X j (X i)) i (λ_=>False) k b->(k=j/\X i b)\/(k≠j/\k≠i/\X k b):=λk _ b d=>by
       by_cases p:k=i
       ·subst p;rw[H]at d;exact d.elim
       by_cases q:k=j
       ·subst q;rw[I]at d;exact .inl ⟨rfl,d⟩
       rw[z k (by simp[p,q])]at d;exact .inr ⟨q,p,d⟩
      refine⟨⟨λk r u=>?_,λa b g d K k Z L=>?_⟩,ch,λk an b d=>?_,λk o m b d=>?_,by rw[hlen];exact len⟩
      ·by_cases p:k=i
       ·subst p;rw[G]at u;injection u with u;subst u;rw[H]
        exact(⟨Own.nil,λk f=>f.elim⟩:RS (λ_=>False) w (.lst t true T none 0 []:Res U))
       by_cases q:k=j
       ·subst q;rw[C]at u;injection u with u;subst u;rw[I];exact sat.res i _ hi
       rw[no k p q]at u;rw[z k (by simp[p,q])];exact sat.res k r u
      ·rw[hlen]at g d;rcases sub a g k Z with⟨rfl,o⟩|⟨O,az,o⟩
       ·rcases sub b d k L with⟨rfl,m⟩|⟨_,Q,m⟩
        ·exact K rfl
        ·exact sat.dis i b li d (Ne.symm Q) k o m
       ·rcases sub b d k L with⟨rfl,m⟩|⟨_,Q,m⟩
        ·exact sat.dis a i g li az k o m
        ·exact sat.dis a b g d K k o m
      ·rw[z k (by simp;omega)]at d;exact old k an b d
      ·rw[hlen]at m;rcases sub k m b d with⟨rfl,h⟩|⟨_,_,h⟩
       ·exact new i B li b h
       ·exact new k o m b h
     ·have all:∀ {P:Key×Kn->Prop}{x:Key×Kn}{l:List (Key×Kn)},P x->(∀y,y∈l->P y)->∀y,y∈x::l->P y:=λo m y hy=>(List.mem_cons.1 hy).elim (λe=>e▸o) (m y);refine λkey k hm=>all (P:=λx=>fN _ fr x.1 x.2) ?_ ?_ (key,k) hm
      ·have O:den U st.rs (.sl i 0)=some (lk fr.g s fr.e):=f.get S;show den U _ (.sl j 0)=some (lk fr.g s fr.e);rw[<-O];simp only[den,PK.id,C,hi,bE,fQ]
      ·have:=f.ef (M:= [i,j]) (rs':=bK (bK st.rs j (.lst t true T A c l)) i (.lst t true T none 0 [])) (λk _ f=>no k (λe=>f (by simp[e])) (λe=>f (by simp[e]))) (λk _ a g=>J k a g);exact λx hx=>this x.1 x.2 hx
    ·cases h
   ·cases h
 ·cases h
theorem FE {key:Key}{tt:Nat}{T:TypeId}{st:St U}{X:Nat->Nat->Prop}(b:vy fr st key=some (.slice none 0 0))(j:Inv w0 k0 X0 may st.rs X w)(d:aH st.rs fr st.kn):∃m,Steps w0 k0 X0 may st X ⟨st.rs++ [.lst tt true T none 0 []],(key,.p (.sl st.rs.length 0))::dS (λa _=>!(a.eq key)) st.kn,st.md⟩ m w/\aH (st.rs++ [.lst tt true T none 0 []]) fr ((key,.p (.sl st.rs.length 0))::dS (λa _=>!(a.eq key)) st.kn):=by
 have o:RS (λ_=>False) w (.lst tt true T none 0 []:Res U):=⟨Own.nil,λk d=>d.elim⟩;have p:nth (st.rs++ [Res.lst tt true T none 0 []]) st.rs.length=some (.lst tt true T none 0 []):=Af;have q:=j.more (Ch.refl _ _) o (λk d=>d.elim);have r:=rL d (Res.lst tt true T none 0 []);have hd:den U (st.rs++ [Res.lst tt true T none 0 []]) (.sl st.rs.length 0)=some (.slice none 0 0):=by
  simp only[den,PK.id,p,bE,fQ,List.length_nil]
 refine⟨jP X st.rs.length λ_=>False,⟨q,by simp,⟨[],rfl,λi hi=>(by cases hi),λi hi _=>⟨by show nth (st.rs++_) i=_;rw[bp,if_pos hi],iM _ _ (by omega)⟩⟩,λi a f=>⟨a,by show nth (st.rs++_) i=_;rw[bp,if_pos (aZ f)];exact f,cD.refl a⟩⟩,?_⟩;intro t k hm;rcases List.mem_cons.1 hm with e|hm
 ·injection e with u v
  subst u;subst v;cases t with
  | s i=>
   simp only[vy,Option.some.injEq]at b;show den U _ _=some (lk fr.g i fr.e);rw[b];exact hd
  | c id off=>
   simp only[vy]at b;split at b
   ·rename_i g cs x h;exact⟨g,cs,x,_,by rw[bp,if_pos (aZ h)];exact h,b,hd⟩
   ·cases b
  |l id path=>simp only[vy,reduceCtorEq]at b
 ·exact r _ _ (dE hm).1
theorem iH:∀ {l:List (Key×Nat×TypeId)}{st:St U}{X:Nat->Nat->Prop}{F:St U->Prop},kd k0 fr l st F->Inv w0 k0 X0 may st.rs X w->aH st.rs fr st.kn->∃st' b,F st'/\Steps w0 k0 X0 may st X st' b w/\aH st'.rs fr st'.kn
 | [],st,X,F,h,g,i=>⟨st,X,h,Steps.refl g,i⟩
 | (key,tt,T)::r,st,X,F,h,g,i=>by
  have old:(match vy fr st key with
   |some (.slice none 0 0)=>kd k0 fr r ⟨st.rs++ [.lst tt true T none 0 []],(key,.p (.sl st.rs.length 0))::dS (λa _=>!(a.eq key)) st.kn,st.md⟩ F
   |_=>False)->∃st' b,F st'/\Steps w0 k0 X0 may st X st' b w/\aH st'.rs fr st'.kn:=λh=>by
   split at h
   ·rename_i q;obtain⟨t,j,p⟩:=FE (tt:=tt) (T:=T) q g i;obtain⟨st',b,m,d,o⟩:=iH h j.inv p;exact⟨st',b,m,j.trans d,o⟩
   ·exact h.elim
  cases key with
  | s s=>
   cases f:Nat.ble 1000 tt with
   | true=>
    simp only[kd,f]at h;unfold DG at h;split at h
    ·obtain⟨hd,h⟩:=h;have u:aH st.rs fr ((.s s,.p (.sl (tt - 1000) 0))::st.kn):=λkey k hm=>by
      rcases List.mem_cons.1 hm with e|hm
      ·injection e with v x
       subst v;subst x;exact hd
      ·exact i key k hm
     obtain⟨st',b,m,d,o⟩:=iH h g u;exact⟨st',b,m,⟨d.inv,d.len,d.md,d.root⟩,o⟩
    ·split at h
     ·rename_i y hm;obtain⟨t,j,p⟩:=G9 hm g i;obtain⟨st',b,m,d,o⟩:=iH h j.inv p;exact⟨st',b,m,j.trans d,o⟩
     ·exact h.elim
   |false=>simp only[kd,f]at h;exact old h
  |c id off=>cases f:Nat.ble 1000 tt<;>simp only[kd,f]at h<;>exact old h
  |l id path=>cases f:Nat.ble 1000 tt<;>simp only[kd,f]at h<;>exact old h
theorem KO {c:Code}{Q:QF2 U}{a:Act}{st':St U}{e:Nat->Nat->Prop}{ws:List Nat}(f:Steps w0 k0 X0 may st X st' e w)(h:c.wpIn (WF none) 0 P (mE n ws a λx d w2=>Aft w0 k0 X0 may st' e fr.ds (λb st'=>Q x b st') d w2) a w):
 c.wpIn (WF none) 0 P (mE n ws a λx d w2=>Aft w0 k0 X0 may st X fr.ds (λb st'=>Q x b st') d w2) a w:=by
 refine wpIn_mono h λx a' j he=>?_;cases x
 case outgrown=>exact he
 all_goals
  obtain⟨b,g,hq,i⟩:=he;exact⟨b,g,hq.pre f,i⟩
theorem FF {c:Code}{e:An}{V:QF2 U->Fr->St U->Prop}(h:um U P may k0 w0 X0 n c V):um U P may k0 w0 X0 n c λQ fr st=>su U k0 e Q fr st λQ st=>V Q fr st:=by
 intro Q fr st X a w f g i b;simp only[su]at b;obtain⟨st',j,b,d,k⟩:=iH b g i;refine wpIn_mono (h Q fr st' j a w f d.inv k b) λx a' p he=>?_;cases x
 case outgrown=>exact he
 all_goals
  obtain⟨l,m,hq,o⟩:=he;exact⟨l,m,hq.pre d,o⟩
theorem fX {c:Code}{v:An}{V:QF2 U->Fr->St U->Prop}(h:um U P may k0 w0 X0 n c V):um U P may k0 w0 X0 n c λQ fr st=>ia U may k0 c v Q fr st λQ st=>V Q fr st:=by
 refine FF (V:=λQ fr st=>sr U may k0 c v Q fr st λQ st=>V Q fr st) ?_;intro Q fr st X a w k l m d;simp only[sr]at d;split at d
 ·exact h Q fr st X a w k l m d
 ·rename_i o F;split at d
  ·rename_i g;simp only[Bool.and_eq_true]at g;obtain⟨g,A⟩:=g;obtain⟨J,B,C⟩:=d;have D:=h _ fr {st with md:= []} X a w k l m B;refine wpIn_mono D λx a' y he=>?_;have other:∀b,(Aft w0 k0 X0 may {st with md:= []} X fr.ds (λb st'=>Q x b (jZ U st' st.md)) b y)->Aft w0 k0 X0 may st X fr.ds (λb st'=>Q x b st') b y:=by
    rintro b ⟨st',p,f,q,z,r⟩;exact⟨jZ U st' st.md,p,f.back,q,z,r⟩
   cases x
   case normal=>
    obtain⟨b,s,⟨st',p,f,q,z,r⟩,j⟩:=he;obtain⟨L,t,cL,E⟩:=f.md;have t:st'.md=L:=by rw[t];simp
    obtain⟨e,u,f1,f2,f3,f4,f5,f6,f7,f8⟩:=AG (stb:=st) (X:=X) k s j g m q f.inv f.len (λi hi hm _=>E i hi (by rw[<-t];exact hm)) f.root l.len r (C _);refine⟨_,f2,⟨jZ U u (aM (·.1) o.rsh++st.md),p,⟨f3,by show st.rs.length<=u.rs.length;omega,⟨aM (·.1) o.rsh,?_,λi hi=>gA (bY.1 A i hi),f7⟩,f8⟩,f4,rfl,f1⟩,j⟩;show u.md++(aM (·.1) o.rsh++st.md)=_;rw[f5];rfl
   case outgrown=>exact he
   all_goals
    obtain⟨b,s,hq,j⟩:=he;exact⟨b,s,other b hq,j⟩
  ·exact d.elim
theorem dY(v:∀f c,tbl.c f=some c->LV U P f c/\bO P f=true)(hm:P.follows .mixedOrders=true):∀(c:Code)(g:An),um U P may k0 w0 X0 n c (λQ fr st=>jN U P tbl may k0 n N c g Q fr st)
 |.skip,g=>λQ fr st X a w j o p d=>wpIn_skip ⟨fr,j,⟨st,X,Steps.refl o,p,rfl,d⟩,Agr.refl _ _⟩
 |.region id ops false,g=>fX (c:=.region id ops false) (V:=λQ fr st=>EF U P tbl may k0 n N ops (Q .normal) (λch=>Q (.panic ch)) ops.toList fr st) λQ fr st X a w j o p d=>uZ v j o p d
 | .region id ops true,g=>fX (c:=.region id ops true) (V:=λQ fr st=>match Region.noSelect ops,eh ops.toList with
  |true,true=>uU U P tbl may k0 n N ops (lz P ops.toList) g.V g.rd (Q .normal) ops.size (Array.replicate ops.size false) fr st
  |_,_=>False) λQ fr st X a w j o p d=>by
  dsimp only at d;split at d
  ·rename_i hs a5;exact xJ v hm hs a5 j o p d
  ·exact d.elim
 | .seq x y,g=>fX (c:=.seq x y) (V:=λQ fr st=>jN U P tbl may k0 n N x g.l (λe k st'=>match e with|.normal=>jN U P tbl may k0 n N y g.r Q k st'|e=>Q e k st') fr st) λQ fr st X a w j o p d=>by
  refine wpIn_seq (wpIn_mono (dY v hm x g.l _ fr st X a w j o p d) λe a' r he=>?_);cases e
  case normal=>
   obtain⟨k,t,⟨st',L,s,F,M,T⟩,z⟩:=he;refine wpIn_mono (dY v hm y g.r Q k st' L a' r t s.inv F T) λe a2 w2 he=>?_;cases e<;>first
    |exact he.elim
    | (obtain⟨W,Y,Z,h3⟩:=he
       exact⟨W,Y,M▸Z.pre s,(z.mono λi hi=>List.mem_append_left _ hi).trans (h3.mono λi hi=>List.mem_append_right _ hi)⟩)
  all_goals first
   |exact he.elim
   | (obtain⟨W,Y,Z,h3⟩:=he
      exact⟨W,Y,Z,h3.mono λi hi=>List.mem_append_left _ hi⟩)
 | .cond c x y,g=>fX (c:=.cond c x y) (V:=λQ fr st=>match ev fr c with
  |.bool b=>split b (jN U P tbl may k0 n N x g.l Q fr st) (jN U P tbl may k0 n N y g.r Q fr st)
  |_=>False) λQ fr st X a w j o p d=>by
  dsimp only at d;split at d
  ·rename_i b B;rw[<-j.eval]at B;rcases fT d with⟨rfl,az⟩|⟨rfl,az⟩
   ·exact wpIn_cond_true B (wpIn_mono (dY v hm x g.l Q fr st X a w j o p az) λe a' r he=>he.mono (λi hi=>List.mem_append_left _ hi) (λ_ _ _ h=>h))
   ·exact wpIn_cond_false B (wpIn_mono (dY v hm y g.r Q fr st X a w j o p az) λe a' r he=>he.mono (λi hi=>List.mem_append_right _ hi) (λ_ _ _ h=>h))
  ·exact d.elim
 | .block id c,g=>fX (c:=.block id c) (V:=λQ fr st=>jN U P tbl may k0 n N c g.l (λe k st'=>match e with
  |.exit aA=>(match Nat.beq aA id with|true=>Q .normal k st'|false=>Q (.exit aA) k st')
  |e=>Q e k st') fr st) λQ fr st X a w j o p d=>by
  refine wpIn_block (wpIn_mono (dY v hm c g.l _ fr st X a w j o p d) λe a' r he=>?_);cases e
  case exit aA=>
   obtain⟨k,t,hq,z⟩:=he;simp only[Exit.inBlock];split
   ·rename_i hi;subst hi;exact⟨k,t,hq.mono λfr st C=>(by dsimp only at C;rw[Nat.beq_refl]at C;exact C),z⟩
   ·rename_i hi;refine⟨k,t,hq.mono λfr st C=>?_,z⟩;dsimp only at C;split at C
    ·rename_i B;exact absurd (Nat.eq_of_beq_eq_true B) hi
    ·exact C
  all_goals exact he
 | .loop c,g=>λQ fr bC bN a w j a6 a7 d=>by
  simp only[jN,su]at d;obtain⟨st,X,d,a3,p⟩:=iH d a6 a7;have o:=a3.inv;refine KO a3 ?_;split at d
  ·exact d.elim
  ·rename_i E b0;split at d
   ·rename_i O;simp only[Bool.and_eq_true]at O;obtain⟨O,a8⟩:=O;obtain⟨I,⟨m0,h0⟩,a9⟩:=d;refine nK (λm a' r=>∃k st' L,Rep n k a'/\(Inv w0 k0 X0 may st'.rs L r/\st.rs.length<=st'.rs.length/\(∀i,i<st.rs.length->i ∉ st'.md->i ∉ aM (·.1) E.rsh->nth st'.rs i=nth st.rs i/\L i=X i)/\∀i a,nth st.rs i=some a->∃b,nth st'.rs i=some b/\cD a b)/\aH st'.rs k st'.kn/\oO E st.rs.length (I m) k st'/\Agr (writes c) a a') m0 ⟨fr,{st with md:= []},X,j,⟨o,Nat.le_refl _,λ_ _ _ _=>⟨rfl,rfl⟩,λi a ha=>⟨a,ha,cD.refl a⟩⟩,p,h0,Agr.refl _ _⟩ ?_;rintro m a1 w1 ⟨b1,b2,R,ba,⟨bb,bc,G,bd⟩,bg,hu,z⟩;obtain⟨e,S,f1,f2,f3,f4,f5,f6,f7,f8⟩:=AG (stb:=st) (X:=X) j ba z O p bg bb bc G bd o.len hu (a9 m _);refine wpIn_mono (dY v hm c g.l _ _ S R a1 w1 f2 f3 f4 f1) λx a' r he=>?_;have join:∀ {q:St U}{u:Nat->Nat->Prop},Steps w0 k0 X0 may S R q u r->∃A,q.md=A/\(∀i,i∈A->i∈may\/k0<=i)/\∀i,i<st.rs.length->i ∉ A->i ∉ aM (·.1) E.rsh->nth q.rs i=nth st.rs i/\u i=X i:=by
     intro q u G;obtain⟨A,H,aC,J⟩:=G.md;refine⟨A,by rw[H,f5];simp,aC,λi hi D aN=>?_⟩;obtain⟨e1,e2⟩:=J i (by omega) D;obtain⟨e3,e4⟩:=f7 i hi aN;exact⟨e1.trans e3,e2.trans e4⟩
    have a4:∀ {q:St U}{u:Nat->Nat->Prop},Steps w0 k0 X0 may S R q u r->∀i a,nth st.rs i=some a->∃b,nth q.rs i=some b/\cD a b:=by
     intro q u G i x hx;obtain⟨b,B,j⟩:=f8 i x hx;obtain⟨c',bl,t⟩:=G.root i b B;exact⟨c',bl,j.trans t⟩
    have out:∀ {K:Fr->St U->Prop}{k:Fr},Aft w0 k0 X0 may S R fr.ds (λk st'=>K k (jZ U st' (aM (·.1) E.rsh++st.md))) k r->Aft w0 k0 X0 may st X fr.ds K k r:=by
     rintro K k ⟨q,u,s,F,M,T⟩;obtain⟨A,H,aC,J⟩:=join s;refine⟨jZ U q (aM (·.1) E.rsh++st.md),u,⟨s.inv,?_,⟨A++aM (·.1) E.rsh,?_,λi hi=>(List.mem_append.1 hi).elim (aC i) (λhi=>gA (bY.1 a8 i hi)),λi hi D=>?_⟩,λi x hx=>a4 s i x hx⟩,F,M,T⟩
     ·show st.rs.length<=q.rs.length;have:=s.len;omega
     ·show q.md++(_++_)=_;rw[H,List.append_assoc]
     ·rw[List.mem_append,not_or]at D;exact J i hi D.1 D.2
    cases x
    case normal=>
     obtain⟨k,t,⟨q,u,s,F,M,m',bs,bA⟩,a0⟩:=he;obtain⟨A,H,_,J⟩:=join s;exact⟨m',bs,k,q,u,t,⟨s.inv,by have:=s.len;omega,λi hi D aN=>J i hi (by rw[<-H];exact D) aN,a4 s⟩,F,bA,z.trans a0⟩
    case outgrown=>exact he
    all_goals
     obtain⟨k,t,hq,a0⟩:=he;exact⟨k,t,out hq,z.trans a0⟩
   ·exact d.elim
 |.exit id,g=>λQ fr st X a w j o p d=>wpIn_exit ⟨fr,j,⟨st,X,Steps.refl o,p,rfl,d⟩,Agr.refl _ _⟩
 |.ret,g=>λQ fr st X a w j o p d=>wpIn_ret ⟨fr,j,⟨st,X,Steps.refl o,p,rfl,d⟩,Agr.refl _ _⟩
 | .scope c,g=>by
  refine fX (c:=.scope c) (V:=λQ fr st=>jN U P tbl may k0 n N c g.l (λe k st'=>match e with
   |.goto _=>False
   |e=>Q e k st') fr st) λQ fr st X a w j o p d=>?_
  refine(wpIn_wide (n:=0)).2 (wp_scope_straight ((wpIn_wide (n:=0)).1 (wpIn_mono (dY v hm c g.l _ fr st X a w j o p d) λe a' r he=>?_)));cases e
  case goto l=>obtain⟨_,_,⟨_,_,_,_,_,h⟩,_⟩:=he;exact h.elim
  all_goals exact he
 |.label _,g=>λQ fr st X a w j o p d=>wpIn_label ⟨fr,j,⟨st,X,Steps.refl o,p,rfl,d⟩,Agr.refl _ _⟩
 |.rangeFunc _ _ _ _,g=>λQ fr st X a w j o p d=>d.elim
 |.goto _,g=>λQ fr st X a w j o p d=>d.elim
 |.refuse _,g=>λQ fr st X a w j o p d=>d.elim
end
end Go.Proofs.YtoghdgcmhbanbaaGreatDoor.V
end
section
namespace Go.Proofs.YtoghdgcmhbanbaaGreatDoor.V
open Go Go.RowKit
open Go.IntKind (i64 u32 u64 wrap_i64 wrap_u32)
open Enc (enc)
section
variable {U:Uni}{P:Program}{tbl:Tb U}{may:List Nat}{k0:Nat}
variable {w0:World}{X0 X:Nat->Nat->Prop}{w:World}{fr:Fr}{st:St U}{n:Nat}{N:List Nat}
theorem Fc {t:TypeId}{k:Option Kn}{x:Value}{K:Value->Option Kn->Prop}(h:wo U P t k st K)(b:KnO st.rs x k):∃q,x=.pointer (some q):=by
 unfold wo at h;split at h
 ·rename_i id off;split at h
  ·rename_i g cs T a;have hd:den U st.rs (.loc id off)=some x:=b;simp only[den,PK.id,a,bE,Option.some.injEq]at hd;exact⟨_,hd.symm⟩
  ·exact h.elim
 ·rename_i id path off;split at h
  ·rename_i tt r s a;have hd:den U st.rs (.obj id path off)=some x:=b;simp only[den,PK.id,a,bE,Option.some.injEq]at hd;exact⟨_,hd.symm⟩
  ·exact h.elim
 ·rename_i id li i off;split at h
  ·rename_i r a;split at h
   ·rename_i L c;have hd:den U st.rs (.el id li i off)=some x:=b;simp only[den,PK.id,a,bE,c]at hd;split at hd
    ·injection hd with hd;exact⟨_,hd.symm⟩
    ·cases hd
   ·exact h.elim
  ·exact h.elim
 ·exact h.elim
theorem jV {tmps:Array Value}(g:∀i,tmps.getD i undef=lk fr.g i fr.e)(l:Sat st.rs X w)(d:aH st.rs fr st.kn):∀(rs:List ResultVar){F:List Value->List (Option Kn)->Prop},kP U P fr st rs F->
 ∃vs e,F vs e/\vs.length=e.length/\(∀j v k,nth vs j=some v->nth e j=some k->KnO st.rs v k)/\(rs.mapM (kK tmps)).run P w=.ok vs w
 | [],F,h=>⟨[],[],h,rfl,λj v k b=>by simp[nth]at b,rfl⟩
 | .tmp t::r,F,h=>by
  obtain⟨vs,e,f,m,o,p⟩:=jV g l d r h;refine⟨_,_,f,by simp[m],λj v k b c=>?_,?_⟩
  ·cases j with
   | zero=>
    simp only[nth,Option.some.injEq]at b c;subst b;subst c;cases s:cr (.s t) st.kn with
    |none=>exact trivial
    |some q=>exact d.get s
   |succ j=>exact o j v k b c
  ·have x:(kK tmps (.tmp t)).run P w=.ok (lk fr.g t fr.e) w:=by rw[<-g];rfl
   rw[List.mapM_cons,Sem.run_bind,x];show(Sem.run P (do let y <-r.mapM (kK tmps);pure (lk fr.g t fr.e::y)) w)=_;rw[Sem.run_bind,p];rfl
 | .cell a t::r,F,h=>by
  simp only[kP]at h;have z:KnO st.rs (lk fr.g a fr.e) (cr (.s a) st.kn):=by
   cases s:cr (.s a) st.kn with
   |none=>exact trivial
   |some q=>exact d.get s
  obtain⟨q,hq⟩:=Fc h z;obtain⟨v,D,f,B,C⟩:=wm l d z h;obtain⟨vs,e,f,m,o,p⟩:=jV g l d r f;refine⟨_,_,f,by simp[m],λj u k b c=>?_,?_⟩
  ·cases j with
   | zero=>
    simp only[nth,Option.some.injEq]at b c;subst b;subst c;exact B
   |succ j=>exact o j u k b c
  ·have A:=C w (Kept.refl _ _);rw[hq]at A;have x:(kK tmps (.cell a t)).run P w=.ok v w:=by
    show(do loadVar t (<-asAddr (tmps.getD a undef)):Sem Value).run P w=_;rw[g,hq];exact A
   rw[List.mapM_cons,Sem.run_bind,x];show(Sem.run P (do let y <-r.mapM (kK tmps);pure (v::y)) w)=_;rw[Sem.run_bind,p];rfl
theorem zx {fn:Func}{tmps:Array Value}{vs:List Value}(a:(fn.results.toList.mapM (kK tmps)).run P w=.ok vs w):(results fn tmps).run P w=.ok (match vs with | [v]=>v|vs=>.tuple ⟨vs⟩) w:=by
 have hm:(fn.results.mapM (kK tmps)).run P w=.ok ⟨vs⟩ w:=by
  rw[Array.mapM_eq_mapM_toList];simp[a]
 have b:results fn tmps=(do let vs <-fn.results.mapM (kK tmps);pure (if h:vs.size=1 then vs[0]else .tuple vs)):=by
  unfold results kK;congr 1
 rw[b,Sem.run_bind,hm];cases vs with
 |nil=>rfl
 | cons v r=>
  cases r with
  |nil=>rfl
  |cons u r=>rfl
theorem yr {a b:Res U}(h:cD a b):dI a (vz U b)=some b:=by
 cases h
 ·rename_i h;simp only[dI,vz,h,Nat.beq_refl]
 ·simp[dI,vz]
 ·simp[dI,vz]
theorem mC {G:List (Res U)}:∀ {ms:List Nat}{us L:List (Res U)},iA (nth G) ms=some us->(∀i,i∈ms->∀b,nth G i=some b->∃a,nth L i=some a/\cD a b)->∃f,bH L ms (aM (vz U) us)=some f/\f.length=L.length/\(∀i,i∈ms->nth f i=nth G i)/\∀i,i ∉ ms->nth f i=nth L i
 | [],us,L,c,h=>by
  simp only[iA,Option.some.injEq]at c;subst c;exact⟨L,rfl,rfl,λi hi=>(by cases hi),λ_ _=>rfl⟩
 | m::ms,us,L,c,h=>by
  simp only[iA]at c;split at c
  ·rename_i b y k p;injection c with c
   subst c;obtain⟨a,l,q⟩:=h m (List.mem_cons_self ..) b k;have r:=aZ l;have e:∀j,nth (bK L m b) j=if j=m then some b else nth L j:=λj=>by
    rw[bh];by_cases d:j=m
    ·rw[if_pos ⟨d,r⟩,if_pos d]
    ·rw[if_neg (λs=>d s.1),if_neg d]
   obtain⟨f,t,u,v,o⟩:=mC (L:=bK L m b) p λi hi x g=>by
    rw[e];by_cases d:i=m
    ·subst d;rw[k]at g;injection g with g
     subst g;exact⟨b,by rw[if_pos rfl],cD.refl b⟩
    ·rw[if_neg d];exact h i (List.mem_cons_of_mem _ hi) x g
   refine⟨f,?_,by rw[u];simp,λi hi=>?_,λi hi=>?_⟩
   ·simp only[aM,bH,l,yr q];exact t
   ·by_cases hm:i∈ms
    ·exact v i hm
    ·have:i=m:=(List.mem_cons.1 hi).resolve_right hm;subst this;rw[o i hm,e,if_pos rfl,k]
   ·rw[List.mem_cons,not_or]at hi;rw[o i hi.2,e,if_neg hi.1]
  ·cases c
theorem vQ {i:Nat}:∀ {l:List Nat}{p q:Nat},posOf i l p=some q->p<=q/\nth l (q - p)=some i
 | [],_,_,h=>by cases h
 | j::r,p,q,h=>by
  simp only[posOf]at h;split at h
  ·rename_i he;injection h with h
   subst h;exact⟨Nat.le_refl _,by rw[Nat.sub_self,Nat.eq_of_beq_eq_true he];rfl⟩
  ·obtain⟨b,a⟩:=vQ h;refine⟨by omega,?_⟩;rw[show q - p=(q - (p+1))+1 by omega];exact a
theorem zT {α β:Type}{f:α->Option β}{l:List α}{r:List β}(h:iA f l=some r){i:Nat}{a:α}(c:nth l i=some a):f a=nth r i:=by
 obtain⟨b,d,e⟩:=(tw h).2 i a c;rw[d,e]
theorem Hc {α β:Type}{f:α->Option β}{l:List α}{r:List β}(h:iA f l=some r):r.length=l.length:=(tw h).1
theorem pv {rs:List (Res U)}{key:Key}{k:Kn}:∀ {l:List (Key×Kn)},qu rs l=true->(key,k)∈l->(∃p v,k=.p p/\den U rs p=some v)\/∃l,k=.ag l/\∀j p,nth l j=some (some p)->∃v,den U rs p=some v
 | [],_,h=>by cases h
 | (a,.p p)::r,h,hm=>by
  simp only[qu]at h;split at h
  ·rename_i v b;rcases List.mem_cons.1 hm with e|hm
   ·injection e with d c;subst c;exact .inl ⟨p,v,rfl,b⟩
   ·exact pv h hm
  ·cases h
 |(a,.t _)::r,h,_=>by cases h
 | (a,.ag l)::r,h,hm=>by
  simp only[qu]at h;split at h
  ·rename_i f;rcases List.mem_cons.1 hm with e|hm
   ·injection e with d c;subst c
    refine .inr ⟨l,rfl,λj p g=>?_⟩;have:=bY.1 f _ (gQ g);simp only[Fp]at this;split at this
    ·rename_i v b;exact⟨v,b⟩
    ·cases this
   ·exact pv h hm
  ·cases h
 |(a,.f _ _)::r,h,_=>by cases h
theorem nZ {key:Key}{k:Kn}:∀ {l:List (Option Kn)}{i:Nat},(key,k)∈u4 i l->∃j,key=.s (i+j)/\nth l j=some (some k)
 | [],_,h=>by cases h
 | none::r,i,h=>by
  obtain⟨j,a,b⟩:=nZ (l:=r) h;exact⟨j+1,by rw[a];congr 1;omega,b⟩
 | some q::r,i,h=>by
  rcases List.mem_cons.1 h with e|h
  ·injection e with c d;subst d;exact⟨0,c,rfl⟩
  ·obtain⟨j,a,b⟩:=nZ (l:=r) h;exact⟨j+1,by rw[a];congr 1;omega,b⟩
theorem tV {id:Nat}{key:Key}{k:Kn}:∀ {l:List AV}{i:Nat},(key,k)∈JX id i l->∃j p,key=.c id (i+j)/\k=.p p/\nth l j=some (.k p)
 | [],_,h=>by cases h
 | .v _::r,i,h=>by
  obtain⟨j,p,a,b,c⟩:=tV (l:=r) h;exact⟨j+1,p,by rw[a];congr 1;omega,b,c⟩
 | .k q::r,i,h=>by
  rcases List.mem_cons.1 h with e|h
  ·injection e with d f;exact⟨0,q,d,f,rfl⟩
  ·obtain⟨j,p,a,b,c⟩:=tV (l:=r) h;exact⟨j+1,p,by rw[a];congr 1;omega,b,c⟩
theorem kT {key:Key}{k:Kn}:∀ {l:List (PR U)}{i:Nat},(key,k)∈Cm i l->∃j g m T o p,nth l j=some (.blk g m T)/\key=.c (i+j) o/\k=.p p/\nth m o=some (.k p)
 | [],_,h=>by cases h
 | .blk g m T::r,i,h=>by
  rcases List.mem_append.1 h with h|h
  ·obtain⟨o,p,d,e,f⟩:=tV h;exact⟨0,g,m,T,o,p,rfl,by rw[d];simp,e,f⟩
  ·obtain⟨j,a,b,c,o,p,d,e,f⟩:=kT (l:=r) h;exact⟨j+1,a,b,c,o,p,d,by rw[e];congr 1;omega,f⟩
 | .ob .. ::r,i,h=>by
  obtain⟨j,a,b,c,o,p,d,e,f⟩:=kT (l:=r) h;exact⟨j+1,a,b,c,o,p,d,by rw[e];congr 1;omega,f⟩
 | .lst .. ::r,i,h=>by
  obtain⟨j,a,b,c,o,p,d,e,f⟩:=kT (l:=r) h;exact⟨j+1,a,b,c,o,p,d,by rw[e];congr 1;omega,f⟩
theorem Bg {T:Type}{c:CP}{J:c.T T}{F G:T->AV->Prop}(h:alC c J F)(d:∀a b,F a b->G a b):alC c J G:=by
 cases c<;>simp only[alC]at h ⊢ <;>first|exact λx=>d _ _ (h x)|exact λx y z=>d _ _ (h x y z)|exact d _ _ h
theorem pF {T:Type}:∀ {l:List CP}{J:Dy l T}{F G:T->List AV->Prop},CW l J F->(∀a b,F a b->G a b)->CW l J G
 | [],_,_,_,h,d=>d _ _ h
 |c::l,J,F,G,h,d=>Bg (c:=c) h λ_ _ h=>pF h λ_ _ h=>d _ _ h
theorem Ie {T:Type}{a:AP}{J:a.T U T}{F G:T->AA->Prop}(h:alA a J F)(d:∀a b,F a b->G a b):alA a J G:=by
 cases a with
 |one c=>exact Bg (c:=c) h λ_ _ h=>d _ _ h
 |agg l=>exact pF (l:=l) h λ_ _ h=>d _ _ h
 |enc tt=>exact λx=>d _ _ (h x)
theorem wX {T:Type}:∀ {l:List AP}{J:DA U l T}{F G:T->List AA->Prop},yx l J F->(∀a b,F a b->G a b)->yx l J G
 | [],_,_,_,h,d=>d _ _ h
 |c::l,J,F,G,h,d=>Ie (a:=c) h λ_ _ h=>wX h λ_ _ h=>d _ _ h
theorem Ib {T:Type}{p:RP}{J:p.T U T}{F G:T->PR U->Prop}(h:alR p J F)(d:∀a b,F a b->G a b):alR p J G:=by
 cases p with
 |ob t=>exact λr s=>d _ _ (h r s)
 |blk l T=>exact λg=>pF (h g) λ_ _ h=>d _ _ h
 |lst t own T=>exact λA c l=>d _ _ (h A c l)
theorem wW {T:Type}:∀ {l:List RP}{J:FZ U l T}{F G:T->List (PR U)->Prop},yw l J F->(∀a b,b.length=l.length->F a b->G a b)->yw l J G
 | [],_,_,_,h,d=>d _ _ rfl h
 |c::l,J,F,G,h,d=>Ib (p:=c) h λ_ _ h=>wW h λ_ _ e h=>d _ _ (by simp[e]) h
theorem Av {bB B:List Nat}{Q:Ou U->Prop}{v:Value}{k:Option Kn}{M:List (Res U)}{O:Nat->Nat->Prop}{w':World}(h:LI U k0 bB B Q v k st)(a9:M.length=k0)(I:Steps w k0 X bB ⟨M,[],[]⟩ X st O w')(o:aH st.rs fr st.kn)(D:k=some .pan\/KnO st.rs v k)(az:∀i,i∈bB->i<k0):
 ∃out rs' R,kq k v=kq out.kr out.res/\Q out/\bH M bB out.upd=some rs'/\mH M bB X w out w' rs' R:=by
 unfold LI at h;split at h
 case h_2=>exact h.elim
 rename_i us F bg Y ba;simp only[Bool.and_eq_true]at ba;obtain⟨aA,aC⟩:=ba;have aA:∀i,i∈B->k0<=i:=λi hi=>Nat.le_of_ble_eq_true (bY.1 aA i hi);have aC:=mY aC;obtain⟨L,hL,cL,hl⟩:=I.md;have bb:∀i,i<k0->i ∉ bB->nth st.rs i=nth M i/\O i=X i:=by
  intro i hi hm;refine hl i (by simp only[];omega) λbl=>?_;rcases cL i bl with h|h
  ·exact hm h
  ·omega
 obtain⟨rs',bs,bA,bC,bN⟩:=mC (L:=M) bg λi hi b W=>by
  obtain⟨a,ha⟩:=bW (l:=M) (i:=i) (by rw[a9];exact az i hi);obtain⟨b',Z,C⟩:=I.root i a ha;rw[W]at Z;injection Z with Z
  subst Z;exact⟨a,ha,C⟩
 have bc:∀i,i<k0->nth rs' i=nth st.rs i:=by
  intro i hi;by_cases hm:i∈bB
  ·exact bC i hm
  ·rw[bN i hm,(bb i hi hm).1]
 have ca:F.length=B.length:=Hc Y;have cb:rs'.length=k0:=by rw[bA,a9]
 have aN:∀i j,mW k0 B i=some j->nth (rs'++F) j=nth st.rs i:=by
  intro i j G;unfold mW at G;split at G
  ·rename_i W;have W:i<k0:=by simpa[Nat.blt_eq]using W
   injection G with G
   subst G;rw[bp,if_pos (by omega),bc i W]
  ·simp only[Option.map_eq_some_iff]at G;obtain⟨p,A,rfl⟩:=G;obtain⟨_,bd⟩:=vQ A;rw[Nat.sub_zero]at bd;rw[bp,if_neg (by omega),show k0+p - rs'.length=p by omega,<-zT Y bd]
 have S:∀ {p q:PK}{u:Value},p.ren (mW k0 B)=some q->den U st.rs p=some u->den U (rs'++F) q=some u:=by
  intro p q u A hd;have d:=aN _ _ (PK.xI A);unfold den at hd ⊢;rw[d,<-hd];cases p<;>simp only[PK.ren,Option.map_eq_some_iff]at A<;>obtain⟨i,hi,rfl⟩:=A<;>simp only[PK.id]<;>cases nth st.rs _<;>first|rfl|(rename_i r;cases r<;>rfl)
 have a0:∀ {v:Value}{k k':Kn},k.ren (mW k0 B)=some k'->iJ st.rs v k->iJ (rs'++F) v k':=by
  intro v k k' o D;cases k with
  |pan=>exact D.elim
  | p p=>
   simp only[Kn.ren,Option.map_eq_some_iff]at o;obtain⟨q,hq,rfl⟩:=o;exact S hq D
  | w p n=>
   simp only[Kn.ren,Option.map_eq_some_iff]at o;obtain⟨q,hq,rfl⟩:=o;obtain⟨a,c,d,E⟩:=D;exact⟨a,c,S hq d,E⟩
  | t l=>
   simp only[Kn.ren,Option.some.injEq]at o;subst o;obtain⟨vs,e,hh⟩:=D;refine⟨vs,e,λj q H=>?_⟩;obtain⟨p,A,hq⟩:=du H;obtain⟨u,hu,hd⟩:=hh j p A;exact⟨u,hu,S hq hd⟩
  | ag l=>
   simp only[Kn.ren,Option.some.injEq]at o;subst o;obtain⟨vs,e,hh⟩:=D;refine⟨vs,e,λj q H=>?_⟩;obtain⟨p,A,hq⟩:=du H;obtain⟨u,hu,hd⟩:=hh j p A;exact⟨u,hu,S hq hd⟩
  | f a b=>
   simp only[Kn.ren,Option.some.injEq]at o;subst o;obtain⟨fn,fs,cs,e,hl,d,E⟩:=D;refine⟨fn,fs,cs,e,by simpa using hl,λj q H=>?_,λj q H=>?_⟩
   ·obtain⟨p,A,hq⟩:=du H;obtain⟨u,hu,hd⟩:=d j p A;exact⟨u,hu,S hq hd⟩
   ·obtain⟨p,A,hq⟩:=du H;obtain⟨u,hu,hd⟩:=E j p A;exact⟨u,hu,S hq hd⟩
 let R:Nat->Nat->Prop:=λi=>if i<k0 then O i else match nth B (i - k0)with
  |some r=>O r
  |none=>λ_=>False
 have hX:∀i,i<k0->R i=O i:=λi hi=>if_pos hi;have b0:∀i r,¬i<k0->nth B (i - k0)=some r->R i=O r:=λi r hi C=>by
  show(if i<k0 then _ else _)=_;rw[if_neg hi,C]
 have an:∀i,i<(rs'++F).length->∃r,R i=O r/\nth (rs'++F) i=nth st.rs r/\r<st.rs.length/\((i<k0/\r=i)\/(¬i<k0/\k0<=r/\nth B (i - k0)=some r)):=by
  intro i hi;by_cases d:i<k0
  ·refine⟨i,hX i d,by rw[bp,if_pos (by omega),bc i d],?_,.inl ⟨d,rfl⟩⟩;have:=I.len;simp only at this;omega
  ·simp at hi;obtain⟨r,C⟩:=bW (l:=B) (i:=i - k0) (by omega);have J:=zT Y C;obtain⟨y,hy⟩:=bW (l:=F) (i:=i - k0) (by omega);rw[hy]at J;exact⟨r,b0 i r d C,by rw[bp,if_neg (by omega),show i - rs'.length=i - k0 by omega,hy,J],aZ J,.inr ⟨d,aA r (gQ C),C⟩⟩
 refine⟨_,rs',R,(wz ..).symm,h,bs,⟨λi r C=>?_,λi j hi H G k K=>?_⟩,I.inv.ch,λi hi hm=>?_,λi hm k K=>?_,λi d E k K=>?_,?_,λkey q hq Y=>?_⟩
 ·obtain⟨m,e1,V,_⟩:=an i (aZ C);rw[e1];exact I.inv.sat.res m r (by rw[<-V];exact C)
 ·obtain⟨a,a1,a2,a3,a4⟩:=an i hi;obtain⟨b,b1,b2,b3,b4⟩:=an j H;rw[a1]at K;rw[b1];refine I.inv.sat.dis a b a3 b3 (λb8=>?_) k K;subst b8;rcases a4 with⟨a5,a6⟩|⟨a5,a6,a7⟩<;>rcases b4 with⟨b5,b6⟩|⟨b5,b6,b7⟩
  ·exact G (a6.symm.trans b6)
  ·omega
  ·omega
  ·have inj:∀(l:List Nat)(x y r:Nat),l.Nodup->nth l x=some r->nth l y=some r->x=y:=by
    intro l
    induction l with
    |nil=>intro x y r _ h;simp[nth]at h
    | cons z l ih=>
     intro x y r J d E;rw[List.nodup_cons]at J;cases x with
     | zero=>
      simp only[nth,Option.some.injEq]at d;subst d;cases y with
      |zero=>rfl
      |succ y=>exact absurd (gQ (l:=l) E) J.1
     | succ x=>
      cases y with
      | zero=>
       simp only[nth,Option.some.injEq]at E;subst E;exact absurd (gQ (l:=l) d) J.1
      |succ y=>rw[ih x y r J.2 d E]
   have:=inj B _ _ _ aC a7 b7;omega
 ·rw[hX i (by omega)];exact(bb i (by omega) hm).2
 ·rw[hX i (az i hm)]at K;exact I.inv.old i (az i hm) k K
 ·obtain⟨m,e1,V,e3,e4⟩:=an i (by simp only[List.length_append];simp only at E;omega);rw[e1]at K;rcases e4 with⟨e5,e6⟩|⟨e5,e6,_⟩
  ·omega
  ·exact I.inv.new m e6 e3 k K
 ·rcases D with rfl|D
  ·exact .inl rfl
  right;cases k with
  |none=>exact trivial
  | some k=>
   show KnO _ v (k.ren _);cases b9:k.ren (mW k0 B)with
   |none=>exact trivial
   |some k'=>exact a0 b9 D
 ·obtain⟨i0,i',o',k1,⟨rfl,V⟩|⟨rfl,V⟩,e3,e4⟩:=jD hq
  ·obtain⟨a8,_⟩:=dE V;obtain⟨g,cs,T,u,q1,q2,q3⟩:=o _ _ a8;exact⟨g,cs,T,u,by show nth (rs'++F) _=_;rw[aN _ _ e3];exact q1,q2,a0 e4 q3⟩
  ·obtain⟨a8,_⟩:=dE V;obtain⟨t,r,s,q1,q2⟩:=o _ _ a8;exact⟨t,r,s,by show nth (rs'++F) _=_;rw[aN _ _ e3];exact q1,a0 e4 q2⟩
theorem Ek {fn:Func}{q:List Nat}{Q:Ou U->Prop}{c:List (Res U)}{bB:List Nat}{y:List (Key×Kn)}{a':Act}{d:World}{st':St U}{g:Nat->Nat->Prop}(z:c.length=k0)(A:∀i,i∈bB->i<k0)(B:Rep n fr a')(e:Steps w k0 X bB ⟨c,y,[]⟩ X st' g d)(t:aH st'.rs fr st'.kn)
 (C:zz U P k0 bB q Q fn fr st'):∃v,(results fn a'.tmps).run P d=.ok v d/\cS c bB X w Q (.returned v) d:=by
 obtain⟨vs,b,m,hlen,f,D⟩:=jV B.get e.inv.sat t _ C;refine⟨_,zx D,?_⟩;have E:Steps w k0 X bB ⟨c,[],[]⟩ X st' g d:=⟨e.inv,e.len,e.md,e.root⟩;have go:∀ {v k},Hy U k0 bB q Q v k st'->KnO st'.rs v k->∃out rs' g,Ending.returned v=kq out.kr out.res/\Q out/\bH c bB out.upd=some rs'/\mH c bB X w out d rs' g:=by
  intro v k F x;obtain⟨out,rs',G,H,I,J,K⟩:=Av F z E t (.inr x) A;exact⟨out,rs',G,by rw[<-H];cases k with|none=>rfl|some k=>cases k<;>first|rfl|exact x.elim,I,J,K⟩
 have tup:∀ {vs:List Value}{b:List (Option Kn)},vs.length=b.length->(∀j v k,nth vs j=some v->nth b j=some k->KnO st'.rs v k)->KnO st'.rs (.tuple ⟨vs⟩) (some (.t (aM jm b))):=by
  intro vs b hlen f;refine⟨⟨vs⟩,rfl,λj p a=>?_⟩;rw[bq]at a;cases h:nth b j with
  |none=>rw[h]at a;cases a
  | some k=>
   rw[h]at a;injection a with a
   obtain⟨v,o⟩:=bW (l:=vs) (i:=j) (by rw[hlen];exact aZ h);refine⟨v,by rw[aO]at o;simpa using o,?_⟩;have:=f j v k o h;unfold jm at a;split at a
   ·injection a with a;subst a;exact this
   ·cases a
 cases vs with
 | nil=>
  cases b with
  |nil=>exact go m (tup rfl f)
  |cons _ _=>simp at hlen
 | cons v r=>
  cases b with
  |nil=>simp at hlen
  | cons k s=>
   cases r with
   | nil=>
    cases s with
    |nil=>exact go m (f 0 v k rfl rfl)
    |cons _ _=>simp at hlen
   | cons u r=>
    cases s with
    |nil=>simp at hlen
    |cons _ _=>exact go m (tup hlen f)
theorem IQ {f:Nat}{fn:Func}{c:Ctr U}{V:Code->(Ou U->Prop)->Fr->St U->Prop}{W:List Value->List (Option Kn)->List (Res U)->List (Key×Kn)->(Ou U->Prop)->Prop}(S:P.funcs[f]? =some fn)
 (Y:∀(code:Code)(Q:Ou U->Prop)(D:List (Res U))(X:Nat->Nat->Prop)(w:World)(kn:List (Key×Kn))(fr:Fr)(a:Act),D.length=c.res.length->Inv w c.res.length X c.bB D X w->Rep fn.ntmps fr a->aH D fr kn->fr.ds= []->V code Q fr ⟨D,kn,[]⟩->code.wpIn (WF none) 0 P (bodyPostM (WF none) 0 P fn (cS D c.bB X w Q)) a w)
 (Z:∀args H rs kc Q,W args H rs kc Q->∃code,fn.body=some code/\Nat.ble args.length fn.ntmps=true/\qu rs (u4 0 H++kc)=true/\V code Q ⟨num 0 args,λ_=>undef,[]⟩ ⟨rs,u4 0 H++kc,[]⟩)
 (h:yx c.args c.body λB y=>yw c.res B λB e=>∀Q:Ou U->Prop,B Q->yf (dK e) (W (aM (uh (aM PR.jx e)) y) (aM FG y) (dK e) (Cm 0 e++xX 0 e) Q)):LV U P f c:=by
 refine wX h λB y h=>wW h λB e hl h=>?_;intro Q hQ X w L an;have h:=jE (λr hr=>by
  obtain⟨j,d,he⟩:=List.mem_iff_getElem.1 hr;exact⟨_,_,L.res j r (by rw[aO,List.getElem?_eq_getElem d,he])⟩) (h Q hQ)
 obtain⟨code,hb,aA,aC,h⟩:=Z _ _ _ _ _ h;have aN:(aM (uh (aM PR.jx e)) y).length<=fn.ntmps:=Nat.le_of_ble_eq_true aA;have a0:(dK e).length=c.res.length:=by simp[hl]
 have hI:Inv w c.res.length X c.bB (dK e) X w:=⟨L,Ch.refl _ _,λi _ k s=>.inl s,λi M O=>by omega,by omega⟩;generalize R:aM (uh (aM PR.jx e)) y=args at h aN ⊢;have a1:aH (dK e) ⟨num 0 args,λ_=>undef,[]⟩ (u4 0 (aM FG y)++(Cm 0 e++xX 0 e)):=by
  intro key k m;rcases pv aC m with⟨p,v,rfl,hd⟩|⟨l,rfl,hd⟩
  rotate_left
  ·rcases List.mem_append.1 m with m|m
   ·obtain⟨j,rfl,d⟩:=nZ m;rw[Nat.zero_add];rw[bq]at d;cases z:nth y j with
    |none=>rw[z]at d;cases d
    | some a=>
     rw[z]at d;injection d with d
     obtain⟨t,rfl,rfl⟩:∃t,a=.agg t/\l=aM avK t:=by
      unfold FG at d;split at d
      ·cases d
      ·cases d
      ·split at d
       ·injection d with d;injection d with d;exact⟨_,rfl,d.symm⟩
       ·cases d
     have A:nth args j=some (.agg ⟨aM (jI (aM PR.jx e)) t⟩):=by rw[<-R,bq,z];rfl
     have E:=aZ A;refine⟨⟨aM (jI (aM PR.jx e)) t⟩,?_,λI k s=>?_⟩
     ·show lk _ j (num 0 args)=_;rw[tz,dif_pos ⟨Nat.zero_le _,by simpa using E⟩];rw[aO,List.getElem?_eq_getElem E]at A;simpa using A
     ·obtain⟨u,hu⟩:=hd I k s;refine⟨u,?_,hu⟩;rw[bq]at s;cases J:nth t I with
      |none=>rw[J]at s;cases s
      | some b=>
       rw[J]at s;injection s with s
       cases b with
       |v x=>cases s
       | k p=>
        injection s with s
        subst s;have G:nth (aM (jI (aM PR.jx e)) t) I=some u:=by
         rw[bq,J];show some ((den U (aM PR.jx e) p).getD undef)=_;rw[<-rU,hu];rfl
        rw[aO]at G;simpa using G
   ·rcases List.mem_append.1 m with m|m
    ·obtain⟨_,_,_,_,_,_,_,_,C,_⟩:=kT m;cases C
    ·have G:=jC m;obtain⟨_,_,_,_,_,_,_,_,_,_,C,K⟩:=G;cases K
  rcases List.mem_append.1 m with m|m
  ·obtain⟨j,rfl,d⟩:=nZ m;rw[Nat.zero_add];rw[bq]at d;cases z:nth y j with
   |none=>rw[z]at d;cases d
   | some a=>
    rw[z]at d;injection d with d
    have a2:a=.one (.k p):=by
     unfold FG at d;split at d
     ·injection d with d;injection d with d;rw[d]
     ·cases d
     ·split at d<;>cases d
    subst a2;show den U (dK e) p=some (lk _ j (num 0 args));have A:nth args j=some v:=by
     rw[<-R,bq,z];show some ((den U (aM PR.jx e) p).getD undef)=_;rw[<-rU,hd];rfl
    have E:=aZ A;rw[tz,dif_pos ⟨Nat.zero_le _,by simpa using E⟩,hd];rw[aO,List.getElem?_eq_getElem E]at A;rw[<-A];simp
  rcases List.mem_append.1 m with m|m
  rotate_left
  ·have h0:=an _ _ m;obtain⟨_,_,_,_,_,_,_,_,_,_,rfl,_⟩:=jC m;exact h0
  ·obtain⟨j,g,t,T,o,q,M,O,C,K⟩:=kT m;injection C with C
   subst C;rw[O,Nat.zero_add];refine⟨g,aM (jI (aM PR.jx e)) t,T,v,?_,?_,hd⟩
   ·rw[jG,M];rfl
   ·rw[bq,K];show some ((den U (aM PR.jx e) p).getD undef)=_;rw[<-rU,hd];rfl
 refine(callsIn_wide (n:=0)).1 (callsIn_of_wp_marks (F:=WF none) S hb trivial ?_);have a3:Rep fn.ntmps ⟨num 0 args,λ_=>undef,[]⟩ {tmps:=(⟨args⟩:Array Value)++Array.replicate (fn.ntmps - (⟨args⟩:Array Value).size) undef,defers:= []}:=by
  refine⟨by simp;omega,λi=>?_,rfl⟩;rw[tz];simp only[Nat.zero_le,Nat.sub_zero,true_and,Array.getD_eq_getD_getElem?];by_cases hi:i<args.length
  ·rw[dif_pos hi,Array.getElem?_append_left (by simpa using hi)];simp[hi]
  ·rw[dif_neg hi,Array.getElem?_append_right (by simpa using hi)];rw[Array.getElem?_replicate];split<;>rfl
 exact Y code Q (dK e) X w _ _ _ a0 hI a3 a1 rfl h
theorem IS {f:Nat}{fn:Func}{p:An}{m:List Nat}{c:Ctr U}(y:P.funcs[f]? =some fn)(hm:P.follows .mixedOrders=true)(z:∀f c,tbl.c f=some c->LV U P f c/\bO P f=true)(A:iF (λi=>Nat.blt i c.res.length) c.bB=true)(h:Vc2 U P tbl N fn p m c):LV U P f c:=by
 have q:∀i,i∈c.bB->i<c.res.length:=λi hi=>by simpa[Nat.blt_eq]using bY.1 A i hi
 refine IQ (V:=λcode Q fr st=>jN U P tbl c.bB c.res.length fn.ntmps N code p (λe fr st=>match fr.ds,e with
  | [],.normal=>zz U P c.res.length c.bB m Q fn fr st
  | [],.ret=>zz U P c.res.length c.bB m Q fn fr st
  | [],.panic [⟨v,false,false⟩]=>Hy U c.res.length c.bB m Q v (some .pan) st
  |_,_=>False) fr st) y ?_ (λargs K rs kc Q h=>?_) h
 ·intro code Q L X w kn fr a s B C D o h;refine wpIn_mono (dY z hm code p _ _ _ X _ w C B D h) λe a' t he=>?_;cases e
  case normal=>
   obtain⟨k,j,⟨st',u,g,l,b,d⟩,_⟩:=he;have b:k.ds= []:=b.trans o;rw[b]at d;show LeavesInM (WF none) 0 P fn a'.tmps _ a'.defers .returning t;rw[j.defers,b];exact Ek s q j g l d
  case ret=>
   obtain⟨k,j,⟨st',u,g,l,b,d⟩,_⟩:=he;have b:k.ds= []:=b.trans o;rw[b]at d;show LeavesInM (WF none) 0 P fn a'.tmps _ a'.defers .returning t;rw[j.defers,b];exact Ek s q j g l d
  case panic ch=>
   obtain⟨k,j,⟨st',u,g,l,b,d⟩,_⟩:=he;have b:k.ds= []:=b.trans o;rw[b]at d;rcases ch with _|⟨⟨v,_|_,_|_⟩,_|⟨M,r⟩⟩<;>first|exact d.elim|skip
   obtain⟨out,rs',E,F,G,H,I⟩:=Av d s ⟨g.inv,g.len,g.md,g.root⟩ l (.inl rfl) q;show LeavesInM (WF none) 0 P fn a'.tmps _ a'.defers (.panicking [⟨v,false,false⟩]) t;rw[j.defers,b];exact⟨out,rs',E,F,G,H,I⟩
  case outgrown=>exact he.elim
  all_goals
   obtain⟨k,j,⟨st',u,g,l,b,d⟩,_⟩:=he;have b:k.ds= []:=b.trans o;rw[b]at d;exact d.elim
 ·unfold Mh at h;split at h
  case h_2=>exact h.elim
  rename_i code J x;simp only[Bool.and_eq_true]at x;exact⟨code,J,x.1,x.2,h⟩
def EJ {U:Uni}:List (Nat×Ctr U)->Nat->Option (Ctr U)
 | [],_=>none
 | (g,c)::r,f=>match Nat.beq g f with
  |true=>some c
  |false=>EJ r f
abbrev dU {U:Uni}(l:List (Nat×Ctr U)):Tb U:=⟨EJ l,.bool,[]⟩
def xB(U:Uni)(P:Program):List (Nat×Ctr U)->Prop
 | []=>True
 |(f,c)::r=>LV U P f c/\xB U P r
theorem vC {c:Ctr U}{f:Nat}:∀ {tb:List (Nat×Ctr U)},EJ tb f=some c->xB U P tb->iF (λp=>bO P p.1) tb=true->LV U P f c/\bO P f=true
 | [],h,_,_=>by cases h
 | (g,d)::r,h,a,e=>by
  unfold EJ at h;have b:=bY.1 e;split at h
  ·rename_i he;injection h with h
   rw[<-h,<-Nat.eq_of_beq_eq_true he];exact⟨a.1,b _ (List.mem_cons_self ..)⟩
  ·exact vC h a.2 (bY.2 λx i=>b x (List.mem_cons_of_mem _ i))
theorem verify {f:Nat}{fn:Func}{b:An}{d:List Nat}{c:Ctr U}{tb:List (Nat×Ctr U)}{sh:Sh}{al:List (Nat×List PK×List PK)}(e:P.funcs[f]? =some fn)(hm:P.follows .mixedOrders=true)(g:xB U P tb)(a:(iF (λp=>bO P p.1) tb && iF (λi=>Nat.blt i c.res.length) c.bB)=true)(h:Vc2 U P ⟨EJ tb,sh,al⟩ N fn b d c):LV U P f c:=by
 rw[Bool.and_eq_true]at a;exact IS e hm (λf c j=>vC j g a.1) a.2 h
theorem cS.pu {rs:List (Res U)}{X:Nat->Nat->Prop}{w b:World}{Q:Ou U->Prop}{v:Value}{k:Option Kn}(c:Sat rs X w)(q:Pu w b)(d:Q ⟨v,k,[],[],[]⟩)(a:KnO rs v k):cS rs [] X w Q (.returned v) b:=by
 have e:Sat (rs++ []) X b:=by
  rw[List.append_nil];exact⟨λi r f=>(c.res i r f).ch q (λ_ _=>λh=>h),c.dis⟩
 refine⟨_,rs,X,jH a,d,rfl,e,q.mono λk a=>a.elim,λ_ _ _=>rfl,λi hi=>(by cases hi),λi j g=>by simp at g;omega,.inr (by simpa using a),λ_ k a=>by cases a⟩
theorem cS.one {t:Nat}{r:Nat->Nat}{s b:U.ty t}{X:Nat->Nat->Prop}{w c:World}{Q:Ou U->Prop}{v:Value}{k:Option Kn}{Z:Nat->Prop}(q:Ch (X 0) w c)(e:U.pred t r b Z c)(f:∀k,Z k->X 0 k\/w.heap.size<=k)(g:Q ⟨v,k,[.ob t b],[],[]⟩)(a:KnO [.ob t r b] v k):cS [.ob t r s] [0] X w Q (.returned v) c:=by
 have h:bH [Res.ob t r s] [0] [.ob t b]=some [.ob t r b]:=by simp[bH,dI,nth,bK]
 refine⟨_,_,λi=>if i=0 then Z else X i,jH a,g,h,⟨λi r' d=>?_,λi j hi l p=>?_⟩,q.mono λk a=>⟨0,by simp,a⟩,λi hi hm=>?_,λi hi k a=>?_,λi m o=>by simp at m o;omega,.inr a,λ_ k a=>by cases a⟩
 ·cases i with
  |zero=>simp only[List.append_nil,nth,Option.some.injEq]at d;subst d;exact e
  |succ i=>simp[nth]at d
 ·simp at hi l;omega
 ·simp at hi hm;omega
 ·simp at hi;subst hi;exact f k a
theorem cS.new {t:Nat}{r:Nat->Nat}{b:U.ty t}{X:Nat->Nat->Prop}{w c:World}{Q:Ou U->Prop}{v:Value}{k:Option Kn}{Z:Nat->Prop}(q:Pu w c)(f:U.pred t r b Z c)(g:∀k,Z k->w.heap.size<=k)(h:Q ⟨v,k,[],[.ob t r b],[]⟩)(a:KnO [.ob t r b] v k):cS [] [] X w Q (.returned v) c:=by
 refine⟨_,[],λi=>if i=0 then Z else X i,jH a,h,rfl,⟨λi r' d=>?_,λi j hi l m=>?_⟩,q.mono λk a=>a.elim,λi hi hm=>?_,λi hi=>(by cases hi),λi o e k a=>?_,.inr a,λ_ k a=>by cases a⟩
 ·cases i with
  |zero=>simp only[List.nil_append,nth,Option.some.injEq]at d;subst d;exact f
  |succ i=>simp[nth]at d
 ·simp at hi l;omega
 ·simp at hi
 ·simp at e;subst e;exact g k a
theorem fy {l m:List Value}(h:l=m):Value.tuple (List.toArray l)=Value.tuple (List.toArray m):=h▸rfl
theorem J9 {l m:List Value}(h:l=m):Value.agg (List.toArray l)=Value.agg (List.toArray m):=h▸rfl
abbrev kn2:Option Kn:=some (.t [none,none])
abbrev kn4:Option Kn:=some (.t [none,none,none,none])
theorem dJ {U:Uni}{P:Program}{f:Nat}{fn:Func}{c:Ctr U}(a:P.funcs[f]? =some fn)(hm:P.follows .mixedOrders=true)(tb:List (Nat×Ctr U))(b:xB U P tb)(N:List Nat)(d:An)(e:List Nat){F:Prop}(h:F)(g:(iF (λp=>bO P p.1) tb && iF (λi=>Nat.blt i c.res.length) c.bB)=true:=by kernel_rfl)(he:Vc2 U P (dU tb) N fn d e c=F:=by kernel_rfl):LV U P f c:=verify a hm b g (he.mpr h)
theorem ak {a b:Prop}(h:a)(k:a->b):a/\b:=⟨h,k h⟩
theorem KnO.tup {U:Uni}{rs:List (Res U)}{vs:Array Value}:∀(l:List (Option PK)),(∀o∈l,o=none)->KnO rs (.tuple vs) (some (.t l)):=λl h=>⟨vs,rfl,λj k a=>by have:=h _ (gQ a);cases this⟩
theorem allEq {α:Sort _}{a:α}{F:α->Prop}(h:F a):∀x,x=a->F x:=λ_ e=>e▸h
theorem aB {α:Type}{a b:α}{l m:List α}(h:a=b)(k:l=m):a::l=b::m:=by rw[h,k]
theorem bF {α:Type}{F:(α->Prop)->Prop}{G:α->Prop}(e:α)(a:F (λx=>x=e))(b:G e):∃J:α->Prop,F J/\∀(_:Nat->Value)(x:α),J x->G x:=⟨_,a,λ_ _ h=>h▸b⟩
theorem qY {α:Type}{F:(α->Prop)->Prop}{G:α->Prop}(h:F G):∃J:α->Prop,F J/\∀(_:Nat->Value)(x:α),J x->G x:=⟨_,h,λ_ _ h=>h⟩
theorem aW {U:Uni}{Q:Ou U->Prop}{a b:Bool}{k:Option Kn}{u:List (Upd U)}{n:List (Res U)}{kc:List (Key×Kn)}(h:Q ⟨.bool a,k,u,n,kc⟩)(c:a=b):Q ⟨.bool b,k,u,n,kc⟩:=c▸h
theorem fm {U:Uni}{Q:Ou U->Prop}{i:IntKind}{a b:Int}{k:Option Kn}{u:List (Upd U)}{n:List (Res U)}{kc:List (Key×Kn)}(h:Q ⟨.int i a,k,u,n,kc⟩)(c:a=b):Q ⟨.int i b,k,u,n,kc⟩:=c▸h
theorem bj {U:Uni}{Q:Ou U->Prop}{a b:Value}{k:Option Kn}{u c:List (Upd U)}{n n':List (Res U)}{kc:List (Key×Kn)}(h:Q ⟨a,k,u,n,kc⟩)(d:a=b)(e:u=c)(f:n=n'):Q ⟨b,k,c,n',kc⟩:=by rw[<-d,<-e,<-f];exact h
end
theorem cx {a b:Int}(h:a=b):Value.int .i64 a=Value.int .i64 b:=congrArg _ h
theorem gO {a b:Int}(h:a=b):Value.int .u32 a=Value.int .u32 b:=congrArg _ h
end Go.Proofs.YtoghdgcmhbanbaaGreatDoor.V
end
section
namespace Go.Proofs.YtoghdgcmhbanbaaGreatDoor
open Go Go.RowKit V
open Go.IntKind (i64 u32 u64 wrap_i64 wrap_u32)
open Enc (enc)
def UEl:Nat->Type
 |0=>I64
 |1=>U32
 |2=>U8
 |3=>Bl
 |4=>Ent
 |6=>Fl
 |_=>I64
@[reducible] def UEn:(t:Nat)->Enc (UEl t)
 |0=>inferInstanceAs (Enc I64)
 |1=>inferInstanceAs (Enc U32)
 |2=>inferInstanceAs (Enc U8)
 |3=>inferInstanceAs (Enc Bl)
 |4=>inferInstanceAs (Enc Ent)
 |5=>inferInstanceAs (Enc I64)
 |6=>inferInstanceAs (Enc Fl)
 |7=>inferInstanceAs (Enc I64)
 |_+8=>inferInstanceAs (Enc I64)
def UDf:(t:Nat)->UEl t
 |0=>I64.mk 0
 |1=>uM 0
 |2=>U8.mk 0
 |3=>Bl.mk false
 |4=>Ent.free
 |5=>I64.mk 0
 |6=>Fl.zero
 |7=>I64.mk 0
 |_+8=>I64.mk 0
def Iy:(t:Nat)->List Value->Option (UEl t)
 |0,[.int .i64 x]=>some (I64.mk x)
 |1,[.int .u32 x]=>some (uM x)
 |2,[.int .u8 x]=>some (U8.mk x)
 |3,[.bool x]=>some (Bl.mk x)
 |4,[.int .i64 a,.int .i64 b,.int .i64 c,.int .i64 d,.bool e]=>some (Ent.mk a b c d e)
 |_,_=>none
theorem gD {t:Nat}{cs:List Value}{x:UEl t}(h:Iy t cs=some x):(UEn t).enc x=cs:=by
 unfold Iy at h;split at h<;>first|(injection h with h;subst h;rfl)|cases h
def M6:(t:Nat)->List Value->Option (UEl t)
 |6,cs=>wG cs
 |t,cs=>Iy t cs
theorem Km:∀ {t:Nat}{cs:List Value}{x:UEl t},M6 t cs=some x->(UEn t).enc x=cs
 |6,_,_,h=>(lW h).1.symm
 |0,_,_,h=>gD (t:=0) h
 |1,_,_,h=>gD (t:=1) h
 |2,_,_,h=>gD (t:=2) h
 |3,_,_,h=>gD (t:=3) h
 |4,_,_,h=>gD (t:=4) h
 |5,_,_,h=>gD (t:=5) h
 |7,_,_,h=>gD (t:=7) h
 |t+8,_,_,h=>gD (t:=t+8) h
def UE:Els:=⟨UEl,UEn,UDf,M6,Km⟩
def Nv:Kind UE where
 ty:=Mem
 pred:=λr s X w=>∃L:fP,r 0=L.g/\(∀k,L.X k↔X k)/\cH w L s
 ch:=fun⟨L,d,a,b⟩ q e=>⟨L,d,a,b.ch q λk c=>e k ((a k).1 c)⟩
 lt:=fun⟨_,_,a,b⟩ k c=>b.lt k ((a k).2 c)
 iv:=true
 inv:=Mem.Wf
 iB:=fun⟨_,_,_,h⟩=>⟨h.u32,h.dD⟩
def kPd:Kind UE where
 ty:=Pd
 pred:=λr s X w=>∃a,(∀k,(k=r 0\/k=a)↔X k)/\PdP w (r 0) a (r 1) s
 ch:=fun⟨a,d,g⟩ q m=>⟨a,d,g.ch q (m _ ((d _).1 (.inl rfl))) (m _ ((d _).1 (.inr rfl)))⟩
 lt:=fun⟨a,d,g⟩ k j=>by rcases(d k).2 j with rfl|rfl;exact g.lt.1;exact g.lt.2
 iv:=true
 inv:=Pd.Ok
 iB:=fun⟨_,_,h⟩=>h.ok
 fo:=λ_ s path off=>match path,off with
  |0,0=>some (.o 1 0)
  |0,1=>some (.v (J s.aR))
  |_,_=>none
 tI:=by
  rintro r s X w path off f v ⟨a,e,l⟩ b i
  have h:=Mw l
  split at b
  ·injection b with b;subst b;simp only[fvV]at i
   exact⟨(e _).1 (.inl rfl),by rw[<-i];exact h.1⟩
  ·injection b with b;subst b;simp only[fvV]at i
   exact⟨(e _).1 (.inl rfl),by rw[<-i];exact h.2⟩
  ·cases b
 fs:=λ_ s path off v=>match path,off,v with
  |0,1,.int .i64 x=>some (0<=x/\x<=64,s.kz x)
  |_,_,_=>none
 tF:=by
  rintro r s y X w path off v c ⟨a,e,l⟩ b o K p
  split at b
  ·simp only[Option.some.injEq,Prod.mk.injEq]at b
   obtain⟨rfl,rfl⟩:=b
   exact l.Gw o λt u q=>p t ⟨a,e,u⟩ (q.mono λk j=>(e k).1 (.inl j))
  ·cases b
def MF:Kind UE where
 ty:=Mem
 pred:=λr s X w=>∃L:eU,(∀k,L.X k↔X k)/\bV w (r 0) L s
 ch:=fun⟨L,a,b⟩ q d=>⟨L,a,b.ch q λk c=>d k ((a k).1 c)⟩
 lt:=fun⟨_,a,b⟩ k c=>b.lt k ((a k).2 c)
 iv:=true
 inv:=Mem.Wf
 iB:=fun⟨_,_,h⟩=>⟨h.u32,h.dD⟩
def Nu:Kind UE where
 ty:=Pd
 pred:=λr s X w=>(∀k,(k=r 0\/k=r 2)↔X k)/\nu w (r 0) (r 1) (r 2) (r 3) s
 ch:=fun⟨g,m⟩ q A=>⟨g,m.ch q (A _ ((g _).1 (.inl rfl))) (A _ ((g _).1 (.inr rfl)))⟩
 lt:=fun⟨g,m⟩ k l=>by rcases(g k).2 l with rfl|rfl;exact m.lt.1;exact m.lt.2
 li:=λr s i=>match i with
  |0=>some ⟨4,some ⟨r 2,0,none⟩,r 3,s.ax⟩
  |_=>none
 qt:=by
  rintro r s X w i L h b
  split at b
  ·injection b with b;subst b;exact K6 h.1 h.2
  ·cases b
 st:=λ_ s j i tt=>match j,tt with
  |0,4=>λx=>some ((Ent.ok x=true/\Ent.owner x<((s.n:Nat):Int)),s.set i x)
  |_,_=>λ_=>none
 pZ:=by
  rintro r s C X w j i L x y off vs c h b D E F B o K p
  split at b
  ·injection b with b
   subst b
   simp only[Option.some.injEq,Prod.mk.injEq]at B
   obtain⟨rfl,rfl⟩:=B
   exact h.2.Mk D E F o λt u q=>p t ⟨h.1,u⟩ (q.mono λk l=>(h.1 k).1 (.inr l))
  ·cases b
 iv:=true
 inv:=Pd.Ok
 iB:=fun⟨_,h⟩=>h.ok
 fo:=λ_ s path off=>match path,off with
  |0,0=>some (.o 1 0)
  |0,1=>some (.l 0)
  |0,2=>some (.v (J s.aR))
  |_,_=>none
 tI:=by
  rintro r s X w path off f v ⟨d,z⟩ a e
  have h:=K7 z
  split at a
  ·injection a with a;subst a;simp only[fvV]at e
   exact⟨(d _).1 (.inl rfl),by rw[<-e];exact h.1⟩
  ·injection a with a;subst a;simp only[fvV]at e
   exact⟨(d _).1 (.inl rfl),by rw[<-e];exact h.2.1⟩
  ·injection a with a;subst a;simp only[fvV]at e
   exact⟨(d _).1 (.inl rfl),by rw[<-e];exact h.2.2⟩
  ·cases a
 fs:=λ_ s path off v=>match path,off,v with
  |0,2,.int .i64 x=>some (0<=x/\x<=64,s.kz x)
  |_,_,_=>none
 tF:=by
  rintro r s C X w path off v c ⟨d,z⟩ a o K p
  split at a
  ·simp only[Option.some.injEq,Prod.mk.injEq]at a
   obtain⟨rfl,rfl⟩:=a
   exact z.Gw o λt u q=>p t ⟨d,u⟩ (q.mono λk l=>(d k).1 (.inl l))
  ·cases a
def Nw:Kind UE where
 ty:=Dg
 pred:=λr s X w=>∃L:DgL,(∀k,L.X (r 0) k↔X k)/\jL w (r 0) L s
 ch:=fun⟨L,a,b⟩ q d=>⟨L,a,b.ch q λk c=>d k ((a k).1 c)⟩
 lt:=fun⟨_,a,b⟩ k c=>b.lt k ((a k).2 c)
def ME(b:Nat):Kind UE where
 ty:=List Int
 pred:=λ_ s X w=>(∀k,k=b↔X k)/\cR w b s
 ch:=fun⟨a,c⟩ q e=>⟨a,c.ch q λk d=>e k ((a k).1 d)⟩
 lt:=fun⟨a,c⟩ k d=>c.lt k ((a k).2 d)
theorem I6 {w:World}{g o n:Nat}{s:List U32}{X:Nat->Prop}(c:∀k,k=g↔X k)(h:BF w g s)(l:o+n<=s.length):X g/\∀j u,(aM (λj=>Value.int .u32 (s.getD (o+j) (uM 0)).v) (upN 0 n))[j]? =some u->w.cell? ⟨g,o+j,none⟩=some u:=by
 obtain⟨T,d⟩:=h;refine⟨(c _).1 rfl,λj u a=>?_⟩;rw[<-aO,bq]at a;cases b:nth (upN 0 n) j with
 |none=>rw[b]at a;cases a
 | some i=>
  rw[b]at a;have e:i=j:=by have:=nM b;omega
  have f:=aZ b;rw[jQ]at f;subst e;injection a with a
  rw[<-a];refine d.cell ?_;rw[fE (by simp;omega),List.getD_eq_getElem?_getD,List.getElem?_map];dsimp only;rw[List.getD_eq_getElem?_getD];cases s[o+i]? <;>rfl
def kU:Kind UE where
 ty:=List U32
 pred:=λr s X w=>(∀k,k=r 0↔X k)/\BF w (r 0) s
 ch:=fun⟨d,T,f⟩ q m=>⟨d,T,q.blk f (m _ ((d _).1 rfl))⟩
 lt:=fun⟨d,T,f⟩ k p=>by rw[(d k).2 p];exact f.lt
 li:=λr s i=>match i with
  |0=>some ⟨1,some ⟨r 0,0,none⟩,s.length,s⟩
  |_=>none
 qt:=by
  rintro r s X w i L h a
  split at a
  ·injection a with a;subst a;exact I8 h.1 h.2
  ·cases a
 st:=λ_ s j i tt=>match j,tt with
  |0,1=>λx=>some (True,s.set i x)
  |_,_=>λ_=>none
 pZ:=by
  rintro r s t X w j i L x y off vs c h a u v z b e K g
  split at a
  ·injection a with a
   subst a
   simp only[Option.some.injEq,Prod.mk.injEq]at b
   obtain⟨rfl,rfl⟩:=b
   exact I7 h.1 h.2 u v z g
  ·cases a
 ix:=λpath off=>match path,off with
  |0,0=>some 0
  |_,_=>none
 qv:=by
  rintro r s path off i L h a
  split at h
  ·injection h with h;subst h
   injection a with a;subst a;rfl
  ·cases h
 wl:=λ_ s path off n=>match path,off with
  |0,o=>some (o+n<=s.length,aM (λj=>.int .u32 (s.getD (o+j) (uM 0)).v) (upN 0 n))
  |_,_=>none
 sq:=by
  rintro r s X w path off n c cs h hw e
  split at hw
  ·simp only[Option.some.injEq,Prod.mk.injEq]at hw
   obtain⟨rfl,rfl⟩:=hw
   exact I6 h.1 h.2 e
  ·cases hw
 ws:=λ_ s path off vs=>match path,off with
  | 0,0=>(match CI vs with
   |some l=>some (s.length=l.length,l)
   |none=>none)
  |_,_=>none
 pV:=by
  rintro r s t X w path off vs c h b e K g
  split at b
  ·split at b
   ·rename_i l a
    simp only[Option.some.injEq,Prod.mk.injEq]at b
    obtain⟨rfl,rfl⟩:=b
    exact I5 h.1 h.2 a e g
   ·cases b
  ·cases b
def kFl:Kind UE where
 ty:=Fl
 pred:=λr s X w=>(∀k,k=r 0↔X k)/\FlP w (r 0) s
 ch:=fun⟨g,t,T,G⟩ q m=>⟨g,t,T,q.blk G (m _ ((g _).1 rfl))⟩
 lt:=fun⟨g,_,T,t⟩ k o=>by rw[(g k).2 o];exact t.lt
 li:=λr s i=>match i with
  |0=>some ⟨1,some ⟨r 0,0,none⟩,s.rs.length,s.rs⟩
  |_=>none
 qt:=by
  rintro r s X w i L h a
  split at a
  ·injection a with a;subst a;exact h.2.li h.1
  ·cases a
 fs:=λ_ s path off v=>match path,off,v with
  |0,15,.int .u32 x=>some (True,{s with pc:=x})
  |0,16,.bool x=>some (True,{s with z:=x})
  |0,17,.bool x=>some (True,{s with n:=x})
  |0,18,.bool x=>some (True,{s with l:=x})
  |_,_,_=>none
 tF:=by
  rintro r s E X w path off v c h b A K p
  split at b
  all_goals first
   |cases b;done
   | (simp only[Option.some.injEq,Prod.mk.injEq]at b
      obtain⟨rfl,rfl⟩:=b
      exact FlP.st h.2 (by omega) (by exact h.2.len) (by rfl) λB C q=>p B ⟨h.1,C⟩ (q.mono λk o=>(h.1 k).1 o))
 st:=λ_ s j i tt=>match j,tt with
  |0,1=>λx=>some (True,s.uX i x)
  |_,_=>λ_=>none
 pZ:=by
  rintro r s E X w j i L x y off vs c h a H I J d A K p
  split at a
  ·injection a with a
   subst a
   simp only[Option.some.injEq,Prod.mk.injEq]at d
   obtain⟨rfl,rfl⟩:=d
   exact h.2.stR h.1 H I J p
  ·cases a
 iv:=true
 inv:=Fl.Ok
 iB:=λh=>h.2.len
 fo:=λ_ s path off=>match path,off with
  |0,15=>some (.v (O s.pc))
  |0,16=>some (.v (vB s.z))
  |0,17=>some (.v (vB s.n))
  |0,18=>some (.v (vB s.l))
  |_,_=>none
 tI:=by
  rintro r s X w path off f v ⟨D,a,T,m⟩ b F
  split at b
  all_goals first
   |cases b;done
   | (injection b with b
      subst b
      simp only[fvV,Option.some.injEq]at F
      exact⟨(D _).1 rfl,by rw[<-F];exact m.cell rfl⟩)
 ix:=λpath off=>match path,off with
  |0,0=>some 0
  |_,_=>none
 qv:=by
  rintro r s path off i L h a
  split at h
  ·injection h with h;subst h
   injection a with a;subst a;rfl
  ·cases h
 wl:=λ_ s path off n=>match path,off,n with
  |0,0,19=>some (True,s.cells)
  |_,_,_=>none
 sq:=by
  rintro r s X w path off n c cs ⟨D,a,T,m⟩ hw A
  split at hw
  ·simp only[Option.some.injEq,Prod.mk.injEq]at hw
   obtain⟨rfl,rfl⟩:=hw
   exact⟨(D _).1 rfl,λj u M=>by rw[Nat.zero_add];exact m.cell (by simpa using M)⟩
  ·cases hw
 ws:=λ_ _ path off vs=>match path,off with
  | 0,0=>(match wG vs with
   |some l=>some (True,l)
   |none=>none)
  |_,_=>none
 pV:=by
  rintro r s E X w path off vs c h d A K p
  split at d
  ·split at d
   ·rename_i l a
    simp only[Option.some.injEq,Prod.mk.injEq]at d
    obtain⟨rfl,rfl⟩:=d
    obtain⟨e,g⟩:=lW a
    subst e
    exact h.2.all g λB C q=>p B ⟨h.1,C⟩ (q.mono λk o=>(h.1 k).1 o)
   ·cases d
  ·cases d
def UK:Nat->Kind UE
 |0=>Nv
 |1=>kPd
 |2=>MF
 |3=>Nu
 |4=>Nw
 |5=>ME 1
 |6=>ME 2
 |7=>kU
 |10=>kFl
 |_=>Kind.none UE
abbrev gC(t:Nat)(r:Nat->Nat)(s:(UK t).ty)(X:Nat->Prop)(w:World):Prop:=(UK t).pred r s X w
theorem L7 {t:Nat}{r:Nat->Nat}{s:(UK t).ty}{X:Nat->Prop}{w:World}(h:gC t r s X w):(UK t).inv s:=(UK t).iB h
def UMk:TypeId->List Value->Option ((t:Nat)×(UK t).ty)
 | 267,cs=>(match CI cs with
  |some l=>some ⟨7,l⟩
  |none=>none)
 | 224,cs=>(match wG cs with
  |some s=>some ⟨10,s⟩
  |none=>none)
 | 196,cs=>(match wG cs with
  |some s=>some ⟨10,s⟩
  |none=>none)
 |_,_=>none
theorem L0 {T:TypeId}{cs:List Value}{q:(t:Nat)×(UK t).ty}{w:World}{g:Nat}(h:UMk T cs=some q)(a:Blk w g ⟨cs⟩ T):(UK q.1).pred (λ_=>g) q.2 (λk=>k=g) w:=by
 unfold UMk at h;split at h
 ·split at h
  ·rename_i l d;injection h with h
   subst h;have:=tQ d;subst this;exact(⟨λk=>Iff.rfl,_,a.cast (by simp[bD])⟩:(∀k,k=g↔k=g)/\BF w g l)
  ·cases h
 ·split at h
  ·rename_i s b;injection h with h
   subst h;obtain⟨rfl,c⟩:=lW b;exact(⟨λk=>Iff.rfl,c,_,a⟩:(∀k,k=g↔k=g)/\FlP w g s)
  ·cases h
 ·split at h
  ·rename_i s b;injection h with h
   subst h;obtain⟨rfl,c⟩:=lW b;exact(⟨λk=>Iff.rfl,c,_,a⟩:(∀k,k=g↔k=g)/\FlP w g s)
  ·cases h
 ·cases h
def Un:Uni:=Uni.of UE UK (λt=>match t with
 |3=>some 0
 |22=>some 1
 |4=>some 3
 |137=>some 4
 |101=>some 4
 |_=>none) UMk L0
end Go.Proofs.YtoghdgcmhbanbaaGreatDoor
end
section
namespace Go.Proofs.YtoghdgcmhbanbaaGreatDoor
open Go Go.RowKit V
open Go.IntKind (i64 u32 u64 wrap_i64 wrap_u32)
namespace Mem
def fv(m:Mem):Nat->Mem
 |0=>m
 |k+1=>(fv m k).zero true k
theorem KL(m:Mem)(s:Bool)(p:Int):(m.zero s p).S=m.S:=by unfold zero;split<;>rfl
theorem KM(m:Mem)(s:Bool)(p:Int):(m.zero s p).I=m.I:=by unfold zero;split<;>rfl
@[simp] theorem nJ(m:Mem):∀k,(m.fv k).S=m.S
 |0=>rfl
 |k+1=>by rw[fv,KL,nJ m k]
@[simp] theorem IJ(m:Mem):∀k,(m.fv k).I=m.I
 |0=>rfl
 |k+1=>by rw[fv,KM,IJ m k]
theorem B4(m:Mem){p:Int}(h:0<=p/\p<9000000000000000000):m.fv (i64.wrap (p+1)).toNat=(m.fv p.toNat).zero true p:=by
 rw[aa (by omega),show(p+1).toNat=p.toNat+1 by omega,fv,show((p.toNat:Nat):Int)=p by omega]
end Mem
def DB.new(m:Mem):DB:=⟨m.fv m.S,0,λ_=>.free⟩
theorem DB.Ky(m:Mem):(DB.new m).S=m.S:=m.nJ _
theorem DB.xP(m:Mem)(h:1<=m.S):(DB.new m).Ok:=⟨λp a=>⟨Ent.JO,by show(0:Int)<((DB.new m).S:Nat);rw[DB.Ky];omega⟩,by show(0:Int)<=0/\(0:Int)<=64;omega⟩
def DB.ws(D:DB):List Int:=(List.range D.S).flatMap λp=>[(D.ent p).w0,(D.ent p).w1]
theorem nN {α:Type}(f g:Nat->α):∀n,((List.range n).flatMap λp=>[f p,g p]).length=2*n
 |0=>rfl
 |n+1=>by rw[List.range_succ,List.flatMap_append,List.length_append,nN f g n];simp;omega
theorem DE {α:Type}(f g:Nat->α):∀n i,i<2*n->((List.range n).flatMap λp=>[f p,g p])[i]? =some (if i % 2=0 then f (i / 2)else g (i / 2))
 |0,i,h=>by omega
 | n+1,i,h=>by
  rw[List.range_succ,List.flatMap_append];by_cases hi:i<2*n
  ·rw[List.getElem?_append_left (by rw[nN];exact hi),DE f g n i hi]
  ·rw[List.getElem?_append_right (by rw[nN];omega),nN];by_cases c:i=2*n
   ·subst c;have a:2*n % 2=0:=by omega
    have b:2*n / 2=n:=by omega
    simp[a,b]
   ·have:i=2*n+1:=by omega
    subst this;have a:(2*n+1) % 2=1:=by omega
    have b:(2*n+1) / 2=n:=by omega
    simp[a,b]
theorem DB.sm(D:DB):D.ws.length=2*D.S:=nN _ _ _
theorem DB.words_eq(D:DB):D.words=D.aR::D.ws:=rfl
theorem DBP.ints {w:World}{L:gE}{D:DB}(h:DBP w L D):aD w (λk=>k=L.a) .u32 (some (Addr.mk L.a 0 none)) D.n2 D.n2 D.ws:=by
 obtain⟨T,cs,d,i,e⟩:=h.ws;refine aD.blk (Z:=λk=>k=L.a) (m:=0) d rfl (Nat.le_refl _) (D.sm) λj x b=>?_;have f:j<2*D.S:=by rw[<-D.sm];exact(List.getElem?_eq_some_iff.1 b).1
 have g:=DE (λp=>(D.ent p).w0) (λp=>(D.ent p).w1) D.S j f;have a:D.ws[j]? =_:=g;rw[b]at a;injection a with a
 have c:=e (j / 2) (by omega);rw[Nat.zero_add,a];split
 ·have:=c.1
  rwa[show 2*(j / 2)=j by omega]at this
 ·have:=c.2
  rwa[show 2*(j / 2)+1=j by omega]at this
theorem DB.lay {D:DB}{n:Nat}(a:n=1+2*D.S):oT ((List.replicate n 0).set 0 D.aR) 1 (D.ws.take (min (2*D.S) (n - 1)))=D.words:=by
 subst a;rw[List.take_of_length_le (by rw[D.sm];omega),show 1+2*D.S=(2*D.S)+1 by omega,List.replicate_succ,List.set_cons_zero];have:=zr [D.aR] D.ws [] (List.replicate (2*D.S) 0) (by rw[D.sm];simp);simpa[D.words_eq]using this
theorem DB.lK(D:DB):D.words.length=1+2*D.S:=by rw[D.words_eq,List.length_cons,D.sm];omega
theorem DB.B7 {D:DB}{l:List U32}{p:Int}(d:l=(D.aR::(List.range p.toNat).flatMap λp=>[(D.ent p).w0,(D.ent p).w1]).map uM)(h:0<=p/\p<64)(c:(D.at_ p).ok=true){a b:Int}(e:a=if(D.at_ p).ok then(D.at_ p).w0 else 0)(f:b=if(D.at_ p).ok then(D.at_ p).w1 else 0):
 l++List.map uM [a,b]=(D.aR::(List.range (i64.wrap (p+1)).toNat).flatMap λp=>[(D.ent p).w0,(D.ent p).w1]).map uM:=by
 rw[aa (by omega),show(p+1).toNat=p.toNat+1 by omega,List.range_succ,List.flatMap_append,<-List.cons_append,List.map_append,<-d,e,f,if_pos c,if_pos c];simp[DB.at_]
def DB.eO(D:DB)(s:Int)(n:Nat):List I64:=((List.range n).filter (D.fH s)).map fun(p:Nat)=>I64.mk (p:Int)
theorem DB.kW(D:DB)(s:Int){p:Int}(h:0<=p/\p<64):D.eO s (i64.wrap (p+1)).toNat=if D.fH s p.toNat then D.eO s p.toNat++ [I64.mk p]else D.eO s p.toNat:=by
 unfold DB.eO;rw[aa (by omega),show(p+1).toNat=p.toNat+1 by omega,List.range_succ,List.filter_append,List.map_append];cases hq:D.fH s p.toNat
 ·simp[List.filter,hq]
 ·simp[List.filter,hq,show((p.toNat:Nat):Int)=p by omega]
theorem DB.tj(D:DB)(s:Int)(n:Nat):(D.eO s n).length<=n:=by
 unfold DB.eO;rw[List.length_map];exact Nat.le_trans (List.length_filter_le _ _) (by simp)
def DB.wd(l:List U32)(i:Nat):Int:=(l.getD i ⟨0⟩).v
def DB.load(m:Mem)(l:List U32):DB:=⟨m,DB.wd l 0,λp=>Ent.dec (DB.wd l (1+2*p)) (DB.wd l (2+2*p))⟩
def DB.fq(m:Mem)(l:List U32)(p:Nat):Bool:=Ent.cF (DB.wd l (1+2*p)) (DB.wd l (2+2*p))==0 && decide ((Ent.dec (DB.wd l (1+2*p)) (DB.wd l (2+2*p))).owner<m.S)
def DB.aF(m:Mem)(l:List U32):Int:=
 if l.length≠1+2*m.S then 110 else if DB.wd l 0>64 then 110 else if(List.range m.S).all (DB.fq m l)then 0 else 110
theorem DB.xV {m:Mem}{l:List U32}(hw:∀x∈l,0<=x.v/\x.v<4294967296)(h:DB.aF m l=0):(DB.load m l).Ok:=by
 unfold DB.aF at h;split at h
 ·omega
 rename_i f;split at h
 ·omega
 rename_i b;split at h
 ·rename_i c;refine⟨λp d=>?_,?_⟩
  ·have hq:=List.all_eq_true.1 c p (List.mem_range.2 d);simp only[DB.fq,Bool.and_eq_true,beq_iff_eq,decide_eq_true_eq]at hq;exact⟨(Ent.fW hq.1).1,hq.2⟩
  ·have a:0<l.length:=by omega
   have:=hw _ (List.getElem_mem a);have e:DB.wd l 0=l[0].v:=by unfold DB.wd;rw[List.getD_eq_getElem?_getD,List.getElem?_eq_getElem a];rfl
   show 0<=DB.wd l 0/\DB.wd l 0<=64;rw[e]at b ⊢;omega
 ·omega
theorem DJ {n:Nat}{v:Value}{i:Nat}(h:i<n):(Array.replicate n v)[i]? =some v:=by simp[h]
end Go.Proofs.YtoghdgcmhbanbaaGreatDoor
end
section
set_option maxRecDepth 100000
set_option maxHeartbeats 1000000
namespace Go.Proofs.YtoghdgcmhbanbaaGreatDoor
open Go Go.RowKit V
open Go.IntKind (i64 u32 u64 wrap_i64 wrap_u32)
open Go.Proofs (Tryz.prog)
attribute [local irreducible] Vc2 VcD
attribute [local grind=] Pd.cO Pd.dj Pd.kZ Pd.k8 Pd.qn Pd.kY Pd.kX Pd.iP Pd.qe DB.iT
attribute [local grind .] Pd.Ok.ent
attribute [local grind→] Pd.Ok.dD
def own(D:DB)(s:Int):List I64:=if D.iT s then D.eO s D.S else []
def nE:Ctr Un:=⟨[.one (.obj 0 0),.one (.int .i64)],[],[.ob 3 [(1,1,0)],.ob 2 []],[],λs r E rm m K=>E.n=m.S/\∀(A:oA)(c:Nat),K ⟨(.slice A ((own (E.on m) s).length) c),(some (.p (.sl 2 0))),[],[(.lst 0 true 3 A c (own (E.on m) s))],[]⟩⟩
section
attribute [local grind=] own
theorem Df:LV Un Tryz.prog 94 nE:=dJ Tryz.func94 aj [] trivial [5,6] (.r' (.r' (.node [(.s 5,0,3)] none [] [] (.two (.node [] (some ⟨[(28,(.one .bool))],[],upN 7 22,[]⟩) [] [] .leaf .leaf) .leaf) (.two (.r' (.two (.node [] (some ⟨[(6,(.one (.int .i64)))],[(5,(.p (.sl 2 0)))],[5,6]++upN 30 39,[(2,(.lst 0))]⟩) [] [] (.r' (.two (.two (.two (.node [] (some ⟨[(64,(.one .bool))],[],upN 39 26,[]⟩) [] [] .leaf .leaf) .leaf) .leaf) .leaf)) .leaf) .leaf)) .leaf)))) [2] (F:=∀s r (E:Pd) rm (m:Mem) Q,nE.body s r E rm m Q->Pd.Ok E->Mem.Wf m->∃J:Bool->Prop,(split (decide (s<0)) (J true) (split (decide (s>=((Pd.ax E).length:Int))) (J true) ((0<=s/\s<((Pd.ax E).length:Int))/\J ((eG E s).typ !=1))))/\∀(_gv:Nat->Value)(o:Bool),J o->split o (Q ⟨(.slice none 0 0),(some (.p (.sl 2 0))),[],[(.lst 0 true 3 none 0 ([]:List I64))],[]⟩) (∀p:Int,p=0->∃I:Nat->Int->Option Addr->Nat->List I64->Prop,(∃d,I d p none 0 ([]:List I64))/\∀(d:Nat)(_gv1:Nat->Value)(a:Int)(e:oA)(b:Nat)(l2:List I64),I d a e b l2->split (decide (a<((Pd.ax E).length:Int))) (∃i:Bool->Prop,(split (a !=s) ((0<=a/\a<((Pd.ax E).length:Int))/\split ((eG E a).typ !=0) ((0<=a/\a<((Pd.ax E).length:Int))/\i ((eG E a).owner==s)) (i false)) (i false))/\∀(_gv2:Nat->Value)(q:Bool),i q->split q (∀(u:Nat),∀(l:List I64),l=([I64.mk a]:List I64)->((l2.length+l.length)*8<=140737488355328)/\∀(A:oA)(c:Nat),∀(j:List I64),j=(l2++l)->∀f:Int,f=(i64.wrap (a+1))->∃g,g<d/\I g f A c j) (∀f:Int,f=(i64.wrap (a+1))->∃g,g<d/\I g f e b l2)) (Q ⟨(.slice e l2.length b),(some (.p (.sl 2 0))),[],[(.lst 0 true 3 e b l2)],[]⟩))) λs r E rm m Q h=>by
 obtain⟨v,h⟩:=h;exact λf1 f2=>bF ((decide ((s:Int)<0)) || ((decide ((s:Int)>=(((Pd.ax E).length:Nat):Int))) || (((eG E s).typ:Int) !=1))) (ab (λy=>(by grind)) λy=>ab (λb=>(by grind)) λb=>ak (by grind) λH=>(by grind))<| bm (λz=>bj (h none 0) (by grind) rfl (aB (congrArg (Res.lst (U:=Un) 0 true 3 _ _) (by grind)) rfl)) λz=>allEq<| ⟨λd a e b l2=>(d=((E.n:Int) - a).toNat)/\(0<=a/\a<=(E.n:Int))/\(l2=(E.on m).eO s a.toNat),⟨_,rfl,(by omega),(by rfl)⟩,λd _ a e b l2 ⟨hm,hi,t⟩=>af (λB=>bF (((a:Int) !=s) && ((((eG E a).typ:Int) !=0) && (((eG E a).owner:Int)==s))) (ab (λC=>ak (by omega) λK=>ab (λD=>ak ‹_› λL=>(by grind)) λD=>(by grind)) λC=>(by grind))<| cJ (λG=>λu=>λl M=>ak (by have O:=DB.tj (E.on m) s a.toNat;grind) λR=>λA c=>λj S=>allEq<| ⟨_,(by(have k:=aa (x:=a+1) (by grind));grind),rfl,(by(have k:=aa (x:=a+1) (by grind));grind),(by rw[DB.kW _ _ (by grind)];(rw[if_pos (by(grind[DB.fH,Pd.on]))];grind))⟩) λG=>allEq<| ⟨_,(by(have k:=aa (x:=a+1) (by grind));grind),rfl,(by(have k:=aa (x:=a+1) (by grind));grind),(by rw[DB.kW _ _ (by grind)];(rw[if_neg (by(grind[DB.fH,Pd.on]))];exact t))⟩) λB=>(by(have T:own (E.on m) s=l2:=by rw[t,own,if_pos (by grind),show a.toNat=(E.on m).S from by rw[Pd.jn _ _ v];grind]);exact bj (h e b) (by grind) rfl (aB (congrArg (Res.lst (U:=Un) 0 true 3 _ _) ‹_›) rfl))⟩
end
end Go.Proofs.YtoghdgcmhbanbaaGreatDoor
end
section
namespace Go.Proofs.YtoghdgcmhbanbaaGreatDoor
open Go Go.RowKit V
open Go.IntKind (i64 u32 u64 wrap_i64 wrap_u32)
namespace Ent
theorem or0 {e:Ent}(h:e.ok=true):u32.wrap (BitVec.ofInt u32.bits (u32.wrap (BitVec.ofInt u32.bits (u32.wrap ((u32.wrap e.typ:Int)*2 ^ 0)) ||| BitVec.ofInt u32.bits (u32.wrap ((u32.wrap e.state:Int)*2 ^ 4))).toNat) ||| BitVec.ofInt u32.bits (u32.wrap ((u32.wrap e.owner:Int)*2 ^ 16))).toNat=e.typ+16*e.state+65536*e.owner:=by
 have a:=iu h;have b:=ir h;rw[bT (x:=e.typ) (by omega),bT (x:=e.state) (by omega),bT (x:=e.owner) (by omega),bT (x:=e.typ*2 ^ 0) (by omega),bT (x:=e.state*2 ^ 4) (by omega),bT (x:=e.owner*2 ^ 16) (by omega),tk (x:=e.typ*2 ^ 0) (by omega) (by omega),oc,
  show e.state*2 ^ 4=2 ^ 4*e.state by omega,fJ 4 (by omega) (by omega) (by omega),tk (by omega) (by omega),oc,show e.owner*2 ^ 16=2 ^ 16*e.owner by omega,fJ 16 (by omega) (by omega) (by omega)]
 omega
theorem or1 {x:Int}(h:∃a b:Int,x=a+512*b/\0<=a/\a<256/\0<=b/\b<8388608):u32.wrap (BitVec.ofInt u32.bits x ||| BitVec.ofInt u32.bits 256).toNat=x+256:=by
 obtain⟨a,b,rfl,c,f,d,j⟩:=h;have g:nor (2 ^ 8*1) a=2 ^ 8*1+a:=fJ 8 (by omega) c f;have e:nor (2 ^ 9*b) a=2 ^ 9*b+a:=fJ 9 d c (by omega);have i:nor (2 ^ 9*b) (256+a)=2 ^ 9*b+(256+a):=fJ 9 d (by omega) (by omega);rw[tk (by omega) (by omega)];have assoc:∀x y z:Int,nor (nor x y) z=nor x (nor y z):=by
  intro x y z;unfold nor;simp[Nat.or_assoc]
 rw[show a+512*b=2 ^ 9*b+a by omega,<-e,assoc,oc a 256,show nor 256 a=256+a by simpa using g,i,e];omega
theorem mask(k:Nat){x:Int}(m:Int)(hm:m=2 ^ k - 1)(c:k<=31)(a:0<=x/\x<4294967296):i64.wrap (u32.wrap (BitVec.ofInt u32.bits x &&& BitVec.ofInt u32.bits m).toNat)=x % 2 ^ k:=by
 have d:(2:Int) ^ k<=2 ^ 31:=by exact_mod_cast Nat.pow_le_pow_right (n:=2) (by omega) c
 have b:(0:Int)<2 ^ k:=Int.pow_pos (by omega);have e:=Int.emod_nonneg x (Int.ne_of_gt b);have f:=Int.emod_lt_of_pos x b;subst hm;rw[yu a (by omega),v7 k a.1,aa (by omega)]
theorem Mz(k:Nat){x:Int}(m:Int)(hm:m=2 ^ k - 1)(b:k<=31)(a:0<=x/\x<4294967296):u32.wrap (BitVec.ofInt u32.bits x &&& BitVec.ofInt u32.bits m).toNat=x % 2 ^ k:=by
 have c:(2:Int) ^ k<=2 ^ 31:=by exact_mod_cast Nat.pow_le_pow_right (n:=2) (by omega) b
 have d:(0:Int)<2 ^ k:=Int.pow_pos (by omega);subst hm;rw[yu a (by omega),v7 k a.1]
theorem lO {x:Int}(n:Nat)(a:0<=x/\x<4294967296):0<=x.fdiv (2 ^ n)/\x.fdiv (2 ^ n)<4294967296:=by
 rw[oq];have b:(0:Int)<2 ^ n:=Int.pow_pos (by omega);refine⟨Int.ediv_nonneg a.1 (by omega),?_⟩;have:=Int.ediv_le_self (2 ^ n) a.1;omega
theorem parts_eq {a b:Int}(c:0<=a/\a<4294967296)(d:0<=b/\b<4294967296):
 i64.wrap (u32.wrap (BitVec.ofInt u32.bits ((a:Int).fdiv (2 ^ 0)) &&& BitVec.ofInt u32.bits 7).toNat)=(parts a b).typ/\
 i64.wrap (u32.wrap (BitVec.ofInt u32.bits ((a:Int).fdiv (2 ^ 16)) &&& BitVec.ofInt u32.bits 63).toNat)=(parts a b).owner/\
 i64.wrap (u32.wrap (BitVec.ofInt u32.bits b &&& BitVec.ofInt u32.bits 63).toNat)=(parts a b).refs/\
 i64.wrap (u32.wrap (BitVec.ofInt u32.bits ((a:Int).fdiv (2 ^ 4)) &&& BitVec.ofInt u32.bits 3).toNat)=(parts a b).state/\
 ((u32.wrap (BitVec.ofInt u32.bits ((a:Int).fdiv (2 ^ 8)) &&& BitVec.ofInt u32.bits 1).toNat:Int)==1)=(parts a b).bw:=by
 refine⟨?_,?_,?_,?_,?_⟩
 ·rw[mask 3 7 (by decide) (by decide) (lO 0 c),oq];simp[parts]
 ·rw[mask 6 63 (by decide) (by decide) (lO 16 c),oq];simp[parts]
 ·rw[mask 6 63 (by decide) (by decide) d];simp[parts]
 ·rw[mask 2 3 (by decide) (by decide) (lO 4 c),oq];simp[parts]
 ·rw[Mz 1 1 (by decide) (by decide) (lO 8 c),oq];simp only[parts];rw[Bool.eq_iff_iff];simp
theorem eqW(a b c d:Int):bk #[.int .u32 a,.int .u32 b] #[.int .u32 c,.int .u32 d]=(decide (a=c) && decide (b=d)):=by
 simp[bk,eqL,jt];rfl
end Ent
end Go.Proofs.YtoghdgcmhbanbaaGreatDoor
end
section
namespace Go.Proofs.YtoghdgcmhbanbaaGreatDoor
open Go Go.RowKit V
open Go.IntKind (i64 u32 u64 wrap_i64 wrap_u32)
def qV(w:Int):Bool:=decide (w % 256=1/\w / 256<64)
def aQ(w:Int):Int:=if qV w then w / 256 else 0
def il(w:Int):Int:=if w=0 then 92 else if qV w then 0 else 90
def di(p:Int):Int:=if 0<=p/\p<64 then 256*p+1 else 0
def cK(p:Int):Int:=if 0<=p/\p<64 then 0 else 4
structure Mp where
 bQ:Bool
 aV:Int
 write:Bool
 exec:Bool
deriving DecidableEq
def Mp.bits(m:Mp):Int:=(if m.bQ then 2 else 0)+(if m.write then 4 else 0)+(if m.exec then 8 else 0)
def Mp.err(m:Mp):Int:=if 0<=m.aV/\m.aV<64 then(if m.exec && !m.bQ then 1 else 0)else 4
def Mp.word(m:Mp):Int:=if m.err=0 then 256*m.aV+1+m.bits else 0
abbrev Mp.nil:Mp:=⟨false,0,false,false⟩
def Mp.Am(w:Int):Mp:=⟨decide (w / 2 % 2=1),w / 256,decide (w / 4 % 2=1),decide (w / 8 % 2=1)⟩
def tf(w:Int):Bool:=decide ((Mp.Am w).err=0/\(Mp.Am w).word=w)
def bI(w:Int):Mp:=if w≠0/\tf w then Mp.Am w else Mp.nil
def fF(w:Int):Int:=if w=0 then 92 else if tf w then 0 else 90
theorem G1 {p:Int}(h:0<=p/\p<64):u32.wrap (BitVec.ofInt u32.bits (u32.wrap ((u32.wrap p:Int)*2 ^ 8)) ||| BitVec.ofInt u32.bits 1).toNat=256*p+1:=by
 rw[bT (x:=p) (by omega),bT (x:=p*2 ^ 8) (by omega),tk (by omega) (by omega),show p*2 ^ 8=2 ^ 8*p by omega,fJ 8 (by omega) (by omega) (by omega)];omega
theorem Cu(k:Nat)(b:Int)(e:b=2 ^ k)(f:k<=3){p a:Int}(h:0<=p/\p<64)(c:0<=a/\a<b):u32.wrap (BitVec.ofInt u32.bits (256*p+a) ||| BitVec.ofInt u32.bits b).toNat=256*p+(a+b):=by
 subst e;have j:(2:Int) ^ k<=2 ^ 3:=by exact_mod_cast Nat.pow_le_pow_right (n:=2) (by omega) f
 have l:(0:Int)<2 ^ k:=Int.pow_pos (by omega);have assoc:∀x y z:Int,nor (nor x y) z=nor x (nor y z):=by
  intro x y z;unfold nor;simp[Nat.or_assoc]
 have d:nor (2 ^ k*1) a=2 ^ k*1+a:=fJ k (by omega) c.1 c.2;have g:nor (2 ^ 8*p) a=2 ^ 8*p+a:=fJ 8 h.1 c.1 (by omega);have i:nor (2 ^ 8*p) (2 ^ k+a)=2 ^ 8*p+(2 ^ k+a):=fJ 8 h.1 (by omega) (by omega);rw[Int.mul_one]at d;rw[tk (by omega) (by omega),show 256*p+a=2 ^ 8*p+a by omega,<-g,assoc,oc a,d,i];omega
theorem gU(k:Nat)(b:Int)(a:b=2 ^ k)(g:k<=30){x:Int}(c:0<=x/\x<4294967296):((u32.wrap (BitVec.ofInt u32.bits x &&& BitVec.ofInt u32.bits b).toNat:Int) !=0)=decide (x / b % 2=1):=by
 subst a;rw[Bool.eq_iff_iff];simp only[bne_iff_ne,ne_eq,decide_eq_true_eq];show(¬u32.wrap (BitVec.ofInt u32.bits x &&& BitVec.ofInt u32.bits (2 ^ k)).toNat=0)↔x / 2 ^ k % 2=1;have m:(2:Int) ^ k<=2 ^ 30:=by exact_mod_cast Nat.pow_le_pow_right (n:=2) (by omega) g
 have o:(0:Int)<2 ^ k:=Int.pow_pos (by omega);rw[yu c (by omega)];unfold Jv;obtain⟨x,rfl⟩:=Int.eq_ofNat_of_zero_le c.1;have e:((2:Int) ^ k).toNat=2 ^ k:=by rw[show(2:Int) ^ k=((2 ^ k:Nat):Int)by push_cast;rfl,Int.toNat_natCast]
 rw[e,Int.toNat_natCast];have h:x &&& 2 ^ k=if x.testBit k then 2 ^ k else 0:=by
  apply Nat.eq_of_testBit_eq;intro j;rw[Nat.testBit_and,Nat.testBit_two_pow];by_cases d:k=j
  ·subst d;cases a:x.testBit k<;>simp
  ·cases a:x.testBit k<;>simp[d,Nat.testBit_two_pow]
 have i:x.testBit k=decide (x / 2 ^ k % 2=1):=Nat.testBit_eq_decide_div_mod_eq;rw[h,i];have l:((x:Int) / 2 ^ k % 2=1)↔(x / 2 ^ k % 2=1):=by
  rw[show(x:Int) / 2 ^ k % 2=((x / 2 ^ k % 2:Nat):Int)by push_cast;rfl];omega
 rw[l];have p:0<2 ^ k:=Nat.two_pow_pos k;by_cases f:x / 2 ^ k % 2=1
 ·simp[f];omega
 ·simp[f]
end Go.Proofs.YtoghdgcmhbanbaaGreatDoor
end
section
namespace Go.Proofs.YtoghdgcmhbanbaaGreatDoor
open Go Go.RowKit V
open Go.IntKind (i64 u32 u64 wrap_i64 wrap_u32)
namespace File
def flags(f:Fl):Int:=if f.z then 1 else(if f.n then 2 else 0)+(if f.l then 4 else 0)
def eP(w:Int):Bool:=decide (w=0\/w=1\/w=2\/w=4\/w=6)
def eZ(w:Int):Int:=if eP w then 0 else 80
def dF(f:Fl)(w:Int):Fl:=if eP w then {f with z:=decide (w=1),n:=decide (w=2\/w=6),l:=decide (w=4\/w=6)}else Fl.zero
def de(l:List U32):Int:=if l.length=17 then eZ (l.getD 16 ⟨0⟩).v else 80
def bare(l:List U32):Fl:=⟨l.take 15,(l.getD 15 ⟨0⟩).v,false,false,false⟩
def unpack(l:List U32):Fl:=if l.length=17 then dF (bare l) (l.getD 16 ⟨0⟩).v else Fl.zero
theorem qx {f:Fl}{w:Int}(h:eP w=false):dF f w=Fl.zero:=by unfold dF;rw[h];rfl
theorem qy {w:Int}(h:eP w=false):eZ w=80:=by unfold eZ;rw[h];rfl
theorem tK {f:Fl}{w:Int}(h:eP w=true):dF f w= {f with z:=decide (w=1),n:=decide (w=2\/w=6),l:=decide (w=4\/w=6)}:=by unfold dF;rw[h];rfl
theorem tL {w:Int}(h:eP w=true):eZ w=0:=by unfold eZ;rw[h];rfl
theorem kF {l:List U32}(h:l.length=17):unpack l=dF (bare l) (l.getD 16 ⟨0⟩).v/\de l=eZ (l.getD 16 ⟨0⟩).v:=⟨if_pos h,if_pos h⟩
theorem jR {l:List U32}(h:¬l.length=17):unpack l=Fl.zero/\de l=80:=⟨if_neg h,if_neg h⟩
theorem tD {l:List U32}(hw:∀x∈l,0<=x.v/\x.v<4294967296)(i:Nat):0<=(l.getD i ⟨0⟩).v/\(l.getD i ⟨0⟩).v<4294967296:=by
 rw[List.getD_eq_getElem?_getD];cases h:l[i]? with
 |none=>simp
 |some x=>exact hw x (List.mem_of_getElem? h)
theorem At {w:Int}(h:0<=w/\w<4294967296):(if decide (w / 1 % 2=1)then(1:Int)else(if decide (w / 2 % 2=1)then 2 else 0)+(if decide (w / 4 % 2=1)then 4 else 0))=w↔eP w=true:=by
 simp only[eP,decide_eq_true_eq];constructor
 ·intro a;split at a<;>(try split at a)<;>(try split at a)<;>omega
 ·intro a;rcases a with rfl|rfl|rfl|rfl|rfl<;>decide
theorem Fo {w:Int}(h:eP w=true):decide (w / 1 % 2=1)=decide (w=1)/\decide (w / 2 % 2=1)=decide (w=2\/w=6)/\decide (w / 4 % 2=1)=decide (w=4\/w=6):=by
 simp only[eP,decide_eq_true_eq]at h;rcases h with rfl|rfl|rfl|rfl|rfl<;>decide
def part(l:List U32)(i:Int):Fl:=⟨l.take i.toNat++List.replicate (15 - i.toNat) (uM 0),0,false,false,false⟩
theorem E5 {l:List U32}(h:l.length=17){i:Int}(hi:0<=i/\i<15):(part l i).uX i.toNat (uM (l.getD i.toNat (uM 0)).v)=part l (i64.wrap (i+1)):=by
 rw[aa (by omega)];unfold part Fl.uX;congr 1;apply List.ext_getElem?;intro j;rw[show(i+1).toNat=i.toNat+1 by omega,List.getElem?_set];have a:(l.take i.toNat).length=i.toNat:=by rw[List.length_take];omega
 have c:(l.take (i.toNat+1)).length=i.toNat+1:=by rw[List.length_take];omega
 by_cases b:i.toNat=j
 ·subst b;rw[if_pos rfl,if_pos (by rw[List.length_append,a,List.length_replicate];omega),List.getElem?_append_left (by omega),List.getElem?_take,if_pos (by omega),List.getD_eq_getElem?_getD,List.getElem?_eq_getElem (l:=l) (i:=i.toNat) (by omega)];rfl
 ·rw[if_neg b];by_cases d:j<i.toNat
  ·rw[List.getElem?_append_left (by omega),List.getElem?_append_left (by omega),List.getElem?_take,List.getElem?_take,if_pos d,if_pos (by omega)]
  ·rw[List.getElem?_append_right (by omega),List.getElem?_append_right (by omega),a,c,List.getElem?_replicate,List.getElem?_replicate];split<;>split<;>first|rfl|omega
theorem GV {l:List U32}{i:Int}(hi:¬i<15)(a:i<=15):part l i=⟨l.take 15,0,false,false,false⟩:=by
 obtain rfl:i=15:=by omega
 unfold part;simp
theorem bare_eq {l:List U32}(h:l.length=17):Fl.mk [uM (vG l 0),uM (vG l 1),uM (vG l 2),uM (vG l 3),uM (vG l 4),uM (vG l 5),uM (vG l 6),uM (vG l 7),uM (vG l 8),uM (vG l 9),uM (vG l 10),uM (vG l 11),uM (vG l 12),uM (vG l 13),uM (vG l 14)] (vG l (Int.toNat 15)) false false false=bare l:=by
 match l,h with
 | [_,_,_,_,_,_,_,_,_,_,_,_,_,_,_,_,_],_=>rfl
theorem nf {l:List U32}(h:l.length=17)(w:Int):(dF (bare l) w).Ok:=by
 unfold dF;split
 ·show(l.take 15).length=15;rw[List.length_take];omega
 ·rfl
end File
end Go.Proofs.YtoghdgcmhbanbaaGreatDoor
end
section
namespace Go.Proofs.YtoghdgcmhbanbaaGreatDoor
open Go Go.RowKit V
open Go.IntKind (i64 u32 u64 wrap_i64 wrap_u32)
def fR(f:Int->Bool)(lo hi:Int):Bool:=(List.range (hi - lo).toNat).all λi=>f (lo+(i:Int))
theorem dm {f:Int->Bool}{lo hi:Int}:fR f lo hi=true↔∀x,lo<=x->x<hi->f x=true:=by
 unfold fR;rw[List.all_eq_true];constructor
 ·intro h x a b;have:=h (x - lo).toNat (List.mem_range.2 (by omega))
  rwa[show lo+(((x - lo).toNat:Nat):Int)=x by omega]at this
 ·intro h i hi;have:=List.mem_range.1 hi;exact h _ (by omega) (by omega)
theorem ez {f:Int->Bool}{lo hi:Int}(h:hi<=lo):fR f lo hi=true:=dm.2 λx a b=>by omega
theorem bS {f:Int->Bool}{lo hi:Int}(h:fR f lo hi=true)(b:f hi=true){a:Int}(e:a=hi+1):fR f lo a=true:=
 dm.2 λx c g=>by
  by_cases d:x=hi
  ·subst d;exact b
  ·exact dm.1 h x c (by omega)
theorem cP {f:Int->Bool}{lo hi x:Int}(a:lo<=x)(b:x<hi)(c:f x=false):fR f lo hi=false:=by
 cases h:fR f lo hi
 ·rfl
 ·have:=dm.1 h x a b;rw[c]at this;exact this.symm
def dH(f:Int->Bool)(n:Int):Int:=(((List.range n.toNat).countP fun(i:Nat)=>f (i:Int):Nat):Int)
theorem wI {f:Int->Bool}:dH f 0=0:=rfl
theorem cz {f:Int->Bool}{n:Int}(h:0<=n):dH f (n+1)=dH f n+(if f n then 1 else 0):=by
 unfold dH;rw[show(n+1).toNat=n.toNat+1 by omega,List.range_succ,List.countP_append,Int.natCast_add];congr 1;rw[List.countP_cons,List.countP_nil,show((n.toNat:Nat):Int)=n by omega];cases f n<;>simp
theorem dV {f:Int->Bool}{n:Int}:0<=dH f n:=by unfold dH;omega
theorem fM {f:Int->Bool}{n:Int}(h:0<=n):dH f n<=n:=by
 unfold dH;have:=List.countP_le_length (p:=λi=>f ((i:Nat):Int)) (l:=List.range n.toNat);rw[List.length_range]at this;omega
theorem CK {f g:Int->Bool}{n:Int}(h:∀x,0<=x->x<n->f x=g x):dH f n=dH g n:=by
 unfold dH;congr 1;apply List.countP_congr;intro i hi;have:=List.mem_range.1 hi;rw[h _ (by omega) (by omega)]
namespace DB
def word(D:DB)(p o:Int):Int:=D.mem.gp true p o
def zero(D:DB)(p lo hi:Int):Bool:=fR (λo=>D.word p o==0) lo hi
def is(D:DB)(p t:Int):Bool:=D.has p && (D.at_ p).typ==t
def of(D:DB)(p t o:Int):Bool:=D.is p t && (D.at_ p).owner==o
def alive(D:DB)(p:Int):Bool:=D.is (D.at_ p).owner 1 && (D.at_ (D.at_ p).owner).state !=3
def some_(D:DB)(p lo:Int)(n:Nat):List U32:=(List.range n).map fun(i:Nat)=>⟨D.word p (lo+(i:Int))⟩
def fx(D:DB)(p:Int):Bool:=
 decide (D.word p 1<D.aR) && decide (D.word p 2<=4096) && fR (λq=>!((D.at_ q).typ==1 && D.word q 1==D.word p 1)) 0 p
def DD(D:DB)(p:Int):Bool:=Dg.aF (D.some_ p 11 26)==0 && D.zero p 3 11
def mN(D:DB)(p:Int):Bool:=
 D.zero p 37 1024 && (if(D.at_ p).state=1 then D.DD p else if(D.at_ p).state=2 then D.zero p 11 37 else D.DD p || D.zero p 11 37)
def mO(D:DB)(p:Int):Bool:=(D.at_ p).state==3 || (dH (λq=>D.of q 3 p) D.S==1 && D.of (D.word p 0) 3 p)
def named(D:DB)(p n q:Int):Int:=dH (λi=>D.word p i !=0 && aQ (D.word p i)==q) n
def fV(D:DB)(p i:Int):Bool:=D.word p i==0 || (il (D.word p i)==0 && D.of (aQ (D.word p i)) 4 (D.at_ p).owner)
def fw(D:DB)(p:Int):Bool:=
 D.zero p 256 1024 && (fR (D.fV p) 0 256 && fR (λq=>!(decide (D.named p 256 q>1) || (D.of q 4 (D.at_ p).owner && D.named p 256 q==0))) 0 D.S)
def iz(D:DB)(p j:Int):Bool:=
 D.word p j==0 || (fF (D.word p j)==0 && (if(bI (D.word p j)).bQ then D.of (bI (D.word p j)).aV 5 (D.at_ p).owner else decide ((bI (D.word p j)).aV<D.mem.I)))
def km(D:DB)(p:Int):Bool:=fR (D.iz p) 0 1024
def eR(D:DB)(p q j:Int):Bool:=fF (D.word q j)==0 && ((bI (D.word q j)).bQ && (bI (D.word q j)).aV==p)
def gi(D:DB)(p n:Int):Int:=((List.range n.toNat).map fun(q:Nat)=>if D.of (q:Int) 4 (D.at_ p).owner then dH (D.eR p (q:Int)) 1024 else 0).sum
def pY(D:DB)(p:Int):Bool:=D.gi p D.S==1
def jO(D:DB)(p:Int):Bool:=
 D.zero p 18 1024 && (if(D.at_ p).bw then File.de (D.some_ p 1 17)==0 && !(D.is (D.at_ p).owner 1 && (D.at_ (D.at_ p).owner).state==1)else D.zero p 1 18)
def clause(D:DB)(c p:Int):Bool:=
 let t:=(D.at_ p).typ
 if c=1 then t !=1 || (D.at_ p).owner==p
 else if c=2 then t !=0 || D.zero p 0 1024
 else if c=3 then t==1 || (t==0 || D.is (D.at_ p).owner 1)
 else if c=4 then t !=1 || (D.at_ p).refs==((D.eO p D.S).length:Int)
 else if c=5 then t !=1 || D.fx p
 else if c=6 then t !=1 || D.mN p
 else if c=7 then t !=1 || D.mO p
 else if c=8 then t !=3 || (!D.alive p || D.fw p)
 else if c=9 then t !=4 || (!D.alive p || D.km p)
 else if c=10 then t !=5 || (!D.alive p || D.pY p)
 else if c=11 then t !=2 || D.jO p
 else t !=6 || D.zero p 0 1024
def CD(D:DB)(c:Int):Bool:=fR (D.clause c) 0 D.S
def xY(f:Int->Bool):Nat->Int->Int
 |0,p=>p
 |n+1,p=>if f p then xY f n (p+1)else p
def gj(D:DB):Nat->Int->Int×Int
 |0,_=>(0,0)
 |n+1,c=>if D.CD c then gj D n (c+1)else(c,xY (D.clause c) D.S 0)
def broken(D:DB):Int×Int:=D.gj 12 1
end DB
theorem DB.leastN_eq {f:Int->Bool}:∀ {n:Nat}{lo x:Int},fR f lo x=true->f x=false->lo<=x->x<lo+n->xY f n lo=x
 |0,lo,x,_,_,d,e=>by omega
 | n+1,lo,x,h,c,d,e=>by
  unfold xY;by_cases g:lo=x
  ·subst g;rw[c];rfl
  ·rw[if_pos (dm.1 h lo (by omega) (by omega))];exact leastN_eq (dm.2 λy a b=>dm.1 h y (by omega) b) c (by omega) (by omega)
theorem AK {f g:Int->Bool}{n:Int}(l:0<=n)(h:∀x,0<=x->x<n->f x=true->g x=true):dH f n<=dH g n/\(dH f n=dH g n->∀x,0<=x->x<n->g x=true->f x=true):=by
 obtain⟨m,rfl⟩:=Int.eq_ofNat_of_zero_le l
 induction m with
 |zero=>exact⟨Int.le_refl _,λ_ x a b=>by omega⟩
 | succ m o=>
  have i:=o (by omega) (λx a b=>h x a (by omega));have p:=cz (f:=f) (n:=(m:Int)) (by omega);have q:=cz (f:=g) (n:=(m:Int)) (by omega);have hm:=h (m:Int) (by omega) (by omega);rw[show((m+1:Nat):Int)=(m:Int)+1 by omega,p,q];cases j:f (m:Int)<;>cases k:g (m:Int)<;>simp only[j,k,if_true,Bool.false_eq_true,if_false]at hm ⊢
  ·refine⟨by omega,λe x a b c=>?_⟩;by_cases d:x=m
   ·subst d;rw[k]at c;exact absurd c (by simp)
   ·exact i.2 (by omega) x a (by omega) c
  ·exact⟨by omega,λe=>by omega⟩
  ·exact absurd (hm trivial) (by simp)
  ·refine⟨by omega,λe x a b c=>?_⟩;by_cases d:x=m
   ·subst d;exact j
   ·exact i.2 (by omega) x a (by omega) c
end Go.Proofs.YtoghdgcmhbanbaaGreatDoor
end
section
set_option maxRecDepth 100000
set_option maxHeartbeats 1000000
namespace Go.Proofs.YtoghdgcmhbanbaaGreatDoor
open Go Go.RowKit V
open Go.IntKind (i64 u32 u64 wrap_i64 wrap_u32)
open Go.Proofs (Tryz.prog)
attribute [local irreducible] Vc2 VcD
theorem Ent.eqC(a b c d a' f c' g:Int)(e h:Bool):bk #[.int .i64 a,.int .i64 b,.int .i64 c,.int .i64 d,.bool e] #[.int .i64 a',.int .i64 f,.int .i64 c',.int .i64 g,.bool h]=decide (a=a'/\b=f/\c=c'/\d=g/\e=h):=by
 simp[bk,eqL,jt];rw[Bool.eq_iff_iff];simp
theorem Ent.yg {e:Ent}:(if e.ok then(0:Int)else 110)=0↔e.ok=true:=by cases e.ok<;>simp
def y8:Ctr Un:=⟨[.one (.int .i64)],[],[],[],λn K=>K ⟨vB (decide (0<=n/\n<=63)),none,[],[],[]⟩⟩
theorem Ks:LV Un Tryz.prog 141 y8:=dJ Tryz.func141 aj [] trivial [] (.r' (.two (.node [] (some ⟨[(2,(.one .bool))],[],upN 2 7,[]⟩) [] [] .leaf .leaf) .leaf)) [] (F:=∀n Q,y8.body n Q->∃J:Bool->Prop,(split (decide (n>=0)) (J (decide (n<=63))) (J false))/\∀(_gv:Nat->Value)(a:Bool),J a->Q ⟨vB a,none,[],[],[]⟩) λn Q h=>bF ((decide ((n:Int)>=0)) && (decide ((n:Int)<=63))) (ab (λb=>(by show _=_;rw[Bool.eq_iff_iff];simp_all<;>omega)) λb=>(by show _=_;rw[Bool.eq_iff_iff];simp_all<;>omega))<| aW h (by rw[Bool.eq_iff_iff];simp)
def uO:Ctr Un:=⟨[.agg [.int .i64,.int .i64,.int .i64,.int .i64,.bool]],[],[],[],λa b c d e K=>K ⟨J (if(Ent.mk a b c d e).ok then 0 else 110),none,[],[],[]⟩⟩
section
attribute [local grind=] Ent.ok Ent.eqC
theorem ID:LV Un Tryz.prog 109 uO:=dJ Tryz.func109 aj [(141,y8)] ⟨Ks,trivial⟩ [4,30,54] (.r' (.r' (.two (.node [] (some ⟨[(4,(.one .bool))],[],[4]++upN 8 8,[]⟩) [] [] .leaf .leaf) (.two (.r' (.node [] (some ⟨[(4,(.one .bool))],[],[4]++upN 19 9,[(1,(.blk [(.v (.int .i64)),(.v (.int .i64)),(.v (.int .i64)),(.v (.int .i64)),(.v .bool)]))]⟩) [] [] (.r' (.node [] (some ⟨[(4,(.one .bool))],[],[4]++upN 22 6,[]⟩) [] [] .leaf .leaf)) .leaf)) (.two (.r' (.two (.r' (.two (.two (.node [] none [] [(1,[0]),(3,[0])] .leaf .leaf) (.node [] (some ⟨[(4,(.one .bool))],[],[4]++upN 38 16,[]⟩) [] [] .leaf .leaf)) .leaf)) .leaf)) (.two (.two (.node [] (some ⟨[(65,(.one .bool))],[],upN 59 7,[]⟩) [] [] .leaf .leaf) .leaf) .leaf)))))) [] (F:=∀a d e f i Q,uO.body a d e f i Q->∀(v:Nat),∀(x:Nat),∃q:Bool->Prop,(split (decide (a>=0)) (∀ok:Bool,ok=(decide ((a:Int)<7))->q ok) (∀ok:Bool,ok=false->q ok))/\∀(_gv2:Nat->Value)(ok:Bool),q ok->∃r:Bool->Int->Int->Int->Int->Bool->Prop,(split (a !=0) (∃c:Bool->Prop,(split ok (∀b:Bool,b=(decide (0<=d/\d<=63))->c b) (∀b:Bool,b=false->c b))/\∀(_gv3:Nat->Value)(b:Bool),c b->r b a d 0 0 false) (r ok a 0 0 0 false))/\∀(_gv3:Nat->Value)(b:Bool) j k l m (o:Bool),r b j k l m o->∀t:Bool,t=((a:Int)==1)->split t (∃c:Bool->Prop,(split b (split (decide (0<=e/\e<=63)) (split (decide (f>0)) (∀g:Bool,g=(decide ((f:Int)<4))->c g) (∀g:Bool,g=false->c g)) (∀g:Bool,g=false->c g)) (∀g:Bool,g=false->c g))/\∀(_gv4:Nat->Value)(g:Bool),c g->∃s:Bool->Prop,(split (!g) (s true) (s (!(bk #[J a,J d,J e,J f,vB i] #[J j,J k,J e,J f,vB o]))))/\∀(_gv5:Nat->Value)(p:Bool),s p->split p (Q ⟨J 110,none,[],[],[]⟩) (Q ⟨J 0,none,[],[],[]⟩)) (∀u:Bool,u=((a:Int)==2)->split u (∃c:Bool->Prop,(split (!b) (c true) (c (!(bk #[J a,J d,J e,J f,vB i] #[J j,J k,J l,J m,vB i]))))/\∀(_gv4:Nat->Value)(p:Bool),c p->split p (Q ⟨J 110,none,[],[],[]⟩) (Q ⟨J 0,none,[],[],[]⟩)) (∃c:Bool->Prop,(split (!b) (c true) (c (!(bk #[J a,J d,J e,J f,vB i] #[J j,J k,J l,J m,vB o]))))/\∀(_gv4:Nat->Value)(p:Bool),c p->split p (Q ⟨J 110,none,[],[],[]⟩) (Q ⟨J 0,none,[],[],[]⟩)))) λa d e f i Q h=>λv=>λx=>bF ((decide ((a:Int)>=0)) && (decide ((a:Int)<7))) (ab (λy=>allEq<| (by grind)) λy=>allEq<| (by grind))<| ⟨λb j k l m o=>(b=(decide (0<=a/\a<7) && (a==0 || decide (0<=d/\d<=63))))/\(j=a/\k=(if a=0 then 0 else d)/\l=0/\m=0/\o=false),aG (λz=>bF (((decide ((a:Int)>=0)) && (decide ((a:Int)<7))) && (decide (0<=d/\d<=63))) (ab (λA=>allEq<| (by grind)) λA=>allEq<| (by grind))<| ⟨(by grind),(by grind)⟩) λz=>⟨(by grind),(by grind)⟩,λ_ b j k l m o ⟨R,S⟩=>allEq<| aE (λB=>bF (b && ((decide (0<=e/\e<=63)) && ((decide ((f:Int)>0)) && (decide ((f:Int)<4))))) (ab (λC=>ab (λD=>ab (λE=>allEq<| (by grind)) λE=>allEq<| (by grind)) λD=>allEq<| (by grind)) λC=>allEq<| (by grind))<| bF ((!(b && ((decide (0<=e/\e<=63)) && ((decide ((f:Int)>0)) && (decide ((f:Int)<4)))))) || (!(bk #[J a,J d,J e,J f,vB i] #[J j,J k,J e,J f,vB o]))) (ab (λG=>(by grind)) λG=>(by grind))<| bm (λH=>fm h (by grind)) λH=>fm h (by grind)) λB=>allEq<| aE (λI=>bF ((!b) || (!(bk #[J a,J d,J e,J f,vB i] #[J j,J k,J l,J m,vB i]))) (ab (λK=>(by grind)) λK=>(by grind))<| bm (λL=>fm h (by grind)) λL=>fm h (by grind)) λI=>bF ((!b) || (!(bk #[J a,J d,J e,J f,vB i] #[J j,J k,J l,J m,vB o]))) (ab (λM=>(by grind)) λM=>(by grind))<| bm (λO=>fm h (by grind)) λO=>fm h (by grind)⟩
end
def nF:Ctr Un:=⟨[.agg [.int .i64,.int .i64,.int .i64,.int .i64,.bool]],[],[],[],λa b c d e K=>K ⟨J (if(Ent.mk a b c d e).ok then 0 else 110),none,[],[],[]⟩⟩
section
attribute [local grind=] Ent.ok
theorem Dk:LV Un Tryz.prog 65 nF:=dJ Tryz.func65 aj [] trivial [] (.r' (.two (.two (.node [] (some ⟨[(30,(.one .bool))],[],upN 3 28,[]⟩) [] [] .leaf .leaf) .leaf) (.two (.two (.node [] (some ⟨[(62,(.one .bool))],[],upN 31 32,[]⟩) [] [] .leaf .leaf) .leaf) (.two (.two (.node [] (some ⟨[(75,(.one .bool))],[],upN 63 13,[]⟩) [] [] .leaf .leaf) .leaf) .leaf)))) [] (F:=∀a f c d e Q,nF.body a f c d e Q->∀(m:Nat),∃g:Bool->Prop,(split (decide (a<0)) (g true) (split (decide (a>6)) (g true) (split (decide (f<0)) (g true) (split (decide (f>63)) (g true) (split (decide (c<0)) (g true) (g (decide (c>63))))))))/\∀(_gv1:Nat->Value)(j:Bool),g j->split j (Q ⟨J 110,none,[],[],[]⟩) (∃b:Bool->Prop,(split (a==0) (split (f !=0) (b true) (split (a !=1) (split (c !=0) (b true) (split (d !=0) (b true) (split (a !=2) (b e) (b false)))) (split (a !=2) (b e) (b false)))) (split (a !=1) (split (c !=0) (b true) (split (d !=0) (b true) (split (a !=2) (b e) (b false)))) (split (a !=2) (b e) (b false))))/\∀(_gv2:Nat->Value)(k:Bool),b k->split k (Q ⟨J 110,none,[],[],[]⟩) (∃i:Bool->Prop,(split (a==1) (split (decide (d<1)) (i true) (i (decide (d>3)))) (i false))/\∀(_gv3:Nat->Value)(l:Bool),i l->split l (Q ⟨J 110,none,[],[],[]⟩) (Q ⟨J 0,none,[],[],[]⟩)))) λa f c d e Q h=>λm=>bF ((decide ((a:Int)<0)) || ((decide ((a:Int)>6)) || ((decide ((f:Int)<0)) || ((decide ((f:Int)>63)) || ((decide ((c:Int)<0)) || (decide ((c:Int)>63))))))) (ab (λo=>(by grind)) λo=>ab (λp=>(by grind)) λp=>ab (λq=>(by grind)) λq=>ab (λr=>(by grind)) λr=>ab (λs=>(by grind)) λs=>(by grind))<| bm (λt=>fm h (by grind)) λt=>bF (if((a:Int)==0)=true then(((f:Int) !=0) || (if((a:Int) !=1)=true then(((c:Int) !=0) || (((d:Int) !=0) || (((a:Int) !=2) && e)))else(((a:Int) !=2) && e)))else(if((a:Int) !=1)=true then(((c:Int) !=0) || (((d:Int) !=0) || (((a:Int) !=2) && e)))else(((a:Int) !=2) && e))) (ab (λu=>ab (λv=>(by grind)) λv=>ab (λx=>ab (λy=>(by grind)) λy=>ab (λz=>(by grind)) λz=>ab (λA=>(by grind)) λA=>(by grind)) λx=>ab (λB=>(by grind)) λB=>(by grind)) λu=>ab (λC=>ab (λD=>(by grind)) λD=>ab (λE=>(by grind)) λE=>ab (λG=>(by grind)) λG=>(by grind)) λC=>ab (λH=>(by grind)) λH=>(by grind))<| ab (λI=>fm h (by grind)) λI=>bF (((a:Int)==1) && ((decide ((d:Int)<1)) || (decide ((d:Int)>3)))) (ab (λK=>ab (λL=>(by grind)) λL=>(by grind)) λK=>(by grind))<| cJ (λM=>fm h (by grind)) λM=>fm h (by grind)
end
def pS:Ctr Un:=⟨[.agg [.int .i64,.int .i64,.int .i64,.int .i64,.bool]],[],[],[],λa b c d e K=>∀(x y z:Int),((x=(if(Ent.mk a b c d e).ok then(Ent.mk a b c d e).w0 else 0)/\y=(if(Ent.mk a b c d e).ok then(Ent.mk a b c d e).w1 else 0)/\z=(if(Ent.mk a b c d e).ok then 0 else 110)))->K ⟨(.tuple #[(.agg #[O x,O y]),J z]),kn2,[],[],[]⟩⟩
theorem Gc:LV Un Tryz.prog 89 pS:=dJ Tryz.func89 aj [(109,uO)] ⟨ID,trivial⟩ [4] .leaf [] (F:=∀c d b e g Q,pS.body c d b e g Q->∀(p:Nat),∀(q:Nat),split (((if(Ent.mk c d b e g).ok then 0 else 110):Int) !=0) (Q ⟨(.tuple #[(.agg #[O 0,O 0]),J 110]),kn2,[],[],[]⟩) (∀i:Int,i=(u32.wrap (BitVec.ofInt u32.bits (u32.wrap (BitVec.ofInt u32.bits (u32.wrap ((u32.wrap c:Int)*2 ^ 0)) ||| BitVec.ofInt u32.bits (u32.wrap ((u32.wrap e:Int)*2 ^ 4))).toNat) ||| BitVec.ofInt u32.bits (u32.wrap ((u32.wrap d:Int)*2 ^ 16))).toNat)->split g (∀o:Int,o=(u32.wrap (BitVec.ofInt u32.bits i ||| BitVec.ofInt u32.bits 256).toNat)->Q ⟨(.tuple #[(.agg #[O o,O (u32.wrap b)]),J 0]),kn2,[],[],[]⟩) (Q ⟨(.tuple #[(.agg #[O i,O (u32.wrap b)]),J 0]),kn2,[],[],[]⟩))) λc d b e g Q h=>λp=>λq=>aG (λj=>(h 0 0 110 (by grind))) λj=>allEq<| ab (λk=>allEq<| bj (h (u32.wrap (BitVec.ofInt u32.bits (u32.wrap (BitVec.ofInt u32.bits (u32.wrap (BitVec.ofInt u32.bits (u32.wrap ((u32.wrap c:Int)*2 ^ 0)) ||| BitVec.ofInt u32.bits (u32.wrap ((u32.wrap e:Int)*2 ^ 4))).toNat) ||| BitVec.ofInt u32.bits (u32.wrap ((u32.wrap d:Int)*2 ^ 16))).toNat) ||| BitVec.ofInt u32.bits 256).toNat) (u32.wrap b) 0 (by have a:=Ent.yg.1 j;have l:=Ent.iu a;have m:=Ent.ir a;simp only at l m;rw[if_pos a,if_pos a,if_pos a];refine⟨?_,bT (x:=b) (by omega),rfl⟩;have f:=Ent.or0 a;simp only at f;rw[f,Ent.or1 ⟨c+16*e,128*d,by omega⟩];simp[Ent.w0,k])) (fy (aB (J9 (aB rfl (aB (gO (by rfl)) rfl))) rfl)) rfl rfl) λk=>bj (h (u32.wrap (BitVec.ofInt u32.bits (u32.wrap (BitVec.ofInt u32.bits (u32.wrap ((u32.wrap c:Int)*2 ^ 0)) ||| BitVec.ofInt u32.bits (u32.wrap ((u32.wrap e:Int)*2 ^ 4))).toNat) ||| BitVec.ofInt u32.bits (u32.wrap ((u32.wrap d:Int)*2 ^ 16))).toNat) (u32.wrap b) 0 (by have a:=Ent.yg.1 j;have l:=Ent.iu a;have m:=Ent.ir a;simp only at l m;rw[if_pos a,if_pos a,if_pos a];refine⟨?_,bT (x:=b) (by omega),rfl⟩;have f:=Ent.or0 a;simp only at f;rw[f];simp[Ent.w0,k])) (fy (aB (J9 (aB rfl (aB (gO (by rfl)) rfl))) rfl)) rfl rfl
def lF:Ctr Un:=⟨[.agg [.int .i64,.int .i64,.int .i64,.int .i64,.bool]],[],[],[],λa b c d e K=>∀(x y z:Int),((x=(if(Ent.mk a b c d e).ok then(Ent.mk a b c d e).w0 else 0)/\y=(if(Ent.mk a b c d e).ok then(Ent.mk a b c d e).w1 else 0)/\z=(if(Ent.mk a b c d e).ok then 0 else 110)))->K ⟨(.tuple #[(.agg #[O x,O y]),J z]),kn2,[],[],[]⟩⟩
theorem qQ:LV Un Tryz.prog 42 lF:=dJ Tryz.func42 aj [(65,nF)] ⟨Dk,trivial⟩ [5] .leaf [] (F:=∀c d a e f Q,lF.body c d a e f Q->∀(o:Nat),∀(p:Nat),split (((if(Ent.mk c d a e f).ok then 0 else 110):Int) !=0) (Q ⟨(.tuple #[(.agg #[O 0,O 0]),J (if(Ent.mk c d a e f).ok then 0 else 110)]),kn2,[],[],[]⟩) (∀g:Int,g=(i64.wrap ((i64.wrap (c+(i64.wrap (16*e))))+(i64.wrap (65536*d))))->split f (∀m:Int,m=(i64.wrap (g+256))->Q ⟨(.tuple #[(.agg #[O (u32.wrap m),O (u32.wrap a)]),J 0]),kn2,[],[],[]⟩) (Q ⟨(.tuple #[(.agg #[O (u32.wrap g),O (u32.wrap a)]),J 0]),kn2,[],[],[]⟩))) λc d a e f Q h=>λo=>λp=>aG (λi=>(h 0 0 (if(Ent.mk c d a e f).ok then 0 else 110) (by grind))) λi=>allEq<| ab (λj=>allEq<| bj (h (u32.wrap (i64.wrap ((i64.wrap ((i64.wrap (c+(i64.wrap (16*e))))+(i64.wrap (65536*d))))+256))) (u32.wrap a) 0 (by have b:=Ent.yg.1 i;have k:=Ent.iu b;have l:=Ent.ir b;simp only at k l;rw[if_pos b,if_pos b,if_pos b];refine⟨?_,bT (x:=a) (by omega),rfl⟩;simp only[wrap_i64,wrap_u32,Ent.w0,j];simp;omega)) (fy (aB (J9 (aB (gO (by rfl)) (aB (gO (by rfl)) rfl))) rfl)) rfl rfl) λj=>bj (h (u32.wrap (i64.wrap ((i64.wrap (c+(i64.wrap (16*e))))+(i64.wrap (65536*d))))) (u32.wrap a) 0 (by have b:=Ent.yg.1 i;have k:=Ent.iu b;have l:=Ent.ir b;simp only at k l;rw[if_pos b,if_pos b,if_pos b];refine⟨?_,bT (x:=a) (by omega),rfl⟩;simp only[wrap_i64,wrap_u32,Ent.w0,j];simp;omega)) (fy (aB (J9 (aB (gO (by rfl)) (aB (gO (by rfl)) rfl))) rfl)) rfl rfl
theorem Ent.En {a b x y z:Int}(h:x=(if(parts a b).ok then(parts a b).w0 else 0)/\y=(if(parts a b).ok then(parts a b).w1 else 0)/\z=(if(parts a b).ok then 0 else 110))(c:(z !=0)=true\/(!(bk #[.int .u32 x,.int .u32 y] #[.int .u32 a,.int .u32 b]))=true):dec a b=free/\cF a b=110:=by
 obtain⟨rfl,rfl,rfl⟩:=h;rw[eqW]at c;cases d:(parts a b).ok<;>simp[d]at c
 ·simp[dec,cF,d]
 ·have e:¬((parts a b).w0=a/\(parts a b).w1=b):=by rcases c with c|c<;>simp[c]
  simp[dec,cF,d,e]
theorem Ent.AE {a b x y z:Int}(h:x=(if(parts a b).ok then(parts a b).w0 else 0)/\y=(if(parts a b).ok then(parts a b).w1 else 0)/\z=(if(parts a b).ok then 0 else 110))(c:(z !=0)=false/\(!(bk #[.int .u32 x,.int .u32 y] #[.int .u32 a,.int .u32 b]))=false):dec a b=parts a b/\cF a b=0:=by
 obtain⟨rfl,rfl,rfl⟩:=h;rw[eqW]at c;cases d:(parts a b).ok<;>simp[d]at c
 simp[dec,cF,d,c]
def xk:Ctr Un:=⟨[.agg [.int .u32,.int .u32]],[],[],[],λa b K=>(0<=(a:Int)/\(a:Int)<4294967296)/\(0<=(b:Int)/\(b:Int)<4294967296)/\K ⟨(.tuple #[(.agg #[J (Ent.dec a b).typ,J (Ent.dec a b).owner,J (Ent.dec a b).refs,J (Ent.dec a b).state,vB ((Ent.dec a b).bw)]),J (Ent.cF a b)]),kn2,[],[],[]⟩⟩
theorem Gd:LV Un Tryz.prog 74 xk:=dJ Tryz.func74 aj [(89,pS)] ⟨Gc,trivial⟩ [11,16,21,26,30] (.r' (.r' (.two (.r' (.two (.node [] (some ⟨[(43,(.one .bool))],[],upN 37 7,[]⟩) [] [] .leaf .leaf) .leaf)) .leaf))) [] (F:=∀c j Q,xk.body c j Q->∀(t:Nat),∀(u:Nat),(0<=(0:Int)/\(0:Int)<(2:Int))/\∀d:Int,d=(i64.wrap (u32.wrap (BitVec.ofInt u32.bits ((c:Int).fdiv (2 ^ 0)) &&& BitVec.ofInt u32.bits 7).toNat))->(0<=(0:Int)/\(0:Int)<(2:Int))/\∀e:Int,e=(i64.wrap (u32.wrap (BitVec.ofInt u32.bits ((c:Int).fdiv (2 ^ 4)) &&& BitVec.ofInt u32.bits 3).toNat))->(0<=(0:Int)/\(0:Int)<(2:Int))/\∀f:Bool,f=((u32.wrap (BitVec.ofInt u32.bits ((c:Int).fdiv (2 ^ 8)) &&& BitVec.ofInt u32.bits 1).toNat:Int)==1)->(0<=(0:Int)/\(0:Int)<(2:Int))/\∀g:Int,g=(i64.wrap (u32.wrap (BitVec.ofInt u32.bits ((c:Int).fdiv (2 ^ 16)) &&& BitVec.ofInt u32.bits 63).toNat))->(0<=(1:Int)/\(1:Int)<(2:Int))/\∀i:Int,i=(i64.wrap (u32.wrap (BitVec.ofInt u32.bits j &&& BitVec.ofInt u32.bits 63).toNat))->∀(v:Nat),∀(x y z:Int),((x=(if(Ent.mk d g i e f).ok then(Ent.mk d g i e f).w0 else 0)/\y=(if(Ent.mk d g i e f).ok then(Ent.mk d g i e f).w1 else 0)/\z=(if(Ent.mk d g i e f).ok then 0 else 110)))->∀(A:Nat),∃k:Bool->Prop,(split (z !=0) (k true) (k (!(bk #[O x,O y] #[O c,O j]))))/\∀(_gv4:Nat->Value)(m:Bool),k m->split m (Q ⟨(.tuple #[(.agg #[J 0,J 0,J 0,J 0,vB false]),J 110]),kn2,[],[],[]⟩) (Q ⟨(.tuple #[(.agg #[J d,J g,J i,J e,vB f]),J 0]),kn2,[],[],[]⟩)) λc j Q h=>by
 obtain⟨B,C,D,E,G⟩:=Ent.parts_eq h.1 h.2.1;obtain⟨I,K,h⟩:=h;exact λt=>λu=>ak (by omega) λs1=>λd o=>ak ‹_› λs2=>λe p=>ak ‹_› λL=>λf q=>ak ‹_› λM=>λg r=>ak (by omega) λR=>λi s=>λv=>λx y z f6=>(by rw[B]at o;rw[C]at r;rw[D]at s;rw[E]at p;rw[G]at q;subst o r s p q;exact λA=>bF (((z:Int) !=0) || (!(bk #[O x,O y] #[O c,O j]))) (ab (λH=>(by grind)) λH=>(by grind))<| bm (λl=>(by have hd:=Ent.En (a:=c) (b:=j) f6 l;exact bj h (by rw[hd.1,hd.2]<;>rfl) rfl rfl)) λl=>(by have hd:=Ent.AE (a:=c) (b:=j) f6 l;exact bj h (by rw[hd.1,hd.2]<;>rfl) rfl rfl))
def je:Ctr Un:=⟨[.agg [.int .u32,.int .u32]],[],[],[],λa b K=>((0<=(a:Int)/\(a:Int)<4294967296)/\(0<=(b:Int)/\(b:Int)<4294967296))/\K ⟨(.tuple #[(.agg #[J (Ent.dec a b).typ,J (Ent.dec a b).owner,J (Ent.dec a b).refs,J (Ent.dec a b).state,vB ((Ent.dec a b).bw)]),J (Ent.cF a b)]),kn2,[],[],[]⟩⟩
theorem BK:LV Un Tryz.prog 55 je:=dJ Tryz.func55 aj [(42,lF)] ⟨qQ,trivial⟩ [4,12,15,19,22,26] (.r' (.r' (.r' (.r' (.two (.two (.node [] (some ⟨[(39,(.one .bool))],[],upN 33 7,[]⟩) [] [] .leaf .leaf) .leaf) .leaf))))) [] (F:=∀c d Q,je.body c d Q->∀(B:Nat),∀(C:Nat),(0<=(0:Int)/\(0:Int)<(2:Int))/\∀n:Int,n=(i64.wrap c)->∀f:Int,f=((n:Int).tmod 8)->∀g:Int,g=((i64.wrap ((n:Int).tdiv 16):Int).tmod 4)->∀e:Bool,e=(((i64.wrap ((n:Int).tdiv 256):Int).tmod 2:Int)==1)->∀i:Int,i=((i64.wrap ((n:Int).tdiv 65536):Int).tmod 64)->(0<=(1:Int)/\(1:Int)<(2:Int))/\∀j:Int,j=((i64.wrap d:Int).tmod 64)->∀(D:Nat),∀(x y z:Int),((x=(if(Ent.mk f i j g e).ok then(Ent.mk f i j g e).w0 else 0)/\y=(if(Ent.mk f i j g e).ok then(Ent.mk f i j g e).w1 else 0)/\z=(if(Ent.mk f i j g e).ok then 0 else 110)))->∀(E:Nat),∃o:Bool->Prop,(split (z !=0) (o true) (o (!(bk #[O x,O y] #[O c,O d]))))/\∀(_gv4:Nat->Value)(u:Bool),o u->split u (Q ⟨(.tuple #[(.agg #[J 0,J 0,J 0,J 0,vB false]),J 110]),kn2,[],[],[]⟩) (Q ⟨(.tuple #[(.agg #[J f,J i,J j,J g,vB e]),J 0]),kn2,[],[],[]⟩)) λc d Q h=>by
 obtain⟨l,h⟩:=h;exact λB=>λC=>ak (by omega) λs1=>λn v=>λf p=>λg q=>λe r=>λi s=>ak (by omega) λs2=>λj A=>λD=>λx y z f3=>(by(have dv:∀k:Int,0<k->i64.wrap (c.tdiv k)=c / k:=λk G=>by rw[Int.tdiv_eq_ediv_of_nonneg l.1.1];have:=Int.ediv_nonneg l.1.1 (Int.le_of_lt G);have:=Int.ediv_le_self k l.1.1;exact aa (by omega));(have m:∀x k:Int,0<=x->x.tmod k=x % k:=λx k H=>Int.tmod_eq_emod_of_nonneg H);(have I:(i64.wrap d).tmod 64=(Ent.parts c d).refs:=by rw[aa (by omega),m _ _ l.2.1];rfl);(rw[aa (by omega)]at v);rw[v]at p q r s;(rw[dv _ (by omega),m _ _ (by omega)]at q);(rw[dv _ (by omega),m _ _ (by omega)]at s);rw[m _ _ l.1.1]at p;rw[I]at A;(have K:e=(Ent.parts c d).bw:=by rw[r,dv _ (by omega),m _ _ (by omega),Bool.eq_iff_iff];simp[Ent.parts]);clear r;subst p q K s A;exact λE=>bF (((z:Int) !=0) || (!(bk #[O x,O y] #[O c,O d]))) (ab (λL=>(by grind)) λL=>(by grind))<| bm (λt=>(by have hd:=Ent.En (a:=c) (b:=d) f3 t;exact bj h (by rw[hd.1,hd.2]<;>rfl) rfl rfl)) λt=>(by have hd:=Ent.AE (a:=c) (b:=d) f3 t;exact bj h (by rw[hd.1,hd.2]<;>rfl) rfl rfl))
theorem puC {P:Program}{f:Nat}{args:Array Value}{w:World}{v:Value}{k:Option Kn}(h:∀X:bP,Sat (U:=Un) [] X w->aH (U:=Un) [] fr0 []->Calls P f args w (cS (U:=Un) [] [] X w (λo=>o=⟨v,k,[],[],[]⟩)))(b:kq k v=.returned v:=by rfl):Calls P f args w λe a=>∃u,e=.returned u/\u=v/\Pu w a:=by
 refine(h (λ_ _=>False) ⟨λi r h=>by simp[nth]at h,λ_ _ _ _ _ _ h=>h.elim⟩ (λ_ _ h=>by cases h)).mono ?_;rintro e a ⟨out,rs',g,rfl,rfl,_,c⟩;exact⟨_,b,rfl,c.ch.mono λk ⟨j,d,_⟩=>by cases d⟩
theorem E0 {w:World}(a b c d:Int)(f:Bool):
 Calls Tryz.prog 42 #[(.agg #[J a,J b,J c,J d,vB f])] w λe g=>∃v,e=.returned v/\v=.tuple #[(.agg #[O (if(Ent.mk a b c d f).ok then(Ent.mk a b c d f).w0 else 0),O (if(Ent.mk a b c d f).ok then(Ent.mk a b c d f).w1 else 0)]),J (if(Ent.mk a b c d f).ok then 0 else 110)]/\Pu w g:=
 puC λX=>qQ a b c d f (λo=>o=_) (λx y z h=>by obtain⟨rfl,rfl,rfl⟩:=h;rfl) X w
theorem El {w:World}(a b:Int)(c:0<=a/\a<4294967296)(d:0<=b/\b<4294967296):
 Calls Tryz.prog 74 #[(.agg #[O a,O b])] w λe f=>∃v,e=.returned v/\v=(.tuple #[(.agg #[J (Ent.dec a b).typ,J (Ent.dec a b).owner,J (Ent.dec a b).refs,J (Ent.dec a b).state,vB ((Ent.dec a b).bw)]),J (Ent.cF a b)])/\Pu w f:=
 puC λX=>Gd a b (λo=>o=_) ⟨c,d,rfl⟩ X w
end Go.Proofs.YtoghdgcmhbanbaaGreatDoor
end
section
set_option maxRecDepth 10000
set_option maxHeartbeats 1000000
namespace Go.Proofs.YtoghdgcmhbanbaaGreatDoor
open Go Go.RowKit V
open Go.IntKind (i64 u32 u64 wrap_i64 wrap_u32)
theorem IP {w:World}(i:Bool)(j:Int)(l md:Bool):
 Calls Tryz.prog 176 #[(.agg #[vB i,J j,vB l,vB md])] w λe s=>∃v,e=.returned v/\v=.tuple #[O (Mp.mk i j l md).word,J (Mp.mk i j l md).err]/\Pu w s:=by
 refine u7 _ _ _ _ ?_;have c:=Ch.refl (λ_=>False) w;refine mkd λQ R B=>?_;have b:=B.blk;refine⟨λx s=>x=((decide ((j:Int)<0)) || (decide ((j:Int)>63)))/\Pu R s,?_,?_⟩
 ·refine⟨_,b.at2 rfl,?_⟩;refine ab (λE=>?_) (λE=>?_)
  ·exact⟨by simp only[E,Bool.true_and,Bool.and_true,Bool.false_and,Bool.and_false,Bool.true_or,Bool.or_true,Bool.false_or,Bool.or_false,Bool.not_true,Bool.not_false,if_true,if_false,Bool.false_eq_true],Ch.refl _ _⟩
  ·refine⟨_,b.at2 rfl,?_⟩;exact⟨by simp only[E,Bool.true_and,Bool.and_true,Bool.false_and,Bool.and_false,Bool.true_or,Bool.or_true,Bool.false_or,Bool.or_false,Bool.not_true,Bool.not_false,if_true,if_false,Bool.false_eq_true],Ch.refl _ _⟩
 rintro _ _ S ⟨rfl,t⟩;refine bm (λq=>?_) (λq=>?_)
 ·have c:=Ch.pu (Ch.made c B) t;exact⟨congrArg Value.tuple (ly (congrArg (Value.int .u32) (by grind[Mp.word,Mp.err,Mp.bits])) (congrArg (Value.int .i64) (by grind[Mp.word,Mp.err,Mp.bits]))),c⟩
 ·refine⟨λx s=>x=(md && (!i))/\Pu S s,?_,?_⟩
  ·have b:=Pu.blk t b;refine⟨_,b.at rfl,?_⟩;refine ab (λF=>?_) (λF=>?_)
   ·refine⟨_,b.at2 rfl,?_⟩;exact⟨by simp only[F,Bool.true_and,Bool.and_true,Bool.false_and,Bool.and_false,Bool.true_or,Bool.or_true,Bool.false_or,Bool.or_false,Bool.not_true,Bool.not_false,if_true,if_false,Bool.false_eq_true],Ch.refl _ _⟩
   ·exact⟨by simp only[F,Bool.true_and,Bool.and_true,Bool.false_and,Bool.and_false,Bool.true_or,Bool.or_true,Bool.false_or,Bool.or_false,Bool.not_true,Bool.not_false,if_true,if_false,Bool.false_eq_true],Ch.refl _ _⟩
  rintro _ _ Z ⟨rfl,G⟩;refine cJ (λr=>?_) (λr=>?_)
  ·have c:=Ch.pu (Ch.pu (Ch.made c B) t) G;exact⟨congrArg Value.tuple (ly (congrArg (Value.int .u32) (by grind[Mp.word,Mp.err,Mp.bits])) (congrArg (Value.int .i64) (by grind[Mp.word,Mp.err,Mp.bits]))),c⟩
  ·have C:0<=j/\j<64:=by grind
   have b:=Pu.blk G (Pu.blk t b);refine⟨_,b.at2 rfl,?_⟩;rintro _ rfl;refine⟨_,b.at2 rfl,_,b.at rfl,_,b.at rfl,?_⟩;refine mkd λV an H=>?_;have f:=H.blk;have c:=Ch.made (Ch.pu (Ch.pu (Ch.made c B) t) G) H;have b:=Made.old H b;refine⟨λD u y W=>Ch (λ_=>False) w W/\(∃T,Blk W Q #[vB i,J j,vB l,vB md] T)/\(∃T,Blk W V #[vB i,O 2,vB l,O 4,vB md,O 8] T)/\((D=3/\u=(256*j+1)/\y=0)\/(D=2/\u=(256*j+(1+(if i then 2 else 0)))/\y=1)\/(D=1/\u=(256*j+(1+(if i then 2 else 0)+(if l then 4 else 0)))/\y=2)\/(D=0/\u=(256*j+(1+(if i then 2 else 0)+(if l then 4 else 0)+(if md then 8 else 0)))/\y=3)),⟨_,c,⟨_,b⟩,⟨_,f⟩,.inl ⟨rfl,by exact G1 C,rfl⟩⟩,?_⟩;rintro _ _ u y az ⟨c,⟨_,b⟩,⟨_,f⟩,Y⟩;rcases Y with⟨rfl,rfl,rfl⟩|⟨rfl,rfl,rfl⟩|⟨rfl,rfl,rfl⟩|⟨rfl,rfl,rfl⟩
   ·refine aU ⟨by decide,_,_,⟨f.at2 rfl,f.at2 rfl⟩,?_⟩;refine mkd λz M d=>?_;have m:=d.lo c;have o:=d.ne b;have p:=d.ne f;have h:=d.blk;refine bx h (by simp) λA g=>?_;have h:Blk A z #[vB i,O 2] _:=g.blk;refine⟨_,h.at rfl,?_⟩;refine ab (λI=>?_) (λI=>?_)
    ·refine⟨_,h.at rfl,?_⟩;rintro _ rfl;have c:=Ch.call (Ch.made c d) g.ch (by exact λk e=>.inr (e▸m));have b:=Ch.blk g.ch (Made.old d b) (o);have f:=Ch.blk g.ch (Made.old d f) (p);exact⟨2,by decide,c,⟨_,b⟩,⟨_,f⟩,.inr (.inl ⟨rfl,by(rw[Cu 1 2 (by decide) (by omega) C (a:=1) (by constructor<;>grind)];simp only[q,r,I,if_true];done),rfl⟩)⟩
    ·have c:=Ch.call (Ch.made c d) g.ch (by exact λk e=>.inr (e▸m));have b:=Ch.blk g.ch (Made.old d b) (o);have f:=Ch.blk g.ch (Made.old d f) (p);exact⟨2,by decide,c,⟨_,b⟩,⟨_,f⟩,.inr (.inl ⟨rfl,by(simp[q,r,I];done),rfl⟩)⟩
   ·refine aU ⟨by decide,_,_,⟨f.at2 rfl,f.at2 rfl⟩,?_⟩;refine mkd λz M d=>?_;have m:=d.lo c;have o:=d.ne b;have p:=d.ne f;have h:=d.blk;refine bx h (by simp) λA g=>?_;have h:Blk A z #[vB l,O 4] _:=g.blk;refine⟨_,h.at rfl,?_⟩;refine ab (λK=>?_) (λK=>?_)
    ·refine⟨_,h.at rfl,?_⟩;rintro _ rfl;have c:=Ch.call (Ch.made c d) g.ch (by exact λk e=>.inr (e▸m));have b:=Ch.blk g.ch (Made.old d b) (o);have f:=Ch.blk g.ch (Made.old d f) (p);exact⟨1,by decide,c,⟨_,b⟩,⟨_,f⟩,.inr (.inr (.inl ⟨rfl,by(rw[Cu 2 4 (by decide) (by omega) C (a:=(1+(if i then 2 else 0))) (by constructor<;>grind)];simp only[q,r,K,if_true];done),rfl⟩))⟩
    ·have c:=Ch.call (Ch.made c d) g.ch (by exact λk e=>.inr (e▸m));have b:=Ch.blk g.ch (Made.old d b) (o);have f:=Ch.blk g.ch (Made.old d f) (p);exact⟨1,by decide,c,⟨_,b⟩,⟨_,f⟩,.inr (.inr (.inl ⟨rfl,by(simp[q,r,K];done),rfl⟩))⟩
   ·refine aU ⟨by decide,_,_,⟨f.at2 rfl,f.at2 rfl⟩,?_⟩;refine mkd λz M d=>?_;have m:=d.lo c;have o:=d.ne b;have p:=d.ne f;have h:=d.blk;refine bx h (by simp) λA g=>?_;have h:Blk A z #[vB md,O 8] _:=g.blk;refine⟨_,h.at rfl,?_⟩;refine ab (λL=>?_) (λL=>?_)
    ·refine⟨_,h.at rfl,?_⟩;rintro _ rfl;have c:=Ch.call (Ch.made c d) g.ch (by exact λk e=>.inr (e▸m));have b:=Ch.blk g.ch (Made.old d b) (o);have f:=Ch.blk g.ch (Made.old d f) (p);exact⟨0,by decide,c,⟨_,b⟩,⟨_,f⟩,.inr (.inr (.inr (⟨rfl,by(rw[Cu 3 8 (by decide) (by omega) C (a:=(1+(if i then 2 else 0)+(if l then 4 else 0))) (by constructor<;>grind)];simp only[q,r,L,if_true];done),rfl⟩)))⟩
    ·have c:=Ch.call (Ch.made c d) g.ch (by exact λk e=>.inr (e▸m));have b:=Ch.blk g.ch (Made.old d b) (o);have f:=Ch.blk g.ch (Made.old d f) (p);exact⟨0,by decide,c,⟨_,b⟩,⟨_,f⟩,.inr (.inr (.inr (⟨rfl,by(simp[q,r,L];done),rfl⟩)))⟩
   ·refine bG ?_;exact⟨congrArg Value.tuple (ly (congrArg (Value.int .u32) (by grind[Mp.word,Mp.err,Mp.bits])) (congrArg (Value.int .i64) (by grind[Mp.word,Mp.err,Mp.bits]))),c⟩
end Go.Proofs.YtoghdgcmhbanbaaGreatDoor
end
section
set_option maxRecDepth 100000
set_option maxHeartbeats 1000000
namespace Go.Proofs.YtoghdgcmhbanbaaGreatDoor
open Go Go.RowKit V
open Go.IntKind (i64 u32 u64 wrap_i64 wrap_u32)
open Go.Proofs (Tryz.prog)
attribute [local irreducible] Vc2 VcD
def ui:Ctr Un:=⟨[.one (.int .i64)],[],[],[],λp K=>K ⟨(.tuple #[O (di p),J (cK p)]),kn2,[],[],[]⟩⟩
theorem Ig:LV Un Tryz.prog 174 ui:=dJ Tryz.func174 aj [] trivial [] (.r' (.two (.two (.node [] (some ⟨[(9,(.one .bool))],[],upN 4 6,[]⟩) [] [] .leaf .leaf) .leaf) .leaf)) [] (F:=∀p Q,ui.body p Q->∃a:Bool->Prop,(split (decide (p<0)) (a true) (a (decide (p>=64))))/\∀(_gv:Nat->Value)(b:Bool),a b->split b (Q ⟨(.tuple #[O 0,J 4]),kn2,[],[],[]⟩) (Q ⟨(.tuple #[O (u32.wrap (BitVec.ofInt u32.bits (u32.wrap ((u32.wrap p)*2 ^ 8)) ||| BitVec.ofInt u32.bits 1).toNat),J 0]),kn2,[],[],[]⟩)) λp Q h=>bF ((decide ((p:Int)<0)) || (decide ((p:Int)>=64))) (ab (λc=>(by grind)) λc=>(by grind))<| bm (λd=>bj h (by(have h:¬(0<=p/\p<64):=by grind);simp[di,cK,h]) rfl rfl) λd=>bj h (by(have h:0<=p/\p<64:=by grind);rw[G1 h];simp[di,cK,h]) rfl rfl
def nG:Ctr Un:=⟨[.one (.int .i64)],[],[],[],λp K=>K ⟨(.tuple #[O (di p),J (cK p)]),kn2,[],[],[]⟩⟩
theorem Dl:LV Un Tryz.prog 157 nG:=dJ Tryz.func157 aj [] trivial [] (.r' (.two (.two (.node [] (some ⟨[(9,(.one .bool))],[],upN 4 6,[]⟩) [] [] .leaf .leaf) .leaf) .leaf)) [] (F:=∀p Q,nG.body p Q->∃a:Bool->Prop,(split (decide (p<0)) (a true) (a (decide (p>=64))))/\∀(_gv:Nat->Value)(b:Bool),a b->split b (Q ⟨(.tuple #[O 0,J 4]),kn2,[],[],[]⟩) (Q ⟨(.tuple #[O (u32.wrap (i64.wrap ((i64.wrap (256*p))+1))),J 0]),kn2,[],[],[]⟩)) λp Q h=>bF ((decide ((p:Int)<0)) || (decide ((p:Int)>=64))) (ab (λc=>(by grind)) λc=>(by grind))<| bm (λd=>bj h (by(have h:¬(0<=p/\p<64):=by grind);simp[di,cK,h]) rfl rfl) λd=>bj h (by(have h:0<=p/\p<64:=by grind);rw[aa (x:=256*p) (by omega),aa (by omega),bT (by omega)];simp[di,cK,h]) rfl rfl
def jr:Ctr Un:=⟨[.one (.int .u32),.one (.int .i64),.one (.fn 174)],[],[],[],λv x K=>∀(a b:Int),((a=(if v≠0/\cK x=0/\di x=v then x else 0)/\b=(if v=0 then 92 else if cK x=0/\di x=v then 0 else 90)))->K ⟨(.tuple #[J a,J b]),kn2,[],[],[]⟩⟩
theorem u9:LV Un Tryz.prog 173 jr:=dJ Tryz.func173 aj [(174,ui)] ⟨Ig,trivial⟩ [] (.r' (.r' (.r' (.two (.r' (.two (.node [] (some ⟨[(26,(.one .bool))],[],upN 20 7,[]⟩) [] [] .leaf .leaf) .leaf)) .leaf)))) [] (F:=∀v x Q,jr.body v x Q->split (v==0) (Q ⟨(.tuple #[J 0,J 92]),kn2,[],[],[]⟩) (∃a:Bool->Prop,(split ((cK x) !=0) (a true) (a ((di x) !=v)))/\∀(_gv:Nat->Value)(b:Bool),a b->split b (Q ⟨(.tuple #[J 0,J 90]),kn2,[],[],[]⟩) (Q ⟨(.tuple #[J x,J 0]),kn2,[],[],[]⟩))) λv x Q h=>by
 try skip
 exact aE (λc=>(h 0 92 (by omega))) λc=>bF ((((cK x):Int) !=0) || (((di x):Int) !=v)) (ab (λd=>(by grind)) λd=>(by grind))<| bm (λe=>(h 0 90 (by grind))) λe=>(h x 0 (by grind))
def gl:Ctr Un:=⟨[.one (.int .u32)],[],[],[],λv K=>(0<=(v:Int)/\(v:Int)<4294967296)/\K ⟨(.tuple #[J (aQ v),J (il v)]),kn2,[],[],[]⟩⟩
theorem va:LV Un Tryz.prog 151 gl:=dJ Tryz.func151 aj [(173,jr)] ⟨u9,trivial⟩ [] .leaf [] (F:=∀v Q,gl.body v Q->∀(a b:Int),((a=(if v≠0/\cK (i64.wrap (v.fdiv (2 ^ 8)))=0/\di (i64.wrap (v.fdiv (2 ^ 8)))=v then(i64.wrap (v.fdiv (2 ^ 8)))else 0)/\b=(if v=0 then 92 else if cK (i64.wrap (v.fdiv (2 ^ 8)))=0/\di (i64.wrap (v.fdiv (2 ^ 8)))=v then 0 else 90)))->Q ⟨(.tuple #[J a,J b]),kn2,[],[],[]⟩) λv Q h=>by
 obtain⟨e,h⟩:=h;exact λa b f1=>(by(have c:i64.wrap ((v:Int).fdiv (2 ^ 8))=v / 256:=by rw[oq,aa (by omega)];rfl);rw[c]at f1;(have d:(cK (v / 256)=0/\di (v / 256)=v)↔qV v=true:=(by simp only[cK,di,qV,decide_eq_true_eq];constructor<;>intro h<;>grind));(have f:v=0->qV v=false:=by intro h;subst h;decide);exact bj h (by simp only[d]at f1;rw[f1.1,f1.2];simp only[aQ,il]<;>grind) rfl rfl)
def gJ:Ctr Un:=⟨[.one (.int .u32)],[],[],[],λv K=>(0<=(v:Int)/\(v:Int)<4294967296)/\K ⟨(.tuple #[J (aQ v),J (il v)]),kn2,[],[],[]⟩⟩
theorem rl:LV Un Tryz.prog 130 gJ:=dJ Tryz.func130 aj [(157,nG)] ⟨Dl,trivial⟩ [4] (.r' (.r' (.two (.r' (.two (.node [] (some ⟨[(4,(.one (.int .i64)))],[],upN 2 5++upN 9 13,[]⟩) [] [] .leaf .leaf) .leaf)) .leaf))) [] (F:=∀v Q,gJ.body v Q->split (v==0) (Q ⟨(.tuple #[J 0,J 92]),kn2,[],[],[]⟩) (∀p:Int,p=0->∃I:Nat->Int->Prop,(∃m,I m p)/\∀(m:Nat)(_gv:Nat->Value)(c:Int),I m c->split (decide (c<64)) (split ((di c)==v) (Q ⟨(.tuple #[J c,J 0]),kn2,[],[],[]⟩) (∀d:Int,d=(i64.wrap (c+1))->∃e,e<m/\I e d)) (Q ⟨(.tuple #[J 0,J 90]),kn2,[],[],[]⟩))) λv Q h=>by
 obtain⟨k,h⟩:=h;exact aE (λf=>bj h (fy (aB (cx (by(grind[aQ,il,qV,di]))) (aB (cx (by(grind[aQ,il,qV,di]))) rfl))) rfl rfl) λf=>allEq<| ⟨λm c=>(m=(64 - c).toNat)/\(0<=c/\c<=64)/\(∀q:Int,0<=q->q<c->256*q+1≠v),⟨_,rfl,(by omega),(by intro q;omega)⟩,λm _ c ⟨hm,hi,hq⟩=>af (λg=>aE (λi=>bj h (fy (aB (cx (by(grind[aQ,il,qV,di]))) (aB (cx (by(grind[aQ,il,qV,di]))) rfl))) rfl rfl) λi=>allEq<| ⟨_,(by(grind[wrap_i64])),rfl,(by rw[aa (by omega)];omega),(by rw[aa (by omega)];intro q l o;rcases Int.lt_or_eq_of_le (show q<=c by omega)with h|h<;>(first|grind|grind[di]))⟩) λg=>bj h (by have h:=hq (v / 256);(have j:qV v=false:=by rw[qV,decide_eq_false_iff_not];rintro⟨a,b⟩;exact h (by omega) (by omega) (by omega));simp[aQ,il,j,f]) rfl rfl⟩
def wZ:Ctr Un:=⟨[.agg [.bool,.int .i64,.bool,.bool]],[],[],[],λa b c md K=>K ⟨(.tuple #[O (Mp.mk a b c md).word,J (Mp.mk a b c md).err]),kn2,[],[],[]⟩⟩
theorem FH:LV Un Tryz.prog 176 wZ:=by
 show ∀(a:Bool)(b:Int)(c md:Bool),∀Q:Ou Un->Prop,(Q ⟨(.tuple #[O (Mp.mk a b c md).word,J (Mp.mk a b c md).err]),kn2,[],[],[]⟩)->∀(X:bP)(w:World),Sat (U:=Un) [] X w->aH (U:=Un) [] fr0 []->Calls Tryz.prog 176 #[(.agg #[vB a,J b,vB c,vB md])] w (cS (U:=Un) [] [] X w Q);intro a b c md Q d X w f g;refine(IP a b c md).mono ?_;rintro e h ⟨u,rfl,rfl,q⟩;exact cS.pu f q d (KnO.tup _ (by simp))
def lG:Ctr Un:=⟨[.agg [.bool,.int .i64,.bool,.bool]],[],[],[],λa b c md K=>K ⟨(.tuple #[O (Mp.mk a b c md).word,J (Mp.mk a b c md).err]),kn2,[],[],[]⟩⟩
theorem BL:LV Un Tryz.prog 158 lG:=dJ Tryz.func158 aj [] trivial [4] (.r' (.two (.two (.node [] (some ⟨[(12,(.one .bool))],[],upN 5 8,[]⟩) [] [] .leaf .leaf) .leaf) (.two (.two (.node [] (some ⟨[(19,(.one .bool))],[],upN 13 7,[]⟩) [] [] .leaf .leaf) .leaf) .leaf))) [] (F:=∀c b d md Q,lG.body c b d md Q->∀(k:Nat),∃e:Bool->Prop,(split (decide (b<0)) (e true) (e (decide (b>=64))))/\∀(_gv1:Nat->Value)(g:Bool),e g->split g (Q ⟨(.tuple #[O 0,J 4]),kn2,[],[],[]⟩) (∃f:Bool->Prop,(split (!c) (f md) (f false))/\∀(_gv2:Nat->Value)(i:Bool),f i->split i (Q ⟨(.tuple #[O 0,J 1]),kn2,[],[],[]⟩) (∀n:Int,n=(i64.wrap ((i64.wrap (256*b))+1))->split c (∀a:Int,a=(i64.wrap (n+2))->split d (∀n2:Int,n2=(i64.wrap (a+4))->split md (∀j:Int,j=(i64.wrap (n2+8))->Q ⟨(.tuple #[O (u32.wrap j),J 0]),kn2,[],[],[]⟩) (Q ⟨(.tuple #[O (u32.wrap n2),J 0]),kn2,[],[],[]⟩)) (split md (∀n2:Int,n2=(i64.wrap (a+8))->Q ⟨(.tuple #[O (u32.wrap n2),J 0]),kn2,[],[],[]⟩) (Q ⟨(.tuple #[O (u32.wrap a),J 0]),kn2,[],[],[]⟩))) (split d (∀a:Int,a=(i64.wrap (n+4))->split md (∀n2:Int,n2=(i64.wrap (a+8))->Q ⟨(.tuple #[O (u32.wrap n2),J 0]),kn2,[],[],[]⟩) (Q ⟨(.tuple #[O (u32.wrap a),J 0]),kn2,[],[],[]⟩)) (split md (∀a:Int,a=(i64.wrap (n+8))->Q ⟨(.tuple #[O (u32.wrap a),J 0]),kn2,[],[],[]⟩) (Q ⟨(.tuple #[O (u32.wrap n),J 0]),kn2,[],[],[]⟩)))))) λc b d md Q h=>λk=>bF ((decide ((b:Int)<0)) || (decide ((b:Int)>=64))) (ab (λl=>(by grind)) λl=>(by grind))<| bm (λm=>bj h (fy (aB (gO (by(try simp only[wrap_i64,wrap_u32])<;>(grind[Mp.word,Mp.err,Mp.bits]))) (aB (cx (by(try simp only[wrap_i64,wrap_u32])<;>(grind[Mp.word,Mp.err,Mp.bits]))) rfl))) rfl rfl) λm=>bF ((!c) && md) (ab (λo=>(by grind)) λo=>(by grind))<| cJ (λp=>bj h (fy (aB (gO (by(try simp only[wrap_i64,wrap_u32])<;>(grind[Mp.word,Mp.err,Mp.bits]))) (aB (cx (by(try simp only[wrap_i64,wrap_u32])<;>(grind[Mp.word,Mp.err,Mp.bits]))) rfl))) rfl rfl) λp=>allEq<| ab (λq=>allEq<| ab (λr=>allEq<| ab (λs=>allEq<| bj h (fy (aB (gO (by(try simp only[wrap_i64,wrap_u32])<;>(grind[Mp.word,Mp.err,Mp.bits]))) (aB (cx (by(try simp only[wrap_i64,wrap_u32])<;>(grind[Mp.word,Mp.err,Mp.bits]))) rfl))) rfl rfl) λs=>bj h (fy (aB (gO (by(try simp only[wrap_i64,wrap_u32])<;>(grind[Mp.word,Mp.err,Mp.bits]))) (aB (cx (by(try simp only[wrap_i64,wrap_u32])<;>(grind[Mp.word,Mp.err,Mp.bits]))) rfl))) rfl rfl) λr=>ab (λt=>allEq<| bj h (fy (aB (gO (by(try simp only[wrap_i64,wrap_u32])<;>(grind[Mp.word,Mp.err,Mp.bits]))) (aB (cx (by(try simp only[wrap_i64,wrap_u32])<;>(grind[Mp.word,Mp.err,Mp.bits]))) rfl))) rfl rfl) λt=>bj h (fy (aB (gO (by(try simp only[wrap_i64,wrap_u32])<;>(grind[Mp.word,Mp.err,Mp.bits]))) (aB (cx (by(try simp only[wrap_i64,wrap_u32])<;>(grind[Mp.word,Mp.err,Mp.bits]))) rfl))) rfl rfl) λq=>ab (λu=>allEq<| ab (λv=>allEq<| bj h (fy (aB (gO (by(try simp only[wrap_i64,wrap_u32])<;>(grind))) (aB (cx (by(try simp only[wrap_i64,wrap_u32])<;>(grind))) rfl))) rfl rfl) λv=>bj h (fy (aB (gO (by(try simp only[wrap_i64,wrap_u32])<;>(grind[Mp.word,Mp.err,Mp.bits]))) (aB (cx (by(try simp only[wrap_i64,wrap_u32])<;>(grind[Mp.word,Mp.err,Mp.bits]))) rfl))) rfl rfl) λu=>ab (λx=>allEq<| bj h (fy (aB (gO (by(try simp only[wrap_i64,wrap_u32])<;>(grind))) (aB (cx (by(try simp only[wrap_i64,wrap_u32])<;>(grind))) rfl))) rfl rfl) λx=>bj h (fy (aB (gO (by(try simp only[wrap_i64,wrap_u32])<;>(grind[Mp.word,Mp.err,Mp.bits]))) (aB (cx (by(try simp only[wrap_i64,wrap_u32])<;>(grind[Mp.word,Mp.err,Mp.bits]))) rfl))) rfl rfl
def fi:Ctr Un:=⟨[.one (.int .u32),.agg [.bool,.int .i64,.bool,.bool],.one (.fn 176)],[],[],[],λv a b c md K=>∀(d:Bool)(e:Int)(rc rd:Bool)(f:Int),((Mp.mk d e rc rd=(if v≠0/\(Mp.mk a b c md).err=0/\(Mp.mk a b c md).word=v then(Mp.mk a b c md)else Mp.nil)/\f=(if v=0 then 92 else if(Mp.mk a b c md).err=0/\(Mp.mk a b c md).word=v then 0 else 90)))->K ⟨(.tuple #[(.agg #[vB d,J e,vB rc,vB rd]),J f]),kn2,[],[],[]⟩⟩
theorem nt:LV Un Tryz.prog 175 fi:=dJ Tryz.func175 aj [(176,wZ)] ⟨FH,trivial⟩ [] (.r' (.r' (.r' (.two (.r' (.two (.node [] (some ⟨[(26,(.one .bool))],[],upN 20 7,[]⟩) [] [] .leaf .leaf) .leaf)) .leaf)))) [] (F:=∀v a b c md Q,fi.body v a b c md Q->∀(f:Nat),∀(g:Nat),∀(i:Nat),split (v==0) (Q ⟨(.tuple #[(.agg #[vB false,J 0,vB false,vB false]),J 92]),kn2,[],[],[]⟩) (∃d:Bool->Prop,(split ((Mp.mk a b c md).err !=0) (d true) (d ((Mp.mk a b c md).word !=v)))/\∀(_gv3:Nat->Value)(e:Bool),d e->split e (Q ⟨(.tuple #[(.agg #[vB false,J 0,vB false,vB false]),J 90]),kn2,[],[],[]⟩) (Q ⟨(.tuple #[(.agg #[vB a,J b,vB c,vB md]),J 0]),kn2,[],[],[]⟩))) λv a b c md Q h=>λf=>λg=>λi=>aE (λj=>(h false 0 false false 92 (by(grind)))) λj=>bF ((((Mp.mk a b c md).err:Int) !=0) || (((Mp.mk a b c md).word:Int) !=v)) (ab (λk=>(by grind)) λk=>(by grind))<| bm (λl=>(h false 0 false false 90 (by(grind)))) λl=>(h a b c md 0 (by(grind)))
def dq:Ctr Un:=⟨[.one (.int .u32)],[],[],[],λv K=>(0<=(v:Int)/\(v:Int)<4294967296)/\K ⟨(.tuple #[(.agg #[vB ((bI v).bQ),J (bI v).aV,vB ((bI v).write),vB ((bI v).exec)]),J (fF v)]),kn2,[],[],[]⟩⟩
theorem lB:LV Un Tryz.prog 152 dq:=dJ Tryz.func152 aj [(175,fi)] ⟨nt,trivial⟩ [7,10,14,17] .leaf [] (F:=∀v Q,dq.body v Q->∀(o:Nat),∀a:Bool,a=((u32.wrap (BitVec.ofInt u32.bits v &&& BitVec.ofInt u32.bits 2).toNat:Int) !=0)->∀b:Int,b=(i64.wrap ((v:Int).fdiv (2 ^ 8)))->∀c:Bool,c=((u32.wrap (BitVec.ofInt u32.bits v &&& BitVec.ofInt u32.bits 4).toNat:Int) !=0)->∀d:Bool,d=((u32.wrap (BitVec.ofInt u32.bits v &&& BitVec.ofInt u32.bits 8).toNat:Int) !=0)->∀(e:Bool)(f:Int)(rc rd:Bool)(g:Int),((Mp.mk e f rc rd=(if v≠0/\(Mp.mk a b c d).err=0/\(Mp.mk a b c d).word=v then(Mp.mk a b c d)else Mp.nil)/\g=(if v=0 then 92 else if(Mp.mk a b c d).err=0/\(Mp.mk a b c d).word=v then 0 else 90)))->Q ⟨(.tuple #[(.agg #[vB e,J f,vB rc,vB rd]),J g]),kn2,[],[],[]⟩) λv Q h=>by
 obtain⟨i,h⟩:=h;exact λo=>λa j=>λb k=>λc l=>λd m=>λe f rc rd g f1=>(by(have p:i64.wrap ((v:Int).fdiv (2 ^ 8))=v / 256:=by rw[oq,aa (by omega)];rfl);(rw[gU 1 2 (by decide) (by omega) i]at j);rw[p]at k;(rw[gU 2 4 (by decide) (by omega) i]at l);(rw[gU 3 8 (by decide) (by omega) i]at m);(have q:Mp.mk a b c d=Mp.Am v:=by rw[j,k,l,m];rfl);rw[q]at f1;exact bj h (by(have hm:bI v=Mp.mk e f rc rd/\fF v=g:=by grind[bI,fF,tf]);rw[hm.1,hm.2]) rfl rfl)
def eJ:Ctr Un:=⟨[.one (.int .u32)],[],[],[],λv K=>(0<=(v:Int)/\(v:Int)<4294967296)/\K ⟨(.tuple #[(.agg #[vB ((bI v).bQ),J (bI v).aV,vB ((bI v).write),vB ((bI v).exec)]),J (fF v)]),kn2,[],[],[]⟩⟩
theorem jK:LV Un Tryz.prog 131 eJ:=dJ Tryz.func131 aj [(158,lG)] ⟨BL,trivial⟩ [4,16,18,22,26] (.r' (.r' (.r' (.r' (.r' (.two (.two (.node [] (some ⟨[(39,(.one .bool))],[],upN 33 7,[]⟩) [] [] .leaf .leaf) .leaf) .leaf)))))) [] (F:=∀v Q,eJ.body v Q->∀(t:Nat),split (v==0) (Q ⟨(.tuple #[(.agg #[vB false,J 0,vB false,vB false]),J 92]),kn2,[],[],[]⟩) (∀n:Int,n=(i64.wrap v)->∀a:Bool,a=(((i64.wrap ((n:Int).tdiv 2):Int).tmod 2:Int)==1)->∀b:Int,b=(i64.wrap ((n:Int).tdiv 256))->∀c:Bool,c=(((i64.wrap ((n:Int).tdiv 4):Int).tmod 2:Int)==1)->∀d:Bool,d=(((i64.wrap ((n:Int).tdiv 8):Int).tmod 2:Int)==1)->∀(u:Nat),∃f:Bool->Prop,(split ((Mp.mk a b c d).err !=0) (f true) (f ((Mp.mk a b c d).word !=v)))/\∀(_gv2:Nat->Value)(l:Bool),f l->split l (Q ⟨(.tuple #[(.agg #[vB false,J 0,vB false,vB false]),J 90]),kn2,[],[],[]⟩) (Q ⟨(.tuple #[(.agg #[vB a,J b,vB c,vB d]),J 0]),kn2,[],[],[]⟩))) λv Q h=>by
 obtain⟨g,h⟩:=h;exact λt=>aE (λm=>bj h (by simp[bI,fF,m,Mp.nil]) rfl rfl) λm=>λn e=>λa o=>λb p=>λc q=>λd r=>λu=>(by(rw[aa (by omega)]at e);(have dv:∀k:Int,0<k->i64.wrap (v.tdiv k)=v / k:=λk y=>by rw[Int.tdiv_eq_ediv_of_nonneg g.1];have:=Int.ediv_nonneg g.1 (Int.le_of_lt y);have:=Int.ediv_le_self k g.1;exact aa (by omega));(have i:∀x:Int,0<=x->(x.tmod 2==1)=decide (x % 2=1):=λx h=>by rw[Int.tmod_eq_emod_of_nonneg h,Bool.eq_iff_iff];simp);(rw[e,dv _ (by omega),i _ (by omega)]at o);(rw[e,dv _ (by omega),i _ (by omega)]at q);(rw[e,dv _ (by omega),i _ (by omega)]at r);(rw[e,dv _ (by omega)]at p);(have s:Mp.mk a b c d=Mp.Am v:=by rw[o,p,q,r];rfl);exact bF ((((Mp.mk a b c d).err:Int) !=0) || (((Mp.mk a b c d).word:Int) !=v)) (ab (λz=>(by grind)) λz=>(by grind))<| bm (λj=>bj h (by rw[s]at j;(have hm:bI v=Mp.nil/\fF v=90:=by grind[bI,fF,tf]);rw[hm.1,hm.2]<;>rfl) rfl rfl) λj=>bj h (by rw[s]at j;(have hm:bI v=Mp.mk a b c d/\fF v=0:=by grind[bI,fF,tf]);rw[hm.1,hm.2]) rfl rfl)
def uL:Ctr Un:=⟨[.enc 6],[],[],[],λf K=>K ⟨O (File.flags f),none,[],[],[]⟩⟩
theorem IC:LV Un Tryz.prog 181 uL:=dJ Tryz.func181 aj [] trivial [3] .leaf [] (F:=∀(f:Fl) Q,uL.body f Q->∀(d:Nat),∀(s:Fl),s=(Fl.norm f)->Fl.Ok s->split (Fl.z s) (Q ⟨O 1,none,[],[],[]⟩) (∀b:Int,b=0->split (Fl.n s) (∀a:Int,a=(u32.wrap (BitVec.ofInt u32.bits b ||| BitVec.ofInt u32.bits 2).toNat)->split (Fl.l s) (∀c:Int,c=(u32.wrap (BitVec.ofInt u32.bits a ||| BitVec.ofInt u32.bits 4).toNat)->Q ⟨O c,none,[],[],[]⟩) (Q ⟨O a,none,[],[],[]⟩)) (split (Fl.l s) (∀a:Int,a=(u32.wrap (BitVec.ofInt u32.bits b ||| BitVec.ofInt u32.bits 4).toNat)->Q ⟨O a,none,[],[],[]⟩) (Q ⟨O b,none,[],[],[]⟩)))) λf Q h=>λd=>λs l f1=>ab (λe=>fm h (by subst_vars;simp only[Fl.norm]at *;(simp[File.flags, *];done))) λe=>λb m=>ab (λg=>λa i=>ab (λj=>λc o=>fm h (by subst_vars;simp only[Fl.norm]at *;(simp only[File.flags, *];rfl))) λj=>fm h (by subst_vars;simp only[Fl.norm]at *;(simp only[File.flags, *];rfl))) λg=>ab (λk=>λa i=>fm h (by subst_vars;simp only[Fl.norm]at *;(simp only[File.flags, *];rfl))) λk=>fm h (by subst_vars;simp only[Fl.norm]at *;(simp[File.flags, *];done))
def ki:Ctr Un:=⟨[.enc 6,.one (.int .u32)],[],[],[],λf w K=>Fl.Ok f/\(0<=(w:Int)/\(w:Int)<4294967296)/\K ⟨(.tuple #[(.agg ⟨Fl.cells (File.dF f w)⟩),J (File.eZ w)]),kn2,[],[],[]⟩⟩
theorem Du:LV Un Tryz.prog 177 ki:=dJ Tryz.func177 aj [(181,uL)] ⟨IC,trivial⟩ [8,11,14] .leaf [] (F:=∀(f:Fl) w Q,ki.body f w Q->∀(B:Nat),∀(s:Fl),s=(Fl.norm f)->Fl.Ok s->∀(C:Nat),∀(s1:Fl),s1=Fl.zero->Fl.Ok s1->∀g:Bool,g=((u32.wrap (BitVec.ofInt u32.bits w &&& BitVec.ofInt u32.bits 1).toNat:Int) !=0)->∀i:Bool,i=((u32.wrap (BitVec.ofInt u32.bits w &&& BitVec.ofInt u32.bits 2).toNat:Int) !=0)->∀j:Bool,j=((u32.wrap (BitVec.ofInt u32.bits w &&& BitVec.ofInt u32.bits 4).toNat:Int) !=0)->True/\∀(s2:Fl),s2=({s with z:=g}:Fl)->Fl.Ok s2->True/\∀(p:Fl),p=({s2 with n:=i}:Fl)->Fl.Ok p->True/\∀(a:Fl),a=({p with l:=j}:Fl)->Fl.Ok a->True/\split ((File.flags (Fl.norm a)) !=w) (True/\∀(b:Fl),b=Fl.zero->Fl.Ok b->True/\Q ⟨(.tuple #[(.agg ⟨Fl.cells b⟩),J 80]),kn2,[],[],[]⟩) (True/\True/\∀(b:Fl),b=(Fl.norm a)->Fl.Ok b->True/\Q ⟨(.tuple #[(.agg ⟨Fl.cells b⟩),J 0]),kn2,[],[],[]⟩)) λf w Q h=>by
 obtain⟨u,d,h⟩:=h;exact λB=>λs v f1=>λC=>λs1 D f2=>λg k=>λi m=>λj o=>ak trivial λ_=>λs2 x f4=>ak trivial λ_=>λp y f6=>ak trivial λ_=>λa A f8=>ak trivial λ_=>aG (λc=>ak trivial λ_=>λb r f11=>ak trivial λ_=>(by(have q:Fl.norm a= {f with z:=g,n:=i,l:=j}:=by rw[Fl.norm_eq (show Fl.Ok a by assumption),A,y,x,v,Fl.norm_eq u]);(rw[gU 0 1 (by decide) (by omega) d]at k);(rw[gU 1 2 (by decide) (by omega) d]at m);(rw[gU 2 4 (by decide) (by omega) d]at o);have hi:=File.At d;(have e:File.eP w=false:=(by rw[q,k,m,o]at c;simp only[File.flags]at c;rw[hi]at c;simpa using c));exact bj h (fy (aB (flE (by rw[File.qx e,r])) (aB (cx (by rw[File.qy e])) rfl))) rfl rfl)) λc=>ak trivial λ_=>ak trivial λ_=>λb r f15=>ak trivial λ_=>(by(have q:Fl.norm a= {f with z:=g,n:=i,l:=j}:=by rw[Fl.norm_eq (show Fl.Ok a by assumption),A,y,x,v,Fl.norm_eq u]);(rw[gU 0 1 (by decide) (by omega) d]at k);(rw[gU 1 2 (by decide) (by omega) d]at m);(rw[gU 2 4 (by decide) (by omega) d]at o);have hi:=File.At d;(have e:File.eP w=true:=(by rw[q,k,m,o]at c;simp only[File.flags]at c;rw[hi]at c;simpa using c));have t:=File.Fo e;exact bj h (fy (aB (flE (by rw[File.tK e,r,q,k,m,o,t.1,t.2.1,t.2.2])) (aB (cx (by rw[File.tL e])) rfl))) rfl rfl)
def gV:Ctr Un:=⟨[.enc 6,.one (.int .u32)],[],[],[],λf w K=>Fl.Ok f/\(0<=(w:Int)/\(w:Int)<4294967296)/\K ⟨(.tuple #[(.agg ⟨Fl.cells (File.dF f w)⟩),J (File.eZ w)]),kn2,[],[],[]⟩⟩
theorem yP:LV Un Tryz.prog 159 gV:=dJ Tryz.func159 aj [] trivial [] (.r' (.two (.two (.node [] (some ⟨[(23,(.one .bool))],[],upN 6 18,[]⟩) [] [] .leaf .leaf) .leaf) (.r' (.two (.node [] (some ⟨[],[],upN 28 7,[(0,(.ob 10))]⟩) [] [] .leaf .leaf) (.two (.node [] (some ⟨[],[],upN 35 7,[(0,(.ob 10))]⟩) [] [] .leaf .leaf) .leaf))))) [] (F:=∀(f:Fl) w Q,gV.body f w Q->∀(o:Nat),∀(s:Fl),s=(Fl.norm f)->Fl.Ok s->∀(p:Nat),∀(s1:Fl),s1=Fl.zero->Fl.Ok s1->∃d:Bool->Prop,(split (w !=0) (split (w !=1) (split (w !=2) (split (w !=4) (d (w !=6)) (d false)) (d false)) (d false)) (d false))/\∀(_gv2:Nat->Value)(m:Bool),d m->split m (True/\∀(s2:Fl),s2=Fl.zero->Fl.Ok s2->True/\Q ⟨(.tuple #[(.agg ⟨Fl.cells s2⟩),J 80]),kn2,[],[],[]⟩) (True/\∀(s2:Fl),s2=({s with z:=((w:Int)==1)}:Fl)->Fl.Ok s2->∃i:Fl->Prop,(split (w==2) (True/\∀(a:Fl),a=({s2 with n:=true}:Fl)->Fl.Ok a->i a) (True/\∀(a:Fl),a=({s2 with n:=((w:Int)==6)}:Fl)->Fl.Ok a->i a))/\∀(_gv3:Nat->Value)(b:Fl),i b->Fl.Ok b->∃j:Fl->Prop,(split (w==4) (True/\∀(a:Fl),a=({b with l:=true}:Fl)->Fl.Ok a->j a) (True/\∀(a:Fl),a=({b with l:=((w:Int)==6)}:Fl)->Fl.Ok a->j a))/\∀(_gv4:Nat->Value)(c:Fl),j c->Fl.Ok c->True/\True/\∀(a:Fl),a=(Fl.norm c)->Fl.Ok a->True/\Q ⟨(.tuple #[(.agg ⟨Fl.cells a⟩),J 0]),kn2,[],[],[]⟩)) λf w Q h=>by
 obtain⟨q,E,h⟩:=h;exact λo=>λs r f1=>λp=>λs1 G f2=>bF (((w:Int) !=0) && (((w:Int) !=1) && (((w:Int) !=2) && (((w:Int) !=4) && ((w:Int) !=6))))) (ab (λt=>ab (λu=>ab (λv=>ab (λx=>(by grind)) λx=>(by grind)) λv=>(by grind)) λu=>(by grind)) λt=>(by grind))<| cJ (λy=>ak trivial λ_=>λs2 k f4=>ak trivial λ_=>(by(have e:File.eP w=false:=(by(grind[File.eP])));exact bj h (fy (aB (flE (by rw[File.qx e,k])) (aB (cx (by rw[File.qy e])) rfl))) rfl rfl)) λy=>ak trivial λ_=>λs2 k f7=>⟨λb=>(b= {s2 with n:=decide (w=2\/w=6)}),aE (λA=>ak trivial λ_=>λa g f9=>(by grind)) λA=>ak trivial λ_=>λa g f11=>(by grind),λ_ b B=>λf12=>⟨λc=>(c= {b with l:=decide (w=4\/w=6)}),aE (λC=>ak trivial λ_=>λa g f14=>(by grind)) λC=>ak trivial λ_=>λa g f16=>(by grind),λ_ c D=>λf17=>ak trivial λ_=>ak trivial λ_=>λa g f20=>ak trivial λ_=>(by(have e:File.eP w=true:=(by(grind[File.eP])));exact bj h (fy (aB (flE (by(rw[File.tK e,g,Fl.norm_eq (show Fl.Ok c by assumption),D,B,k,r,Fl.norm_eq q];grind))) (aB (cx (by rw[File.tL e])) rfl))) rfl rfl)⟩⟩
def ml:Ctr Un:=⟨[.one (.sl 0)],[],[.lst 1 false 22],[],λA c l K=>((∀x∈l,0<=x.v/\x.v<4294967296))/\K ⟨(.tuple #[(.agg ⟨Fl.cells (File.unpack l)⟩),J (File.de l)]),kn2,[],[],[]⟩⟩
def Ga(A:oA)(c:Nat)(l:List U32)(Q:Ou Un->Prop):Prop:=∀(f:Nat),∀(s:Fl),s=Fl.zero->Fl.Ok s->split ((l.length:Int) !=17) (True/\∀(s1:Fl),s1=Fl.zero->Fl.Ok s1->True/\Q ⟨(.tuple #[(.agg ⟨Fl.cells s1⟩),J 80]),kn2,[],[],[]⟩) ((0<l.length/\15<=l.length)/\(15<=l.length)/\(0<=(15:Int)/\(15:Int)<(l.length:Int))/\∀(g:Nat),∀(s1:Fl),s1=Fl.zero->Fl.Ok s1->True/\∀(s2:Fl),s2=(Fl.mk [uM (vG l 0),uM (vG l 1),uM (vG l 2),uM (vG l 3),uM (vG l 4),uM (vG l 5),uM (vG l 6),uM (vG l 7),uM (vG l 8),uM (vG l 9),uM (vG l 10),uM (vG l 11),uM (vG l 12),uM (vG l 13),uM (vG l 14)] (vG l (Int.toNat 15)) false false false)->Fl.Ok s2->True/\(0<=(16:Int)/\(16:Int)<(l.length:Int))/\Fl.Ok (Fl.norm s2)/\(0<=(vG l (Int.toNat 16))/\(vG l (Int.toNat 16))<4294967296)/\True/\∀(b:Fl),b=(Fl.norm (File.dF (Fl.norm s2) (vG l (Int.toNat 16))))->Fl.Ok b->∃d:Bool->Prop,(split ((File.eZ (vG l (Int.toNat 16)))==0) (True/\d (bk ⟨Fl.cells b⟩ ⟨Fl.cells Fl.zero⟩)) (d false))/\∀(_gv2:Nat->Value)(e:Bool),d e->split e (True/\∀(a:Fl),a=Fl.zero->Fl.Ok a->True/\Q ⟨(.tuple #[(.agg ⟨Fl.cells a⟩),J 0]),kn2,[],[],[]⟩) (True/\True/\∀(a:Fl),a=(Fl.norm b)->Fl.Ok a->True/\Q ⟨(.tuple #[(.agg ⟨Fl.cells a⟩),J (File.eZ (vG l (Int.toNat 16)))]),kn2,[],[],[]⟩))
theorem Gb:Vc2 Un Tryz.prog (dU [(177,ki)]) [] Tryz.f154 (.r' (.r' (.two (.node [] none [] [(2,[0]),(5,[0])] .leaf .leaf) (.two (.node [] none [] [(0,[2]),(3,[0])] .leaf .leaf) (.two (.two (.node [] (some ⟨[(31,(.one .bool))],[],upN 25 7,[]⟩) [] [] .leaf .leaf) .leaf) .leaf))))) [] ml=(∀A c (l:List U32),∀Q,(((∀x∈l,0<=x.v/\x.v<4294967296))/\Q ⟨(.tuple #[(.agg ⟨Fl.cells (File.unpack l)⟩),J (File.de l)]),kn2,[],[],[]⟩)->Ga A c l Q):=by kernel_rfl
theorem F9:LV Un Tryz.prog 154 ml:=verify Tryz.func154 aj (tb:= [(177,ki)]) ⟨Du,trivial⟩ (by kernel_rfl) (Gb.mpr λA c l Q h=>by
 obtain⟨m,h⟩:=h;exact λt=>λs u f1=>aG (λo=>ak trivial λ_=>λs1 i f3=>ak trivial λ_=>(by(have a:¬l.length=17:=by omega);exact bj h (fy (aB (flE (by rw[(File.jR a).1,i])) (aB (cx (by rw[(File.jR a).2])) rfl))) rfl rfl)) λo=>ak (by omega) λv=>ak (by omega) λx=>ak (by omega) λy=>λz=>λs1 i f8=>ak trivial λ_=>λs2 j f10=>ak trivial λ_=>ak (by omega) λB=>ak (Fl.DY _) λC=>ak (File.tD m _) λD=>ak trivial λ_=>λb k f16=>bF ((((File.eZ ((l.getD (Int.toNat 16) (uM 0)).v)):Int)==0) && (bk ⟨Fl.cells b⟩ ⟨Fl.cells Fl.zero⟩)) (ab (λp=>ak trivial λ_=>(by grind)) λp=>(by grind))<| cJ (λd=>ak trivial λ_=>λq e f19=>ak trivial λ_=>(by(have a:l.length=17:=by omega);have hu:=File.kF a;(have f:Fl.norm s2=File.bare l:=by rw[Fl.norm_eq (show Fl.Ok s2 by assumption),j,File.bare_eq a]);(have g:b=File.dF (File.bare l) (l.getD 16 (uM 0)).v:=by rw[k,f];exact Fl.norm_eq (File.nf a _));(have r:=Fl.JS (show Fl.Ok b by assumption) d.2);exact bj h (fy (aB (flE (by rw[hu.1,<-g,r,e])) (aB (cx (by(rw[hu.2];simpa using d.1))) rfl))) rfl rfl)) λd=>ak trivial λ_=>ak trivial λ_=>λq e f23=>ak trivial λ_=>(by(have a:l.length=17:=by omega);have hu:=File.kF a;(have f:Fl.norm s2=File.bare l:=by rw[Fl.norm_eq (show Fl.Ok s2 by assumption),j,File.bare_eq a]);(have g:b=File.dF (File.bare l) (l.getD 16 (uM 0)).v:=by rw[k,f];exact Fl.norm_eq (File.nf a _));exact bj h (fy (aB (flE (by(rw[hu.1,<-g,e];exact(Fl.norm_eq ‹_›).symm))) (aB (cx (by exact hu.2)) rfl))) rfl rfl))
def lH:Ctr Un:=⟨[.one (.sl 0)],[],[.lst 1 false 22],[],λA c l K=>((∀x∈l,0<=x.v/\x.v<4294967296))/\K ⟨(.tuple #[(.agg ⟨Fl.cells (File.unpack l)⟩),J (File.de l)]),kn2,[],[],[]⟩⟩
def BN(A:oA)(c:Nat)(l:List U32)(Q:Ou Un->Prop):Prop:=∀(e:Nat),∀(s:Fl),s=Fl.zero->Fl.Ok s->split ((l.length:Int) !=17) (True/\∀(s1:Fl),s1=Fl.zero->Fl.Ok s1->True/\Q ⟨(.tuple #[(.agg ⟨Fl.cells s1⟩),J 80]),kn2,[],[],[]⟩) (∀(f:Nat),∀(s1:Fl),s1=Fl.zero->Fl.Ok s1->∀i:Int,i=0->∃I:Nat->Int->Fl->Prop,(∃m,I m i s1)/\∀(m:Nat)(_gv2:Nat->Value)(i1:Int)(s2:Fl),I m i1 s2->Fl.Ok s2->split (decide (i1<15)) ((0<=i1/\i1<(l.length:Int))/\((0<=i1/\i1<((Fl.rs s2).length:Int))/\i1<(15:Int))/\True/\∀(a:Fl),a=(Fl.uX s2 i1.toNat (uM (vG l i1.toNat)))->Fl.Ok a->∀i2:Int,i2=(i64.wrap (i1+1))->∃d,d<m/\I d i2 a) ((0<=(15:Int)/\(15:Int)<(l.length:Int))/\True/\∀(a:Fl),a=({s2 with pc:=(l.getD (Int.toNat 15) (uM 0)).v}:Fl)->Fl.Ok a->True/\(0<=(16:Int)/\(16:Int)<(l.length:Int))/\Fl.Ok (Fl.norm a)/\(0<=(vG l (Int.toNat 16))/\(vG l (Int.toNat 16))<4294967296)/\True/\∀(b:Fl),b=(Fl.norm (File.dF (Fl.norm a) (vG l (Int.toNat 16))))->Fl.Ok b->True/\Q ⟨(.tuple #[(.agg ⟨Fl.cells b⟩),J (File.eZ (vG l (Int.toNat 16)))]),kn2,[],[],[]⟩))
theorem BO:Vc2 Un Tryz.prog (dU [(159,gV)]) [5] Tryz.f132 (.r' (.r' (.r' (.two (.r' (.two (.node [] (some ⟨[(5,(.one (.int .i64)))],[],[5]++upN 10 11,[(2,(.ob 10))]⟩) [] [] .leaf .leaf) .leaf)) (.r' (.two (.node [] none [] [(0,[2]),(3,[0])] .leaf .leaf) .leaf)))))) [] lH=(∀A c (l:List U32),∀Q,(((∀x∈l,0<=x.v/\x.v<4294967296))/\Q ⟨(.tuple #[(.agg ⟨Fl.cells (File.unpack l)⟩),J (File.de l)]),kn2,[],[],[]⟩)->BN A c l Q):=by kernel_rfl
theorem BM:LV Un Tryz.prog 132 lH:=verify Tryz.func132 aj (tb:= [(159,gV)]) ⟨yP,trivial⟩ (by kernel_rfl) (BO.mpr λA c l Q h=>by
 obtain⟨j,h⟩:=h;exact λv=>λs x f1=>aG (λk=>ak trivial λ_=>λs1 b f3=>ak trivial λ_=>(by(have a:¬l.length=17:=by omega);exact bj h (fy (aB (flE (by rw[(File.jR a).1,b])) (aB (cx (by rw[(File.jR a).2])) rfl))) rfl rfl)) λk=>λy=>λs1 b f5=>λi o=>⟨λm i1 s2=>(m=(15 - i1).toNat)/\(0<=i1/\i1<=15)/\(s2=File.part l i1),⟨_,rfl,(by omega),(by rw[b,o];rfl)⟩,λm _ i1 s2 ⟨hm,hi,g⟩=>λf6=>af (λp=>ak (by omega) λz=>ak (by(have B:s2.rs.length=15:=(show Fl.Ok s2 by assumption));omega) λC=>ak trivial λ_=>λd e f10=>λi2 f=>⟨_,(by rw[f,aa (by omega)];omega),rfl,(by rw[f,aa (by omega)];omega),(by rw[e,g,f];exact File.E5 (by omega) (by omega))⟩) λp=>ak (by omega) λD=>ak trivial λ_=>λd e f13=>ak trivial λ_=>ak (by omega) λE=>ak (Fl.DY _) λF=>ak (File.tD j _) λG=>ak trivial λ_=>λq r f19=>ak trivial λ_=>(by(have a:l.length=17:=by omega);have hu:=File.kF a;(have t:Fl.norm d=File.bare l:=by rw[Fl.norm_eq (show Fl.Ok d by assumption),e,g,File.GV ‹_› hi.2];rfl);(have u:q=File.dF (File.bare l) (l.getD 16 (uM 0)).v:=by rw[r,t];exact Fl.norm_eq (File.nf a _));exact bj h (fy (aB (flE (by rw[hu.1,u])) (aB (cx (by exact hu.2)) rfl))) rfl rfl)⟩)
end Go.Proofs.YtoghdgcmhbanbaaGreatDoor
end
