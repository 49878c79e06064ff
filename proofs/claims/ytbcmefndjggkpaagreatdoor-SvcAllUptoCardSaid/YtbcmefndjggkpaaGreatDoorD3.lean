/- SvcAll returns true for every input of bulk at most 1048576; each argument reads behind the call as it read before. -/
import Derived.Test.YtbcmefndjggkpaaGreatDoorD2
import Derived.Great.BuildSlice
set_option linter.unusedVariables false
set_option linter.unusedSimpArgs false
set_option maxRecDepth 100000
set_option maxHeartbeats 1000000
namespace Go.Proofs.YtbcmefndjggkpaaGreatDoor
open Go.Proofs.Tryz (prog)
namespace V
open Go Go.RowKit
open Go.IntKind (i64 u32 u64 wrap_i64 wrap_u32)
open Enc (enc)
section
section
variable {U:Uni}{P:Program}{tbl:Tb U}{may:List Nat}{k0:Nat}
variable {w0:World}{X0 X:Nat->Nat->Prop}{w:World}{fr:Fr}{st:St U}{Qp:Option (List PanicEntry->World->Prop)}
theorem yD:∀ {vs:List Value}{F:Prop},(∀v,v∈vs->one? v True)->F->nI vs F
 | [],_,_,h=>h
 | v::r,F,a,h=>by
  have b:=pE (a v (List.mem_cons_self ..));have c:=yD (F:=F) (λu hu=>a u (List.mem_cons_of_mem _ hu)) h;unfold nI one?;cases v<;>first|exact c|exact absurd rfl (b.2.1 _)|exact absurd rfl (b.2.2 _)
theorem tS(t:Inv w0 k0 X0 may st.rs X w)(f:aK st.rs fr st.kn){i:Nat}{a b:Res U}(o:nth st.rs i=some a)(p:l4 may k0 i=true){w':World}(q:Ch (X i) w w')(u:eC a b)(v:RS (X i) w' b){s:List (Key×Kn)}(x:aK (cV st.rs i b) fr s):
 ft w0 k0 X0 may fr st X w ⟨cV st.rs i b,s,i::st.md⟩ X w' [i]:=by
 have hi:=bG o;have hinv:=t.set hi (ja p) q v (λk f=>.inl f);have e:k9 X i (X i)=X:=by
  funext j;unfold k9;split
  ·rename_i h;rw[h]
  ·rfl
 rw[e]at hinv;exact⟨hinv,x,rfl,λj d=>by simp at d;subst d;exact hi,λj d=>by simp at d;subst d;exact ja p,by simp,λj d g=>⟨by rw[bY,if_neg (λl=>g (by simp[l.1]))],rfl⟩,λ_ _ _ h=>.inl h,λj z y=>by simp at y;omega,q.mono λk f=>⟨i,by simp,f⟩,λj c d=>by
  by_cases g:j=i
  ·subst g;rw[o]at d;injection d with d
   subst d;exact⟨b,by rw[bY,if_pos ⟨rfl,hi⟩],u⟩
  ·exact⟨c,by rw[bY,if_neg (λl=>g l.1)];exact d,eC.refl c⟩⟩
theorem qv(g:Inv w0 k0 X0 may st.rs X w)(b:aK st.rs fr st.kn){r:Res U}{Z:Nat->Prop}{w':World}(q:Pu w w')(l:RS Z w' r)(d:∀k,Z k->w.heap.size<=k){e:List (Key×Kn)}(o:aK (st.rs++ [r]) fr e):
 ft w0 k0 X0 may fr st X w ⟨st.rs++ [r],e,st.md⟩ (k9 X st.rs.length Z) w' []:=
 ⟨g.more q l d,o,rfl,λj c=>(by cases c),λj c=>(by cases c),by simp,λi hi _=>⟨by rw[bZ,if_pos hi],jY _ _ (by omega)⟩,λi hi=>(by cases hi),λi s p k b=>by
  simp at p;obtain rfl:i=st.rs.length:=by omega
  rw[updX_eq]at b;exact d k b,q.mono λk h=>h.elim,λi a f=>⟨a,by rw[bZ,if_pos (bG f)];exact f,eC.refl a⟩⟩
theorem tn(a:aK st.rs fr st.kn)(r:Res U):aK (st.rs++ [r]) fr st.kn:=
 a.jK (M:= []) (λi hi _=>by rw[bZ,if_pos hi]) (λi hi=>by cases hi) λkey k h=>⟨h,λp _=>.inl (by simp),λid off _=>.inl (by simp)⟩
theorem Blk.rs {g:Nat}{cs:Array Value}{T:TypeId}{w':World}(h:Blk w' g cs T):RS (U:=U) (λk=>k=g) w' (.blk g cs.toList T):=⟨rfl,λ_ h=>h,h⟩
theorem l8 {α:Type}(vs L:List α)(off:Nat)(h:off+vs.length<=L.length):ik L off vs=L.take off++vs++L.drop (off+vs.length):=by
 apply List.ext_getElem?;intro j;rw[<-aY,nm _ _ _ _ h,List.append_assoc];by_cases a:off<=j/\j<off+vs.length
 ·rw[if_pos a,List.getElem?_append_right (by simp;omega),List.getElem?_append_left (by simp;omega),aY];congr 1;simp;omega
 ·rw[if_neg a,aY];by_cases b:j<off
  ·rw[List.getElem?_append_left (by simp;omega),List.getElem?_take,if_pos b]
  ·rw[List.getElem?_append_right (by simp;omega),List.getElem?_append_right (by simp;omega),List.getElem?_drop];congr 1;simp;omega
theorem jW.cells {rs:List (Res U)}{v:Value}{k:Kn}(h:jW rs v k)(e:∀l,k≠ .ag l):v.cells= #[v]:=by
 cases k with
 |pan=>exact h.elim
 |ag l=>exact absurd rfl (e l)
 | p k=>
  have h:cQ U k (nth rs k.id)=some v:=h;cases d:nth rs k.id with
  |none=>rw[d]at h;cases k<;>simp[cQ]at h
  | some r=>
   rw[d]at h;cases k with
   |loc _ _=>cases r<;>simp only[cQ,reduceCtorEq,Option.some.injEq]at h;subst h;rfl
   |obj _ _ _=>cases r<;>simp only[cQ,reduceCtorEq,Option.some.injEq]at h;subst h;rfl
   | sl _ li=>
    simp only[cQ]at h;split at h
    ·injection h with h;subst h;rfl
    ·cases h
   | el _ li _ _=>
    simp only[cQ]at h;split at h
    ·split at h
     ·injection h with h;subst h;rfl
     ·cases h
    ·cases h
 |w k n=>obtain⟨a,c,_,rfl⟩:=h;rfl
 |t l=>obtain⟨vs,rfl,_⟩:=h;rfl
 |f a b=>obtain⟨f,fs,cs,rfl,_,_⟩:=h;rfl
theorem oz {id:Nat}{key:Key}{q:Kn}:∀ {l:List (Option PK)}{o:Nat},(key,q)∈yX id o l->∃j p,key=.c id (o+j)/\q=.p p/\nth l j=some (some p)
 | [],_,h=>by cases h
 | none::l,o,h=>by
  obtain⟨j,p,a,b,c⟩:=oz (l:=l) (o:=o+1) h;exact⟨j+1,p,by rw[a];congr 1;omega,b,c⟩
 | some p::l,o,h=>by
  rcases List.mem_cons.1 h with e|h
  ·injection e with d f
   exact⟨0,p,d,f,rfl⟩
  ·obtain⟨j,p,a,b,c⟩:=oz (l:=l) (o:=o+1) h;exact⟨j+1,p,by rw[a];congr 1;omega,b,c⟩
theorem rY {rs:List (Res U)}{v:Value}{ky:Option Kn}(c:KnO rs v ky){id off:Nat}{sc:Bool}{key:Key}{q:Kn}(h:(key,q)∈cellsOf id off sc ky):∃j u,key=.c id (off+j)/\nth v.cells.toList j=some u/\jW rs u q:=by
 have one:∀ {k:Kn},ky=some k->(∀l,k≠ .ag l)->(key,q)∈(match sc with|true=>[(Key.c id off,k)]|false=>[])->∃j u,key=.c id (off+j)/\nth v.cells.toList j=some u/\jW rs u q:=by
  intro k d g hm;subst d;split at hm
  ·simp only[List.mem_singleton,Prod.mk.injEq]at hm;obtain⟨rfl,rfl⟩:=hm;exact⟨0,v,rfl,by rw[jW.cells c g];rfl,c⟩
  ·cases hm
 cases ky with
 |none=>cases h
 | some k=>
  cases k with
  |pan=>cases h
  |w k n=>cases h
  | ag l=>
   obtain⟨j,p,i,o,s⟩:=oz h;obtain⟨cs,rfl,x⟩:=c;obtain⟨u,hu,hd⟩:=x j p s;subst o;exact⟨j,u,i,by show nth cs.toList j=_;rw[aY];simpa using hu,hd⟩
  |p p=>exact one rfl (λl e=>by cases e) h
  |t l=>exact one rfl (λl e=>by cases e) h
  |f a b=>exact one rfl (λl e=>by cases e) h
theorem aK.roots {rs rs':List (Res U)}{fr:Fr}{kn:List (Key×Kn)}(h:aK rs fr kn)(e:∀i a,nth rs i=some a->∃b,nth rs' i=some b/\(a=b\/∃t own T A c l l',a=.lst t own T A c l/\b=.lst t own T A c l'/\l'.length=l.length)):aK rs' fr kn:=by
 have hd:∀p u,den U rs p=some u->den U rs' p=some u:=by
  intro p u hu;unfold den at hu ⊢;cases f:nth rs p.id with
  |none=>rw[f]at hu;cases p<;>simp[cQ]at hu
  | some a=>
   rw[f]at hu;obtain⟨b,d,rfl|⟨t,own,T,A,c,l,l',rfl,rfl,y⟩⟩:=e _ _ f
   ·rw[d];exact hu
   ·rw[d,<-hu];cases p<;>simp only[cQ,iA,y]
 intro key k z;have j:=h key k z;cases key with
 |s i=>exact jW.mono j λp _=>hd p
 | c id off=>
  obtain⟨g,cs,T,v,o,q,B⟩:=j;obtain⟨b,d,rfl|⟨_,_,_,_,_,_,_,x,_⟩⟩:=e _ _ o
  ·exact⟨g,cs,T,v,d,q,B.mono λp _=>hd p⟩
  ·cases x
 | l id path=>
  obtain⟨t,r,s,o,q⟩:=j;obtain⟨b,d,rfl|⟨_,_,_,_,_,_,_,x,_⟩⟩:=e _ _ o
  ·exact⟨t,r,s,d,q.mono λp _=>hd p⟩
  ·cases x
theorem jr {t:TypeId}{x y:Operand}{p:Addr}{fr:Fr}{dst:Option Tmp}{ty:TypeId}{pos:String}{after:Array Edge}{f:Option (Nat×Bool)}{Y:Bool}{K:bq}(g:ev fr x=.pointer (some p))(b:Jk P t=false)(c:Nat.beq (ev fr y).cells.toList.length (bw P t)=true)(d:hasType P t=true)
 (e:∀v,v∈(ev fr y).cells.toList->one? v True)(h:aF w p (ev fr y).cells.toList λw'=>K undef w'):opW P Y Qp ⟨dst,.store t x y,ty,pos,after,f⟩ (ev fr) w K:=by
 refine Eo (C:= []) rfl ?_;show(match ev fr x with
  | .pointer a=>match eV P t with
   | .row n=>(match hasType P t && Nat.beq n (bw P t),ev fr y with
    |true,.agg cs=>ay a λp=>cs.size=n/\(∀v∈cs.toList,one? v True)/\aF w p cs.toList λw'=>K undef w'
    |_,_=>False)
   | _=>match Nat.beq (ev fr y).cells.toList.length (bw P t) && hasType P t with
    |true=>ay a λp=>nI (ev fr y).cells.toList (aF w p (ev fr y).cells.toList λw'=>K undef w')
    |false=>False
  |_=>False)
 rw[g];unfold Jk at b;cases hs:eV P t with
 |row n=>rw[hs]at b;cases b
 |one s=>simp only[c,d];exact ar p rfl (yD e h)
 |agg l=>simp only[c,d];exact ar p rfl (yD e h)
theorem step_done {K:fH U}{st':St U}{X':Nat->Nat->Prop}{w':World}{M l:List Nat}{v:Value}{k:Option Kn}(hs:ft w0 k0 X0 may fr st X w st' X' w' M)(b:KnO st'.rs v k)(h:nmL st'.rs l λa=>K v k ⟨a,st'.kn,st'.md⟩):
 ∃k st' X' M,K v k st'/\KnO st'.rs v k/\ft w0 k0 X0 may fr st X w st' X' w' M:=
 ⟨k,st',X',M,np (F:=λa=>K v k ⟨a,st'.kn,st'.md⟩) (λi r c=>⟨_,_,hs.inv.sat.res i r c⟩) h,b,hs⟩
theorem qC {tt:Nat}{r:Nat->Nat}{s b:U.ty tt}{id:Nat}{u:Value}{K:fH U}(f:Inv w0 k0 X0 may st.rs X w)(e:aK st.rs fr st.kn)(d:nth st.rs id=some (.ob tt r s))(g:l4 may k0 id=true){w2:World}(hq:Ch (X id) w w2)(h:U.pred tt r b (X id) w2)
 (j:nmL (cV st.rs id (.ob tt r b)) [id] λl=>K u none ⟨l,fT [id] st.kn,id::st.md⟩):
 ∃k st' X' M,K u k st'/\KnO st'.rs u k/\ft w0 k0 X0 may fr st X w st' X' w2 M:=by
 refine step_done (k:=none) (st':=⟨cV st.rs id (.ob tt r b),fT [id] st.kn,id::st.md⟩) (tS f e d g hq (.ob tt r s b) h ?_) trivial j;refine e.fT (M:= [id]) (λi _ hi=>by rw[bY,if_neg (λo=>hi (by simp[o.1]))]) λi hi a c=>?_;simp only[List.mem_singleton]at hi;subst hi;rw[d]at c;injection c with c
 subst c;exact⟨_,by rw[bY,if_pos ⟨rfl,bG d⟩],.ob tt r s b⟩
theorem CI {t:TypeId}{x y:Operand}{p:Addr}{n:Nat}{cs:Array Value}{fr:Fr}{dst:Option Tmp}{ty:TypeId}{pos:String}{after:Array Edge}{b:Option (Nat×Bool)}{Y:Bool}{K:bq}(c:ev fr x=.pointer (some p))(d:eV P t=.row n)(e:ev fr y=.agg cs)(f:Nat.beq n (bw P t)=true)(g:cs.size=n)(i:hasType P t=true)
 (j:∀v,v∈cs.toList->one? v True)(h:aF w p cs.toList λw'=>K undef w'):opW P Y Qp ⟨dst,.store t x y,ty,pos,after,b⟩ (ev fr) w K:=by
 refine Eo (C:= []) rfl ?_;show(match ev fr x with
  | .pointer a=>match eV P t with
   | .row n=>(match hasType P t && Nat.beq n (bw P t),ev fr y with
    |true,.agg cs=>ay a λp=>cs.size=n/\(∀v∈cs.toList,one? v True)/\aF w p cs.toList λw'=>K undef w'
    |_,_=>False)
   | _=>match Nat.beq (ev fr y).cells.toList.length (bw P t) && hasType P t with
    |true=>ay a λp=>nI (ev fr y).cells.toList (aF w p (ev fr y).cells.toList λw'=>K undef w')
    |false=>False
  |_=>False)
 rw[c,d,e];simp only[i,f,Bool.and_self];exact ar p rfl ⟨g,j,h⟩
theorem Aj {t:TypeId}{x y:Operand}{K:fH U}(d:Inv w0 k0 X0 may st.rs X w)(e:aK st.rs fr st.kn)(h:yx U P may k0 t (kf st.kn x) (ev fr y) st K){Y:Bool}{dst:Option Tmp}{ty:TypeId}{pos:String}{after:Array Edge}{g:Option (Nat×Bool)}:
 opW P Y Qp ⟨dst,.store t x y,ty,pos,after,g⟩ (ev fr) w λv w'=>∃k st' X' M,K v k st'/\KnO st'.rs v k/\ft w0 k0 X0 may fr st X w st' X' w' M:=by
 unfold yx at h;have f:=e.kf x;split at h
 ·rename_i n id path off cs i j l;rw[j]at f;split at h
  ·rename_i tt r s a b o;obtain⟨h,q⟩:=fX h;simp only[Bool.and_eq_true]at a;split at h
   ·rename_i c D u;obtain⟨z,A⟩:=h;have hd:den U st.rs (.obj id path off)=some (ev fr x):=f;simp only[den,PK.id,b,cQ,Option.some.injEq]at hd;have B:U.pred tt r s (X id) w:=d.sat.res id _ b;exact CI (p:=⟨r path,off,none⟩) hd.symm i l a.2.1 (by have:=Nat.eq_of_beq_eq_true a.2.2;simpa using this) a.1 q (U.rB B u z λw2 C hq=>qC d e b o hq C A)
   ·exact h.elim
  ·exact h.elim
 ·exact h.elim
theorem EP {v:Value}{ky:Option Kn}{sc:Bool}{id off g n:Nat}{cs:List Value}{T:TypeId}{u:Value}{K:fH U}(I:Inv w0 k0 X0 may st.rs X w)(H:aK st.rs fr st.kn)(Y:KnO st.rs v ky)(d:nth st.rs id=some (.blk g cs T))(Z:l4 may k0 id=true)(QB:v.cells.toList.length=n)(hb:off+n<=cs.length){w2:World}(hs:cJ w g (setAt ⟨cs⟩ off v.cells.toList) T w2)
 (h:K u none ⟨cV st.rs id (.blk g (ik cs off v.cells.toList) T),cellsOf id off sc ky++fL (λa _=>!(a.tp id off n)) st.kn,id::st.md⟩):
 ∃k st' X' M,K u k st'/\KnO st'.rs u k/\ft w0 k0 X0 may fr st X w st' X' w2 M:=by
 obtain⟨J,hX,YL⟩:=I.sat.res id _ d;rw[rF]at hs;have q:Ch (X id) w w2:=(cJ.ch hs).mono λk e=>e▸J;refine⟨none,_,X,[id],h,trivial,tS I H d Z q (.blk g cs (ik cs off v.cells.toList) T (by simp)) (show RS (X id) w2 (.blk g (ik cs off v.cells.toList) T)from⟨J,hX,hs.blk⟩) ?_⟩;have L:∀i,i∈ [id]->∀a,nth st.rs i=some a->∃b,nth (cV st.rs id (.blk g (ik cs off v.cells.toList) T)) i=some b/\eC a b:=by
  intro i hi a F;simp at hi;subst hi;rw[d]at F;injection F with F
  subst F;exact⟨_,by rw[bY,if_pos ⟨rfl,bG d⟩],.blk _ _ _ _ (by simp)⟩
 have O:∀i,i<st.rs.length->i ∉ [id]->nth (cV st.rs id (.blk g (ik cs off v.cells.toList) T)) i=nth st.rs i:=λi _ hi=>by rw[bY,if_neg (λhh=>hi (by simp[hh.1]))]
 have G:∀ {k:Kn}{v:Value},jW st.rs v k->∀p,k.has p->p.id ∉ [id]\/p.ofList p.id=false:=by
  intro k v x p y;by_cases Q:p.id=id
  ·right;cases ho:p.ofList p.id
   ·rfl
   ·exfalso;have aa:∃u,den U st.rs p=some u:=by
     cases k with
     |pan=>exact y.elim
     |p k=>cases y;exact⟨_,x⟩
     |w k n=>cases y;obtain⟨a,c,h1,_⟩:=x;exact⟨_,h1⟩
     |t l=>obtain⟨j,z⟩:=y;obtain⟨vs,_,B⟩:=x;obtain⟨u,_,hu⟩:=B j p z;exact⟨u,hu⟩
     |ag l=>obtain⟨j,z⟩:=y;obtain⟨vs,_,B⟩:=x;obtain⟨u,_,hu⟩:=B j p z;exact⟨u,hu⟩
     | f a b=>
      obtain⟨f,fs,cs,_,_,B,R⟩:=x;rcases y with⟨j,z⟩|⟨j,z⟩
      ·obtain⟨u,_,hu⟩:=B j p z;exact⟨u,hu⟩
      ·obtain⟨u,_,hu⟩:=R j p z;exact⟨u,hu⟩
    obtain⟨u,hu⟩:=aa;unfold den at hu;rw[Q,d]at hu;cases p<;>simp_all[cQ,PK.ofList,PK.id,iA]
  ·exact .inl (by simpa using Q)
 refine aK.app ?_ (H.jK O L λkey k hm=>?_)
 ·intro key q hq;obtain⟨j,u0,rfl,S,x⟩:=rY Y hq;refine⟨g,_,T,u0,by rw[bY,if_pos ⟨rfl,bG d⟩],?_,x.mono λp y u hu=>uR O L (G x p y) hu⟩;have z:=bG S;rw[nm _ _ _ _ (by omega),if_pos ⟨by omega,by omega⟩,show off+j - off=j by omega,S]
 ·obtain⟨V,W⟩:=fA hm;have A:=H _ _ V;refine⟨V,?_,λab ae e=>?_⟩
  ·cases key with
   |s i=>exact G A
   |c i o=>obtain⟨_,_,_,_,_,_,A⟩:=A;exact G A
   |l i o=>obtain⟨_,_,_,_,A⟩:=A;exact G A
  ·subst e;by_cases hi:ab=id
   ·subst hi;right;obtain⟨g',af,T',v,C,_⟩:=A;rw[d]at C;injection C with C
    injection C with C e2 e3
    subst C;subst e2;subst e3;refine⟨g,cs,_,T,d,by rw[bY,if_pos ⟨rfl,bG d⟩],?_⟩;rw[nm _ _ _ _ (by omega),if_neg];simp only[Key.tp,Nat.beq_refl,Bool.true_and,Bool.not_eq_true',Bool.and_eq_false_iff]at W;rintro⟨B,R⟩;rcases W with D|D
    ·rw[Nat.ble_eq_true_of_le B]at D;cases D
    ·have:Nat.blt ae (off+n)=true:=by rw[Nat.blt_eq];omega
     rw[this]at D;cases D
   ·exact .inl (by simpa using hi)
theorem CJ {t:TypeId}{x y:Operand}{K:fH U}(e:Inv w0 k0 X0 may st.rs X w)(f:aK st.rs fr st.kn)(h:CK U P may k0 t (kf st.kn x) (ev fr y) (kf st.kn y) st K){Y:Bool}{dst:Option Tmp}{ty:TypeId}{pos:String}{after:Array Edge}{gd:Option (Nat×Bool)}:
 opW P Y Qp ⟨dst,.store t x y,ty,pos,after,gd⟩ (ev fr) w λv w'=>∃k st' X' M,K v k st'/\KnO st'.rs v k/\ft w0 k0 X0 may fr st X w st' X' w' M:=by
 unfold CK at h;split at h
 ·exact Aj e f h
 split at h
 ·exact h.elim
 rename_i QM;simp only[Bool.and_eq_true,Bool.not_eq_true']at QM;obtain⟨Q,G,R⟩:=QM;have B:(ev fr y).cells.toList.length=bw P t:=Nat.eq_of_beq_eq_true G;have z:=f.kf x;have aa:=f.kf y;split at h
 ·rename_i id off H;rw[H]at z;split at h
  ·rename_i g cs T b q;split at h
   ·rename_i d;obtain⟨h,u⟩:=fX h;have d:off+bw P t<=cs.length:=Nat.le_of_ble_eq_true d;have hd:den U st.rs (.loc id off)=some (ev fr x):=z;simp only[den,PK.id,b,cQ,Option.some.injEq]at hd;obtain⟨hg,hX,YL⟩:=e.sat.res id _ b;refine jr hd.symm Q G R u ⟨g,off,⟨cs⟩,T,rfl,YL,by simpa[B]using d,λw2 hs=>?_⟩;exact EP e f aa b q B d hs h
   ·exact h.elim
  ·exact h.elim
 ·rename_i id i off H;rw[H]at z;split at h
  ·rename_i tt T A c l b q;split at h
   ·rename_i d;obtain⟨h,u⟩:=fX h;have d:off+bw P t<=(U.en tt).size:=Nat.le_of_ble_eq_true d;obtain⟨C,V,D⟩:=eB h;have hd:den U st.rs (.el id 0 i off)=some (ev fr x):=z;simp only[den,PK.id,b,cQ,iA]at hd;split at hd
    case isFalse=>cases hd
    rename_i hr;injection hd with hd
    obtain⟨ho,OP⟩:Own w (X id) T A l.length c l/\∀k,X id k->k<w.heap.size:=e.sat.res id _ b;have ab:i.toNat<l.length:=by omega
    obtain⟨g,hA,hZ,af⟩:=ho.lt (by omega);have Zr:=ho.len;have W:l[i.toNat]? =some (l.getD i.toNat (U.df tt)):=by rw[List.getD_eq_getElem?_getD,List.getElem?_eq_getElem (by omega)];rfl
    have Z:=U.iE V;have ae:(U.en tt).enc (l.getD i.toNat (U.df tt))=enc (l.getD i.toNat (U.df tt)):=rfl;have hlen:(enc (l.getD i.toNat (U.df tt))).length=(U.en tt).size:=dw _;have Yu:enc C=(enc (l.getD i.toNat (U.df tt))).take off++(ev fr y).cells.toList++(enc (l.getD i.toNat (U.df tt))).drop (off+(ev fr y).cells.toList.length):=by
     show(U.en tt).enc C=_;rw[Z,ae];exact l8 _ _ _ (by rw[hlen,B];exact d)
    refine jr (p:=elA U tt A i off) hd.symm Q G R u ?_;have F:=ho.st (p:=Addr.mk g 0 none) hA ab W (o:=off) (vs:=(ev fr y).cells.toList) (by rw[B];exact d) Yu (K:=λw2=>∃k st' X' M,K undef k st'/\KnO st'.rs undef k/\ft w0 k0 X0 may fr st X w st' X' w2 M) (λw2 UG hq=>by
     refine step_done (k:=none) (st':=⟨cV st.rs id (.lst tt true T A c (l.set i.toNat C)),st.kn,id::st.md⟩) (tS e f b q hq (.lst tt true T A A c c l (l.set i.toNat C)) (show RS (X id) w2 (.lst tt true T A c (l.set i.toNat C))from⟨by rw[List.length_set];exact UG,λk f=>Nat.lt_of_lt_of_le (OP k f) hq.size⟩) ?_) trivial D;refine f.roots λj a ha=>?_;by_cases hj:j=id
     ·subst hj;rw[b]at ha;injection ha with ha
      exact⟨_,by rw[bY,if_pos ⟨rfl,bG b⟩],.inr ⟨_,_,_,_,_,_,_,ha.symm,rfl,List.length_set ..⟩⟩
     ·exact⟨a,by rw[bY,if_neg (λhh=>hj hh.1)];exact ha,.inl rfl⟩)
    unfold elA;rw[hA];exact F
   ·exact h.elim
  ·rename_i tt r s b q;split at h
   ·rename_i L hL;split at h
    ·rename_i d;obtain⟨h,u⟩:=fX h;have d:off+bw P t<=(U.en L.t).size:=Nat.le_of_ble_eq_true d;obtain⟨C,V,h⟩:=eB h;split at h
     ·rename_i c s' F;obtain⟨I,D⟩:=h;have hd:den U st.rs (.el id 0 i off)=some (ev fr x):=z;simp only[den,PK.id,b,cQ,iA,hL]at hd;split at hd
      case isFalse=>cases hd
      rename_i hr;injection hd with hd
      have J:U.pred tt r s (X id) w:=e.sat.res id _ b;have W:L.l[i.toNat]? =some (L.l.getD i.toNat (U.df L.t)):=by rw[List.getD_eq_getElem?_getD,List.getElem?_eq_getElem (by omega)];rfl
      have Z:=U.iE V;have hlen:((U.en L.t).enc (L.l.getD i.toNat (U.df L.t))).length=(U.en L.t).size:=(U.en L.t).len _;have Yu:(U.en L.t).enc C=((U.en L.t).enc (L.l.getD i.toNat (U.df L.t))).take off++(ev fr y).cells.toList++((U.en L.t).enc (L.l.getD i.toNat (U.df L.t))).drop (off+(ev fr y).cells.toList.length):=by
       rw[Z];exact l8 _ _ _ (by rw[hlen,B];exact d)
      refine jr (p:=elA U L.t L.A i off) hd.symm Q G R u ?_;exact U.pj J hL W (by rw[B];exact d) Yu F I λw2 O hq=>qC e f b q hq O D
     ·exact h.elim
    ·exact h.elim
   ·exact h.elim
  ·exact h.elim
 ·rename_i id li i off H;rw[H]at z;split at h
  ·rename_i tt r s b q;split at h
   ·rename_i L hL;split at h
    ·rename_i d;obtain⟨h,u⟩:=fX h;have d:off+bw P t<=(U.en L.t).size:=Nat.le_of_ble_eq_true d;obtain⟨C,V,h⟩:=eB h;split at h
     ·rename_i c s' F;obtain⟨I,D⟩:=h;have hd:den U st.rs (.el id (li+1) i off)=some (ev fr x):=z;simp only[den,PK.id,b,cQ,iA,hL]at hd;split at hd
      case isFalse=>cases hd
      rename_i hr;injection hd with hd
      have J:U.pred tt r s (X id) w:=e.sat.res id _ b;have W:L.l[i.toNat]? =some (L.l.getD i.toNat (U.df L.t)):=by rw[List.getD_eq_getElem?_getD,List.getElem?_eq_getElem (by omega)];rfl
      have Z:=U.iE V;have hlen:((U.en L.t).enc (L.l.getD i.toNat (U.df L.t))).length=(U.en L.t).size:=(U.en L.t).len _;have Yu:(U.en L.t).enc C=((U.en L.t).enc (L.l.getD i.toNat (U.df L.t))).take off++(ev fr y).cells.toList++((U.en L.t).enc (L.l.getD i.toNat (U.df L.t))).drop (off+(ev fr y).cells.toList.length):=by
       rw[Z];exact l8 _ _ _ (by rw[hlen,B];exact d)
      refine jr (p:=elA U L.t L.A i off) hd.symm Q G R u ?_;exact U.pj J hL W (by rw[B];exact d) Yu F I λw2 O hq=>qC e f b q hq O D
     ·exact h.elim
    ·exact h.elim
   ·exact h.elim
  ·exact h.elim
 ·rename_i id path off H;rw[H]at z;split at h
  ·rename_i tt r s v b q S;obtain⟨h,u⟩:=fX h;split at h
   ·rename_i c s' F;obtain⟨I,D⟩:=h;have hd:den U st.rs (.obj id path off)=some (ev fr x):=z;simp only[den,PK.id,b,cQ,Option.some.injEq]at hd;have J:U.pred tt r s (X id) w:=e.sat.res id _ b;rw[S]at B;refine jr (p:=⟨r path,off,none⟩) hd.symm Q G R (by rw[S];exact u) ?_;rw[S];exact U.uJ J F I λw2 O hq=>qC e f b q hq O D
   ·exact h.elim
  ·rename_i tt r s v v2 vs b q S;obtain⟨h,u⟩:=fX h;split at h
   ·rename_i c s' F;obtain⟨I,D⟩:=h;have hd:den U st.rs (.obj id path off)=some (ev fr x):=z;simp only[den,PK.id,b,cQ,Option.some.injEq]at hd;have J:U.pred tt r s (X id) w:=e.sat.res id _ b;refine jr (p:=⟨r path,off,none⟩) hd.symm Q G R (by rw[S];exact u) ?_;rw[S];exact U.rB J F I λw2 O hq=>qC e f b q hq O D
   ·exact h.elim
  ·exact h.elim
 ·exact h.elim
theorem Er:∀(a n j:Nat),nth (upN a n) j=if j<n then some (a+j)else none
 |_,0,_=>rfl
 |a,n+1,0=>by simp[upN,nth]
 | a,n+1,j+1=>by
  simp only[upN,nth,Er (a+1) n j,Nat.add_lt_add_iff_right];rw[show a+1+j=a+(j+1)by omega]
theorem JN {α:Type}(E:Enc α)(h:E.size=1)(x:α):(E.enc x)[0]? =some (hd1 (E.enc x)):=by
 have:=E.len x;rw[h]at this
 match a:E.enc x,this with
 | [v],_=>rfl
theorem si {tt:Nat}{Z:Nat->Prop}{A:Option Addr}{c n:Nat}{l:List (U.el tt)}{p:Addr}{w:World}(b:(U.en tt).size=1)(k:Rd w Z A l.length c l)(o:A=some p)(hle:n<=l.length){j:Nat}{u:Value}(a:(mC U tt l 0 n)[j]? =some u):w.cell? (p.add j)=some u:=by
 unfold mC at a;rw[<-aY,cj,Er]at a;split at a
 ·rename_i s;injection a with a
  obtain⟨t,q,d,f,_,g⟩:=k.ld (i:=(j:Int)) (by omega) (by omega);rw[o]at d;injection d with e
  subst e;rw[Int.toNat_natCast]at f g;have h:=g 0 (by show 0<(U.en tt).size;omega);rw[show(p.add (j*Enc.size (U.el tt))).add 0=p.add j by rw[add_add,Nat.add_zero];show p.add (j*(U.en tt).size)=_;rw[b,Nat.mul_one]]at h;rw[h,<-a];dsimp only;rw[Nat.zero_add,Nat.zero_add,List.getD_eq_getElem?_getD,f];exact JN (U.en tt) b q
 ·cases a
theorem G0 {k:Option Kn}{n:Nat}{F:List Value->Prop}{v:Value}(z:Sat st.rs X w)(q:KnO st.rs v k)(h:KX U k n st F):∃(b:Addr)(m d:Nat)(vs:List Value),v=.slice (some b) m d/\vs.length=Nat.min m n/\(∀j u,vs[j]? =some u->w.cell? (b.add j)=some u)/\F vs:=by
 have B:∀m,yF n m=Nat.min m n:=λm=>by
  show _=min m n;unfold yF;split
  ·rename_i h;have:=Nat.le_of_ble_eq_true h;omega
  ·rename_i h;have:¬n<=m:=λG=>by rw[Nat.ble_eq_true_of_le G]at h;cases h
   omega
 unfold KX at h;split at h
 ·rename_i id off m;obtain⟨a,c,e,rfl⟩:=q;split at h
  ·rename_i g cs T f;split at h
   ·rename_i C;have C:=Nat.le_of_ble_eq_true C;simp only[den,PK.id,f,cQ,Option.some.injEq,Value.pointer.injEq]at e;obtain⟨Q,R,H⟩:=z.res id _ f;refine⟨a,m,c,_,rfl,?_,λj u o=>?_,h⟩
    ·rw[<-B,fx,fZ];simp;omega
    ·rw[fx,fZ,List.getElem?_take]at o;split at o
     ·rw[List.getElem?_drop]at o;rw[<-e,cm];exact H.cell (by simpa using o)
     ·cases o
   ·exact h.elim
  ·exact h.elim
 ·rename_i id path off m;obtain⟨a,c,e,rfl⟩:=q;split at h
  ·rename_i tt r s f;split at h
   ·rename_i cd cs hw;obtain⟨I,h⟩:=h;split at h
    ·rename_i hlen;have hlen:=Nat.eq_of_beq_eq_true hlen;simp only[den,PK.id,f,cQ,Option.some.injEq,Value.pointer.injEq]at e;refine⟨a,m,c,_,rfl,by rw[hlen,B],λj u o=>?_,h⟩;rw[<-e,cm];exact(U.tF (z.res id _ f) hw I).2 j u o
    ·exact h.elim
   ·exact h.elim
  ·exact h.elim
 ·rename_i id li;have q:den U st.rs (.sl id li)=some v:=q;split at h
  ·rename_i tt r s f;split at h
   ·rename_i L D;split at h
    ·rename_i e;have e:(U.en L.t).size=1:=Nat.eq_of_beq_eq_true e;obtain⟨⟨J,hle⟩,h⟩:=h;simp only[den,PK.id,f,cQ,iA,D,Option.some.injEq]at q;have t:=U.nS (z.res id _ f) D;obtain⟨p,y,x,K,_,M⟩:=t.ld (i:=0) (by omega) (by omega);refine⟨p,_,_,_,by rw[<-q,x],?_,λj u o=>?_,h⟩
     ·unfold mC;rw[uE,lf];show _=min _ _;omega
     ·exact si e t x hle o
    ·exact h.elim
   ·exact h.elim
  ·rename_i tt own T A c l f;split at h
   ·rename_i e;have e:(U.en tt).size=1:=Nat.eq_of_beq_eq_true e;obtain⟨⟨J,O⟩,h⟩:=h;have hm:=B c;have hm:yF n c=min c n:=hm;simp only[den,PK.id,f,cQ,iA,Option.some.injEq]at q;have t:∃Z,Rd w Z A l.length c l:=by
     have:=z.res id _ f;cases own
     ·exact⟨_,this⟩
     ·exact⟨_,this.1.rd⟩
    obtain⟨Z,t⟩:=t;obtain⟨p,y,x,K,_,M⟩:=t.ld (i:=0) (by omega) (by omega);refine⟨p,_,_,_,by rw[<-q,x],?_,λj u o=>si e t x (by omega) o,h⟩;unfold mC;rw[uE,lf,hm,O]
   ·exact h.elim
  ·exact h.elim
 ·exact h.elim
theorem HX {q:PK}{vs:List Value}{K:fH U}{a:Addr}(d:Inv w0 k0 X0 may st.rs X w)(j:aK st.rs fr st.kn)(hq:den U st.rs q=some (.pointer (some a)))(h:Lz U may k0 q vs st K):
 (∀v∈vs,one? v True)/\aF w a vs λw2=>∃k st' X' M,K (.int .i64 vs.length) k st'/\KnO st'.rs (.int .i64 vs.length) k/\ft w0 k0 X0 may fr st X w st' X' w2 M:=by
 unfold Lz at h;split at h
 ·rename_i id off;split at h
  ·rename_i g cs T b f;split at h
   ·rename_i e;have e:=Nat.le_of_ble_eq_true e;obtain⟨h,i⟩:=fX h;simp only[den,PK.id,b,cQ,Option.some.injEq,Value.pointer.injEq]at hq;obtain⟨y,z,l⟩:=d.sat.res id _ b;exact⟨i,g,off,⟨cs⟩,T,hq.symm,l,by simpa using e,λw2 hs=>EP (v:=.agg ⟨vs⟩) (ky:=none) (sc:=false) d j trivial b f rfl e hs h⟩
   ·exact h.elim
  ·exact h.elim
 ·rename_i id path off;split at h
  ·rename_i tt r s b f;obtain⟨h,i⟩:=fX h;split at h
   ·rename_i c A o;obtain⟨p,t⟩:=h;simp only[den,PK.id,b,cQ,Option.some.injEq,Value.pointer.injEq]at hq;rw[<-hq];exact⟨i,U.rB (d.sat.res id _ b) o p λw2 u x=>qC d j b f x u t⟩
   ·exact h.elim
  ·exact h.elim
 ·exact h.elim
theorem F5 {x y:Operand}{t p:TypeId}{K:fH U}{Y:Bool}{dst:Option Tmp}{ty:TypeId}{pos:String}{after:Array Edge}{D:Option (Nat×Bool)}(B:Inv w0 k0 X0 may st.rs X w)(z:aK st.rs fr st.kn)(h:H2 U P may k0 t (kf st.kn x) (kf st.kn y) st K):
 opW P Y Qp {dst:=dst,op:=.call {callee:=.builtin .copy,args:= #[x,y],argTypes:= #[t,p]},type:=ty,pos:=pos,after:=after,guard:=D} (ev fr) w λv w'=>∃k st' X' M,K v k st'/\KnO st'.rs v k/\ft w0 k0 X0 may fr st X w st' X' w' M:=by
 unfold H2 at h;have C:=z.kf x;have F:=z.kf y;split at h
 ·rename_i q n G f;rw[G]at C;obtain⟨a,c,hq,H⟩:=C;obtain⟨b,m,d,vs,I,hlen,J,h⟩:=G0 B.sat F h;obtain⟨L,g,o,cs,T,A,l,hle,O⟩:=HX B z hq h;unfold slB at f;split at f
  ·rename_i e hu;split at f
   ·rename_i i hi;have hs:=Nat.eq_of_beq_eq_true f;subst A;have Q:=run_copy_cells (P:=P) w t p ty e g o n c b m d vs hu (by rw[hi];simp[hs]) hlen J
     (by
      intro j R;have:cs[o+j]? =some (cs[o+j]'(by omega)):=Array.getElem?_eq_getElem (by omega);rw[l.cell this];rfl)
     (by
      intro j R;unfold Blk at l;simp[World.frozen?,l])
     (by
      intro u hu;obtain⟨_,A,l⟩:=pE (L u hu);cases u<;>first|rfl|exact absurd rfl (A _)|exact absurd rfl (l _))
    refine⟨rfl,?_⟩;rw[l6 (s:=Builtin.copy_ #[t,p] ty #[.slice (some ⟨g,o,none⟩) n c,.slice (some b) m d]) (by simp[we,H,I]) w Q];exact O _ (gJ g T vs o w cs l)
   ·cases f
  ·cases f
 ·exact h.elim
theorem Gb {t:TypeId}{z:Value}(h:(P.info? t).bind (·.zero)=some z)(w:World):(Instr.alloc t true (.tuple #[])).run P w=.ok (.pointer (some ⟨w.heap.size,0,none⟩)) (w.alloc (.cells z.cells t)):=by
 cases hi:P.info? t with
 |none=>rw[hi]at h;cases h
 | some i=>
  rw[hi]at h;have h:i.zero=some z:=h;have a:(zeroValue t).run P w=.ok z w:=by
   unfold zeroValue;rw[Sem.run_bind,run_typeInfo (w:=w) hi,Result.andThen_ok,h];rfl
  unfold Instr.alloc;rw[Sem.run_bind,a,Result.andThen_ok];rfl
theorem AT {cs:List Value}{T:TypeId}{ck:Option Kn}{K:fH U}(d:Inv w0 k0 X0 may st.rs X w)(a:aK st.rs fr st.kn){v0:Value}(f:KnO st.rs v0 ck)(c:ck=none\/v0.cells.toList=cs)(h:JC U cs T ck st K):
 ∃k st' X' M,K (.pointer (some ⟨w.heap.size,0,none⟩)) k st'/\KnO st'.rs (.pointer (some ⟨w.heap.size,0,none⟩)) k/\ft w0 k0 X0 may fr st X w st' X' (w.alloc (.cells ⟨cs⟩ T)) M:=by
 have hm:Made w w.heap.size ⟨cs⟩ T (w.alloc (.cells ⟨cs⟩ T)):=made rfl rfl;unfold JC at h;split at h
 ·rename_i t s g;have b:nth (st.rs++ [Res.ob t (λ_=>w.heap.size) s]) st.rs.length=some (.ob t (λ_=>w.heap.size) s):=by rw[bZ,if_neg (by omega),Nat.sub_self];rfl
  refine step_done (qv d a hm.pu (Z:=λk=>k=w.heap.size) (show RS (λk=>k=w.heap.size) _ (.ob t (λ_=>w.heap.size) s)from U.yE g hm.blk) (λk e=>by rw[e];exact Nat.le_refl _) (tn a _)) ?_ (h w.heap.size);show den U _ (.obj _ 0 0)=_;simp only[den,PK.id,b,cQ]
 have b:nth (st.rs++ [Res.blk w.heap.size cs T]) st.rs.length=some (.blk w.heap.size cs T):=by rw[bZ,if_neg (by omega),Nat.sub_self];rfl
 refine⟨_,_,_,[],h w.heap.size,?_,qv d a hm.pu (Z:=λk=>k=w.heap.size) (show RS (λk=>k=w.heap.size) _ (.blk w.heap.size cs T)from⟨rfl,λ_ h=>h,hm.blk⟩) (λk e=>by rw[e];exact Nat.le_refl _) (aK.app ?_ (tn a _))⟩
 ·show den U _ (.loc _ 0)=_;simp only[den,PK.id,b,cQ]
 ·intro key q hq;obtain⟨j,u,rfl,hu,l⟩:=rY f hq;rcases c with rfl|c
  ·cases hq
  rw[c]at hu;rw[Nat.zero_add];exact⟨_,cs,T,u,b,hu,l.mono λp o u hu=>uR (M:= []) (λi hi _=>by rw[bZ,if_pos hi]) (λi hi=>by cases hi) (.inl (by simp)) hu⟩
theorem Bw {tt:Nat}:∀ {n:Nat}{cs:List Value}{l:List (U.el tt)},F2 U tt n cs=some l->l.length=n/\l.flatMap enc=cs
 |0,[],l,h=>by simp only[F2,Option.some.injEq]at h;subst h;exact⟨rfl,rfl⟩
 |0,_::_,l,h=>by simp[F2]at h
 | n+1,cs,l,h=>by
  simp only[F2]at h;split at h
  ·rename_i x r a b;injection h with h
   subst h;obtain⟨c,d⟩:=Bw b;refine⟨by simp[c],?_⟩;have e:enc x=jZ (U.en tt).size cs:=U.iE a;rw[List.flatMap_cons,d,e,fx,fZ,List.take_append_drop]
  ·cases h
theorem tU {t e:TypeId}{tt:Nat}{a:TypeInfo}{z:Value}(h:G1 U P t=some (e,tt,a,z)):SN P t e z (U.en tt).size a.bytes/\P.info? e=some a/\a.zero=some z/\a.size=(U.en tt).size/\0<a.bytes:=by
 unfold G1 at h;split at h
 ·rename_i k hu;split at h
  ·rename_i g d _ hi;split at h
   ·rename_i l f;split at h
    ·rename_i b;simp only[Option.some.injEq,Prod.mk.injEq]at h;obtain⟨rfl,rfl,rfl,rfl⟩:=h;simp only[Bool.and_eq_true]at b;have c:=Nat.eq_of_beq_eq_true b.1;have i:=Nat.eq_of_beq_eq_true b.2.1;have j:0<d.bytes:=by simpa[Nat.blt_eq]using b.2.2
     exact⟨⟨hu,⟨d,hi,f,c,rfl⟩,by rw[<-c,<-i];simp,(U.en g).pos⟩,hi,f,c,j⟩
    ·cases h
   ·cases h
  ·cases h
 ·cases h
theorem GZ {tt:Nat}{x:Operand}{F:List (U.el tt)->Prop}(f:Sat st.rs X w)(g:aK st.rs fr st.kn)(h:KW U tt (ev fr x) (kf st.kn x) st F):∃(l:List (U.el tt))(A:Option Addr)(c:Nat)(Y:Nat->Prop),ev fr x=.slice A l.length c/\Rd w Y A l.length c l/\F l:=by
 have a:=g.kf x;unfold KW at h;split at h
 ·rename_i id li i;rw[i]at a;have hd:den U st.rs (.sl id li)=some (ev fr x):=a;split at h
  ·rename_i r b;split at h
   ·rename_i L e;simp only[den,PK.id,b,cQ,e,Option.some.injEq]at hd;split at h
    ·rename_i j;have k:=(f.res id _ b).ls e;obtain⟨p,A,c,l⟩:=L;cases j;exact⟨l,A,c,_,hd.symm,k,h⟩
    ·exact h.elim
   ·exact h.elim
  ·exact h.elim
 ·split at h
  ·rename_i d o;exact⟨[],none,d,_,o,Rd.nil,h⟩
  ·exact h.elim
theorem Bc {rs:List (Res U)}{r:Res U}:nth (rs++ [r]) rs.length=some r:=by rw[bZ,if_neg (by omega),Nat.sub_self];rfl
theorem uy {tt:Nat}{T:TypeId}{A:Option Addr}{c:Nat}{l:List (U.el tt)}{K:fH U}(b:Inv w0 k0 X0 may st.rs X w)(a:aK st.rs fr st.kn){w':World}(q:Pu w w'){Z:Nat->Prop}(d:Own w' Z T A l.length c l)(e:∀k,Z k->w.heap.size<=k){v:Value}(f:v=.slice A l.length c)
 (h:nmL (st.rs++ [.lst tt true T A c l]) [st.rs.length] λg=>K v (some (.p (.sl st.rs.length 0))) ⟨g,st.kn,st.md⟩):
 ∃k st' X' M,K v k st'/\KnO st'.rs v k/\ft w0 k0 X0 may fr st X w st' X' w' M:=by
 refine step_done (st':=⟨st.rs++ [.lst tt true T A c l],st.kn,st.md⟩) (qv b a q (Z:=λk=>Z k/\k<w'.heap.size) (show RS (λk=>Z k/\k<w'.heap.size) _ (.lst tt true T A c l)from⟨d.narrow,λk a=>a.2⟩) (λk a=>e k a.1) (tn a _)) ?_ h;show den U _ (.sl _ 0)=_;simp only[den,PK.id,Bc,cQ,iA,f]
theorem Fk(s:Inv w0 k0 X0 may st.rs X w){i:Nat}{a b:Res U}(h:nth st.rs i=some a)(l:l4 may k0 i=true){w':World}(q:Ch (X i) w w')(t:eC a b){Z:Nat->Prop}(u:RS Z w' b)(o:∀k,Z k->X i k\/w.heap.size<=k){p:List (Key×Kn)}(v:aK (cV st.rs i b) fr p):
 ft w0 k0 X0 may fr st X w ⟨cV st.rs i b,p,i::st.md⟩ (k9 X i Z) w' [i]:=by
 have hi:=bG h;exact⟨s.set hi (ja l) q u o,v,rfl,λj d=>by simp at d;subst d;exact hi,λj d=>by simp at d;subst d;exact ja l,by simp,λj d e=>⟨by rw[bY,if_neg (λg=>e (by simp[g.1]))],jY _ _ (by simpa using e)⟩,λj d k f=>by
  simp at d;subst d;rw[updX_eq]at f;exact o k f,λj y x=>by simp at x;omega,q.mono λk f=>⟨i,by simp,f⟩,λj c d=>by
  by_cases e:j=i
  ·subst e;rw[h]at d;injection d with d
   subst d;exact⟨b,by rw[bY,if_pos ⟨rfl,hi⟩],t⟩
  ·exact⟨c,by rw[bY,if_neg (λg=>e g.1)];exact d,eC.refl c⟩⟩
theorem Dc {tt:Nat}{z:Value}{x:U.el tt}(b:enc x=z.cells.toList)(n:Nat):(List.replicate n x).flatMap enc=(madeCells z.cells (n*(U.en tt).size)).toList:=by
 have hs:z.cells.size=(U.en tt).size:=by have:=dw x;rw[b]at this;simpa using this
 have c:0<Enc.size (U.el tt):=Enc.pos;apply List.ext_getElem?;intro j;by_cases a:j<n*Enc.size (U.el tt)
 ·have hq:j / Enc.size (U.el tt)<n:=(Nat.div_lt_iff_lt_mul c).2 a;have d:j % Enc.size (U.el tt)<Enc.size (U.el tt):=Nat.mod_lt _ c;have e:=flat_get (List.replicate n x) (j / Enc.size (U.el tt)) (j % Enc.size (U.el tt)) x (by rw[List.getElem?_replicate,if_pos hq]) d;have g:j / Enc.size (U.el tt)*Enc.size (U.el tt)+j % Enc.size (U.el tt)=j:=by rw[Nat.mul_comm];exact Nat.div_add_mod j _
  rw[g]at e;rw[e,b];have h:j<n*(U.en tt).size:=a;have f:j % (U.en tt).size<z.cells.size:=by rw[hs];exact d
  have i:(madeCells z.cells (n*(U.en tt).size)).toList[j]? =some (z.cells[j % z.cells.size]!):=by
   simp[madeCells,h]
  rw[i,hs];show z.cells.toList[j % (U.en tt).size]? =_;rw[Array.getElem?_toList,Array.getElem?_eq_getElem f,getElem!_pos z.cells _ f]
 ·rw[List.getElem?_eq_none (by rw[eY,List.length_replicate];omega),List.getElem?_eq_none (by rw[Array.length_toList,size_madeCells];exact Nat.le_of_not_lt a)]
def Gw(fr:Fr)(w0:World)(k0:Nat)(X0:Nat->Nat->Prop)(may:List Nat)(st:St U)(X:Nat->Nat->Prop)(w:World)(K:fH U):Option (List PanicEntry->World->Prop):=
 some λch w'=>∃v st' X' M,ch= [⟨v,false,false⟩]/\K v (some .pan) st'/\ft w0 k0 X0 may fr st X w st' X' w' M
theorem Ht {Y:Bool}{q:List PanicEntry->World->Prop}{o:Oper}{ρ:Operand->Value}{K:bq}(h:opW P Y (some q) o ρ w K)(hq:∀ch w',q ch w'->False):opW P Y none o ρ w K:=by
 refine⟨h.1,?_⟩;have a:=h.2;generalize (execOp ρ o).run P w=r at a ⊢;cases r with
 | ok b w'=>
  cases b<;>simp only[Out]at a ⊢
  case value v=>exact a
  case skip=>exact a
  case enter f args=>exact a.mono λe c he=>he.imp id fun⟨ch,_,a⟩=>(hq _ _ a).elim
  case round l f tmps assign body=>exact⟨a.1,a.2.mono λe c he=>he.imp id fun⟨ch,_,a⟩=>(hq _ _ a).elim⟩
 | halt x w'=>
  cases x<;>simp only[Out]at a ⊢
  exact(hq _ _ a).elim
theorem En {Y:Bool}{q q':List PanicEntry->World->Prop}{o:Oper}{ρ:Operand->Value}{K:bq}(h:opW P Y (some q) o ρ w K)(hq:∀ch w',q ch w'->q' ch w'):opW P Y (some q') o ρ w K:=by
 refine⟨h.1,?_⟩;have a:=h.2;generalize (execOp ρ o).run P w=r at a ⊢;cases r with
 | ok c w'=>
  cases c<;>simp only[Out]at a ⊢
  case value v=>exact a
  case skip=>exact a
  case enter f args=>exact a.mono λe d he=>he.imp id fun⟨ch,b,a⟩=>⟨ch,b,hq _ _ a⟩
  case round l f tmps assign body=>exact⟨a.1,a.2.mono λe d he=>he.imp id fun⟨ch,b,a⟩=>⟨ch,b,hq _ _ a⟩⟩
 | halt x w'=>
  cases x<;>simp only[Out]at a ⊢
  exact hq _ _ a
theorem ur {Y:Bool}{Qp:Option (List PanicEntry->World->Prop)}{o:Oper}{ρ:Operand->Value}{K d:bq}(h:opW P Y Qp o ρ w K)(b:∀v w',K v w'->d v w'):opW P Y Qp o ρ w d:=by
 refine⟨h.1,?_⟩;have a:=h.2;generalize (execOp ρ o).run P w=r at a ⊢;cases r with
 | ok g w'=>
  cases g<;>simp only[Out]at a ⊢
  case value v=>exact b _ _ a
  case skip=>exact b _ _ a
  case enter f args=>exact a.mono λe i he=>he.imp (fun⟨v,c,a⟩=>⟨v,c,b _ _ a⟩) id
  case round l f tmps assign body=>exact⟨a.1,a.2.mono λe i he=>he.imp (fun⟨v,c,a⟩=>⟨v,c,b _ _ a⟩) id⟩
 | halt x w'=>
  cases x<;>simp only[Out]at a ⊢
  exact a
theorem Inv.Kr {rs rs':List (Res U)}(h:Inv w0 k0 X0 may rs X w)(d:rs'.length<=rs.length)(he:∀i,i<rs'.length->nth rs' i=nth rs i)(b:k0<=rs'.length):Inv w0 k0 X0 may rs' X w:=
 ⟨⟨λi r a=>h.sat.res i r (by rw[<-he i (bG a)];exact a),λi j hi e=>h.sat.dis i j (by omega) (by omega)⟩,h.ch,h.old,λi c f=>h.new i c (by omega),b⟩
theorem Ek {k:Option Kn}{B:Prop}(h:CY k False B):B:=by
 unfold CY at h;split at h
 ·exact h.elim
 ·exact h
theorem HS:∀ {s:Sh}{F:Value->Prop},MN s F->∃v,F v
 |.int _,_,⟨_,h⟩=>⟨_,h⟩
 |.bool,_,⟨_,h⟩=>⟨_,h⟩
 |.str,_,⟨_,h⟩=>⟨_,h⟩
 |.ptr,_,⟨_,h⟩=>⟨_,h⟩
 |.slice,_,⟨_,h⟩=>⟨_,h⟩
 |.map,_,⟨_,h⟩=>⟨_,h⟩
 |.val,_,⟨_,h⟩=>⟨_,h⟩
theorem El {α:Type}{F:α->Prop}:∀ {l:List α},orL F l->∃a,F a
 | [a],h=>⟨a,h⟩
 | a::b::r,h=>by
  rcases h with h|h
  ·exact⟨a,h⟩
  ·exact El (l:=b::r) h
theorem JK {args:List Operand}(d:aK st.rs fr st.kn):∀j v k,nth (aV (ev fr) args) j=some v->nth (aV (V.kf st.kn) args) j=some k->KnO st.rs v k:=by
 intro j v k a b;rw[cj]at a b;cases c:nth args j with
 |none=>rw[c]at a;cases a
 | some x=>
  rw[c]at a b;injection a with a
  injection b with b
  subst a;subst b;exact d.kf x
theorem HF {rs:List (Res U)}{c e:List Value}{d f:List (Option Kn)}(h:c.length=d.length)(i:∀j v k,nth c j=some v->nth d j=some k->KnO rs v k)(l:∀j v k,nth e j=some v->nth f j=some k->KnO rs v k):∀j v k,nth (c++e) j=some v->nth (d++f) j=some k->KnO rs v k:=by
 intro j v k a b;rw[bZ]at a b;by_cases g:j<c.length
 ·rw[if_pos g]at a;rw[if_pos (by omega)]at b;exact i j v k a b
 ·rw[if_neg g]at a;rw[if_neg (by omega),<-h]at b;exact l _ v k a b
theorem KF {K:fH U}{Y:Bool}{dst:Option Tmp}{ty:TypeId}{pos:String}{after:Array Edge}{d:Option (Nat×Bool)}{f:Operand}{args:Array Operand}{g:Array TypeId}{a:Nat}{first cap:Array Value}{i:List (Option Kn)}(l:∀f c,tbl.c f=some c->LV U P f c/\dy P f=true)(q:Inv w0 k0 X0 may st.rs X w)(s:aK st.rs fr st.kn)(t:ev fr f=.func (.func a) first cap)
 (u:∀j v k,nth (first.toList++(aV (ev fr) args.toList++cap.toList)) j=some v->nth i j=some k->KnO st.rs v k)(h:call2 U tbl may k0 a (first.toList++(aV (ev fr) args.toList++cap.toList)) i st K):
 opW P Y (Gw fr w0 k0 X0 may st X w K) {dst:=dst,op:=.call {callee:=.value f,args:=args,argTypes:=g},type:=ty,pos:=pos,after:=after,guard:=d} (ev fr) w λv w'=>∃k st' X' M,K v k st'/\KnO st'.rs v k/\ft w0 k0 X0 may fr st X w st' X' w' M:=by
 have x:dy P a=true:=by
  unfold call2 at h;split at h
  ·exact h.elim
  ·rename_i c y;exact(l a c y).2
 refine⟨rfl,?_⟩;have z:=gg (P:=P) (C:= [a]) (f:=a) (by simp[gn,x]) (by simp) (first++args.map (ev fr)++cap) w;have A:(execOp (ev fr) {dst:=dst,op:=.call {callee:=.value f,args:=args,argTypes:=g},type:=ty,pos:=pos,after:=after,guard:=d}).run P w=.ok (.enter a (first++args.map (ev fr)++cap)) w:=by
  simp only[execOp,resolve,t,Deferred.ofValue];rw[Sem.run_bind];exact z
 rw[A];have B:(⟨first.toList++(aV (ev fr) args.toList++cap.toList)⟩:Array Value)=first++args.map (ev fr)++cap:=by
  apply Array.ext';simp[iW]
 have:=xJ (λf c h=>(l f c h).1) q s u h;rw[B]at this;refine this.mono λe w' D=>?_;obtain⟨v,k,st',X',M,rfl,o,b,p⟩:=D;rcases b with rfl|b
 ·exact .inr ⟨_,rfl,v,st',X',M,rfl,o,p⟩
 ·refine .inl ⟨v,?_,k,st',X',M,o,b,p⟩;cases k with
  |none=>rfl
  |some k=>cases k<;>first|rfl|exact b.elim
theorem M3 {K:fH U}{Y:Bool}{dst:Option Tmp}{ty:TypeId}{pos:String}{after:Array Edge}{g:Option (Nat×Bool)}{x:Operand}{name:String}{args:Array Operand}{i:Array TypeId}{t:TypeId}{u:Value}{a:Nat}{l:List (Option Kn)}(o:∀f c,tbl.c f=some c->LV U P f c/\dy P f=true)(y:Inv w0 k0 X0 may st.rs X w)(z:aK st.rs fr st.kn)(A:ev fr x=.iface t u)(hm:AX P t name=some a)
 (B:∀j v k,nth (u::aV (ev fr) args.toList) j=some v->nth l j=some k->KnO st.rs v k)(h:call2 U tbl may k0 a (u::aV (ev fr) args.toList) l st K):
 opW P Y (Gw fr w0 k0 X0 may st X w K) {dst:=dst,op:=.call {callee:=.invoke x name,args:=args,argTypes:=i},type:=ty,pos:=pos,after:=after,guard:=g} (ev fr) w λv w'=>∃k st' X' M,K v k st'/\KnO st'.rs v k/\ft w0 k0 X0 may fr st X w st' X' w' M:=by
 have D:dy P a=true:=by
  unfold call2 at h;split at h
  ·exact h.elim
  ·rename_i c F;exact(o a c F).2
 refine⟨rfl,?_⟩;have G:=gg (P:=P) (C:= [a]) (f:=a) (by simp[gn,D]) (by simp) (#[u]++args.map (ev fr)) w;have he:(#[ev fr x]++args.map (ev fr)).extract 1 (#[ev fr x]++args.map (ev fr)).size=args.map (ev fr):=by
  apply Array.ext';simp;exact List.take_of_length_le (by simp)
 have H:(execOp (ev fr) {dst:=dst,op:=.call {callee:=.invoke x name,args:=args,argTypes:=i},type:=ty,pos:=pos,after:=after,guard:=g}).run P w=.ok (.enter a (#[u]++args.map (ev fr))) w:=by
  simp only[execOp,resolve];rw[Sem.run_bind];show(invoke (.fn (.method name) #[]) (#[ev fr x]++args.map (ev fr))).run P w=_;have I:(#[ev fr x]++args.map (ev fr))[0]? =some (.iface t u):=by rw[A,Array.getElem?_append_left (by simp)];rfl
  simp only[invoke,I,he];simp only[callMethod];rw[Sem.run_bind];have d:(program:Sem Program).run P w=.ok P w:=rfl;rw[d];change Sem.run P (method (P.types.size+Made.depth) t u name>>=λp=>callFunc p.1 (#[p.2]++Array.map (ev fr) args)) w=_;rw[Sem.run_bind,xq hm];exact G
 rw[H];have J:(⟨u::aV (ev fr) args.toList⟩:Array Value)= #[u]++args.map (ev fr):=by
  apply Array.ext';simp[iW]
 have:=xJ (λf c h=>(o f c h).1) y z B h;rw[J]at this;refine this.mono λe w' d=>?_;obtain⟨v,k,st',X',M,rfl,q,b,s⟩:=d;rcases b with rfl|b
 ·exact .inr ⟨_,rfl,v,st',X',M,rfl,q,s⟩
 ·refine .inl ⟨v,?_,k,st',X',M,q,b,s⟩;cases k with
  |none=>rfl
  |some k=>cases k<;>first|rfl|exact b.elim
theorem BD {K:fH U}{Y:Bool}{dst:Option Tmp}{ty:TypeId}{pos:String}{after:Array Edge}{A:Option (Nat×Bool)}{f:Operand}{args:Array Operand}{B:Array TypeId}(C:∀f c,tbl.c f=some c->LV U P f c/\dy P f=true)(x:Inv w0 k0 X0 may st.rs X w)(s:aK st.rs fr st.kn)
 (h:EN U tbl may k0 (ev fr f) (aV (ev fr) args.toList) (aV (V.kf st.kn) args.toList) st K):
 opW P Y (Gw fr w0 k0 X0 may st X w K) {dst:=dst,op:=.call {callee:=.value f,args:=args,argTypes:=B},type:=ty,pos:=pos,after:=after,guard:=A} (ev fr) w λv w'=>∃k st' X' M,K v k st'/\KnO st'.rs v k/\ft w0 k0 X0 may fr st X w st' X' w' M:=by
 obtain⟨r,y,D⟩:=HS h;obtain⟨⟨O,F,G⟩,b⟩:=El y;dsimp only at b;split at b
 ·rename_i hd;simp only[Bool.and_eq_true]at hd;obtain⟨H,b⟩:=b;have z:∀ {l:List PK},jN (F1 st.rs) l=true->∀j v k,nth (aV (dv st.rs) l) j=some v->nth (aV (λp=>some (Kn.p p)) l) j=some k->KnO st.rs v k:=by
   intro l e j v k d g;rw[cj]at d g;cases t:nth l j with
   |none=>rw[t]at d;cases d
   | some p=>
    rw[t]at d g;injection d with d
    injection g with g
    subst d;subst g;have:=dK.1 e p (jo t);unfold F1 at this;show den U st.rs p=some (dv st.rs p);unfold dv;split at this
    ·rename_i u hu;rw[hu];rfl
    ·cases this
  refine ur (En (q':=λch w'=>∃v st' X' M,ch= [⟨v,false,false⟩]/\K v (some .pan) st'/\ft w0 k0 X0 may fr st X w st' X' w' M) (hq:=λch w' ⟨_,_,_,_,_,h,_⟩=>h.elim) (KF (K:=_) (first:=⟨aV (dv st.rs) F⟩) (cap:=⟨aV (dv st.rs) G⟩) C x s H (HF (by simp) (z hd.1) (HF (by simp) (JK s) (z hd.2))) b)) λv w' I=>?_;obtain⟨k,st',X',M,o,Q,q⟩:=I;have o:=Ek o;split at o
  ·rename_i e;subst o;simp only[Bool.and_eq_true]at e;have R:=Nat.eq_of_beq_eq_true e.1;have l2:=Nat.eq_of_beq_eq_true e.2;have J:M= []:=by
    have:=q.md;rw[this,List.length_append]at l2;exact List.eq_nil_of_length_eq_zero (by omega)
   subst J;refine⟨none,st,X',[],D,trivial,q.inv.Kr (by omega) (λi hi=>(q.same i hi (by simp)).1.symm) x.len,s,rfl,λi hi=>(by cases hi),λi hi=>(by cases hi),Nat.le_refl _,λi hi _=>⟨rfl,(q.same i hi (by simp)).2⟩,λi hi=>(by cases hi),λi y b=>by omega,q.ch,λi a L=>⟨a,L,eC.refl a⟩⟩
  ·exact o.elim
 ·exact b.elim
theorem tj:∀ {rs:List (Res U)}{r:Nat->Nat}{l:List (Int×Value)},mpL U rs=some (r,l)->∃i t s,nth rs i=some (.ob t r s)/\U.mp t s=some l
 | [],r,l,h=>by cases h
 | .ob t r0 s::rs,r,l,h=>by
  simp only[mpL]at h;split at h
  ·rename_i m hm;simp only[Option.some.injEq,Prod.mk.injEq]at h;obtain⟨rfl,rfl⟩:=h;exact⟨0,t,s,rfl,hm⟩
  ·obtain⟨i,t,s,a,b⟩:=tj h;exact⟨i+1,t,s,a,b⟩
 | .blk .. ::rs,r,l,h=>by
  simp only[mpL]at h;obtain⟨i,t,s,a,b⟩:=tj h;exact⟨i+1,t,s,a,b⟩
 | .lst .. ::rs,r,l,h=>by
  simp only[mpL]at h;obtain⟨i,t,s,a,b⟩:=tj h;exact⟨i+1,t,s,a,b⟩
theorem gY {b:Bool}{x y:Prop}(h:split b x y)(a:b=true):x:=(iC h).elim (·.2) λh=>by rw[a]at h;cases h.1
theorem bV {b:Bool}{x y:Prop}(h:split b x y)(a:b=false):y:=(iC h).elim (λh=>by rw[a]at h;cases h.1) (·.2)
theorem Ew:∀ {l:List (Int×Value)}{i:Int}{z:Value}{F:Value->Bool->Prop},lkS l i z F->F ((lkF l i).getD z) (lkF l i).isSome
 | [],i,z,F,h=>h
 | (a,v)::r,i,z,F,h=>by
  unfold lkS at h;unfold lkF;by_cases e:i=a
  ·rw[if_pos e];exact gY h (decide_eq_true e)
  ·rw[if_neg e];exact Ew (bV h (decide_eq_false e))
theorem JG {T:TypeId}{z:Value}(h:lkT P T=some z)(w:World):∃K E,P.underlying T=some (.map K E)/\P.underlying K=some (.int .u32)/\(zeroValue E).run P w=.ok z w:=by
 unfold lkT at h;split at h
 ·rename_i K E a;split at h
  ·rename_i b;cases hi:P.info? E with
   |none=>rw[hi]at h;cases h
   | some i=>
    rw[hi]at h;exact⟨K,E,a,b,by simp[zeroValue,typeInfo,hi,show i.zero=some z from h]⟩
  ·cases h
 ·cases h
theorem HA {o:Oper}{K:fH U}{Y:Bool}(Qw:∀f c,tbl.c f=some c->LV U P f c/\dy P f=true)(H:Inv w0 k0 X0 may st.rs X w)(q:aK st.rs fr st.kn)(h:Lm U P tbl may k0 o (ev fr) st K):
 opW P Y (Gw fr w0 k0 X0 may st X w K) o (ev fr) w λv w'=>∃k st' X' M,K v k st'/\KnO st'.rs v k/\ft w0 k0 X0 may fr st X w st' X' w' M:=by
 obtain⟨dst,op,ty,pos,after,gd⟩:=o;cases op<;>simp only[Lm]at h<;>skip
 case panic x=>
  refine⟨rfl,?_⟩;split at h
  ·rename_i t v O;have J:(execOp (ev fr) ⟨dst,.panic x,ty,pos,after,gd⟩).run P w=.halt (.panic (.iface t v)) w:=by
    simp[execOp,O,Instr.panic,goPanic]
   rw[J];exact⟨_,st,X,[],rfl,h,H,q,rfl,λi hi=>(by cases hi),λi hi=>(by cases hi),Nat.le_refl _,λ_ _ _=>⟨rfl,rfl⟩,λi hi=>(by cases hi),λi I L=>by omega,Ch.refl _ _,λi a F=>⟨a,F,eC.refl a⟩⟩
  ·exact h.elim
 case store t x y=>exact CJ H q h
 case alloc t=>
  split at h
  ·rename_i z S;refine⟨rfl,?_⟩;have J:(execOp (ev fr) ⟨dst,.alloc t,ty,pos,after,gd⟩).run P w=.ok (.value (.pointer (some ⟨w.heap.size,0,none⟩))) (w.alloc (.cells z.cells t)):=by
    simp[execOp,Gb S]
   rw[J];exact AT H q (v0:=undef) (ck:=none) trivial (.inl rfl) h
  ·exact h.elim
 case box t x=>
  refine⟨rfl,?_⟩;have J:(execOp (ev fr) ⟨dst,.box t x,ty,pos,after,gd⟩).run P w=.ok (.value (.pointer (some ⟨w.heap.size,0,none⟩))) (w.alloc (.cells (ev fr x).cells t)):=rfl;rw[J];exact AT H q (q.kf x) (.inr rfl) h
 case call c=>
  obtain⟨a8,args,az⟩:=c;simp only at h;split at h
  ·rename_i f;split at h
   ·exact BD Qw H q h
   split at h
   ·rename_i f' first cap hf
    refine KF Qw H q hf (λj v k D C=>?_) h
    ·
     have Sz:∀j v k,nth (aV (ev fr) args.toList) j=some v->nth (aV (V.kf st.kn) args.toList) j=some k->KnO st.rs v k:=by
      intro j v k I L;rw[cj]at I L;cases G:nth args.toList j with
      |none=>rw[G]at I;cases I
      | some x=>
       rw[G]at I L;injection I with I
       injection L with L
       subst I;subst L;exact q.kf x
     have aA:=q.kf f;have app:∀ {a1 a2:List Value}{k1 k2:List (Option Kn)},a1.length=k1.length->(∀j v k,nth a1 j=some v->nth k1 j=some k->KnO st.rs v k)->(∀j v k,nth a2 j=some v->nth k2 j=some k->KnO st.rs v k)->∀j v k,nth (a1++a2) j=some v->nth (k1++k2) j=some k->KnO st.rs v k:=by
      intro a1 a2 k1 k2 hl I L j v k D C;rw[bZ]at D C;by_cases hc:j<a1.length
      ·rw[if_pos hc]at D;rw[if_pos (by omega)]at C;exact I j v k D C
      ·rw[if_neg hc]at D;rw[if_neg (by omega),<-hl]at C;exact L _ v k D C
     have pt:∀ {vs:Array Value}{l:List (Option PK)},(∀j k,nth l j=some (some k)->∃u,vs[j]? =some u/\den U st.rs k=some u)->∀j v k,nth vs.toList j=some v->nth (aV (λo:Option PK=>o.map Kn.p) l) j=some k->KnO st.rs v k:=by
      intro vs l Q j v k D C;rw[cj]at C;cases G:nth l j with
      |none=>rw[G]at C;cases C
      | some o=>
       rw[G]at C;injection C with C
       subst C;cases o with
       |none=>exact trivial
       | some p=>
        obtain⟨u,hu,hd⟩:=Q j p G;rw[aY]at D;simp at D;rw[hu]at D;injection D with D
        subst D;exact hd
     have no:∀ {vs:List Value},∀j v k,nth vs j=some v->nth (aV (λ_:Value=>(none:Option Kn)) vs) j=some k->KnO st.rs v k:=by
      intro vs j v k D C;rw[cj,D]at C;injection C with C
      subst C;exact trivial
     unfold MK at C;split at C
     ·rename_i a b a3;rw[a3,hf]at aA;obtain⟨_,fs,cs,e,⟨S7,RZ⟩,h3,h4⟩:=aA;injection e with _ e1 e2
      subst e1;subst e2;exact app (by simp[S7]) (pt h3) (app (by simp) Sz (pt h4)) j v k D C
     ·exact app (by simp) no (app (by simp) Sz no) j v k D C
   ·exact h.elim
  ·rename_i x name;split at h
   ·rename_i t u O;split at h
    ·rename_i f' hm;refine M3 Qw H q O hm (λj v k D C=>?_) h;cases j with
     | zero=>
      simp only[nth,Option.some.injEq]at C;subst C;exact trivial
     | succ j=>
      simp only[nth]at D C;rw[cj]at D C;cases G:nth args.toList j with
      |none=>rw[G]at D;cases D
      | some y=>
       rw[G]at D C;injection D with D
       injection C with C
       subst D;subst C;exact q.kf y
    ·exact h.elim
   ·exact h.elim
  ·split at h
   ·rename_i x y t t' F aa;split at h
    ·rename_i e tt R z WD ae;have ae:=Nat.eq_of_beq_eq_true ae;subst ae;obtain⟨W,hi,S,O8,Zv⟩:=tU WD;obtain⟨l2,B,d,Y2,hy,TJ,h⟩:=GZ H.sat q h;have af:args= #[x,y]:=by apply Array.ext';simpa using F
     have ah:az= #[t,t]:=by apply Array.ext';simpa using aa
     subst af;subst ah;have key:∀ {A:Option Addr}{m c:Nat}{K':Value->World->Prop},ev fr x=.slice A m c->(∃(A':Option Addr)(n' c':Nat)(w2:World),(Builtin.append_ #[t,t] ty #[.slice A m c,.slice B l2.length d]:Sem Value).run P w=.ok (.slice A' n' c') w2/\K' (.slice A' n' c') w2)->
      opW P Y (Gw fr w0 k0 X0 may st X w K) {dst:=dst,op:=.call {callee:=.builtin .append,args:= #[x,y],argTypes:= #[t,t]},type:=ty,pos:=pos,after:=after,guard:=gd} (ev fr) w K':=by
      intro A m c K' O Q;obtain⟨A',n',c',w2,J,hK⟩:=Q;refine⟨rfl,?_⟩;rw[l6 (s:=Builtin.append_ #[t,t] ty #[.slice A m c,.slice B l2.length d]) (by simp[we,O,hy]) w J];exact hK
     split at h
     ·rename_i id P7;split at h
      ·rename_i ab T A0 c0 l G Pv;split at h
       ·rename_i hT;have hT:=Nat.eq_of_beq_eq_true hT;subst hT;split at h
        ·rename_i ae;subst ae;obtain⟨an,h⟩:=h;have Qm:=q.kf x;rw[P7]at Qm;have hd:den U st.rs (.sl id 0)=some (ev fr x):=Qm;simp only[den,PK.id,G,cQ,iA,Option.some.injEq]at hd;obtain⟨ho,OP⟩:Own w (X id) T A0 l.length c0 l/\∀k,X id k->k<w.heap.size:=H.sat.res id _ G;have Te:l.length+l2.length<=9223372036854775807:=by
          have:=Nat.le_mul_of_pos_right (l.length+l2.length) Zv;omega
         have fin:∀(A':Option Addr)(c':Nat)(w2:World)(Z:Nat->Prop),Own w2 Z T A' (l++l2).length c' (l++l2)->(∀k,Z k->X id k\/w.heap.size<=k)->Ch (X id) w w2->∃k st' X' M,K (.slice A' (l++l2).length c') k st'/\KnO st'.rs (.slice A' (l++l2).length c') k/\ft w0 k0 X0 may fr st X w st' X' w2 M:=by
          intro A' c' w2 Z UG a4 hq;have Qk:eC (Res.lst ab true T A0 c0 l) (.lst ab true T A' c' (l++l2)):=.lst _ _ _ _ _ _ _ _ _;have aa:nth (cV st.rs id (Res.lst ab true T A' c' (l++l2))) id=some (.lst ab true T A' c' (l++l2)):=by rw[bY,if_pos ⟨rfl,bG G⟩]
          refine step_done (st':=⟨cV st.rs id (.lst ab true T A' c' (l++l2)),fT [id] st.kn,id::st.md⟩) (k:=some (.p (.sl id 0))) (Fk H G Pv hq Qk (Z:=λk=>Z k/\k<w2.heap.size) (show RS _ w2 (.lst ab true T A' c' (l++l2))from⟨UG.narrow,λk q=>q.2⟩) (λk q=>a4 k q.1) ?_) ?_ (h A' c')
          rotate_left
          ·show den U _ (.sl id 0)=_;simp only[den,PK.id,aa,cQ,iA]
          ·refine q.fT (M:= [id]) (λi _ hi=>by rw[bY,if_neg (λQ=>hi (by simp[Q.1]))]) λi hi a F=>?_;simp at hi;subst hi;rw[G]at F;injection F with F
           subst F;exact⟨_,aa,Qk⟩
         refine key hd.symm ?_;refine Own.apps (ho.mono (Y:=λk=>X id k\/w.heap.size<=k) λk q=>.inl q) W TJ Te an (.inr (Nat.le_refl _)) (λA' c' w2 UG hq=>?_) (λh0 hB=>?_)
         ·rw[<-List.length_append]at UG ⊢;refine fin A' c' w2 _ UG (λk q=>q) ⟨hq.kept.mono λk q=>⟨q.1,λQ=>Q.elim q.2 (λQ=>absurd q.1 (Nat.not_lt.2 Q))⟩⟩
         ·have RZ:l2= []:=List.eq_nil_of_length_eq_zero h0;subst RZ;refine⟨_,_,_,_,run_append_nothing w t t ty T R W.und hi A0 l.length c0 ho.own.H5 _ (Src.ofNil _ W.und d),?_⟩;have:=fin A0 c0 w (X id) (by rw[List.append_nil];exact ho) (λk q=>.inl q) (Ch.refl _ _);rw[List.append_nil]at this;exact this
        ·exact h.elim
       ·exact h.elim
      ·exact h.elim
     ·split at h
      ·rename_i O;obtain⟨an,h⟩:=h;have Te:l2.length<=9223372036854775807:=by
        have:=Nat.le_mul_of_pos_right l2.length Zv;omega
       refine key O ?_;refine lE W TJ Te an λA' c' w2 UG hq=>?_;exact uy H q hq UG (λk q=>q.1) rfl (h A' c')
      ·exact h.elim
     ·exact h.elim
    ·exact h.elim
   ·exact h.elim
  ·split at h
   ·rename_i x y t t' F aa;have af:args= #[x,y]:=by apply Array.ext';simpa using F
    have ah:az= #[t,t']:=by apply Array.ext';simpa using aa
    subst af;subst ah;exact F5 H q h
   ·exact h.elim
  ·exact h.elim
 case buildSlice t len parts=>
  split at h
  ·rename_i e tt R z WD;obtain⟨W,hi,S,O8,Zv⟩:=tU WD;split at h
   ·rename_i cells hf hb;split at h
    ·rename_i l hl;simp only[Bool.and_eq_true]at hb;have I:0<len:=by simpa[Nat.blt_eq]using hb.1
     have L:len*R.size<=16777216:=Nat.le_of_ble_eq_true hb.2;have aC:0<R.size:=by rw[O8];exact(U.en tt).pos
     have a9:0<len*R.size:=Nat.mul_pos I aC
     obtain⟨Zr,a0⟩:=Bw hl;refine⟨rfl,?_⟩;have J:(execOp (ev fr) {dst:=dst,op:=.buildSlice t len parts,type:=ty,pos:=pos,after:=after,guard:=gd}).run P w=.ok (.value (.slice (some ⟨w.heap.size,0,none⟩) len len)) (w.alloc (.cells cells e)):=by
      have:=Go.run_buildSlice (P:=P) w t e len (parts.map fun(ix:Nat×Operand)=>(ix.1,ev fr ix.2)) cells R z W.und hi S (by omega) (by omega) hf;simp only[execOp];rw[Sem.run_bind,this];rfl
     rw[J];have QC:cells.size=len*(U.en tt).size:=by
      rw[<-Array.length_toList,<-a0,eY,Zr]
     have P6:=World.ownsRow_lit (base:=0) (e:=e) (size:=(U.en tt).size) w cells len (Nat.zero_le _) (by
      have:=Nat.le_mul_of_pos_right len aC
      simp only[maxLen];omega) QC
     refine uy H q (Z:=λk=>k=w.heap.size) (show Pu w (w.alloc (.cells cells e))from(made (w2:=w.alloc (.cells cells e)) rfl rfl).pu) ⟨⟨?_,λa F=>by injection F with F;rw[<-F]⟩,rfl⟩ (λk e=>by rw[e];exact Nat.le_refl _) (by rw[Zr]) (h w.heap.size);rw[a0,Zr];exact P6
    ·exact h.elim
   ·exact h.elim
  ·exact h.elim
 case lookup T x ix ok=>
  cases ok with
  |false=>exact h.elim
  | true=>
   simp only at h;split at h
   ·rename_i g i z r l O hi S hm;obtain⟨rfl,h⟩:=h;obtain⟨j,t,s,G,a5⟩:=tj hm;obtain⟨K,E,I,L,h3⟩:=JG S w;have J:=Fu I L h3 (U.AU (H.sat.res j _ G) a5) i;refine⟨rfl,?_⟩;rw[l6 (s:=Instr.lookup T (.map (some (r 0))) (.int .u32 i) true) (by simp[we,O,hi]) w J];exact⟨none,st,X,[],Ew h,trivial,H,q,rfl,λi hi=>(by cases hi),λi hi=>(by cases hi),Nat.le_refl _,λ_ _ _=>⟨rfl,rfl⟩,λi hi=>(by cases hi),λi I L=>by omega,Ch.refl _ _,λi a F=>⟨a,F,eC.refl a⟩⟩
   ·exact h.elim
 case makeSlice t l c=>
  split at h
  ·rename_i a b e tt R z a6 a7 WD;obtain⟨W,hi,S,O8,Zv⟩:=tU WD;split at h
   ·rename_i x O;obtain⟨⟨rfl,h0,hb⟩,h⟩:=h;have Te:a<=9223372036854775807:=by
     have h9:(1:Int)*a<=(R.bytes:Int)*a:=Int.mul_le_mul_of_nonneg_right (by omega) h0;omega
    have J:=run_make (P:=P) w t e R z W.und hi S .i64 .i64 a a h0 (Int.le_refl _) hb Te;refine⟨rfl,?_⟩;rw[l6 (s:=Instr.makeSlice t (.int .i64 a) (.int .i64 a)) (by simp[we,a6,a7]) w J];have OO:=Dc (x:=x) (U.iE O) a.toNat;have hlen:(List.replicate a.toNat x).length=a.toNat:=List.length_replicate;rw[O8];have P6:=World.ownsRow_lit (base:=0) (e:=e) (size:=(U.en tt).size) w (madeCells z.cells (a.toNat *(U.en tt).size)) a.toNat (Nat.zero_le _) (by simp only[maxLen];omega) (size_madeCells _ _);refine uy H q (Z:=λk=>k=w.heap.size) (l:=List.replicate a.toNat x) (c:=a.toNat) (T:=e) (A:=some ⟨w.heap.size,0,none⟩) ((made (w2:=w.alloc (.cells (madeCells z.cells (a.toNat *(U.en tt).size)) e)) rfl rfl).pu) ⟨⟨?_,λa F=>by injection F with F;rw[<-F]⟩,rfl⟩ (λk e=>by rw[e];exact Nat.le_refl _) (by rw[hlen]) ?_
    ·rw[OO,hlen];exact P6
    ·have:=h w.heap.size;rw[hlen]at this;exact this
   ·exact h.elim
  ·exact h.elim
theorem Ep {o:Oper}{K:fH U}{Y:Bool}(j:∀f c,tbl.c f=some c->LV U P f c/\dy P f=true)(b:Inv w0 k0 X0 may st.rs X w)(d:aK st.rs fr st.kn)(h:op2 U P tbl may k0 o (ev fr) st K):
 opW P Y (Gw fr w0 k0 X0 may st X w K) o (ev fr) w λv w'=>∃k st' X' M,K v k st'/\KnO st'.rs v k/\ft w0 k0 X0 may fr st X w st' X' w' M:=by
 unfold op2 at h;split at h
 ·exact HA j b d h
 ·obtain⟨v,k,e,g,l⟩:=xt b.sat d h;have p:=l w (Kept.refl _ _);refine⟨?_,?_⟩
  ·obtain⟨dst,op,ty,pos,after,t⟩:=o;cases op<;>first|rfl|skip
   exact absurd (show rK P _ _ _ from h) (λq=>q.elim)
  ·rw[p];exact⟨k,st,X,[],e,g,b,d,rfl,λi hi=>(by cases hi),λi hi=>(by cases hi),Nat.le_refl _,λ_ _ _=>⟨rfl,rfl⟩,λi hi=>(by cases hi),λi e g=>by omega,Ch.refl _ _,λi a s=>⟨a,s,eC.refl a⟩⟩
structure Steps(w0:World)(k0:Nat)(X0:Nat->Nat->Prop)(may:List Nat)(st:St U)(X:Nat->Nat->Prop)(st':St U)(X':Nat->Nat->Prop)(w':World):Prop where
 inv:Inv w0 k0 X0 may st'.rs X' w'
 len:st.rs.length<=st'.rs.length
 md:∃L,st'.md=L++st.md/\(∀i,i∈L->i∈may\/k0<=i)/\∀i,i<st.rs.length->i ∉ L->nth st'.rs i=nth st.rs i/\X' i=X i
 root:∀i a,nth st.rs i=some a->∃b,nth st'.rs i=some b/\eC a b
theorem Steps.refl(h:Inv w0 k0 X0 may st.rs X w):Steps w0 k0 X0 may st X st X w:=⟨h,Nat.le_refl _,⟨[],rfl,λi hi=>(by cases hi),λ_ _ _=>⟨rfl,rfl⟩⟩,λi a b=>⟨a,b,eC.refl a⟩⟩
theorem Steps.trans {e f:St U}{g j:Nat->Nat->Prop}{w1 w2:World}(h:Steps w0 k0 X0 may st X e g w1)(k:Steps w0 k0 X0 may e g f j w2):Steps w0 k0 X0 may st X f j w2:=by
 obtain⟨L,l,o,p⟩:=h.md;obtain⟨M,q,s,hm⟩:=k.md;exact⟨k.inv,Nat.le_trans h.len k.len,⟨M++L,by rw[q,l,List.append_assoc],λi hi=>(List.mem_append.1 hi).elim (s i) (o i),λi hi d=>by
  rw[List.mem_append,not_or]at d;obtain⟨t,u⟩:=hm i (Nat.lt_of_lt_of_le hi h.len) d.1;obtain⟨v,x⟩:=p i hi d.2;exact⟨t.trans v,u.trans x⟩⟩,λi a y=>by
  obtain⟨b,z,A⟩:=h.root i a y;obtain⟨c,B,C⟩:=k.root i b z;exact⟨c,B,A.trans C⟩⟩
theorem ft.steps {st':St U}{X':Nat->Nat->Prop}{w':World}{M:List Nat}(h:ft w0 k0 X0 may fr st X w st' X' w' M):Steps w0 k0 X0 may st X st' X' w':=⟨h.inv,h.len,⟨M,h.md,h.can,λi hi hm=>h.same i hi hm⟩,h.root⟩
theorem Steps.kn {st' f:St U}{X':Nat->Nat->Prop}{w':World}(h:Steps w0 k0 X0 may st X st' X' w')(e:f.rs=st'.rs)(g:f.md=st'.md):Steps w0 k0 X0 may st X f X' w':=by
 obtain⟨a,b,c,d⟩:=h;exact⟨by rw[e];exact a,by rw[e];exact b,by rw[e,g];exact c,by rw[e];exact d⟩
variable {n:Nat}{N:List Nat}{ops:Array Oper}
theorem js {dst:Option Tmp}{v:Value}{F G:Fr->Prop}(h:kh n N fr dst v F)(a:∀c,F c->G c):kh n N fr dst v G:=by
 unfold kh at h ⊢;cases dst with
 |none=>exact a _ h
 | some d=>
  simp only at h ⊢;split at h
  ·split at h
   ·cases v with
    |int k x=>exact λz b=>a _ (h z b)
    |bool x=>exact λz b=>a _ (h z b)
    |_=>exact a _ h
   ·exact a _ h
  ·exact h.elim
def Aft(w0:World)(k0:Nat)(X0:Nat->Nat->Prop)(may:List Nat)(st:St U)(X:Nat->Nat->Prop)(ds:List Deferred)(K:Fr->St U->Prop)(a:Fr)(w':World):Prop:=∃st' X',Steps w0 k0 X0 may st X st' X' w'/\aK st'.rs a st'.kn/\a.ds=ds/\K a st'
def GM(M:Fr->Oper->World->bq->Prop)(n:Nat)(N:List Nat)(ops:Array Oper)(K:Fr->World->Prop):List Oper->Fr->World->Prop
 | [],fr,w=>K fr w
 | o::rest,fr,w=>jg ops o fr
  (λfr=>M fr o w (λv w'=>kh n N fr o.dst v λa=>GM M n N ops K rest a w'))
  (λfr=>kh n N fr o.dst undef λa=>GM M n N ops K rest a w)
def nV(n:Nat)(ws:List Nat)(a0:Act)(Q:QF):Exit->Act->World->Prop
 |.outgrown,_,_=>False
 |x,a,w=>∃fr,Rep n fr a/\Q x fr w/\Agr ws a0 a
theorem n5 {Qp:Fr->List PanicEntry->World->Prop}{K:Fr->World->Prop}{ws:List Nat}{a0:Act}{r:Option Nat}:
 ∀(l:List Oper),(∀o∈l,∀d,o.dst=some d->d∈ws)->∀(fr:Fr)(a:Act)(w:World),Rep n fr a->Agr ws a0 a->GM (λfr o w K=>opW P true (some (Qp fr)) o (ev fr) w K) n N ops K l fr w->
  wpListIn (WF r) 0 P ops (nV n ws a0 λx fr w=>match x with|.normal=>K fr w|.panic ch=>Qp fr ch w|_=>False) l a w
 | [],_,fr,a,w,e,b,h=>⟨fr,e,h,b⟩
 | o::rest,hd,fr,a,w,e,b,h=>by
  obtain⟨f,g,c⟩:=ly e h;simp only[wpListIn];rcases c with⟨hw,c⟩|⟨hw,c⟩
  ·rw[if_pos hw];refine Em (K:=λf w'=>GM (λfr o w K=>opW P true (some (Qp fr)) o (ev fr) w K) n N ops K rest f w') g b (hd o (List.mem_cons_self ..)) c ?_ ?_
   ·intro i s w2 j k t;exact n5 rest (λp q=>hd p (List.mem_cons_of_mem _ q)) i s w2 j k t
   ·intro ch w' hq;exact⟨f,g,hq,b⟩
  ·rw[if_neg (by rw[hw];simp)];obtain⟨i,j,k⟩:=iU g c;exact⟨lH,n5 rest (λp q=>hd p (List.mem_cons_of_mem _ q)) i _ w j (b.trans (Agr.put a o.dst undef (hd o (List.mem_cons_self ..)))) k⟩
theorem Hk {k:Option Kn}{A B:Prop}{rs:List (Res U)}{v:Value}(h:CY k A B)(a:KnO rs v k):B:=by
 unfold CY at h;split at h
 ·exact a.elim
 ·exact h
theorem tI {K:Fr->St U->Prop}{C:List PanicEntry->Fr->St U->Prop}(p:∀f c,tbl.c f=some c->LV U P f c/\dy P f=true):∀(l:List Oper)(fr:Fr)(st0 st:St U)(a X:Nat->Nat->Prop)(w:World)(ds:List Deferred),Steps w0 k0 X0 may st0 a st X w->aK st.rs fr st.kn->fr.ds=ds->Fc U P tbl may k0 n N ops K C l fr st->
 GM (λfr o w K=>opW P true (some λch w'=>Aft w0 k0 X0 may st0 a ds (C ch) fr w') o (ev fr) w K) n N ops (Aft w0 k0 X0 may st0 a ds K) l fr w
 | [],fr,st0,st,a,X,w,ds,b,i,hd,h=>⟨st,X,b,i,hd,h⟩
 | o::rest,fr,st0,st,a,X,w,ds,b,i,hd,h=>by
  refine mu h (λF q j h=>?_) (λF q j h=>?_)
  ·have s:=i.same q;refine ur (En (Ep p b.inv s h) ?_) λv w' d=>?_
   ·rintro ch w' ⟨v,st',X',M,rfl,t,e⟩;exact⟨st',X',b.trans e.steps,e.kn,by rw[j,hd],t⟩
   ·obtain⟨k,st',X',M,t,D,e⟩:=d;refine js (kF (Hk t D) e.kn D) λu d=>?_;obtain⟨x,g,y,z,A,B⟩:=d;exact tI p rest u st0 x a X' w' ds ((b.trans e.steps).kn g y) (by rw[g];exact z) (by rw[A,j,hd]) B
  ·have s:=i.same q;refine js (kF h s trivial) λu d=>?_;obtain⟨x,g,y,z,A,B⟩:=d;exact tI p rest u st0 x a X w ds (b.kn g y) (by rw[g];exact z) (by rw[A,j,hd]) B
theorem Inv.drew(h:Inv w0 k0 X0 may st.rs X w):Inv w0 k0 X0 may st.rs X w.drew:=h.pu (Pu.aR w)
structure BOk(V:List Nat)(rd:List (Nat×List Nat))(b:Nat->Nat->Prop)(rs:List (Res U))(X:Nat->Nat->Prop)(w:World):Prop where
 has:∀i id k,id∈rH i rd->id<rs.length->X id k->b i k
 all:∀i k,i∈V->b i k
 only:∀i k,i ∉ V->b i k->k<w.heap.size/\∀j,j<rs.length->X j k->j∈rH i rd
end
end
section
section
variable {U:Uni}{P:Program}{tbl:Tb U}{may:List Nat}{k0:Nat}
variable {w0:World}{X0 X:Nat->Nat->Prop}{w:World}{fr:Fr}{st:St U}{n:Nat}{N:List Nat}{ops:Array Oper}
def MSw(P:Program):LZ:=λB o ρ w F=>∃v,F v/\∀w',Kept (held B w) w w'->(execOp ρ o).run P w'=.ok (.value v) w'
theorem xR {F G:Nat->Prop}:∀ {l:List Nat},Dy F l->(∀i,F i->G i)->Dy G l
 | [],_,_=>trivial
 | [_],h,a=>a _ h
 |_::j::r,h,a=>⟨a _ h.1,xR (l:=j::r) h.2 a⟩
theorem BP {b:Nat->Nat->Prop}:∀ {l:List Nat}{k:Nat},bD b l k->∃i,i∈l/\b i k
 | [i],k,h=>⟨i,by simp,h⟩
 | i::j::r,k,h=>by
  rcases h with h|h
  ·exact⟨i,by simp,h⟩
  ·obtain⟨a,c,d⟩:=BP (l:=j::r) h;exact⟨a,List.mem_cons_of_mem _ c,d⟩
theorem GU {α:Type}(M L:List α):jZ ((M++L).length - L.length) (M++L)=M:=by
 rw[fx,List.length_append,Nat.add_sub_cancel,List.take_left]
theorem LA {rs:List (Res U)}{p:PK}{v:Value}(h:den U rs p=some v):p.id<rs.length:=by
 unfold den at h;cases a:nth rs p.id with
 |none=>rw[a]at h;cases p<;>simp[cQ]at h
 |some r=>exact bG a
theorem BOk.step {V:List Nat}{rd:List (Nat×List Nat)}{b:Nat->Nat->Prop}(o:BOk V rd b st.rs X w){st':St U}{X':Nat->Nat->Prop}{w':World}{M:List Nat}(hs:ft w0 k0 X0 may fr st X w st' X' w' M):
 BOk V rd (λi k=>b i k\/∃id,id∈rH i rd/\id<st'.rs.length/\X' id k) st'.rs X' w':=by
 refine⟨λi id k f c d=>.inr ⟨id,f,c,d⟩,λi k h=>.inl (o.all i k h),λi k hi g=>?_⟩;rcases g with g|⟨id,f,c,d⟩
 ·obtain⟨t,p⟩:=o.only i k hi g;refine⟨Nat.lt_of_lt_of_le t hs.ch.size,λj l a=>?_⟩;by_cases e:j<st.rs.length
  ·by_cases hm:j∈M
   ·rcases hs.grow j hm k a with q|q
    ·exact p j e q
    ·omega
   ·rw[(hs.same j e hm).2]at a;exact p j e a
  ·have:=hs.new j (Nat.le_of_not_lt e) l k a;omega
 ·refine⟨hs.inv.sat.lt c k d,λj l a=>?_⟩;by_cases s:id=j
  ·rw[<-s];exact f
  ·exact absurd a (hs.inv.sat.dis id j c l s k d)
theorem Du {V:List Nat}{rd:List (Nat×List Nat)}{M a:List Nat}(h:Dv V rd M a=true):∀i,i∈a->i ∉ V/\∀j,j∈M->j ∉ rH i rd:=by
 intro i hi;have:=dK.1 h i hi;simp only[Bool.and_eq_true,Bool.not_eq_true']at this;refine⟨λc=>?_,λj d e=>?_⟩
 ·rw[gC.2 c]at this;cases this.1
 ·have b:=dK.1 this.2 j d;rw[gC.2 e]at b;cases b
theorem BOk.kept {V:List Nat}{rd:List (Nat×List Nat)}{b:Nat->Nat->Prop}(d:BOk V rd b st.rs X w){st':St U}{X':Nat->Nat->Prop}{w':World}{M:List Nat}(hs:ft w0 k0 X0 may fr st X w st' X' w' M){a:List Nat}(h:Dv V rd M a=true):Kept (bD b a) w w':=by
 refine hs.ch.kept.mono λk e=>?_;obtain⟨i,hi,f⟩:=BP e;obtain⟨g,l⟩:=Du h i hi;obtain⟨o,p⟩:=d.only i k g f;exact⟨o,fun⟨j,c,q⟩=>l j c (p j (hs.mlt j c) q)⟩
theorem Jn {o:Oper}{kn:List (Key×Kn)}{x:Nat}(h:rdX o kn X x):∃t a p,o.op=.load t a/\kf kn a=some (.p p)/\X p.id x:=by
 unfold rdX at h;cases c:o.op<;>simp only[c]at h
 rename_i t a;cases b:V.kf kn a with
 |none=>simp only[b]at h
 |some k=>cases k<;>simp only[b]at h;exact⟨t,a,_,rfl,b,h⟩
theorem GO {all:Bool}{V:List Nat}{rd:List (Nat×List Nat)}{K:Fr->St U->Prop}(Qw:∀f c,tbl.c f=some c->LV U P f c/\dy P f=true):
 ∀(fuel:Nat)(listed:Array Bool)(fr:Fr)(st0 st:St U)(l X:Nat->Nat->Prop)(w:World)(ds:List Deferred)(b:Nat->Nat->Prop),(all=false->BOk V rd b st.rs X w)->(all=true->∀i k,b i k)->Steps w0 k0 X0 may st0 l st X w->aK st.rs fr st.kn->fr.ds=ds->
  v9 U P tbl may k0 n N ops all V rd K fuel listed fr st->
  sI P (λo ρ w K=>opW P false none o ρ w K) (MSw P) n N ops (Aft w0 k0 X0 may st0 l ds K) fuel (some b) listed fr w:=by
 intro fuel
 induction fuel with
 | zero=>
  intro listed fr st0 st l X w ds b e I j q hd h;simp only[v9]at h;simp only[sI];split at h
  ·rename_i J;try simp only[J]
   exact⟨st,X,j,q,hd,h⟩
  ·exact h.elim
 | succ fuel R=>
  intro listed fr st0 st l X w ds b e I j q hd h;simp only[v9]at h;simp only[sI];split at h
  ·rename_i J;try simp only[J]
   exact⟨st,X,j,q,hd,h⟩
  ·rename_i i0 r0 J;try simp only[J]
   split at h
   ·rename_i i ah;try simp only[ah]
    split at h
    ·rename_i o S;try simp only[S]
     refine mu h (λT s u hq=>?_) (λT s u h=>?_)
     ·have L:=q.same s;clear h;have h:=hq;clear hq;cases W:HJ o with
      |true=>simp only[W]at h
      |false=>
      cases H:K6 all V rd i o st.kn with
      |false=>simp only[W,H]at h
      | true=>
       simp only[W,H]at h;obtain⟨v,k,y,Y,z⟩:=xt j.inv.sat L h;refine⟨v,?_,λw' hw=>z w' (hw.mono λx Z=>?_)⟩
       ·refine js (kF y L Y) λA g=>?_;obtain⟨B,d,C,D,F,G⟩:=g;exact R _ A st0 B l X w ds b (by rw[d];exact e) I (j.kn d C) (by rw[d];exact D) (by rw[F,u,hd]) G
       ·show b i x;obtain⟨t,a,p,an,g,Z⟩:=Jn Z;unfold K6 at H;simp only[an,g]at H;by_cases O:all=true
        ·exact I O i x
        have e:=e (by simpa using O);split at H
        ·rename_i Q;rcases Bool.or_eq_true_iff.1 Q with Q|Q
         ·exact absurd Q O
         ·exact e.all i x (gC.1 Q)
        ·have ab:=L.kf a;rw[g]at ab;exact e.has i p.id x (gC.1 H) (LA (show den U st.rs p=some _ from ab)) Z
     ·refine js (kF h (q.same s) trivial) λA g=>?_;obtain⟨B,d,C,D,F,G⟩:=g;exact R _ A st0 B l X w ds b (by rw[d];exact e) I (j.kn d C) (by rw[d];exact D) (by rw[F,u,hd]) G
    ·exact h.elim
   ·split at h
    ·exact h.elim
    ·rename_i az _;try simp only[az]
     refine xR h λi h=>?_;split at h
     ·rename_i o S;try simp only[S]
      refine mu h (λT s u h=>?_) (λT s u h=>?_)
      ·have L:=q.same s;refine ur (Ht (Ep Qw j.inv L h) λch w' ⟨_,_,_,_,_,h,_⟩=>h.elim) λv w' g=>?_;obtain⟨k,st',X',M,y,Y,z⟩:=g;have y:=Ek y;split at y
       ·rename_i ae;rw[z.md,GU]at ae;refine js (kF y z.kn Y) λA g=>?_;obtain⟨B,d,C,D,F,G⟩:=g;have e:=e rfl;have VH:=e.step z;have af:=R (listed.setIfInBounds i true) A st0 B l X' w' ds _ (λ_=>by rw[d];exact VH) (λO=>by cases O) ((j.trans z.steps).kn d C) (by rw[d];exact D) (by rw[F,u,hd]) G;unfold Et;simp only;split
        ·exact⟨_,λi k aa=>.inl aa,af⟩
        ·exact⟨e.kept z ae,_,λi k aa=>.inl aa,af⟩
       ·exact y.elim
      ·refine js (kF h (q.same s) trivial) λA g=>?_;obtain⟨B,d,C,D,F,G⟩:=g;exact R _ A st0 B l X w ds b (by rw[d];exact e) I (j.kn d C) (by rw[d];exact D) (by rw[F,u,hd]) G
     ·exact h.elim
variable (U P tbl may k0 w0 X0 n)in
def vm(c:Code)(V:QF2 U->Fr->St U->Prop):Prop:=∀(Q:QF2 U)(fr:Fr)(st:St U)(X:Nat->Nat->Prop)(a:Act)(w:World),Rep n fr a->Inv w0 k0 X0 may st.rs X w->aK st.rs fr st.kn->V Q fr st->c.wpIn (WF none) 0 P (nV n (writes c) a λx b w'=>Aft w0 k0 X0 may st X fr.ds (λb st'=>Q x b st') b w') a w
theorem Real.two {ws:List Nat}{a0:Act}{Q:QF}{e:Exit}{a':Act}{w':World}(h:Real n ws a0 none Q e a' w'):nV n ws a0 Q e a' w':=by
 cases e<;>first|exact h|exact h.1.elim
theorem nV.mono {ws a:List Nat}{a0:Act}{Q b:QF}{e:Exit}{a':Act}{w':World}(h:nV n ws a0 Q e a' w')(hw:∀i,i∈ws->i∈a)(c:∀x fr w,Q x fr w->b x fr w):nV n a a0 b e a' w':=by
 cases e<;>first|exact h|(obtain⟨fr,d,f,g⟩:=h;exact⟨fr,d,c _ _ _ f,g.mono hw⟩)
theorem Aft.mono {ds:List Deferred}{K a:Fr->St U->Prop}{b:Fr}{w':World}(h:Aft w0 k0 X0 may st X ds K b w')(c:∀fr st,K fr st->a fr st):Aft w0 k0 X0 may st X ds a b w':=by
 obtain⟨st',X',d,e,f,g⟩:=h;exact⟨st',X',d,e,f,c _ _ g⟩
theorem Aft.pre {a:St U}{b:Nat->Nat->Prop}{w1:World}{ds:List Deferred}{K:Fr->St U->Prop}{c:Fr}{w':World}(hs:Steps w0 k0 X0 may st X a b w1)(h:Aft w0 k0 X0 may a b ds K c w'):Aft w0 k0 X0 may st X ds K c w':=by
 obtain⟨st',X',d,e,f,g⟩:=h;exact⟨st',X',hs.trans d,e,f,g⟩
theorem wh {id:Nat}{Q:QF2 U}{a:Act}(g:∀f c,tbl.c f=some c->LV U P f c/\dy P f=true)(i:Rep n fr a)(j:Inv w0 k0 X0 may st.rs X w)(k:aK st.rs fr st.kn)(h:Fc U P tbl may k0 n N ops (Q .normal) (λch=>Q (.panic ch)) ops.toList fr st):
 (Code.region id ops false).wpIn (WF none) 0 P (nV n (writes (.region id ops false)) a λx b w'=>Aft w0 k0 X0 may st X fr.ds (λb st'=>Q x b st') b w') a w:=by
 have l:=tI (n:=n) (N:=N) (ops:=ops) g ops.toList fr st st X X w fr.ds (Steps.refl j) k rfl h;exact wpIn_mono (wpIn_region_list (n5 (ws:=writes (.region id ops false)) (a0:=a) ops.toList (λo p d hd=>List.mem_filterMap.2 ⟨o,p,hd⟩) fr a w i (Agr.refl _ _) l)) λe a' w' he=>by
  cases e<;>first|exact he|(obtain⟨_,_,h,_⟩:=he;exact h.elim)
theorem yB {id:Nat}{Q:QF2 U}{a:Act}{V:List Nat}{rd:List (Nat×List Nat)}(y:∀f c,tbl.c f=some c->LV U P f c/\dy P f=true)(hm:P.follows .mixedOrders=true)(hs:Region.noSelect ops=true)(z:fW ops.toList=true)(A:Rep n fr a)(B:Inv w0 k0 X0 may st.rs X w)(b:aK st.rs fr st.kn){all:Bool}
 (h:v9 U P tbl may k0 n N ops all V rd (Q .normal) ops.size (Array.replicate ops.size false) fr st):
 (Code.region id ops true).wpIn (WF none) 0 P (nV n (writes (.region id ops true)) a λx p w'=>Aft w0 k0 X0 may st X fr.ds (λp st'=>Q x p st') p w') a w:=by
 have q:=Inv.drew B;have C:Steps w0 k0 X0 may st X st X w.drew:=Steps.refl q;have D:=GO (n:=n) (N:=N) (ops:=ops) y ops.size (Array.replicate ops.size false) fr st st X X w.drew fr.ds (λi k=>i∈V\/all=true\/∃id,id∈rH i rd/\id<st.rs.length/\X id k) (λs=>⟨λi id k t g l=>.inr (.inr ⟨id,t,g,l⟩),λi k h=>.inl h,λi k hi b=>by
  rcases b with b|b|⟨id,t,g,l⟩
  ·exact absurd b hi
  ·rw[s]at b;cases b
  ·refine⟨q.sat.lt g k l,λj F G=>?_⟩;by_cases v:id=j
   ·rw[<-v];exact t
   ·exact absurd G (q.sat.dis id j g F v k l)⟩) (λs i k=>.inr (.inl s)) C b rfl h
 exact wpIn_mono (kt hm py (λo u=>jH z o (Array.mem_toList_iff.2 u)) (tJ (ws:=writes (.region id ops true)) (a0:=a) (Qp:=none) (M:=λo ρ w K=>opW P false none o ρ w K) (MS:=MSw P) (λ_ _ _ _ h=>h) (λ_ _ _ _ _ h=>h) hs (λi o u d hd=>uC u hd) ops.size _ (λ_ _ _=>True) _ fr a w.drew (ji.none _ _) (nW.none _ _) A (Agr.refl _ _) D)) λe a' w' he=>Real.two (mm he)
end
end
section
section
variable {U:Uni}{P:Program}{tbl:Tb U}{may:List Nat}{k0:Nat}
variable {w0:World}{X0 X:Nat->Nat->Prop}{w:World}{fr:Fr}{st:St U}{n:Nat}{N:List Nat}{ops:Array Oper}
theorem Ae {T:Type}:∀ {l:List (Nat×Sh2)}{J:SlT l T}{fr:Fr}{F:T->Prop},KS l J fr F->∃b vs,F b/\(∀G:T->List (Nat×Value)->Prop,alS l J G->G b vs)/\∀s v,(s,v)∈vs->lk fr.g s fr.e=v
 | [],J,fr,F,h=>⟨J,[],h,λG c=>c,λs v a=>by cases a⟩
 | (s,sh)::r,J,fr,F,h=>by
  obtain⟨t,g,i⟩:=xM h;obtain⟨j,vs,k,o,d⟩:=Ae g;refine⟨j,(s,lk fr.g s fr.e)::vs,k,λG c=>o (λf vs=>G f ((s,lk fr.g s fr.e)::vs)) (i (λb v=>alS r b λf vs=>G f ((s,v)::vs)) c),λp v a=>?_⟩;rcases List.mem_cons.1 a with e|a
  ·injection e with q d;rw[q,d]
  ·exact d p v a
def eU(kn:List (Key×Kn))(id:Nat):Nat->List AV->List Value->Prop
 |_,[],[]=>True
 |i,.v x::r,v::vs=>x=v/\eU kn id (i+1) r vs
 |i,.k p::r,_::vs=>ef (.c id i) kn=some (.p p)/\eU kn id (i+1) r vs
 |_,_,_=>False
theorem tM {T:Type}{id:Nat}{kn:List (Key×Kn)}:∀ {l:List CS}{J:CST l T}{i:Nat}{vs:List Value}{F:T->Prop},CG id kn l J i vs F->∃g b,F g/\(∀G:T->List AV->Prop,Im l J G->G g b)/\eU kn id i b vs/\∀n,j6 n l=true->∀p,AV.k p∈b->p.id<n
 | [],J,i,[],F,h=>⟨J,[],h,λG d=>d,trivial,λ_ _ p a=>by cases a⟩
 | [],_,_,_::_,_,h=>h.elim
 |.v _::_,_,_,[],_,h=>h.elim
 |.k _::_,_,_,[],_,h=>h.elim
 | .v s::r,J,i,v::vs,F,h=>by
  obtain⟨A,u,x⟩:=qe h;obtain⟨j,b,k,o,d2,t⟩:=tM u;refine⟨j,.v v::b,k,λG d=>o (λf vs=>G f (.v v::vs)) (x (λg v=>Im r g λf l=>G f (.v v::l)) d),⟨rfl,d2⟩,λn c p a=>?_⟩;rcases List.mem_cons.1 a with e|a
  ·cases e
  ·exact t n c p a
 | .k p::r,J,i,v::vs,F,h=>by
  simp only[CG]at h;split at h
  ·rename_i q hq;split at h
   ·rename_i he;obtain⟨j,b,k,o,d2,t⟩:=tM h;refine⟨j,.k p::b,k,λG d=>o (λf vs=>G f (.k p::vs)) d,⟨by rw[hq,(Kn.ow he).1],d2⟩,λn c y a=>?_⟩;simp only[j6]at c;split at c
    ·rename_i z;rcases List.mem_cons.1 a with e|a
     ·injection e with e;subst e;simpa[Nat.blt_eq]using z
     ·exact t n c y a
    ·cases c
   ·exact h.elim
  ·exact h.elim
def UpD(rs:List (Res U))(kn:List (Key×Kn))(id:Nat):UP U->Prop
 |.ob t s=>∃r,nth rs id=some (.ob t r s)
 |.blk a=>∃g cs T,nth rs id=some (.blk g cs T)/\eU kn id 0 a cs
 |.lst t A c l=>∃own T,nth rs id=some (.lst t own T A c l)
theorem oW {T:Type}{rs:List (Res U)}{kn:List (Key×Kn)}:∀ {l:List (Nat×RSh)}{J:B3 U l T}{F:T->Prop},sK rs kn l J F->∃D us,F D/\(∀G:T->List (Nat×UP U)->Prop,Ge l J G->G D us)/\us.map (·.1)=l.map (·.1)/\(∀id u,(id,u)∈us->UpD rs kn id u)/\
 ∀n,fR n l=true->∀id u,(id,u)∈us->id<n/\∀f,u=.blk f->∀p,AV.k p∈f->p.id<n
 | [],J,F,h=>⟨J,[],h,λG j=>j,rfl,λid u hu=>(by cases hu),λ_ _ id u hu=>by cases hu⟩
 | (id,.ob t)::r,J,F,h=>by
  simp only[sK]at h;split at h
  ·rename_i q r' s v;split at h
   ·rename_i H;subst H;obtain⟨x,us,y,z,B,d2,C⟩:=oW h;refine⟨x,(id,.ob q s)::us,y,λG j=>z (λk vs=>G k ((id,.ob q s)::vs)) (j s),by simp[B],λi u hu=>?_,λn a i u hu=>?_⟩
    ·rcases List.mem_cons.1 hu with e|hu
     ·injection e with b d;subst b;subst d;exact⟨r',v⟩
     ·exact d2 i u hu
    ·simp only[fR]at a;split at a
     ·rename_i o;rcases List.mem_cons.1 hu with e|hu
      ·injection e with b d;subst b;subst d;exact⟨by simpa[Nat.blt_eq]using o,λf e=>by cases e⟩
      ·exact C n a i u hu
     ·cases a
   ·exact h.elim
  ·exact h.elim
 | (id,.blk l)::r,J,F,h=>by
  simp only[sK]at h;split at h
  ·rename_i g cs I v;obtain⟨Q,f,K,L,d1,M⟩:=tM h;obtain⟨x,us,y,z,B,d2,C⟩:=oW K;refine⟨x,(id,.blk f)::us,y,λG j=>z (λk vs=>G k ((id,.blk f)::vs)) (L (λD cs=>Ge r D λk us=>G k ((id,.blk cs)::us)) j),by simp[B],λi u hu=>?_,λn a i u hu=>?_⟩
   ·rcases List.mem_cons.1 hu with e|hu
    ·injection e with b d;subst b;subst d;exact⟨g,cs,I,v,d1⟩
    ·exact d2 i u hu
   ·simp only[fR]at a;split at a
    ·rename_i o;simp only[Bool.and_eq_true]at o;rcases List.mem_cons.1 hu with e|hu
     ·injection e with b d;subst b;subst d
      exact⟨by simpa[Nat.blt_eq]using o.1,λR e p O=>by injection e with e;subst e;exact M n o.2 p O⟩
     ·exact C n a i u hu
    ·cases a
  ·exact h.elim
 | (id,.lst t)::r,J,F,h=>by
  simp only[sK]at h;split at h
  ·rename_i q own I A c l v;split at h
   ·rename_i H;subst H;obtain⟨x,us,y,z,B,d2,C⟩:=oW h;refine⟨x,(id,.lst q A c l)::us,y,λG j=>z (λk vs=>G k ((id,.lst q A c l)::vs)) (j A c l),by simp[B],λi u hu=>?_,λn a i u hu=>?_⟩
    ·rcases List.mem_cons.1 hu with e|hu
     ·injection e with b d;subst b;subst d;exact⟨own,I,v⟩
     ·exact d2 i u hu
    ·simp only[fR]at a;split at a
     ·rename_i o;rcases List.mem_cons.1 hu with e|hu
      ·injection e with b d;subst b;subst d;exact⟨by simpa[Nat.blt_eq]using o,λf e=>by cases e⟩
      ·exact C n a i u hu
     ·cases a
   ·exact h.elim
  ·exact h.elim
theorem yM {f:Nat->Res U->Option (Res U)}:∀ {i:Nat}{l l':List (Res U)},lay f i l=some l'->l'.length=l.length/\∀j r,nth l j=some r->∃r',f (i+j) r=some r'/\nth l' j=some r'
 | i,[],l',h=>by
  simp only[lay,Option.some.injEq]at h;subst h;exact⟨rfl,λj r b=>by simp[nth]at b⟩
 | i,r::l,l',h=>by
  simp only[lay]at h;split at h
  ·rename_i r' l2 c d;injection h with h
   subst h;obtain⟨e,g⟩:=yM d;refine⟨by simp[e],λj x a=>?_⟩;cases j with
   |zero=>simp[nth]at a;subst a;exact⟨r',c,rfl⟩
   | succ j=>
    obtain⟨y,k,o⟩:=g j x a;exact⟨y,by rw[show i+(j+1)=i+1+j by omega];exact k,o⟩
  ·cases h
theorem ku {i:Nat}{u:UP U}:∀ {us:List (Nat×UP U)},lU i us=some u->(i,u)∈us
 | [],h=>by cases h
 | (j,x)::r,h=>by
  unfold lU at h;split at h
  ·rename_i he;injection h with h
   rw[<-h,Nat.eq_of_beq_eq_true he];exact List.mem_cons_self ..
  ·exact List.mem_cons_of_mem _ (ku h)
theorem tN {i:Nat}:∀ {us:List (Nat×UP U)},lU i us=none->i ∉ us.map (·.1)
 | [],_=>by simp
 | (j,x)::r,h=>by
  unfold lU at h;split at h
  ·cases h
  ·rename_i he;rw[List.map_cons,List.mem_cons,not_or];exact⟨by rintro rfl;simp at he,tN h⟩
theorem qI {kn:List (Key×Kn)}{s:Nat}{k:Kn}:∀ {l:List (Nat×Kn)},Ez kn l=true->(s,k)∈l->∃p,k=.p p/\ef (.s s) kn=some (.p p)
 | [],_,h=>by cases h
 | (a,q)::r,h,hm=>by
  simp only[Ez]at h;split at h
  ·rename_i x c;split at h
   ·rename_i he;rcases List.mem_cons.1 hm with e|hm
    ·injection e with d f
     subst d;subst f;obtain⟨g,p,b⟩:=Kn.ow he;exact⟨p,by rw[<-g,b],by rw[c,b]⟩
    ·exact qI h hm
   ·cases h
  ·cases h
theorem lx {m s:Nat}{p:PK}:∀ {l:List (Nat×Kn)},pQ m l=true->(s,Kn.p p)∈l->p.id<m
 | [],_,h=>by cases h
 | (a,.p q)::r,h,hm=>by
  simp only[pQ]at h;split at h
  ·rename_i c;rcases List.mem_cons.1 hm with e|hm
   ·injection e with d b;injection b with b;subst b;simpa[Nat.blt_eq]using c
   ·exact lx h hm
  ·cases h
 |(a,.t _)::r,h,_=>by cases h
 |(a,.ag _)::r,h,_=>by cases h
 |(a,.f _ _)::r,h,_=>by cases h
theorem tT {key:Key}{k:Kn}:∀ {l:List (Nat×Kn)},(key,k)∈CM l->∃s,key=.s s/\(s,k)∈l
 | [],h=>by cases h
 | (s,q)::r,h=>by
  rcases List.mem_cons.1 h with e|h
  ·injection e with a b;subst a;subst b;exact⟨s,rfl,List.mem_cons_self ..⟩
  ·obtain⟨c,d,f⟩:=tT (l:=r) h;exact⟨c,d,List.mem_cons_of_mem _ f⟩
theorem gT {rs:List (Res U)}{s:Nat}{v:Value}:∀ {l:List (Nat×Kn)},(s,v)∈mr rs l->∃p,(s,Kn.p p)∈l/\v=(den U rs p).getD undef
 | [],h=>by cases h
 | (a,.p q)::r,h=>by
  rcases List.mem_cons.1 h with e|h
  ·injection e with d f;subst d;subst f;exact⟨q,List.mem_cons_self ..,rfl⟩
  ·obtain⟨p,b,c⟩:=gT (l:=r) h;exact⟨p,List.mem_cons_of_mem _ b,c⟩
 |(a,.t _)::r,h=>by obtain⟨p,b,c⟩:=gT (l:=r) h;exact⟨p,List.mem_cons_of_mem _ b,c⟩
 |(a,.ag _)::r,h=>by obtain⟨p,b,c⟩:=gT (l:=r) h;exact⟨p,List.mem_cons_of_mem _ b,c⟩
 |(a,.f _ _)::r,h=>by obtain⟨p,b,c⟩:=gT (l:=r) h;exact⟨p,List.mem_cons_of_mem _ b,c⟩
 |(a,.pan)::r,h=>by obtain⟨p,b,c⟩:=gT (l:=r) h;exact⟨p,List.mem_cons_of_mem _ b,c⟩
 |(a,.w _ _)::r,h=>by obtain⟨p,b,c⟩:=gT (l:=r) h;exact⟨p,List.mem_cons_of_mem _ b,c⟩
theorem eU.KO {kn:List (Key×Kn)}{id:Nat}{V:PK->Value}:∀ {i:Nat}{c:List AV}{vs:List Value},eU kn id i c vs->(∀j p v,nth c j=some (.k p)->nth vs j=some v->V p=v)->aV (λa=>match a with|.v x=>x|.k p=>V p) c=vs
 |_,[],[],_,_=>rfl
 |_,[],_::_,h,_=>by simp[eU]at h
 |_,_::_,[],h,_=>by rename_i a l;cases a<;>simp[eU]at h
 | i,.v x::r,v::vs,h,b=>by
  simp only[eU]at h;simp only[aV,h.1];rw[eU.KO h.2 λj p v d e=>b (j+1) p v d e]
 | i,.k p::r,v::vs,h,b=>by
  simp only[eU]at h;simp only[aV];rw[b 0 p v rfl rfl,eU.KO h.2 λj p v d e=>b (j+1) p v d e]
theorem eU.kn {kn:List (Key×Kn)}{id:Nat}:∀ {i j:Nat}{a:List AV}{vs:List Value}{p:PK},eU kn id i a vs->nth a j=some (.k p)->ef (.c id (i+j)) kn=some (.p p)
 |_,_,[],_,_,_,h=>by simp[nth]at h
 |i,0,.v _::_,_::_,_,_,h=>by simp[nth]at h
 | i,0,.k p::r,v::vs,b,hd,h=>by
  simp only[eU]at hd;simp only[nth,Option.some.injEq,AV.k.injEq]at h;subst h;exact hd.1
 | i,j+1,.v _::r,_::vs,p,hd,h=>by
  simp only[eU]at hd;have:=eU.kn hd.2 (show nth r j=some (.k p)from h)
  rwa[show i+1+j=i+(j+1)by omega]at this
 | i,j+1,.k _::r,_::vs,p,hd,h=>by
  simp only[eU]at hd;have:=eU.kn hd.2 (show nth r j=some (.k p)from h)
  rwa[show i+1+j=i+(j+1)by omega]at this
 |_,_,.v _::_,[],_,hd,_=>by simp[eU]at hd
 |_,_,.k _::_,[],_,hd,_=>by simp[eU]at hd
theorem oB {id:Nat}{key:Key}{k:Kn}:∀ {i:Nat}{l:List CS},(key,k)∈yY id i l->∃j p,key=.c id (i+j)/\k=.p p/\nth l j=some (.k p)
 |_,[],h=>by cases h
 | i,.v _::r,h=>by
  obtain⟨j,p,a,b,c⟩:=oB (l:=r) h;exact⟨j+1,p,by rw[a];congr 1;omega,b,c⟩
 | i,.k q::r,h=>by
  rcases List.mem_cons.1 h with e|h
  ·injection e with d f;exact⟨0,q,d,f,rfl⟩
  ·obtain⟨j,p,a,b,c⟩:=oB (l:=r) h;exact⟨j+1,p,by rw[a];congr 1;omega,b,c⟩
theorem nd {key:Key}{k:Kn}:∀ {l:List (Nat×RSh)},(key,k)∈Ef l->∃id cs j p,(id,RSh.blk cs)∈l/\key=.c id j/\k=.p p/\nth cs j=some (.k p)
 | [],h=>by cases h
 | (id,.blk cs)::r,h=>by
  rcases List.mem_append.1 h with h|h
  ·obtain⟨j,p,e,f,g⟩:=oB h;exact⟨id,cs,j,p,List.mem_cons_self ..,by simpa using e,f,g⟩
  ·obtain⟨a,b,c,d,e,f⟩:=nd (l:=r) h;exact⟨a,b,c,d,List.mem_cons_of_mem _ e,f⟩
 |(id,.ob _)::r,h=>by obtain⟨a,b,c,d,e,f⟩:=nd (l:=r) h;exact⟨a,b,c,d,List.mem_cons_of_mem _ e,f⟩
 |(id,.lst _)::r,h=>by obtain⟨a,b,c,d,e,f⟩:=nd (l:=r) h;exact⟨a,b,c,d,List.mem_cons_of_mem _ e,f⟩
theorem yr {T:Type}{id:Nat}{kn:List (Key×Kn)}:∀ {l:List CS}{J:CST l T}{i:Nat}{vs:List Value}{F:T->Prop},CG id kn l J i vs F->(∃d,F d)/\∀j p,nth l j=some (.k p)->ef (.c id (i+j)) kn=some (.p p)
 | [],J,i,[],F,h=>⟨⟨J,h⟩,λj p a=>by simp[nth]at a⟩
 | [],_,_,_::_,_,h=>h.elim
 |.v _::_,_,_,[],_,h=>h.elim
 |.k _::_,_,_,[],_,h=>h.elim
 | .v s::r,J,i,v::vs,F,h=>by
  obtain⟨g,e,_⟩:=qe h;obtain⟨b,c⟩:=yr e;refine⟨b,λj p a=>?_⟩;cases j with
  |zero=>simp[nth]at a
  |succ j=>have:=c j p a;rwa[show i+1+j=i+(j+1)by omega]at this
 | .k q::r,J,i,v::vs,F,h=>by
  simp only[CG]at h;split at h
  ·rename_i x f;split at h
   ·rename_i he;obtain⟨b,c⟩:=yr h;refine⟨b,λj p a=>?_⟩;cases j with
    |zero=>simp only[nth,Option.some.injEq,CS.k.injEq]at a;subst a;rw[Nat.add_zero,f,(Kn.ow he).1]
    |succ j=>have:=c j p a;rwa[show i+1+j=i+(j+1)by omega]at this
   ·exact h.elim
  ·exact h.elim
theorem tg {T:Type}{rs:List (Res U)}{kn:List (Key×Kn)}:∀ {l:List (Nat×RSh)}{J:B3 U l T}{F:T->Prop},sK rs kn l J F->∀id cs,(id,RSh.blk cs)∈l->∀j p,nth cs j=some (.k p)->ef (.c id j) kn=some (.p p)
 | [],_,_,_,_,_,h=>by cases h
 | (id,.ob t)::r,J,F,h,i,cs,hm=>by
  simp only[sK]at h;split at h
  ·split at h
   ·exact tg h i cs ((List.mem_cons.1 hm).resolve_left λe=>by cases e)
   ·exact h.elim
  ·exact h.elim
 | (id,.lst t)::r,J,F,h,i,cs,hm=>by
  simp only[sK]at h;split at h
  ·split at h
   ·exact tg h i cs ((List.mem_cons.1 hm).resolve_left λe=>by cases e)
   ·exact h.elim
  ·exact h.elim
 | (id,.blk l)::r,J,F,h,i,cs,hm=>by
  simp only[sK]at h;split at h
  ·obtain⟨⟨g,c⟩,d⟩:=yr h;intro j p b;rcases List.mem_cons.1 hm with e|hm
   ·injection e with f a
    injection a with a
    subst f;subst a;have:=d j p b
    rwa[Nat.zero_add]at this
   ·exact tg c i cs hm j p b
  ·exact h.elim
theorem eC.JX {x:Res U}{g:Nat}{cs:List Value}{T:TypeId}(h:eC x (.blk g cs T)):∃a,x=.blk g a T/\a.length=cs.length:=by
 cases h;rename_i c b;exact⟨c,rfl,b⟩
theorem BA {o:CC}{J:JT2 U o}{stb st':St U}{fr O:Fr}{a a':Act}{w':World}{X X':Nat->Nat->Prop}{ws:List Nat}(I:Rep n fr a)(OV:Rep n O a')(PG:Agr ws a a')(OZ:uT o.wr2 ws=true)
 (a4:aK stb.rs fr stb.kn)(Ta:aK st'.rs O st'.kn)(hI:Inv w0 k0 X0 may st'.rs X' w')(hlen:stb.rs.length<=st'.rs.length)(af:∀i,i<stb.rs.length->i ∉ st'.md->i ∉ aV (·.1) o.rsh->nth st'.rs i=nth stb.rs i/\X' i=X i)(Qk:∀i a,nth stb.rs i=some a->∃b,nth st'.rs i=some b/\eC a b)(bb:k0<=stb.rs.length)
 (hu:qu o stb.rs.length J O st'){F:List (Nat×Value)->St U->Prop}(Q:Dz o J stb fr.e F):
 ∃e W,F e W/\Rep n ⟨e,λi=>a'.tmps.getD i undef,fr.ds⟩ a'/\Inv w0 k0 X0 may W.rs X' w'/\aK W.rs ⟨e,λi=>a'.tmps.getD i undef,fr.ds⟩ W.kn/\W.md= []/\W.rs.length=stb.rs.length/\(∀i,i<stb.rs.length->i ∉ aV (·.1) o.rsh->nth W.rs i=nth stb.rs i/\X' i=X i)/\∀i a,nth stb.rs i=some a->∃b,nth W.rs i=some b/\eC a b:=by
 unfold qu at hu;split at hu
 case h_2=>exact hu.elim
 rename_i QM;simp only[Bool.and_eq_true]at QM;obtain⟨ah,an,aA,aC⟩:=QM;obtain⟨J1,vs,h1,g1,e1⟩:=Ae hu;have Zt:=tg h1;obtain⟨p,us,hp,g2,m2,d2,b2⟩:=oW h1;have Q:=g2 _ (g1 _ Q) hp;split at Q
 case h_2=>exact Q.elim
 rename_i Wz S7;split at Q
 case h_2=>exact Q.elim
 rename_i K RZ;obtain⟨l1,f1⟩:=yM S7;obtain⟨l2,f2⟩:=yM RZ;have a0:aV (·.1) o.rsh=us.map (·.1):=by rw[iW,m2]
 have r1:∀i x,nth stb.rs i=some x->∃y z,nth Wz i=some y/\nth st'.rs i=some z/\((∀B,lU i us≠some (.blk B))->y=z)/\((∃B,lU i us=some (.blk B))->y=x):=by
  intro i x D;obtain⟨y,G,a5⟩:=f1 i x D;rw[Nat.zero_add]at G;obtain⟨z,H,Y⟩:=Qk i x D;refine⟨y,z,a5,H,?_,?_⟩
  ·intro a6;unfold Lq at G;cases d:lU i us with
   | none=>
    rw[d]at G;simp only[Option.some.injEq]at G;subst G;have aa:=tN d;have:i ∉ st'.md:=λhm=>by
     have:=dK.1 an i hm;rw[a0]at this;rcases Bool.or_eq_true_iff.1 this with h|h
     ·have:=Nat.le_of_ble_eq_true h;have:=bG D;omega
     ·exact aa (gC.1 h)
    have L:=(af i (bG D) this (by rw[a0];exact aa)).1;rw[H,D]at L;injection L with L
    exact L.symm
   | some u=>
    rw[d]at G;have hd:=d2 i u (ku d);cases u with
    | ob t s=>
     obtain⟨r,I⟩:=hd;rw[H]at I;injection I with I
     subst I;have L:eu x (.ob t s)=some y:=G;cases Y;simp only[eu,dif_pos]at L;injection L with L
     exact L.symm
    |blk B=>exact absurd d (a6 B)
    | lst t A c l=>
     obtain⟨own,T,I⟩:=hd;rw[H]at I;injection I with I
     subst I;have L:eu x (.lst t A c l)=some y:=G;cases Y;simp only[eu,dif_pos]at L;injection L with L
     exact L.symm
  ·rintro⟨B,d⟩;unfold Lq at G;rw[d]at G;simp only[Option.some.injEq]at G;exact G.symm
 have Sy:∀q:PK,q.id<stb.rs.length->den U Wz q=den U st'.rs q:=by
  intro q hq;obtain⟨x,D⟩:=dF hq;obtain⟨y,z,G,H,ha,f⟩:=r1 _ x D;unfold den;rw[G,H];cases d:lU q.id us with
  |none=>rw[ha (λB e=>by rw[d]at e;cases e)]
  | some u=>
   cases u with
   |ob t s=>rw[ha (λB e=>by rw[d]at e;cases e)]
   |lst t A c l=>rw[ha (λB e=>by rw[d]at e;cases e)]
   | blk B=>
    have ab:=f ⟨B,d⟩;subst ab;obtain⟨z',R,Y⟩:=Qk _ _ D;rw[H]at R;injection R with R
    subst R;obtain⟨g,cs,T,S,_⟩:=d2 _ _ (ku d);rw[H]at S;injection S with S
    subst S;cases Y;cases q<;>rfl
 have r2:∀i,i<stb.rs.length->nth K i=nth st'.rs i:=by
  intro i hi;obtain⟨x,D⟩:=dF hi;obtain⟨y,z,G,H,ha,f⟩:=r1 i x D;obtain⟨v,C,UF⟩:=f2 i y G;rw[Nat.zero_add]at C;rw[UF,H];unfold MD at C;cases d:lU i us with
  | none=>
   rw[d]at C;simp only[Option.some.injEq]at C;rw[<-C,ha (λB e=>by rw[d]at e;cases e)]
  | some u=>
   rw[d]at C;cases u with
   |ob t s=>simp only[Option.some.injEq]at C;rw[<-C,ha (λB e=>by rw[d]at e;cases e)]
   |lst t A c l=>simp only[Option.some.injEq]at C;rw[<-C,ha (λB e=>by rw[d]at e;cases e)]
   | blk B=>
    have ab:=f ⟨B,d⟩;subst ab;obtain⟨z',R,Y⟩:=Qk _ _ D;rw[H]at R;injection R with R
    subst R;obtain⟨g,cs,T,S,a1⟩:=d2 _ _ (ku d);rw[H]at S;injection S with S
    subst S;have YL:=(b2 _ aA _ _ (ku d)).2 B rfl;have a7:aV (kP Wz) B=cs:=by
     have:=a1.KO (V:=λp=>(den U Wz p).getD undef) (λj p v Z C=>by
      have hk:=a1.kn Z;obtain⟨g',a2,T',u,q1,q2,q3⟩:=Ta.get hk;rw[H]at q1;injection q1 with q1
      injection q1 with _ q1 _
      subst q1;rw[Nat.zero_add]at q2;rw[C]at q2;injection q2 with q2
      subst q2;have q3:den U st'.rs p=some v:=q3;rw[Sy p (YL p (jo Z)),q3];rfl)
     have e:(λa=>match a with|.v x=>x|.k p=>(den U Wz p).getD undef)=kP Wz:=by funext a;cases a<;>rfl
     rw[e]at this;exact this
    have C:eu y (.blk (aV (kP Wz) B))=some v:=C;rw[a7]at C;obtain⟨bc,rfl,hle⟩:=Y.JX;simp only[eu,hle,Nat.beq_refl]at C;exact C.symm
 have a8:K.length=stb.rs.length:=by rw[l2,l1]
 have YJ:∀q:PK,q.id<stb.rs.length->den U K q=den U st'.rs q:=λq hq=>by unfold den;rw[r2 _ hq]
 obtain⟨VR,Rq⟩:=qL OZ;have S9:∀s v,(s,v)∈vs++mr K o.kns->lk O.g s O.e=v:=by
  intro s v hm;rcases List.mem_append.1 hm with hm|hm
  ·exact e1 s v hm
  ·obtain⟨q,hq,rfl⟩:=gT hm;obtain⟨q',ae,d⟩:=qI ah hq;injection ae with ae
   subst ae;have:den U st'.rs q=some (lk O.g s O.e):=Ta.get d;rw[YJ q (lx aC hq),this];rfl
 have SR:Rep n ⟨vs++mr K o.kns++forget o.wr2 fr.e,λi=>a'.tmps.getD i undef,fr.ds⟩ a':=yz I OV (PG.mono VR) Rq S9;have Zs:∀i,lk (λi=>a'.tmps.getD i undef) i (vs++mr K o.kns++forget o.wr2 fr.e)=lk O.g i O.e:=λi=>by rw[<-OV.get];exact(SR.get i).symm
 have QL:∀i,i<stb.rs.length->i ∉ aV (·.1) o.rsh->nth K i=nth stb.rs i/\X' i=X i:=by
  intro i hi aa;rw[r2 i hi];refine af i hi (λhm=>?_) aa;have:=dK.1 an i hm;rcases Bool.or_eq_true_iff.1 this with h|h
  ·have:=Nat.le_of_ble_eq_true h;omega
  ·exact aa (gC.1 h)
 have Yx:∀i a,nth stb.rs i=some a->∃b,nth K i=some b/\eC a b:=by
  intro i x D;obtain⟨z,H,Y⟩:=Qk i x D;exact⟨z,by rw[r2 i (bG D)];exact H,Y⟩
 have a3:Inv w0 k0 X0 may K X' w':=hI.Kr (by omega) (λi hi=>r2 i (by omega)) (by omega);have Q:=kJ (λr I=>by
  obtain⟨i,hi⟩:=tY I;exact⟨_,_,a3.sat.res i r hi⟩) Q
 refine⟨_,_,Q,SR,a3,?_,rfl,a8,QL,Yx⟩;refine aK.app ?_ (aK.app ?_ ?_)
 ·intro key k hm;obtain⟨s,rfl,hs⟩:=tT hm;obtain⟨q,rfl,d⟩:=qI ah hs;show den U K q=some (lk _ s _);rw[Zs,YJ q (lx aC hs)];exact Ta.get d
 ·intro key k hm;obtain⟨id,cs,j,q,h3,rfl,rfl,h5⟩:=nd hm;have d:=Zt id cs h3 j q h5;obtain⟨g,a2,T,v,q1,q2,q3⟩:=Ta.get d;have YM:id<stb.rs.length/\q.id<stb.rs.length:=by
   have key:∀(l:List (Nat×RSh)),fR stb.rs.length l=true->(id,RSh.blk cs)∈l->id<stb.rs.length/\j6 stb.rs.length cs=true:=by
    intro l
    induction l with
    |nil=>intro _ h;cases h
    | cons x r ih=>
     intro f hm;obtain⟨i,x⟩:=x;cases x with
     | ob t=>
      simp only[fR]at f;split at f
      ·exact ih f ((List.mem_cons.1 hm).resolve_left λe=>by cases e)
      ·cases f
     | lst t=>
      simp only[fR]at f;split at f
      ·exact ih f ((List.mem_cons.1 hm).resolve_left λe=>by cases e)
      ·cases f
     | blk l=>
      simp only[fR]at f;split at f
      ·rename_i OP;simp only[Bool.and_eq_true]at OP;rcases List.mem_cons.1 hm with e|hm
       ·injection e with e1 e2;injection e2 with e2;subst e1;subst e2
        exact⟨by simpa[Nat.blt_eq]using OP.1,OP.2⟩
       ·exact ih f hm
      ·cases f
   obtain⟨h6,h7⟩:=key o.rsh aA h3;refine⟨h6,?_⟩;have a9:∀(l:List CS)(j:Nat),j6 stb.rs.length l=true->nth l j=some (.k q)->q.id<stb.rs.length:=by
    intro l
    induction l with
    |nil=>intro j _ h;simp[nth]at h
    | cons x r ih=>
     intro j f Z;cases x with
     | v s=>
      cases j with
      |zero=>simp[nth]at Z
      |succ j=>exact ih j f Z
     | k p'=>
      simp only[j6]at f;split at f
      ·rename_i OP;cases j with
       |zero=>simp only[nth,Option.some.injEq,CS.k.injEq]at Z;subst Z;simpa[Nat.blt_eq]using OP
       |succ j=>exact ih j f Z
      ·cases f
   exact a9 cs j h7 h5
  exact⟨g,a2,T,v,by rw[r2 id YM.1];exact q1,q2,by show den U K q=_;rw[YJ q YM.2];exact q3⟩
 ·have YD:=aK.fT (M:=aV (·.1) o.rsh) a4 (rs':=K) (λi hi hm=>(QL i hi hm).1) (λi _ x D=>Yx i x D);intro key k hm;obtain⟨ba,US⟩:=fA hm;have h0:=YD key k ba;cases key with
  | s i=>
   have aa:i ∉ o.wr2:=by
    intro hh;have US:(!mq i o.wr2)=true:=US;rw[gC.2 hh]at US;cases US
   show jW K (lk _ i _) k;have:lk (λi=>a'.tmps.getD i undef) i (vs++mr K o.kns++forget o.wr2 fr.e)=lk fr.g i fr.e:=by
    rw[Zs,<-OV.get,<-I.get];exact PG.tmps i λhi=>aa (VR i hi)
   rw[this];exact h0
  |c id off=>exact h0
  |l id path=>exact h0
end
end
section
section
variable {U:Uni}{P:Program}{tbl:Tb U}{may:List Nat}{k0:Nat}
variable {w0:World}{X0 X:Nat->Nat->Prop}{w:World}{fr:Fr}{st:St U}{n:Nat}{N:List Nat}{ops:Array Oper}
theorem Steps.back {c:St U}{X':Nat->Nat->Prop}{w':World}(h:Steps w0 k0 X0 may {st with md:= []} X c X' w'):Steps w0 k0 X0 may st X (lv U c st.md) X' w':=by
 obtain⟨a,b,⟨L,e,f,g⟩,d⟩:=h;refine⟨a,b,⟨L,?_,f,g⟩,d⟩;show c.md++st.md=L++st.md;rw[e];simp
theorem Hz {s j:Nat}{st st':St U}{X:Nat->Nat->Prop}(h:Da k0 s j st=some st')(F:Inv w0 k0 X0 may st.rs X w)(f:aK st.rs fr st.kn):∃X',Steps w0 k0 X0 may st X st' X' w/\aK st'.rs fr st'.kn:=by
 unfold Da at h;split at h
 ·rename_i i V;split at h
  ·injection h with h;subst h;exact⟨X,Steps.refl F,f⟩
  ·rename_i z;have z:i≠j:=λe=>by rw[e,Nat.beq_refl]at z;cases z
   split at h
   ·rename_i t T A c l t' T' A' c' l' hi G;split at h
    ·rename_i d;injection h with h;subst h
     simp only[Bool.and_eq_true]at d;obtain⟨⟨C,H⟩,W,Y⟩:=d;obtain rfl:=Nat.eq_of_beq_eq_true W;obtain rfl:=Nat.eq_of_beq_eq_true Y;have C:=Nat.le_of_ble_eq_true C;have H:=Nat.le_of_ble_eq_true H;have li:=bG hi;have Z:=bG G;have D:nth (cV (cV st.rs j (.lst t true T A c l)) i (.lst t true T none 0 [])) j=some (.lst t true T A c l):=by
      rw[bY,if_neg (by rintro⟨e,_⟩;exact z e.symm),bY,if_pos ⟨rfl,Z⟩]
     have I:nth (cV (cV st.rs j (.lst t true T A c l)) i (.lst t true T none 0 [])) i=some (.lst t true T none 0 []):=by
      rw[bY,if_pos ⟨rfl,by rw[tW];exact li⟩]
     have no:∀k,k≠i->k≠j->nth (cV (cV st.rs j (.lst t true T A c l)) i (.lst t true T none 0 [])) k=nth st.rs k:=λk p o=>by
      rw[bY,if_neg (λe=>p e.1),bY,if_neg (λe=>o e.1)]
     have mem:∀k,k∈ [i,j]->k=i\/k=j:=by simp
     have J:k9 (k9 X j (X i)) i (λ_=>False) i=λ_=>False:=updX_eq ..;have K:k9 (k9 X j (X i)) i (λ_=>False) j=X i:=by rw[jY _ _ (Ne.symm z),updX_eq]
     have B:∀k,k ∉ [i,j]->k9 (k9 X j (X i)) i (λ_=>False) k=X k:=λk f=>by
      have:k≠i/\k≠j:=by simpa using f
      rw[jY _ _ this.1,jY _ _ this.2]
     have hlen:(cV (cV st.rs j (Res.lst t true T A c l)) i (.lst t true T none 0 [])).length=st.rs.length:=by simp
     have L:∀k a,nth st.rs k=some a->∃b,nth (cV (cV st.rs j (.lst t true T A c l)) i (.lst t true T none 0 [])) k=some b/\eC a b:=λk a g=>by
      by_cases q:k=i
      ·subst q;rw[hi]at g;injection g with g;subst g;exact⟨_,I,eC.lst ..⟩
      by_cases u:k=j
      ·subst u;rw[G]at g;injection g with g;subst g;exact⟨_,D,eC.lst ..⟩
      exact⟨a,by rw[no k q u];exact g,eC.refl a⟩
     refine⟨k9 (k9 X j (X i)) i (λ_=>False),⟨?_,by rw[hlen];exact Nat.le_refl _,⟨[i,j],rfl,λk f=>.inr (by rcases mem k f with rfl|rfl<;>assumption),λk _ f=>⟨no k (λe=>f (by simp[e])) (λe=>f (by simp[e])),B k f⟩⟩,L⟩,?_⟩
     ·obtain⟨sat,ch,old,new,len⟩:=F;have sub:∀k,k<st.rs.length->∀b,k9 (k9 X j (X i)) i (λ_=>False) k b->(k=j/\X i b)\/(k≠j/\k≠i/\X k b):=λk _ b d=>by
       by_cases q:k=i
       ·subst q;rw[J]at d;exact d.elim
       by_cases u:k=j
       ·subst u;rw[K]at d;exact .inl ⟨rfl,d⟩
       rw[B k (by simp[q,u])]at d;exact .inr ⟨u,q,d⟩
      refine⟨⟨λk r v=>?_,λa b g d O k aa Q=>?_⟩,ch,λk Ta b d=>?_,λk p o b d=>?_,by rw[hlen];exact len⟩
      ·by_cases q:k=i
       ·subst q;rw[I]at v;injection v with v;subst v;rw[J]
        exact(⟨Own.nil,λk f=>f.elim⟩:RS (λ_=>False) w (.lst t true T none 0 []:Res U))
       by_cases u:k=j
       ·subst u;rw[D]at v;injection v with v;subst v;rw[K];exact sat.res i _ hi
       rw[no k q u]at v;rw[B k (by simp[q,u])];exact sat.res k r v
      ·rw[hlen]at g d;rcases sub a g k aa with⟨rfl,p⟩|⟨R,ab,p⟩
       ·rcases sub b d k Q with⟨rfl,o⟩|⟨_,S,o⟩
        ·exact O rfl
        ·exact sat.dis i b li d (Ne.symm S) k p o
       ·rcases sub b d k Q with⟨rfl,o⟩|⟨_,S,o⟩
        ·exact sat.dis a i g li ab k p o
        ·exact sat.dis a b g d O k p o
      ·rw[B k (by simp;omega)]at d;exact old k Ta b d
      ·rw[hlen]at o;rcases sub k o b d with⟨rfl,h⟩|⟨_,_,h⟩
       ·exact new i C li b h
       ·exact new k p o b h
     ·have all:∀ {P:Key×Kn->Prop}{x:Key×Kn}{l:List (Key×Kn)},P x->(∀y,y∈l->P y)->∀y,y∈x::l->P y:=λp o y hy=>(List.mem_cons.1 hy).elim (λe=>e▸p) (o y);refine λkey k hm=>all (P:=λx=>gu _ fr x.1 x.2) ?_ ?_ (key,k) hm
      ·have R:den U st.rs (.sl i 0)=some (lk fr.g s fr.e):=f.get V;show den U _ (.sl j 0)=some (lk fr.g s fr.e);rw[<-R];simp only[den,PK.id,D,hi,cQ,iA]
      ·have:=f.fT (M:= [i,j]) (rs':=cV (cV st.rs j (.lst t true T A c l)) i (.lst t true T none 0 [])) (λk _ f=>no k (λe=>f (by simp[e])) (λe=>f (by simp[e]))) (λk _ a g=>L k a g);exact λx hx=>this x.1 x.2 hx
    ·cases h
   ·cases h
 ·cases h
theorem Gf {key:Key}{tt:Nat}{T:TypeId}{st:St U}{X:Nat->Nat->Prop}(b:wT fr st key=some (.slice none 0 0))(j:Inv w0 k0 X0 may st.rs X w)(d:aK st.rs fr st.kn):∃X',Steps w0 k0 X0 may st X ⟨st.rs++ [.lst tt true T none 0 []],(key,.p (.sl st.rs.length 0))::fL (λa _=>!(a.eq key)) st.kn,st.md⟩ X' w/\aK (st.rs++ [.lst tt true T none 0 []]) fr ((key,.p (.sl st.rs.length 0))::fL (λa _=>!(a.eq key)) st.kn):=by
 have o:RS (λ_=>False) w (.lst tt true T none 0 []:Res U):=⟨Own.nil,λk d=>d.elim⟩;have p:nth (st.rs++ [Res.lst tt true T none 0 []]) st.rs.length=some (.lst tt true T none 0 []):=Bc;have q:=j.more (Ch.refl _ _) o (λk d=>d.elim);have t:=tn d (Res.lst tt true T none 0 []);have hd:den U (st.rs++ [Res.lst tt true T none 0 []]) (.sl st.rs.length 0)=some (.slice none 0 0):=by
  simp only[den,PK.id,p,cQ,iA,List.length_nil]
 refine⟨k9 X st.rs.length λ_=>False,⟨q,by simp,⟨[],rfl,λi hi=>(by cases hi),λi hi _=>⟨by show nth (st.rs++_) i=_;rw[bZ,if_pos hi],jY _ _ (by omega)⟩⟩,λi a f=>⟨a,by show nth (st.rs++_) i=_;rw[bZ,if_pos (bG f)];exact f,eC.refl a⟩⟩,?_⟩;intro u k hm;rcases List.mem_cons.1 hm with e|hm
 ·injection e with v x
  subst v;subst x;cases u with
  | s i=>
   simp only[wT,Option.some.injEq]at b;show den U _ _=some (lk fr.g i fr.e);rw[b];exact hd
  | c id off=>
   simp only[wT]at b;split at b
   ·rename_i g cs y h;exact⟨g,cs,y,_,by rw[bZ,if_pos (bG h)];exact h,b,hd⟩
   ·cases b
  |l id path=>simp only[wT,reduceCtorEq]at b
 ·exact t _ _ (fA hm).1
theorem jO:∀ {l:List (Key×Nat×TypeId)}{st:St U}{X:Nat->Nat->Prop}{F:St U->Prop},lG k0 fr l st F->Inv w0 k0 X0 may st.rs X w->aK st.rs fr st.kn->∃st' X',F st'/\Steps w0 k0 X0 may st X st' X' w/\aK st'.rs fr st'.kn
 | [],st,X,F,h,f,g=>⟨st,X,h,Steps.refl f,g⟩
 | (key,tt,T)::r,st,X,F,h,f,g=>by
  have old:(match wT fr st key with
   |some (.slice none 0 0)=>lG k0 fr r ⟨st.rs++ [.lst tt true T none 0 []],(key,.p (.sl st.rs.length 0))::fL (λa _=>!(a.eq key)) st.kn,st.md⟩ F
   |_=>False)->∃st' X',F st'/\Steps w0 k0 X0 may st X st' X' w/\aK st'.rs fr st'.kn:=λh=>by
   split at h
   ·rename_i q;obtain⟨t,i,p⟩:=Gf (tt:=tt) (T:=T) q f g;obtain⟨st',X',j,b,o⟩:=jO h i.inv p;exact⟨st',X',j,i.trans b,o⟩
   ·exact h.elim
  cases key with
  | s s=>
   cases d:Nat.ble 1000 tt with
   | true=>
    simp only[lG,d]at h;unfold Ee at h;split at h
    ·obtain⟨hd,h⟩:=h;have u:aK st.rs fr ((.s s,.p (.sl (tt - 1000) 0))::st.kn):=λkey k hm=>by
      rcases List.mem_cons.1 hm with e|hm
      ·injection e with v x
       subst v;subst x;exact hd
      ·exact g key k hm
     obtain⟨st',X',j,b,o⟩:=jO h f u;exact⟨st',X',j,⟨b.inv,b.len,b.md,b.root⟩,o⟩
    ·split at h
     ·rename_i y hm;obtain⟨t,i,p⟩:=Hz hm f g;obtain⟨st',X',j,b,o⟩:=jO h i.inv p;exact⟨st',X',j,i.trans b,o⟩
     ·exact h.elim
   |false=>simp only[lG,d]at h;exact old h
  |c id off=>cases d:Nat.ble 1000 tt<;>simp only[lG,d]at h<;>exact old h
  |l id path=>cases d:Nat.ble 1000 tt<;>simp only[lG,d]at h<;>exact old h
theorem KM {c:Code}{Q:QF2 U}{a:Act}{st':St U}{X':Nat->Nat->Prop}{ws:List Nat}(e:Steps w0 k0 X0 may st X st' X' w)(h:c.wpIn (WF none) 0 P (nV n ws a λx d w2=>Aft w0 k0 X0 may st' X' fr.ds (λb st'=>Q x b st') d w2) a w):
 c.wpIn (WF none) 0 P (nV n ws a λx d w2=>Aft w0 k0 X0 may st X fr.ds (λb st'=>Q x b st') d w2) a w:=by
 refine wpIn_mono h λx a' w' he=>?_;cases x
 case outgrown=>exact he
 all_goals
  obtain⟨b,f,hq,g⟩:=he;exact⟨b,f,hq.pre e,g⟩
theorem Gg {c:Code}{e:An}{V:QF2 U->Fr->St U->Prop}(h:vm U P may k0 w0 X0 n c V):vm U P may k0 w0 X0 n c λQ fr st=>tH U k0 e Q fr st λQ st=>V Q fr st:=by
 intro Q fr st X a w f g i b;simp only[tH]at b;obtain⟨st',X',b,d,j⟩:=jO b g i;refine wpIn_mono (h Q fr st' X' a w f d.inv j b) λx a' w' he=>?_;cases x
 case outgrown=>exact he
 all_goals
  obtain⟨k,l,hq,o⟩:=he;exact⟨k,l,hq.pre d,o⟩
theorem iF {c:Code}{y:An}{V:QF2 U->Fr->St U->Prop}(h:vm U P may k0 w0 X0 n c V):vm U P may k0 w0 X0 n c λQ fr st=>jy U may k0 c y Q fr st λQ st=>V Q fr st:=by
 refine Gg (V:=λQ fr st=>tG U may k0 c y Q fr st λQ st=>V Q fr st) ?_;intro Q fr st X a w k l o d;simp only[tG]at d;split at d
 ·exact h Q fr st X a w k l o d
 ·rename_i p G;split at d
  ·rename_i g;simp only[Bool.and_eq_true]at g;obtain⟨g,A⟩:=g;obtain⟨J,B,C⟩:=d;have D:=h _ fr {st with md:= []} X a w k l o B;refine wpIn_mono D λx a' w' he=>?_;have other:∀b,(Aft w0 k0 X0 may {st with md:= []} X fr.ds (λb st'=>Q x b (lv U st' st.md)) b w')->Aft w0 k0 X0 may st X fr.ds (λb st'=>Q x b st') b w':=by
    rintro b ⟨st',X',f,q,z,s⟩;exact⟨lv U st' st.md,X',f.back,q,z,s⟩
   cases x
   case normal=>
    obtain⟨b,t,⟨st',X',f,q,z,s⟩,j⟩:=he;obtain⟨L,u,H,F⟩:=f.md;have u:st'.md=L:=by rw[u];simp
    obtain⟨e,v,f1,f2,f3,f4,f5,f6,f7,f8⟩:=BA (stb:=st) (X:=X) k t j g o q f.inv f.len (λi hi hm _=>F i hi (by rw[<-u];exact hm)) f.root l.len s (C _);refine⟨_,f2,⟨lv U v (aV (·.1) p.rsh++st.md),X',⟨f3,by show st.rs.length<=v.rs.length;omega,⟨aV (·.1) p.rsh,?_,λi hi=>ja (dK.1 A i hi),f7⟩,f8⟩,f4,rfl,f1⟩,j⟩;show v.md++(aV (·.1) p.rsh++st.md)=_;rw[f5];rfl
   case outgrown=>exact he
   all_goals
    obtain⟨b,t,hq,j⟩:=he;exact⟨b,t,other b hq,j⟩
  ·exact d.elim
theorem fQ(v:∀f c,tbl.c f=some c->LV U P f c/\dy P f=true)(hm:P.follows .mixedOrders=true):∀(c:Code)(g:An),vm U P may k0 w0 X0 n c (λQ fr st=>k8 U P tbl may k0 n N c g Q fr st)
 |.skip,g=>λQ fr st X a w j o p d=>wpIn_skip ⟨fr,j,⟨st,X,Steps.refl o,p,rfl,d⟩,Agr.refl _ _⟩
 |.region id ops false,g=>iF (c:=.region id ops false) (V:=λQ fr st=>Fc U P tbl may k0 n N ops (Q .normal) (λch=>Q (.panic ch)) ops.toList fr st) λQ fr st X a w j o p d=>wh v j o p d
 | .region id ops true,g=>iF (c:=.region id ops true) (V:=λQ fr st=>match Region.noSelect ops,fW ops.toList with
  |true,true=>v9 U P tbl may k0 n N ops (mE P ops.toList) g.V g.rd (Q .normal) ops.size (Array.replicate ops.size false) fr st
  |_,_=>False) λQ fr st X a w j o p d=>by
  dsimp only at d;split at d
  ·rename_i hs R3;exact yB v hm hs R3 j o p d
  ·exact d.elim
 | .seq x y,g=>iF (c:=.seq x y) (V:=λQ fr st=>k8 U P tbl may k0 n N x g.l (λe k st'=>match e with|.normal=>k8 U P tbl may k0 n N y g.r Q k st'|e=>Q e k st') fr st) λQ fr st X a w j o p d=>by
  refine wpIn_seq (wpIn_mono (fQ v hm x g.l _ fr st X a w j o p d) λe a' w' he=>?_);cases e
  case normal=>
   obtain⟨k,t,⟨st',X',s,G,M,T⟩,z⟩:=he;refine wpIn_mono (fQ v hm y g.r Q k st' X' a' w' t s.inv G T) λe a2 w2 he=>?_;cases e<;>first
    |exact he.elim
    | (obtain⟨W,Y,Z,h3⟩:=he
       exact⟨W,Y,M▸Z.pre s,(z.mono λi hi=>List.mem_append_left _ hi).trans (h3.mono λi hi=>List.mem_append_right _ hi)⟩)
  all_goals first
   |exact he.elim
   | (obtain⟨W,Y,Z,h3⟩:=he
      exact⟨W,Y,Z,h3.mono λi hi=>List.mem_append_left _ hi⟩)
 | .cond c x y,g=>iF (c:=.cond c x y) (V:=λQ fr st=>match ev fr c with
  |.bool b=>split b (k8 U P tbl may k0 n N x g.l Q fr st) (k8 U P tbl may k0 n N y g.r Q fr st)
  |_=>False) λQ fr st X a w j o p d=>by
  dsimp only at d;split at d
  ·rename_i b B;rw[<-j.eval]at B;rcases iC d with⟨rfl,UF⟩|⟨rfl,UF⟩
   ·exact wpIn_cond_true B (wpIn_mono (fQ v hm x g.l Q fr st X a w j o p UF) λe a' w' he=>he.mono (λi hi=>List.mem_append_left _ hi) (λ_ _ _ h=>h))
   ·exact wpIn_cond_false B (wpIn_mono (fQ v hm y g.r Q fr st X a w j o p UF) λe a' w' he=>he.mono (λi hi=>List.mem_append_right _ hi) (λ_ _ _ h=>h))
  ·exact d.elim
 | .block id c,g=>iF (c:=.block id c) (V:=λQ fr st=>k8 U P tbl may k0 n N c g.l (λe k st'=>match e with
  |.exit aa=>(match Nat.beq aa id with|true=>Q .normal k st'|false=>Q (.exit aa) k st')
  |e=>Q e k st') fr st) λQ fr st X a w j o p d=>by
  refine wpIn_block (wpIn_mono (fQ v hm c g.l _ fr st X a w j o p d) λe a' w' he=>?_);cases e
  case exit aa=>
   obtain⟨k,t,hq,z⟩:=he;simp only[Exit.inBlock];split
   ·rename_i hi;subst hi;exact⟨k,t,hq.mono λfr st C=>(by dsimp only at C;rw[Nat.beq_refl]at C;exact C),z⟩
   ·rename_i hi;refine⟨k,t,hq.mono λfr st C=>?_,z⟩;dsimp only at C;split at C
    ·rename_i B;exact absurd (Nat.eq_of_beq_eq_true B) hi
    ·exact C
  all_goals exact he
 | .loop c,g=>λQ fr a0 a3 a w j ah az d=>by
  simp only[k8,tH]at d;obtain⟨st,X,d,ae,p⟩:=jO d ah az;have o:=ae.inv;refine KM ae ?_;split at d
  ·exact d.elim
  ·rename_i F a4;split at d
   ·rename_i O;simp only[Bool.and_eq_true]at O;obtain⟨O,Pv⟩:=O;obtain⟨I,⟨m0,h0⟩,Sw⟩:=d;refine oU (λm a' w'=>∃k st' X',Rep n k a'/\(Inv w0 k0 X0 may st'.rs X' w'/\st.rs.length<=st'.rs.length/\(∀i,i<st.rs.length->i ∉ st'.md->i ∉ aV (·.1) F.rsh->nth st'.rs i=nth st.rs i/\X' i=X i)/\∀i a,nth st.rs i=some a->∃b,nth st'.rs i=some b/\eC a b)/\aK st'.rs k st'.kn/\qu F st.rs.length (I m) k st'/\Agr (writes c) a a') m0 ⟨fr,{st with md:= []},X,j,⟨o,Nat.le_refl _,λ_ _ _ _=>⟨rfl,rfl⟩,λi a ha=>⟨a,ha,eC.refl a⟩⟩,p,h0,Agr.refl _ _⟩ ?_;rintro m a1 w1 ⟨a5,Ym,R,YA,⟨Tu,Yv,H,aA⟩,QG,hu,z⟩;obtain⟨e,S,f1,f2,f3,f4,f5,f6,f7,f8⟩:=BA (stb:=st) (X:=X) j YA z O p QG Tu Yv H aA o.len hu (Sw m _);refine wpIn_mono (fQ v hm c g.l _ _ S R a1 w1 f2 f3 f4 f1) λx a' w' he=>?_;have join:∀ {q:St U}{u:Nat->Nat->Prop},Steps w0 k0 X0 may S R q u w'->∃A,q.md=A/\(∀i,i∈A->i∈may\/k0<=i)/\∀i,i<st.rs.length->i ∉ A->i ∉ aV (·.1) F.rsh->nth q.rs i=nth st.rs i/\u i=X i:=by
     intro q u H;obtain⟨A,J,ab,L⟩:=H.md;refine⟨A,by rw[J,f5];simp,ab,λi hi D RY=>?_⟩;obtain⟨e1,e2⟩:=L i (by omega) D;obtain⟨e3,e4⟩:=f7 i hi RY;exact⟨e1.trans e3,e2.trans e4⟩
    have af:∀ {q:St U}{u:Nat->Nat->Prop},Steps w0 k0 X0 may S R q u w'->∀i a,nth st.rs i=some a->∃b,nth q.rs i=some b/\eC a b:=by
     intro q u H i x hx;obtain⟨b,B,j⟩:=f8 i x hx;obtain⟨c',VG,t⟩:=H.root i b B;exact⟨c',VG,j.trans t⟩
    have out:∀ {K:Fr->St U->Prop}{k:Fr},Aft w0 k0 X0 may S R fr.ds (λk st'=>K k (lv U st' (aV (·.1) F.rsh++st.md))) k w'->Aft w0 k0 X0 may st X fr.ds K k w':=by
     rintro K k ⟨q,u,s,G,M,T⟩;obtain⟨A,J,ab,L⟩:=join s;refine⟨lv U q (aV (·.1) F.rsh++st.md),u,⟨s.inv,?_,⟨A++aV (·.1) F.rsh,?_,λi hi=>(List.mem_append.1 hi).elim (ab i) (λhi=>ja (dK.1 Pv i hi)),λi hi D=>?_⟩,λi x hx=>af s i x hx⟩,G,M,T⟩
     ·show st.rs.length<=q.rs.length;have:=s.len;omega
     ·show q.md++(_++_)=_;rw[J,List.append_assoc]
     ·rw[List.mem_append,not_or]at D;exact L i hi D.1 D.2
    cases x
    case normal=>
     obtain⟨k,t,⟨q,u,s,G,M,m',OP,aC⟩,VI⟩:=he;obtain⟨A,J,_,L⟩:=join s;exact⟨m',OP,k,q,u,t,⟨s.inv,by have:=s.len;omega,λi hi D RY=>L i hi (by rw[<-J];exact D) RY,af s⟩,G,aC,z.trans VI⟩
    case outgrown=>exact he
    all_goals
     obtain⟨k,t,hq,VI⟩:=he;exact⟨k,t,out hq,z.trans VI⟩
   ·exact d.elim
 |.exit id,g=>λQ fr st X a w j o p d=>wpIn_exit ⟨fr,j,⟨st,X,Steps.refl o,p,rfl,d⟩,Agr.refl _ _⟩
 |.ret,g=>λQ fr st X a w j o p d=>wpIn_ret ⟨fr,j,⟨st,X,Steps.refl o,p,rfl,d⟩,Agr.refl _ _⟩
 | .scope c,g=>by
  refine iF (c:=.scope c) (V:=λQ fr st=>k8 U P tbl may k0 n N c g.l (λe k st'=>match e with
   |.goto _=>False
   |e=>Q e k st') fr st) λQ fr st X a w j o p d=>?_
  refine(wpIn_wide (n:=0)).2 (wp_scope_straight ((wpIn_wide (n:=0)).1 (wpIn_mono (fQ v hm c g.l _ fr st X a w j o p d) λe a' w' he=>?_)));cases e
  case goto l=>obtain⟨_,_,⟨_,_,_,_,_,h⟩,_⟩:=he;exact h.elim
  all_goals exact he
 |.label _,g=>λQ fr st X a w j o p d=>wpIn_label ⟨fr,j,⟨st,X,Steps.refl o,p,rfl,d⟩,Agr.refl _ _⟩
 |.rangeFunc _ _ _ _,g=>λQ fr st X a w j o p d=>d.elim
 |.goto _,g=>λQ fr st X a w j o p d=>d.elim
 |.refuse _,g=>λQ fr st X a w j o p d=>d.elim
end
end
section
section
variable {U:Uni}{P:Program}{tbl:Tb U}{may:List Nat}{k0:Nat}
variable {w0:World}{X0 X:Nat->Nat->Prop}{w:World}{fr:Fr}{st:St U}{n:Nat}{N:List Nat}
theorem FU {t:TypeId}{k:Option Kn}{x:Value}{K:Value->Option Kn->Prop}(h:xx U P t k st K)(b:KnO st.rs x k):∃q,x=.pointer (some q):=by
 unfold xx at h;split at h
 ·rename_i id off;split at h
  ·rename_i g cs T a;have hd:den U st.rs (.loc id off)=some x:=b;simp only[den,PK.id,a,cQ,Option.some.injEq]at hd;exact⟨_,hd.symm⟩
  ·exact h.elim
 ·rename_i id path off;split at h
  ·rename_i tt r s a;have hd:den U st.rs (.obj id path off)=some x:=b;simp only[den,PK.id,a,cQ,Option.some.injEq]at hd;exact⟨_,hd.symm⟩
  ·exact h.elim
 ·rename_i id li i off;split at h
  ·rename_i r a;split at h
   ·rename_i L c;have hd:den U st.rs (.el id li i off)=some x:=b;simp only[den,PK.id,a,cQ,c]at hd;split at hd
    ·injection hd with hd;exact⟨_,hd.symm⟩
    ·cases hd
   ·exact h.elim
  ·exact h.elim
 ·exact h.elim
theorem lr {tmps:Array Value}(g:∀i,tmps.getD i undef=lk fr.g i fr.e)(l:Sat st.rs X w)(d:aK st.rs fr st.kn):∀(rs:List ResultVar){F:List Value->List (Option Kn)->Prop},ml U P fr st rs F->
 ∃vs e,F vs e/\vs.length=e.length/\(∀j v k,nth vs j=some v->nth e j=some k->KnO st.rs v k)/\(rs.mapM (mf tmps)).run P w=.ok vs w
 | [],F,h=>⟨[],[],h,rfl,λj v k b=>by simp[nth]at b,rfl⟩
 | .tmp t::r,F,h=>by
  obtain⟨vs,e,f,o,p,s⟩:=lr g l d r h;refine⟨_,_,f,by simp[o],λj v k b c=>?_,?_⟩
  ·cases j with
   | zero=>
    simp only[nth,Option.some.injEq]at b c;subst b;subst c;cases x:ef (.s t) st.kn with
    |none=>exact trivial
    |some q=>exact d.get x
   |succ j=>exact p j v k b c
  ·have y:(mf tmps (.tmp t)).run P w=.ok (lk fr.g t fr.e) w:=by rw[<-g];rfl
   rw[List.mapM_cons,Sem.run_bind,y];show(Sem.run P (do let z <-r.mapM (mf tmps);pure (lk fr.g t fr.e::z)) w)=_;rw[Sem.run_bind,s];rfl
 | .cell a t::r,F,h=>by
  simp only[ml]at h;have A:KnO st.rs (lk fr.g a fr.e) (ef (.s a) st.kn):=by
   cases x:ef (.s a) st.kn with
   |none=>exact trivial
   |some q=>exact d.get x
  obtain⟨q,hq⟩:=FU h A;obtain⟨v,G,f,C,D⟩:=xw l d A h;obtain⟨vs,e,f,o,p,s⟩:=lr g l d r f;refine⟨_,_,f,by simp[o],λj u k b c=>?_,?_⟩
  ·cases j with
   | zero=>
    simp only[nth,Option.some.injEq]at b c;subst b;subst c;exact C
   |succ j=>exact p j u k b c
  ·have B:=D w (Kept.refl _ _);rw[hq]at B;have y:(mf tmps (.cell a t)).run P w=.ok v w:=by
    show(do loadVar t (<-asAddr (tmps.getD a undef)):Sem Value).run P w=_;rw[g,hq];exact B
   rw[List.mapM_cons,Sem.run_bind,y];show(Sem.run P (do let z <-r.mapM (mf tmps);pure (v::z)) w)=_;rw[Sem.run_bind,s];rfl
theorem Aw {fn:Func}{tmps:Array Value}{vs:List Value}(a:(fn.results.toList.mapM (mf tmps)).run P w=.ok vs w):(results fn tmps).run P w=.ok (match vs with | [v]=>v|vs=>.tuple ⟨vs⟩) w:=by
 have hm:(fn.results.mapM (mf tmps)).run P w=.ok ⟨vs⟩ w:=by
  rw[Array.mapM_eq_mapM_toList];simp[a]
 have b:results fn tmps=(do let vs <-fn.results.mapM (mf tmps);pure (if h:vs.size=1 then vs[0]else .tuple vs)):=by
  unfold results mf;congr 1
 rw[b,Sem.run_bind,hm];cases vs with
 |nil=>rfl
 | cons v r=>
  cases r with
  |nil=>rfl
  |cons u r=>rfl
theorem zc {a b:Res U}(h:eC a b):eu a (wU U b)=some b:=by
 cases h
 ·rename_i h;simp only[eu,wU,h,Nat.beq_refl]
 ·simp[eu,wU]
 ·simp[eu,wU]
theorem nT {G:List (Res U)}:∀ {ms:List Nat}{us L:List (Res U)},jJ (nth G) ms=some us->(∀i,i∈ms->∀b,nth G i=some b->∃a,nth L i=some a/\eC a b)->∃f,cv L ms (aV (wU U) us)=some f/\f.length=L.length/\(∀i,i∈ms->nth f i=nth G i)/\∀i,i ∉ ms->nth f i=nth L i
 | [],us,L,c,h=>by
  simp only[jJ,Option.some.injEq]at c;subst c;exact⟨L,rfl,rfl,λi hi=>(by cases hi),λ_ _=>rfl⟩
 | m::ms,us,L,c,h=>by
  simp only[jJ]at c;split at c
  ·rename_i b z k p;injection c with c
   subst c;obtain⟨a,l,q⟩:=h m (List.mem_cons_self ..) b k;have s:=bG l;have e:∀j,nth (cV L m b) j=if j=m then some b else nth L j:=λj=>by
    rw[bY];by_cases d:j=m
    ·rw[if_pos ⟨d,s⟩,if_pos d]
    ·rw[if_neg (λt=>d t.1),if_neg d]
   obtain⟨f,u,v,y,o⟩:=nT (L:=cV L m b) p λi hi x g=>by
    rw[e];by_cases d:i=m
    ·subst d;rw[k]at g;injection g with g
     subst g;exact⟨b,by rw[if_pos rfl],eC.refl b⟩
    ·rw[if_neg d];exact h i (List.mem_cons_of_mem _ hi) x g
   refine⟨f,?_,by rw[v];simp,λi hi=>?_,λi hi=>?_⟩
   ·simp only[aV,cv,l,zc q];exact u
   ·by_cases hm:i∈ms
    ·exact y i hm
    ·have:i=m:=(List.mem_cons.1 hi).resolve_right hm;subst this;rw[o i hm,e,if_pos rfl,k]
   ·rw[List.mem_cons,not_or]at hi;rw[o i hi.2,e,if_neg hi.1]
  ·cases c
theorem xe {i:Nat}:∀ {l:List Nat}{p q:Nat},posOf i l p=some q->p<=q/\nth l (q - p)=some i
 | [],_,_,h=>by cases h
 | j::r,p,q,h=>by
  simp only[posOf]at h;split at h
  ·rename_i he;injection h with h
   subst h;exact⟨Nat.le_refl _,by rw[Nat.sub_self,Nat.eq_of_beq_eq_true he];rfl⟩
  ·obtain⟨b,a⟩:=xe h;refine⟨by omega,?_⟩;rw[show q - p=(q - (p+1))+1 by omega];exact a
theorem AQ {α β:Type}{f:α->Option β}{l:List α}{r:List β}(h:jJ f l=some r){i:Nat}{a:α}(c:nth l i=some a):f a=nth r i:=by
 obtain⟨b,d,e⟩:=(uD h).2 i a c;rw[d,e]
theorem HB {α β:Type}{f:α->Option β}{l:List α}{r:List β}(h:jJ f l=some r):r.length=l.length:=(uD h).1
theorem qJ {rs:List (Res U)}{key:Key}{k:Kn}:∀ {l:List (Key×Kn)},rT rs l=true->(key,k)∈l->(∃p v,k=.p p/\den U rs p=some v)\/∃l,k=.ag l/\∀j p,nth l j=some (some p)->∃v,den U rs p=some v
 | [],_,h=>by cases h
 | (a,.p p)::r,h,hm=>by
  simp only[rT]at h;split at h
  ·rename_i v b;rcases List.mem_cons.1 hm with e|hm
   ·injection e with d c;subst c;exact .inl ⟨p,v,rfl,b⟩
   ·exact qJ h hm
  ·cases h
 |(a,.t _)::r,h,_=>by cases h
 | (a,.ag l)::r,h,hm=>by
  simp only[rT]at h;split at h
  ·rename_i f;rcases List.mem_cons.1 hm with e|hm
   ·injection e with d c;subst c
    refine .inr ⟨l,rfl,λj p g=>?_⟩;have:=dK.1 f _ (jo g);simp only[F1]at this;split at this
    ·rename_i v b;exact⟨v,b⟩
    ·cases this
   ·exact qJ h hm
  ·cases h
 |(a,.f _ _)::r,h,_=>by cases h
theorem pH {key:Key}{k:Kn}:∀ {l:List (Option Kn)}{i:Nat},(key,k)∈wj i l->∃j,key=.s (i+j)/\nth l j=some (some k)
 | [],_,h=>by cases h
 | none::r,i,h=>by
  obtain⟨j,a,b⟩:=pH (l:=r) h;exact⟨j+1,by rw[a];congr 1;omega,b⟩
 | some q::r,i,h=>by
  rcases List.mem_cons.1 h with e|h
  ·injection e with c d;subst d;exact⟨0,c,rfl⟩
  ·obtain⟨j,a,b⟩:=pH (l:=r) h;exact⟨j+1,by rw[a];congr 1;omega,b⟩
theorem uX {id:Nat}{key:Key}{k:Kn}:∀ {l:List AV}{i:Nat},(key,k)∈JZ id i l->∃j p,key=.c id (i+j)/\k=.p p/\nth l j=some (.k p)
 | [],_,h=>by cases h
 | .v _::r,i,h=>by
  obtain⟨j,p,a,b,c⟩:=uX (l:=r) h;exact⟨j+1,p,by rw[a];congr 1;omega,b,c⟩
 | .k q::r,i,h=>by
  rcases List.mem_cons.1 h with e|h
  ·injection e with d f;exact⟨0,q,d,f,rfl⟩
  ·obtain⟨j,p,a,b,c⟩:=uX (l:=r) h;exact⟨j+1,p,by rw[a];congr 1;omega,b,c⟩
theorem mo {key:Key}{k:Kn}:∀ {l:List (PR U)}{i:Nat},(key,k)∈CW i l->∃j g q T o p,nth l j=some (.blk g q T)/\key=.c (i+j) o/\k=.p p/\nth q o=some (.k p)
 | [],_,h=>by cases h
 | .blk g q T::r,i,h=>by
  rcases List.mem_append.1 h with h|h
  ·obtain⟨o,p,d,e,f⟩:=uX h;exact⟨0,g,q,T,o,p,rfl,by rw[d];simp,e,f⟩
  ·obtain⟨j,a,b,c,o,p,d,e,f⟩:=mo (l:=r) h;exact⟨j+1,a,b,c,o,p,d,by rw[e];congr 1;omega,f⟩
 | .ob .. ::r,i,h=>by
  obtain⟨j,a,b,c,o,p,d,e,f⟩:=mo (l:=r) h;exact⟨j+1,a,b,c,o,p,d,by rw[e];congr 1;omega,f⟩
 | .lst .. ::r,i,h=>by
  obtain⟨j,a,b,c,o,p,d,e,f⟩:=mo (l:=r) h;exact⟨j+1,a,b,c,o,p,d,by rw[e];congr 1;omega,f⟩
theorem BS {T:Type}{c:CP}{J:c.T T}{F G:T->AV->Prop}(h:alC c J F)(d:∀a b,F a b->G a b):alC c J G:=by
 cases c<;>simp only[alC]at h ⊢ <;>first|exact λx=>d _ _ (h x)|exact λx y z=>d _ _ (h x y z)|exact d _ _ h
theorem qQ {T:Type}:∀ {l:List CP}{J:D8 l T}{F G:T->List AV->Prop},DA l J F->(∀a b,F a b->G a b)->DA l J G
 | [],_,_,_,h,d=>d _ _ h
 |c::l,J,F,G,h,d=>BS (c:=c) h λ_ _ h=>qQ h λ_ _ h=>d _ _ h
theorem Ip {T:Type}{a:AP}{J:a.T U T}{F G:T->AA->Prop}(h:alA a J F)(d:∀a b,F a b->G a b):alA a J G:=by
 cases a with
 |one c=>exact BS (c:=c) h λ_ _ h=>d _ _ h
 |agg l=>exact qQ (l:=l) h λ_ _ h=>d _ _ h
 |enc tt=>exact λx=>d _ _ (h x)
theorem xU {T:Type}:∀ {l:List AP}{J:Eb U l T}{F G:T->List AA->Prop},zh l J F->(∀a b,F a b->G a b)->zh l J G
 | [],_,_,_,h,d=>d _ _ h
 |c::l,J,F,G,h,d=>Ip (a:=c) h λ_ _ h=>xU h λ_ _ h=>d _ _ h
theorem Il {T:Type}{p:RP}{J:p.T U T}{F G:T->PR U->Prop}(h:alR p J F)(d:∀a b,F a b->G a b):alR p J G:=by
 cases p with
 |ob t=>exact λr s=>d _ _ (h r s)
 |blk l T=>exact λg=>qQ (h g) λ_ _ h=>d _ _ h
 |lst t own T=>exact λA c l=>d _ _ (h A c l)
theorem xT {T:Type}:∀ {l:List RP}{J:Gl U l T}{F G:T->List (PR U)->Prop},zg l J F->(∀a b,b.length=l.length->F a b->G a b)->zg l J G
 | [],_,_,_,h,d=>d _ _ rfl h
 |c::l,J,F,G,h,d=>Il (p:=c) h λ_ _ h=>xT h λ_ _ e h=>d _ _ (by simp[e]) h
theorem Bj {cE B:List Nat}{Q:Ou U->Prop}{v:Value}{k:Option Kn}{M:List (Res U)}{X':Nat->Nat->Prop}{w':World}(h:Lx U k0 cE B Q v k st)(ah:M.length=k0)(hs:Steps w k0 X cE ⟨M,[],[]⟩ X st X' w')(o:aK st.rs fr st.kn)(D:k=some .pan\/KnO st.rs v k)(Re:∀i,i∈cE->i<k0):
 ∃out rs' O,jl k v=jl out.kr out.res/\Q out/\cv M cE out.upd=some rs'/\sD M cE X w out w' rs' O:=by
 unfold Lx at h;split at h
 case h_2=>exact h.elim
 rename_i us G an W QM;simp only[Bool.and_eq_true]at QM;obtain⟨aa,R3⟩:=QM;have aa:∀i,i∈B->k0<=i:=λi hi=>Nat.le_of_ble_eq_true (dK.1 aa i hi);have R3:=oq R3;obtain⟨L,hL,cL,hl⟩:=hs.md;have QL:∀i,i<k0->i ∉ cE->nth st.rs i=nth M i/\X' i=X i:=by
  intro i hi hm;refine hl i (by simp only[];omega) λUS=>?_;rcases cL i US with h|h
  ·exact hm h
  ·omega
 obtain⟨rs',OW,az,VR,YE⟩:=nT (L:=M) an λi hi b V=>by
  obtain⟨a,ha⟩:=dF (l:=M) (i:=i) (by rw[ah];exact Re i hi);obtain⟨b',Y,C⟩:=hs.root i a ha;rw[V]at Y;injection Y with Y
  subst Y;exact⟨a,ha,C⟩
 have Yw:∀i,i<k0->nth rs' i=nth st.rs i:=by
  intro i hi;by_cases hm:i∈cE
  ·exact VR i hm
  ·rw[YE i hm,(QL i hi hm).1]
 have aC:G.length=B.length:=HB W;have Yy:rs'.length=k0:=by rw[az,ah]
 have ab:∀i j,og k0 B i=some j->nth (rs'++G) j=nth st.rs i:=by
  intro i j H;unfold og at H;split at H
  ·rename_i V;have V:i<k0:=by simpa[Nat.blt_eq]using V
   injection H with H
   subst H;rw[bZ,if_pos (by omega),Yw i V]
  ·simp only[Option.map_eq_some_iff]at H;obtain⟨p,A,rfl⟩:=H;obtain⟨_,PF⟩:=xe A;rw[Nat.sub_zero]at PF;rw[bZ,if_neg (by omega),show k0+p - rs'.length=p by omega,<-AQ W PF]
 have R:∀ {p q:PK}{u:Value},p.ren (og k0 B)=some q->den U st.rs p=some u->den U (rs'++G) q=some u:=by
  intro p q u A hd;have d:=ab _ _ (PK.yA A);unfold den at hd ⊢;rw[d,<-hd];cases p<;>simp only[PK.ren,Option.map_eq_some_iff]at A<;>obtain⟨i,hi,rfl⟩:=A<;>simp only[PK.id]<;>cases nth st.rs _<;>first|rfl|(rename_i r;cases r<;>rfl)
 have ae:∀ {v:Value}{k k':Kn},k.ren (og k0 B)=some k'->jW st.rs v k->jW (rs'++G) v k':=by
  intro v k k' o D;cases k with
  |pan=>exact D.elim
  | p p=>
   simp only[Kn.ren,Option.map_eq_some_iff]at o;obtain⟨q,hq,rfl⟩:=o;exact R hq D
  | w p n=>
   simp only[Kn.ren,Option.map_eq_some_iff]at o;obtain⟨q,hq,rfl⟩:=o;obtain⟨a,c,d,F⟩:=D;exact⟨a,c,R hq d,F⟩
  | t l=>
   simp only[Kn.ren,Option.some.injEq]at o;subst o;obtain⟨vs,e,hh⟩:=D;refine⟨vs,e,λj q I=>?_⟩;obtain⟨p,A,hq⟩:=fu I;obtain⟨u,hu,hd⟩:=hh j p A;exact⟨u,hu,R hq hd⟩
  | ag l=>
   simp only[Kn.ren,Option.some.injEq]at o;subst o;obtain⟨vs,e,hh⟩:=D;refine⟨vs,e,λj q I=>?_⟩;obtain⟨p,A,hq⟩:=fu I;obtain⟨u,hu,hd⟩:=hh j p A;exact⟨u,hu,R hq hd⟩
  | f a b=>
   simp only[Kn.ren,Option.some.injEq]at o;subst o;obtain⟨fn,fs,cs,e,hl,d,F⟩:=D;refine⟨fn,fs,cs,e,by simpa using hl,λj q I=>?_,λj q I=>?_⟩
   ·obtain⟨p,A,hq⟩:=fu I;obtain⟨u,hu,hd⟩:=d j p A;exact⟨u,hu,R hq hd⟩
   ·obtain⟨p,A,hq⟩:=fu I;obtain⟨u,hu,hd⟩:=F j p A;exact⟨u,hu,R hq hd⟩
 let O:Nat->Nat->Prop:=λi=>if i<k0 then X' i else match nth B (i - k0)with
  |some r=>X' r
  |none=>λ_=>False
 have hX:∀i,i<k0->O i=X' i:=λi hi=>if_pos hi;have aA:∀i r,¬i<k0->nth B (i - k0)=some r->O i=X' r:=λi r hi C=>by
  show(if i<k0 then _ else _)=_;rw[if_neg hi,C]
 have Z:∀i,i<(rs'++G).length->∃r,O i=X' r/\nth (rs'++G) i=nth st.rs r/\r<st.rs.length/\((i<k0/\r=i)\/(¬i<k0/\k0<=r/\nth B (i - k0)=some r)):=by
  intro i hi;by_cases d:i<k0
  ·refine⟨i,hX i d,by rw[bZ,if_pos (by omega),Yw i d],?_,.inl ⟨d,rfl⟩⟩;have:=hs.len;simp only at this;omega
  ·simp at hi;obtain⟨r,C⟩:=dF (l:=B) (i:=i - k0) (by omega);have J:=AQ W C;obtain⟨y,hy⟩:=dF (l:=G) (i:=i - k0) (by omega);rw[hy]at J;exact⟨r,aA i r d C,by rw[bZ,if_neg (by omega),show i - rs'.length=i - k0 by omega,hy,J],bG J,.inr ⟨d,aa r (jo C),C⟩⟩
 refine⟨_,rs',O,(xE ..).symm,h,OW,⟨λi r C=>?_,λi j hi I H k K=>?_⟩,hs.inv.ch,λi hi hm=>?_,λi hm k K=>?_,λi d F k K=>?_,?_,λkey q hq W=>?_⟩
 ·obtain⟨m,e1,S,_⟩:=Z i (bG C);rw[e1];exact hs.inv.sat.res m r (by rw[<-S];exact C)
 ·obtain⟨a,a1,a2,a3,a4⟩:=Z i hi;obtain⟨b,b1,b2,b3,b4⟩:=Z j I;rw[a1]at K;rw[b1];refine hs.inv.sat.dis a b a3 b3 (λWK=>?_) k K;subst WK;rcases a4 with⟨a5,a6⟩|⟨a5,a6,a7⟩<;>rcases b4 with⟨b5,b6⟩|⟨b5,b6,b7⟩
  ·exact H (a6.symm.trans b6)
  ·omega
  ·omega
  ·have inj:∀(l:List Nat)(x y r:Nat),l.Nodup->nth l x=some r->nth l y=some r->x=y:=by
    intro l
    induction l with
    |nil=>intro x y r _ h;simp[nth]at h
    | cons z l ih=>
     intro x y r J d F;rw[List.nodup_cons]at J;cases x with
     | zero=>
      simp only[nth,Option.some.injEq]at d;subst d;cases y with
      |zero=>rfl
      |succ y=>exact absurd (jo (l:=l) F) J.1
     | succ x=>
      cases y with
      | zero=>
       simp only[nth,Option.some.injEq]at F;subst F;exact absurd (jo (l:=l) d) J.1
      |succ y=>rw[ih x y r J.2 d F]
   have:=inj B _ _ _ R3 a7 b7;omega
 ·rw[hX i (by omega)];exact(QL i (by omega) hm).2
 ·rw[hX i (Re i hm)]at K;exact hs.inv.old i (Re i hm) k K
 ·obtain⟨m,e1,S,e3,e4⟩:=Z i (by simp only[List.length_append];simp only at F;omega);rw[e1]at K;rcases e4 with⟨e5,e6⟩|⟨e5,e6,_⟩
  ·omega
  ·exact hs.inv.new m e6 e3 k K
 ·rcases D with rfl|D
  ·exact .inl rfl
  right;cases k with
  |none=>exact trivial
  | some k=>
   show KnO _ v (k.ren _);cases VQ:k.ren (og k0 B)with
   |none=>exact trivial
   |some k'=>exact ae VQ D
 ·obtain⟨i0,i',o',k1,⟨rfl,S⟩|⟨rfl,S⟩,e3,e4⟩:=kI hq
  ·obtain⟨af,_⟩:=fA S;obtain⟨g,cs,T,u,q1,q2,q3⟩:=o _ _ af;exact⟨g,cs,T,u,by show nth (rs'++G) _=_;rw[ab _ _ e3];exact q1,q2,ae e4 q3⟩
  ·obtain⟨af,_⟩:=fA S;obtain⟨t,r,s,q1,q2⟩:=o _ _ af;exact⟨t,r,s,by show nth (rs'++G) _=_;rw[ab _ _ e3];exact q1,ae e4 q2⟩
theorem EH {fn:Func}{h:List Nat}{Q:Ou U->Prop}{c:List (Res U)}{cE:List Nat}{t:List (Key×Kn)}{a':Act}{w':World}{st':St U}{X':Nat->Nat->Prop}(x:c.length=k0)(y:∀i,i∈cE->i<k0)(z:Rep n fr a')(hs:Steps w k0 X cE ⟨c,t,[]⟩ X st' X' w')(o:aK st'.rs fr st'.kn)
 (A:Ay U P k0 cE h Q fn fr st'):∃v,(results fn a'.tmps).run P w'=.ok v w'/\bu c cE X w Q (.returned v) w':=by
 obtain⟨vs,b,f,hlen,d,B⟩:=lr z.get hs.inv.sat o _ A;refine⟨_,Aw B,?_⟩;have C:Steps w k0 X cE ⟨c,[],[]⟩ X st' X' w':=⟨hs.inv,hs.len,hs.md,hs.root⟩;have go:∀ {v k},HR U k0 cE h Q v k st'->KnO st'.rs v k->∃out rs' X',Ending.returned v=jl out.kr out.res/\Q out/\cv c cE out.upd=some rs'/\sD c cE X w out w' rs' X':=by
  intro v k D q;obtain⟨out,rs',F,G,H,I,J⟩:=Bj D x C o (.inr q) y;exact⟨out,rs',F,by rw[<-G];cases k with|none=>rfl|some k=>cases k<;>first|rfl|exact q.elim,H,I,J⟩
 have tup:∀ {vs:List Value}{b:List (Option Kn)},vs.length=b.length->(∀j v k,nth vs j=some v->nth b j=some k->KnO st'.rs v k)->KnO st'.rs (.tuple ⟨vs⟩) (some (.t (aV ki b))):=by
  intro vs b hlen d;refine⟨⟨vs⟩,rfl,λj p a=>?_⟩;rw[cj]at a;cases e:nth b j with
  |none=>rw[e]at a;cases a
  | some k=>
   rw[e]at a;injection a with a
   obtain⟨v,g⟩:=dF (l:=vs) (i:=j) (by rw[hlen];exact bG e);refine⟨v,by rw[aY]at g;simpa using g,?_⟩;have:=d j v k g e;unfold ki at a;split at a
   ·injection a with a;subst a;exact this
   ·cases a
 cases vs with
 | nil=>
  cases b with
  |nil=>exact go f (tup rfl d)
  |cons _ _=>simp at hlen
 | cons v r=>
  cases b with
  |nil=>simp at hlen
  | cons k s=>
   cases r with
   | nil=>
    cases s with
    |nil=>exact go f (d 0 v k rfl rfl)
    |cons _ _=>simp at hlen
   | cons u r=>
    cases s with
    |nil=>simp at hlen
    |cons _ _=>exact go f (tup hlen d)
theorem IZ {f:Nat}{fn:Func}{c:Ctr U}{V:Code->(Ou U->Prop)->Fr->St U->Prop}{W:List Value->List (Option Kn)->List (Res U)->List (Key×Kn)->(Ou U->Prop)->Prop}(Z:P.funcs[f]? =some fn)
 (hV:∀(code:Code)(Q:Ou U->Prop)(G:List (Res U))(X:Nat->Nat->Prop)(w:World)(kn:List (Key×Kn))(fr:Fr)(a:Act),G.length=c.res.length->Inv w c.res.length X c.cE G X w->Rep fn.ntmps fr a->aK G fr kn->fr.ds= []->V code Q fr ⟨G,kn,[]⟩->code.wpIn (WF none) 0 P (bodyPostM (WF none) 0 P fn (bu G c.cE X w Q)) a w)
 (hW:∀args J rs kc Q,W args J rs kc Q->∃code,fn.body=some code/\Nat.ble args.length fn.ntmps=true/\rT rs (wj 0 J++kc)=true/\V code Q ⟨num 0 args,λ_=>undef,[]⟩ ⟨rs,wj 0 J++kc,[]⟩)
 (h:zh c.args c.body λB z=>zg c.res B λB e=>∀Q:Ou U->Prop,B Q->yP (fG e) (W (aV (vd (aV PR.kB e)) z) (aV Gh z) (fG e) (CW 0 e++yL 0 e) Q)):LV U P f c:=by
 refine xU h λB z h=>xT h λB e hl h=>?_;intro Q hQ X w O aa;have h:=kJ (λr hr=>by
  obtain⟨j,d,he⟩:=List.mem_iff_getElem.1 hr;exact⟨_,_,O.res j r (by rw[aY,List.getElem?_eq_getElem d,he])⟩) (h Q hQ)
 obtain⟨code,hb,ab,ae,h⟩:=hW _ _ _ _ _ h;have WE:(aV (vd (aV PR.kB e)) z).length<=fn.ntmps:=Nat.le_of_ble_eq_true ab;have Yy:(fG e).length=c.res.length:=by simp[hl]
 have hI:Inv w c.res.length X c.cE (fG e) X w:=⟨O,Ch.refl _ _,λi _ k t=>.inl t,λi R S=>by omega,by omega⟩;generalize Y:aV (vd (aV PR.kB e)) z=args at h WE ⊢;have P7:aK (fG e) ⟨num 0 args,λ_=>undef,[]⟩ (wj 0 (aV Gh z)++(CW 0 e++yL 0 e)):=by
  intro key k s;rcases qJ ae s with⟨p,v,rfl,hd⟩|⟨l,rfl,hd⟩
  rotate_left
  ·rcases List.mem_append.1 s with s|s
   ·obtain⟨j,rfl,d⟩:=pH s;rw[Nat.zero_add];rw[cj]at d;cases A:nth z j with
    |none=>rw[A]at d;cases d
    | some a=>
     rw[A]at d;injection d with d
     obtain⟨y,rfl,rfl⟩:∃y,a=.agg y/\l=aV avK y:=by
      unfold Gh at d;split at d
      ·cases d
      ·cases d
      ·split at d
       ·injection d with d;injection d with d;exact⟨_,rfl,d.symm⟩
       ·cases d
     have C:nth args j=some (.agg ⟨aV (kP (aV PR.kB e)) y⟩):=by rw[<-Y,cj,A];rfl
     have H:=bG C;refine⟨⟨aV (kP (aV PR.kB e)) y⟩,?_,λK k t=>?_⟩
     ·show lk _ j (num 0 args)=_;rw[uH,dif_pos ⟨Nat.zero_le _,by simpa using H⟩];rw[aY,List.getElem?_eq_getElem H]at C;simpa using C
     ·obtain⟨u,hu⟩:=hd K k t;refine⟨u,?_,hu⟩;rw[cj]at t;cases L:nth y K with
      |none=>rw[L]at t;cases t
      | some b=>
       rw[L]at t;injection t with t
       cases b with
       |v x=>cases t
       | k p=>
        injection t with t
        subst t;have I:nth (aV (kP (aV PR.kB e)) y) K=some u:=by
         rw[cj,L];show some ((den U (aV PR.kB e) p).getD undef)=_;rw[<-ts,hu];rfl
        rw[aY]at I;simpa using I
   ·rcases List.mem_append.1 s with s|s
    ·obtain⟨_,_,_,_,_,_,_,_,D,_⟩:=mo s;cases D
    ·have I:=kH s;obtain⟨_,_,_,_,_,_,_,_,_,_,D,M⟩:=I;cases M
  rcases List.mem_append.1 s with s|s
  ·obtain⟨j,rfl,d⟩:=pH s;rw[Nat.zero_add];rw[cj]at d;cases A:nth z j with
   |none=>rw[A]at d;cases d
   | some a=>
    rw[A]at d;injection d with d
    have af:a=.one (.k p):=by
     unfold Gh at d;split at d
     ·injection d with d;injection d with d;rw[d]
     ·cases d
     ·split at d<;>cases d
    subst af;show den U (fG e) p=some (lk _ j (num 0 args));have C:nth args j=some v:=by
     rw[<-Y,cj,A];show some ((den U (aV PR.kB e) p).getD undef)=_;rw[<-ts,hd];rfl
    have H:=bG C;rw[uH,dif_pos ⟨Nat.zero_le _,by simpa using H⟩,hd];rw[aY,List.getElem?_eq_getElem H]at C;rw[<-C];simp
  rcases List.mem_append.1 s with s|s
  rotate_left
  ·have h0:=aa _ _ s;obtain⟨_,_,_,_,_,_,_,_,_,_,rfl,_⟩:=kH s;exact h0
  ·obtain⟨j,g,y,T,o,q,R,S,D,M⟩:=mo s;injection D with D
   subst D;rw[S,Nat.zero_add];refine⟨g,aV (kP (aV PR.kB e)) y,T,v,?_,?_,hd⟩
   ·rw[kL,R];rfl
   ·rw[cj,M];show some ((den U (aV PR.kB e) p).getD undef)=_;rw[<-ts,hd];rfl
 refine(callsIn_wide (n:=0)).1 (callsIn_of_wp_marks (F:=WF none) Z hb trivial ?_);have SR:Rep fn.ntmps ⟨num 0 args,λ_=>undef,[]⟩ {tmps:=(⟨args⟩:Array Value)++Array.replicate (fn.ntmps - (⟨args⟩:Array Value).size) undef,defers:= []}:=by
  refine⟨by simp;omega,λi=>?_,rfl⟩;rw[uH];simp only[Nat.zero_le,Nat.sub_zero,true_and,Array.getD_eq_getD_getElem?];by_cases hi:i<args.length
  ·rw[dif_pos hi,Array.getElem?_append_left (by simpa using hi)];simp[hi]
  ·rw[dif_neg hi,Array.getElem?_append_right (by simpa using hi)];rw[Array.getElem?_replicate];split<;>rfl
 exact hV code Q (fG e) X w _ _ _ Yy hI SR P7 rfl h
theorem I0 {f:Nat}{fn:Func}{q:An}{o:List Nat}{c:Ctr U}(x:P.funcs[f]? =some fn)(hm:P.follows .mixedOrders=true)(y:∀f c,tbl.c f=some c->LV U P f c/\dy P f=true)(z:jN (λi=>Nat.blt i c.res.length) c.cE=true)(h:Vc2 U P tbl N fn q o c):LV U P f c:=by
 have s:∀i,i∈c.cE->i<c.res.length:=λi hi=>by simpa[Nat.blt_eq]using dK.1 z i hi
 refine IZ (V:=λcode Q fr st=>k8 U P tbl c.cE c.res.length fn.ntmps N code q (λe fr st=>match fr.ds,e with
  | [],.normal=>Ay U P c.res.length c.cE o Q fn fr st
  | [],.ret=>Ay U P c.res.length c.cE o Q fn fr st
  | [],.panic [⟨v,false,false⟩]=>HR U c.res.length c.cE o Q v (some .pan) st
  |_,_=>False) fr st) x ?_ (λargs K rs kc Q h=>?_) h
 ·intro code Q L X w kn fr a t A B C p h;refine wpIn_mono (fQ y hm code q _ _ _ X _ w B A C h) λe a' w' he=>?_;cases e
  case normal=>
   obtain⟨k,j,⟨st',X',g,l,b,d⟩,_⟩:=he;have b:k.ds= []:=b.trans p;rw[b]at d;show LeavesInM (WF none) 0 P fn a'.tmps _ a'.defers .returning w';rw[j.defers,b];exact EH t s j g l d
  case ret=>
   obtain⟨k,j,⟨st',X',g,l,b,d⟩,_⟩:=he;have b:k.ds= []:=b.trans p;rw[b]at d;show LeavesInM (WF none) 0 P fn a'.tmps _ a'.defers .returning w';rw[j.defers,b];exact EH t s j g l d
  case panic ch=>
   obtain⟨k,j,⟨st',X',g,l,b,d⟩,_⟩:=he;have b:k.ds= []:=b.trans p;rw[b]at d;rcases ch with _|⟨⟨v,_|_,_|_⟩,_|⟨M,r⟩⟩<;>first|exact d.elim|skip
   obtain⟨out,rs',D,F,G,H,I⟩:=Bj d t ⟨g.inv,g.len,g.md,g.root⟩ l (.inl rfl) s;show LeavesInM (WF none) 0 P fn a'.tmps _ a'.defers (.panicking [⟨v,false,false⟩]) w';rw[j.defers,b];exact⟨out,rs',D,F,G,H,I⟩
  case outgrown=>exact he.elim
  all_goals
   obtain⟨k,j,⟨st',X',g,l,b,d⟩,_⟩:=he;have b:k.ds= []:=b.trans p;rw[b]at d;exact d.elim
 ·unfold Mc at h;split at h
  case h_2=>exact h.elim
  rename_i code J u;simp only[Bool.and_eq_true]at u;exact⟨code,J,u.1,u.2,h⟩
def GS {U:Uni}:List (Nat×Ctr U)->Nat->Option (Ctr U)
 | [],_=>none
 | (g,c)::r,f=>match Nat.beq g f with
  |true=>some c
  |false=>GS r f
abbrev GR {U:Uni}(l:List (Nat×Ctr U)):Tb U:=⟨GS l,.bool,[]⟩
def yu(U:Uni)(P:Program):List (Nat×Ctr U)->Prop
 | []=>True
 |(f,c)::r=>LV U P f c/\yu U P r
theorem wV {c:Ctr U}{f:Nat}:∀ {tb:List (Nat×Ctr U)},GS tb f=some c->yu U P tb->jN (λp=>dy P p.1) tb=true->LV U P f c/\dy P f=true
 | [],h,_,_=>by cases h
 | (g,d)::r,h,a,e=>by
  unfold GS at h;have b:=dK.1 e;split at h
  ·rename_i he;injection h with h
   rw[<-h,<-Nat.eq_of_beq_eq_true he];exact⟨a.1,b _ (List.mem_cons_self ..)⟩
  ·exact wV h a.2 (dK.2 λx i=>b x (List.mem_cons_of_mem _ i))
theorem verify {f:Nat}{fn:Func}{b:An}{d:List Nat}{c:Ctr U}{tb:List (Nat×Ctr U)}{sh:Sh}{al:List (Nat×List PK×List PK)}(e:P.funcs[f]? =some fn)(hm:P.follows .mixedOrders=true)(g:yu U P tb)(a:(jN (λp=>dy P p.1) tb && jN (λi=>Nat.blt i c.res.length) c.cE)=true)(h:Vc2 U P ⟨GS tb,sh,al⟩ N fn b d c):LV U P f c:=by
 rw[Bool.and_eq_true]at a;exact I0 e hm (λf c j=>wV j g a.1) a.2 h
theorem bu.pu {rs:List (Res U)}{X:Nat->Nat->Prop}{w w':World}{Q:Ou U->Prop}{v:Value}{k:Option Kn}(hs:Sat rs X w)(q:Pu w w')(b:Q ⟨v,k,[],[],[]⟩)(a:KnO rs v k):bu rs [] X w Q (.returned v) w':=by
 have c:Sat (rs++ []) X w':=by
  rw[List.append_nil];exact⟨λi r d=>(hs.res i r d).ch q (λ_ _ h=>h),hs.dis⟩
 refine⟨_,rs,X,iy a,b,rfl,c,q.mono λk a=>a.elim,λ_ _ _=>rfl,λi hi=>(by cases hi),λi f e=>by simp at e;omega,.inr (by simpa using a),λ_ k a=>by cases a⟩
theorem bu.one {t:Nat}{r:Nat->Nat}{s b:U.ty t}{X:Nat->Nat->Prop}{w w':World}{Q:Ou U->Prop}{v:Value}{k:Option Kn}{Z:Nat->Prop}(q:Ch (X 0) w w')(d:U.pred t r b Z w')(e:∀k,Z k->X 0 k\/w.heap.size<=k)(f:Q ⟨v,k,[.ob t b],[],[]⟩)(a:KnO [.ob t r b] v k):bu [.ob t r s] [0] X w Q (.returned v) w':=by
 have g:cv [Res.ob t r s] [0] [.ob t b]=some [.ob t r b]:=by simp[cv,eu,nth,cV]
 refine⟨_,_,λi=>if i=0 then Z else X i,iy a,f,g,⟨λi r' c=>?_,λi j hi h p=>?_⟩,q.mono λk a=>⟨0,by simp,a⟩,λi hi hm=>?_,λi hi k a=>?_,λi l o=>by simp at l o;omega,.inr a,λ_ k a=>by cases a⟩
 ·cases i with
  |zero=>simp only[List.append_nil,nth,Option.some.injEq]at c;subst c;exact d
  |succ i=>simp[nth]at c
 ·simp at hi h;omega
 ·simp at hi hm;omega
 ·simp at hi;subst hi;exact e k a
theorem bu.new {t:Nat}{r:Nat->Nat}{b:U.ty t}{X:Nat->Nat->Prop}{w w':World}{Q:Ou U->Prop}{v:Value}{k:Option Kn}{Z:Nat->Prop}(q:Pu w w')(e:U.pred t r b Z w')(f:∀k,Z k->w.heap.size<=k)(g:Q ⟨v,k,[],[.ob t r b],[]⟩)(a:KnO [.ob t r b] v k):bu [] [] X w Q (.returned v) w':=by
 refine⟨_,[],λi=>if i=0 then Z else X i,iy a,g,rfl,⟨λi r' c=>?_,λi j hi h l=>?_⟩,q.mono λk a=>a.elim,λi hi hm=>?_,λi hi=>(by cases hi),λi o d k a=>?_,.inr a,λ_ k a=>by cases a⟩
 ·cases i with
  |zero=>simp only[List.nil_append,nth,Option.some.injEq]at c;subst c;exact e
  |succ i=>simp[nth]at c
 ·simp at hi h;omega
 ·simp at hi
 ·simp at d;subst d;exact f k a
theorem bL {l m:List Value}(h:l=m):Value.tuple (List.toArray l)=Value.tuple (List.toArray m):=h▸rfl
theorem cW {l m:List Value}(h:l=m):Value.agg (List.toArray l)=Value.agg (List.toArray m):=h▸rfl
abbrev kn2:Option Kn:=some (.t [none,none])
abbrev kn4:Option Kn:=some (.t [none,none,none,none])
theorem bQ {U:Uni}{P:Program}{f:Nat}{fn:Func}{c:Ctr U}(a:P.funcs[f]? =some fn)(hm:P.follows .mixedOrders=true)(tb:List (Nat×Ctr U))(b:yu U P tb)(N:List Nat)(d:An)(e:List Nat){F:Prop}(h:F)(g:(jN (λp=>dy P p.1) tb && jN (λi=>Nat.blt i c.res.length) c.cE)=true:=by kernel_rfl)(he:Vc2 U P (GR tb) N fn d e c=F:=by kernel_rfl):LV U P f c:=verify a hm b g (he.mpr h)
theorem aq {a b:Prop}(h:a)(k:a->b):a/\b:=⟨h,k h⟩
theorem KnO.tup {U:Uni}{rs:List (Res U)}{vs:Array Value}:∀(l:List (Option PK)),(∀o∈l,o=none)->KnO rs (.tuple vs) (some (.t l)):=λl h=>⟨vs,rfl,λj k a=>by have:=h _ (jo a);cases this⟩
theorem allEq {α:Sort _}{a:α}{F:α->Prop}(h:F a):∀x,x=a->F x:=λ_ e=>e▸h
theorem ai {α:Type}{a b:α}{l m:List α}(h:a=b)(k:l=m):a::l=b::m:=by rw[h,k]
theorem cx {α:Type}{F:(α->Prop)->Prop}{G:α->Prop}(e:α)(a:F (λx=>x=e))(b:G e):∃J:α->Prop,F J/\∀(_:Nat->Value)(x:α),J x->G x:=⟨_,a,λ_ _ h=>h▸b⟩
theorem dup2 {α β:Type}{F:(α->β->Prop)->Prop}{G:α->β->Prop}(h:F G):∃J:α->β->Prop,F J/\∀(_:Nat->Value)(x:α)(y:β),J x y->G x y:=⟨_,h,λ_ _ _ h=>h⟩
theorem rS {U:Uni}{Q:Ou U->Prop}{a b:Bool}{k:Option Kn}{u:List (Upd U)}{n:List (Res U)}{kc:List (Key×Kn)}(h:Q ⟨.bool a,k,u,n,kc⟩)(c:a=b):Q ⟨.bool b,k,u,n,kc⟩:=c▸h
theorem dO {U:Uni}{Q:Ou U->Prop}{i:IntKind}{a b:Int}{k:Option Kn}{u:List (Upd U)}{n:List (Res U)}{kc:List (Key×Kn)}(h:Q ⟨.int i a,k,u,n,kc⟩)(c:a=b):Q ⟨.int i b,k,u,n,kc⟩:=c▸h
theorem au {U:Uni}{Q:Ou U->Prop}{a b:Value}{k:Option Kn}{u c:List (Upd U)}{n n':List (Res U)}{kc:List (Key×Kn)}(h:Q ⟨a,k,u,n,kc⟩)(d:a=b)(e:u=c)(f:n=n'):Q ⟨b,k,c,n',kc⟩:=by rw[<-d,<-e,<-f];exact h
end
theorem aw {a b:Int}(h:a=b):Value.int .i64 a=Value.int .i64 b:=congrArg _ h
theorem ax {a b:Int}(h:a=b):Value.int .u32 a=Value.int .u32 b:=congrArg _ h
theorem eQb {a b:Bool}(h:a=b):Value.bool a=Value.bool b:=congrArg _ h
end
end V
open Go Go.RowKit V
open Go.IntKind (i64 u32 u64 wrap_i64 wrap_u32)
open Enc (enc)
structure zK where
 k:Int
 a:Int
 b:Int
 c:Int
 v:Int
 wA:Option Addr
 wN:Nat
 wC:Nat
instance:Enc zK:=⟨λx=>[.int .i64 x.k,.int .i64 x.a,.int .i64 x.b,.int .i64 x.c,.int .u32 x.v,.slice x.wA x.wN x.wC],6,λ_=>rfl,by simp[Value.oneCell'],by omega⟩
def UEl:Nat->Type
 |0=>I64
 |1=>U32
 |2=>U8
 |3=>Bl
 |4=>Ent
 |5=>zK
 |6=>Fl
 |7=>Hd
 |_=>I64
@[reducible] def UEn:(t:Nat)->Enc (UEl t)
 |0=>inferInstanceAs (Enc I64)
 |1=>inferInstanceAs (Enc U32)
 |2=>inferInstanceAs (Enc U8)
 |3=>inferInstanceAs (Enc Bl)
 |4=>inferInstanceAs (Enc Ent)
 |5=>inferInstanceAs (Enc zK)
 |6=>inferInstanceAs (Enc Fl)
 |7=>inferInstanceAs (Enc Hd)
 |_+8=>inferInstanceAs (Enc I64)
def UDf:(t:Nat)->UEl t
 |0=>I64.mk 0
 |1=>uM 0
 |2=>U8.mk 0
 |3=>Bl.mk false
 |4=>Ent.free
 |5=>⟨0,0,0,0,0,none,0,0⟩
 |6=>Fl.zero
 |7=>⟨none,0,0⟩
 |_+8=>I64.mk 0
def Is:(t:Nat)->List Value->Option (UEl t)
 |0,[.int .i64 x]=>some (I64.mk x)
 |1,[.int .u32 x]=>some (uM x)
 |2,[.int .u8 x]=>some (U8.mk x)
 |3,[.bool x]=>some (Bl.mk x)
 |4,[.int .i64 a,.int .i64 b,.int .i64 c,.int .i64 d,.bool e]=>some (Ent.mk a b c d e)
 |5,[.int .i64 a,.int .i64 b,.int .i64 c,.int .i64 d,.int .u32 e,.slice x y z]=>some (zK.mk a b c d e x y z)
 |7,[.slice x y z]=>some (Hd.mk x y z)
 |_,_=>none
theorem jb {t:Nat}{cs:List Value}{x:UEl t}(h:Is t cs=some x):(UEn t).enc x=cs:=by
 unfold Is at h;split at h<;>first|(injection h with h;subst h;rfl)|cases h
def Na:(t:Nat)->List Value->Option (UEl t)
 |6,cs=>xH cs
 |t,cs=>Is t cs
theorem Kc:∀ {t:Nat}{cs:List Value}{x:UEl t},Na t cs=some x->(UEn t).enc x=cs
 |6,_,_,h=>(nt h).1.symm
 |0,_,_,h=>jb (t:=0) h
 |1,_,_,h=>jb (t:=1) h
 |2,_,_,h=>jb (t:=2) h
 |3,_,_,h=>jb (t:=3) h
 |4,_,_,h=>jb (t:=4) h
 |5,_,_,h=>jb (t:=5) h
 |7,_,_,h=>jb (t:=7) h
 |t+8,_,_,h=>jb (t:=t+8) h
def UE:Els:=⟨UEl,UEn,UDf,Na,Kc⟩
def NC:Kind UE where
 ty:=Mem
 pred:=λr s X w=>∃L:gE,r 0=L.g/\(∀k,L.X k↔X k)/\dW w L s
 ch:=fun⟨L,d,a,b⟩ q e=>⟨L,d,a,b.ch q λk c=>e k ((a k).1 c)⟩
 lt:=fun⟨_,_,a,b⟩ k c=>b.lt k ((a k).2 c)
 iv:=true
 inv:=Mem.Wf
 iu:=fun⟨_,_,_,h⟩=>⟨h.u32,h.most⟩
def kPd:Kind UE where
 ty:=Pd
 pred:=λr s X w=>∃a,(∀k,(k=r 0\/k=a)↔X k)/\PdP w (r 0) a (r 1) s
 ch:=fun⟨a,d,g⟩ q o=>⟨a,d,g.ch q (o _ ((d _).1 (.inl rfl))) (o _ ((d _).1 (.inr rfl)))⟩
 lt:=fun⟨a,d,g⟩ k j=>by rcases(d k).2 j with rfl|rfl;exact g.lt.1;exact g.lt.2
 iv:=true
 inv:=Pd.Ok
 iu:=fun⟨_,_,h⟩=>h.ok
 fo:=λ_ s path off=>match path,off with
  |0,0=>some (.o 1 0)
  |0,1=>some (.v (J s.aO))
  |_,_=>none
 uL:=by
  rintro r s X w path off f v ⟨a,e,l⟩ b i
  have h:=Mw l
  split at b
  ·injection b with b;subst b;simp only[fvV]at i
   exact⟨(e _).1 (.inl rfl),by rw[<-i];exact h.1⟩
  ·injection b with b;subst b;simp only[fvV]at i
   exact⟨(e _).1 (.inl rfl),by rw[<-i];exact h.2⟩
  ·cases b
 fs:=λ_ s path off v=>match path,off,v with
  |0,1,.int .i64 x=>some (0<=x/\x<=64,s.ig x)
  |_,_,_=>none
 uJ:=by
  rintro r s y X w path off v c ⟨a,e,l⟩ b p K t
  split at b
  ·simp only[Option.some.injEq,Prod.mk.injEq]at b
   obtain⟨rfl,rfl⟩:=b
   exact l.Fo p λw' u q=>t w' ⟨a,e,u⟩ (q.mono λk j=>(e k).1 (.inl j))
  ·cases b
def MF:Kind UE where
 ty:=Mem
 pred:=λr s X w=>∃L:gD,(∀k,L.X k↔X k)/\dq w (r 0) L s
 ch:=fun⟨L,a,b⟩ q d=>⟨L,a,b.ch q λk c=>d k ((a k).1 c)⟩
 lt:=fun⟨_,a,b⟩ k c=>b.lt k ((a k).2 c)
 iv:=true
 inv:=Mem.Wf
 iu:=fun⟨_,_,h⟩=>⟨h.u32,h.most⟩
def Nz:Kind UE where
 ty:=Pd
 pred:=λr s X w=>(∀k,(k=r 0\/k=r 2)↔X k)/\nM w (r 0) (r 1) (r 2) (r 3) s
 ch:=fun⟨g,o⟩ q A=>⟨g,o.ch q (A _ ((g _).1 (.inl rfl))) (A _ ((g _).1 (.inr rfl)))⟩
 lt:=fun⟨g,o⟩ k l=>by rcases(g k).2 l with rfl|rfl;exact o.lt.1;exact o.lt.2
 li:=λr s i=>match i with
  |0=>some ⟨4,some ⟨r 2,0,none⟩,r 3,s.aT⟩
  |_=>none
 nS:=by
  rintro r s X w i L h b
  split at b
  ·injection b with b;subst b;exact K3 h.1 h.2
  ·cases b
 st:=λ_ s j i tt=>match j,tt with
  |0,4=>λx=>some ((Ent.ok x=true/\Ent.owner x<((s.n:Nat):Int)),s.set i x)
  |_,_=>λ_=>none
 pj:=by
  rintro r s B X w j i L x y off vs c h b C D F hs p K t
  split at b
  ·injection b with b
   subst b
   simp only[Option.some.injEq,Prod.mk.injEq]at hs
   obtain⟨rfl,rfl⟩:=hs
   exact h.2.KZ C D F p λw' u q=>t w' ⟨h.1,u⟩ (q.mono λk l=>(h.1 k).1 (.inr l))
  ·cases b
 iv:=true
 inv:=Pd.Ok
 iu:=fun⟨_,h⟩=>h.ok
 fo:=λ_ s path off=>match path,off with
  |0,0=>some (.o 1 0)
  |0,1=>some (.l 0)
  |0,2=>some (.v (J s.aO))
  |_,_=>none
 uL:=by
  rintro r s X w path off f v ⟨d,z⟩ a e
  have h:=K4 z
  split at a
  ·injection a with a;subst a;simp only[fvV]at e
   exact⟨(d _).1 (.inl rfl),by rw[<-e];exact h.1⟩
  ·injection a with a;subst a;simp only[fvV]at e
   exact⟨(d _).1 (.inl rfl),by rw[<-e];exact h.2.1⟩
  ·injection a with a;subst a;simp only[fvV]at e
   exact⟨(d _).1 (.inl rfl),by rw[<-e];exact h.2.2⟩
  ·cases a
 fs:=λ_ s path off v=>match path,off,v with
  |0,2,.int .i64 x=>some (0<=x/\x<=64,s.ig x)
  |_,_,_=>none
 uJ:=by
  rintro r s B X w path off v c ⟨d,z⟩ a p K t
  split at a
  ·simp only[Option.some.injEq,Prod.mk.injEq]at a
   obtain⟨rfl,rfl⟩:=a
   exact z.Fo p λw' u q=>t w' ⟨d,u⟩ (q.mono λk l=>(d k).1 (.inl l))
  ·cases a
def ND:Kind UE where
 ty:=Dg
 pred:=λr s X w=>∃L:DgL,(∀k,L.X (r 0) k↔X k)/\kY w (r 0) L s
 ch:=fun⟨L,a,b⟩ q d=>⟨L,a,b.ch q λk c=>d k ((a k).1 c)⟩
 lt:=fun⟨_,a,b⟩ k c=>b.lt k ((a k).2 c)
def ME(b:Nat):Kind UE where
 ty:=List Int
 pred:=λ_ s X w=>(∀k,k=b↔X k)/\eh w b s
 ch:=fun⟨a,c⟩ q e=>⟨a,c.ch q λk d=>e k ((a k).1 d)⟩
 lt:=fun⟨a,c⟩ k d=>c.lt k ((a k).2 d)
theorem Jh {w:World}{g o n:Nat}{s:List U32}{X:Nat->Prop}(c:∀k,k=g↔X k)(h:vn w g s)(l:o+n<=s.length):X g/\∀j u,(aV (λj=>Value.int .u32 (s.getD (o+j) (uM 0)).v) (upN 0 n))[j]? =some u->w.cell? ⟨g,o+j,none⟩=some u:=by
 obtain⟨T,d⟩:=h;refine⟨(c _).1 rfl,λj u a=>?_⟩;rw[<-aY,cj]at a;cases b:nth (upN 0 n) j with
 |none=>rw[b]at a;cases a
 | some i=>
  rw[b]at a;have e:i=j:=by have:=oX b;omega
  have f:=bG b;rw[lf]at f;subst e;injection a with a
  rw[<-a];refine d.cell ?_;rw[iT (by simp;omega),List.getD_eq_getElem?_getD,List.getElem?_map];dsimp only;rw[List.getD_eq_getElem?_getD];cases s[o+i]? <;>rfl
def kU:Kind UE where
 ty:=List U32
 pred:=λr s X w=>(∀k,k=r 0↔X k)/\vn w (r 0) s
 ch:=fun⟨b,T,e⟩ q g=>⟨b,T,q.blk e (g _ ((b _).1 rfl))⟩
 lt:=fun⟨b,T,e⟩ k p=>by rw[(b k).2 p];exact e.lt
 li:=λr s i=>match i with
  |0=>some ⟨1,some ⟨r 0,0,none⟩,s.length,s⟩
  |_=>none
 nS:=by
  rintro r s X w i L h a
  split at a
  ·injection a with a;subst a;exact Jj h.1 h.2
  ·cases a
 st:=λ_ s j i tt=>match j,tt with
  |0,1=>λx=>some (True,s.set i x)
  |_,_=>λ_=>none
 pj:=by
  rintro r s t X w j i L x y off vs c h a u v z hs d K f
  split at a
  ·injection a with a
   subst a
   simp only[Option.some.injEq,Prod.mk.injEq]at hs
   obtain⟨rfl,rfl⟩:=hs
   exact Ji h.1 h.2 u v z f
  ·cases a
 ix:=λpath off=>match path,off with
  |0,0=>some 0
  |_,_=>none
 rU:=by
  rintro r s path off i L h a
  split at h
  ·injection h with h;subst h
   injection a with a;subst a;rfl
  ·cases h
 wl:=λ_ s path off n=>match path,off with
  |0,o=>some (o+n<=s.length,aV (λj=>.int .u32 (s.getD (o+j) (uM 0)).v) (upN 0 n))
  |_,_=>none
 tF:=by
  rintro r s X w path off n c cs h hw d
  split at hw
  ·simp only[Option.some.injEq,Prod.mk.injEq]at hw
   obtain⟨rfl,rfl⟩:=hw
   exact Jh h.1 h.2 d
  ·cases hw
 ws:=λ_ s path off vs=>match path,off with
  | 0,0=>(match wk vs with
   |some l=>some (s.length=l.length,l)
   |none=>none)
  |_,_=>none
 rB:=by
  rintro r s t X w path off vs c h hs d K f
  split at hs
  ·split at hs
   ·rename_i l a
    simp only[Option.some.injEq,Prod.mk.injEq]at hs
    obtain⟨rfl,rfl⟩:=hs
    exact Jg h.1 h.2 a d f
   ·cases hs
  ·cases hs
def kFl:Kind UE where
 ty:=Fl
 pred:=λr s X w=>(∀k,k=r 0↔X k)/\FlP w (r 0) s
 ch:=fun⟨d,t,T,G⟩ q g=>⟨d,t,T,q.blk G (g _ ((d _).1 rfl))⟩
 lt:=fun⟨d,_,T,t⟩ k o=>by rw[(d k).2 o];exact t.lt
 li:=λr s i=>match i with
  |0=>some ⟨1,some ⟨r 0,0,none⟩,s.rs.length,s.rs⟩
  |_=>none
 nS:=by
  rintro r s X w i L h a
  split at a
  ·injection a with a;subst a;exact h.2.li h.1
  ·cases a
 fs:=λ_ s path off v=>match path,off,v with
  |0,15,.int .u32 x=>some (True,{s with pc:=x})
  |0,16,.bool x=>some (True,{s with z:=x})
  |0,17,.bool x=>some (True,{s with n:=x})
  |0,18,.bool x=>some (True,{s with l:=x})
  |_,_,_=>none
 uJ:=by
  rintro r s D X w path off v c h b A K p
  split at b
  all_goals first
   |cases b;done
   | (simp only[Option.some.injEq,Prod.mk.injEq]at b
      obtain⟨rfl,rfl⟩:=b
      exact FlP.st h.2 (by omega) (by exact h.2.len) (by rfl) λw' B q=>p w' ⟨h.1,B⟩ (q.mono λk o=>(h.1 k).1 o))
 st:=λ_ s j i tt=>match j,tt with
  |0,1=>λx=>some (True,s.po i x)
  |_,_=>λ_=>none
 pj:=by
  rintro r s D X w j i L x y off vs c h a H I J hs A K p
  split at a
  ·injection a with a
   subst a
   simp only[Option.some.injEq,Prod.mk.injEq]at hs
   obtain⟨rfl,rfl⟩:=hs
   exact h.2.stR h.1 H I J p
  ·cases a
 iv:=true
 inv:=Fl.Ok
 iu:=λh=>h.2.len
 fo:=λ_ s path off=>match path,off with
  |0,15=>some (.v (O s.pc))
  |0,16=>some (.v (vB s.z))
  |0,17=>some (.v (vB s.n))
  |0,18=>some (.v (vB s.l))
  |_,_=>none
 uL:=by
  rintro r s X w path off f v ⟨C,a,T,g⟩ b F
  split at b
  all_goals first
   |cases b;done
   | (injection b with b
      subst b
      simp only[fvV,Option.some.injEq]at F
      exact⟨(C _).1 rfl,by rw[<-F];exact g.cell rfl⟩)
 ix:=λpath off=>match path,off with
  |0,0=>some 0
  |_,_=>none
 rU:=by
  rintro r s path off i L h a
  split at h
  ·injection h with h;subst h
   injection a with a;subst a;rfl
  ·cases h
 wl:=λ_ s path off n=>match path,off,n with
  |0,0,19=>some (True,s.cells)
  |_,_,_=>none
 tF:=by
  rintro r s X w path off n c cs ⟨C,a,T,g⟩ hw A
  split at hw
  ·simp only[Option.some.injEq,Prod.mk.injEq]at hw
   obtain⟨rfl,rfl⟩:=hw
   exact⟨(C _).1 rfl,λj u M=>by rw[Nat.zero_add];exact g.cell (by simpa using M)⟩
  ·cases hw
 ws:=λ_ _ path off vs=>match path,off with
  | 0,0=>(match xH vs with
   |some l=>some (True,l)
   |none=>none)
  |_,_=>none
 rB:=by
  rintro r s D X w path off vs c h hs A K p
  split at hs
  ·split at hs
   ·rename_i l a
    simp only[Option.some.injEq,Prod.mk.injEq]at hs
    obtain⟨rfl,rfl⟩:=hs
    obtain⟨e,d⟩:=nt a
    subst e
    exact h.2.all d λw' B q=>p w' ⟨h.1,B⟩ (q.mono λk o=>(h.1 k).1 o)
   ·cases hs
  ·cases hs
def clL:List (Int×Value):= [(1,.func (.func 101) #[] #[]),(2,.func (.func 102) #[] #[]),(3,.func (.func 103) #[] #[]),(4,.func (.func 104) #[] #[]),(5,.func (.func 105) #[] #[]),(6,.func (.func 106) #[] #[]),(7,.func (.func 107) #[] #[])]
def kCl:Kind UE where
 ty:=Unit
 pred:=λr _ X w=>(∀k,k=r 0↔X k)/\oT w (r 0) clL
 ch:=fun⟨a,b⟩ q c=>⟨a,b.ch q (c _ ((a _).1 rfl))⟩
 lt:=fun⟨a,b⟩ k d=>by rw[(a k).2 d];exact b.lt
 mp:=λ_=>some clL
 AU:=λh e=>by injection e with e;rw[<-e];exact h.2
theorem Nst.Hq {s:Nst}{k:Nat}(h:¬k<s.hs.length):s.hd k=⟨none,0,0⟩:=by unfold hd;rw[List.getD_eq_getElem?_getD,List.getElem?_eq_none (by omega)];rfl
theorem Nst.Hp {s:Nst}{k:Nat}(h:¬k<s.ls.length):s.l k= []:=by unfold l;rw[List.getD_eq_getElem?_getD,List.getElem?_eq_none (by omega)];rfl
theorem gj.len {w:World}{s:Nst}{X:Nat->Prop}(h:gj w s X)(k:Nat):(s.hd k).n=(s.l k).length:=by
 by_cases a:k<s.hs.length
 ·exact h.ok.n k a
 ·rw[Nst.Hq a,Nst.Hp (by rw[h.ok.len];exact a)];rfl
theorem gj.rd {w:World}{s:Nst}{X:Nat->Prop}(h:gj w s X)(k:Nat):Rd w X (s.hd k).A (s.l k).length (s.hd k).c (s.l k):=by
 by_cases a:k<s.hs.length
 ·rw[<-h.ok.n k a];exact h.inn k a
 ·rw[Nst.Hq a,Nst.Hp (by rw[h.ok.len];exact a)];exact⟨rfl,Nat.zero_le _,h.lt,λi x b=>by cases b⟩
def NA:Kind UE where
 ty:=Nst
 pred:=λ_ s X w=>gj w s X
 ch:=λh q g=>h.ch q g
 lt:=λh=>h.lt
 iv:=true
 inv:=Nst.Ok
 iu:=λh=>h.ok
 li:=λ_ s i=>match i with
  |0=>some ⟨7,s.A,s.c,s.hs⟩
  |k+1=>some ⟨1,(s.hd k).A,(s.hd k).c,s.l k⟩
 nS:=by
  rintro r s X w i L h a
  split at a
  ·injection a with a;subst a;exact h.out
  ·rename_i k;injection a with a;subst a;exact h.rd k
 ne:=λj=>Nat.beq j 0
 xn:=by
  rintro r s X w j i L x h f a b
  have f:=Nat.eq_of_beq_eq_true f
  subst f
  injection a with a
  subst a
  exact⟨_,rfl,h.ne b⟩
 st:=λ_ s j i tt=>match j,tt with
  |k+1,1=>λx=>some (s.own=true,s.set k i x)
  |_,_=>λ_=>none
 pj:=by
  rintro r s u X w j i L x y off vs c h a b l o hs p K t
  match j,a with
  |0,a=>exact absurd hs (by intro e;cases e)
  | k+1,a=>
   injection a with a
   subst a
   simp only[Option.some.injEq,Prod.mk.injEq]at hs
   obtain⟨rfl,rfl⟩:=hs
   have d:k<s.hs.length:=by
    have b:(s.l k)[i]? =some x:=b
    by_cases d:k<s.hs.length
    ·exact d
    ·rw[Nst.Hp (by rw[h.ok.len];exact d)]at b;cases b
   exact h.st p d b l o t
structure Nsk where
 n:Nst
 k:List Int
def NB:Kind UE where
 ty:=Nsk
 pred:=λ_ s X w=>gj w s.n X/\eh w 1 s.k/\X 1
 ch:=fun⟨e,f,c⟩ q d=>⟨e.ch q d,f.ch q λk g=>d k (g▸c),c⟩
 lt:=λh=>h.1.lt
 iv:=true
 inv:=λs=>Nst.Ok s.n
 iu:=λh=>h.1.ok
 li:=λ_ s i=>match i with
  |0=>some ⟨7,s.n.A,s.n.c,s.n.hs⟩
  |k+1=>some ⟨1,(s.n.hd k).A,(s.n.hd k).c,s.n.l k⟩
 nS:=by
  rintro r s X w i L h a
  split at a
  ·injection a with a;subst a;exact h.1.out
  ·rename_i k;injection a with a;subst a;exact h.1.rd k
 ne:=λj=>Nat.beq j 0
 xn:=by
  rintro r s X w j i L x h b a l
  have b:=Nat.eq_of_beq_eq_true b
  subst b
  injection a with a
  subst a
  exact⟨_,rfl,h.1.ne l⟩
def kSt:Kind UE where
 ty:=LSt
 pred:=λr s X w=>fM w (r 0) s X
 ch:=λh q a=>h.ch q a
 lt:=λh=>h.lt
 iv:=true
 inv:=LSt.Ok
 iu:=λh=>h.ok
def UK:Nat->Kind UE
 |0=>NC
 |1=>kPd
 |2=>MF
 |3=>Nz
 |4=>ND
 |5=>ME 0
 |6=>ME 1
 |7=>kU
 |10=>kFl
 |12=>kCl
 |13=>NA
 |14=>kSt
 |15=>NB
 |_=>Kind.none UE
abbrev cz(t:Nat)(r:Nat->Nat)(s:(UK t).ty)(X:Nat->Prop)(w:World):Prop:=(UK t).pred r s X w
theorem zk {t:Nat}{r:Nat->Nat}{s:(UK t).ty}{X:Nat->Prop}{w:World}(h:cz t r s X w):(UK t).inv s:=(UK t).iu h
def UMk:TypeId->List Value->Option ((t:Nat)×(UK t).ty)
 | 120,cs=>(match wk cs with
  |some l=>some ⟨7,l⟩
  |none=>none)
 | 24,cs=>(match wk cs with
  |some l=>some ⟨7,l⟩
  |none=>none)
 | 211,cs=>(match wk cs with
  |some l=>some ⟨7,l⟩
  |none=>none)
 | 184,cs=>(match wk cs with
  |some l=>some ⟨7,l⟩
  |none=>none)
 | 37,cs=>(match xH cs with
  |some s=>some ⟨10,s⟩
  |none=>none)
 | 82,cs=>(match xH cs with
  |some s=>some ⟨10,s⟩
  |none=>none)
 |_,_=>none
theorem LP {T:TypeId}{cs:List Value}{q:(t:Nat)×(UK t).ty}{w:World}{g:Nat}(h:UMk T cs=some q)(b:Blk w g ⟨cs⟩ T):(UK q.1).pred (λ_=>g) q.2 (λk=>k=g) w:=by
 unfold UMk at h;split at h
 ·split at h
  ·rename_i l a;injection h with h
   subst h;have:=kO a;subst this;exact(⟨λk=>Iff.rfl,_,b.cast (by simp[bS])⟩:(∀k,k=g↔k=g)/\vn w g l)
  ·cases h
 ·split at h
  ·rename_i l a;injection h with h
   subst h;have:=kO a;subst this;exact(⟨λk=>Iff.rfl,_,b.cast (by simp[bS])⟩:(∀k,k=g↔k=g)/\vn w g l)
  ·cases h
 ·split at h
  ·rename_i l a;injection h with h
   subst h;have:=kO a;subst this;exact(⟨λk=>Iff.rfl,_,b.cast (by simp[bS])⟩:(∀k,k=g↔k=g)/\vn w g l)
  ·cases h
 ·split at h
  ·rename_i l a;injection h with h
   subst h;have:=kO a;subst this;exact(⟨λk=>Iff.rfl,_,b.cast (by simp[bS])⟩:(∀k,k=g↔k=g)/\vn w g l)
  ·cases h
 ·split at h
  ·rename_i s hs;injection h with h
   subst h;obtain⟨rfl,c⟩:=nt hs;exact(⟨λk=>Iff.rfl,c,_,b⟩:(∀k,k=g↔k=g)/\FlP w g s)
  ·cases h
 ·split at h
  ·rename_i s hs;injection h with h
   subst h;obtain⟨rfl,c⟩:=nt hs;exact(⟨λk=>Iff.rfl,c,_,b⟩:(∀k,k=g↔k=g)/\FlP w g s)
  ·cases h
 ·cases h
def Un:Uni:=Uni.of UE UK (λt=>match t with
 |3=>some 0
 |23=>some 1
 |4=>some 3
 |107=>some 4
 |104=>some 4
 |33=>some 5
 |31=>some 7
 |_=>none) UMk LP
theorem uO0 {a b:Mem}(h:a=b):Upd.ob (U:=Un) 0 a=.ob 0 b:=congrArg (Upd.ob (U:=Un) 0) h
theorem rO0 {r:Nat->Nat}{a b:Mem}(h:a=b):Res.ob (U:=Un) 0 r a=.ob 0 r b:=congrArg (Res.ob (U:=Un) 0 r) h
theorem uO1 {a b:Pd}(h:a=b):Upd.ob (U:=Un) 1 a=.ob 1 b:=congrArg (Upd.ob (U:=Un) 1) h
theorem rO1 {r:Nat->Nat}{a b:Pd}(h:a=b):Res.ob (U:=Un) 1 r a=.ob 1 r b:=congrArg (Res.ob (U:=Un) 1 r) h
theorem uO2 {a b:Mem}(h:a=b):Upd.ob (U:=Un) 2 a=.ob 2 b:=congrArg (Upd.ob (U:=Un) 2) h
theorem rO2 {r:Nat->Nat}{a b:Mem}(h:a=b):Res.ob (U:=Un) 2 r a=.ob 2 r b:=congrArg (Res.ob (U:=Un) 2 r) h
theorem uO3 {a b:Pd}(h:a=b):Upd.ob (U:=Un) 3 a=.ob 3 b:=congrArg (Upd.ob (U:=Un) 3) h
theorem rO3 {r:Nat->Nat}{a b:Pd}(h:a=b):Res.ob (U:=Un) 3 r a=.ob 3 r b:=congrArg (Res.ob (U:=Un) 3 r) h
section
namespace V
section
variable {U:Uni}
theorem bu.more {rs:List (Res U)}{X:Nat->Nat->Prop}{w w':World}{Q:Ou U->Prop}{v:Value}{k:Option Kn}{Z:Nat->Prop}{r:Res U}(hs:Sat rs X w)(q:Pu w w')(l:RS Z w' r)(g:∀k,Z k->w.heap.size<=k)(o:Q ⟨v,k,[],[r],[]⟩)(a:KnO (rs++ [r]) v k):bu rs [] X w Q (.returned v) w':=by
 refine⟨_,rs,λi=>if i=rs.length then Z else X i,iy a,o,rfl,⟨λi r' d=>?_,λi j hi p s k e b=>?_⟩,q.mono λk a=>a.elim,λi hi _=>if_neg (by omega),λi hi=>(by cases hi),λi f c k a=>?_,.inr a,λ_ k a=>by cases a⟩
 ·by_cases hi:i<rs.length
  ·rw[bZ,if_pos hi]at d;simp only[if_neg (show ¬i=rs.length by omega)];exact(hs.res i r' d).ch q λ_ _ h=>h
  ·have f:=bG d;simp at f;obtain rfl:i=rs.length:=by omega
   rw[bZ,if_neg (by omega),Nat.sub_self]at d;obtain rfl:r=r':=by simpa[nth]using d
   simpa using l
 ·simp at hi p;by_cases f:i=rs.length
  ·have c:¬j=rs.length:=by omega
   simp only[f,if_true,if_neg c]at e b;have:=hs.lt (i:=j) (by omega) k b;have:=g k e;omega
  ·simp only[if_neg f]at e;by_cases c:j=rs.length
   ·simp only[c,if_true]at b;have:=hs.lt (i:=i) (by omega) k e;have:=g k b;omega
   ·simp only[if_neg c]at b;exact hs.dis i j (by omega) (by omega) s k e b
 ·simp at c;obtain rfl:i=rs.length:=by omega
  simp only[if_true]at a;exact g k a
theorem CZ {t:Nat}{T:TypeId}{A:Option Addr}{n c:Nat}{l:List (U.el t)}{Z:Nat->Prop}{w:World}(h:Own w Z T A n c l):RS (U:=U) (λk=>Z k/\k<w.heap.size) w (.lst t true T A c l):=by
 have a:=h.len;subst a;exact⟨h.within,λk b=>b.2⟩
end
end V
section
variable {r rm:Nat->Nat}{E:Pd}{m:Mem}{X:Nat->Nat->Prop}{w w':World}
theorem pK(hs:Sat (U:=Un) [.ob 0 rm m] X w):∃L:gE,rm 0=L.g/\dW w L m/\∀k,L.X k↔X 0 k:=by
 obtain⟨L,a,b,c⟩:=(hs.res 0 _ rfl:cz 0 rm m (X 0) w);exact⟨L,a,c,b⟩
theorem yC(hs:Sat (U:=Un) [.ob 1 r E,.ob 0 rm m] X w)(j:aK (U:=Un) [.ob 1 r E,.ob 0 rm m] fr0 [(.l 0 1,.p (.obj 1 0 0))])(l:E.n=m.S):
 ∃(a:Nat)(L:gE),rm 0=L.g/\r 1=L.g/\DBP w ⟨r 0,a,L⟩ (E.on m)/\(∀k,(k=r 0\/k=a)↔X 0 k)/\(∀k,L.X k↔X 1 k):=by
 obtain⟨a,c,d⟩:=(hs.res 0 _ rfl:cz 1 r E (X 0) w);obtain⟨L,e,f,o⟩:=(hs.res 1 _ rfl:cz 0 rm m (X 1) w);obtain⟨q,r',s,g,b⟩:=j _ _ (List.mem_singleton.2 rfl);simp only[nth,Option.some.injEq,Res.ob.injEq]at g;obtain⟨rfl,rfl,_⟩:=g;have b:some (Value.pointer (some ⟨rm 0,0,none⟩))=some (Value.pointer (some ⟨r 1,0,none⟩)):=b;simp only[Option.some.injEq,Value.pointer.injEq,Addr.mk.injEq]at b;have h:r 1=L.g:=by rw[<-e];exact b.1.symm
 rw[h]at d;have i:∀k,(k=r 0\/k=a)->¬L.X k:=λk b p=>hs.dis 0 1 (by simp) (by simp) (by omega) k ((c k).1 b) ((f k).1 p);exact⟨a,L,e,h,d.db o l ⟨i _ (.inl rfl),i _ (.inr rfl)⟩,c,f⟩
theorem xg {a:Nat}{L:gE}{D:DB}{Q:Ou Un->Prop}{v:Value}{k:Option Kn}(hs:Sat (U:=Un) [.ob 1 r E,.ob 0 rm m] X w)(d:∀k,(k=r 0\/k=a)↔X 0 k)(e:∀k,L.X k↔X 1 k)(f:rm 0=L.g)(g:r 1=L.g)(h:DBP w' ⟨r 0,a,L⟩ D)(q:Ch (gG.X ⟨r 0,a,L⟩) w w')
 (j:Q ⟨v,k,[.ob 1 D.pd,.ob 0 D.mem],[],[]⟩)(b:KnO (U:=Un) [.ob 1 r D.pd,.ob 0 rm D.mem] v k):bu (U:=Un) [.ob 1 r E,.ob 0 rm m] [0,1] X w Q (.returned v) w':=by
 refine⟨_,[.ob 1 r D.pd,.ob 0 rm D.mem],X,iy b,j,by simp[cv,eu,nth,cV],⟨λi r' c=>?_,hs.dis⟩,q.mono λk b=>?_,λi hi hm=>rfl,λi hi k b=>.inl b,λi l o=>by simp at l o;omega,.inr (by simpa using b),λ_ k b=>by cases b⟩
 ·match i with
  | 0=>
   simp only[List.append_nil,nth,Option.some.injEq]at c;subst c;exact(⟨a,d,by rw[g];exact h.pd⟩:cz 1 r D.pd (X 0) w')
  | 1=>
   simp only[List.append_nil,nth,Option.some.injEq]at c;subst c;exact(⟨L,f,e,h.mem⟩:cz 0 rm D.mem (X 1) w')
  |i+2=>simp[nth]at c
 ·rcases b with b|b|b
  ·exact⟨0,by simp,(d k).1 (.inl b)⟩
  ·exact⟨0,by simp,(d k).1 (.inr b)⟩
  ·exact⟨1,by simp,(e k).1 b⟩
theorem Mo(hs:Sat (U:=Un) [.ob 3 r E,.ob 2 rm m] X w)(h:aK (U:=Un) [.ob 3 r E,.ob 2 rm m] fr0 [(.l 0 1,.p (.obj 1 0 0))])(i:E.n=m.S):
 ∃L:gD,ic w (r 0) ⟨r 0,r 2,r 3,L⟩ (E.on m):=by
 obtain⟨j,a⟩:=(hs.res 0 _ rfl:cz 3 r E (X 0) w);obtain⟨L,l,d⟩:=(hs.res 1 _ rfl:cz 2 rm m (X 1) w);obtain⟨s,r',t,e,b⟩:=h _ _ (List.mem_singleton.2 rfl);simp only[nth,Option.some.injEq,Res.ob.injEq]at e;obtain⟨rfl,rfl,_⟩:=e;have b:some (Value.pointer (some ⟨rm 0,0,none⟩))=some (Value.pointer (some ⟨r 1,0,none⟩)):=b;simp only[Option.some.injEq,Value.pointer.injEq,Addr.mk.injEq]at b;have o:r 1=L.g:=by rw[d.gq];exact b.1.symm
 have c:(E.on m).S=E.n:=i.symm;have f:∀k,(k=r 0\/k=r 2)->¬L.X k:=λk b q=>hs.dis 0 1 (by simp) (by simp) (by omega) k ((j k).1 b) ((l k).1 q);refine⟨L,rfl,?_,?_,?_,⟨λp g=>?_,a.ok.aO⟩,by rw[c];exact a.pos,a.ne,f _ (.inl rfl),f _ (.inr rfl)⟩
 ·have:=a.hd;rw[o]at this;rw[c];exact this
 ·have:=a.es;unfold DB.aT;rw[c];exact this
 ·show dq w L.g L m;rw[d.gq];exact d
 ·rw[c]at g ⊢;exact a.ok.ent p g
end
end
theorem wu(q:Bool)(s:Int)(t md:Bool){R:bq}{w:World}(h:∀(a:Nat)(f:World),a=w.heap.size->f=w.alloc (.cells #[vB q,J s,vB t,vB md] 224)->∃l:Bool->World->Prop,(∃u:Int,f.cell? (((vA a).add 0).add 1)=some (J u)/\split (decide ((u:Int)<0)) (l true f) (∃v:Int,f.cell? (((vA a).add 0).add 1)=some (J v)/\l (decide ((v:Int)>63)) f))/\∀(V:Nat->Value)(x:Bool),∀d,l x d->split x (R (.tuple #[O 0,J 4]) d) (∃o:Bool->World->Prop,(∃y:Bool,d.cell? ((vA a).add 3)=some (vB y)/\split y (∃z:Bool,d.cell? (((vA a).add 0).add 0)=some (vB z)/\o (!z) d) (o false d))/\∀(W:Nat->Value)(A:Bool),∀b,o A b->split A (R (.tuple #[O 0,J 1]) b) (∃B:Int,b.cell? (((vA a).add 0).add 1)=some (J B)/\∀C:Int,C=(u32.wrap (BitVec.ofInt u32.bits (u32.wrap ((u32.wrap B:Int)*2 ^ 8)) ||| BitVec.ofInt u32.bits 1).toNat)->∃D:Bool,b.cell? (((vA a).add 0).add 0)=some (vB D)/\∃F:Bool,b.cell? ((vA a).add 2)=some (vB F)/\∃G:Bool,b.cell? ((vA a).add 3)=some (vB G)/\∀(p:Nat)(H:World),p=b.heap.size->H=b.alloc (.cells #[vB D,O 2,vB F,O 4,vB G,O 8] 261)->∃I:Nat->Int->Int->World->Prop,(∃m,I m C 0 H)/\∀(m:Nat)(Y:Nat->Value)(i c:Int),∀e,I m i c e->split (decide ((c:Int)<((3:Nat):Int))) ((0<=(c:Int)/\(c:Int)<((3:Nat):Int))/\∃K:Bool,∃L:Int,(e.cell? (((vA p).add (Int.toNat c*2)).add 0)=some (vB K)/\e.cell? (((vA p).add (Int.toNat c*2)).add 1)=some (O L))/\∀(j:Nat)(M:World),j=e.heap.size->M=e.alloc (.cells (#[vB false,O 0]) 261)->aF M (vA j) [vB K,O L] λk=>∃Q:Bool,k.cell? ((vA j).add 0)=some (vB Q)/\split Q (∃S:Int,k.cell? ((vA j).add 1)=some (O S)/\∀T:Int,T=(u32.wrap (BitVec.ofInt u32.bits i ||| BitVec.ofInt u32.bits S).toNat)->∃g,g<m/\I g T (i64.wrap (c+1)) k) (∃g,g<m/\I g i (i64.wrap (c+1)) k)) (R (.tuple #[O i,J 0]) e)))):Calls prog 163 #[(.agg #[vB q,J s,vB t,vB md])] w (cg R):=rvc [4] (aN (.node none (.node none (.node (some ⟨[(16,.one (.bool))],(rgN 7 10)⟩) .leaf .leaf) .leaf) (.node none (.node none (.node (some ⟨[(24,.one (.bool))],(rgN 17 8)⟩) .leaf .leaf) .leaf) (aN (.node none (aN (.node none (.node (some ⟨[(4,.one (.int .u32)),(43,.one (.int .i64))],[4,6,43,44,45,46,47,48,49,50,51,52,53]⟩) .leaf .leaf) .leaf)) .leaf))))) Tryz.func163 h
theorem lS(x k:Int){R:bq}{w:World}(h:∀s:Int,s=(u64.wrap (BitVec.ofInt u64.bits (u64.wrap k) &&& BitVec.ofInt u64.bits 31).toNat)->iM s λa=>iM (u64.wrap (32 - s)) λb=>R (O (u32.wrap (BitVec.ofInt u32.bits (u32.wrap ((x:Int)*2 ^ (min a u32.bits))) ||| BitVec.ofInt u32.bits ((x:Int).fdiv (2 ^ (min b u32.bits)))).toNat)) w):Calls prog 156 #[O x,J k] w (cg R):=rvc [5] (.leaf) Tryz.func156 h
theorem zn(a n:Int){R:bq}{w:World}(h:Calls prog 156 #[O a,J (i64.wrap (0 - n))] w λe c=>∃b:Int,e=.returned (O b)/\R (O b) c):Calls prog 128 #[O a,J n] w (cg R):=rvc [] (.leaf) Tryz.func128 h
theorem wH(a n:Int){R:bq}{w:World}(h:iM n λb=>iM (u64.wrap (32 - n)) λc=>R (O (u32.wrap (BitVec.ofInt u32.bits ((a:Int).fdiv (2 ^ (min b u32.bits))) ||| BitVec.ofInt u32.bits (u32.wrap ((a:Int)*2 ^ (min c u32.bits)))).toNat)) w):Calls prog 129 #[O a,(.int .u64 n)] w (cg R):=rvc [] (.leaf) Tryz.func129 h
theorem sQ(C D F G H K L M Q S T V W Y Z aa:Int){R:bq}{w:World}(h:∀(o:Nat)(p:World),o=w.heap.size->p=w.alloc (.cells (jG C D F G H K L M Q S T V W Y Z aa) 170)->∀(q:Nat)(s:World),q=p.heap.size->s=p.alloc (.cells (Array.replicate 64 (O 0)) 204)->∀(a:Nat)(NS:World),a=s.heap.size->NS=s.alloc (.cells (Array.replicate 64 (O 0)) 204)->∃b:bP,∀ab:oA,ab=(some (if 64=0 then Addr.mk a 0 none else(vA a).add (0*1)))->∀Y6:Nat,Y6=64 - 0->∀ae:Nat,ae=64 - 0->∀WU:oA,WU=(some (if 16=0 then Addr.mk o 0 none else(vA o).add (0*1)))->∀WS:Nat,WS=16 - 0->∀WT:Nat,WT=16 - 0->∃x9:Int,∃NV,(Builtin.copy_ #[31,31] 3 #[(.slice ab Y6 ae),(.slice WU WS WT)]:Sem Value).run prog NS.drew=.ok (J x9) NV/\∃b1:bP,(∀i k,b i k->b1 i k)/\∀t:Int,t=16->∃I:Nat->Int->World->Prop,(∃m,I m t NV)/\∀(m:Nat)(QI:Nat->Value)(t1:Int),∀c,I m t1 c->split (decide ((t1:Int)<64)) ((0<=(i64.wrap (t1 - 15):Int)/\(i64.wrap (t1 - 15):Int)<((64:Nat):Int))/\∃g:Int,c.drew.cell? ((vA a).add (Int.toNat (i64.wrap (t1 - 15))*1))=some (O g)/\(0<=(i64.wrap (t1 - 2):Int)/\(i64.wrap (t1 - 2):Int)<((64:Nat):Int))/\∃j:Int,c.drew.cell? ((vA a).add (Int.toNat (i64.wrap (t1 - 2))*1))=some (O j)/\∃l:bP,(0<=(i64.wrap (t1 - 16):Int)/\(i64.wrap (t1 - 16):Int)<((64:Nat):Int))/\l 4 (((vA a).add (Int.toNat (i64.wrap (t1 - 16))*1)).block)/\∃Qb:Int,c.drew.drew.cell? ((vA a).add (Int.toNat (i64.wrap (t1 - 16))*1))=some (O Qb)/\(0<=(i64.wrap (t1 - 7):Int)/\(i64.wrap (t1 - 7):Int)<((64:Nat):Int))/\l 17 (((vA a).add (Int.toNat (i64.wrap (t1 - 7))*1)).block)/\∃S2:Int,c.drew.drew.cell? ((vA a).add (Int.toNat (i64.wrap (t1 - 7))*1))=some (O S2)/\Calls prog 128 #[O g,J 7] c.drew.drew λe d=>∃R2:Int,e=.returned (O R2)/\Kept (bD l [0,1,2,3,4,7,10,11,14,15,16,17,19,21,24,25]) c.drew.drew d/\∃x:bP,(∀i k,l i k->x i k)/\Calls prog 128 #[O g,J 18] d λe y=>∃PY:Int,e=.returned (O PY)/\Kept (bD x [0,1,2,3,4,10,11,14,15,16,17,19,21,24,25]) d y/\∃z:bP,(∀i k,x i k->z i k)/\Calls prog 128 #[O j,J 17] y λe A=>∃SD:Int,e=.returned (O SD)/\Kept (bD z [0,1,2,3,4,9,10,11,12,13,14,15,16,17,18,21,24,25]) y A/\∃B:bP,(∀i k,z i k->B i k)/\Calls prog 128 #[O j,J 19] A λe OI=>∃af:Int,e=.returned (O af)/\Kept (bD B [0,1,2,3,4,5,9,10,11,12,13,14,15,16,17,18,24,25]) A OI/\∃b6:bP,(∀i k,B i k->b6 i k)/\(0<=(t1:Int)/\(t1:Int)<((64:Nat):Int))/\aF OI ((vA a).add (Int.toNat t1*1)) [O (u32.wrap ((u32.wrap ((u32.wrap (Qb+(u32.wrap (BitVec.ofInt u32.bits (u32.wrap (BitVec.ofInt u32.bits R2 ^^^ BitVec.ofInt u32.bits PY).toNat) ^^^ BitVec.ofInt u32.bits ((g:Int).fdiv (2 ^ 3))).toNat)))+S2))+(u32.wrap (BitVec.ofInt u32.bits (u32.wrap (BitVec.ofInt u32.bits SD ^^^ BitVec.ofInt u32.bits af).toNat) ^^^ BitVec.ofInt u32.bits ((j:Int).fdiv (2 ^ 10))).toNat)))] λO3=>∃b7:bP,(∀i k,b6 i k->b7 i k)/\∀t2:Int,t2=(i64.wrap (t1+1))->∃m1,m1<m/\I m1 t2 O3) (∃f:Array Value,(f.size=64/\∀i u,f[i]? =some u->c.cell? ((vA a).add i)=some u)/\f.size=64/\(∀v∈f.toList,one? v True)/\aF c (vA q) f.toList λd=>∃r0:Array Value,(r0.size=64/\∀i u,r0[i]? =some u->d.cell? ((vA q).add i)=some u)/\R (.agg r0) d)):Calls prog 127 #[(.agg (jG C D F G H K L M Q S T V W Y Z aa))] w (cg R):=rvc [4] (aN (aN (aN (.node none (aN (.node none (.node (some ⟨[(4,.one (.int .i64))],[4,5,6,10,11,12,13,14,15,16,17,18,19,20,21,22,23,24,25,26,27,28,29,30,31,32,33,34,35,36,37,38,39,40,41,42,43,44,45,46,47,48,49,50]⟩) .leaf .leaf) .leaf)) .leaf)))) Tryz.func127 h
theorem zp(K L M Q S T V W Y Z aa ab ae af ah an az aA aC a0 a1 a2 a3 a4:Int){R:bq}{w:World}(h:∀(u:Nat)(y:World),u=w.heap.size->y=w.alloc (.cells (q8a K L M Q S T V W) 24)->∀(NX:Nat)(z:World),NX=y.heap.size->z=y.alloc (.cells (jG Y Z aa ab ae af ah an az aA aC a0 a1 a2 a3 a4) 170)->∀(A:Nat)(v:World),A=z.heap.size->v=z.alloc (.cells (z8a) 24)->∃PU PO Q6 Q5 Q4 Sn Sm Sl:Int,aL v (vA u) 0 [O PU,O PO,O Q6,O Q5,O Q4,O Sn,O Sm,O Sl]/\∀(a:Nat)(NV:World),a=v.heap.size->NV=v.alloc (.cells (z8a) 24)->aF NV (vA a) (q8l PU PO Q6 Q5 Q4 Sn Sm Sl) λNY=>∃PT PN Qg Qf Qe Sk Sj Si Yc Um Yb Ya X9 X8 X7 X6:Int,aL NY (vA NX) 0 [O PT,O PN,O Qg,O Qf,O Qe,O Sk,O Sj,O Si,O Yc,O Um,O Yb,O Ya,O X9,O X8,O X7,O X6]/\Calls prog 127 #[(.agg (jG PT PN Qg Qf Qe Sk Sj Si Yc Um Yb Ya X9 X8 X7 X6))] NY λe Oc=>∃P3:Array Value,e=.returned (.agg P3)/\∃I:Nat->Int->World->Prop,(∃m,I m 0 Oc)/\∀(m:Nat)(Ql:Nat->Value)(d:Int),∀f,I m d f->split (decide ((d:Int)<64)) ((0<=(d:Int)/\(d:Int)<((64:Nat):Int))/\∃PM:Int,P3[Int.toNat d*1]? =some (O PM)/\(0<=(0:Int)/\(0:Int)<((8:Nat):Int))/\∃p:Int,f.drew.cell? ((vA a).add (Int.toNat 0*1))=some (O p)/\(0<=(4:Int)/\(4:Int)<((8:Nat):Int))/\∃q:Int,f.drew.cell? ((vA a).add (Int.toNat 4*1))=some (O q)/\∃b:bP,(0<=(7:Int)/\(7:Int)<((8:Nat):Int))/\b 1 (((vA a).add (Int.toNat 7*1)).block)/\∃Rs:Int,f.drew.drew.cell? ((vA a).add (Int.toNat 7*1))=some (O Rs)/\(0<=(5:Int)/\(5:Int)<((8:Nat):Int))/\b 13 (((vA a).add (Int.toNat 5*1)).block)/\∃T4:Int,f.drew.drew.cell? ((vA a).add (Int.toNat 5*1))=some (O T4)/\(0<=(6:Int)/\(6:Int)<((8:Nat):Int))/\b 18 (((vA a).add (Int.toNat 6*1)).block)/\∃SD:Int,f.drew.drew.cell? ((vA a).add (Int.toNat 6*1))=some (O SD)/\(0<=(d:Int)/\(d:Int)<((64:Nat):Int))/\b 24 (((vA 0).add (Int.toNat d*1)).block)/\∃ZK:Int,f.drew.drew.cell? ((vA 0).add (Int.toNat d*1))=some (O ZK)/\Calls prog 128 #[O q,J 6] f.drew.drew λe g=>∃Sa:Int,e=.returned (O Sa)/\Kept (bD b [0,1,4,7,11,12,13,14,15,16,17,18,19,20,22,23,24,26]) f.drew.drew g/\∃t:bP,(∀i k,b i k->t i k)/\Calls prog 128 #[O q,J 11] g λe l=>∃SE:Int,e=.returned (O SE)/\Kept (bD t [0,1,7,11,12,13,14,15,16,17,18,19,20,22,23,24,26]) g l/\∃B:bP,(∀i k,t i k->B i k)/\Calls prog 128 #[O q,J 25] l λe o=>∃a5:Int,e=.returned (O a5)/\Kept (bD B [0,1,6,11,12,13,14,15,16,17,18,19,20,22,23,24,26]) l o/\∃b3:bP,(∀i k,B i k->b3 i k)/\∀t1:Int,t1=(u32.wrap ((u32.wrap ((u32.wrap ((u32.wrap (Rs+(u32.wrap (BitVec.ofInt u32.bits (u32.wrap (BitVec.ofInt u32.bits Sa ^^^ BitVec.ofInt u32.bits SE).toNat) ^^^ BitVec.ofInt u32.bits a5).toNat)))+(u32.wrap (BitVec.ofInt u32.bits (u32.wrap (BitVec.ofInt u32.bits q &&& BitVec.ofInt u32.bits T4).toNat) ^^^ BitVec.ofInt u32.bits (u32.wrap (BitVec.ofInt u32.bits (u32.wrap (BitVec.ofInt u32.bits (if u32.signed then -1 else u32.max) ^^^ BitVec.ofInt u32.bits q).toNat) &&& BitVec.ofInt u32.bits SD).toNat)).toNat)))+ZK))+PM))->∃s:bP,(0<=(1:Int)/\(1:Int)<((8:Nat):Int))/\s 10 (((vA a).add (Int.toNat 1*1)).block)/\∃a6:Int,o.drew.cell? ((vA a).add (Int.toNat 1*1))=some (O a6)/\(0<=(2:Int)/\(2:Int)<((8:Nat):Int))/\s 14 (((vA a).add (Int.toNat 2*1)).block)/\∃a7:Int,o.drew.cell? ((vA a).add (Int.toNat 2*1))=some (O a7)/\(0<=(1:Int)/\(1:Int)<((8:Nat):Int))/\s 18 (((vA a).add (Int.toNat 1*1)).block)/\∃Wx:Int,o.drew.cell? ((vA a).add (Int.toNat 1*1))=some (O Wx)/\(0<=(2:Int)/\(2:Int)<((8:Nat):Int))/\s 20 (((vA a).add (Int.toNat 2*1)).block)/\∃Y7:Int,o.drew.cell? ((vA a).add (Int.toNat 2*1))=some (O Y7)/\Calls prog 128 #[O p,J 2] o.drew λe C=>∃SZ:Int,e=.returned (O SZ)/\Kept (bD s [2,5,8,9,10,11,12,13,14,15,16,17,18,19,20,21,22]) o.drew C/\∃D:bP,(∀i k,s i k->D i k)/\Calls prog 128 #[O p,J 13] C λe F=>∃ZJ:Int,e=.returned (O ZJ)/\Kept (bD D [5,8,9,10,11,12,13,14,15,16,17,18,19,20,21,22]) C F/\∃G:bP,(∀i k,D i k->G i k)/\Calls prog 128 #[O p,J 22] F λe j=>∃a8:Int,e=.returned (O a8)/\Kept (bD G [4,8,9,10,11,12,13,14,15,16,17,18,19,20,21,22]) F j/\∃b7:bP,(∀i k,G i k->b7 i k)/\∀t2:Int,t2=(u32.wrap ((u32.wrap (BitVec.ofInt u32.bits (u32.wrap (BitVec.ofInt u32.bits SZ ^^^ BitVec.ofInt u32.bits ZJ).toNat) ^^^ BitVec.ofInt u32.bits a8).toNat)+(u32.wrap (BitVec.ofInt u32.bits (u32.wrap (BitVec.ofInt u32.bits (u32.wrap (BitVec.ofInt u32.bits p &&& BitVec.ofInt u32.bits a6).toNat) ^^^ BitVec.ofInt u32.bits (u32.wrap (BitVec.ofInt u32.bits p &&& BitVec.ofInt u32.bits a7).toNat)).toNat) ^^^ BitVec.ofInt u32.bits (u32.wrap (BitVec.ofInt u32.bits Wx &&& BitVec.ofInt u32.bits Y7).toNat)).toNat)))->(0<=(0:Int)/\(0:Int)<((8:Nat):Int))/\∃a9:Int,j.cell? ((vA a).add (Int.toNat 0*1))=some (O a9)/\(0<=(1:Int)/\(1:Int)<((8:Nat):Int))/\∃ba:Int,j.cell? ((vA a).add (Int.toNat 1*1))=some (O ba)/\(0<=(2:Int)/\(2:Int)<((8:Nat):Int))/\∃VJ:Int,j.cell? ((vA a).add (Int.toNat 2*1))=some (O VJ)/\(0<=(3:Int)/\(3:Int)<((8:Nat):Int))/\∃ZC:Int,j.cell? ((vA a).add (Int.toNat 3*1))=some (O ZC)/\(0<=(4:Int)/\(4:Int)<((8:Nat):Int))/\∃bb:Int,j.cell? ((vA a).add (Int.toNat 4*1))=some (O bb)/\(0<=(5:Int)/\(5:Int)<((8:Nat):Int))/\∃bc:Int,j.cell? ((vA a).add (Int.toNat 5*1))=some (O bc)/\(0<=(6:Int)/\(6:Int)<((8:Nat):Int))/\∃bd:Int,j.cell? ((vA a).add (Int.toNat 6*1))=some (O bd)/\aF j (vA a) [O (u32.wrap (t1+t2)),O a9,O ba,O VJ,O (u32.wrap (ZC+t1)),O bb,O bc,O bd] λRo=>∃m1,m1<m/\I m1 (i64.wrap (d+1)) Ro) (∃H:Nat->Int->World->Prop,(∃x,H x 0 f)/\∀(x:Nat)(YU:Nat->Value)(c:Int),∀g,H x c g->split (decide ((c:Int)<8)) (∃b:bP,(0<=(c:Int)/\(c:Int)<((8:Nat):Int))/\b 2 (((vA a).add (Int.toNat c*1)).block)/\∃bf:Int,g.drew.cell? ((vA a).add (Int.toNat c*1))=some (O bf)/\(0<=(c:Int)/\(c:Int)<((8:Nat):Int))/\b 5 (((vA u).add (Int.toNat c*1)).block)/\∃bg:Int,g.drew.cell? ((vA u).add (Int.toNat c*1))=some (O bg)/\(0<=(c:Int)/\(c:Int)<((8:Nat):Int))/\aF g.drew ((vA a).add (Int.toNat c*1)) [O (u32.wrap (bf+bg))] λl=>∃t:bP,(∀i k,b i k->t i k)/\∃m3,m3<x/\H m3 (i64.wrap (c+1)) l) (∃Z8 ZZ ZY ZX ZW ZV ZU ZT:Int,aL g (vA a) 0 [O Z8,O ZZ,O ZY,O ZX,O ZW,O ZV,O ZU,O ZT]/\aF g (vA A) (q8l Z8 ZZ ZY ZX ZW ZV ZU ZT) λl=>∃Pa O9 Pj Ph Pg PB PA Pz:Int,aL l (vA A) 0 [O Pa,O O9,O Pj,O Ph,O Pg,O PB,O PA,O Pz]/\R (.agg (q8a Pa O9 Pj Ph Pg PB PA Pz)) l))):Calls prog 96 #[(.agg (q8a K L M Q S T V W)),(.agg (jG Y Z aa ab ae af ah an az aA aC a0 a1 a2 a3 a4))] w (cg R):=rvc [10,11] (aN (aN (.node none (aN (.node none (.node (some ⟨[(16,.one (.int .i64))],[6,7,8,9,10,11,16,17,18,19,20,21,22,23,24,25,26,27,28,29,30,31,32,33,34,35,36,37,38,39,40,41,42,43,44,45,46,47,48,49,50,51,52,53,54,55,56,57,58,59,60,61,62,63,64,65,66,67,68,69,70,71,72,73,74,75,76,77,78,79,80,81,82,83,84,85,86,87,88,89,90,91,92,93,94,95,96]⟩) .leaf .leaf) .leaf)) (.node none (aN (.node none (.node (some ⟨[(97,.one (.int .i64))],[12,97,98,99,100,101,102,103,104,105,106,107,108]⟩) .leaf .leaf) .leaf)) .leaf)))) Tryz.func96 h
theorem vJ(Y Z aa ab ae af ah an az aA aC a0 a1 a2 a3 a4 a5 a6 a7 a8 a9 ba bb bc:Int){R:bq}{w:World}(h:∀(C:Nat)(J:World),C=w.heap.size->J=w.alloc (.cells (q8a Y Z aa ab ae af ah an) 24)->∀(NX:Nat)(K:World),NX=J.heap.size->K=J.alloc (.cells (jG az aA aC a0 a1 a2 a3 a4 a5 a6 a7 a8 a9 ba bb bc) 170)->∀(L:Nat)(M:World),L=K.heap.size->M=K.alloc (.cells (z8a) 24)->∀(g:Nat)(NV:World),g=M.heap.size->NV=M.alloc (.cells (Array.replicate 64 (O 0)) 204)->∀t:Int,t=0->∃I:Nat->Int->World->Prop,(∃m,I m t NV)/\∀(m:Nat)(Ql:Nat->Value)(t1:Int),∀f,I m t1 f->split (decide ((t1:Int)<64)) (split (decide ((t1:Int)<16)) ((0<=(t1:Int)/\(t1:Int)<((16:Nat):Int))/\∃Rs:Int,f.cell? ((vA NX).add (Int.toNat t1*1))=some (O Rs)/\(0<=(t1:Int)/\(t1:Int)<((64:Nat):Int))/\aF f ((vA g).add (Int.toNat t1*1)) [O Rs] λq=>∀t2:Int,t2=(i64.wrap (t1+1))->∃y,y<m/\I y t2 q) ((0<=(i64.wrap (t1 - 15):Int)/\(i64.wrap (t1 - 15):Int)<((64:Nat):Int))/\∃D:Int,f.cell? ((vA g).add (Int.toNat (i64.wrap (t1 - 15))*1))=some (O D)/\(0<=(i64.wrap (t1 - 2):Int)/\(i64.wrap (t1 - 2):Int)<((64:Nat):Int))/\∃F:Int,f.cell? ((vA g).add (Int.toNat (i64.wrap (t1 - 2))*1))=some (O F)/\∃b:bP,(0<=(i64.wrap (t1 - 7):Int)/\(i64.wrap (t1 - 7):Int)<((64:Nat):Int))/\b 12 (((vA g).add (Int.toNat (i64.wrap (t1 - 7))*1)).block)/\∃S0:Int,f.drew.cell? ((vA g).add (Int.toNat (i64.wrap (t1 - 7))*1))=some (O S0)/\(0<=(i64.wrap (t1 - 16):Int)/\(i64.wrap (t1 - 16):Int)<((64:Nat):Int))/\b 26 (((vA g).add (Int.toNat (i64.wrap (t1 - 16))*1)).block)/\∃bd:Int,f.drew.cell? ((vA g).add (Int.toNat (i64.wrap (t1 - 16))*1))=some (O bd)/\Calls prog 129 #[O F,(.int .u64 17)] f.drew λe q=>∃T4:Int,e=.returned (O T4)/\Kept (bD b [0,3,6,7,9,10,11,12,14,16,19,20,23,24,25,26]) f.drew q/\∃l:bP,(∀i k,b i k->l i k)/\Calls prog 129 #[O F,(.int .u64 19)] q λe z=>∃S2:Int,e=.returned (O S2)/\Kept (bD l [0,6,7,9,10,11,12,14,16,19,20,23,24,25,26]) q z/\∃s:bP,(∀i k,l i k->s i k)/\Calls prog 129 #[O D,(.int .u64 7)] z λe c=>∃bf:Int,e=.returned (O bf)/\Kept (bD s [0,5,6,7,8,9,10,11,12,13,16,19,20,23,24,25,26]) z c/\∃A:bP,(∀i k,s i k->A i k)/\Calls prog 129 #[O D,(.int .u64 18)] c λe d=>∃bg:Int,e=.returned (O bg)/\Kept (bD A [0,1,5,6,7,8,9,10,11,12,13,19,20,23,24,25,26]) c d/\∃o:bP,(∀i k,A i k->o i k)/\(0<=(t1:Int)/\(t1:Int)<((64:Nat):Int))/\aF d ((vA g).add (Int.toNat t1*1)) [O (u32.wrap ((u32.wrap ((u32.wrap ((u32.wrap (BitVec.ofInt u32.bits (u32.wrap (BitVec.ofInt u32.bits T4 ^^^ BitVec.ofInt u32.bits S2).toNat) ^^^ BitVec.ofInt u32.bits ((F:Int).fdiv (2 ^ 10))).toNat)+S0))+(u32.wrap (BitVec.ofInt u32.bits (u32.wrap (BitVec.ofInt u32.bits bf ^^^ BitVec.ofInt u32.bits bg).toNat) ^^^ BitVec.ofInt u32.bits ((D:Int).fdiv (2 ^ 3))).toNat)))+bd))] λj=>∃B:bP,(∀i k,o i k->B i k)/\∀t2:Int,t2=(i64.wrap (t1+1))->∃y,y<m/\I y t2 j)) (∃bh bk bl bm bs bt bx bA:Int,aL f (vA C) 0 [O bh,O bk,O bl,O bm,O bs,O bt,O bx,O bA]/\∀(a:Nat)(q:World),a=f.heap.size->q=f.alloc (.cells (z8a) 24)->aF q (vA a) (q8l bh bk bl bm bs bt bx bA) λz=>∀t2:Int,t2=0->∃Q:Nat->Int->World->Prop,(∃G,Q G t2 z)/\∀(G:Nat)(cL:Nat->Value)(t3:Int),∀c,Q G t3 c->split (decide ((t3:Int)<64)) ((0<=(0:Int)/\(0:Int)<((8:Nat):Int))/\∃v:Int,c.cell? ((vA a).add (Int.toNat 0*1))=some (O v)/\(0<=(4:Int)/\(4:Int)<((8:Nat):Int))/\∃x:Int,c.cell? ((vA a).add (Int.toNat 4*1))=some (O x)/\∃b:bP,(0<=(7:Int)/\(7:Int)<((8:Nat):Int))/\b 1 (((vA a).add (Int.toNat 7*1)).block)/\∃bB:Int,c.drew.cell? ((vA a).add (Int.toNat 7*1))=some (O bB)/\(0<=(5:Int)/\(5:Int)<((8:Nat):Int))/\b 13 (((vA a).add (Int.toNat 5*1)).block)/\∃ZC:Int,c.drew.cell? ((vA a).add (Int.toNat 5*1))=some (O ZC)/\(0<=(6:Int)/\(6:Int)<((8:Nat):Int))/\b 18 (((vA a).add (Int.toNat 6*1)).block)/\∃bC:Int,c.drew.cell? ((vA a).add (Int.toNat 6*1))=some (O bC)/\(0<=(t3:Int)/\(t3:Int)<((64:Nat):Int))/\b 24 (((vA 1).add (Int.toNat t3*1)).block)/\∃Ri:Int,c.drew.cell? ((vA 1).add (Int.toNat t3*1))=some (O Ri)/\(0<=(t3:Int)/\(t3:Int)<((64:Nat):Int))/\b 28 (((vA g).add (Int.toNat t3*1)).block)/\∃bF:Int,c.drew.cell? ((vA g).add (Int.toNat t3*1))=some (O bF)/\Calls prog 129 #[O x,(.int .u64 6)] c.drew λe d=>∃bH:Int,e=.returned (O bH)/\Kept (bD b [0,1,4,7,11,12,13,14,15,16,17,18,19,20,22,23,24,26,27,28]) c.drew d/\∃l:bP,(∀i k,b i k->l i k)/\Calls prog 129 #[O x,(.int .u64 11)] d λe j=>∃bN:Int,e=.returned (O bN)/\Kept (bD l [0,1,7,11,12,13,14,15,16,17,18,19,20,22,23,24,26,27,28]) d j/\∃s:bP,(∀i k,l i k->s i k)/\Calls prog 129 #[O x,(.int .u64 25)] j λe u=>∃OY:Int,e=.returned (O OY)/\Kept (bD s [0,1,6,11,12,13,14,15,16,17,18,19,20,22,23,24,26,27,28]) j u/\∃A:bP,(∀i k,s i k->A i k)/\∀t11:Int,t11=(u32.wrap ((u32.wrap ((u32.wrap ((u32.wrap (bB+(u32.wrap (BitVec.ofInt u32.bits (u32.wrap (BitVec.ofInt u32.bits bH ^^^ BitVec.ofInt u32.bits bN).toNat) ^^^ BitVec.ofInt u32.bits OY).toNat)))+(u32.wrap (BitVec.ofInt u32.bits (u32.wrap (BitVec.ofInt u32.bits x &&& BitVec.ofInt u32.bits ZC).toNat) ^^^ BitVec.ofInt u32.bits (u32.wrap (BitVec.ofInt u32.bits (u32.wrap (BitVec.ofInt u32.bits (if u32.signed then -1 else u32.max) ^^^ BitVec.ofInt u32.bits x).toNat) &&& BitVec.ofInt u32.bits bC).toNat)).toNat)))+Ri))+bF))->∃o:bP,(0<=(1:Int)/\(1:Int)<((8:Nat):Int))/\o 10 (((vA a).add (Int.toNat 1*1)).block)/\∃b0:Int,u.drew.cell? ((vA a).add (Int.toNat 1*1))=some (O b0)/\(0<=(2:Int)/\(2:Int)<((8:Nat):Int))/\o 14 (((vA a).add (Int.toNat 2*1)).block)/\∃Yf:Int,u.drew.cell? ((vA a).add (Int.toNat 2*1))=some (O Yf)/\(0<=(1:Int)/\(1:Int)<((8:Nat):Int))/\o 18 (((vA a).add (Int.toNat 1*1)).block)/\∃b8:Int,u.drew.cell? ((vA a).add (Int.toNat 1*1))=some (O b8)/\(0<=(2:Int)/\(2:Int)<((8:Nat):Int))/\o 20 (((vA a).add (Int.toNat 2*1)).block)/\∃b9:Int,u.drew.cell? ((vA a).add (Int.toNat 2*1))=some (O b9)/\Calls prog 129 #[O v,(.int .u64 2)] u.drew λe S=>∃ca:Int,e=.returned (O ca)/\Kept (bD o [2,5,8,9,10,11,12,13,14,15,16,17,18,19,20,21,22]) u.drew S/\∃B:bP,(∀i k,o i k->B i k)/\Calls prog 129 #[O v,(.int .u64 13)] S λe T=>∃cb:Int,e=.returned (O cb)/\Kept (bD B [5,8,9,10,11,12,13,14,15,16,17,18,19,20,21,22]) S T/\∃V:bP,(∀i k,B i k->V i k)/\Calls prog 129 #[O v,(.int .u64 22)] T λe p=>∃cc:Int,e=.returned (O cc)/\Kept (bD V [4,8,9,10,11,12,13,14,15,16,17,18,19,20,21,22]) T p/\∃b7:bP,(∀i k,V i k->b7 i k)/\∀t21:Int,t21=(u32.wrap ((u32.wrap (BitVec.ofInt u32.bits (u32.wrap (BitVec.ofInt u32.bits ca ^^^ BitVec.ofInt u32.bits cb).toNat) ^^^ BitVec.ofInt u32.bits cc).toNat)+(u32.wrap (BitVec.ofInt u32.bits (u32.wrap (BitVec.ofInt u32.bits (u32.wrap (BitVec.ofInt u32.bits v &&& BitVec.ofInt u32.bits b0).toNat) ^^^ BitVec.ofInt u32.bits (u32.wrap (BitVec.ofInt u32.bits v &&& BitVec.ofInt u32.bits Yf).toNat)).toNat) ^^^ BitVec.ofInt u32.bits (u32.wrap (BitVec.ofInt u32.bits b8 &&& BitVec.ofInt u32.bits b9).toNat)).toNat)))->(0<=(0:Int)/\(0:Int)<((8:Nat):Int))/\∃Ye:Int,p.cell? ((vA a).add (Int.toNat 0*1))=some (O Ye)/\(0<=(1:Int)/\(1:Int)<((8:Nat):Int))/\∃ck:Int,p.cell? ((vA a).add (Int.toNat 1*1))=some (O ck)/\(0<=(2:Int)/\(2:Int)<((8:Nat):Int))/\∃cl:Int,p.cell? ((vA a).add (Int.toNat 2*1))=some (O cl)/\(0<=(3:Int)/\(3:Int)<((8:Nat):Int))/\∃cn:Int,p.cell? ((vA a).add (Int.toNat 3*1))=some (O cn)/\(0<=(4:Int)/\(4:Int)<((8:Nat):Int))/\∃ct:Int,p.cell? ((vA a).add (Int.toNat 4*1))=some (O ct)/\(0<=(5:Int)/\(5:Int)<((8:Nat):Int))/\∃Yd:Int,p.cell? ((vA a).add (Int.toNat 5*1))=some (O Yd)/\(0<=(6:Int)/\(6:Int)<((8:Nat):Int))/\∃cu:Int,p.cell? ((vA a).add (Int.toNat 6*1))=some (O cu)/\aF p (vA a) [O (u32.wrap (t11+t21)),O Ye,O ck,O cl,O (u32.wrap (cn+t11)),O ct,O Yd,O cu] λcD=>∀t4:Int,t4=(i64.wrap (t3+1))->∃m3,m3<G/\Q m3 t4 cD) (∀i:Int,i=0->∃W:Nat->Int->World->Prop,(∃H,W H i c)/\∀(H:Nat)(_gv7:Nat->Value)(i1:Int),∀d,W H i1 d->split (decide ((i1:Int)<8)) (∃b:bP,(0<=(i1:Int)/\(i1:Int)<((8:Nat):Int))/\b 3 (((vA a).add (Int.toNat i1*1)).block)/\∃cA:Int,d.drew.cell? ((vA a).add (Int.toNat i1*1))=some (O cA)/\(0<=(i1:Int)/\(i1:Int)<((8:Nat):Int))/\b 6 (((vA C).add (Int.toNat i1*1)).block)/\∃cC:Int,d.drew.cell? ((vA C).add (Int.toNat i1*1))=some (O cC)/\(0<=(i1:Int)/\(i1:Int)<((8:Nat):Int))/\aF d.drew ((vA a).add (Int.toNat i1*1)) [O (u32.wrap (cA+cC))] λj=>∃l:bP,(∀i k,b i k->l i k)/\∀i2:Int,i2=(i64.wrap (i1+1))->∃m5,m5<H/\W m5 i2 j) (∃ZS ZR ZQ ZP ZO ZN ZM ZL:Int,aL d (vA a) 0 [O ZS,O ZR,O ZQ,O ZP,O ZO,O ZN,O ZM,O ZL]/\aF d (vA L) (q8l ZS ZR ZQ ZP ZO ZN ZM ZL) λj=>∃Pa O9 Pj Ph Pg PB PA Pz:Int,aL j (vA L) 0 [O Pa,O O9,O Pj,O Ph,O Pg,O PB,O PA,O Pz]/\R (.agg (q8a Pa O9 Pj Ph Pg PB PA Pz)) j)))):Calls prog 97 #[(.agg (q8a Y Z aa ab ae af ah an)),(.agg (jG az aA aC a0 a1 a2 a3 a4 a5 a6 a7 a8 a9 ba bb bc))] w (cg R):=rvc [6,10,13,14,15] (aN (aN (.node none (aN (.node none (.node (some ⟨[(6,.one (.int .i64))],[6,7,8,16,17,18,19,20,21,22,23,24,25,26,27,28,29,30,31,32,33,34,35,36,37,38,39,40,41,42,43,44,45,46,47,48,49,50,51,52,53,54,55,56,57,58,59,60,61,62,63]⟩) .leaf .leaf) .leaf)) (aN (.node none (aN (.node none (.node (some ⟨[(10,.one (.int .i64))],[10,11,12,13,14,65,66,67,68,69,70,71,72,73,74,75,76,77,78,79,80,81,82,83,84,85,86,87,88,89,90,91,92,93,94,95,96,97,98,99,100,101,102,103,104,105,106,107,108,109,110,111,112,113,114,115,116,117,118,119,120,121,122,123,124,125,126,127,128,129,130,131,132,133,134,135,136,137,138,139,140,141,142,143,144,145,146]⟩) .leaf .leaf) .leaf)) (.node none (aN (.node none (.node (some ⟨[(15,.one (.int .i64))],[15,147,148,149,150,151,152,153,154,155,156,157,158,159]⟩) .leaf .leaf) .leaf)) .leaf)))))) Tryz.func97 h
theorem zo {R:bq}{w:World}(h:∀(a:Nat)(b:World),a=w.heap.size->b=w.alloc (.cells (z8a) 24)->aF b (vA a) (q8l 1779033703 3144134277 1013904242 2773480762 1359893119 2600822924 528734635 1541459225) λc=>∃d e f g i j k l:Int,aL c (vA a) 0 [O d,O e,O f,O g,O i,O j,O k,O l]/\R (.agg (q8a d e f g i j k l)) c):Calls prog 94 #[] w (cg R):=rvc [] (.leaf) Tryz.func94 h
theorem vH {R:bq}{w:World}(h:∀(a:Nat)(b:World),a=w.heap.size->b=w.alloc (.cells (z8a) 24)->aF b (vA a) (q8l 1779033703 3144134277 1013904242 2773480762 1359893119 2600822924 528734635 1541459225) λc=>∃d e f g i j k l:Int,aL c (vA a) 0 [O d,O e,O f,O g,O i,O j,O k,O l]/\R (.agg (q8a d e f g i j k l)) c):Calls prog 95 #[] w (cg R):=rvc [] (.leaf) Tryz.func95 h
theorem DG {R:bq}{w:World}(h:Calls prog 94 #[] w λe a=>∃b c d f g i j k:Int,e=.returned (.agg (q8a b c d f g i j k))/\∀(l:Nat)(o:World),l=a.heap.size->o=a.alloc (.cells #[O b,O c,O d,O f,O g,O i,O j,O k,J 0,(.slice none 0 0)] 168)->R (.pointer (pvA l)) o):Calls prog 64 #[] w (cg R):=rvc [] (.leaf) Tryz.func64 h
theorem DI(d v:oA)(bI x:Nat){R:bq}{w:World}(h:ay d λp8=>∃y:Int,w.cell? (p8.add 8)=some (J y)/\split (decide ((((bI:Nat):Int):Int)>(i64.wrap (36028797018963968 - y)))) (R (.tuple #[]) w) (ay d λRt=>∃z:Int,w.cell? (Rt.add 8)=some (J z)/\ay d λab=>aF w (ab.add 8) [J (i64.wrap (z+((bI:Nat):Int)))] λg=>∃b:bP,ay d λA=>b 3 ((A.add 9).block)/\∃s:oA,∃Zi B:Nat,g.drew.cell? (A.add 9)=some (.slice s Zi B)/\ay d λC=>b 7 ((C.add 9).block)/\∃ae:oA,∃o af:Nat,g.drew.cell? (C.add 9)=some (.slice ae o af)/\ay d λD=>b 12 ((D.add 9).block)/\∃ah:oA,∃a an:Nat,g.drew.cell? (D.add 9)=some (.slice ah a an)/\(0<=(((a:Nat):Int):Int)/\(((a:Nat):Int):Int)<=((B:Nat):Int))/\(0<=(((o:Nat):Int):Int)/\(((o:Nat):Int):Int)<=((Int.toNat ((a:Nat):Int):Nat):Int))/\∀F:oA,F=(if(Int.toNat ((a:Nat):Int))=0 then s else(s:oA).map (·.add (0*1)))->∀G:Nat,G=(Int.toNat ((o:Nat):Int)) - 0->∀H:Nat,H=(Int.toNat ((a:Nat):Int)) - 0->∃K:oA,∃L M:Nat,∃t,(Builtin.append_ #[31,31] 31 #[(.slice F G H),(.slice v bI x)]:Sem Value).run prog g.drew=.ok (.slice K L M) t/\Kept (bD b [0,1,4,5,6,9,10,11]) g.drew t/\∃b1:bP,(∀i k,b i k->b1 i k)/\∃I:Nat->Option Addr->Nat->Nat->World->Prop,(∃m,I m K L M t)/\∀(m:Nat)(PZ:Nat->Value)(j:oA)(c p:Nat),∀f,I m j c p f->split (decide ((((c:Nat):Int):Int)>=16)) (∃q:bP,ay d λQ=>q 4 ((Q.add 0).block)/\∃S T V W Y Z TR TQ:Int,aL f.drew (Q.add 0) 0 [O S,O T,O V,O W,O Y,O Z,O TR,O TQ]/\16<=c/\ay j λaa=>q 7 (aa.block)/\∃To Tn Tm Tl Tk Tj Ti Tg Wd Wc Wb Wa V9 V8 V7 V6:Int,aL f.drew aa 0 [O To,O Tn,O Tm,O Tl,O Tk,O Tj,O Ti,O Tg,O Wd,O Wc,O Wb,O Wa,O V9,O V8,O V7,O V6]/\Calls prog 96 #[(.agg (q8a S T V W Y Z TR TQ)),(.agg (jG To Tn Tm Tl Tk Tj Ti Tg Wd Wc Wb Wa V9 V8 V7 V6))] f.drew λe l=>∃RD RC RB RA Rz Ry Rx Rw:Int,e=.returned (.agg (q8a RD RC RB RA Rz Ry Rx Rw))/\Kept (bD q [0,1]) f.drew l/\∃b3:bP,(∀i k,q i k->b3 i k)/\ay d λaz=>aF l (az.add 0) (q8l RD RC RB RA Rz Ry Rx Rw) λu=>∃b4:bP,(∀i k,b3 i k->b4 i k)/\(0<=(16:Int)/\(16:Int)<=((c:Nat):Int))/\∀Wi:oA,Wi=(if p=(Int.toNat 16)then j else(j:oA).map (·.add ((Int.toNat 16)*1)))->∀Wg:Nat,Wg=c - (Int.toNat 16)->∀Wh:Nat,Wh=p - (Int.toNat 16)->∃m1,m1<m/\I m1 Wi Wg Wh u) (∃WZ:oA,∃WY Y9:Nat,∃l,(Builtin.append_ #[31,31] 31 #[(.slice none 0 0),(.slice j c p)]:Sem Value).run prog f=.ok (.slice WZ WY Y9) l/\ay d λaA=>aF l (aA.add 9) [(.slice WZ WY Y9)] λu=>R (.tuple #[]) u))):Calls prog 66 #[(.pointer d),(.slice v bI x)] w (cg R):=rvc [4] (aN (aN (aN (.node none (.node none (.node (some ⟨[(4,.one (.slice))],[4,39,40,41,42,43,44,45,46,47,48,49,50,51,52,53,54]⟩) .leaf .leaf) .leaf) .leaf)))) Tryz.func66 h
theorem BZ(d:oA){R:bq}{w:World}(h:∀(j:Nat)(l:World),j=w.heap.size->l=w.alloc (.cells (Array.replicate 26 (O 0)) 120)->∀(a:Nat)(o:World),a=l.heap.size->o=l.alloc (.cells (Array.replicate 26 (O 0)) 120)->∃b:bP,(0<=(8:Int)/\(8:Int)<=((26:Nat):Int))/\∀s:oA,s=(some (if 26=0 then Addr.mk a 0 none else(vA a).add (0*1)))->∀t:Nat,t=(Int.toNat 8) - 0->∀x:Nat,x=26 - 0->ay d λy=>∀z:oA,z=(some (if 8=0 then y.add 0 else(y.add 0).add (0*1)))->∀A:Nat,A=8 - 0->∀B:Nat,B=8 - 0->∃Y:Int,∃c,(Builtin.copy_ #[31,31] 3 #[(.slice s t x),(.slice z A B)]:Sem Value).run prog o.drew=.ok (J Y) c/\Kept (bD b [1]) o.drew c/\∃Z:bP,(∀i k,b i k->Z i k)/\∃f:bP,ay d λC=>f 3 ((C.add 8).block)/\∃D:Int,c.drew.cell? (C.add 8)=some (J D)/\ay d λF=>f 10 ((F.add 8).block)/\∃G:Int,c.drew.cell? (F.add 8)=some (J G)/\(0<=(8:Int)/\(8:Int)<((26:Nat):Int))/\aF c.drew ((vA a).add (Int.toNat 8*1)) [O (u32.wrap ((u64.wrap D:Int).fdiv (2 ^ 32)))] λH=>Kept (bD f [7,11]) c.drew H/\∃I:bP,(∀i k,f i k->I i k)/\(0<=(9:Int)/\(9:Int)<((26:Nat):Int))/\aF H ((vA a).add (Int.toNat 9*1)) [O (u32.wrap G)] λp=>∃b4:bP,(∀i k,I i k->b4 i k)/\∃q:bP,(0<=(10:Int)/\(10:Int)<=((26:Nat):Int))/\∀K:oA,K=(some (if 26=(Int.toNat 10)then Addr.mk a 0 none else(vA a).add ((Int.toNat 10)*1)))->∀L:Nat,L=26 - (Int.toNat 10)->∀M:Nat,M=26 - (Int.toNat 10)->ay d λQ=>q 4 ((Q.add 9).block)/\∃S:oA,∃T V:Nat,p.drew.cell? (Q.add 9)=some (.slice S T V)/\∃SE:Int,∃g,(Builtin.copy_ #[31,31] 3 #[(.slice K L M),(.slice S T V)]:Sem Value).run prog p.drew=.ok (J SE) g/\Kept (bD q [1]) p.drew g/\∃b6:bP,(∀i k,q i k->b6 i k)/\∃e:Array Value,(e.size=26/\∀i u,e[i]? =some u->g.cell? ((vA a).add i)=some u)/\e.size=26/\(∀v∈e.toList,one? v True)/\aF g (vA j) e.toList λW=>∃r0:Array Value,(r0.size=26/\∀i u,r0[i]? =some u->W.cell? ((vA j).add i)=some u)/\R (.agg r0) W):Calls prog 68 #[(.pointer d)] w (cg R):=rvc [] (.leaf) Tryz.func68 h
theorem zw {R:bq}{w:World}(h:∀(a:Nat)(b:World),a=w.heap.size->b=w.alloc (.cells (#[O 0,O 0,O 0,O 0,O 0,O 0,O 0,O 0,(.slice none 0 0),J 0]) 116)->Calls prog 95 #[] b λe D=>∃c d f g i j k l:Int,e=.returned (.agg (q8a c d f g i j k l))/\aF D (vA a) [O c,O d,O f,O g,O i,O j,O k,O l,(.slice none 0 0),J 0] λo=>∃p q s t u v x y:Int,∃z:oA,∃A B:Nat,∃C:Int,aL o (vA a) 0 [O p,O q,O s,O t,O u,O v,O x,O y,.slice z A B,J C]/\R (.agg #[O p,O q,O s,O t,O u,O v,O x,O y,(.slice z A B),J C]) o):Calls prog 65 #[] w (cg R):=rvc [] (.leaf) Tryz.func65 h
theorem wI(q db dc s t df x y:Int)(z:oA)(A B:Nat)(C:Int){R:bq}{w:World}(h:∀(b:Nat)(k:World),b=w.heap.size->k=w.alloc (.cells #[O q,O db,O dc,O s,O t,O df,O x,O y,(.slice z A B),J C] 116)->∀(l:Nat)(o:World),l=k.heap.size->o=k.alloc (.cells (Array.replicate 26 (O 0)) 120)->∀(c:Nat)(D:World),c=o.heap.size->D=o.alloc (.cells (Array.replicate 26 (O 0)) 120)->∀i:Int,i=0->∃I:Nat->Int->World->Prop,(∃m,I m i D)/\∀(m:Nat)(QI:Nat->Value)(i1:Int),∀d,I m i1 d->split (decide ((i1:Int)<8)) ((0<=(i1:Int)/\(i1:Int)<((8:Nat):Int))/\∃F:Int,d.cell? (((vA b).add 0).add (Int.toNat i1*1))=some (O F)/\(0<=(i1:Int)/\(i1:Int)<((26:Nat):Int))/\aF d ((vA c).add (Int.toNat i1*1)) [O F] λf=>∀i2:Int,i2=(i64.wrap (i1+1))->∃G,G<m/\I G i2 f) (∃H:Int,d.cell? ((vA b).add 9)=some (J H)/\(0<=(8:Int)/\(8:Int)<((26:Nat):Int))/\aF d ((vA c).add (Int.toNat 8*1)) [O (u32.wrap ((u64.wrap H:Int).fdiv (2 ^ 32)))] λf=>∃K:Int,f.cell? ((vA b).add 9)=some (J K)/\(0<=(9:Int)/\(9:Int)<((26:Nat):Int))/\aF f ((vA c).add (Int.toNat 9*1)) [O (u32.wrap (u64.wrap K))] λV=>∀i2:Int,i2=0->∃p:Nat->Int->World->Prop,(∃g,p g i2 V)/\∀(g:Nat)(Ql:Nat->Value)(i3:Int),∀a,p g i3 a->∃W:oA,∃L Y:Nat,a.cell? ((vA b).add 8)=some (.slice W L Y)/\split (decide ((i3:Int)<((L:Nat):Int))) (∃M:oA,∃Q Z:Nat,a.cell? ((vA b).add 8)=some (.slice M Q Z)/\(0<=(i3:Int)/\(i3:Int)<((Q:Nat):Int))/\ay M λaa=>∃S:Int,a.cell? (aa.add (Int.toNat i3*1))=some (O S)/\(0<=(i64.wrap (10+i3):Int)/\(i64.wrap (10+i3):Int)<((26:Nat):Int))/\aF a ((vA c).add (Int.toNat (i64.wrap (10+i3))*1)) [O S] λj=>∀i4:Int,i4=(i64.wrap (i3+1))->∃T,T<g/\p T i4 j) (∃e:Array Value,(e.size=26/\∀i u,e[i]? =some u->a.cell? ((vA c).add i)=some u)/\e.size=26/\(∀v∈e.toList,one? v True)/\aF a (vA l) e.toList λj=>∃r0:Array Value,(r0.size=26/\∀i u,r0[i]? =some u->j.cell? ((vA l).add i)=some u)/\R (.agg r0) j))):Calls prog 69 #[(.agg #[O q,O db,O dc,O s,O t,O df,O x,O y,(.slice z A B),J C])] w (cg R):=rvc [4,5] (aN (aN (.node none (aN (.node none (.node (some ⟨[(4,.one (.int .i64))],[4,6,7,8,9,10,11,12,13,14,15]⟩) .leaf .leaf) .leaf)) (aN (aN (.node none (aN (.node none (.node (some ⟨[(5,.one (.int .i64))],[5,27,28,29,30,31,32,33,34,35,36,37,38,39,40,41]⟩) .leaf .leaf) .leaf)) .leaf)))))) Tryz.func69 h
theorem zx(Q db dc S T df V W:Int)(Y:oA)(Z aa:Nat)(dj:Int)(ab:oA)(bI bb:Nat){R:bq}{w:World}(h:∀(f:Nat)(G:World),f=w.heap.size->G=w.alloc (.cells #[O Q,O db,O dc,O S,O T,O df,O V,O W,(.slice Y Z aa),J dj] 116)->∀(j:Nat)(g:World),j=G.heap.size->g=G.alloc (.cells (#[O 0,O 0,O 0,O 0,O 0,O 0,O 0,O 0,(.slice none 0 0),J 0]) 116)->∃Oe:Int,g.cell? ((vA f).add 9)=some (J Oe)/\split (decide ((((bI:Nat):Int):Int)>(i64.wrap (36028797018963968 - Oe)))) (∃PT PN Qg Qf Qe Sk Sj Si:Int,∃ae:oA,∃af ah:Nat,∃Um:Int,aL g (vA f) 0 [O PT,O PN,O Qg,O Qf,O Qe,O Sk,O Sj,O Si,.slice ae af ah,J Um]/\aF g (vA j) [O PT,O PN,O Qg,O Qf,O Qe,O Sk,O Sj,O Si,(.slice ae af ah),J Um] λa=>∃l o p q s t u v:Int,∃x:oA,∃y z:Nat,∃A:Int,aL a (vA j) 0 [O l,O o,O p,O q,O s,O t,O u,O v,.slice x y z,J A]/\R (.agg #[O l,O o,O p,O q,O s,O t,O u,O v,(.slice x y z),J A]) a) (∃Qd:oA,∃P0 Qo:Nat,g.cell? ((vA f).add 8)=some (.slice Qd P0 Qo)/\∃Uj:oA,∃Uh Ui:Nat,∃a,(Builtin.append_ #[31,31] 31 #[(.slice none 0 0),(.slice Qd P0 Qo)]:Sem Value).run prog g=.ok (.slice Uj Uh Ui) a/\∃XU XT XS XR XQ an az aA:Int,aL a ((vA f).add 0) 0 [O XU,O XT,O XS,O XR,O XQ,O an,O az,O aA]/\∃PS:Int,a.cell? ((vA f).add 9)=some (J PS)/\∀(d:Nat)(NV:World),d=a.heap.size->NV=a.alloc (.cells (#[O 0,O 0,O 0,O 0,O 0,O 0,O 0,O 0,(.slice none 0 0),J 0]) 116)->aF NV (vA d) [O XU,O XT,O XS,O XR,O XQ,O an,O az,O aA,(.slice none 0 0),J (i64.wrap (PS+((bI:Nat):Int)))] λNY=>∀i:Int,i=0->∃I:Nat->Option Addr->Nat->Nat->Int->World->Prop,(∃m,I m Uj Uh Ui i NY)/\∀(m:Nat)(QI:Nat->Value)(H:oA)(K L:Nat)(i1:Int),∀B,I m H K L i1 B->split (decide ((i1:Int)<((bI:Nat):Int))) ((0<=(i1:Int)/\(i1:Int)<((bI:Nat):Int))/\ay ab λbc=>∃T4:Int,B.cell? (bc.add (Int.toNat i1*1))=some (O T4)/\∀(QD:Nat)(C:World),QD=B.heap.size->C=B.alloc (.cells #[O T4] 23)->∃M:oA,∃F Xt:Nat,∃c,(Builtin.append_ #[31,31] 31 #[(.slice H K L),(.slice (pvA QD) 1 1)]:Sem Value).run prog C=.ok (.slice M F Xt) c/\split ((((F:Nat):Int):Int)==16) (∃b:bP,b 1 (((vA d).add 0).block)/\∃U6 U5 U4 U3 U2 U1 U0 UZ:Int,aL c.drew ((vA d).add 0) 0 [O U6,O U5,O U4,O U3,O U2,O U1,O U0,O UZ]/\16<=F/\ay M λaC=>b 4 (aC.block)/\∃Xi Xh Xg Xf Xe Xd Xc Xb a0 a1 a2 a3 a4 a5 a6 a7:Int,aL c.drew aC 0 [O Xi,O Xh,O Xg,O Xf,O Xe,O Xd,O Xc,O Xb,O a0,O a1,O a2,O a3,O a4,O a5,O a6,O a7]/\Calls prog 97 #[(.agg (q8a U6 U5 U4 U3 U2 U1 U0 UZ)),(.agg (jG Xi Xh Xg Xf Xe Xd Xc Xb a0 a1 a2 a3 a4 a5 a6 a7))] c.drew λe OI=>∃TX TW TV TU TT TS TR TQ:Int,e=.returned (.agg (q8a TX TW TV TU TT TS TR TQ))/\∃b1:bP,(∀i k,b i k->b1 i k)/\aF OI ((vA d).add 0) (q8l TX TW TV TU TT TS TR TQ) λO3=>∃b2:bP,(∀i k,b1 i k->b2 i k)/\∀i2:Int,i2=(i64.wrap (i1+1))->∃D,D<m/\I D none 0 0 i2 O3) (∀i2:Int,i2=(i64.wrap (i1+1))->∃D,D<m/\I D M F Xt i2 c)) (aF B ((vA d).add 8) [(.slice H K L)] λC=>∃RD RC RB RA Rz Ry Rx Rw:Int,∃a8:oA,∃a9 ba:Nat,∃Tf:Int,aL C (vA d) 0 [O RD,O RC,O RB,O RA,O Rz,O Ry,O Rx,O Rw,.slice a8 a9 ba,J Tf]/\aF C (vA j) [O RD,O RC,O RB,O RA,O Rz,O Ry,O Rx,O Rw,(.slice a8 a9 ba),J Tf] λc=>∃l o p q s t u v:Int,∃x:oA,∃y z:Nat,∃A:Int,aL c (vA j) 0 [O l,O o,O p,O q,O s,O t,O u,O v,.slice x y z,J A]/\R (.agg #[O l,O o,O p,O q,O s,O t,O u,O v,(.slice x y z),J A]) c))):Calls prog 67 #[(.agg #[O Q,O db,O dc,O S,O T,O df,O V,O W,(.slice Y Z aa),J dj]),(.slice ab bI bb)] w (cg R):=rvc [5,7] (aN (aN (aN (aN (aN (.node none (aN (.node none (.node (some ⟨[(5,.one (.slice)),(7,.one (.int .i64))],[5,7,27,28,29,30,31,32,33,34,35,36,37,38,39,40,41,42,43,44,45,46,47,48,49]⟩) .leaf .leaf) .leaf)) .leaf)))))) Tryz.func67 h
theorem D6(m:oA){R:bq}{w:World}(h:split m.isNone (R (.pointer none) w) (Calls prog 46 #[(.pointer m)] w λe u=>∃i:Int,e=.returned (J i)/\∃I:Nat->Int->World->Prop,(∃b,I b 0 u)/\∀(b:Nat)(x:Nat->Value)(c:Int),∀d,I b c d->split (decide ((c:Int)<i)) (Calls prog 51 #[J c] d λe f=>∃j:Bool,∃k:Int,e=.returned (.agg #[vB j,J k])/\Calls prog 50 #[(.pointer m),(.agg #[vB j,J k])] f λe a=>∃v:Int,e=.returned (J v)/\∃l,l<b/\I l (i64.wrap (c+1)) a) (Calls prog 46 #[(.pointer m)] d λe f=>∃g:Int,e=.returned (J g)/\∃o:oA,∃p q:Nat,∃a,(Instr.makeSlice 31 (J (i64.wrap (2*g))) (J (i64.wrap (2*g))):Sem Value).run prog f=.ok (.slice o p q) a/\∀(s:Nat)(t:World),s=a.heap.size->t=a.alloc (.cells #[(.pointer m),J 0,(.slice o p q)] 98)->R (.pointer (pvA s)) t))):Calls prog 17 #[(.pointer m)] w (cg R):=rvc [] (aN (aN (.node none (aN (.node none (.node (some ⟨[(8,.one (.int .i64))],[3,8,9,10,11,12,13,14,15]⟩) .leaf .leaf) .leaf)) .leaf))) Tryz.func17 h
theorem zO(d:oA){R:bq}{w:World}(h:ay d λy=>∃z:oA,∃f A:Nat,w.cell? (y.add 2)=some (.slice z f A)/\∃a:oA,∃c e:Nat,∃g,(Instr.makeSlice 31 (J (i64.wrap (1+((f:Nat):Int)))) (J (i64.wrap (1+((f:Nat):Int)))):Sem Value).run prog w=.ok (.slice a c e) g/\ay d λB=>∃o:Int,g.cell? (B.add 1)=some (J o)/\(0<=(0:Int)/\(0:Int)<((c:Nat):Int))/\ay a λC=>aF g (C.add (Int.toNat 0*1)) [O (u32.wrap o)] λj=>∃b:bP,(0<=(1:Int)/\(1:Int)<=((c:Nat):Int))/\∀p:oA,p=(if e=(Int.toNat 1)then a else(a:oA).map (·.add ((Int.toNat 1)*1)))->∀q:Nat,q=c - (Int.toNat 1)->∀s:Nat,s=e - (Int.toNat 1)->ay d λt=>b 5 ((t.add 2).block)/\∃u:oA,∃v x:Nat,j.drew.cell? (t.add 2)=some (.slice u v x)/\∃D:Int,∃l,(Builtin.copy_ #[31,31] 3 #[(.slice p q s),(.slice u v x)]:Sem Value).run prog j.drew=.ok (J D) l/\Kept (bD b [2]) j.drew l/\∃F:bP,(∀i k,b i k->F i k)/\R (.slice a c e) l):Calls prog 43 #[(.pointer d)] w (cg R):=rvc [] (.leaf) Tryz.func43 h
theorem vv(d:oA){R:bq}{w:World}(h:ay d λW=>∃k:Int,w.cell? (W.add 2)=some (J k)/\∀(l:Nat)(o:World),l=w.heap.size->o=w.alloc (.cells #[O (u32.wrap k)] 23)->∀p:Int,p=0->∃I:Nat->Option Addr->Nat->Nat->Int->World->Prop,(∃m,I m (pvA l) 1 1 p o)/\∀(m:Nat)(OX:Nat->Value)(g:oA)(i j:Nat)(a:Int),∀b,I m g i j a b->ay d λY=>∃Z:oA,∃q Qo:Nat,b.cell? (Y.add 1)=some (.slice Z q Qo)/\split (decide ((a:Int)<((q:Nat):Int))) (ay d λRj=>∃s:oA,∃t Wn:Nat,b.cell? (Rj.add 1)=some (.slice s t Wn)/\(0<=(a:Int)/\(a:Int)<((t:Nat):Int))/\ay s λaa=>∃u v x y:Int,∃z:Bool,aL b (aa.add (Int.toNat a*5)) 0 [J u,J v,J x,J y,vB z]/\Calls prog 88 #[(.agg #[J u,J v,J x,J y,vB z])] b λe A=>∃B C ab:Int,e=.returned (.tuple #[(.agg #[O B,O C]),J ab])/\∀(c:Nat)(D:World),c=A.heap.size->D=A.alloc (.cells (#[O 0,O 0]) 155)->aF D (vA c) [O B,O C] λf=>(0<=(0:Int)/\(0:Int)<((2:Nat):Int))/\∃F:Int,f.cell? ((vA c).add (Int.toNat 0*1))=some (O F)/\(0<=(1:Int)/\(1:Int)<((2:Nat):Int))/\∃G:Int,f.cell? ((vA c).add (Int.toNat 1*1))=some (O G)/\∀(H:Nat)(K:World),H=f.heap.size->K=f.alloc (.cells #[O F,O G] 23)->∃L:oA,∃M Q:Nat,∃S,(Builtin.append_ #[31,31] 31 #[(.slice g i j),(.slice (pvA H) 2 2)]:Sem Value).run prog K=.ok (.slice L M Q) S/\∀T:Int,T=(i64.wrap (a+1))->∃V,V<m/\I V L M Q T S) (R (.slice g i j) b)):Calls prog 44 #[(.pointer d)] w (cg R):=rvc [3,4] (aN (aN (.node none (aN (.node none (.node (some ⟨[(3,.one (.slice)),(4,.one (.int .i64))],[3,4,5,6,13,14,15,16,17,18,19,20,21,22,23,24,25,26,27,28,29,30,31,32,33,34,35,36,37,38,39]⟩) .leaf .leaf) .leaf)) .leaf))) Tryz.func44 h
theorem CA(m g:oA)(bI s:Nat){R:bq}{w:World}(h:∃p:Bool->World->Prop,(split m.isNone (p true w) (Calls prog 46 #[(.pointer m)] w λe a=>∃D:Int,e=.returned (J D)/\split ((((bI:Nat):Int):Int) !=(i64.wrap (1+(i64.wrap (2*D))))) (p true a) ((0<=(0:Int)/\(0:Int)<((bI:Nat):Int))/\ay g λTs=>∃F:Int,a.cell? (Ts.add (Int.toNat 0*1))=some (O F)/\p (decide ((F:Int)>64)) a)))/\∀(PZ:Nat->Value)(G:Bool),∀a,p G a->split G (R (.tuple #[(.pointer none),J 110]) a) (∃b:bP,(0<=(0:Int)/\(0:Int)<((bI:Nat):Int))/\ay g λH=>b 3 ((H.add (Int.toNat 0*1)).block)/\∃K:Int,a.drew.cell? (H.add (Int.toNat 0*1))=some (O K)/\∃L:oA,∃M Q:Nat,∃j,(Instr.makeSlice 31 (J (i64.wrap (((bI:Nat):Int) - 1))) (J (i64.wrap (((bI:Nat):Int) - 1))):Sem Value).run prog a.drew=.ok (.slice L M Q) j/\Kept (bD b [0,1,2,3,4]) a.drew j/\∃t:bP,(∀i k,b i k->t i k)/\∀(d:Nat)(l:World),d=j.heap.size->l=j.alloc (.cells #[(.pointer m),J (i64.wrap K),(.slice L M Q)] 98)->Kept (bD t [1,2,5,6]) j l/\∃b2:bP,(∀i k,t i k->b2 i k)/\∃u:bP,u 3 (((vA d).add 2).block)/\∃S:oA,∃T V:Nat,l.drew.cell? ((vA d).add 2)=some (.slice S T V)/\(0<=(1:Int)/\(1:Int)<=((bI:Nat):Int))/\∀W:oA,W=(if s=(Int.toNat 1)then g else(g:oA).map (·.add ((Int.toNat 1)*1)))->∀Y:Nat,Y=bI - (Int.toNat 1)->∀Z:Nat,Z=s - (Int.toNat 1)->∃a1:Int,∃v,(Builtin.copy_ #[31,31] 3 #[(.slice S T V),(.slice W Y Z)]:Sem Value).run prog l.drew=.ok (J a1) v/\Kept (bD u [0]) l.drew v/\∃b4:bP,(∀i k,u i k->b4 i k)/\Calls prog 91 #[(.pointer (pvA d))] v λe NY=>∃aa:Int,e=.returned (J aa)/\∃I:Nat->Int->World->Prop,(∃q,I q 0 NY)/\∀(q:Nat)(Pe:Nat->Value)(c:Int),∀f,I q c f->split (decide ((c:Int)<aa)) (∃x:oA,∃y z:Nat,f.cell? ((vA d).add 2)=some (.slice x y z)/\(0<=(i64.wrap (2*c):Int)/\(i64.wrap (2*c):Int)<=((y:Nat):Int))/\∀WZ:oA,WZ=(if z=(Int.toNat (i64.wrap (2*c)))then x else(x:oA).map (·.add ((Int.toNat (i64.wrap (2*c)))*1)))->∀WY:Nat,WY=y - (Int.toNat (i64.wrap (2*c)))->∀Y9:Nat,Y9=z - (Int.toNat (i64.wrap (2*c)))->2<=WY/\ay WZ λab=>∃WX WW:Int,(f.cell? (ab.add 0)=some (O WX)/\f.cell? (ab.add 1)=some (O WW))/\Calls prog 92 #[(.agg #[O WX,O WW])] f λe Oi=>∃ae af ah an:Int,∃az:Bool,∃WV:Int,e=.returned (.tuple #[(.agg #[J ae,J af,J ah,J an,vB az]),J WV])/\∀(A:Nat)(Ow:World),A=Oi.heap.size->Ow=Oi.alloc (.cells (#[J 0,J 0,J 0,J 0,vB false]) 107)->aF Ow (vA A) [J ae,J af,J ah,J an,vB az] λB=>∃C:Bool->World->Prop,(split ((WV:Int) !=0) (C true B) (∃aA:Int,B.cell? ((vA A).add 1)=some (J aA)/\Calls prog 55 #[(.pointer (pvA d)),J aA] B λe o=>∃aC:Bool,e=.returned (vB aC)/\C (!aC) o))/\∀(Ql:Nat->Value)(a0:Bool),∀o,C a0 o->split a0 (R (.tuple #[(.pointer none),J 110]) o) (∃m2,m2<q/\I m2 (i64.wrap (c+1)) o)) (R (.tuple #[(.pointer (pvA d)),J 0]) f))):Calls prog 70 #[(.pointer m),(.slice g bI s)] w (cg R):=rvc [] (aN (.node none (.node none (.node (some ⟨[(26,.one (.bool))],(rgN 10 17)⟩) .leaf .leaf) .leaf) (aN (aN (.node none (aN (.node none (.node (some ⟨[(47,.one (.int .i64))],[4,5,7,8,9,47,48,49,50,51,52,53,54,55,56,57,58,59,60,61,62,63,64,65,66,67,68,69,70,71,72]⟩) (aN (aN (.node none (.node none (aN (aN (.node none (.node (some ⟨[(71,.one (.bool))],(rgN 63 9)⟩) .leaf .leaf) .leaf))) .leaf) .leaf))) .leaf) .leaf)) .leaf))))) Tryz.func70 h
namespace Mem
def dI(m:Mem):Nat->Mem
 |0=>m
 |k+1=>(dI m k).zero true k
theorem KK(m:Mem)(s:Bool)(p:Int):(m.zero s p).S=m.S:=by unfold zero;split<;>rfl
theorem KL(m:Mem)(s:Bool)(p:Int):(m.zero s p).I=m.I:=by unfold zero;split<;>rfl
@[simp] theorem mW(m:Mem):∀k,(m.dI k).S=m.S
 |0=>rfl
 |k+1=>by rw[dI,KK,mW m k]
@[simp] theorem IS(m:Mem):∀k,(m.dI k).I=m.I
 |0=>rfl
 |k+1=>by rw[dI,KL,IS m k]
theorem tB(m:Mem){p:Int}(h:0<=p/\p<9000000000000000000):m.dI (i64.wrap (p+1)).toNat=(m.dI p.toNat).zero true p:=by
 rw[av (by omega),show(p+1).toNat=p.toNat+1 by omega,dI,show((p.toNat:Nat):Int)=p by omega]
end Mem
def DB.new(m:Mem):DB:=⟨m.dI m.S,0,λ_=>.free⟩
theorem DB.AS(m:Mem):(DB.new m).S=m.S:=m.mW _
theorem DB.ot(m:Mem)(h:1<=m.S):(DB.new m).Ok:=⟨λp a=>⟨Ent.yR,by show(0:Int)<((DB.new m).S:Nat);rw[DB.AS];omega⟩,by show(0:Int)<=0/\(0:Int)<=64;omega⟩
def DB.ws(D:DB):List Int:=(List.range D.S).flatMap λp=>[(D.ent p).w0,(D.ent p).w1]
theorem oY {α:Type}(f g:Nat->α):∀n,((List.range n).flatMap λp=>[f p,g p]).length=2*n
 |0=>rfl
 |n+1=>by rw[List.range_succ,List.flatMap_append,List.length_append,oY f g n];simp;omega
theorem Ec {α:Type}(f g:Nat->α):∀n i,i<2*n->((List.range n).flatMap λp=>[f p,g p])[i]? =some (if i % 2=0 then f (i / 2)else g (i / 2))
 |0,i,h=>by omega
 | n+1,i,h=>by
  rw[List.range_succ,List.flatMap_append];by_cases hi:i<2*n
  ·rw[List.getElem?_append_left (by rw[oY];exact hi),Ec f g n i hi]
  ·rw[List.getElem?_append_right (by rw[oY];omega),oY];by_cases c:i=2*n
   ·subst c;have a:2*n % 2=0:=by omega
    have b:2*n / 2=n:=by omega
    simp[a,b]
   ·have:i=2*n+1:=by omega
    subst this;have a:(2*n+1) % 2=1:=by omega
    have b:(2*n+1) / 2=n:=by omega
    simp[a,b]
theorem DB.tD(D:DB):D.ws.length=2*D.S:=oY _ _ _
theorem DB.words_eq(D:DB):D.words=D.aO::D.ws:=rfl
theorem DBP.ints {w:World}{L:gG}{D:DB}(h:DBP w L D):eE w (λk=>k=L.a) .u32 (some (Addr.mk L.a 0 none)) D.n2 D.n2 D.ws:=by
 obtain⟨T,cs,d,hs,e⟩:=h.ws;refine eE.blk (Z:=λk=>k=L.a) (m:=0) d rfl (Nat.le_refl _) (D.tD) λj x b=>?_;have f:j<2*D.S:=by rw[<-D.tD];exact(List.getElem?_eq_some_iff.1 b).1
 have g:=Ec (λp=>(D.ent p).w0) (λp=>(D.ent p).w1) D.S j f;have a:D.ws[j]? =_:=g;rw[b]at a;injection a with a
 have c:=e (j / 2) (by omega);rw[Nat.zero_add,a];split
 ·have:=c.1
  rwa[show 2*(j / 2)=j by omega]at this
 ·have:=c.2
  rwa[show 2*(j / 2)+1=j by omega]at this
theorem DB.lay {D:DB}{n:Nat}(a:n=1+2*D.S):il ((List.replicate n 0).set 0 D.aO) 1 (D.ws.take (min (2*D.S) (n - 1)))=D.words:=by
 subst a;rw[List.take_of_length_le (by rw[D.tD];omega),show 1+2*D.S=(2*D.S)+1 by omega,List.replicate_succ,List.set_cons_zero];have:=tX [D.aO] D.ws [] (List.replicate (2*D.S) 0) (by rw[D.tD];simp);simpa[D.words_eq]using this
theorem DB.gX(D:DB):D.words.length=1+2*D.S:=by rw[D.words_eq,List.length_cons,D.tD];omega
theorem DB.CF {D:DB}{l:List U32}{p:Int}(d:l=(D.aO::(List.range p.toNat).flatMap λp=>[(D.ent p).w0,(D.ent p).w1]).map uM)(h:0<=p/\p<64)(c:(D.at_ p).ok=true){a b:Int}(e:a=if(D.at_ p).ok then(D.at_ p).w0 else 0)(f:b=if(D.at_ p).ok then(D.at_ p).w1 else 0):
 l++List.map uM [a,b]=(D.aO::(List.range (i64.wrap (p+1)).toNat).flatMap λp=>[(D.ent p).w0,(D.ent p).w1]).map uM:=by
 rw[av (by omega),show(p+1).toNat=p.toNat+1 by omega,List.range_succ,List.flatMap_append,<-List.cons_append,List.map_append,<-d,e,f,if_pos c,if_pos c];simp[DB.at_]
def DB.Ho(D:DB)(s:Int)(n:Nat):List I64:=((List.range n).filter (D.Jw s)).map fun(p:Nat)=>I64.mk (p:Int)
def DB.wd(l:List U32)(i:Nat):Int:=(l.getD i ⟨0⟩).v
def DB.load(m:Mem)(l:List U32):DB:=⟨m,DB.wd l 0,λp=>Ent.dec (DB.wd l (1+2*p)) (DB.wd l (2+2*p))⟩
def DB.iZ(m:Mem)(l:List U32)(p:Nat):Bool:=Ent.eJ (DB.wd l (1+2*p)) (DB.wd l (2+2*p))==0 && decide ((Ent.dec (DB.wd l (1+2*p)) (DB.wd l (2+2*p))).owner<m.S)
def DB.bK(m:Mem)(l:List U32):Int:=
 if l.length≠1+2*m.S then 110 else if DB.wd l 0>64 then 110 else if(List.range m.S).all (DB.iZ m l)then 0 else 110
theorem DB.yJ {m:Mem}{l:List U32}(hw:∀x∈l,0<=x.v/\x.v<4294967296)(h:DB.bK m l=0):(DB.load m l).Ok:=by
 unfold DB.bK at h;split at h
 ·omega
 rename_i f;split at h
 ·omega
 rename_i b;split at h
 ·rename_i c;refine⟨λp d=>?_,?_⟩
  ·have hq:=List.all_eq_true.1 c p (List.mem_range.2 d);simp only[DB.iZ,Bool.and_eq_true,beq_iff_eq,decide_eq_true_eq]at hq;exact⟨(Ent.iE hq.1).1,hq.2⟩
  ·have a:0<l.length:=by omega
   have:=hw _ (List.getElem_mem a);have e:DB.wd l 0=l[0].v:=by unfold DB.wd;rw[List.getD_eq_getElem?_getD,List.getElem?_eq_getElem a];rfl
   show 0<=DB.wd l 0/\DB.wd l 0<=64;rw[e]at b ⊢;omega
 ·omega
theorem Eg {n:Nat}{v:Value}{i:Nat}(h:i<n):(Array.replicate n v)[i]? =some v:=by simp[h]
end Go.Proofs.YtbcmefndjggkpaaGreatDoor
