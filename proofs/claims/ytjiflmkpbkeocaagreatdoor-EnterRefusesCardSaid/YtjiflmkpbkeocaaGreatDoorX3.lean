/- EnterRefuses returns true for every input: which calls of a thread are taken, and why the others are not, by the entries alone; each argument reads behind the call as it read before; what the listed variables read as is tied to the program's text. -/
import Derived.Test.YtjiflmkpbkeocaaGreatDoorX2
import Derived.KernelRfl
set_option linter.unusedVariables false
set_option linter.unusedSimpArgs false
set_option maxRecDepth 100000
set_option maxHeartbeats 1000000
namespace Go.Proofs.YtjiflmkpbkeocaaGreatDoor
open Go.Proofs.Tryz (prog)
namespace V
open Go Go.RowKit
open Go.IntKind (i64 u32 u64 wrap_i64 wrap_u32)
section
section
variable {U:Uni}{P:Program}{tbl:Tb U}{may:List Nat}{k0:Nat}
variable {w0:World}{X0 X:Nat->Nat->Prop}{w:World}{fr:Fr}{st:St U}{n:Nat}{N:List Nat}{ops:Array Oper}
def MSw(P:Program):Pg:=λB o ρ w F=>∃v,F v/\∀w',Kept (held B w) w w'->(execOp ρ o).run P w'=.ok (.value v) w'
theorem xW {F G:Nat->Prop}:∀ {l:List Nat},DA F l->(∀i,F i->G i)->DA G l
 | [],_,_=>trivial
 | [_],h,a=>a _ h
 |_::j::r,h,a=>⟨a _ h.1,xW (l:=j::r) h.2 a⟩
theorem BC {b:Nat->Nat->Prop}:∀ {l:List Nat}{k:Nat},bY b l k->∃i,i∈l/\b i k
 | [i],k,h=>⟨i,by simp,h⟩
 | i::j::r,k,h=>by
  rcases h with h|h
  ·exact⟨i,by simp,h⟩
  ·obtain⟨a,c,d⟩:=BC (l:=j::r) h;exact⟨a,List.mem_cons_of_mem _ c,d⟩
theorem HU {α:Type}(M L:List α):j4 ((M++L).length - L.length) (M++L)=M:=by
 rw[eH,List.length_append,Nat.add_sub_cancel,List.take_left]
theorem OR {rs:List (Res U)}{p:PK}{v:Value}(h:den U rs p=some v):p.id<rs.length:=by
 unfold den at h;cases a:nth rs p.id with
 |none=>rw[a]at h;cases p<;>simp[cl]at h
 |some r=>exact aX a
theorem BOk.step {V:List Nat}{rd:List (Nat×List Nat)}{b:Nat->Nat->Prop}(hb:BOk V rd b st.rs X w){st':St U}{f:Nat->Nat->Prop}{w':World}{M:List Nat}(hs:eg w0 k0 X0 may fr st X w st' f w' M):
 BOk V rd (λi k=>b i k\/∃id,id∈sm i rd/\id<st'.rs.length/\f id k) st'.rs f w':=by
 refine⟨λi id k l d e=>.inr ⟨id,l,d,e⟩,λi k h=>.inl (hb.all i k h),λi k hi o=>?_⟩;rcases o with o|⟨id,l,d,e⟩
 ·obtain⟨x,t⟩:=hb.only i k hi o;refine⟨Nat.lt_of_lt_of_le x hs.ch.size,λj p q a=>?_⟩;by_cases c:j<st.rs.length
  ·by_cases hm:j∈M
   ·rcases hs.grow j hm k a with u|u
    ·exact t j c (hs.rwm j hm) u
    ·omega
   ·rw[(hs.same j c hm).2]at a;exact t j c (by rw[<-dW (hs.same j c hm).1];exact q) a
  ·have:=hs.new j (Nat.le_of_not_lt c) p k a;omega
 ·refine⟨hs.inv.sat.lt d k e,λj p q a=>?_⟩;by_cases v:id=j
  ·rw[<-v];exact l
  ·exact absurd a (hs.inv.sat.gX id j d p v (by rw[q,Bool.or_true]) k e)
theorem Dx {V:List Nat}{rd:List (Nat×List Nat)}{M a:List Nat}(h:Dy V rd M a=true):∀i,i∈a->i ∉ V/\∀j,j∈M->j ∉ sm i rd:=by
 intro i hi;have:=cx.1 h i hi;simp only[Bool.and_eq_true,Bool.not_eq_true']at this;refine⟨λc=>?_,λj d e=>?_⟩
 ·rw[gh.2 c]at this;cases this.1
 ·have b:=cx.1 this.2 j d;rw[gh.2 e]at b;cases b
theorem BOk.kept {V:List Nat}{rd:List (Nat×List Nat)}{b:Nat->Nat->Prop}(hb:BOk V rd b st.rs X w){st':St U}{d:Nat->Nat->Prop}{w':World}{M:List Nat}(hs:eg w0 k0 X0 may fr st X w st' d w' M){c:List Nat}(h:Dy V rd M c=true):Kept (bY b c) w w':=by
 refine hs.ch.kept.mono λk e=>?_;obtain⟨i,hi,f⟩:=BC e;obtain⟨l,o⟩:=Dx h i hi;obtain⟨p,q⟩:=hb.only i k l f;exact⟨p,fun⟨j,a,t⟩=>o j a (q j (hs.mlt j a) (hs.rwm j a) t)⟩
theorem Ln {o:Oper}{kn:List (Key×Kn)}{x:Nat}(h:rdX o kn X x):∃t a p,o.op=.load t a/\kf kn a=some (.p p)/\X p.id x:=by
 unfold rdX at h;cases c:o.op<;>simp only[c]at h
 rename_i t a;cases b:V.kf kn a with
 |none=>simp only[b]at h
 |some k=>cases k<;>simp only[b]at h;exact⟨t,a,_,rfl,b,h⟩
theorem HR {all:Bool}{V:List Nat}{rd:List (Nat×List Nat)}{K:Fr->St U->Prop}(SS:∀f c,tbl.c f=some c->LV U P f c/\bE P f=true):
 ∀(fuel:Nat)(listed:Array Bool)(fr:Fr)(st0 st:St U)(d X:Nat->Nat->Prop)(w:World)(ds:List Deferred)(b:Nat->Nat->Prop),(all=false->BOk V rd b st.rs X w)->(all=true->∀i k,b i k)->Steps w0 k0 X0 may st0 d st X w->aG st.rs fr st.kn->fr.ds=ds->
  wq U P tbl may k0 n N ops all V rd K fuel listed fr st->
  td P (λo ρ w K=>opW P false none o ρ w K) (MSw P) n N ops (Aft w0 k0 X0 may st0 d ds K) fuel (some b) listed fr w:=by
 intro fuel
 induction fuel with
 | zero=>
  intro listed fr st0 st d X w ds b hb G hS e hd h;simp only[wq]at h;simp only[td];split at h
  ·rename_i H;try simp only[H]
   exact⟨st,X,hS,e,hd,h⟩
  ·exact h.elim
 | succ fuel O=>
  intro listed fr st0 st d X w ds b hb G hS e hd h;simp only[wq]at h;simp only[td];split at h
  ·rename_i H;try simp only[H]
   exact⟨st,X,hS,e,hd,h⟩
  ·rename_i i0 r0 H;try simp only[H]
   split at h
   ·rename_i i af;try simp only[af]
    split at h
    ·rename_i o Q;try simp only[Q]
     refine mR h (λR j l hq=>?_) (λR j l h=>?_)
     ·have I:=e.same j;clear h;have h:=hq;clear hq;cases S:Jg o with
      |true=>simp only[S]at h
      |false=>
      cases F:NV all V rd i o st.kn with
      |false=>simp only[S,F]at h
      | true=>
       simp only[S,F]at h;obtain⟨v,k,q,T,u⟩:=xD hS.inv.sat I h;refine⟨v,?_,λw' hw=>u w' (hw.mono λx Y=>?_)⟩
       ·refine jG (kO q I T) λy hp=>?_;obtain⟨z,e1,A,B,C,D⟩:=hp;exact O _ y st0 z d X w ds b (by rw[e1];exact hb) G (hS.kn e1 A) (by rw[e1];exact B) (by rw[C,l,hd]) D
       ·show b i x;obtain⟨t,a,p,ah,hp,Y⟩:=Ln Y;unfold NV at F;simp only[ah,hp]at F;by_cases J:all=true
        ·exact G J i x
        have hb:=hb (by simpa using J);split at F
        ·rename_i L;rcases Bool.or_eq_true_iff.1 L with L|L
         ·exact absurd L J
         ·exact hb.all i x (gh.1 L)
        ·have aa:=I.kf a;rw[hp]at aa;exact hb.has i p.id x (gh.1 F) (OR (show den U st.rs p=some _ from aa)) Y
     ·refine jG (kO h (e.same j) trivial) λy hp=>?_;obtain⟨z,e1,A,B,C,D⟩:=hp;exact O _ y st0 z d X w ds b (by rw[e1];exact hb) G (hS.kn e1 A) (by rw[e1];exact B) (by rw[C,l,hd]) D
    ·exact h.elim
   ·split at h
    ·exact h.elim
    ·rename_i an _;try simp only[an]
     refine xW h λi h=>?_;split at h
     ·rename_i o Q;try simp only[Q]
      refine mR h (λR j l h=>?_) (λR j l h=>?_)
      ·have I:=e.same j;refine uH (IG (E6 SS hS.inv I h) λch w' ⟨_,_,_,_,_,h,_⟩=>h.elim) λv w' hp=>?_;obtain⟨k,st',X',M,q,T,u⟩:=hp;have q:=EX q;split at q
       ·rename_i ab;rw[u.md,HU]at ab;refine jG (kO q u.kn T) λy hp=>?_;obtain⟨z,e1,A,B,C,D⟩:=hp;have hb:=hb rfl;have UR:=hb.step u;have ae:=O (listed.setIfInBounds i true) y st0 z d X' w' ds _ (λ_=>by rw[e1];exact UR) (λJ=>by cases J) ((hS.trans u.steps).kn e1 A) (by rw[e1];exact B) (by rw[C,l,hd]) D;unfold Fa;simp only;split
        ·exact⟨_,λi k Z=>.inl Z,ae⟩
        ·exact⟨hb.kept u ab,_,λi k Z=>.inl Z,ae⟩
       ·exact q.elim
      ·refine jG (kO h (e.same j) trivial) λy hp=>?_;obtain⟨z,e1,A,B,C,D⟩:=hp;exact O _ y st0 z d X w ds b (by rw[e1];exact hb) G (hS.kn e1 A) (by rw[e1];exact B) (by rw[C,l,hd]) D
     ·exact h.elim
variable (U P tbl may k0 w0 X0 n)in
def vI(c:Code)(V:QF2 U->Fr->St U->Prop):Prop:=∀(Q:QF2 U)(fr:Fr)(st:St U)(X:Nat->Nat->Prop)(a:Act)(w:World),Rep n fr a->Inv w0 k0 X0 may st.rs X w->aG st.rs fr st.kn->V Q fr st->c.wpIn (WF none) 0 P (oy n (writes c) a λx b w'=>Aft w0 k0 X0 may st X fr.ds (λb st'=>Q x b st') b w') a w
theorem Real.two {ws:List Nat}{a0:Act}{Q:QF}{e:Exit}{a':Act}{w':World}(h:Real n ws a0 none Q e a' w'):oy n ws a0 Q e a' w':=by
 cases e<;>first|exact h|exact h.1.elim
theorem oy.mono {ws a:List Nat}{a0:Act}{Q b:QF}{e:Exit}{a':Act}{w':World}(h:oy n ws a0 Q e a' w')(hw:∀i,i∈ws->i∈a)(c:∀x fr w,Q x fr w->b x fr w):oy n a a0 b e a' w':=by
 cases e<;>first|exact h|(obtain⟨fr,d,f,j⟩:=h;exact⟨fr,d,c _ _ _ f,j.mono hw⟩)
theorem Aft.mono {ds:List Deferred}{K a:Fr->St U->Prop}{b:Fr}{w':World}(h:Aft w0 k0 X0 may st X ds K b w')(c:∀fr st,K fr st->a fr st):Aft w0 k0 X0 may st X ds a b w':=by
 obtain⟨st',d,e,f,i,j⟩:=h;exact⟨st',d,e,f,i,c _ _ j⟩
theorem Aft.pre {a:St U}{b:Nat->Nat->Prop}{w1:World}{ds:List Deferred}{K:Fr->St U->Prop}{c:Fr}{w':World}(hs:Steps w0 k0 X0 may st X a b w1)(h:Aft w0 k0 X0 may a b ds K c w'):Aft w0 k0 X0 may st X ds K c w':=by
 obtain⟨st',d,e,f,i,j⟩:=h;exact⟨st',d,hs.trans e,f,i,j⟩
theorem wz {id:Nat}{Q:QF2 U}{a:Act}(i:∀f c,tbl.c f=some c->LV U P f c/\bE P f=true)(j:Rep n fr a)(hI:Inv w0 k0 X0 may st.rs X w)(k:aG st.rs fr st.kn)(h:FW U P tbl may k0 n N ops (Q .normal) (λch=>Q (.panic ch)) ops.toList fr st):
 (Code.region id ops false).wpIn (WF none) 0 P (oy n (writes (.region id ops false)) a λx b w'=>Aft w0 k0 X0 may st X fr.ds (λb st'=>Q x b st') b w') a w:=by
 have l:=tV (n:=n) (N:=N) (ops:=ops) i ops.toList fr st st X X w fr.ds (Steps.refl hI) k rfl h;exact wpIn_mono (wpIn_region_list (oC (ws:=writes (.region id ops false)) (a0:=a) ops.toList (λo p d hd=>List.mem_filterMap.2 ⟨o,p,hd⟩) fr a w j (Agr.refl _ _) l)) λe a' w' he=>by
  cases e<;>first|exact he|(obtain⟨_,_,h,_⟩:=he;exact h.elim)
theorem yG {id:Nat}{Q:QF2 U}{a:Act}{V:List Nat}{rd:List (Nat×List Nat)}(A:∀f c,tbl.c f=some c->LV U P f c/\bE P f=true)(hm:P.follows .mixedOrders=true)(hs:Region.noSelect ops=true)(B:fF ops.toList=true)(C:Rep n fr a)(hI:Inv w0 k0 X0 may st.rs X w)(b:aG st.rs fr st.kn){all:Bool}
 (h:wq U P tbl may k0 n N ops all V rd (Q .normal) ops.size (Array.replicate ops.size false) fr st):
 (Code.region id ops true).wpIn (WF none) 0 P (oy n (writes (.region id ops true)) a λx q w'=>Aft w0 k0 X0 may st X fr.ds (λq st'=>Q x q st') q w') a w:=by
 have t:=Inv.drew hI;have hS:Steps w0 k0 X0 may st X st X w.drew:=Steps.refl t;have D:=HR (n:=n) (N:=N) (ops:=ops) A ops.size (Array.replicate ops.size false) fr st st X X w.drew fr.ds (λi k=>i∈V\/all=true\/∃id,id∈sm i rd/\id<st.rs.length/\X id k) (λu=>⟨λi id k v l p=>.inr (.inr ⟨id,v,l,p⟩),λi k h=>.inl h,λi k hi b=>by
  rcases b with b|b|⟨id,v,l,p⟩
  ·exact absurd b hi
  ·rw[u]at b;cases b
  ·refine⟨t.sat.lt l k p,λj F G H=>?_⟩;by_cases z:id=j
   ·rw[<-z];exact v
   ·exact absurd H (t.sat.gX id j l F z (by rw[G,Bool.or_true]) k p)⟩) (λu i k=>.inr (.inl u)) hS b rfl h
 exact wpIn_mono (kF hm pW (λo y=>jS B o (Array.mem_toList_iff.2 y)) (tW (ws:=writes (.region id ops true)) (a0:=a) (Qp:=none) (M:=λo ρ w K=>opW P false none o ρ w K) (MS:=MSw P) (λ_ _ _ _ h=>h) (λ_ _ _ _ _ h=>h) hs (λi o y d hd=>uL y hd) ops.size _ (λ_ _ _=>True) _ fr a w.drew (js.none _ _) (oz.none _ _) C (Agr.refl _ _) D)) λe a' w' he=>Real.two (mG he)
end
end
section
section
variable {U:Uni}{P:Program}{tbl:Tb U}{may:List Nat}{k0:Nat}
variable {w0:World}{X0 X:Nat->Nat->Prop}{w:World}{fr:Fr}{st:St U}{n:Nat}{N:List Nat}{ops:Array Oper}
theorem z9 {T:Type}:∀ {l:List (Nat×Sh2)}{J:SlT l T}{fr:Fr}{F:T->Prop},NC l J fr F->∃b vs,F b/\(∀G:T->List (Nat×Value)->Prop,alS l J G->G b vs)/\∀s v,(s,v)∈vs->lk fr.g s fr.e=v
 | [],J,fr,F,h=>⟨J,[],h,λG c=>c,λs v a=>by cases a⟩
 | (s,sh)::r,J,fr,F,h=>by
  obtain⟨q,i,j⟩:=xS h;obtain⟨k,vs,o,p,d⟩:=z9 i;refine⟨k,(s,lk fr.g s fr.e)::vs,o,λG c=>p (λf vs=>G f ((s,lk fr.g s fr.e)::vs)) (j (λb v=>alS r b λf vs=>G f ((s,v)::vs)) c),λs' v a=>?_⟩;rcases List.mem_cons.1 a with e|a
  ·injection e with e1 d;rw[e1,d]
  ·exact d s' v a
def dY(kn:List (Key×Kn))(id:Nat):Nat->List AV->List Value->Prop
 |_,[],[]=>True
 |i,.v x::r,v::vs=>x=v/\dY kn id (i+1) r vs
 |i,.k p::r,_::vs=>cP (.c id i) kn=some (.p p)/\dY kn id (i+1) r vs
 |_,_,_=>False
theorem tY {T:Type}{id:Nat}{kn:List (Key×Kn)}:∀ {l:List CS}{J:CST l T}{i:Nat}{vs:List Value}{F:T->Prop},Cy id kn l J i vs F->∃f a,F f/\(∀G:T->List AV->Prop,Kk l J G->G f a)/\dY kn id i a vs/\∀n,ke n l=true->∀p,AV.k p∈a->p.id<n
 | [],J,i,[],F,h=>⟨J,[],h,λG c=>c,trivial,λ_ _ p hp=>by cases hp⟩
 | [],_,_,_::_,_,h=>h.elim
 |.v _::_,_,_,[],_,h=>h.elim
 |.k _::_,_,_,[],_,h=>h.elim
 | .v s::r,J,i,v::vs,F,h=>by
  obtain⟨z,t,u⟩:=qx h;obtain⟨j,a,k,o,d2,b2⟩:=tY t;refine⟨j,.v v::a,k,λG c=>o (λd vs=>G d (.v v::vs)) (u (λf v=>Kk r f λd l=>G d (.v v::l)) c),⟨rfl,d2⟩,λn b p hp=>?_⟩;rcases List.mem_cons.1 hp with e|hp
  ·cases e
  ·exact b2 n b p hp
 | .k p::r,J,i,v::vs,F,h=>by
  simp only[Cy]at h;split at h
  ·rename_i q hq;split at h
   ·rename_i he;obtain⟨j,a,k,o,d2,b2⟩:=tY h;refine⟨j,.k p::a,k,λG c=>o (λd vs=>G d (.k p::vs)) c,⟨by rw[hq,(Kn.oX he).1],d2⟩,λn b x hp=>?_⟩;simp only[ke]at b;split at b
    ·rename_i y;rcases List.mem_cons.1 hp with e|hp
     ·injection e with e;subst e;simpa[Nat.blt_eq]using y
     ·exact b2 n b x hp
    ·cases b
   ·exact h.elim
  ·exact h.elim
def UpD(rs:List (Res U))(kn:List (Key×Kn))(id:Nat):UP U->Prop
 |.ob t s=>∃r,nth rs id=some (.ob t r s)
 |.blk a=>∃g cs T,nth rs id=some (.blk g cs T)/\dY kn id 0 a cs
 |.lst t A c l=>∃own T,nth rs id=some (.lst t own T A c l)
theorem pG {T:Type}{rs:List (Res U)}{kn:List (Key×Kn)}:∀ {l:List (Nat×RSh)}{J:BR U l T}{F:T->Prop},tf rs kn l J F->∃y us,F y/\(∀G:T->List (Nat×UP U)->Prop,GX l J G->G y us)/\us.map (·.1)=l.map (·.1)/\(∀id u,(id,u)∈us->UpD rs kn id u)/\
 ∀n,fD n l=true->∀id u,(id,u)∈us->id<n/\∀b,u=.blk b->∀p,AV.k p∈b->p.id<n
 | [],J,F,h=>⟨J,[],h,λG d=>d,rfl,λid u hu=>(by cases hu),λ_ _ id u hu=>by cases hu⟩
 | (id,.ob t)::r,J,F,h=>by
  simp only[tf]at h;split at h
  ·rename_i k r' s o;split at h
   ·rename_i z;subst z;obtain⟨q,us,v,x,m2,d2,b2⟩:=pG h;refine⟨q,(id,.ob k s)::us,v,λG d=>x (λf vs=>G f ((id,.ob k s)::vs)) (d s),by simp[m2],λi u hu=>?_,λn hb i u hu=>?_⟩
    ·rcases List.mem_cons.1 hu with e|hu
     ·injection e with e1 a;subst e1;subst a;exact⟨r',o⟩
     ·exact d2 i u hu
    ·simp only[fD]at hb;split at hb
     ·rename_i j;rcases List.mem_cons.1 hu with e|hu
      ·injection e with e1 a;subst e1;subst a;exact⟨by simpa[Nat.blt_eq]using j,λb e=>by cases e⟩
      ·exact b2 n hb i u hu
     ·cases hb
   ·exact h.elim
  ·exact h.elim
 | (id,.blk l)::r,J,F,h=>by
  simp only[tf]at h;split at h
  ·rename_i g cs B o;obtain⟨H,b,C,D,d1,b1⟩:=tY h;obtain⟨q,us,v,x,m2,d2,b2⟩:=pG C;refine⟨q,(id,.blk b)::us,v,λG d=>x (λf vs=>G f ((id,.blk b)::vs)) (D (λy cs=>GX r y λf us=>G f ((id,.blk cs)::us)) d),by simp[m2],λi u hu=>?_,λn hb i u hu=>?_⟩
   ·rcases List.mem_cons.1 hu with e|hu
    ·injection e with e1 a;subst e1;subst a;exact⟨g,cs,B,o,d1⟩
    ·exact d2 i u hu
   ·simp only[fD]at hb;split at hb
    ·rename_i j;simp only[Bool.and_eq_true]at j;rcases List.mem_cons.1 hu with e|hu
     ·injection e with e1 a;subst e1;subst a
      exact⟨by simpa[Nat.blt_eq]using j.1,λI e p hp=>by injection e with e;subst e;exact b1 n j.2 p hp⟩
     ·exact b2 n hb i u hu
    ·cases hb
  ·exact h.elim
 | (id,.lst t)::r,J,F,h=>by
  simp only[tf]at h;split at h
  ·rename_i k own B A c l o;split at h
   ·rename_i z;subst z;obtain⟨q,us,v,x,m2,d2,b2⟩:=pG h;refine⟨q,(id,.lst k A c l)::us,v,λG d=>x (λf vs=>G f ((id,.lst k A c l)::vs)) (d A c l),by simp[m2],λi u hu=>?_,λn hb i u hu=>?_⟩
    ·rcases List.mem_cons.1 hu with e|hu
     ·injection e with e1 a;subst e1;subst a;exact⟨own,B,o⟩
     ·exact d2 i u hu
    ·simp only[fD]at hb;split at hb
     ·rename_i j;rcases List.mem_cons.1 hu with e|hu
      ·injection e with e1 a;subst e1;subst a;exact⟨by simpa[Nat.blt_eq]using j,λb e=>by cases e⟩
      ·exact b2 n hb i u hu
     ·cases hb
   ·exact h.elim
  ·exact h.elim
theorem yV {f:Nat->Res U->Option (Res U)}:∀ {i:Nat}{l l':List (Res U)},lay f i l=some l'->l'.length=l.length/\∀j r,nth l j=some r->∃r',f (i+j) r=some r'/\nth l' j=some r'
 | i,[],l',h=>by
  simp only[lay,Option.some.injEq]at h;subst h;exact⟨rfl,λj r b=>by simp[nth]at b⟩
 | i,r::l,l',h=>by
  simp only[lay]at h;split at h
  ·rename_i r' l2 c d;injection h with h
   subst h;obtain⟨e1,e⟩:=yV d;refine⟨by simp[e1],λj x a=>?_⟩;cases j with
   |zero=>simp[nth]at a;subst a;exact⟨r',c,rfl⟩
   | succ j=>
    obtain⟨y,k,o⟩:=e j x a;exact⟨y,by rw[show i+(j+1)=i+1+j by omega];exact k,o⟩
  ·cases h
theorem kH {i:Nat}{u:UP U}:∀ {us:List (Nat×UP U)},me i us=some u->(i,u)∈us
 | [],h=>by cases h
 | (j,x)::r,h=>by
  unfold me at h;split at h
  ·rename_i he;injection h with h
   rw[<-h,Nat.eq_of_beq_eq_true he];exact List.mem_cons_self ..
  ·exact List.mem_cons_of_mem _ (kH h)
theorem tZ {i:Nat}:∀ {us:List (Nat×UP U)},me i us=none->i ∉ us.map (·.1)
 | [],_=>by simp
 | (j,x)::r,h=>by
  unfold me at h;split at h
  ·cases h
  ·rename_i he;rw[List.map_cons,List.mem_cons,not_or];exact⟨by rintro rfl;simp at he,tZ h⟩
theorem rp {kn:List (Key×Kn)}{s:Nat}{k:Kn}:∀ {l:List (Nat×Kn)},Ff kn l=true->(s,k)∈l->∃p,k=.p p/\cP (.s s) kn=some (.p p)
 | [],_,h=>by cases h
 | (a,q)::r,h,hm=>by
  simp only[Ff]at h;split at h
  ·rename_i x c;split at h
   ·rename_i he;rcases List.mem_cons.1 hm with e|hm
    ·injection e with e1 d
     subst e1;subst d;obtain⟨f,p,b⟩:=Kn.oX he;exact⟨p,by rw[<-f,b],by rw[c,b]⟩
    ·exact rp h hm
   ·cases h
  ·cases h
theorem lJ {m s:Nat}{p:PK}:∀ {l:List (Nat×Kn)},qg m l=true->(s,Kn.p p)∈l->p.id<m
 | [],_,h=>by cases h
 | (a,.p q)::r,h,hm=>by
  simp only[qg]at h;split at h
  ·rename_i c;rcases List.mem_cons.1 hm with e|hm
   ·injection e with e1 b;injection b with b;subst b;simpa[Nat.blt_eq]using c
   ·exact lJ h hm
  ·cases h
 |(a,.t _)::r,h,_=>by cases h
 |(a,.ag _)::r,h,_=>by cases h
 |(a,.f _ _)::r,h,_=>by cases h
theorem uf {key:Key}{k:Kn}:∀ {l:List (Nat×Kn)},(key,k)∈CK l->∃s,key=.s s/\(s,k)∈l
 | [],h=>by cases h
 | (s,q)::r,h=>by
  rcases List.mem_cons.1 h with e|h
  ·injection e with e1 a;subst e1;subst a;exact⟨s,rfl,List.mem_cons_self ..⟩
  ·obtain⟨s',b,c⟩:=uf (l:=r) h;exact⟨s',b,List.mem_cons_of_mem _ c⟩
theorem gF {rs:List (Res U)}{s:Nat}{v:Value}:∀ {l:List (Nat×Kn)},(s,v)∈mQ rs l->∃p,(s,Kn.p p)∈l/\v=(den U rs p).getD undef
 | [],h=>by cases h
 | (a,.p q)::r,h=>by
  rcases List.mem_cons.1 h with e|h
  ·injection e with e1 d;subst e1;subst d;exact⟨q,List.mem_cons_self ..,rfl⟩
  ·obtain⟨p,b,c⟩:=gF (l:=r) h;exact⟨p,List.mem_cons_of_mem _ b,c⟩
 |(a,.t _)::r,h=>by obtain⟨p,b,c⟩:=gF (l:=r) h;exact⟨p,List.mem_cons_of_mem _ b,c⟩
 |(a,.ag _)::r,h=>by obtain⟨p,b,c⟩:=gF (l:=r) h;exact⟨p,List.mem_cons_of_mem _ b,c⟩
 |(a,.f _ _)::r,h=>by obtain⟨p,b,c⟩:=gF (l:=r) h;exact⟨p,List.mem_cons_of_mem _ b,c⟩
 |(a,.pan)::r,h=>by obtain⟨p,b,c⟩:=gF (l:=r) h;exact⟨p,List.mem_cons_of_mem _ b,c⟩
 |(a,.w _ _)::r,h=>by obtain⟨p,b,c⟩:=gF (l:=r) h;exact⟨p,List.mem_cons_of_mem _ b,c⟩
theorem dY.Nw {kn:List (Key×Kn)}{id:Nat}{V:PK->Value}:∀ {i:Nat}{c:List AV}{vs:List Value},dY kn id i c vs->(∀j p v,nth c j=some (.k p)->nth vs j=some v->V p=v)->aK (λa=>match a with|.v x=>x|.k p=>V p) c=vs
 |_,[],[],_,_=>rfl
 |_,[],_::_,h,_=>by simp[dY]at h
 |_,_::_,[],h,_=>by rename_i a l;cases a<;>simp[dY]at h
 | i,.v x::r,v::vs,h,b=>by
  simp only[dY]at h;simp only[aK,h.1];rw[dY.Nw h.2 λj p v d e=>b (j+1) p v d e]
 | i,.k p::r,v::vs,h,b=>by
  simp only[dY]at h;simp only[aK];rw[b 0 p v rfl rfl,dY.Nw h.2 λj p v d e=>b (j+1) p v d e]
theorem dY.kn {kn:List (Key×Kn)}{id:Nat}:∀ {i j:Nat}{a:List AV}{vs:List Value}{p:PK},dY kn id i a vs->nth a j=some (.k p)->cP (.c id (i+j)) kn=some (.p p)
 |_,_,[],_,_,_,h=>by simp[nth]at h
 |i,0,.v _::_,_::_,_,_,h=>by simp[nth]at h
 | i,0,.k p::r,v::vs,b,hd,h=>by
  simp only[dY]at hd;simp only[nth,Option.some.injEq,AV.k.injEq]at h;subst h;exact hd.1
 | i,j+1,.v _::r,_::vs,p,hd,h=>by
  simp only[dY]at hd;have:=dY.kn hd.2 (show nth r j=some (.k p)from h)
  rwa[show i+1+j=i+(j+1)by omega]at this
 | i,j+1,.k _::r,_::vs,p,hd,h=>by
  simp only[dY]at hd;have:=dY.kn hd.2 (show nth r j=some (.k p)from h)
  rwa[show i+1+j=i+(j+1)by omega]at this
 |_,_,.v _::_,[],_,hd,_=>by simp[dY]at hd
 |_,_,.k _::_,[],_,hd,_=>by simp[dY]at hd
theorem o7 {id:Nat}{key:Key}{k:Kn}:∀ {i:Nat}{l:List CS},(key,k)∈ze id i l->∃j p,key=.c id (i+j)/\k=.p p/\nth l j=some (.k p)
 |_,[],h=>by cases h
 | i,.v _::r,h=>by
  obtain⟨j,p,a,b,c⟩:=o7 (l:=r) h;exact⟨j+1,p,by rw[a];congr 1;omega,b,c⟩
 | i,.k q::r,h=>by
  rcases List.mem_cons.1 h with e|h
  ·injection e with e1 d;exact⟨0,q,e1,d,rfl⟩
  ·obtain⟨j,p,a,b,c⟩:=o7 (l:=r) h;exact⟨j+1,p,by rw[a];congr 1;omega,b,c⟩
theorem nE {key:Key}{k:Kn}:∀ {l:List (Nat×RSh)},(key,k)∈ER l->∃id cs j p,(id,RSh.blk cs)∈l/\key=.c id j/\k=.p p/\nth cs j=some (.k p)
 | [],h=>by cases h
 | (id,.blk cs)::r,h=>by
  rcases List.mem_append.1 h with h|h
  ·obtain⟨j,p,e,f,i⟩:=o7 h;exact⟨id,cs,j,p,List.mem_cons_self ..,by simpa using e,f,i⟩
  ·obtain⟨a,b,c,d,e,f⟩:=nE (l:=r) h;exact⟨a,b,c,d,List.mem_cons_of_mem _ e,f⟩
 |(id,.ob _)::r,h=>by obtain⟨a,b,c,d,e,f⟩:=nE (l:=r) h;exact⟨a,b,c,d,List.mem_cons_of_mem _ e,f⟩
 |(id,.lst _)::r,h=>by obtain⟨a,b,c,d,e,f⟩:=nE (l:=r) h;exact⟨a,b,c,d,List.mem_cons_of_mem _ e,f⟩
theorem yv {T:Type}{id:Nat}{kn:List (Key×Kn)}:∀ {l:List CS}{J:CST l T}{i:Nat}{vs:List Value}{F:T->Prop},Cy id kn l J i vs F->(∃c,F c)/\∀j p,nth l j=some (.k p)->cP (.c id (i+j)) kn=some (.p p)
 | [],J,i,[],F,h=>⟨⟨J,h⟩,λj p hp=>by simp[nth]at hp⟩
 | [],_,_,_::_,_,h=>h.elim
 |.v _::_,_,_,[],_,h=>h.elim
 |.k _::_,_,_,[],_,h=>h.elim
 | .v s::r,J,i,v::vs,F,h=>by
  obtain⟨f,d,_⟩:=qx h;obtain⟨a,b⟩:=yv d;refine⟨a,λj p hp=>?_⟩;cases j with
  |zero=>simp[nth]at hp
  |succ j=>have:=b j p hp;rwa[show i+1+j=i+(j+1)by omega]at this
 | .k q::r,J,i,v::vs,F,h=>by
  simp only[Cy]at h;split at h
  ·rename_i x e;split at h
   ·rename_i he;obtain⟨a,b⟩:=yv h;refine⟨a,λj p hp=>?_⟩;cases j with
    |zero=>simp only[nth,Option.some.injEq,CS.k.injEq]at hp;subst hp;rw[Nat.add_zero,e,(Kn.oX he).1]
    |succ j=>have:=b j p hp;rwa[show i+1+j=i+(j+1)by omega]at this
   ·exact h.elim
  ·exact h.elim
theorem tr {T:Type}{rs:List (Res U)}{kn:List (Key×Kn)}:∀ {l:List (Nat×RSh)}{J:BR U l T}{F:T->Prop},tf rs kn l J F->∀id cs,(id,RSh.blk cs)∈l->∀j p,nth cs j=some (.k p)->cP (.c id j) kn=some (.p p)
 | [],_,_,_,_,_,h=>by cases h
 | (id,.ob t)::r,J,F,h,i,cs,hm=>by
  simp only[tf]at h;split at h
  ·split at h
   ·exact tr h i cs ((List.mem_cons.1 hm).resolve_left λe=>by cases e)
   ·exact h.elim
  ·exact h.elim
 | (id,.lst t)::r,J,F,h,i,cs,hm=>by
  simp only[tf]at h;split at h
  ·split at h
   ·exact tr h i cs ((List.mem_cons.1 hm).resolve_left λe=>by cases e)
   ·exact h.elim
  ·exact h.elim
 | (id,.blk l)::r,J,F,h,i,cs,hm=>by
  simp only[tf]at h;split at h
  ·obtain⟨⟨d,b⟩,c⟩:=yv h;intro j p hp;rcases List.mem_cons.1 hm with e|hm
   ·injection e with e1 a
    injection a with a
    subst e1;subst a;have:=c j p hp
    rwa[Nat.zero_add]at this
   ·exact tr b i cs hm j p hp
  ·exact h.elim
theorem dH.Mj {x:Res U}{g:Nat}{cs:List Value}{T:TypeId}(h:dH x (.blk g cs T)):∃a,x=.blk g a T/\a.length=cs.length:=by
 cases h;rename_i c b;exact⟨c,rfl,b⟩
theorem Bk {f:Cp}{J:JT2 U f}{stb st':St U}{fr O:Fr}{a a':Act}{w':World}{X X':Nat->Nat->Prop}{ws:List Nat}(H:Rep n fr a)(R3:Rep n O a')(SA:Agr ws a a')(SK:vd f.wr2 ws=true)
 (a3:aG stb.rs fr stb.kn)(Vt:aG st'.rs O st'.kn)(hI:Inv w0 k0 X0 may st'.rs X' w')(hlen:stb.rs.length<=st'.rs.length)(ae:∀i,i<stb.rs.length->i ∉ st'.md->i ∉ aK (·.1) f.rsh->nth st'.rs i=nth stb.rs i/\X' i=X i)(SY:∀i a,nth stb.rs i=some a->∃b,nth st'.rs i=some b/\dH a b)(bb:k0<=stb.rs.length)
 (hu:qR f stb.rs.length J O st'){F:List (Nat×Value)->St U->Prop}(Q:DC f J stb fr.e F):
 ∃e Y,F e Y/\Rep n ⟨e,λi=>a'.tmps.getD i undef,fr.ds⟩ a'/\Inv w0 k0 X0 may Y.rs X' w'/\aG Y.rs ⟨e,λi=>a'.tmps.getD i undef,fr.ds⟩ Y.kn/\Y.md= []/\Y.rs.length=stb.rs.length/\(∀i,i<stb.rs.length->i ∉ aK (·.1) f.rsh->nth Y.rs i=nth stb.rs i/\X' i=X i)/\∀i a,nth stb.rs i=some a->∃b,nth Y.rs i=some b/\dH a b:=by
 unfold qR at hu;split at hu
 case h_2=>exact hu.elim
 rename_i Ta;simp only[Bool.and_eq_true]at Ta;obtain⟨af,ah,an,aA⟩:=Ta;obtain⟨J1,vs,h1,g1,e1⟩:=z9 hu;have ZI:=tr h1;obtain⟨p,us,hp,g2,m2,d2,b2⟩:=pG h1;have Q:=g2 _ (g1 _ Q) hp;split at Q
 case h_2=>exact Q.elim
 rename_i Vs WY;split at Q
 case h_2=>exact Q.elim
 rename_i I V7;obtain⟨l1,f1⟩:=yV WY;obtain⟨l2,f2⟩:=yV V7;have aC:aK (·.1) f.rsh=us.map (·.1):=by rw[iY,m2]
 have r1:∀i x,nth stb.rs i=some x->∃y z,nth Vs i=some y/\nth st'.rs i=some z/\((∀o,me i us≠some (.blk o))->y=z)/\((∃o,me i us=some (.blk o))->y=x):=by
  intro i x C;obtain⟨y,D,a4⟩:=f1 i x C;rw[Nat.zero_add]at D;obtain⟨z,G,Z⟩:=SY i x C;refine⟨y,z,a4,G,?_,?_⟩
  ·intro a5;unfold Ol at D;cases d:me i us with
   | none=>
    rw[d]at D;simp only[Option.some.injEq]at D;subst D;have aa:=tZ d;have:i ∉ st'.md:=λhm=>by
     have:=cx.1 ah i hm;rw[aC]at this;rcases Bool.or_eq_true_iff.1 this with h|h
     ·have:=Nat.le_of_ble_eq_true h;have:=aX C;omega
     ·exact aa (gh.1 h)
    have L:=(ae i (aX C) this (by rw[aC];exact aa)).1;rw[G,C]at L;injection L with L
    exact L.symm
   | some u=>
    rw[d]at D;have hd:=d2 i u (kH d);cases u with
    | ob t s=>
     obtain⟨r,H⟩:=hd;rw[G]at H;injection H with H
     subst H;have L:cV x (.ob t s)=some y:=D;cases Z;simp only[cV,dif_pos]at L;injection L with L
     exact L.symm
    |blk o=>exact absurd d (a5 o)
    | lst t A c l=>
     obtain⟨own,T,H⟩:=hd;rw[G]at H;injection H with H
     subst H;have L:cV x (.lst t A c l)=some y:=D;cases Z;simp only[cV,dif_pos]at L;injection L with L
     exact L.symm
  ·rintro⟨o,d⟩;unfold Ol at D;rw[d]at D;simp only[Option.some.injEq]at D;exact D.symm
 have To:∀q:PK,q.id<stb.rs.length->den U Vs q=den U st'.rs q:=by
  intro q hq;obtain⟨x,C⟩:=cj hq;obtain⟨y,z,D,G,ha,hb⟩:=r1 _ x C;unfold den;rw[D,G];cases d:me q.id us with
  |none=>rw[ha (λo e=>by rw[d]at e;cases e)]
  | some u=>
   cases u with
   |ob t s=>rw[ha (λo e=>by rw[d]at e;cases e)]
   |lst t A c l=>rw[ha (λo e=>by rw[d]at e;cases e)]
   | blk o=>
    have ab:=hb ⟨o,d⟩;subst ab;obtain⟨z',R,Z⟩:=SY _ _ C;rw[G]at R;injection R with R
    subst R;obtain⟨g,cs,T,S,_⟩:=d2 _ _ (kH d);rw[G]at S;injection S with S
    subst S;cases Z;cases q<;>rfl
 have r2:∀i,i<stb.rs.length->nth I i=nth st'.rs i:=by
  intro i hi;obtain⟨x,C⟩:=cj hi;obtain⟨y,z,D,G,ha,hb⟩:=r1 i x C;obtain⟨v,B,Zw⟩:=f2 i y D;rw[Nat.zero_add]at B;rw[Zw,G];unfold P6 at B;cases d:me i us with
  | none=>
   rw[d]at B;simp only[Option.some.injEq]at B;rw[<-B,ha (λo e=>by rw[d]at e;cases e)]
  | some u=>
   rw[d]at B;cases u with
   |ob t s=>simp only[Option.some.injEq]at B;rw[<-B,ha (λo e=>by rw[d]at e;cases e)]
   |lst t A c l=>simp only[Option.some.injEq]at B;rw[<-B,ha (λo e=>by rw[d]at e;cases e)]
   | blk o=>
    have ab:=hb ⟨o,d⟩;subst ab;obtain⟨z',R,Z⟩:=SY _ _ C;rw[G]at R;injection R with R
    subst R;obtain⟨g,cs,T,S,aN⟩:=d2 _ _ (kH d);rw[G]at S;injection S with S
    subst S;have XI:=(b2 _ an _ _ (kH d)).2 o rfl;have a6:aK (lr Vs) o=cs:=by
     have:=aN.Nw (V:=λp=>(den U Vs p).getD undef) (λj p v hj B=>by
      have hk:=aN.kn hj;obtain⟨g',a0,T',u,q1,q2,q3⟩:=Vt.get hk;rw[G]at q1;injection q1 with q1
      injection q1 with _ q1 _
      subst q1;rw[Nat.zero_add]at q2;rw[B]at q2;injection q2 with q2
      subst q2;have q3:den U st'.rs p=some v:=q3;rw[To p (XI p (jx hj)),q3];rfl)
     have e:(λa=>match a with|.v x=>x|.k p=>(den U Vs p).getD undef)=lr Vs:=by funext a;cases a<;>rfl
     rw[e]at this;exact this
    have B:cV y (.blk (aK (lr Vs) o))=some v:=B;rw[a6]at B;obtain⟨Z9,rfl,hle⟩:=Z.Mj;simp only[cV,hle,Nat.beq_refl]at B;exact B.symm
 have a7:I.length=stb.rs.length:=by rw[l2,l1]
 have ZK:∀q:PK,q.id<stb.rs.length->den U I q=den U st'.rs q:=λq hq=>by unfold den;rw[r2 _ hq]
 obtain⟨WC,TR⟩:=ry SK;have VN:∀s v,(s,v)∈vs++mQ I f.kns->lk O.g s O.e=v:=by
  intro s v hm;rcases List.mem_append.1 hm with hm|hm
  ·exact e1 s v hm
  ·obtain⟨q,hq,rfl⟩:=gF hm;obtain⟨q',Z4,d⟩:=rp af hq;injection Z4 with Z4
   subst Z4;have:den U st'.rs q=some (lk O.g s O.e):=Vt.get d;rw[ZK q (lJ aA hq),this];rfl
 have TS:Rep n ⟨vs++mQ I f.kns++forget f.wr2 fr.e,λi=>a'.tmps.getD i undef,fr.ds⟩ a':=yE H R3 (SA.mono WC) TR VN;have a1:∀i,lk (λi=>a'.tmps.getD i undef) i (vs++mQ I f.kns++forget f.wr2 fr.e)=lk O.g i O.e:=λi=>by rw[<-R3.get];exact(TS.get i).symm
 have TY:∀i,i<stb.rs.length->i ∉ aK (·.1) f.rsh->nth I i=nth stb.rs i/\X' i=X i:=by
  intro i hi aa;rw[r2 i hi];refine ae i hi (λhm=>?_) aa;have:=cx.1 ah i hm;rcases Bool.or_eq_true_iff.1 this with h|h
  ·have:=Nat.le_of_ble_eq_true h;omega
  ·exact aa (gh.1 h)
 have ZA:∀i a,nth stb.rs i=some a->∃b,nth I i=some b/\dH a b:=by
  intro i x C;obtain⟨z,G,Z⟩:=SY i x C;exact⟨z,by rw[r2 i (aX C)];exact G,Z⟩
 have a2:Inv w0 k0 X0 may I X' w':=hI.MP (by omega) (λi hi=>r2 i (by omega)) (by omega);have Q:=kY (λr H=>by
  obtain⟨i,hi⟩:=um H;exact⟨_,_,a2.sat.res i r hi⟩) Q
 refine⟨_,_,Q,TS,a2,?_,rfl,a7,TY,ZA⟩;refine aG.app ?_ (aG.app ?_ ?_)
 ·intro key k hm;obtain⟨s,rfl,hs⟩:=uf hm;obtain⟨q,rfl,d⟩:=rp af hs;show den U I q=some (lk _ s _);rw[a1,ZK q (lJ aA hs)];exact Vt.get d
 ·intro key k hm;obtain⟨id,cs,j,q,h3,rfl,rfl,h5⟩:=nE hm;have d:=ZI id cs h3 j q h5;obtain⟨g,a0,T,v,q1,q2,q3⟩:=Vt.get d;have ZL:id<stb.rs.length/\q.id<stb.rs.length:=by
   have key:∀(l:List (Nat×RSh)),fD stb.rs.length l=true->(id,RSh.blk cs)∈l->id<stb.rs.length/\ke stb.rs.length cs=true:=by
    intro l
    induction l with
    |nil=>intro _ h;cases h
    | cons x r ih=>
     intro hb hm;obtain⟨i,x⟩:=x;cases x with
     | ob t=>
      simp only[fD]at hb;split at hb
      ·exact ih hb ((List.mem_cons.1 hm).resolve_left λe=>by cases e)
      ·cases hb
     | lst t=>
      simp only[fD]at hb;split at hb
      ·exact ih hb ((List.mem_cons.1 hm).resolve_left λe=>by cases e)
      ·cases hb
     | blk l=>
      simp only[fD]at hb;split at hb
      ·rename_i RV;simp only[Bool.and_eq_true]at RV;rcases List.mem_cons.1 hm with e|hm
       ·injection e with e1 e2;injection e2 with e2;subst e1;subst e2
        exact⟨by simpa[Nat.blt_eq]using RV.1,RV.2⟩
       ·exact ih hb hm
      ·cases hb
   obtain⟨h6,h7⟩:=key f.rsh an h3;refine⟨h6,?_⟩;have a8:∀(l:List CS)(j:Nat),ke stb.rs.length l=true->nth l j=some (.k q)->q.id<stb.rs.length:=by
    intro l
    induction l with
    |nil=>intro j _ h;simp[nth]at h
    | cons x r ih=>
     intro j hb hj;cases x with
     | v s=>
      cases j with
      |zero=>simp[nth]at hj
      |succ j=>exact ih j hb hj
     | k p'=>
      simp only[ke]at hb;split at hb
      ·rename_i RV;cases j with
       |zero=>simp only[nth,Option.some.injEq,CS.k.injEq]at hj;subst hj;simpa[Nat.blt_eq]using RV
       |succ j=>exact ih j hb hj
      ·cases hb
   exact a8 cs j h7 h5
  exact⟨g,a0,T,v,by rw[r2 id ZL.1];exact q1,q2,by show den U I q=_;rw[ZK q ZL.2];exact q3⟩
 ·have a9:=aG.fE (M:=aK (·.1) f.rsh) a3 (rs':=I) (λi hi hm=>(TY i hi hm).1) (λi _ x C=>ZA i x C);intro key k hm;obtain⟨ba,VD⟩:=dK hm;have h0:=a9 key k ba;cases key with
  | s i=>
   have aa:i ∉ f.wr2:=by
    intro hh;have VD:(!mP i f.wr2)=true:=VD;rw[gh.2 hh]at VD;cases VD
   show jD I (lk _ i _) k;have:lk (λi=>a'.tmps.getD i undef) i (vs++mQ I f.kns++forget f.wr2 fr.e)=lk fr.g i fr.e:=by
    rw[a1,<-R3.get,<-H.get];exact SA.tmps i λhi=>aa (WC i hi)
   rw[this];exact h0
  |c id off=>exact h0
  |l id path=>exact h0
end
end
section
section
variable {U:Uni}{P:Program}{tbl:Tb U}{may:List Nat}{k0:Nat}
variable {w0:World}{X0 X:Nat->Nat->Prop}{w:World}{fr:Fr}{st:St U}{n:Nat}{N:List Nat}{ops:Array Oper}
theorem Steps.back {c:St U}{e:Nat->Nat->Prop}{w':World}(h:Steps w0 k0 X0 may {st with md:= []} X c e w'):Steps w0 k0 X0 may st X (lH U c st.md) e w':=by
 obtain⟨a,b,⟨L,f,i,j⟩,d⟩:=h;refine⟨a,b,⟨L,?_,i,j⟩,d⟩;show c.md++st.md=L++st.md;rw[f];simp
theorem IT {s j:Nat}{st st':St U}{X:Nat->Nat->Prop}(h:C5 k0 s j st=some st')(hI:Inv w0 k0 X0 may st.rs X w)(d:aG st.rs fr st.kn):∃R,Steps w0 k0 X0 may st X st' R w/\aG st'.rs fr st'.kn:=by
 unfold C5 at h;split at h
 ·rename_i i S;split at h
  ·injection h with h;subst h;exact⟨X,Steps.refl hI,d⟩
  ·rename_i v;have v:i≠j:=λe=>by rw[e,Nat.beq_refl]at v;cases v
   split at h
   ·rename_i t T A c l t' T' A' c' l' hi F;split at h
    ·rename_i hb;injection h with h;subst h
     simp only[Bool.and_eq_true]at hb;obtain⟨⟨b1,b2⟩,b3,b4⟩:=hb;obtain rfl:=Nat.eq_of_beq_eq_true b3;obtain rfl:=Nat.eq_of_beq_eq_true b4;have b1:=Nat.le_of_ble_eq_true b1;have b2:=Nat.le_of_ble_eq_true b2;have li:=aX hi;have V:=aX F;have B:nth (cf (cf st.rs j (.lst t true T A c l)) i (.lst t true T none 0 [])) j=some (.lst t true T A c l):=by
      rw[bD,if_neg (by rintro⟨e,_⟩;exact v e.symm),bD,if_pos ⟨rfl,V⟩]
     have G:nth (cf (cf st.rs j (.lst t true T A c l)) i (.lst t true T none 0 [])) i=some (.lst t true T none 0 []):=by
      rw[bD,if_pos ⟨rfl,by rw[pQ];exact li⟩]
     have no:∀k,k≠i->k≠j->nth (cf (cf st.rs j (.lst t true T A c l)) i (.lst t true T none 0 [])) k=nth st.rs k:=λk p o=>by
      rw[bD,if_neg (λe=>p e.1),bD,if_neg (λe=>o e.1)]
     have mem:∀k,k∈ [i,j]->k=i\/k=j:=by simp
     have H:j1 (j1 X j (X i)) i (λ_=>False) i=λ_=>False:=updX_eq ..;have I:j1 (j1 X j (X i)) i (λ_=>False) j=X i:=by rw[gx _ _ (Ne.symm v),updX_eq]
     have z:∀k,k ∉ [i,j]->j1 (j1 X j (X i)) i (λ_=>False) k=X k:=λk d=>by
      have:k≠i/\k≠j:=by simpa using d
      rw[gx _ _ this.1,gx _ _ this.2]
     have hlen:(cf (cf st.rs j (Res.lst t true T A c l)) i (.lst t true T none 0 [])).length=st.rs.length:=by simp
     have J:∀k a,nth st.rs k=some a->∃b,nth (cf (cf st.rs j (.lst t true T A c l)) i (.lst t true T none 0 [])) k=some b/\dH a b:=λk a f=>by
      by_cases e1:k=i
      ·subst e1;rw[hi]at f;injection f with f;subst f;exact⟨_,G,dH.lst ..⟩
      by_cases q:k=j
      ·subst q;rw[F]at f;injection f with f;subst f;exact⟨_,B,dH.lst ..⟩
      exact⟨a,by rw[no k e1 q];exact f,dH.refl a⟩
     refine⟨j1 (j1 X j (X i)) i (λ_=>False),⟨?_,by rw[hlen];exact Nat.le_refl _,⟨[i,j],rfl,λk d=>.inr (by rcases mem k d with rfl|rfl<;>assumption),λk _ d=>⟨no k (λe=>d (by simp[e])) (λe=>d (by simp[e])),z k d⟩⟩,J⟩,?_⟩
     ·obtain⟨sat,ch,old,new,len⟩:=hI;have sub:∀k,k<st.rs.length->∀b,j1 (j1 X j (X i)) i (λ_=>False) k b->(k=j/\X i b)\/(k≠j/\k≠i/\X k b):=λk _ b hb=>by
       by_cases e1:k=i
       ·subst e1;rw[H]at hb;exact hb.elim
       by_cases q:k=j
       ·subst q;rw[I]at hb;exact .inl ⟨rfl,hb⟩
       rw[z k (by simp[e1,q])]at hb;exact .inr ⟨q,e1,hb⟩
      refine⟨⟨λk r u=>?_,λa b f hb L Y k Z O=>?_⟩,ch,λk Vt b hb=>?_,λk p o b hb=>?_,by rw[hlen];exact len⟩
      ·by_cases e1:k=i
       ·subst e1;rw[G]at u;injection u with u;subst u;rw[H]
        exact(⟨Own.nil,λk d=>d.elim⟩:RS (λ_=>False) w (.lst t true T none 0 []:Res U))
       by_cases q:k=j
       ·subst q;rw[B]at u;injection u with u;subst u;rw[I];exact sat.res i _ hi
       rw[no k e1 q]at u;rw[z k (by simp[e1,q])];exact sat.res k r u
      ·rw[hlen]at f hb;rcases sub a f k Z with⟨rfl,p⟩|⟨C,Q,p⟩
       ·rcases sub b hb k O with⟨rfl,o⟩|⟨_,D,o⟩
        ·exact L rfl
        ·exact sat.gX i b li hb (Ne.symm D) (by rw[show rwB st.rs i=true by unfold rwB;rw[hi];rfl,Bool.true_or]) k p o
       ·rcases sub b hb k O with⟨rfl,o⟩|⟨aa,D,o⟩
        ·exact sat.gX a i f li Q (by rw[show rwB st.rs i=true by unfold rwB;rw[hi];rfl,Bool.or_true]) k p o
        ·exact sat.gX a b f hb L (by rw[<-dW (no a Q C),<-dW (no b D aa)];exact Y) k p o
      ·rw[z k (by simp;omega)]at hb;exact old k Vt b hb
      ·rw[hlen]at o;rcases sub k o b hb with⟨rfl,h⟩|⟨_,_,h⟩
       ·exact new i b1 li b h
       ·exact new k p o b h
     ·have all:∀ {P:Key×Kn->Prop}{x:Key×Kn}{l:List (Key×Kn)},P x->(∀y,y∈l->P y)->∀y,y∈x::l->P y:=λp o y hy=>(List.mem_cons.1 hy).elim (λe=>e▸p) (o y);refine λkey k hm=>all (P:=λx=>ei _ fr x.1 x.2) ?_ ?_ (key,k) hm
      ·have C:den U st.rs (.sl i 0)=some (lk fr.g s fr.e):=d.get S;show den U _ (.sl j 0)=some (lk fr.g s fr.e);rw[<-C];simp only[den,PK.id,B,hi,cl,iu]
      ·have:=d.fE (M:= [i,j]) (rs':=cf (cf st.rs j (.lst t true T A c l)) i (.lst t true T none 0 [])) (λk _ d=>no k (λe=>d (by simp[e])) (λe=>d (by simp[e]))) (λk _ a f=>J k a f);exact λx hx=>this x.1 x.2 hx
    ·cases h
   ·cases h
 ·cases h
theorem GY {key:Key}{tt:Nat}{T:TypeId}{st:St U}{X:Nat->Nat->Prop}(b:xm fr st key=some (.slice none 0 0))(hI:Inv w0 k0 X0 may st.rs X w)(d:aG st.rs fr st.kn):∃j,Steps w0 k0 X0 may st X ⟨st.rs++ [.lst tt true T none 0 []],(key,.p (.sl st.rs.length 0))::dO (λa _=>!(a.eq key)) st.kn,st.md⟩ j w/\aG (st.rs++ [.lst tt true T none 0 []]) fr ((key,.p (.sl st.rs.length 0))::dO (λa _=>!(a.eq key)) st.kn):=by
 have o:RS (λ_=>False) w (.lst tt true T none 0 []:Res U):=⟨Own.nil,λk d=>d.elim⟩;have p:nth (st.rs++ [Res.lst tt true T none 0 []]) st.rs.length=some (.lst tt true T none 0 []):=AK;have q:=hI.more (Ch.refl _ _) o (λk d=>d.elim);have t:=tx d (Res.lst tt true T none 0 []);have hd:den U (st.rs++ [Res.lst tt true T none 0 []]) (.sl st.rs.length 0)=some (.slice none 0 0):=by
  simp only[den,PK.id,p,cl,iu,List.length_nil]
 refine⟨j1 X st.rs.length λ_=>False,⟨q,by simp,⟨[],rfl,λi hi=>(by cases hi),λi hi _=>⟨by show nth (st.rs++_) i=_;rw[aP,if_pos hi],gx _ _ (by omega)⟩⟩,λi a f=>⟨a,by show nth (st.rs++_) i=_;rw[aP,if_pos (aX f)];exact f,dH.refl a⟩⟩,?_⟩;intro u k hm;rcases List.mem_cons.1 hm with e|hm
 ·injection e with e1 v
  subst e1;subst v;cases u with
  | s i=>
   simp only[xm,Option.some.injEq]at b;show den U _ _=some (lk fr.g i fr.e);rw[b];exact hd
  | c id off=>
   simp only[xm]at b;split at b
   ·rename_i g cs x h;exact⟨g,cs,x,_,by rw[aP,if_pos (aX h)];exact h,b,hd⟩
   ·cases b
  |l id path=>simp only[xm,reduceCtorEq]at b
 ·exact t _ _ (dK hm).1
theorem jX:∀ {l:List (Key×Nat×TypeId)}{st:St U}{X:Nat->Nat->Prop}{F:St U->Prop},lR k0 fr l st F->Inv w0 k0 X0 may st.rs X w->aG st.rs fr st.kn->∃st' b,F st'/\Steps w0 k0 X0 may st X st' b w/\aG st'.rs fr st'.kn
 | [],st,X,F,h,hI,f=>⟨st,X,h,Steps.refl hI,f⟩
 | (key,tt,T)::r,st,X,F,h,hI,f=>by
  have old:(match xm fr st key with
   |some (.slice none 0 0)=>lR k0 fr r ⟨st.rs++ [.lst tt true T none 0 []],(key,.p (.sl st.rs.length 0))::dO (λa _=>!(a.eq key)) st.kn,st.md⟩ F
   |_=>False)->∃st' b,F st'/\Steps w0 k0 X0 may st X st' b w/\aG st'.rs fr st'.kn:=λh=>by
   split at h
   ·rename_i q;obtain⟨t,i,p⟩:=GY (tt:=tt) (T:=T) q hI f;obtain⟨st',b,j,d,o⟩:=jX h i.inv p;exact⟨st',b,j,i.trans d,o⟩
   ·exact h.elim
  cases key with
  | s s=>
   cases hb:Nat.ble 1000 tt with
   | true=>
    simp only[lR,hb]at h;unfold EM at h;split at h
    ·obtain⟨hd,h⟩:=h;have u:aG st.rs fr ((.s s,.p (.sl (tt - 1000) 0))::st.kn):=λkey k hm=>by
      rcases List.mem_cons.1 hm with e|hm
      ·injection e with e1 v
       subst e1;subst v;exact hd
      ·exact f key k hm
     obtain⟨st',b,j,d,o⟩:=jX h hI u;exact⟨st',b,j,⟨d.inv,d.len,d.md,d.root⟩,o⟩
    ·split at h
     ·rename_i x hm;obtain⟨t,i,p⟩:=IT hm hI f;obtain⟨st',b,j,d,o⟩:=jX h i.inv p;exact⟨st',b,j,i.trans d,o⟩
     ·exact h.elim
   |false=>simp only[lR,hb]at h;exact old h
  |c id off=>cases hb:Nat.ble 1000 tt<;>simp only[lR,hb]at h<;>exact old h
  |l id path=>cases hb:Nat.ble 1000 tt<;>simp only[lR,hb]at h<;>exact old h
theorem Np {c:Code}{Q:QF2 U}{a:Act}{st':St U}{e:Nat->Nat->Prop}{ws:List Nat}(hS:Steps w0 k0 X0 may st X st' e w)(h:c.wpIn (WF none) 0 P (oy n ws a λx d w2=>Aft w0 k0 X0 may st' e fr.ds (λb st'=>Q x b st') d w2) a w):
 c.wpIn (WF none) 0 P (oy n ws a λx d w2=>Aft w0 k0 X0 may st X fr.ds (λb st'=>Q x b st') d w2) a w:=by
 refine wpIn_mono h λx a' w' he=>?_;cases x
 case outgrown=>exact he
 all_goals
  obtain⟨b,f,hq,i⟩:=he;exact⟨b,f,hq.pre hS,i⟩
theorem GZ {c:Code}{e:An}{V:QF2 U->Fr->St U->Prop}(h:vI U P may k0 w0 X0 n c V):vI U P may k0 w0 X0 n c λQ fr st=>tR U k0 e Q fr st λQ st=>V Q fr st:=by
 intro Q fr st X a w f hI i b;simp only[tR]at b;obtain⟨st',j,b,d,k⟩:=jX b hI i;refine wpIn_mono (h Q fr st' j a w f d.inv k b) λx a' w' he=>?_;cases x
 case outgrown=>exact he
 all_goals
  obtain⟨l,o,hq,p⟩:=he;exact⟨l,o,hq.pre d,p⟩
theorem iC {c:Code}{A:An}{V:QF2 U->Fr->St U->Prop}(h:vI U P may k0 w0 X0 n c V):vI U P may k0 w0 X0 n c λQ fr st=>jJ U may k0 c A Q fr st λQ st=>V Q fr st:=by
 refine GZ (V:=λQ fr st=>tQ U may k0 c A Q fr st λQ st=>V Q fr st) ?_;intro Q fr st X a w l hI o d;simp only[tQ]at d;split at d
 ·exact h Q fr st X a w l hI o d
 ·rename_i p H;split at d
  ·rename_i j;simp only[Bool.and_eq_true]at j;obtain⟨j,B⟩:=j;obtain⟨J,C,D⟩:=d;have F:=h _ fr {st with md:= []} X a w l hI o C;refine wpIn_mono F λx a' w' he=>?_;have other:∀b,(Aft w0 k0 X0 may {st with md:= []} X fr.ds (λb st'=>Q x b (lH U st' st.md)) b w')->Aft w0 k0 X0 may st X fr.ds (λb st'=>Q x b st') b w':=by
    rintro b ⟨st',q,f,t,g3,u⟩;exact⟨lH U st' st.md,q,f.back,t,g3,u⟩
   cases x
   case normal=>
    obtain⟨b,v,⟨st',q,f,t,g3,u⟩,k⟩:=he;obtain⟨L,y,I,G⟩:=f.md;have y:st'.md=L:=by rw[y];simp
    obtain⟨e,z,f1,f2,f3,f4,f5,f6,f7,f8⟩:=Bk (stb:=st) (X:=X) l v k j o t f.inv f.len (λi hi hm _=>G i hi (by rw[<-y];exact hm)) f.root hI.len u (D _);refine⟨_,f2,⟨lH U z (aK (·.1) p.rsh++st.md),q,⟨f3,by show st.rs.length<=z.rs.length;omega,⟨aK (·.1) p.rsh,?_,λi hi=>jc (cx.1 B i hi),f7⟩,f8⟩,f4,rfl,f1⟩,k⟩;show z.md++(aK (·.1) p.rsh++st.md)=_;rw[f5];rfl
   case outgrown=>exact he
   all_goals
    obtain⟨b,v,hq,k⟩:=he;exact⟨b,v,other b hq,k⟩
  ·exact d.elim
theorem cK(z:∀f c,tbl.c f=some c->LV U P f c/\bE P f=true)(hm:P.follows .mixedOrders=true):∀(c:Code)(j:An),vI U P may k0 w0 X0 n c (λQ fr st=>jK U P tbl may k0 n N c j Q fr st)
 |.skip,j=>λQ fr st X a w k hI p d=>wpIn_skip ⟨fr,k,⟨st,X,Steps.refl hI,p,rfl,d⟩,Agr.refl _ _⟩
 |.region id ops false,j=>iC (c:=.region id ops false) (V:=λQ fr st=>FW U P tbl may k0 n N ops (Q .normal) (λch=>Q (.panic ch)) ops.toList fr st) λQ fr st X a w k hI p d=>wz z k hI p d
 | .region id ops true,j=>iC (c:=.region id ops true) (V:=λQ fr st=>match Region.noSelect ops,fF ops.toList with
  |true,true=>wq U P tbl may k0 n N ops (nb P ops.toList) j.V j.rd (Q .normal) ops.size (Array.replicate ops.size false) fr st
  |_,_=>False) λQ fr st X a w k hI p d=>by
  dsimp only at d;split at d
  ·rename_i hs UQ;exact yG z hm hs UQ k hI p d
  ·exact d.elim
 | .seq x y,j=>iC (c:=.seq x y) (V:=λQ fr st=>jK U P tbl may k0 n N x j.l (λe o st'=>match e with|.normal=>jK U P tbl may k0 n N y j.r Q o st'|e=>Q e o st') fr st) λQ fr st X a w k hI p d=>by
  refine wpIn_seq (wpIn_mono (cK z hm x j.l _ fr st X a w k hI p d) λe a' w' he=>?_);cases e
  case normal=>
   obtain⟨o,u,⟨st',M,t,G,g3,T⟩,A⟩:=he;refine wpIn_mono (cK z hm y j.r Q o st' M a' w' u t.inv G T) λe a2 w2 he=>?_;cases e<;>first
    |exact he.elim
    | (obtain⟨Y,Z,h2,h3⟩:=he
       exact⟨Y,Z,g3▸h2.pre t,(A.mono λi hi=>List.mem_append_left _ hi).trans (h3.mono λi hi=>List.mem_append_right _ hi)⟩)
  all_goals first
   |exact he.elim
   | (obtain⟨Y,Z,h2,h3⟩:=he
      exact⟨Y,Z,h2,h3.mono λi hi=>List.mem_append_left _ hi⟩)
 | .cond c x y,j=>iC (c:=.cond c x y) (V:=λQ fr st=>match ev fr c with
  |.bool b=>split b (jK U P tbl may k0 n N x j.l Q fr st) (jK U P tbl may k0 n N y j.r Q fr st)
  |_=>False) λQ fr st X a w k hI p d=>by
  dsimp only at d;split at d
  ·rename_i b hb;rw[<-k.eval]at hb;rcases gK d with⟨rfl,Zw⟩|⟨rfl,Zw⟩
   ·exact wpIn_cond_true hb (wpIn_mono (cK z hm x j.l Q fr st X a w k hI p Zw) λe a' w' he=>he.mono (λi hi=>List.mem_append_left _ hi) (λ_ _ _ h=>h))
   ·exact wpIn_cond_false hb (wpIn_mono (cK z hm y j.r Q fr st X a w k hI p Zw) λe a' w' he=>he.mono (λi hi=>List.mem_append_right _ hi) (λ_ _ _ h=>h))
  ·exact d.elim
 | .block id c,j=>iC (c:=.block id c) (V:=λQ fr st=>jK U P tbl may k0 n N c j.l (λe o st'=>match e with
  |.exit aa=>(match Nat.beq aa id with|true=>Q .normal o st'|false=>Q (.exit aa) o st')
  |e=>Q e o st') fr st) λQ fr st X a w k hI p d=>by
  refine wpIn_block (wpIn_mono (cK z hm c j.l _ fr st X a w k hI p d) λe a' w' he=>?_);cases e
  case exit aa=>
   obtain⟨o,u,hq,A⟩:=he;simp only[Exit.inBlock];split
   ·rename_i hi;subst hi;exact⟨o,u,hq.mono λfr st C=>(by dsimp only at C;rw[Nat.beq_refl]at C;exact C),A⟩
   ·rename_i hi;refine⟨o,u,hq.mono λfr st C=>?_,A⟩;dsimp only at C;split at C
    ·rename_i hb;exact absurd (Nat.eq_of_beq_eq_true hb) hi
    ·exact C
  all_goals exact he
 | .loop c,j=>λQ fr aN a0 a w k ah az d=>by
  simp only[jK,tR]at d;obtain⟨st,X,d,ae,p⟩:=jX d ah az;have hI:=ae.inv;refine Np ae ?_;split at d
  ·exact d.elim
  ·rename_i F a3;split at d
   ·rename_i O;simp only[Bool.and_eq_true]at O;obtain⟨O,Sq⟩:=O;obtain⟨I,⟨m0,h0⟩,Ve⟩:=d;refine pB (λm a' w'=>∃o st' M,Rep n o a'/\(Inv w0 k0 X0 may st'.rs M w'/\st.rs.length<=st'.rs.length/\(∀i,i<st.rs.length->i ∉ st'.md->i ∉ aK (·.1) F.rsh->nth st'.rs i=nth st.rs i/\M i=X i)/\∀i a,nth st.rs i=some a->∃b,nth st'.rs i=some b/\dH a b)/\aG st'.rs o st'.kn/\qR F st.rs.length (I m) o st'/\Agr (writes c) a a') m0 ⟨fr,{st with md:= []},X,k,⟨hI,Nat.le_refl _,λ_ _ _ _=>⟨rfl,rfl⟩,λi a ha=>⟨a,ha,dH.refl a⟩⟩,p,h0,Agr.refl _ _⟩ ?_;rintro m a1 w1 ⟨XL,V5,R,VL,⟨VK,WN,H,aA⟩,SI,hu,A⟩;obtain⟨e,S,f1,f2,f3,f4,f5,f6,f7,f8⟩:=Bk (stb:=st) (X:=X) k VL A O p SI VK WN H aA hI.len hu (Ve m _);refine wpIn_mono (cK z hm c j.l _ _ S R a1 w1 f2 f3 f4 f1) λx a' w' he=>?_;have join:∀ {q:St U}{v:Nat->Nat->Prop},Steps w0 k0 X0 may S R q v w'->∃B,q.md=B/\(∀i,i∈B->i∈may\/k0<=i)/\∀i,i<st.rs.length->i ∉ B->i ∉ aK (·.1) F.rsh->nth q.rs i=nth st.rs i/\v i=X i:=by
     intro q v H;obtain⟨B,J,ab,L⟩:=H.md;refine⟨B,by rw[J,f5];simp,ab,λi hi D XT=>?_⟩;obtain⟨e1,e2⟩:=L i (by omega) D;obtain⟨e3,e4⟩:=f7 i hi XT;exact⟨e1.trans e3,e2.trans e4⟩
    have af:∀ {q:St U}{v:Nat->Nat->Prop},Steps w0 k0 X0 may S R q v w'->∀i a,nth st.rs i=some a->∃b,nth q.rs i=some b/\dH a b:=by
     intro q v H i x hx;obtain⟨b,hb,k⟩:=f8 i x hx;obtain⟨c',XG,u⟩:=H.root i b hb;exact⟨c',XG,k.trans u⟩
    have out:∀ {K:Fr->St U->Prop}{o:Fr},Aft w0 k0 X0 may S R fr.ds (λo st'=>K o (lH U st' (aK (·.1) F.rsh++st.md))) o w'->Aft w0 k0 X0 may st X fr.ds K o w':=by
     rintro K o ⟨q,v,t,G,g3,T⟩;obtain⟨B,J,ab,L⟩:=join t;refine⟨lH U q (aK (·.1) F.rsh++st.md),v,⟨t.inv,?_,⟨B++aK (·.1) F.rsh,?_,λi hi=>(List.mem_append.1 hi).elim (ab i) (λhi=>jc (cx.1 Sq i hi)),λi hi D=>?_⟩,λi x hx=>af t i x hx⟩,G,g3,T⟩
     ·show st.rs.length<=q.rs.length;have:=t.len;omega
     ·show q.md++(_++_)=_;rw[J,List.append_assoc]
     ·rw[List.mem_append,not_or]at D;exact L i hi D.1 D.2
    cases x
    case normal=>
     obtain⟨o,u,⟨q,v,t,G,g3,m',RV,aC⟩,W5⟩:=he;obtain⟨B,J,_,L⟩:=join t;exact⟨m',RV,o,q,v,u,⟨t.inv,by have:=t.len;omega,λi hi D XT=>L i hi (by rw[<-J];exact D) XT,af t⟩,G,aC,A.trans W5⟩
    case outgrown=>exact he
    all_goals
     obtain⟨o,u,hq,W5⟩:=he;exact⟨o,u,out hq,A.trans W5⟩
   ·exact d.elim
 |.exit id,j=>λQ fr st X a w k hI p d=>wpIn_exit ⟨fr,k,⟨st,X,Steps.refl hI,p,rfl,d⟩,Agr.refl _ _⟩
 |.ret,j=>λQ fr st X a w k hI p d=>wpIn_ret ⟨fr,k,⟨st,X,Steps.refl hI,p,rfl,d⟩,Agr.refl _ _⟩
 | .scope c,j=>by
  refine iC (c:=.scope c) (V:=λQ fr st=>jK U P tbl may k0 n N c j.l (λe o st'=>match e with
   |.goto _=>False
   |e=>Q e o st') fr st) λQ fr st X a w k hI p d=>?_
  refine(wpIn_wide (n:=0)).2 (wp_scope_straight ((wpIn_wide (n:=0)).1 (wpIn_mono (cK z hm c j.l _ fr st X a w k hI p d) λe a' w' he=>?_)));cases e
  case goto l=>obtain⟨_,_,⟨_,_,_,_,_,h⟩,_⟩:=he;exact h.elim
  all_goals exact he
 |.label _,j=>λQ fr st X a w k hI p d=>wpIn_label ⟨fr,k,⟨st,X,Steps.refl hI,p,rfl,d⟩,Agr.refl _ _⟩
 |.rangeFunc _ _ _ _,j=>λQ fr st X a w k hI p d=>d.elim
 |.goto _,j=>λQ fr st X a w k hI p d=>d.elim
 |.refuse _,j=>λQ fr st X a w k hI p d=>d.elim
end
end
open Enc (enc)
section
section
variable {U:Uni}{P:Program}{tbl:Tb U}{may:List Nat}{k0:Nat}
variable {w0:World}{X0 X:Nat->Nat->Prop}{w:World}{fr:Fr}{st:St U}{n:Nat}{N:List Nat}
theorem Gz {t:TypeId}{k:Option Kn}{x:Value}{K:Value->Option Kn->Prop}(h:xF U P t k st K)(b:KnO st.rs x k):∃q,x=.pointer (some q):=by
 unfold xF at h;split at h
 ·rename_i id off;split at h
  ·rename_i g cs T a;have hd:den U st.rs (.loc id off)=some x:=b;simp only[den,PK.id,a,cl,Option.some.injEq]at hd;exact⟨_,hd.symm⟩
  ·exact h.elim
 ·rename_i id path off;split at h
  ·rename_i tt r s a;have hd:den U st.rs (.obj id path off)=some x:=b;simp only[den,PK.id,a,cl,Option.some.injEq]at hd;exact⟨_,hd.symm⟩
  ·exact h.elim
 ·rename_i id li i off;split at h
  ·rename_i r a;split at h
   ·rename_i L c;have hd:den U st.rs (.el id li i off)=some x:=b;simp only[den,PK.id,a,cl,c]at hd;split at hd
    ·injection hd with hd;exact⟨_,hd.symm⟩
    ·cases hd
   ·exact h.elim
  ·exact h.elim
 ·exact h.elim
theorem lD {tmps:Array Value}(l:∀i,tmps.getD i undef=lk fr.g i fr.e)(hS:Sat st.rs X w)(d:aG st.rs fr st.kn):∀(rs:List ResultVar){F:List Value->List (Option Kn)->Prop},mF U P fr st rs F->
 ∃vs e,F vs e/\vs.length=e.length/\(∀j v k,nth vs j=some v->nth e j=some k->KnO st.rs v k)/\(rs.mapM (my tmps)).run P w=.ok vs w
 | [],F,h=>⟨[],[],h,rfl,λj v k b=>by simp[nth]at b,rfl⟩
 | .tmp t::r,F,h=>by
  obtain⟨vs,e,f,o,p,x⟩:=lD l hS d r h;refine⟨_,_,f,by simp[o],λj v k b c=>?_,?_⟩
  ·cases j with
   | zero=>
    simp only[nth,Option.some.injEq]at b c;subst b;subst c;cases y:cP (.s t) st.kn with
    |none=>exact trivial
    |some q=>exact d.get y
   |succ j=>exact p j v k b c
  ·have z:(my tmps (.tmp t)).run P w=.ok (lk fr.g t fr.e) w:=by rw[<-l];rfl
   rw[List.mapM_cons,Sem.run_bind,z];show(Sem.run P (do let A <-r.mapM (my tmps);pure (lk fr.g t fr.e::A)) w)=_;rw[Sem.run_bind,x];rfl
 | .cell a t::r,F,h=>by
  simp only[mF]at h;have B:KnO st.rs (lk fr.g a fr.e) (cP (.s a) st.kn):=by
   cases y:cP (.s a) st.kn with
   |none=>exact trivial
   |some q=>exact d.get y
  obtain⟨q,hq⟩:=Gz h B;obtain⟨v,H,f,D,G⟩:=xE hS d B h;obtain⟨vs,e,f,o,p,x⟩:=lD l hS d r f;refine⟨_,_,f,by simp[o],λj u k b c=>?_,?_⟩
  ·cases j with
   | zero=>
    simp only[nth,Option.some.injEq]at b c;subst b;subst c;exact D
   |succ j=>exact p j u k b c
  ·have C:=G w (Kept.refl _ _);rw[hq]at C;have z:(my tmps (.cell a t)).run P w=.ok v w:=by
    show(do loadVar t (<-asAddr (tmps.getD a undef)):Sem Value).run P w=_;rw[l,hq];exact C
   rw[List.mapM_cons,Sem.run_bind,z];show(Sem.run P (do let A <-r.mapM (my tmps);pure (v::A)) w)=_;rw[Sem.run_bind,x];rfl
theorem Am {fn:Func}{tmps:Array Value}{vs:List Value}(a:(fn.results.toList.mapM (my tmps)).run P w=.ok vs w):(results fn tmps).run P w=.ok (match vs with | [v]=>v|vs=>.tuple ⟨vs⟩) w:=by
 have hm:(fn.results.mapM (my tmps)).run P w=.ok ⟨vs⟩ w:=by
  rw[Array.mapM_eq_mapM_toList];simp[a]
 have b:results fn tmps=(do let vs <-fn.results.mapM (my tmps);pure (if h:vs.size=1 then vs[0]else .tuple vs)):=by
  unfold results my;congr 1
 rw[b,Sem.run_bind,hm];cases vs with
 |nil=>rfl
 | cons v r=>
  cases r with
  |nil=>rfl
  |cons u r=>rfl
theorem zh {a b:Res U}(h:dH a b):cV a (xn U b)=some b:=by
 cases h
 ·rename_i h;simp only[cV,xn,h,Nat.beq_refl]
 ·simp[cV,xn]
 ·simp[cV,xn]
theorem ov {G:List (Res U)}:∀ {ms:List Nat}{us L:List (Res U)},jT (nth G) ms=some us->(∀i,i∈ms->∀b,nth G i=some b->∃a,nth L i=some a/\dH a b)->∃f,br L ms (aK (xn U) us)=some f/\f.length=L.length/\(∀i,i∈ms->nth f i=nth G i)/\∀i,i ∉ ms->nth f i=nth L i
 | [],us,L,c,h=>by
  simp only[jT,Option.some.injEq]at c;subst c;exact⟨L,rfl,rfl,λi hi=>(by cases hi),λ_ _=>rfl⟩
 | m::ms,us,L,c,h=>by
  simp only[jT]at c;split at c
  ·rename_i b A hb p;injection c with c
   subst c;obtain⟨a,l,q⟩:=h m (List.mem_cons_self ..) b hb;have t:=aX l;have e:∀j,nth (cf L m b) j=if j=m then some b else nth L j:=λj=>by
    rw[bD];by_cases d:j=m
    ·rw[if_pos ⟨d,t⟩,if_pos d]
    ·rw[if_neg (λu=>d u.1),if_neg d]
   obtain⟨f,v,y,z,o⟩:=ov (L:=cf L m b) p λi hi x k=>by
    rw[e];by_cases d:i=m
    ·subst d;rw[hb]at k;injection k with k
     subst k;exact⟨b,by rw[if_pos rfl],dH.refl b⟩
    ·rw[if_neg d];exact h i (List.mem_cons_of_mem _ hi) x k
   refine⟨f,?_,by rw[y];simp,λi hi=>?_,λi hi=>?_⟩
   ·simp only[aK,br,l,zh q];exact v
   ·by_cases hm:i∈ms
    ·exact z i hm
    ·have:i=m:=(List.mem_cons.1 hi).resolve_right hm;subst this;rw[o i hm,e,if_pos rfl,hb]
   ·rw[List.mem_cons,not_or]at hi;rw[o i hi.2,e,if_neg hi.1]
  ·cases c
theorem xu {i:Nat}:∀ {l:List Nat}{p q:Nat},posOf i l p=some q->p<=q/\nth l (q - p)=some i
 | [],_,_,h=>by cases h
 | j::r,p,q,h=>by
  simp only[posOf]at h;split at h
  ·rename_i he;injection h with h
   subst h;exact⟨Nat.le_refl _,by rw[Nat.sub_self,Nat.eq_of_beq_eq_true he];rfl⟩
  ·obtain⟨b,a⟩:=xu h;refine⟨by omega,?_⟩;rw[show q - p=(q - (p+1))+1 by omega];exact a
theorem Ay {α β:Type}{f:α->Option β}{l:List α}{r:List β}(h:jT f l=some r){i:Nat}{a:α}(c:nth l i=some a):f a=nth r i:=by
 obtain⟨b,d,e⟩:=(uO h).2 i a c;rw[d,e]
theorem IY {α β:Type}{f:α->Option β}{l:List α}{r:List β}(h:jT f l=some r):r.length=l.length:=(uO h).1
theorem rq {rs:List (Res U)}{key:Key}{k:Kn}:∀ {l:List (Key×Kn)},ot rs l=true->(key,k)∈l->(∃p v,k=.p p/\den U rs p=some v)\/∃l,k=.ag l/\∀j p,nth l j=some (some p)->∃v,den U rs p=some v
 | [],_,h=>by cases h
 | (a,.p p)::r,h,hm=>by
  simp only[ot]at h;split at h
  ·rename_i v b;rcases List.mem_cons.1 hm with e|hm
   ·injection e with e1 c;subst c;exact .inl ⟨p,v,rfl,b⟩
   ·exact rq h hm
  ·cases h
 |(a,.t _)::r,h,_=>by cases h
 | (a,.ag l)::r,h,hm=>by
  simp only[ot]at h;split at h
  ·rename_i d;rcases List.mem_cons.1 hm with e|hm
   ·injection e with e1 c;subst c
    refine .inr ⟨l,rfl,λj p f=>?_⟩;have:=cx.1 d _ (jx f);simp only[GK]at this;split at this
    ·rename_i v b;exact⟨v,b⟩
    ·cases this
   ·exact rq h hm
  ·cases h
 |(a,.f _ _)::r,h,_=>by cases h
theorem qa {key:Key}{k:Kn}:∀ {l:List (Option Kn)}{i:Nat},(key,k)∈qb i l->∃j,key=.s (i+j)/\nth l j=some (some k)
 | [],_,h=>by cases h
 | none::r,i,h=>by
  obtain⟨j,a,b⟩:=qa (l:=r) h;exact⟨j+1,by rw[a];congr 1;omega,b⟩
 | some q::r,i,h=>by
  rcases List.mem_cons.1 h with e|h
  ·injection e with e1 c;subst c;exact⟨0,e1,rfl⟩
  ·obtain⟨j,a,b⟩:=qa (l:=r) h;exact⟨j+1,by rw[a];congr 1;omega,b⟩
theorem vi {id:Nat}{key:Key}{k:Kn}:∀ {l:List AV}{i:Nat},(key,k)∈Ml id i l->∃j p,key=.c id (i+j)/\k=.p p/\nth l j=some (.k p)
 | [],_,h=>by cases h
 | .v _::r,i,h=>by
  obtain⟨j,p,a,b,c⟩:=vi (l:=r) h;exact⟨j+1,p,by rw[a];congr 1;omega,b,c⟩
 | .k q::r,i,h=>by
  rcases List.mem_cons.1 h with e|h
  ·injection e with e1 d;exact⟨0,q,e1,d,rfl⟩
  ·obtain⟨j,p,a,b,c⟩:=vi (l:=r) h;exact⟨j+1,p,by rw[a];congr 1;omega,b,c⟩
theorem mH {key:Key}{k:Kn}:∀ {l:List (PR U)}{i:Nat},(key,k)∈yJ i l->∃j g q T o p,nth l j=some (.blk g q T)/\key=.c (i+j) o/\k=.p p/\nth q o=some (.k p)
 | [],_,h=>by cases h
 | .blk g q T::r,i,h=>by
  rcases List.mem_append.1 h with h|h
  ·obtain⟨o,p,d,e,f⟩:=vi h;exact⟨0,g,q,T,o,p,rfl,by rw[d];simp,e,f⟩
  ·obtain⟨j,a,b,c,o,p,d,e,f⟩:=mH (l:=r) h;exact⟨j+1,a,b,c,o,p,d,by rw[e];congr 1;omega,f⟩
 | .ob .. ::r,i,h=>by
  obtain⟨j,a,b,c,o,p,d,e,f⟩:=mH (l:=r) h;exact⟨j+1,a,b,c,o,p,d,by rw[e];congr 1;omega,f⟩
 | .lst .. ::r,i,h=>by
  obtain⟨j,a,b,c,o,p,d,e,f⟩:=mH (l:=r) h;exact⟨j+1,a,b,c,o,p,d,by rw[e];congr 1;omega,f⟩
theorem BG {T:Type}{c:CP}{J:c.T T}{F G:T->AV->Prop}(h:alC c J F)(d:∀a b,F a b->G a b):alC c J G:=by
 cases c<;>simp only[alC]at h ⊢ <;>first|exact λx=>d _ _ (h x)|exact λx y z=>d _ _ (h x y z)|exact d _ _ h
theorem rE {T:Type}:∀ {l:List CP}{J:Es l T}{F G:T->List AV->Prop},DD l J F->(∀a b,F a b->G a b)->DD l J G
 | [],_,_,_,h,d=>d _ _ h
 |c::l,J,F,G,h,d=>BG (c:=c) h λ_ _ h=>rE h λ_ _ h=>d _ _ h
theorem Kl {T:Type}{a:AP}{J:a.T U T}{F G:T->AA->Prop}(h:alA a J F)(d:∀a b,F a b->G a b):alA a J G:=by
 cases a with
 |one c=>exact BG (c:=c) h λ_ _ h=>d _ _ h
 |agg l=>exact rE (l:=l) h λ_ _ h=>d _ _ h
 |enc tt=>exact λx=>d _ _ (h x)
theorem xZ {T:Type}:∀ {l:List AP}{J:Ey U l T}{F G:T->List AA->Prop},vo l J F->(∀a b,F a b->G a b)->vo l J G
 | [],_,_,_,h,d=>d _ _ h
 |c::l,J,F,G,h,d=>Kl (a:=c) h λ_ _ h=>xZ h λ_ _ h=>d _ _ h
theorem Kj {T:Type}{p:RP}{J:p.T U T}{F G:T->PR U->Prop}(h:alR p J F)(d:∀a b,F a b->G a b):alR p J G:=by
 cases p with
 |ob t=>exact λr s=>d _ _ (h r s)
 |blk l T=>exact λg=>rE (h g) λ_ _ h=>d _ _ h
 |lst t own T=>exact λA c l=>d _ _ (h A c l)
theorem xY {T:Type}:∀ {l:List RP}{J:G5 U l T}{F G:T->List (PR U)->Prop},vn l J F->(∀a b,b.length=l.length->F a b->G a b)->vn l J G
 | [],_,_,_,h,d=>d _ _ rfl h
 |c::l,J,F,G,h,d=>Kj (p:=c) h λ_ _ h=>xY h λ_ _ e h=>d _ _ (by simp[e]) h
theorem u6 {aW A:List Nat}{Q:Ou U->Prop}{v:Value}{k:Option Kn}{J:List (Res U)}{M:Nat->Nat->Prop}{w':World}(h:Js U k0 aW A Q v k st)(ah:J.length=k0)(hs:Steps w k0 X aW ⟨J,[],[]⟩ X st M w')(o:aG st.rs fr st.kn)(C:k=some .pan\/KnO st.rs v k)(Sy:∀i,i∈aW->i<k0):
 ∃out rs' O,ln k v=ln out.kr out.res/\Q out/\br J aW out.upd=some rs'/\sX J aW X w out w' rs' O:=by
 unfold Js at h;split at h
 case h_2=>exact h.elim
 rename_i us ns an V Ta;simp only[Bool.and_eq_true]at Ta;obtain⟨aa,UQ⟩:=Ta;have aa:∀i,i∈A->k0<=i:=λi hi=>Nat.le_of_ble_eq_true (cx.1 aa i hi);have UQ:=oT UQ;obtain⟨L,hL,cL,hl⟩:=hs.md;have TY:∀i,i<k0->i ∉ aW->nth st.rs i=nth J i/\M i=X i:=by
  intro i hi hm;refine hl i (by simp only[];omega) λVD=>?_;rcases cL i VD with h|h
  ·exact hm h
  ·omega
 obtain⟨rs',RL,az,WC,aA⟩:=ov (L:=J) an λi hi b hb=>by
  obtain⟨a,ha⟩:=cj (l:=J) (i:=i) (by rw[ah];exact Sy i hi);obtain⟨b',Y,B⟩:=hs.root i a ha;rw[hb]at Y;injection Y with Y
  subst Y;exact⟨a,ha,B⟩
 have Zz:∀i,i<k0->nth rs' i=nth st.rs i:=by
  intro i hi;by_cases hm:i∈aW
  ·exact WC i hm
  ·rw[aA i hm,(TY i hi hm).1]
 have a0:ns.length=A.length:=IY V;have UO:rs'.length=k0:=by rw[az,ah]
 have ab:∀i j,oP k0 A i=some j->nth (rs'++ns) j=nth st.rs i:=by
  intro i j F;unfold oP at F;split at F
  ·rename_i hb;have hb:i<k0:=by simpa[Nat.blt_eq]using hb
   injection F with F
   subst F;rw[aP,if_pos (by omega),Zz i hb]
  ·simp only[Option.map_eq_some_iff]at F;obtain⟨p,hp,rfl⟩:=F;obtain⟨_,Sd⟩:=xu hp;rw[Nat.sub_zero]at Sd;rw[aP,if_neg (by omega),show k0+p - rs'.length=p by omega,<-Ay V Sd]
 have R:∀ {p q:PK}{u:Value},p.ren (oP k0 A)=some q->den U st.rs p=some u->den U (rs'++ns) q=some u:=by
  intro p q u hp hd;have d:=ab _ _ (PK.yF hp);unfold den at hd ⊢;rw[d,<-hd];cases p<;>simp only[PK.ren,Option.map_eq_some_iff]at hp<;>obtain⟨i,hi,rfl⟩:=hp<;>simp only[PK.id]<;>cases nth st.rs _<;>first|rfl|(rename_i r;cases r<;>rfl)
 have ae:∀ {v:Value}{k Z:Kn},k.ren (oP k0 A)=some Z->jD st.rs v k->jD (rs'++ns) v Z:=by
  intro v k Z o C;cases k with
  |pan=>exact C.elim
  | p p=>
   simp only[Kn.ren,Option.map_eq_some_iff]at o;obtain⟨q,hq,rfl⟩:=o;exact R hq C
  | w p n=>
   simp only[Kn.ren,Option.map_eq_some_iff]at o;obtain⟨q,hq,rfl⟩:=o;obtain⟨a,c,d,D⟩:=C;exact⟨a,c,R hq d,D⟩
  | t l=>
   simp only[Kn.ren,Option.some.injEq]at o;subst o;obtain⟨vs,e,hh⟩:=C;refine⟨vs,e,λj q G=>?_⟩;obtain⟨p,hp,hq⟩:=ez G;obtain⟨u,hu,hd⟩:=hh j p hp;exact⟨u,hu,R hq hd⟩
  | ag l=>
   simp only[Kn.ren,Option.some.injEq]at o;subst o;obtain⟨vs,e,hh⟩:=C;refine⟨vs,e,λj q G=>?_⟩;obtain⟨p,hp,hq⟩:=ez G;obtain⟨u,hu,hd⟩:=hh j p hp;exact⟨u,hu,R hq hd⟩
  | f a b=>
   simp only[Kn.ren,Option.some.injEq]at o;subst o;obtain⟨fn,fs,cs,e,hl,d,D⟩:=C;refine⟨fn,fs,cs,e,by simpa using hl,λj q G=>?_,λj q G=>?_⟩
   ·obtain⟨p,hp,hq⟩:=ez G;obtain⟨u,hu,hd⟩:=d j p hp;exact⟨u,hu,R hq hd⟩
   ·obtain⟨p,hp,hq⟩:=ez G;obtain⟨u,hu,hd⟩:=D j p hp;exact⟨u,hu,R hq hd⟩
 let O:Nat->Nat->Prop:=λi=>if i<k0 then M i else match nth A (i - k0)with
  |some r=>M r
  |none=>λ_=>False
 have hX:∀i,i<k0->O i=M i:=λi hi=>if_pos hi;have aC:∀i r,¬i<k0->nth A (i - k0)=some r->O i=M r:=λi r hi B=>by
  show(if i<k0 then _ else _)=_;rw[if_neg hi,B]
 have Xo:∀i,i<(rs'++ns).length->∃r,O i=M r/\nth (rs'++ns) i=nth st.rs r/\r<st.rs.length/\((i<k0/\r=i)\/(¬i<k0/\k0<=r/\nth A (i - k0)=some r)):=by
  intro i hi;by_cases d:i<k0
  ·refine⟨i,hX i d,by rw[aP,if_pos (by omega),Zz i d],?_,.inl ⟨d,rfl⟩⟩;have:=hs.len;simp only at this;omega
  ·simp at hi;obtain⟨r,B⟩:=cj (l:=A) (i:=i - k0) (by omega);have H:=Ay V B;obtain⟨y,hy⟩:=cj (l:=ns) (i:=i - k0) (by omega);rw[hy]at H;exact⟨r,aC i r d B,by rw[aP,if_neg (by omega),show i - rs'.length=i - k0 by omega,hy,H],aX H,.inr ⟨d,aa r (jx B),B⟩⟩
 refine⟨_,rs',O,(xI ..).symm,h,RL,⟨λi r B=>?_,λi j hi G F TN k I=>?_⟩,hs.inv.ch,λi hi hm=>?_,λi hm k I=>?_,λi d D k I=>?_,?_,λkey q hq V=>?_⟩
 ·obtain⟨m,e1,S,_⟩:=Xo i (aX B);rw[e1];exact hs.inv.sat.res m r (by rw[<-S];exact B)
 ·obtain⟨a,a1,a2,a3,a4⟩:=Xo i hi;obtain⟨b,b1,b2,b3,b4⟩:=Xo j G;rw[a1]at I;rw[b1];refine hs.inv.sat.gX a b a3 b3 (λZ8=>?_) (by rw[<-dW a2,<-dW b2];exact TN) k I;subst Z8;rcases a4 with⟨a5,a6⟩|⟨a5,a6,a7⟩<;>rcases b4 with⟨b5,b6⟩|⟨b5,b6,b7⟩
  ·exact F (a6.symm.trans b6)
  ·omega
  ·omega
  ·have inj:∀(l:List Nat)(x y r:Nat),l.Nodup->nth l x=some r->nth l y=some r->x=y:=by
    intro l
    induction l with
    |nil=>intro x y r _ h;simp[nth]at h
    | cons z l ih=>
     intro x y r H d D;rw[List.nodup_cons]at H;cases x with
     | zero=>
      simp only[nth,Option.some.injEq]at d;subst d;cases y with
      |zero=>rfl
      |succ y=>exact absurd (jx (l:=l) D) H.1
     | succ x=>
      cases y with
      | zero=>
       simp only[nth,Option.some.injEq]at D;subst D;exact absurd (jx (l:=l) d) H.1
      |succ y=>rw[ih x y r H.2 d D]
   have:=inj A _ _ _ UQ a7 b7;omega
 ·rw[hX i (by omega)];exact(TY i (by omega) hm).2
 ·rw[hX i (Sy i hm)]at I;exact hs.inv.old i (Sy i hm) k I
 ·obtain⟨m,e1,S,e3,e4⟩:=Xo i (by simp only[List.length_append];simp only at D;omega);rw[e1]at I;rcases e4 with⟨e5,e6⟩|⟨e5,e6,_⟩
  ·omega
  ·exact hs.inv.new m e6 e3 k I
 ·rcases C with rfl|C
  ·exact .inl rfl
  right;cases k with
  |none=>exact trivial
  | some k=>
   show KnO _ v (k.ren _);cases aN:k.ren (oP k0 A)with
   |none=>exact trivial
   |some Z=>exact ae aN C
 ·obtain⟨i0,i',o',k1,⟨rfl,S⟩|⟨rfl,S⟩,e3,e4⟩:=kX hq
  ·obtain⟨af,_⟩:=dK S;obtain⟨g,cs,T,u,q1,q2,q3⟩:=o _ _ af;exact⟨g,cs,T,u,by show nth (rs'++ns) _=_;rw[ab _ _ e3];exact q1,q2,ae e4 q3⟩
  ·obtain⟨af,_⟩:=dK S;obtain⟨t,r,s,q1,q2⟩:=o _ _ af;exact⟨t,r,s,by show nth (rs'++ns) _=_;rw[ab _ _ e3];exact q1,ae e4 q2⟩
theorem lO {fn:Func}{q:List Nat}{Q:Ou U->Prop}{c:List (Res U)}{aW:List Nat}{kn0:List (Key×Kn)}{a':Act}{w':World}{st':St U}{e:Nat->Nat->Prop}(y:c.length=k0)(z:∀i,i∈aW->i<k0)(A:Rep n fr a')(hs:Steps w k0 X aW ⟨c,kn0,[]⟩ X st' e w')(t:aG st'.rs fr st'.kn)
 (B:oQ U P k0 aW q Q fn fr st'):∃v,(results fn a'.tmps).run P w'=.ok v w'/\aR c aW X w Q (.returned v) w':=by
 obtain⟨vs,b,h,hlen,d,C⟩:=lD A.get hs.inv.sat t _ B;refine⟨_,Am C,?_⟩;have D:Steps w k0 X aW ⟨c,[],[]⟩ X st' e w':=⟨hs.inv,hs.len,hs.md,hs.root⟩;have go:∀ {v k},A5 U k0 aW q Q v k st'->KnO st'.rs v k->∃out rs' e,Ending.returned v=ln out.kr out.res/\Q out/\br c aW out.upd=some rs'/\sX c aW X w out w' rs' e:=by
  intro v k F x;obtain⟨out,rs',G,H,I,J,L⟩:=u6 F y D t (.inr x) z;exact⟨out,rs',G,by rw[<-H];cases k with|none=>rfl|some k=>cases k<;>first|rfl|exact x.elim,I,J,L⟩
 have tup:∀ {vs:List Value}{b:List (Option Kn)},vs.length=b.length->(∀j v k,nth vs j=some v->nth b j=some k->KnO st'.rs v k)->KnO st'.rs (.tuple ⟨vs⟩) (some (.t (aK kt b))):=by
  intro vs b hlen d;refine⟨⟨vs⟩,rfl,λj p a=>?_⟩;rw[bx]at a;cases f:nth b j with
  |none=>rw[f]at a;cases a
  | some k=>
   rw[f]at a;injection a with a
   obtain⟨v,o⟩:=cj (l:=vs) (i:=j) (by rw[hlen];exact aX f);refine⟨v,by rw[aM]at o;simpa using o,?_⟩;have:=d j v k o f;unfold kt at a;split at a
   ·injection a with a;subst a;exact this
   ·cases a
 cases vs with
 | nil=>
  cases b with
  |nil=>exact go h (tup rfl d)
  |cons _ _=>simp at hlen
 | cons v r=>
  cases b with
  |nil=>simp at hlen
  | cons k s=>
   cases r with
   | nil=>
    cases s with
    |nil=>exact go h (d 0 v k rfl rfl)
    |cons _ _=>simp at hlen
   | cons u r=>
    cases s with
    |nil=>simp at hlen
    |cons _ _=>exact go h (tup hlen d)
theorem z8 {f:Nat}{BP:(Ending->World->Prop)->Exit->Act->World->Prop}{R:Array Value->World->(Ending->World->Prop)->Prop}{fn:Func}{c:Ctr U}{V:Code->(Ou U->Prop)->Fr->St U->Prop}{W:List Value->List (Option Kn)->List (Res U)->List (Key×Kn)->(Ou U->Prop)->Prop}(hf:P.funcs[f]? =some fn)
 (hV:∀(code:Code)(Q:Ou U->Prop)(G:List (Res U))(X:Nat->Nat->Prop)(w:World)(kn:List (Key×Kn))(fr:Fr)(a:Act),G.length=c.res.length->Inv w c.res.length X c.aW G X w->Rep fn.ntmps fr a->aG G fr kn->fr.ds= []->V code Q fr ⟨G,kn,[]⟩->code.wpIn (WF none) 0 P (BP (aR G c.aW X w Q)) a w)
 (hR:∀(code:Code)(args:Array Value)(w:World)(E:Ending->World->Prop),fn.body=some code->code.wpIn (WF none) 0 P (BP E) {tmps:=args++Array.replicate (fn.ntmps - args.size) undef,defers:= []} w->R args w E)
 (hW:∀args J rs kc Q,W args J rs kc Q->∃code,fn.body=some code/\Nat.ble args.length fn.ntmps=true/\ot rs (qb 0 J++kc)=true/\V code Q ⟨num 0 args,λ_=>undef,[]⟩ ⟨rs,qb 0 J++kc,[]⟩)
 (h:vo c.args c.body λB A=>vn c.res B λB e=>∀Q:Ou U->Prop,B Q->uV (dU e) (W (aK (qz (aK PR.j2 e)) A) (aK BH A) (dU e) (yJ 0 e++uS 0 e) Q)):LVg U R c:=by
 refine xZ h λB A h=>xY h λB e hl h=>?_;intro Q hQ X w S aa;have h:=kY (λr hr=>by
  obtain⟨j,d,he⟩:=List.mem_iff_getElem.1 hr;exact⟨_,_,S.res j r (by rw[aM,List.getElem?_eq_getElem d,he])⟩) (h Q hQ)
 obtain⟨code,hb,ab,ae,h⟩:=hW _ _ _ _ _ h;have V1:(aK (qz (aK PR.j2 e)) A).length<=fn.ntmps:=Nat.le_of_ble_eq_true ab;have UO:(dU e).length=c.res.length:=by simp[hl]
 have hI:Inv w c.res.length X c.aW (dU e) X w:=⟨S,Ch.refl _ _,λi _ k y=>.inl y,λi Y Z=>by omega,by omega⟩;generalize Vj:aK (qz (aK PR.j2 e)) A=args at h V1 ⊢;have S0:aG (dU e) ⟨num 0 args,λ_=>undef,[]⟩ (qb 0 (aK BH A)++(yJ 0 e++uS 0 e)):=by
  intro key k t;rcases rq ae t with⟨p,v,rfl,hd⟩|⟨l,rfl,hd⟩
  rotate_left
  ·rcases List.mem_append.1 t with t|t
   ·obtain⟨j,rfl,d⟩:=qa t;rw[Nat.zero_add];rw[bx]at d;cases C:nth A j with
    |none=>rw[C]at d;cases d
    | some a=>
     rw[C]at d;injection d with d
     obtain⟨z,rfl,rfl⟩:∃z,a=.agg z/\l=aK avK z:=by
      unfold BH at d;split at d
      ·cases d
      ·cases d
      ·split at d
       ·injection d with d;injection d with d;exact⟨_,rfl,d.symm⟩
       ·cases d
     have D:nth args j=some (.agg ⟨aK (lr (aK PR.j2 e)) z⟩):=by rw[<-Vj,bx,C];rfl
     have H:=aX D;refine⟨⟨aK (lr (aK PR.j2 e)) z⟩,?_,λL k y=>?_⟩
     ·show lk _ j (num 0 args)=_;rw[uR,dif_pos ⟨Nat.zero_le _,by simpa using H⟩];rw[aM,List.getElem?_eq_getElem H]at D;simpa using D
     ·obtain⟨u,hu⟩:=hd L k y;refine⟨u,?_,hu⟩;rw[bx]at y;cases M:nth z L with
      |none=>rw[M]at y;cases y
      | some b=>
       rw[M]at y;injection y with y
       cases b with
       |v x=>cases y
       | k p=>
        injection y with y
        subst y;have I:nth (aK (lr (aK PR.j2 e)) z) L=some u:=by
         rw[bx,M];show some ((den U (aK PR.j2 e) p).getD undef)=_;rw[<-tD,hu];rfl
        rw[aM]at I;simpa using I
   ·rcases List.mem_append.1 t with t|t
    ·obtain⟨_,_,_,_,_,_,_,_,F,_⟩:=mH t;cases F
    ·have I:=kV t;obtain⟨_,_,_,_,_,_,_,_,_,_,F,O⟩:=I;cases O
  rcases List.mem_append.1 t with t|t
  ·obtain⟨j,rfl,d⟩:=qa t;rw[Nat.zero_add];rw[bx]at d;cases C:nth A j with
   |none=>rw[C]at d;cases d
   | some a=>
    rw[C]at d;injection d with d
    have af:a=.one (.k p):=by
     unfold BH at d;split at d
     ·injection d with d;injection d with d;rw[d]
     ·cases d
     ·split at d<;>cases d
    subst af;show den U (dU e) p=some (lk _ j (num 0 args));have D:nth args j=some v:=by
     rw[<-Vj,bx,C];show some ((den U (aK PR.j2 e) p).getD undef)=_;rw[<-tD,hd];rfl
    have H:=aX D;rw[uR,dif_pos ⟨Nat.zero_le _,by simpa using H⟩,hd];rw[aM,List.getElem?_eq_getElem H]at D;rw[<-D];simp
  rcases List.mem_append.1 t with t|t
  rotate_left
  ·have h0:=aa _ _ t;obtain⟨_,_,_,_,_,_,_,_,_,_,rfl,_⟩:=kV t;exact h0
  ·obtain⟨j,g,z,T,o,q,Y,Z,F,O⟩:=mH t;injection F with F
   subst F;rw[Z,Nat.zero_add];refine⟨g,aK (lr (aK PR.j2 e)) z,T,v,?_,?_,hd⟩
   ·rw[lh,Y];rfl
   ·rw[bx,O];show some ((den U (aK PR.j2 e) p).getD undef)=_;rw[<-tD,hd];rfl
 refine hR code _ _ _ hb ?_;have TS:Rep fn.ntmps ⟨num 0 args,λ_=>undef,[]⟩ {tmps:=(⟨args⟩:Array Value)++Array.replicate (fn.ntmps - (⟨args⟩:Array Value).size) undef,defers:= []}:=by
  refine⟨by simp;omega,λi=>?_,rfl⟩;rw[uR];simp only[Nat.zero_le,Nat.sub_zero,true_and,Array.getD_eq_getD_getElem?];by_cases hi:i<args.length
  ·rw[dif_pos hi,Array.getElem?_append_left (by simpa using hi)];simp[hi]
  ·rw[dif_neg hi,Array.getElem?_append_right (by simpa using hi)];rw[Array.getElem?_replicate];split<;>rfl
 exact hV code Q (dU e) X w _ _ _ UO hI TS S0 rfl h
theorem yu {f:Nat}{fn:Func}{c:Ctr U}{V:Code->(Ou U->Prop)->Fr->St U->Prop}{W:List Value->List (Option Kn)->List (Res U)->List (Key×Kn)->(Ou U->Prop)->Prop}(i:P.funcs[f]? =some fn)
 (k:∀(code:Code)(Q:Ou U->Prop)(b:List (Res U))(X:Nat->Nat->Prop)(w:World)(kn:List (Key×Kn))(fr:Fr)(a:Act),b.length=c.res.length->Inv w c.res.length X c.aW b X w->Rep fn.ntmps fr a->aG b fr kn->fr.ds= []->V code Q fr ⟨b,kn,[]⟩->code.wpIn (WF none) 0 P (bodyPostM (WF none) 0 P fn (aR b c.aW X w Q)) a w)
 (l:∀args e rs kc Q,W args e rs kc Q->∃code,fn.body=some code/\Nat.ble args.length fn.ntmps=true/\ot rs (qb 0 e++kc)=true/\V code Q ⟨num 0 args,λ_=>undef,[]⟩ ⟨rs,qb 0 e++kc,[]⟩)
 (h:vo c.args c.body λB j=>vn c.res B λB d=>∀Q:Ou U->Prop,B Q->uV (dU d) (W (aK (qz (aK PR.j2 d)) j) (aK BH j) (dU d) (yJ 0 d++uS 0 d) Q)):LV U P f c:=
 z8 (BP:=bodyPostM (WF none) 0 P fn) (R:=Calls P f) i k (λcode args w E hb o=>(callsIn_wide (n:=0)).1 (callsIn_of_wp_marks (F:=WF none) i hb trivial o)) l h
theorem K7 {f:Nat}{fn:Func}{q:An}{o:List Nat}{c:Ctr U}(z:P.funcs[f]? =some fn)(hm:P.follows .mixedOrders=true)(A:∀f c,tbl.c f=some c->LV U P f c/\bE P f=true)(B:gp (λi=>Nat.blt i c.res.length) c.aW=true)(h:Vc2 U P tbl N fn q o c):LV U P f c:=by
 have t:∀i,i∈c.aW->i<c.res.length:=λi hi=>by simpa[Nat.blt_eq]using cx.1 B i hi
 refine yu (V:=λcode Q fr st=>jK U P tbl c.aW c.res.length fn.ntmps N code q (λe fr st=>match fr.ds,e with
  | [],.normal=>oQ U P c.res.length c.aW o Q fn fr st
  | [],.ret=>oQ U P c.res.length c.aW o Q fn fr st
  | [],.panic [⟨v,false,false⟩]=>A5 U c.res.length c.aW o Q v (some .pan) st
  |_,_=>False) fr st) z ?_ (λargs L rs kc Q h=>?_) h
 ·intro code Q M X w kn fr a u hI C D p h;refine wpIn_mono (cK A hm code q _ _ _ X _ w C hI D h) λe a' w' he=>?_;cases e
  case normal=>
   obtain⟨k,j,⟨st',x,d,l,g3,b⟩,_⟩:=he;have g3:k.ds= []:=g3.trans p;rw[g3]at b;show LeavesInM (WF none) 0 P fn a'.tmps _ a'.defers .returning w';rw[j.defers,g3];exact lO u t j d l b
  case ret=>
   obtain⟨k,j,⟨st',x,d,l,g3,b⟩,_⟩:=he;have g3:k.ds= []:=g3.trans p;rw[g3]at b;show LeavesInM (WF none) 0 P fn a'.tmps _ a'.defers .returning w';rw[j.defers,g3];exact lO u t j d l b
  case panic ch=>
   obtain⟨k,j,⟨st',x,d,l,g3,b⟩,_⟩:=he;have g3:k.ds= []:=g3.trans p;rw[g3]at b;rcases ch with _|⟨⟨v,_|_,_|_⟩,_|⟨O,r⟩⟩<;>first|exact b.elim|skip
   obtain⟨out,rs',F,G,H,I,J⟩:=u6 b u ⟨d.inv,d.len,d.md,d.root⟩ l (.inl rfl) t;show LeavesInM (WF none) 0 P fn a'.tmps _ a'.defers (.panicking [⟨v,false,false⟩]) w';rw[j.defers,g3];exact⟨out,rs',F,G,H,I,J⟩
  case outgrown=>exact he.elim
  all_goals
   obtain⟨k,j,⟨st',x,d,l,g3,b⟩,_⟩:=he;have g3:k.ds= []:=g3.trans p;rw[g3]at b;exact b.elim
 ·unfold Nt at h;split at h
  case h_2=>exact h.elim
  rename_i code hb y;simp only[Bool.and_eq_true]at y;exact⟨code,hb,y.1,y.2,h⟩
def wx {U:Uni}:List (Nat×Ctr U)->Nat->Option (Ctr U)
 | [],_=>none
 | (g,c)::r,f=>match Nat.beq g f with
  |true=>some c
  |false=>wx r f
abbrev iy {U:Uni}(l:List (Nat×Ctr U)):Tb U:=⟨wx l,.bool,[]⟩
def oG(U:Uni)(P:Program):List (Nat×Ctr U)->Prop
 | []=>True
 |(f,c)::r=>LV U P f c/\oG U P r
theorem kJ {c:Ctr U}{f:Nat}:∀ {tb:List (Nat×Ctr U)},wx tb f=some c->oG U P tb->gp (λp=>bE P p.1) tb=true->LV U P f c/\bE P f=true
 | [],h,_,_=>by cases h
 | (g,d)::r,h,a,hb=>by
  unfold wx at h;have b:=cx.1 hb;split at h
  ·rename_i he;injection h with h
   rw[<-h,<-Nat.eq_of_beq_eq_true he];exact⟨a.1,b _ (List.mem_cons_self ..)⟩
  ·exact kJ h a.2 (cx.2 λx e=>b x (List.mem_cons_of_mem _ e))
theorem verify {f:Nat}{fn:Func}{a:An}{b:List Nat}{c:Ctr U}{tb:List (Nat×Ctr U)}{sh:Sh}{al:List (Nat×List PK×List PK)}(d:P.funcs[f]? =some fn)(hm:P.follows .mixedOrders=true)(e:oG U P tb)(hb:(gp (λp=>bE P p.1) tb && gp (λi=>Nat.blt i c.res.length) c.aW)=true)(h:Vc2 U P ⟨wx tb,sh,al⟩ N fn a b c):LV U P f c:=by
 rw[Bool.and_eq_true]at hb;exact K7 d hm (λf c j=>kJ j e hb.1) hb.2 h
theorem aR.pu {rs:List (Res U)}{X:Nat->Nat->Prop}{w w':World}{Q:Ou U->Prop}{v:Value}{k:Option Kn}(hs:Sat rs X w)(q:Pu w w')(b:Q ⟨v,k,[],[],[]⟩)(a:KnO rs v k):aR rs [] X w Q (.returned v) w':=by
 have c:Sat (rs++ []) X w':=by
  rw[List.append_nil];exact⟨λi r d=>(hs.res i r d).ch q (λ_ _ h=>h),hs.gX⟩
 refine⟨_,rs,X,fJ a,b,rfl,c,q.mono λk a=>a.elim,λ_ _ _=>rfl,λi hi=>(by cases hi),λi f e=>by simp at e;omega,.inr (by simpa using a),λ_ k a=>by cases a⟩
theorem aR.one {t:Nat}{r:Nat->Nat}{s s':U.ty t}{X:Nat->Nat->Prop}{w w':World}{Q:Ou U->Prop}{v:Value}{k:Option Kn}{Z:Nat->Prop}(q:Ch (X 0) w w')(hp:U.pred t r s' Z w')(c:∀k,Z k->X 0 k\/w.heap.size<=k)(d:Q ⟨v,k,[.ob t s'],[],[]⟩)(a:KnO [.ob t r s'] v k):aR [.ob t r s] [0] X w Q (.returned v) w':=by
 have e:br [Res.ob t r s] [0] [.ob t s']=some [.ob t r s']:=by simp[br,cV,nth,cf]
 refine⟨_,_,λi=>if i=0 then Z else X i,fJ a,d,e,⟨λi r' b=>?_,λi j hi f o=>?_⟩,q.mono λk a=>⟨0,by simp,a⟩,λi hi hm=>?_,λi hi k a=>?_,λi h l=>by simp at h l;omega,.inr a,λ_ k a=>by cases a⟩
 ·cases i with
  |zero=>simp only[List.append_nil,nth,Option.some.injEq]at b;subst b;exact hp
  |succ i=>simp[nth]at b
 ·simp at hi f;omega
 ·simp at hi hm;omega
 ·simp at hi;subst hi;exact c k a
theorem aR.new {t:Nat}{r:Nat->Nat}{s':U.ty t}{X:Nat->Nat->Prop}{w w':World}{Q:Ou U->Prop}{v:Value}{k:Option Kn}{Z:Nat->Prop}(q:Pu w w')(hp:U.pred t r s' Z w')(d:∀k,Z k->w.heap.size<=k)(e:Q ⟨v,k,[],[.ob t r s'],[]⟩)(a:KnO [.ob t r s'] v k):aR [] [] X w Q (.returned v) w':=by
 refine⟨_,[],λi=>if i=0 then Z else X i,fJ a,e,rfl,⟨λi r' b=>?_,λi j hi f h=>?_⟩,q.mono λk a=>a.elim,λi hi hm=>?_,λi hi=>(by cases hi),λi l c k a=>?_,.inr a,λ_ k a=>by cases a⟩
 ·cases i with
  |zero=>simp only[List.nil_append,nth,Option.some.injEq]at b;subst b;exact hp
  |succ i=>simp[nth]at b
 ·simp at hi f;omega
 ·simp at hi
 ·simp at c;subst c;exact d k a
theorem bJ {l m:List Value}(h:l=m):Value.tuple (List.toArray l)=Value.tuple (List.toArray m):=h▸rfl
theorem fB {l m:List Value}(h:l=m):Value.agg (List.toArray l)=Value.agg (List.toArray m):=h▸rfl
abbrev kn2:Option Kn:=some (.t [none,none])
abbrev kn4:Option Kn:=some (.t [none,none,none,none])
theorem bR {U:Uni}{P:Program}{f:Nat}{fn:Func}{c:Ctr U}(a:P.funcs[f]? =some fn)(hm:P.follows .mixedOrders=true)(tb:List (Nat×Ctr U))(b:oG U P tb)(N:List Nat)(d:An)(e:List Nat){F:Prop}(h:F)(hb:(gp (λp=>bE P p.1) tb && gp (λi=>Nat.blt i c.res.length) c.aW)=true:=by kernel_rfl)(he:Vc2 U P (iy tb) N fn d e c=F:=by kernel_rfl):LV U P f c:=verify a hm b hb (he.mpr h)
theorem aj {a b:Prop}(h:a)(k:a->b):a/\b:=⟨h,k h⟩
theorem KnO.tup {U:Uni}{rs:List (Res U)}{vs:Array Value}:∀(l:List (Option PK)),(∀o∈l,o=none)->KnO rs (.tuple vs) (some (.t l)):=λl h=>⟨vs,rfl,λj k a=>by have:=h _ (jx a);cases this⟩
theorem allEq {α:Sort _}{a:α}{F:α->Prop}(h:F a):∀x,x=a->F x:=λ_ e=>e▸h
theorem ai {α:Type}{a b:α}{l m:List α}(h:a=b)(k:l=m):a::l=b::m:=by rw[h,k]
theorem eS {α:Type}{F:(α->Prop)->Prop}{G:α->Prop}(e:α)(a:F (λx=>x=e))(b:G e):∃J:α->Prop,F J/\∀(_:Nat->Value)(x:α),J x->G x:=⟨_,a,λ_ _ h=>h▸b⟩
theorem dup2 {α β:Type}{F:(α->β->Prop)->Prop}{G:α->β->Prop}(h:F G):∃J:α->β->Prop,F J/\∀(_:Nat->Value)(x:α)(y:β),J x y->G x y:=⟨_,h,λ_ _ _ h=>h⟩
theorem AO {U:Uni}{Q:Ou U->Prop}{a b:Bool}{k:Option Kn}{u:List (Upd U)}{n:List (Res U)}{kc:List (Key×Kn)}(h:Q ⟨.bool a,k,u,n,kc⟩)(c:a=b):Q ⟨.bool b,k,u,n,kc⟩:=c▸h
theorem cv {U:Uni}{Q:Ou U->Prop}{i:IntKind}{a b:Int}{k:Option Kn}{u:List (Upd U)}{n:List (Res U)}{kc:List (Key×Kn)}(h:Q ⟨.int i a,k,u,n,kc⟩)(c:a=b):Q ⟨.int i b,k,u,n,kc⟩:=c▸h
theorem aw {U:Uni}{Q:Ou U->Prop}{a b:Value}{k:Option Kn}{u c:List (Upd U)}{n n':List (Res U)}{kc:List (Key×Kn)}(h:Q ⟨a,k,u,n,kc⟩)(d:a=b)(e:u=c)(f:n=n'):Q ⟨b,k,c,n',kc⟩:=by rw[<-d,<-e,<-f];exact h
end
theorem aJ {a b:Int}(h:a=b):Value.int .i64 a=Value.int .i64 b:=congrArg _ h
theorem aE {a b:Int}(h:a=b):Value.int .u32 a=Value.int .u32 b:=congrArg _ h
theorem eQb {a b:Bool}(h:a=b):Value.bool a=Value.bool b:=congrArg _ h
end
end V
open Go Go.RowKit V
open Go.IntKind (i64 u32 u64 wrap_i64 wrap_u32)
open Enc (enc)
section
structure BkE where
 p:Int
 A:Option Addr
 n:Nat
 c:Nat
instance:Enc BkE:=⟨λx=>[.int .i64 x.p,.slice x.A x.n x.c],2,λ_=>rfl,by simp[Value.oneCell'],by omega⟩
structure MOE where
 k:Int
 a:Int
 A:Option Addr
 n:Nat
 c:Nat
instance:Enc MOE:=⟨λx=>[.int .i64 x.k,.int .u32 x.a,.slice x.A x.n x.c],3,λ_=>rfl,by simp[Value.oneCell'],by omega⟩
structure MOW where
 k:Int
 a:Int
 A:Option Addr
 n:Nat
 c:Nat
 l:List U32
def MOW.o(x:MOW):MOE:=⟨x.k,x.a,x.A,x.n,x.c⟩
structure Wt where
 A:Option Addr
 c:Nat
 l:List U32
structure BSt where
 rows:Nat->Option (Nat×List MOW)
 last:Wt
def BSt.nil:BSt:=⟨λ_=>none,none,0,[]⟩
structure KU(w:World)(W:Nat->Prop)(s:BSt):Prop where
 own:∀g c es,s.rows g=some (c,es)->Own w (λk=>k=g) 124 (some ⟨g,0,none⟩) es.length c (es.map MOW.o)
 off:∀g q,s.rows g=some q->g<w.heap.size/\¬W g
 wds:∀g c es x,s.rows g=some (c,es)->x∈es->Rd w W x.A x.n x.c x.l
 last:Rd w W s.last.A s.last.l.length s.last.c s.last.l
 lt:∀k,W k->k<w.heap.size
def Rf(W:Nat->Prop)(s:BSt):Nat->Prop:=λk=>W k\/∃q,s.rows k=some q
section
variable {w w':World}{W X:Nat->Prop}{s:BSt}
theorem KU.ch(h:KU w W s)(q:Ch X w w')(hb:∀k,Rf W s k->¬X k):KU w' W s:=
 ⟨λg c es a=>(h.own g c es a).ch q λk b=>hb k (.inr ⟨_,b▸a⟩),λg r a=>⟨Nat.lt_of_lt_of_le (h.off g r a).1 q.size,(h.off g r a).2⟩,λg c es x a d=>(h.wds g c es x a d).ch q λk b=>hb k (.inl b),h.last.ch q λk b=>hb k (.inl b),λk b=>Nat.lt_of_lt_of_le (h.lt k b) q.size⟩
theorem KU.nil:KU w (λ_=>False) BSt.nil:=⟨λg c es h=>(by cases h),λg q h=>(by cases h),λg c es x h=>(by cases h),Rd.nil,λk h=>h.elim⟩
end
def MN(s:BSt)(b:BkE)(es:List MOW):Prop:=(b.A=none/\b.n=0/\b.c=0/\es= [])\/∃g,b.A=some ⟨g,0,none⟩/\b.n=es.length/\s.rows g=some (b.c,es)
theorem MN.one {s:BSt}{b:BkE}{es fs:List MOW}(h:MN s b es)(k:MN s b fs):es=fs:=by
 rcases h with⟨a,_,_,rfl⟩|⟨g,a,_,d⟩
 ·rcases k with⟨_,_,_,rfl⟩|⟨g,k1,_⟩
  ·rfl
  ·rw[a]at k1;cases k1
 ·rcases k with⟨k1,_⟩|⟨e,k1,_,c⟩
  ·rw[a]at k1;cases k1
  ·rw[a]at k1;injection k1 with k1
   injection k1 with k1
   subst k1;rw[d]at c;injection c with c
   injection c
structure Rk(bk:List BkE)(s:BSt)(p:Int):Prop where
 one:∀(i j:Nat)(b b':BkE),bk[i]? =some b->bk[j]? =some b'->b.p=b'.p->i=j
 has:∀b,b∈bk->∃es,MN s b es
 few:∀b,b∈bk->b.p=p->b.n<=1000000
end
section
structure Ins where
 op:Int
 cond:Int
 a:Int
 b:Int
 c:Int
 imm:Int
def Ins.zero:Ins:=⟨0,0,0,0,0,0⟩
abbrev Ins.arr(i:Ins):Array Value:= #[.int .i64 i.op,.int .i64 i.cond,.int .i64 i.a,.int .i64 i.b,.int .i64 i.c,.int .i32 i.imm]
instance:Enc Ins:=⟨λx=>[.int .i64 x.op,.int .i64 x.cond,.int .i64 x.a,.int .i64 x.b,.int .i64 x.c,.int .i32 x.imm],6,λ_=>rfl,by simp[Value.oneCell'],by omega⟩
structure Mc where
 mp:Option Addr
 l1:Int
 f:Fl
def Mc.cells(s:Mc):List Value:=.pointer s.mp:: .int .i64 s.l1::s.f.cells
def Mc.gZ(s:Mc)(i:Nat)(x:U32):Mc:= {s with f:=s.f.gZ i x}
theorem CM {x y:Value}{l vs:List Value}(h:vs.length=l.length):setAt (⟨x::y::l⟩:Array Value) 2 vs=⟨x::y::vs⟩:=by
 apply Array.ext_getElem?;intro i;rw[eW _ _ _ _ (by show 2+vs.length<=l.length+1+1;omega)]
 match i with
 |0=>simp
 |1=>simp
 | i+2=>
  by_cases hi:i<vs.length
  ·rw[if_pos ⟨by omega,by omega⟩];simp
  ·rw[if_neg (by omega)];simp;rw[List.getElem?_eq_none (by omega),List.getElem?_eq_none (by omega)]
structure McP(w:World)(g:Nat)(s:Mc):Prop where
 len:s.f.Ok
 blk:∃T,Blk w g ⟨s.cells⟩ T
section
variable {w:World}{g:Nat}{s:Mc}{K:World->Prop}
theorem McP.st(h:McP w g s){i:Nat}{v:Value}{s':Mc}(hi:i<21)(a:s'.f.Ok)(b:s'.cells=s.cells.set i v)(c:∀w',McP w' g s'->Ch (λk=>k=g) w w'->K w'):aB w ⟨g,i,none⟩ [v] K:=by
 obtain⟨T,hb⟩:=h.blk;exact eJ hb (by show i+1<=s.cells.length;show i+1<=21;omega) λw2 st=>c w2 ⟨a,T,by rw[b];exact st.blk.cast (by rw[kK];simp)⟩ st.ch
theorem McP.li(h:McP w g s){X:Nat->Prop}(a:∀k,k=g↔X k):Rd w X (some (Addr.mk g 2 none)) s.f.rs.length s.f.rs.length s.f.rs:=by
 obtain⟨T,hb⟩:=h.blk;refine⟨rfl,Nat.le_refl _,λk c=>by rw[(a k).2 c];exact hb.lt,λi x hi=>⟨_,rfl,(a _).1 rfl,λj b=>?_⟩⟩;have b:j=0:=by have:Enc.size U32=1:=rfl;omega
 subst b;rw[aY,aY,Nat.add_zero,show Enc.size U32=1 from rfl,Nat.mul_one];show w.cell? ⟨g,2+i,none⟩=some (O x.v);refine hb.cell ?_;rw[Nat.add_comm];simpa[Mc.cells]using Fl.rA h.len hi
theorem McP.stR(h:McP w g s){X:Nat->Prop}(b:∀k,k=g↔X k){i:Nat}{x y:U32}(f:s.f.rs[i]? =some x){o:Nat}{vs:List Value}(p:o+vs.length<=1)(a:enc y=(enc x).take o++vs++(enc x).drop (o+vs.length))(d:∀w',(∀k,k=g↔X k)/\McP w' g (s.gZ i y)->Ch X w w'->K w'):
 aB w (((Addr.mk g 2 none).add (i*1)).add o) vs K:=by
 have hi:i<15:=by have:=(List.getElem?_eq_some_iff.1 f).1;rw[h.len]at this;exact this
 have hlen:(s.f.gZ i y).Ok:=by show(List.set s.f.rs i y).length=15;rw[List.length_set];exact h.len
 obtain⟨T,hb⟩:=h.blk;rw[aY,aY,Nat.mul_one];have ex:enc x= [.int .u32 x.v]:=rfl;have t:enc y= [.int .u32 y.v]:=rfl;rw[ex,t]at a;have l:∀j,j<=21->j<=(⟨s.cells⟩:Array Value).size:=λj u=>u;have same:x=y->s.gZ i y=s:=λe=>by
  subst e;have:s.f.rs.set i x=s.f.rs:=by
   apply List.ext_getElem?;intro j;rw[List.getElem?_set];split
   ·rename_i e;subst e;rw[if_pos (by rw[h.len];exact hi),f]
   ·rfl
  unfold Mc.gZ Fl.gZ;rw[this]
 show aB w ⟨g,2+i+o,none⟩ vs K
 match vs,o,p with
 | [v],0,_=>
  simp at a;subst a;refine McP.st h (i:=2+i) (s':=s.gZ i y) (by omega) hlen ?_ λw' z q=>d w' ⟨b,z⟩ (q.mono λk c=>(b k).1 c);show _::_::(s.f.gZ i y).cells=_;rw[Fl.rz h.len hi,Nat.add_comm];rfl
 | [],0,_=>
  simp at a;refine⟨g,2+i,_,T,rfl,hb,by simpa using l (2+i) (by omega),λw2 st=>d w2 ⟨b,by rw[same (by cases x;cases y;simp at a;rw[a])];exact⟨h.len,T,st.blk⟩⟩ (st.ch.mono λk c=>(b k).1 c)⟩
 | [],1,_=>
  simp at a;refine⟨g,2+i+1,_,T,rfl,hb,by simpa using l (2+i+1) (by omega),λw2 st=>d w2 ⟨b,by rw[same (by cases x;cases y;simp at a;rw[a])];exact⟨h.len,T,st.blk⟩⟩ (st.ch.mono λk c=>(b k).1 c)⟩
theorem McP.all(h:McP w g s){f':Fl}(a:f'.Ok)(b:∀w',McP w' g {s with f:=f'}->Ch (λk=>k=g) w w'->K w'):aB w ⟨g,2,none⟩ f'.cells K:=by
 obtain⟨T,hb⟩:=h.blk;have e:∀vs:List Value,vs.length=19->setAt (⟨s.cells⟩:Array Value) 2 vs=⟨.pointer s.mp:: .int .i64 s.l1::vs⟩:=λvs h=>CM (x:=.pointer s.mp) (y:=.int .i64 s.l1) (l:=s.f.cells) h;exact eJ hb (Nat.le_refl 21) λw2 st=>b w2 ⟨a,T,st.blk.cast (e f'.cells rfl).symm⟩ st.ch
end
def JJ:List Value->Option Mc
 | .pointer p:: .int .i64 l::r=>(match qn r with
  |some f=>some ⟨p,l,f⟩
  |none=>none)
 |_=>none
theorem GM {cs:List Value}{s:Mc}(h:JJ cs=some s):cs=s.cells/\s.f.Ok:=by
 unfold JJ at h;split at h
 ·split at h
  ·rename_i f a;injection h with h
   subst h;obtain⟨rfl,b⟩:=iB a;exact⟨rfl,b⟩
  ·cases h
 ·cases h
end
section
structure K8 where
 a:Int
 b:Int
 c:Int
 d:Int
 e:Int
 f:Int
 g:Int
 h:Int
def K8.cells(k:K8):List Value:= [.int .u32 k.a,.int .u32 k.b,.int .u32 k.c,.int .u32 k.d,.int .u32 k.e,.int .u32 k.f,.int .u32 k.g,.int .u32 k.h]
structure Rs where
 dp:Option Addr
 k:K8
 sA:Option Addr
 sN:Nat
 sC:Nat
 th:Int
 tb:Int
 f:Fl
 left:Int
def Rs.pre(s:Rs):List Value:=.pointer s.dp::(s.k.cells++ [.slice s.sA s.sN s.sC,.int .i64 s.th,.int .i64 s.tb])
def Rs.cells(s:Rs):List Value:=s.pre++(s.f.cells++ [.int .i64 s.left])
theorem kL {pre mid post vs:List Value}{n:Nat}(b:pre.length=n)(h:vs.length=mid.length):setAt (⟨pre++(mid++post)⟩:Array Value) n vs=⟨pre++(vs++post)⟩:=by
 subst b;apply Array.ext_getElem?;intro i;rw[eW _ _ _ _ (by simp;omega)];have e:∀l:List Value,(⟨l⟩:Array Value)[i]? =l[i]? :=λl=>by simp
 rw[e,e];by_cases a:i<pre.length
 ·rw[if_neg (by omega),List.getElem?_append_left a,List.getElem?_append_left a]
 ·have c:(pre++(mid++post))[i]? =(mid++post)[i - pre.length]? :=List.getElem?_append_right (by omega);have d:(pre++(vs++post))[i]? =(vs++post)[i - pre.length]? :=List.getElem?_append_right (by omega);rw[c,d];by_cases f:i - pre.length<vs.length
  ·rw[if_pos ⟨by omega,by omega⟩,List.getElem?_append_left f]
  ·rw[if_neg (by omega),List.getElem?_append_right (by omega),List.getElem?_append_right (by omega),h]
structure RsP(w:World)(g:Nat)(s:Rs):Prop where
 len:s.f.Ok
 blk:∃T,Blk w g ⟨s.cells⟩ T
section
variable {w:World}{g:Nat}{s:Rs}{K:World->Prop}
theorem RsP.st(h:RsP w g s){i:Nat}{v:Value}{s':Rs}(hi:i<32)(a:s'.f.Ok)(b:s'.cells=s.cells.set i v)(c:∀w',RsP w' g s'->Ch (λk=>k=g) w w'->K w'):aB w ⟨g,i,none⟩ [v] K:=by
 obtain⟨T,hb⟩:=h.blk;exact eJ hb (by show i+1<=s.cells.length;show i+1<=32;omega) λw2 st=>c w2 ⟨a,T,by rw[b];exact st.blk.cast (by rw[kK];simp)⟩ st.ch
theorem RsP.all(h:RsP w g s){f':Fl}(a:f'.Ok)(b:∀w',RsP w' g {s with f:=f'}->Ch (λk=>k=g) w w'->K w'):aB w ⟨g,12,none⟩ f'.cells K:=by
 obtain⟨T,hb⟩:=h.blk;have e:∀vs:List Value,vs.length=s.f.cells.length->setAt (⟨s.cells⟩:Array Value) 12 vs=⟨s.pre++(vs++ [.int .i64 s.left])⟩:=λvs h=>kL (pre:=s.pre) (mid:=s.f.cells) (post:= [.int .i64 s.left]) rfl h;exact eJ hb (show 12+19<=32 by decide) λw2 st=>b w2 ⟨a,T,st.blk.cast (e f'.cells rfl).symm⟩ st.ch
theorem RsP.key(h:RsP w g s){a:K8}(b:∀w',RsP w' g {s with k:=a}->Ch (λk=>k=g) w w'->K w'):aB w ⟨g,1,none⟩ a.cells K:=by
 obtain⟨T,hb⟩:=h.blk;have e:∀vs:List Value,vs.length=s.k.cells.length->setAt (⟨s.cells⟩:Array Value) 1 vs=⟨[.pointer s.dp]++(vs++([.slice s.sA s.sN s.sC,.int .i64 s.th,.int .i64 s.tb]++(s.f.cells++ [.int .i64 s.left])))⟩:=λvs h=>kL (pre:= [.pointer s.dp]) (mid:=s.k.cells) (post:= [.slice s.sA s.sN s.sC,.int .i64 s.th,.int .i64 s.tb]++(s.f.cells++ [.int .i64 s.left])) rfl h;exact eJ hb (show 1+8<=32 by decide) λw2 st=>b w2 ⟨h.len,T,st.blk.cast (e a.cells rfl).symm⟩ st.ch
theorem RsP.rdF(h:RsP w g s){j:Nat}{u:Value}(a:s.f.cells[j]? =some u):w.cell? ⟨g,12+j,none⟩=some u:=by
 obtain⟨T,hb⟩:=h.blk;have c:s.f.cells.length=19:=rfl;have b:j<s.f.cells.length:=(List.getElem?_eq_some_iff.1 a).1;refine hb.cell ?_;have e:(⟨s.cells⟩:Array Value)[12+j]? =s.cells[12+j]? :=by simp
 rw[e];show(s.pre++(s.f.cells++ [.int .i64 s.left]))[12+j]? =some u;rw[List.getElem?_append_right (by show 12<=12+j;omega),show 12+j - s.pre.length=j by show 12+j - 12=j;omega,List.getElem?_append_left b,a]
theorem RsP.rdK(h:RsP w g s){j:Nat}{u:Value}(a:s.k.cells[j]? =some u):w.cell? ⟨g,1+j,none⟩=some u:=by
 obtain⟨T,hb⟩:=h.blk;have b:j<s.k.cells.length:=(List.getElem?_eq_some_iff.1 a).1;refine hb.cell ?_;have e:(⟨s.cells⟩:Array Value)[1+j]? =s.cells[1+j]? :=by simp
 rw[e];show([.pointer s.dp]++(s.k.cells++([.slice s.sA s.sN s.sC,.int .i64 s.th,.int .i64 s.tb]++(s.f.cells++ [.int .i64 s.left]))))[1+j]? =some u;rw[List.getElem?_append_right (by show 1<=1+j;omega),show 1+j - [Value.pointer s.dp].length=j by show 1+j - 1=j;omega,List.getElem?_append_left b,a]
end
def OT:List Value->Option K8
 | [.int .u32 a,.int .u32 b,.int .u32 c,.int .u32 d,.int .u32 e,.int .u32 f,.int .u32 g,.int .u32 h]=>some ⟨a,b,c,d,e,f,g,h⟩
 |_=>none
theorem JK {cs:List Value}{k:K8}(h:OT cs=some k):cs=k.cells:=by
 unfold OT at h;split at h
 ·injection h with h;subst h;rfl
 ·cases h
def JI:List Value->Option Rs
 | .pointer p:: .int .u32 a:: .int .u32 b:: .int .u32 c:: .int .u32 d:: .int .u32 e:: .int .u32 f:: .int .u32 g:: .int .u32 h:: .slice A n c':: .int .i64 t:: .int .i64 tb::i::j::k::o::q::u::v::x::y::z::B::C::D::F::G::H::I::J::L:: [.int .i64 l]=>(match qn [i,j,k,o,q,u,v,x,y,z,B,C,D,F,G,H,I,J,L]with
  |some M=>some ⟨p,⟨a,b,c,d,e,f,g,h⟩,A,n,c',t,tb,M,l⟩
  |none=>none)
 |_=>none
theorem GL {cs:List Value}{s:Rs}(h:JI cs=some s):cs=s.cells/\s.f.Ok:=by
 unfold JI at h;split at h
 ·split at h
  ·rename_i a b;injection h with h
   subst h;obtain⟨e,c⟩:=iB b;refine⟨?_,c⟩;show _=_++(a.cells++_);rw[<-e];rfl
  ·cases h
 ·cases h
end
theorem zl(lo n:Int){R:aV}{w:World}(h:∃a:Bool->World->Prop,(split (decide ((n:Int)<1)) (a true w) (split (decide ((n:Int)>32)) (a true w) (split (decide ((lo:Int)<0)) (a true w) (split (decide ((lo:Int)>31)) (a true w) (a (decide ((i64.wrap (lo+n):Int)>32)) w)))))/\∀(f:Nat->Value)(c:Bool),∀b,a c b->split c (R (.tuple #[O 0,vB false]) b) (eh n λd=>eh lo λe=>R (.tuple #[O (u32.wrap (u64.wrap ((u64.wrap ((u64.wrap ((1:Int)*2 ^ (min d u64.bits))) - 1):Int)*2 ^ (min e u64.bits)))),vB true]) b)):Calls prog 148 #[J lo,J n] w (bI R):=rvc [] (aq (.node none (.node none (.node (some ⟨[(25,.one (.bool))],(rgN 6 20)⟩) .leaf .leaf) .leaf) .leaf)) Tryz.func148 h
theorem wE(a lo n:Int){R:aV}{w:World}(h:Calls prog 148 #[J lo,J n] w λe b=>∃c:Int,∃d:Bool,e=.returned (.tuple #[O c,vB d])/\split (!d) (R (O 0) b) (eh lo λf=>R (O ((u32.wrap (BitVec.ofInt u32.bits a &&& BitVec.ofInt u32.bits c).toNat:Int).fdiv (2 ^ (min f u32.bits)))) b)):Calls prog 125 #[O a,J lo,J n] w (bI R):=rvc [] (.leaf) Tryz.func125 h
theorem rF(a lo n v:Int){R:aV}{w:World}(h:Calls prog 148 #[J lo,J n] w λe c=>∃b:Int,∃d:Bool,e=.returned (.tuple #[O b,vB d])/\split (!d) (R (O a) c) (eh lo λf=>R (O (u32.wrap (BitVec.ofInt u32.bits (u32.wrap (BitVec.ofInt u32.bits a &&& ~~~(BitVec.ofInt u32.bits b)).toNat) ||| BitVec.ofInt u32.bits (u32.wrap (BitVec.ofInt u32.bits (u32.wrap ((v:Int)*2 ^ (min f u32.bits))) &&& BitVec.ofInt u32.bits b).toNat)).toNat)) c)):Calls prog 152 #[O a,J lo,J n,O v] w (bI R):=rvc [] (.leaf) Tryz.func152 h
theorem vt(c n:Int){R:aV}{w:World}(h:∃a:Bool->World->Prop,(split (decide ((n:Int)<1)) (a true w) (a (decide ((n:Int)>32)) w))/\∀(i:Nat->Value)(d:Bool),∀b,a d b->split d (R (.int .i32 0) b) (eh (i64.wrap (32 - n)) λe=>eh (i64.wrap (32 - n)) λf=>R (.int .i32 ((IntKind.i32.wrap (u32.wrap ((c:Int)*2 ^ (min e u32.bits))):Int).fdiv (2 ^ (min f IntKind.i32.bits)))) b)):Calls prog 127 #[O c,J n] w (bI R):=rvc [] (aq (.node none (.node none (.node (some ⟨[(10,.one (.bool))],(rgN 5 6)⟩) .leaf .leaf) .leaf) .leaf)) Tryz.func127 h
theorem BJ(a b:Int){R:aV}{w:World}(h:split ((b:Int)==0) (R (O 4294967295) w) (nz b (R (O (u32.wrap ((a:Int).tdiv b))) w))):Calls prog 153 #[O a,O b] w (bI R):=rvc [] (.leaf) Tryz.func153 h
theorem zm(a n:Int){R:aV}{w:World}(h:eh n λb=>R (O (u32.wrap ((a:Int)*2 ^ (min b u32.bits)))) w):Calls prog 154 #[O a,O n] w (bI R):=rvc [] (.leaf) Tryz.func154 h
theorem wD(a n:Int){R:aV}{w:World}(h:eh n λb=>R (O ((a:Int).fdiv (2 ^ (min b u32.bits)))) w):Calls prog 155 #[O a,O n] w (bI R):=rvc [] (.leaf) Tryz.func155 h
theorem wG(a n:Int){R:aV}{w:World}(h:eh n λs8=>R (O (u32.wrap ((IntKind.i32.wrap a:Int).fdiv (2 ^ (min s8 IntKind.i32.bits))))) w):Calls prog 156 #[O a,O n] w (bI R):=rvc [] (.leaf) Tryz.func156 h
theorem Hi(op:Int){R:aV}{w:World}(h:∃a:Bool->World->Prop,(split (decide ((op:Int)>=1)) (a (decide ((op:Int)<25)) w) (a false w))/\∀(d:Nat->Value)(b:Bool),∀c,a b c->R (vB b) c):Calls prog 149 #[J op] w (bI R):=rvc [] (aq (.node none (.node (some ⟨[(2,.one (.bool))],(rgN 2 7)⟩) .leaf .leaf) .leaf)) Tryz.func149 h
theorem zL(op:Int){R:aV}{w:World}(h:Calls prog 149 #[J op] w λe a=>∃b:Bool,e=.returned (vB b)/\split (!b) (R (.string (⟨#[]⟩:ByteArray)) a) ((0<=(op:Int)/\(op:Int)<((25:Nat):Int))/\∃c:ByteArray,a.cell? (((vA 2).add (Int.toNat op*2)).add 1)=some (.string c)/\R (.string c) a)):Calls prog 126 #[J op] w (bI R):=rvc [] (.leaf) Tryz.func126 h
theorem wN(B C D id F G:Int){R:aV}{w:World}(h:∀(o:Nat)(x:World),o=w.heap.size->x=w.alloc (.cells #[J B,J C,J D,J id,J F,(.int .i32 G)] 214)->∀(j:Nat)(y:World),j=x.heap.size->y=x.alloc (.cells (#[J 0,J 0,J 0,J 0,J 0,(.int .i32 0)]) 214)->∃H L M O Q S:Int,aO y (vA o) 0 [J H,J L,J M,J O,J Q,.int .i32 S]/\aB y (vA j) [J H,J L,J M,J O,J Q,(.int .i32 S)] λRq=>aB Rq ((vA j).add 0) [J 0] λT=>∃V:Int,T.cell? ((vA o).add 0)=some (J V)/\Calls prog 126 #[J V] T λe Y=>∃Z:ByteArray,e=.returned (.string Z)/\∀(A:Nat)(R0:World),A=Y.heap.size->R0=Y.alloc (.stringIter Z 0)->∃I:Nat->Option Addr->Nat->Nat->World->Prop,(∃m,I m none 0 0 R0)/\∀(m:Nat)(Vn:Nat->Value)(q:oA)(t u:Nat),∀v,I m q t u v->∃z:ByteArray,∃p:Nat,v.heap[A]? =some (.stringIter z p)/\split (decide (p<z.size)) (∀c:World,c= {v with heap:=v.heap.setIfInBounds A (.stringIter z (p+(Utf8.decode z p).2))}->∀UM:Bool,UM=(((((Utf8.decode z p).1:Nat):Int):Int)==97)->split UM (∃S4:Int,c.cell? ((vA o).add 2)=some (J S4)/\∀(d:Nat)(a:World),d=c.heap.size->a=c.alloc (.cells #[J S4,J 0,J 14,J 22,J 4] 268)->∃aa:oA,∃ab ae:Nat,∃f,(Builtin.append_ #[264,264] 264 #[(.slice q t u),(.slice (pvA d) 1 1)]:Sem Value).run prog a=.ok (.slice aa ab ae) f/\aB f ((vA j).add 2) [J 0] λl=>∃m1,m1<m/\I m1 aa ab ae l) (∀VT:Bool,VT=(((((Utf8.decode z p).1:Nat):Int):Int)==98)->split VT (∃YE:Int,c.cell? ((vA o).add 3)=some (J YE)/\∀(d:Nat)(a:World),d=c.heap.size->a=c.alloc (.cells #[J YE,J 0,J 14,J 18,J 4] 268)->∃af:oA,∃ah an:Nat,∃f,(Builtin.append_ #[264,264] 264 #[(.slice q t u),(.slice (pvA d) 1 1)]:Sem Value).run prog a=.ok (.slice af ah an) f/\aB f ((vA j).add 3) [J 0] λl=>∃m1,m1<m/\I m1 af ah an l) (∀UJ:Bool,UJ=(((((Utf8.decode z p).1:Nat):Int):Int)==99)->split UJ (∃az:Int,c.cell? ((vA o).add 4)=some (J az)/\∀(d:Nat)(a:World),d=c.heap.size->a=c.alloc (.cells #[J az,J 0,J 14,J 14,J 4] 268)->∃aA:oA,∃aC aN:Nat,∃f,(Builtin.append_ #[264,264] 264 #[(.slice q t u),(.slice (pvA d) 1 1)]:Sem Value).run prog a=.ok (.slice aA aC aN) f/\aB f ((vA j).add 4) [J 0] λl=>∃m1,m1<m/\I m1 aA aC aN l) (∀WJ:Bool,WJ=(((((Utf8.decode z p).1:Nat):Int):Int)==107)->split WJ (∃a0:Int,c.cell? ((vA o).add 1)=some (J a0)/\∀(d:Nat)(a:World),d=c.heap.size->a=c.alloc (.cells #[J a0,J 0,J 6,J 22,J 3] 268)->∃a1:oA,∃a2 a3:Nat,∃f,(Builtin.append_ #[264,264] 264 #[(.slice q t u),(.slice (pvA d) 1 1)]:Sem Value).run prog a=.ok (.slice a1 a2 a3) f/\aB f ((vA j).add 1) [J 0] λl=>∃m1,m1<m/\I m1 a1 a2 a3 l) (∀a4:Bool,a4=(((((Utf8.decode z p).1:Nat):Int):Int)==117)->split a4 (∃a5:Int,c.cell? ((vA o).add 5)=some (.int .i32 a5)/\∀(d:Nat)(a:World),d=c.heap.size->a=c.alloc (.cells #[J (i64.wrap a5),J 0,J 65535,J 0,J 16] 268)->∃a6:oA,∃a7 a8:Nat,∃f,(Builtin.append_ #[264,264] 264 #[(.slice q t u),(.slice (pvA d) 1 1)]:Sem Value).run prog a=.ok (.slice a6 a7 a8) f/\aB f ((vA j).add 5) [(.int .i32 0)] λl=>∃m1,m1<m/\I m1 a6 a7 a8 l) (∃SW:Int,c.cell? ((vA o).add 5)=some (.int .i32 SW)/\∀(d:Nat)(a:World),d=c.heap.size->a=c.alloc (.cells #[J (i64.wrap SW),J (-32768),J 32767,J 0,J 16] 268)->∃Wj:oA,∃Wh Wi:Nat,∃f,(Builtin.append_ #[264,264] 264 #[(.slice q t u),(.slice (pvA d) 1 1)]:Sem Value).run prog a=.ok (.slice Wj Wh Wi) f/\aB f ((vA j).add 5) [(.int .i32 0)] λl=>∃m1,m1<m/\I m1 Wj Wh Wi l)))))) (∃b:bP,b 1 ((vA j).block)/\∃a9 ba bb bc bd bf:Int,aO v.drew (vA j) 0 [J a9,J ba,J bb,J bc,J bd,.int .i32 bf]/\aB v.drew (vA j) [J a9,J ba,J bb,J bc,J bd,(.int .i32 bf)] λa=>∃b1:bP,(∀i k,b i k->b1 i k)/\∃bh bk bl bm bs bA:Int,aO a (vA j) 0 [J bh,J bk,J bl,J bm,J bs,.int .i32 bA]/\R (.tuple #[(.slice q t u),(.agg #[J bh,J bk,J bl,J bm,J bs,(.int .i32 bA)])]) a)):Calls prog 151 #[(.agg #[J B,J C,J D,J id,J F,(.int .i32 G)])] w (bI R):=rvc [24,33,42,51,60] (aq (aq (aq (.node none (aq (.node none (.node (some ⟨[(2,.one (.slice))],[2,5,12,13,14,15,16,17,18,19,20,21,22,23,24,25,26,27,28,29,30,31,32,33,34,35,36,37,38,39,40,41,42,43,44,45,46,47,48,49,50,51,52,53,54,55,56,57,58,59,60,61,62,63,64,65,66,67,68,69]⟩) .leaf .leaf) .leaf)) .leaf)))) Tryz.func151 h
theorem zM(q t u id v x:Int){R:aV}{w:World}(h:∀(f:Nat)(i:World),f=w.heap.size->i=w.alloc (.cells #[J q,J t,J u,J id,J v,(.int .i32 x)] 214)->∃y:Int,i.cell? ((vA f).add 0)=some (J y)/\Calls prog 149 #[J y] i λe j=>∃z:Bool,e=.returned (vB z)/\split (!z) (R (J 50) j) (∃A B C D F G:Int,aO j (vA f) 0 [J A,J B,J C,J D,J F,.int .i32 G]/\Calls prog 151 #[(.agg #[J A,J B,J C,J D,J F,(.int .i32 G)])] j λe H=>∃L:oA,∃k an:Nat,∃M O Q S T V:Int,e=.returned (.tuple #[(.slice L k an),(.agg #[J M,J O,J Q,J S,J T,(.int .i32 V)])])/\∀(l:Nat)(Y:World),l=H.heap.size->Y=H.alloc (.cells (#[J 0,J 0,J 0,J 0,J 0,(.int .i32 0)]) 214)->aB Y (vA l) [J M,J O,J Q,J S,J T,(.int .i32 V)] λRE=>∃I:Nat->Int->World->Prop,(∃m,I m 0 RE)/\∀(m:Nat)(SQ:Nat->Value)(b:Int),∀a,I m b a->split (decide ((b:Int)<((k:Nat):Int))) ((0<=(b:Int)/\(b:Int)<((k:Nat):Int))/\aF L λaz=>∃Z aa ab ae af:Int,aO a (az.add (Int.toNat b*5)) 0 [J Z,J aa,J ab,J ae,J af]/\∀(c:Nat)(Sb:World),c=a.heap.size->Sb=a.alloc (.cells (#[J 0,J 0,J 0,J 0,J 0]) 268)->aB Sb (vA c) [J Z,J aa,J ab,J ae,J af] λd=>∃o:Bool->World->Prop,(∃Ty:Int,d.cell? ((vA c).add 0)=some (J Ty)/\∃Ue:Int,d.cell? ((vA c).add 1)=some (J Ue)/\split (decide ((Ty:Int)<Ue)) (o true d) (∃WK:Int,d.cell? ((vA c).add 0)=some (J WK)/\∃VF:Int,d.cell? ((vA c).add 2)=some (J VF)/\o (decide ((WK:Int)>VF)) d))/\∀(Vm:Nat->Value)(VT:Bool),∀p,o VT p->split VT (R (J 51) p) (∃m1,m1<m/\I m1 (i64.wrap (b+1)) p)) (∃Wc Wb YH YG YF ah:Int,aO a (vA l) 0 [J Wc,J Wb,J YH,J YG,J YF,.int .i32 ah]/\split (!(bG #[J Wc,J Wb,J YH,J YG,J YF,(.int .i32 ah)] #[J 0,J 0,J 0,J 0,J 0,(.int .i32 0)])) (R (J 51) a) (R (J 0) a)))):Calls prog 150 #[(.agg #[J q,J t,J u,J id,J v,(.int .i32 x)])] w (bI R):=rvc [] (aq (aq (aq (.node none (aq (.node none (.node (some ⟨[(18,.one (.int .i64))],[2,6,18,19,20,21,22,23,24,25,26,27,28,29,30,31,32,33,34]⟩) (aq (aq (.node none (.node none (aq (.node none (.node (some ⟨[(33,.one (.bool))],(rgN 22 12)⟩) .leaf .leaf) .leaf)) .leaf) .leaf))) .leaf) .leaf)) .leaf)))) Tryz.func150 h
theorem wO(p q t id u v:Int){R:aV}{w:World}(h:∀(d:Nat)(j:World),d=w.heap.size->j=w.alloc (.cells #[J p,J q,J t,J id,J u,(.int .i32 v)] 214)->∃x y z A B C:Int,aO j (vA d) 0 [J x,J y,J z,J A,J B,.int .i32 C]/\Calls prog 150 #[(.agg #[J x,J y,J z,J A,J B,(.int .i32 C)])] j λe f=>∃k:Int,e=.returned (J k)/\split ((k:Int) !=0) (R (.tuple #[O 0,J k]) f) (∃D:Int,f.cell? ((vA d).add 0)=some (J D)/\∀F:Int,F=(u32.wrap ((u32.wrap D:Int)*2 ^ 26))->∃G H L M Q S:Int,aO f (vA d) 0 [J G,J H,J L,J M,J Q,.int .i32 S]/\Calls prog 151 #[(.agg #[J G,J H,J L,J M,J Q,(.int .i32 S)])] f λe T=>∃V:oA,∃l a1:Nat,∃Y Z aa ab ae af:Int,e=.returned (.tuple #[(.slice V l a1),(.agg #[J Y,J Z,J aa,J ab,J ae,(.int .i32 af)])])/\∀(Ru:Nat)(RE:World),Ru=T.heap.size->RE=T.alloc (.cells (#[J 0,J 0,J 0,J 0,J 0,(.int .i32 0)]) 214)->aB RE (vA Ru) [J Y,J Z,J aa,J ab,J ae,(.int .i32 af)] λR0=>∃I:Nat->Int->Int->World->Prop,(∃m,I m F 0 R0)/\∀(m:Nat)(SQ:Nat->Value)(o a:Int),∀b,I m o a b->split (decide ((a:Int)<((l:Nat):Int))) ((0<=(a:Int)/\(a:Int)<((l:Nat):Int))/\aF V λa2=>∃ah an az aA aC:Int,aO b (a2.add (Int.toNat a*5)) 0 [J ah,J an,J az,J aA,J aC]/\∀(c:Nat)(RZ:World),c=b.heap.size->RZ=b.alloc (.cells (#[J 0,J 0,J 0,J 0,J 0]) 268)->aB RZ (vA c) [J ah,J an,J az,J aA,J aC] λi=>∃aN:Int,i.cell? ((vA c).add 3)=some (J aN)/\∃Xf:Int,i.cell? ((vA c).add 4)=some (J Xf)/\∃Tp:Int,i.cell? ((vA c).add 0)=some (J Tp)/\Calls prog 152 #[O o,J aN,J Xf,O (u32.wrap Tp)] i λe R8=>∃a0:Int,e=.returned (O a0)/\∀Uj:Int,Uj=a0->∃m1,m1<m/\I m1 Uj (i64.wrap (a+1)) R8) (R (.tuple #[O o,J 0]) b))):Calls prog 128 #[(.agg #[J p,J q,J t,J id,J u,(.int .i32 v)])] w (bI R):=rvc [5] (aq (aq (aq (aq (.node none (aq (.node none (.node (some ⟨[(5,.one (.int .u32)),(26,.one (.int .i64))],[5,9,26,27,28,29,30,31,32,33,34,35,36,37,38,39]⟩) .leaf .leaf) .leaf)) .leaf))))) Tryz.func128 h
theorem wP(d:Int){R:aV}{w:World}(h:∀(j:Nat)(A:World),j=w.heap.size->A=w.alloc (.cells (#[J 0,J 0,J 0,J 0,J 0,(.int .i32 0)]) 214)->Calls prog 125 #[O d,J 26,J 6] A λe B=>∃C:Int,e=.returned (O C)/\∀(c:Nat)(D:World),c=B.heap.size->D=B.alloc (.cells (#[J 0,J 0,J 0,J 0,J 0,(.int .i32 0)]) 214)->aB D (vA c) [J (i64.wrap C),J 0,J 0,J 0,J 0,(.int .i32 0)] λF=>∃G:Int,F.cell? ((vA c).add 0)=some (J G)/\Calls prog 126 #[J G] F λe H=>∃L:ByteArray,e=.returned (.string L)/\∀(x:Nat)(M:World),x=H.heap.size->M=H.alloc (.stringIter L 0)->∃I:Nat->World->Prop,(∃m,I m M)/\∀(m:Nat)(Vn:Nat->Value),∀i,I m i->∃z:ByteArray,∃p:Nat,i.heap[x]? =some (.stringIter z p)/\split (decide (p<z.size)) (∀f:World,f= {i with heap:=i.heap.setIfInBounds x (.stringIter z (p+(Utf8.decode z p).2))}->∀Q:Bool,Q=(((((Utf8.decode z p).1:Nat):Int):Int)==97)->split Q (Calls prog 125 #[O d,J 22,J 4] f λe b=>∃S:Int,e=.returned (O S)/\aB b ((vA c).add 2) [J (i64.wrap S)] λa=>∃m1,m1<m/\I m1 a) (∀T:Bool,T=(((((Utf8.decode z p).1:Nat):Int):Int)==98)->split T (Calls prog 125 #[O d,J 18,J 4] f λe b=>∃V:Int,e=.returned (O V)/\aB b ((vA c).add 3) [J (i64.wrap V)] λa=>∃m1,m1<m/\I m1 a) (∀Y:Bool,Y=(((((Utf8.decode z p).1:Nat):Int):Int)==99)->split Y (Calls prog 125 #[O d,J 14,J 4] f λe b=>∃Z:Int,e=.returned (O Z)/\aB b ((vA c).add 4) [J (i64.wrap Z)] λa=>∃m1,m1<m/\I m1 a) (∀UJ:Bool,UJ=(((((Utf8.decode z p).1:Nat):Int):Int)==107)->split UJ (Calls prog 125 #[O d,J 22,J 3] f λe b=>∃aa:Int,e=.returned (O aa)/\aB b ((vA c).add 1) [J (i64.wrap aa)] λa=>∃m1,m1<m/\I m1 a) (∀Xe:Bool,Xe=(((((Utf8.decode z p).1:Nat):Int):Int)==117)->split Xe (Calls prog 125 #[O d,J 0,J 16] f λe b=>∃WJ:Int,e=.returned (O WJ)/\aB b ((vA c).add 5) [(.int .i32 (IntKind.i32.wrap WJ))] λa=>∃m1,m1<m/\I m1 a) (Calls prog 127 #[O d,J 16] f λe b=>∃TT:Int,e=.returned (.int .i32 TT)/\aB b ((vA c).add 5) [(.int .i32 TT)] λa=>∃m1,m1<m/\I m1 a)))))) (∃Yl Yk Yj Yi Yh Yg:Int,aO i (vA c) 0 [J Yl,J Yk,J Yj,J Yi,J Yh,.int .i32 Yg]/\Calls prog 128 #[(.agg #[J Yl,J Yk,J Yj,J Yi,J Yh,(.int .i32 Yg)])] i λe b=>∃UT US:Int,e=.returned (.tuple #[O UT,J US])/\∃y:Bool->World->Prop,(split ((US:Int) !=0) (y true b) (y ((UT:Int) !=d) b))/\∀(Vm:Nat->Value)(X9:Bool),∀a,y X9 a->split X9 (aB a (vA j) [J 0,J 0,J 0,J 0,J 0,(.int .i32 0)] λk=>∃l o q t u v:Int,aO k (vA j) 0 [J l,J o,J q,J t,J u,.int .i32 v]/\R (.tuple #[(.agg #[J l,J o,J q,J t,J u,(.int .i32 v)]),J 50]) k) (∃ab ae af ah an az:Int,aO a (vA c) 0 [J ab,J ae,J af,J ah,J an,.int .i32 az]/\aB a (vA j) [J ab,J ae,J af,J ah,J an,(.int .i32 az)] λk=>∃l o q t u v:Int,aO k (vA j) 0 [J l,J o,J q,J t,J u,.int .i32 v]/\R (.tuple #[(.agg #[J l,J o,J q,J t,J u,(.int .i32 v)]),J 0]) k))):Calls prog 117 #[O d] w (bI R):=rvc [24,30,36,42,48] (aq (aq (.node none (aq (.node none (.node (some ⟨[],[6,17,18,19,20,21,22,23,24,25,26,27,28,29,30,31,32,33,34,35,36,37,38,39,40,41,42,43,44,45,46,47,48,49,50,51,52,53]⟩) .leaf .leaf) .leaf)) (.node none (aq (.node none (.node (some ⟨[(65,.one (.bool))],(rgN 59 7)⟩) .leaf .leaf) .leaf)) .leaf)))) Tryz.func117 h
theorem zP(b d f fd i j k l o p q t u fn fo v:Int)(x fr fs:Bool)(c:Int){R:aV}{w:World}(h:∀(y:Nat)(a:World),y=w.heap.size->a=w.alloc (.cells #[O b,O d,O f,O fd,O i,O j,O k,O l,O o,O p,O q,O t,O u,O fn,O fo,O v,vB x,vB fr,vB fs] 65)->∃z A B C D F G H I L M Q S T V Y:Int,∃Z aa ab:Bool,aO a (vA y) 0 [O z,O A,O B,O C,O D,O F,O G,O H,O I,O L,O M,O Q,O S,O T,O V,O Y,vB Z,vB aa,vB ab]/\Calls prog 171 #[(.agg #[O z,O A,O B,O C,O D,O F,O G,O H,O I,O L,O M,O Q,O S,O T,O V,O Y,vB Z,vB aa,vB ab]),J c] a λe Ro=>∃x7:Value,e=.returned x7/\Bq prog qu true x7 #[] Ro λe Rq=>∃x8:Bool,e=.returned (vB x8)/\R (vB x8) Rq):Calls prog 157 #[(.agg #[O b,O d,O f,O fd,O i,O j,O k,O l,O o,O p,O q,O t,O u,O fn,O fo,O v,vB x,vB fr,vB fs]),J c] w (bI R):=rvc [] (.leaf) Tryz.func157 h
theorem Ci(d e f fd i j k l o p q t u fn fo v:Int)(x fr fs:Bool)(c:Int){R:aV}{w:World}(h:∀(b:Nat)(a:World),b=w.heap.size->a=w.alloc (.cells #[O d,O e,O f,O fd,O i,O j,O k,O l,O o,O p,O q,O t,O u,O fn,O fo,O v,vB x,vB fr,vB fs] 65)->∀y:Bool,y=((c:Int)==0)->split y (R (.func (.func 176) #[] #[]) a) (∀z:Bool,z=((c:Int)==1)->split z (R (.func (.func 177) #[] #[(.pointer (pvA b))]) a) (∀A:Bool,A=((c:Int)==2)->split A (R (.func (.func 178) #[] #[(.pointer (pvA b))]) a) (∀B:Bool,B=((c:Int)==3)->split B (R (.func (.func 179) #[] #[(.pointer (pvA b))]) a) (∀C:Bool,C=((c:Int)==4)->split C (R (.func (.func 180) #[] #[(.pointer (pvA b))]) a) (∀D:Bool,D=((c:Int)==5)->split D (R (.func (.func 181) #[] #[(.pointer (pvA b))]) a) (∀F:Bool,F=((c:Int)==6)->split F (R (.func (.func 182) #[] #[(.pointer (pvA b))]) a) (R (.func (.func 183) #[] #[]) a)))))))):Calls prog 171 #[(.agg #[O d,O e,O f,O fd,O i,O j,O k,O l,O o,O p,O q,O t,O u,O fn,O fo,O v,vB x,vB fr,vB fs]),J c] w (bI R):=rvc [6,8,11,14,17,20,23] (.leaf) Tryz.func171 h
theorem wZ {R:aV}{w:World}(h:R (vB true) w):Calls prog 176 #[] w (bI R):=rvc [] (.leaf) Tryz.func176 h
theorem wY(a:Addr){R:aV}{w:World}(h:∃b:Bool,w.cell? (a.add 16)=some (vB b)/\R (vB b) w):Calls prog 177 #[(.pointer (some a))] w (bI R):=rvc [] (.leaf) Tryz.func177 h
theorem wX(a:Addr){R:aV}{w:World}(h:∃b:Bool,w.cell? (a.add 16)=some (vB b)/\R (vB (!b)) w):Calls prog 178 #[(.pointer (some a))] w (bI R):=rvc [] (.leaf) Tryz.func178 h
theorem wW(a:Addr){R:aV}{w:World}(h:∃b:Bool,w.cell? (a.add 17)=some (vB b)/\R (vB b) w):Calls prog 179 #[(.pointer (some a))] w (bI R):=rvc [] (.leaf) Tryz.func179 h
theorem wV(a:Addr){R:aV}{w:World}(h:∃b:Bool,w.cell? (a.add 17)=some (vB b)/\R (vB (!b)) w):Calls prog 180 #[(.pointer (some a))] w (bI R):=rvc [] (.leaf) Tryz.func180 h
theorem wU(a:Addr){R:aV}{w:World}(h:∃b:Bool,w.cell? (a.add 18)=some (vB b)/\R (vB b) w):Calls prog 181 #[(.pointer (some a))] w (bI R):=rvc [] (.leaf) Tryz.func181 h
theorem wT(a:Addr){R:aV}{w:World}(h:∃b:Bool,w.cell? (a.add 18)=some (vB b)/\R (vB (!b)) w):Calls prog 182 #[(.pointer (some a))] w (bI R):=rvc [] (.leaf) Tryz.func182 h
theorem wS {R:aV}{w:World}(h:R (vB false) w):Calls prog 183 #[] w (bI R):=rvc [] (.leaf) Tryz.func183 h
theorem Hq(x:oA)(D F G id H I:Int){R:aV}{w:World}(h:∀(d:Nat)(C:World),d=w.heap.size->C=w.alloc (.cells #[J D,J F,J G,J id,J H,(.int .i32 I)] 214)->∀(c:Nat)(a:World),c=C.heap.size->a=C.alloc (.cells (#[J 0,O 0]) 151)->∃A:Int,a.cell? ((vA d).add 0)=some (J A)/\(0<=(A:Int)/\(A:Int)<((25:Nat):Int))/\∃q:Int,a.cell? ((vA 0).add (Int.toNat A*1))=some (J q)/\∀L:Bool,L=((q:Int)==1)->split L (∃M Q S T V Y:Int,aO a (vA d) 0 [J M,J Q,J S,J T,J V,.int .i32 Y]/\Calls prog 129 #[(.pointer x),(.agg #[J M,J Q,J S,J T,J V,(.int .i32 Y)])] a λe f=>e=.returned (.tuple #[])/\aB f (vA c) [J 0,O 0] λo=>∃j l:Int,(o.cell? ((vA c).add 0)=some (J j)/\o.cell? ((vA c).add 1)=some (O l))/\R (.agg #[J j,O l]) o) (∀Z:Bool,Z=((q:Int)==2)->split Z (∃b:bP,b 2 (((vA d).add 2).block)/\∃B:Int,a.drew.cell? ((vA d).add 2)=some (J B)/\b 4 (((vA d).add 0).block)/\∃Sz:Int,a.drew.cell? ((vA d).add 0)=some (J Sz)/\b 7 (((vA d).add 3).block)/\∃t:Int,a.drew.cell? ((vA d).add 3)=some (J t)/\aF x λZV=>(0<=(t:Int)/\(t:Int)<((15:Nat):Int))/\b 12 ((((ZV.add 2).add 0).add (Int.toNat t*1)).block)/\∃S4:Int,a.drew.cell? (((ZV.add 2).add 0).add (Int.toNat t*1))=some (O S4)/\b 15 (((vA d).add 4).block)/\∃u:Int,a.drew.cell? ((vA d).add 4)=some (J u)/\aF x λaa=>(0<=(u:Int)/\(u:Int)<((15:Nat):Int))/\b 20 ((((aa.add 2).add 0).add (Int.toNat u*1)).block)/\∃Tp:Int,a.drew.cell? (((aa.add 2).add 0).add (Int.toNat u*1))=some (O Tp)/\aF x λfj=>Calls prog 130 #[J Sz,O S4,O Tp] a.drew λe f=>∃YE:Int,e=.returned (O YE)/\Kept (bY b [0,1,2,5,6,8,9,13,14,16,17,22,23,24]) a.drew f/\∃b1:bP,(∀i k,b i k->b1 i k)/\(0<=(B:Int)/\(B:Int)<((15:Nat):Int))/\aB f (((fj.add 2).add 0).add (Int.toNat B*1)) [O YE] λo=>Kept (bY b1 [22]) f o/\∃b2:bP,(∀i k,b1 i k->b2 i k)/\aB o (vA c) [J 0,O 0] λp=>∃j l:Int,(p.cell? ((vA c).add 0)=some (J j)/\p.cell? ((vA c).add 1)=some (O l))/\R (.agg #[J j,O l]) p) (∀UJ:Bool,UJ=((q:Int)==3)->split UJ (∃YC YB YA Yz Yy Yx:Int,aO a (vA d) 0 [J YC,J YB,J YA,J Yz,J Yy,.int .i32 Yx]/\Calls prog 131 #[(.pointer x),(.agg #[J YC,J YB,J YA,J Yz,J Yy,(.int .i32 Yx)])] a λe f=>∃Yw Yv:Int,e=.returned (.agg #[J Yw,O Yv])/\aB f (vA c) [J Yw,O Yv] λo=>∃j l:Int,(o.cell? ((vA c).add 0)=some (J j)/\o.cell? ((vA c).add 1)=some (O l))/\R (.agg #[J j,O l]) o) (∀ab:Bool,ab=((q:Int)==4)->split ab (∃ae:Int,a.cell? ((vA d).add 0)=some (J ae)/\split ((ae:Int)==19) (∃b:bP,aF x λaf=>b 4 ((af.add 2).block)/\∃UT US Yf Ye Yd Yc Yb Ya ah an az aA aC aN a0 a1:Int,∃a2 a3 a4:Bool,aO a.drew (af.add 2) 0 [O UT,O US,O Yf,O Ye,O Yd,O Yc,O Yb,O Ya,O ah,O an,O az,O aA,O aC,O aN,O a0,O a1,vB a2,vB a3,vB a4]/\b 7 (((vA d).add 2).block)/\∃v:Int,a.drew.cell? ((vA d).add 2)=some (J v)/\aF x λa5=>(0<=(v:Int)/\(v:Int)<((15:Nat):Int))/\b 12 ((((a5.add 2).add 0).add (Int.toNat v*1)).block)/\∃a6:Int,a.drew.cell? (((a5.add 2).add 0).add (Int.toNat v*1))=some (O a6)/\b 15 (((vA d).add 3).block)/\∃y:Int,a.drew.cell? ((vA d).add 3)=some (J y)/\aF x λa7=>(0<=(y:Int)/\(y:Int)<((15:Nat):Int))/\b 20 ((((a7.add 2).add 0).add (Int.toNat y*1)).block)/\∃a8:Int,a.drew.cell? (((a7.add 2).add 0).add (Int.toNat y*1))=some (O a8)/\Calls prog 132 #[(.agg #[O UT,O US,O Yf,O Ye,O Yd,O Yc,O Yb,O Ya,O ah,O an,O az,O aA,O aC,O aN,O a0,O a1,vB a2,vB a3,vB a4]),O a6,O a8] a.drew λe f=>∃a9 ba bb bc bd bf bh bk bl bm bs bA bC bF bN ca:Int,∃cb cc ck:Bool,e=.returned (.agg #[O a9,O ba,O bb,O bc,O bd,O bf,O bh,O bk,O bl,O bm,O bs,O bA,O bC,O bF,O bN,O ca,vB cb,vB cc,vB ck])/\Kept (bY b [0,1,5,6,8,9,13,14,16,17]) a.drew f/\∃b1:bP,(∀i k,b i k->b1 i k)/\aF x λfk=>aB f (fk.add 2) [O a9,O ba,O bb,O bc,O bd,O bf,O bh,O bk,O bl,O bm,O bs,O bA,O bC,O bF,O bN,O ca,vB cb,vB cc,vB ck] λo=>∃b2:bP,(∀i k,b1 i k->b2 i k)/\aB o (vA c) [J 0,O 0] λp=>∃j l:Int,(p.cell? ((vA c).add 0)=some (J j)/\p.cell? ((vA c).add 1)=some (O l))/\R (.agg #[J j,O l]) p) (∃b:bP,aF x λcn=>b 4 ((cn.add 2).block)/\∃ct cu cF cL cM c0 c1 c2 c3 c4 c5 c6 c7 c8 c9 da:Int,∃dc dd dk:Bool,aO a.drew (cn.add 2) 0 [O ct,O cu,O cF,O cL,O cM,O c0,O c1,O c2,O c3,O c4,O c5,O c6,O c7,O c8,O c9,O da,vB dc,vB dd,vB dk]/\b 7 (((vA d).add 2).block)/\∃z:Int,a.drew.cell? ((vA d).add 2)=some (J z)/\aF x λdr=>(0<=(z:Int)/\(z:Int)<((15:Nat):Int))/\b 12 ((((dr.add 2).add 0).add (Int.toNat z*1)).block)/\∃dT:Int,a.drew.cell? (((dr.add 2).add 0).add (Int.toNat z*1))=some (O dT)/\b 14 (((vA d).add 5).block)/\∃ea:Int,a.drew.cell? ((vA d).add 5)=some (.int .i32 ea)/\Calls prog 132 #[(.agg #[O ct,O cu,O cF,O cL,O cM,O c0,O c1,O c2,O c3,O c4,O c5,O c6,O c7,O c8,O c9,O da,vB dc,vB dd,vB dk]),O dT,O (u32.wrap ea)] a.drew λe f=>∃eb ec ed ee ef et eu ew ey eC eL eM eN eR e2 e3:Int,∃e4 e7 e8:Bool,e=.returned (.agg #[O eb,O ec,O ed,O ee,O ef,O et,O eu,O ew,O ey,O eC,O eL,O eM,O eN,O eR,O e2,O e3,vB e4,vB e7,vB e8])/\Kept (bY b [0,1,5,6,8,9]) a.drew f/\∃b1:bP,(∀i k,b i k->b1 i k)/\aF x λfl=>aB f (fl.add 2) [O eb,O ec,O ed,O ee,O ef,O et,O eu,O ew,O ey,O eC,O eL,O eM,O eN,O eR,O e2,O e3,vB e4,vB e7,vB e8] λo=>∃b2:bP,(∀i k,b1 i k->b2 i k)/\aB o (vA c) [J 0,O 0] λp=>∃j l:Int,(p.cell? ((vA c).add 0)=some (J j)/\p.cell? ((vA c).add 1)=some (O l))/\R (.agg #[J j,O l]) p)) (∀e9:Bool,e9=((q:Int)==5)->split e9 (∃fa fb fc fe ff fg:Int,aO a (vA d) 0 [J fa,J fb,J fc,J fe,J ff,.int .i32 fg]/\Calls prog 133 #[(.pointer x),(.agg #[J fa,J fb,J fc,J fe,J ff,(.int .i32 fg)])] a λe f=>e=.returned (.tuple #[])/\aB f (vA c) [J 0,O 0] λo=>∃j l:Int,(o.cell? ((vA c).add 0)=some (J j)/\o.cell? ((vA c).add 1)=some (O l))/\R (.agg #[J j,O l]) o) (∀fh:Bool,fh=((q:Int)==6)->split fh (∃fi:Int,a.cell? ((vA d).add 5)=some (.int .i32 fi)/\aB a (vA c) [J 1,O (u32.wrap fi)] λf=>∃j l:Int,(f.cell? ((vA c).add 0)=some (J j)/\f.cell? ((vA c).add 1)=some (O l))/\R (.agg #[J j,O l]) f) (aB a (vA c) [J 0,O 0] λf=>∃j l:Int,(f.cell? ((vA c).add 0)=some (J j)/\f.cell? ((vA c).add 1)=some (O l))/\R (.agg #[J j,O l]) f))))))):Calls prog 118 #[(.pointer x),(.agg #[J D,J F,J G,J id,J H,(.int .i32 I)])] w (bI R):=rvc [9,14,42,47,95,100] (.leaf) Tryz.func118 h
theorem Ce(o p q fd t u v x y z A B C fn fo D:Int)(F fr fs:Bool){R:aV}{w:World}(h:∀(a:Nat)(f:World),a=w.heap.size->f=w.alloc (.cells #[O o,O p,O q,O fd,O t,O u,O v,O x,O y,O z,O A,O B,O C,O fn,O fo,O D,vB F,vB fr,vB fs] 65)->∀(j:Nat)(l:World),j=f.heap.size->l=f.alloc (.cells (#[O 0,O 0,O 0,O 0,O 0,O 0,O 0,O 0,O 0,O 0,O 0,O 0,O 0,O 0,O 0,O 0,O 0]) 146)->∀(c:Nat)(G:World),c=l.heap.size->G=l.alloc (.cells (#[O 0,O 0,O 0,O 0,O 0,O 0,O 0,O 0,O 0,O 0,O 0,O 0,O 0,O 0,O 0,O 0,O 0]) 146)->∃b:bP,∀H:oA,H=(some (if 17=0 then Addr.mk c 0 none else(vA c).add (0*1)))->∀I:Nat,I=17 - 0->∀L:Nat,L=17 - 0->∀M:oA,M=(some (if 15=0 then(vA a).add 0 else((vA a).add 0).add (0*1)))->∀Q:Nat,Q=15 - 0->∀S:Nat,S=15 - 0->∃x7:Int,∃d,(Builtin.copy_ #[22,22] 3 #[(.slice H I L),(.slice M Q S)]:Sem Value).run prog G.drew=.ok (J x7) d/\∃b1:bP,(∀i k,b i k->b1 i k)/\∃b2:bP,b2 1 (((vA a).add 15).block)/\∃T:Int,d.drew.cell? ((vA a).add 15)=some (O T)/\b2 2 ((vA a).block)/\∃V Y Z Wx Ww Wv Zq Zp aa ab ae af ah an az aA:Int,∃aC aN a0:Bool,aO d.drew (vA a) 0 [O V,O Y,O Z,O Wx,O Ww,O Wv,O Zq,O Zp,O aa,O ab,O ae,O af,O ah,O an,O az,O aA,vB aC,vB aN,vB a0]/\Calls prog 89 #[(.agg #[O V,O Y,O Z,O Wx,O Ww,O Wv,O Zq,O Zp,O aa,O ab,O ae,O af,O ah,O an,O az,O aA,vB aC,vB aN,vB a0])] d.drew λe RE=>∃RR:Int,e=.returned (O RR)/\Kept (bY b2 [0,1]) d.drew RE/\∃b3:bP,(∀i k,b2 i k->b3 i k)/\(0<=(15:Int)/\(15:Int)<((17:Nat):Int))/\aB RE ((vA c).add (Int.toNat 15*1)) [O T] λR0=>∃b4:bP,(∀i k,b3 i k->b4 i k)/\(0<=(16:Int)/\(16:Int)<((17:Nat):Int))/\aB R0 ((vA c).add (Int.toNat 16*1)) [O RR] λSb=>∃b5:bP,(∀i k,b4 i k->b5 i k)/\∃SM SL TJ TI TH Wp Wo Wn Zg Zf Ze Zd Zc Zb Za Y9 a1:Int,aO Sb (vA c) 0 [O SM,O SL,O TJ,O TI,O TH,O Wp,O Wo,O Wn,O Zg,O Zf,O Ze,O Zd,O Zc,O Zb,O Za,O Y9,O a1]/\aB Sb (vA j) [O SM,O SL,O TJ,O TI,O TH,O Wp,O Wo,O Wn,O Zg,O Zf,O Ze,O Zd,O Zc,O Zb,O Za,O Y9,O a1] λRY=>∃Si Sg TB TA Tz Uf Vb Va a2 a3 a4 a5 a6 a7 a8 a9 ba:Int,aO RY (vA j) 0 [O Si,O Sg,O TB,O TA,O Tz,O Uf,O Vb,O Va,O a2,O a3,O a4,O a5,O a6,O a7,O a8,O a9,O ba]/\R (.agg #[O Si,O Sg,O TB,O TA,O Tz,O Uf,O Vb,O Va,O a2,O a3,O a4,O a5,O a6,O a7,O a8,O a9,O ba]) RY):Calls prog 82 #[(.agg #[O o,O p,O q,O fd,O t,O u,O v,O x,O y,O z,O A,O B,O C,O fn,O fo,O D,vB F,vB fr,vB fs])] w (bI R):=rvc [] (.leaf) Tryz.func82 h
def gE(lo n:Int):Bool:= !(decide (n<1) || decide (n>32) || decide (lo<0) || decide (lo>31) || decide (i64.wrap (lo+n)>32))
def xB(lo n:Int):Int:=if gE lo n=true then u32.wrap (u64.wrap ((u64.wrap ((u64.wrap ((1:Int)*2 ^ (min n.toNat u64.bits))) - 1):Int)*2 ^ (min lo.toNat u64.bits)))else 0
def uY(a lo n:Int):Int:=if gE lo n=true then(u32.wrap (BitVec.ofInt u32.bits a &&& BitVec.ofInt u32.bits (xB lo n)).toNat:Int).fdiv (2 ^ (min lo.toNat u32.bits))else 0
def tg(a lo n v:Int):Int:=if gE lo n=true then u32.wrap (BitVec.ofInt u32.bits (u32.wrap (BitVec.ofInt u32.bits a &&& ~~~(BitVec.ofInt u32.bits (xB lo n))).toNat) ||| BitVec.ofInt u32.bits (u32.wrap (BitVec.ofInt u32.bits (u32.wrap ((v:Int)*2 ^ (min lo.toNat u32.bits))) &&& BitVec.ofInt u32.bits (xB lo n)).toNat)).toNat else a
def Ng(a:Int):Int:=(IntKind.i32.wrap (u32.wrap ((a:Int)*2 ^ (min (i64.wrap (32 - 16)).toNat u32.bits))):Int).fdiv (2 ^ (min (i64.wrap (32 - 16)).toNat IntKind.i32.bits))
theorem tv {lo n:Int}(h:gE lo n=true):0<=lo/\0<=n:=by
 unfold gE at h;simp only[Bool.not_eq_true',Bool.or_eq_false_iff,decide_eq_false_iff_not]at h;omega
theorem HI(w:World)(lo n:Int):Calls prog 148 #[.int .i64 lo,.int .i64 n] w λe w'=>∃v,e=.returned v/\v=.tuple #[.int .u32 (xB lo n),.bool (gE lo n)]/\w'=w:=by
 refine zl _ _ ⟨λb w'=>b= !gE lo n/\w'=w,?_,?_⟩
 ·refine av (λh=>⟨by unfold gE;simp[h],rfl⟩) λa=>?_;refine av (λh=>⟨by unfold gE;simp[h],rfl⟩) λc=>?_;refine av (λh=>⟨by unfold gE;simp[h],rfl⟩) λd=>?_;refine av (λh=>⟨by unfold gE;simp[h],rfl⟩) λf=>⟨?_,rfl⟩;unfold gE;simp only[a,c,d,f,decide_false,Bool.false_or,Bool.not_not]
 ·rintro _ x i ⟨rfl,rfl⟩;cases hm:gE lo n
  ·exact eK ⟨by unfold xB;rw[hm];rfl,rfl⟩
  ·refine jw (dI (tv hm).2 (dI (tv hm).1 ⟨?_,rfl⟩));unfold xB;rw[if_pos hm]
theorem nA(w:World)(a lo n:Int):Calls prog 125 #[.int .u32 a,.int .i64 lo,.int .i64 n] w λe w'=>∃v,e=.returned v/\v=.int .u32 (uY a lo n)/\w'=w:=by
 refine wE _ _ _ ?_;refine(HI w lo n).mono ?_;rintro e w' ⟨_,rfl,rfl,rfl⟩;refine⟨_,_,rfl,?_⟩;cases hm:gE lo n
 ·exact eK ⟨by unfold uY;rw[hm];rfl,rfl⟩
 ·refine jw (dI (tv hm).1 ⟨?_,rfl⟩);unfold uY;rw[if_pos hm]
theorem tU(w:World)(a lo n v:Int):Calls prog 152 #[.int .u32 a,.int .i64 lo,.int .i64 n,.int .u32 v] w λe w'=>∃u,e=.returned u/\u=.int .u32 (tg a lo n v)/\w'=w:=by
 refine rF _ _ _ _ ?_;refine(HI w lo n).mono ?_;rintro e w' ⟨_,rfl,rfl,rfl⟩;refine⟨_,_,rfl,?_⟩;cases hm:gE lo n
 ·exact eK ⟨by unfold tg;rw[hm];rfl,rfl⟩
 ·refine jw (dI (tv hm).1 ⟨?_,rfl⟩);unfold tg;rw[if_pos hm]
theorem HJ(w:World)(a:Int):Calls prog 127 #[.int .u32 a,.int .i64 16] w λe w'=>∃u,e=.returned u/\u=.int .i32 (Ng a)/\w'=w:=by
 refine vt _ _ ⟨λb w'=>b=false/\w'=w,?_,?_⟩
 ·exact av (λh=>absurd h (by decide)) λ_=>⟨by decide,rfl⟩
 ·rintro _ x c ⟨rfl,rfl⟩;exact jw (dI (by decide) (dI (by decide) ⟨rfl,rfl⟩))
def wA(a b:Int):Int:=if b=0 then 4294967295 else u32.wrap ((a:Int).tdiv b)
theorem Pr(w:World)(a b:Int):Calls prog 153 #[.int .u32 a,.int .u32 b] w λe w'=>∃u,e=.returned u/\u=.int .u32 (wA a b)/\w'=w:=by
 refine BJ _ _ ?_;refine ar (λh=>⟨by unfold wA;rw[if_pos h],rfl⟩) λh=>PW h ⟨by unfold wA;rw[if_neg h],rfl⟩
def AN(a b:Int):Int:=u32.wrap ((a:Int)*2 ^ (min b.toNat u32.bits))
def uy(a b:Int):Int:=(a:Int).fdiv (2 ^ (min b.toNat u32.bits))
def vk(a b:Int):Int:=u32.wrap ((IntKind.i32.wrap a:Int).fdiv (2 ^ (min b.toNat IntKind.i32.bits)))
theorem Ns(w:World){a b:Int}(h:0<=b):Calls prog 154 #[.int .u32 a,.int .u32 b] w λe w'=>∃u,e=.returned u/\u=.int .u32 (AN a b)/\w'=w:=zm _ _ (dI h ⟨rfl,rfl⟩)
theorem K2(w:World){a b:Int}(h:0<=b):Calls prog 155 #[.int .u32 a,.int .u32 b] w λe w'=>∃u,e=.returned u/\u=.int .u32 (uy a b)/\w'=w:=wD _ _ (dI h ⟨rfl,rfl⟩)
theorem K4(w:World){a b:Int}(h:0<=b):Calls prog 156 #[.int .u32 a,.int .u32 b] w λe w'=>∃u,e=.returned u/\u=.int .u32 (vk a b)/\w'=w:=wG _ _ (dI h ⟨rfl,rfl⟩)
theorem OH {x:Int}(h:0<=x/\x<4294967296)(n:Nat):0<=x.fdiv (2 ^ n)/\x.fdiv (2 ^ n)<4294967296:=by
 have hp:(0:Int)<=2 ^ n:=Int.pow_nonneg (by omega);rw[Int.fdiv_eq_ediv_of_nonneg x hp];refine⟨Int.ediv_nonneg h.1 hp,Int.lt_of_le_of_lt (Int.ediv_le_self _ h.1) h.2⟩
theorem dA(x:Int):0<=u32.wrap x/\u32.wrap x<4294967296:=by rw[u32_eq];omega
theorem Ia {a:Int}(h:0<=a/\a<4294967296)(lo n v:Int):0<=tg a lo n v/\tg a lo n v<4294967296:=by
 unfold tg;split
 ·exact dA _
 ·exact h
theorem JG(a b:Int):0<=wA a b/\wA a b<4294967296:=by
 unfold wA;split
 ·omega
 ·exact dA _
abbrev up(w:World):Nat->Prop:=λk=>w.heap.size<=k
def shL(op:Int):List Nat:=
 if op=1\/op=2 then [97,117]else if op=3\/op=19 then [97,98]else if(4<=op/\op<=13)\/op=17\/op=18 then [97,98,99]else if 14<=op/\op<=16 then [97,98,115]else if op=20 then [97,115]else if op=21 then [107,111]else if op=22 then [111]else if op=23 then [97]else if op=24 then [117]else []
def shB(op:Int):ByteArray:=
 if op=1\/op=2 then⟨#[97,117]⟩else if op=3\/op=19 then⟨#[97,98]⟩else if(4<=op/\op<=13)\/op=17\/op=18 then⟨#[97,98,99]⟩else if 14<=op/\op<=16 then⟨#[97,98,115]⟩else if op=20 then⟨#[97,115]⟩else if op=21 then⟨#[107,111]⟩else if op=22 then⟨#[111]⟩else if op=23 then⟨#[97]⟩else if op=24 then⟨#[117]⟩else⟨#[]⟩
def grp(op:Int):Int:=if(1<=op/\op<=3)\/op=14 then 1 else if 4<=op/\op<=13 then 2 else if 15<=op/\op<=18 then 3 else if op=19\/op=20 then 4 else if 21<=op/\op<=23 then 5 else if op=24 then 6 else 0
theorem H7(op:Int):(shB op).size=(shL op).length/\∀p,p<(shB op).size->Utf8.decode (shB op) p=((shL op).getD p 0,1):=by
 unfold shB shL;split
 ·exact⟨rfl,λp hp=>by match p,hp with|0,_=>rfl|1,_=>rfl⟩
 split
 ·exact⟨rfl,λp hp=>by match p,hp with|0,_=>rfl|1,_=>rfl⟩
 split
 ·exact⟨rfl,λp hp=>by match p,hp with|0,_=>rfl|1,_=>rfl|2,_=>rfl⟩
 split
 ·exact⟨rfl,λp hp=>by match p,hp with|0,_=>rfl|1,_=>rfl|2,_=>rfl⟩
 split
 ·exact⟨rfl,λp hp=>by match p,hp with|0,_=>rfl|1,_=>rfl⟩
 split
 ·exact⟨rfl,λp hp=>by match p,hp with|0,_=>rfl|1,_=>rfl⟩
 split
 ·exact⟨rfl,λp hp=>by match p,hp with|0,_=>rfl⟩
 split
 ·exact⟨rfl,λp hp=>by match p,hp with|0,_=>rfl⟩
 split
 ·exact⟨rfl,λp hp=>by match p,hp with|0,_=>rfl⟩
 ·exact⟨rfl,λp hp=>absurd hp (Nat.not_lt_zero _)⟩
theorem CL(op:Int):(shL op).length<=3:=by
 unfold shL;split;decide;split;decide;split;decide;split;decide;split;decide;split;decide;split;decide;split;decide;split<;>decide
structure GkP(w:World):Prop where
 grp:∃cs T,Blk w 0 cs T/\∀op:Int,0<=op->op<25->cs[op.toNat *1]? =some (J (grp op))
 use:∃cs T,Blk w 2 cs T/\∀op:Int,1<=op->op<25->cs[op.toNat *2+1]? =some (.string (shB op))
def gkX:Nat->Prop:=λk=>k=0\/k=2
theorem GkP.ch {w w':World}{X:Nat->Prop}(h:GkP w)(q:Ch X w w')(a:∀k,gkX k->¬X k):GkP w':=by
 obtain⟨⟨b,T1,b1,c⟩,d,T2,b2,e⟩:=h;exact⟨⟨b,T1,q.blk b1 (a _ (.inl rfl)),c⟩,d,T2,q.blk b2 (a _ (.inr rfl)),e⟩
theorem GkP.pu {w w':World}(h:GkP w)(q:Pu w w'):GkP w':=h.ch q λ_ _ h=>h
theorem GkP.lt {w:World}(h:GkP w):∀k,gkX k->k<w.heap.size:=by
 obtain⟨⟨a,T1,b1,b⟩,c,T2,b2,d⟩:=h;rintro k (rfl|rfl)
 ·exact b1.lt
 ·exact b2.lt
theorem iIs(w:World)(op:Int):Calls prog 149 #[.int .i64 op] w λe w'=>∃v,e=.returned v/\v=.bool (decide (1<=op/\op<25))/\w'=w:=by
 refine Hi _ ⟨λb w'=>b=decide (1<=op/\op<25)/\w'=w,?_,?_⟩
 ·refine av (λh=>⟨?_,rfl⟩) λh=>⟨?_,rfl⟩
  ·rw[Bool.eq_iff_iff];simp;omega
  ·rw[eq_comm,decide_eq_false_iff_not];omega
 ·rintro _ x a ⟨rfl,rfl⟩;exact⟨rfl,rfl⟩
theorem PC {op:Int}(h:¬(1<=op/\op<25)):shL op= []/\shB op=⟨#[]⟩:=by
 unfold shL shB
 repeat rw[if_neg (by omega)]
 exact⟨rfl,rfl⟩
theorem Jl {w:World}(a:GkP w)(op:Int):Calls prog 126 #[.int .i64 op] w λe w'=>∃v,e=.returned v/\v=.string (shB op)/\w'=w:=by
 refine zL _ ?_;refine(iIs w op).mono ?_;rintro e w' ⟨_,rfl,rfl,rfl⟩;refine⟨_,rfl,ud (λh=>⟨by rw[(PC h).2],rfl⟩) λh=>⟨by omega,_,?_,rfl,rfl⟩⟩;obtain⟨cs,T,hb,b⟩:=a.use;refine hb.at2 ?_;exact b op h.1 h.2
theorem Jf {w w':World}{g:Nat}{s:ByteArray}(a:g=w.heap.size)(hw:w'=w.alloc (.stringIter s 0)):w'.heap[g]? =some (.stringIter s 0)/\Pu w w':=by
 subst a;subst hw;exact⟨World.alloc_heap_new w _,⟨(Kept.zi w _).mono λ_ h=>h.1⟩⟩
theorem Jd {w w':World}{g:Nat}{s:ByteArray}{p q:Nat}(h:w.heap[g]? =some (.stringIter s p))(hw:w'= {w with heap:=w.heap.setIfInBounds g (.stringIter s q)}):w'.heap[g]? =some (.stringIter s q)/\Ch (λk=>k=g) w w':=by
 subst hw;have a:g<w.heap.size:=(Array.getElem?_eq_some_iff.1 h).1;refine⟨by simp[a],⟨⟨rfl,rfl,rfl,by simp,λk b=>?_⟩⟩⟩;show(w.heap.setIfInBounds g _)[k]? =_;rw[Array.getElem?_setIfInBounds_ne (λe=>b.2 e.symm)]
theorem Fh {w w':World}{g:Nat}{o:Obj}{X:Nat->Prop}(h:w.heap[g]? =some o)(q:Ch X w w')(a:¬X g):w'.heap[g]? =some o:=by
 rw[q.kept.block g ⟨(Array.getElem?_eq_some_iff.1 h).1,a⟩];exact h
namespace V
structure Els where
 el:Nat->Type
 en:(t:Nat)->Enc (el t)
 df:(t:Nat)->el t
 dec:(t:Nat)->List Value->Option (el t)
 jn:∀ {t:Nat}{cs:List Value}{x:el t},dec t cs=some x->(en t).enc x=cs
structure Kind(E:Els) where
 ty:Type
 pred:(Nat->Nat)->ty->(Nat->Prop)->World->Prop
 ch:∀ {r:Nat->Nat}{s:ty}{X Y:Nat->Prop}{w w':World},pred r s X w->Ch Y w w'->(∀k,X k->¬Y k)->pred r s X w'
 lt:∀ {r:Nat->Nat}{s:ty}{X:Nat->Prop}{w:World},pred r s X w->∀k,X k->k<w.heap.size
 li:(Nat->Nat)->ty->Nat->Option (Ls E.el):=λ_ _ _=>none
 oq:∀ {r:Nat->Nat}{s:ty}{X:Nat->Prop}{w:World}{i:Nat}{L:Ls E.el},pred r s X w->li r s i=some L-> @Rd (E.el L.t) (E.en L.t) w X L.A L.l.length L.c L.l:=by intro _ _ _ _ _ _ _ h;cases h
 ne:Nat->Bool:=λ_=>false
 AB:∀ {r:Nat->Nat}{s:ty}{X:Nat->Prop}{w:World}{j i:Nat}{L:Ls E.el}{x:E.el L.t},pred r s X w->ne j=true->li r s j=some L->L.l[i]? =some x->∃L':Ls E.el,li r s (i+1)=some L'/\(E.en L.t).enc x= [.slice L'.A L'.l.length L'.c]:=by intro _ _ _ _ _ _ _ _ _ h;cases h
 fs:(Nat->Nat)->ty->Nat->Nat->Value->Option (Prop×ty):=λ_ _ _ _ _=>none
 sD:∀ {r:Nat->Nat}{s s':ty}{X:Nat->Prop}{w:World}{path off:Nat}{v:Value}{c:Prop},pred r s X w->fs r s path off v=some (c,s')->c->∀ {K:World->Prop},(∀w',pred r s' X w'->Ch X w w'->K w')->aB w ⟨r path,off,none⟩ [v] K:=by intro _ _ _ _ _ _ _ _ _ _ h;cases h
 st:(Nat->Nat)->ty->Nat->Nat->(tt:Nat)->E.el tt->Option (Prop×ty):=λ_ _ _ _ _ _=>none
 pP:∀ {r:Nat->Nat}{s s':ty}{X:Nat->Prop}{w:World}{j i:Nat}{L:Ls E.el}{x y:E.el L.t}{off:Nat}{vs:List Value}{c:Prop},pred r s X w->li r s j=some L->L.l[i]? =some x->off+vs.length<=(E.en L.t).size->(E.en L.t).enc y=((E.en L.t).enc x).take off++vs++((E.en L.t).enc x).drop (off+vs.length)->st r s j i L.t y=some (c,s')->c->∀ {K:World->Prop},(∀w',pred r s' X w'->Ch X w w'->K w')->aB w (((L.A.getD ⟨0,0,none⟩).add (i*(E.en L.t).size)).add off) vs K:=by intro _ _ _ _ _ _ _ _ _ _ _ _ _ _ _ _ _ _ h;cases h
 iv:Bool:=false
 rw:Bool:=true
 inv:ty->Prop:=λ_=>True
 jk:∀ {r:Nat->Nat}{s:ty}{X:Nat->Prop}{w:World},pred r s X w->inv s:=by intros;trivial
 fo:(Nat->Nat)->ty->Nat->Nat->Option FV:=λ_ _ _ _=>none
 sF:∀ {r:Nat->Nat}{s:ty}{X:Nat->Prop}{w:World}{path off:Nat}{f:FV}{v:Value},pred r s X w->fo r s path off=some f->fvV r (li r s) f=some v->X (r path)/\w.cell? ⟨r path,off,none⟩=some v:=by intro _ _ _ _ _ _ _ _ _ h;cases h
 ix:Nat->Nat->Option Nat:=λ_ _=>none
 qi:∀ {r:Nat->Nat}{s:ty}{path off i:Nat}{L:Ls E.el},ix path off=some i->li r s i=some L->L.A=some ⟨r path,off,none⟩:=by intro _ _ _ _ _ _ h;cases h
 wl:(Nat->Nat)->ty->Nat->Nat->Nat->Option (Prop×List Value):=λ_ _ _ _ _=>none
 pC:∀ {r:Nat->Nat}{s:ty}{X:Nat->Prop}{w:World}{path off n:Nat}{c:Prop}{cs:List Value},pred r s X w->wl r s path off n=some (c,cs)->c->X (r path)/\∀j u,cs[j]? =some u->w.cell? ⟨r path,off+j,none⟩=some u:=by intro _ _ _ _ _ _ _ _ _ _ h;cases h
 ws:(Nat->Nat)->ty->Nat->Nat->List Value->Option (Prop×ty):=λ_ _ _ _ _=>none
 od:∀ {r:Nat->Nat}{s s':ty}{X:Nat->Prop}{w:World}{path off:Nat}{vs:List Value}{c:Prop},pred r s X w->ws r s path off vs=some (c,s')->c->∀ {K:World->Prop},(∀w',pred r s' X w'->Ch X w w'->K w')->aB w ⟨r path,off,none⟩ vs K:=by intro _ _ _ _ _ _ _ _ _ _ h;cases h
 mp:ty->Option (List (Int×Value)):=λ_=>none
 AD:∀ {r:Nat->Nat}{s:ty}{X:Nat->Prop}{w:World}{l:List (Int×Value)},pred r s X w->mp s=some l->pz w (r 0) l:=by intro _ _ _ _ _ _ h;cases h
def Kind.none(E:Els):Kind E where
 ty:=Unit
 pred:=λ_ _ X _=>∀k,¬X k
 ch:=λh _ _=>h
 lt:=λh k a=>absurd a (h k)
def Uni.of(E:Els)(K:Nat->Kind E)(cd:TypeId->Option Nat)(mko:TypeId->List Value->Option ((t:Nat)×(K t).ty))(yQ:∀ {T:TypeId}{cs:List Value}{q:(t:Nat)×(K t).ty}{w:World}{g:Nat},mko T cs=some q->Blk w g ⟨cs⟩ T->(K q.1).pred (λ_=>g) q.2 (λk=>k=g) w):Uni where
 ty:=λt=>(K t).ty
 pred:=λt=>(K t).pred
 ch:=λ{t}=>(K t).ch
 lt:=λ{t}=>(K t).lt
 el:=E.el
 en:=E.en
 df:=E.df
 dec:=E.dec
 jn:=E.jn
 cd:=cd
 li:=λt=>(K t).li
 oq:=λ{t}=>(K t).oq
 ne:=λt=>(K t).ne
 AB:=λ{t}=>(K t).AB
 fs:=λt=>(K t).fs
 sD:=λ{t}=>(K t).sD
 st:=λt=>(K t).st
 pP:=λ{t}=>(K t).pP
 iv:=λt=>(K t).iv
 rw:=λt=>(K t).rw
 inv:=λt=>(K t).inv
 jk:=λ{t}=>(K t).jk
 fo:=λt=>(K t).fo
 sF:=λ{t}=>(K t).sF
 mp:=λt=>(K t).mp
 AD:=λ{t}=>(K t).AD
 mko:=mko
 yQ:=yQ
 ix:=λt=>(K t).ix
 qi:=λ{t}=>(K t).qi
 wl:=λt=>(K t).wl
 pC:=λ{t}=>(K t).pC
 ws:=λt=>(K t).ws
 od:=λ{t}=>(K t).od
end V
structure EOp where
 k:Int
 t:Int
 a:Int
 b:Int
 c:Int
 f:Int
 p:Int
 o:Int
instance:Enc EOp:=⟨λx=>[.int .i64 x.k,.int .u32 x.t,.int .u32 x.a,.int .u32 x.b,.int .u32 x.c,.int .i64 x.f,.int .i64 x.p,.int .i64 x.o],8,λ_=>rfl,by simp[Value.oneCell'],by omega⟩
structure W26 where
 l:List U32
def W26.c(x:W26):List Value:=aK (λj=>.int .u32 (x.l.getD j (uM 0)).v) (upN 0 26)
def W26.n(x:W26):List U32:=aK (λj=>uM (x.l.getD j (uM 0)).v) (upN 0 26)
instance:Enc W26:=⟨W26.c,26,λ_=>rfl,λx u h=>by
 obtain⟨a,rfl⟩:=uN h
 rfl,by omega⟩
def UEl:Nat->Type
 |0=>I64
 |1=>U32
 |2=>U8
 |3=>Bl
 |4=>Ent
 |5=>EOp
 |6=>Fl
 |7=>Hd
 |8=>W26
 |9=>Ins
 |_=>I64
@[reducible] def UEn:(t:Nat)->Enc (UEl t)
 |0=>inferInstanceAs (Enc I64)
 |1=>inferInstanceAs (Enc U32)
 |2=>inferInstanceAs (Enc U8)
 |3=>inferInstanceAs (Enc Bl)
 |4=>inferInstanceAs (Enc Ent)
 |5=>inferInstanceAs (Enc EOp)
 |6=>inferInstanceAs (Enc Fl)
 |7=>inferInstanceAs (Enc Hd)
 |8=>inferInstanceAs (Enc W26)
 |9=>inferInstanceAs (Enc Ins)
 |_+10=>inferInstanceAs (Enc I64)
def UDf:(t:Nat)->UEl t
 |0=>I64.mk 0
 |1=>uM 0
 |2=>U8.mk 0
 |3=>Bl.mk false
 |4=>Ent.free
 |5=>⟨0,0,0,0,0,0,0,0⟩
 |6=>Fl.zero
 |7=>⟨none,0,0⟩
 |8=>⟨[]⟩
 |9=>Ins.zero
 |_+10=>I64.mk 0
def Kr:(t:Nat)->List Value->Option (UEl t)
 |0,[.int .i64 x]=>some (I64.mk x)
 |1,[.int .u32 x]=>some (uM x)
 |2,[.int .u8 x]=>some (U8.mk x)
 |3,[.bool x]=>some (Bl.mk x)
 |4,[.int .i64 a,.int .i64 b,.int .i64 c,.int .i64 d,.bool e]=>some (Ent.mk a b c d e)
 |5,[.int .i64 k,.int .u32 t,.int .u32 a,.int .u32 b,.int .u32 c,.int .i64 f,.int .i64 p,.int .i64 o]=>some (EOp.mk k t a b c f p o)
 |7,[.slice x y z]=>some (Hd.mk x y z)
 |9,[.int .i64 o,.int .i64 k,.int .i64 a,.int .i64 b,.int .i64 c,.int .i32 m]=>some (Ins.mk o k a b c m)
 |_,_=>none
theorem il {t:Nat}{cs:List Value}{x:UEl t}(h:Kr t cs=some x):(UEn t).enc x=cs:=by
 unfold Kr at h;split at h<;>first|(injection h with h;subst h;rfl)|cases h
def OS(cs:List Value):Option W26:=match vc cs with
 | some l=>(match Nat.beq l.length 26 with
  |true=>some ⟨l⟩
  |false=>none)
 |none=>none
theorem Mg {cs:List Value}{x:W26}(h:OS cs=some x):x.c=cs:=by
 unfold OS at h;split at h
 ·rename_i l d;split at h
  ·rename_i c;injection h with h
   subst h;have c:=Nat.eq_of_beq_eq_true c;rw[jW d];apply List.ext_getElem?;intro j;show(aK _ _)[j]? =_;rw[<-aM,bx,List.getElem?_map,List.getElem?_map];cases b:nth (upN 0 26) j with
   |none=>rw[List.getElem?_eq_none];rfl;(by_cases e:j<26;(have a:=cj (l:=upN 0 26) (i:=j) (by rw[fT];exact e);rw[b]at a;obtain⟨_,a⟩:=a;cases a);omega)
   | some i=>
    have o:=jv b;have f:=aX b;rw[fT]at f;have k:i=j:=by omega
    subst k;show some (O (l.getD i (uM 0)).v)=_;rw[List.getD_eq_getElem?_getD,List.getElem?_eq_getElem (by omega)];rfl
  ·cases h
 ·cases h
def QC:(t:Nat)->List Value->Option (UEl t)
 |6,cs=>qn cs
 |8,cs=>OS cs
 |t,cs=>Kr t cs
theorem MA:∀ {t:Nat}{cs:List Value}{x:UEl t},QC t cs=some x->(UEn t).enc x=cs
 |6,_,_,h=>(iB h).1.symm
 |0,_,_,h=>il (t:=0) h
 |1,_,_,h=>il (t:=1) h
 |2,_,_,h=>il (t:=2) h
 |3,_,_,h=>il (t:=3) h
 |4,_,_,h=>il (t:=4) h
 |5,_,_,h=>il (t:=5) h
 |7,_,_,h=>il (t:=7) h
 |8,_,_,h=>Mg h
 |9,_,_,h=>il (t:=9) h
 |t+10,_,_,h=>il (t:=t+10) h
def UE:Els:=⟨UEl,UEn,UDf,QC,MA⟩
def Q3:Kind UE where
 ty:=Mem
 pred:=λr s X w=>∃L:fO,r 0=L.g/\(∀k,L.X k↔X k)/\cJ w L s
 ch:=fun⟨L,d,a,b⟩ q hb=>⟨L,d,a,b.ch q λk c=>hb k ((a k).1 c)⟩
 lt:=fun⟨_,_,a,b⟩ k c=>b.lt k ((a k).2 c)
 iv:=true
 inv:=Mem.Wf
 jk:=fun⟨_,_,_,h⟩=>⟨h.u32,h.ir⟩
def kPd:Kind UE where
 ty:=Pd
 pred:=λr s X w=>∃a,(∀k,(k=r 0\/k=a)↔X k)/\PdP w (r 0) a (r 1) s
 ch:=fun⟨a,d,i⟩ q hb=>⟨a,d,i.ch q (hb _ ((d _).1 (.inl rfl))) (hb _ ((d _).1 (.inr rfl)))⟩
 lt:=fun⟨a,d,i⟩ k l=>by rcases(d k).2 l with rfl|rfl;exact i.lt.1;exact i.lt.2
 iv:=true
 inv:=Pd.Ok
 jk:=fun⟨_,_,h⟩=>h.ok
 fo:=λ_ s path off=>match path,off with
  |0,0=>some (.o 1 0)
  |0,1=>some (.v (J s.bn))
  |_,_=>none
 sF:=by
  rintro r s X w path off f v ⟨a,e,o⟩ b j
  have h:=PS o
  split at b
  ·injection b with b;subst b;simp only[fvV]at j
   exact⟨(e _).1 (.inl rfl),by rw[<-j];exact h.1⟩
  ·injection b with b;subst b;simp only[fvV]at j
   exact⟨(e _).1 (.inl rfl),by rw[<-j];exact h.2⟩
  ·cases b
 fs:=λ_ s path off v=>match path,off,v with
  |0,1,.int .i64 x=>some (0<=x/\x<=64,s.ml x)
  |_,_,_=>none
 sD:=by
  rintro r s s' X w path off v c ⟨a,e,o⟩ b p K t
  split at b
  ·simp only[Option.some.injEq,Prod.mk.injEq]at b
   obtain⟨rfl,rfl⟩:=b
   exact o.NL p λw' u q=>t w' ⟨a,e,u⟩ (q.mono λk l=>(e k).1 (.inl l))
  ·cases b
def Q4:Kind UE where
 ty:=Dg
 pred:=λr s X w=>∃L:DgL,(∀k,L.X (r 0) k↔X k)/\kD w (r 0) L s
 ch:=fun⟨L,a,b⟩ q hb=>⟨L,a,b.ch q λk c=>hb k ((a k).1 c)⟩
 lt:=fun⟨_,a,b⟩ k c=>b.lt k ((a k).2 c)
def Q1(b:Nat):Kind UE where
 ty:=List Int
 rw:=false
 pred:=λ_ s X w=>(∀k,k=b↔X k)/\jB w b s
 ch:=fun⟨a,c⟩ q hb=>⟨a,c.ch q λk d=>hb k ((a k).1 d)⟩
 lt:=fun⟨a,c⟩ k d=>c.lt k ((a k).2 d)
theorem Li {w:World}{g o n:Nat}{s:List U32}{X:Nat->Prop}(c:∀k,k=g↔X k)(h:vK w g s)(f:o+n<=s.length):X g/\∀j u,(aK (λj=>Value.int .u32 (s.getD (o+j) (uM 0)).v) (upN 0 n))[j]? =some u->w.cell? ⟨g,o+j,none⟩=some u:=by
 obtain⟨T,hb⟩:=h;refine⟨(c _).1 rfl,λj u a=>?_⟩;rw[<-aM,bx]at a;cases b:nth (upN 0 n) j with
 |none=>rw[b]at a;cases a
 | some i=>
  rw[b]at a;have d:i=j:=by have:=jv b;omega
  have e:=aX b;rw[fT]at e;subst d;injection a with a
  rw[<-a];refine hb.cell ?_;rw[jR (by simp;omega),List.getD_eq_getElem?_getD,List.getElem?_map];dsimp only;rw[List.getD_eq_getElem?_getD];cases s[o+i]? <;>rfl
def kU:Kind UE where
 ty:=List U32
 pred:=λr s X w=>(∀k,k=r 0↔X k)/\vK w (r 0) s
 ch:=fun⟨b,T,e⟩ q hb=>⟨b,T,q.blk e (hb _ ((b _).1 rfl))⟩
 lt:=fun⟨b,T,e⟩ k p=>by rw[(b k).2 p];exact e.lt
 li:=λr s i=>match i with
  |0=>some ⟨1,some ⟨r 0,0,none⟩,s.length,s⟩
  |_=>none
 oq:=by
  rintro r s X w i L h a
  split at a
  ·injection a with a;subst a;exact ES h.1 h.2
  ·cases a
 st:=λ_ s j i tt=>match j,tt with
  |0,1=>λx=>some (True,s.set i x)
  |_,_=>λ_=>none
 pP:=by
  rintro r s s' X w j i L x y off vs c h a t u v hs d K f
  split at a
  ·injection a with a
   subst a
   simp only[Option.some.injEq,Prod.mk.injEq]at hs
   obtain⟨rfl,rfl⟩:=hs
   exact Lj h.1 h.2 t u v f
  ·cases a
 ix:=λpath off=>match path,off with
  |0,0=>some 0
  |_,_=>none
 qi:=by
  rintro r s path off i L h a
  split at h
  ·injection h with h;subst h
   injection a with a;subst a;rfl
  ·cases h
 wl:=λ_ s path off n=>match path,off with
  |0,o=>some (o+n<=s.length,aK (λj=>.int .u32 (s.getD (o+j) (uM 0)).v) (upN 0 n))
  |_,_=>none
 pC:=by
  rintro r s X w path off n c cs h hw d
  split at hw
  ·simp only[Option.some.injEq,Prod.mk.injEq]at hw
   obtain⟨rfl,rfl⟩:=hw
   exact Li h.1 h.2 d
  ·cases hw
 ws:=λ_ s path off vs=>match path,off with
  | 0,0=>(match vc vs with
   |some l=>some (s.length=l.length,l)
   |none=>none)
  |_,_=>none
 od:=by
  rintro r s s' X w path off vs c h hs d K f
  split at hs
  ·split at hs
   ·rename_i l a
    simp only[Option.some.injEq,Prod.mk.injEq]at hs
    obtain⟨rfl,rfl⟩:=hs
    exact Lh h.1 h.2 a d f
   ·cases hs
  ·cases hs
def kFl:Kind UE where
 ty:=Fl
 pred:=λr s X w=>(∀k,k=r 0↔X k)/\FlP w (r 0) s
 ch:=fun⟨d,t,T,F⟩ q hb=>⟨d,t,T,q.blk F (hb _ ((d _).1 rfl))⟩
 lt:=fun⟨d,_,T,t⟩ k o=>by rw[(d k).2 o];exact t.lt
 li:=λr s i=>match i with
  |0=>some ⟨1,some ⟨r 0,0,none⟩,s.rs.length,s.rs⟩
  |_=>none
 oq:=by
  rintro r s X w i L h a
  split at a
  ·injection a with a;subst a;exact h.2.li h.1
  ·cases a
 fs:=λ_ s path off v=>match path,off,v with
  |0,15,.int .u32 x=>some (True,{s with pc:=x})
  |0,16,.bool x=>some (True,{s with z:=x})
  |0,17,.bool x=>some (True,{s with n:=x})
  |0,18,.bool x=>some (True,{s with l:=x})
  |_,_,_=>none
 sD:=by
  rintro r s s' X w path off v c h b A K p
  split at b
  all_goals first
   |cases b;done
   | (simp only[Option.some.injEq,Prod.mk.injEq]at b
      obtain⟨rfl,rfl⟩:=b
      exact FlP.st h.2 (by omega) (by exact h.2.len) (by rfl) λw' B q=>p w' ⟨h.1,B⟩ (q.mono λk o=>(h.1 k).1 o))
 st:=λ_ s j i tt=>match j,tt with
  |0,1=>λx=>some (True,s.gZ i x)
  |_,_=>λ_=>none
 pP:=by
  rintro r s s' X w j i L x y off vs c h a G H I hs A K p
  split at a
  ·injection a with a
   subst a
   simp only[Option.some.injEq,Prod.mk.injEq]at hs
   obtain⟨rfl,rfl⟩:=hs
   exact h.2.stR h.1 G H I p
  ·cases a
 iv:=true
 inv:=Fl.Ok
 jk:=λh=>h.2.len
 fo:=λ_ s path off=>match path,off with
  |0,15=>some (.v (O s.pc))
  |0,16=>some (.v (vB s.z))
  |0,17=>some (.v (vB s.n))
  |0,18=>some (.v (vB s.l))
  |_,_=>none
 sF:=by
  rintro r s X w path off f v ⟨C,a,T,hb⟩ b D
  split at b
  all_goals first
   |cases b;done
   | (injection b with b
      subst b
      simp only[fvV,Option.some.injEq]at D
      exact⟨(C _).1 rfl,by rw[<-D];exact hb.cell rfl⟩)
 ix:=λpath off=>match path,off with
  |0,0=>some 0
  |_,_=>none
 qi:=by
  rintro r s path off i L h a
  split at h
  ·injection h with h;subst h
   injection a with a;subst a;rfl
  ·cases h
 wl:=λ_ s path off n=>match path,off,n with
  |0,0,19=>some (True,s.cells)
  |_,_,_=>none
 pC:=by
  rintro r s X w path off n c cs ⟨C,a,T,hb⟩ hw A
  split at hw
  ·simp only[Option.some.injEq,Prod.mk.injEq]at hw
   obtain⟨rfl,rfl⟩:=hw
   exact⟨(C _).1 rfl,λj u J=>by rw[Nat.zero_add];exact hb.cell (by simpa using J)⟩
  ·cases hw
 ws:=λ_ _ path off vs=>match path,off with
  | 0,0=>(match qn vs with
   |some l=>some (True,l)
   |none=>none)
  |_,_=>none
 od:=by
  rintro r s s' X w path off vs c h hs A K p
  split at hs
  ·split at hs
   ·rename_i l a
    simp only[Option.some.injEq,Prod.mk.injEq]at hs
    obtain⟨rfl,rfl⟩:=hs
    obtain⟨e,d⟩:=iB a
    subst e
    exact h.2.all d λw' B q=>p w' ⟨h.1,B⟩ (q.mono λk o=>(h.1 k).1 o)
   ·cases hs
  ·cases hs
def clL:List (Int×Value):= [(1,.func (.func 134) #[] #[]),(2,.func (.func 135) #[] #[]),(3,.func (.func 136) #[] #[]),(4,.func (.func 137) #[] #[]),(5,.func (.func 138) #[] #[]),(6,.func (.func 139) #[] #[]),(7,.func (.func 140) #[] #[])]
def kCl:Kind UE where
 ty:=Unit
 pred:=λr _ X w=>(∀k,k=r 0↔X k)/\pz w (r 0) clL
 ch:=fun⟨a,b⟩ q hb=>⟨a,b.ch q (hb _ ((a _).1 rfl))⟩
 lt:=fun⟨a,b⟩ k c=>by rw[(a k).2 c];exact b.lt
 mp:=λ_=>some clL
 AD:=λh e=>by injection e with e;rw[<-e];exact h.2
theorem Nst.ID {s:Nst}{k:Nat}(h:¬k<s.hs.length):s.hd k=⟨none,0,0⟩:=by unfold hd;rw[List.getD_eq_getElem?_getD,List.getElem?_eq_none (by omega)];rfl
theorem Nst.IC {s:Nst}{k:Nat}(h:¬k<s.ls.length):s.l k= []:=by unfold l;rw[List.getD_eq_getElem?_getD,List.getElem?_eq_none (by omega)];rfl
theorem nr.len {w:World}{s:Nst}{X:Nat->Prop}(h:nr w s X)(k:Nat):(s.hd k).n=(s.l k).length:=by
 by_cases a:k<s.hs.length
 ·exact h.ok.n k a
 ·rw[Nst.ID a,Nst.IC (by rw[h.ok.len];exact a)];rfl
theorem nr.rd {w:World}{s:Nst}{X:Nat->Prop}(h:nr w s X)(k:Nat):Rd w X (s.hd k).A (s.l k).length (s.hd k).c (s.l k):=by
 by_cases a:k<s.hs.length
 ·rw[<-h.ok.n k a];exact h.inn k a
 ·rw[Nst.ID a,Nst.IC (by rw[h.ok.len];exact a)];exact⟨rfl,Nat.zero_le _,h.lt,λi x b=>by cases b⟩
def Q2:Kind UE where
 ty:=Nst
 rw:=false
 pred:=λ_ s X w=>nr w s X
 ch:=λh q hb=>h.ch q hb
 lt:=λh=>h.lt
 iv:=true
 inv:=Nst.Ok
 jk:=λh=>h.ok
 li:=λ_ s i=>match i with
  |0=>some ⟨7,s.A,s.c,s.hs⟩
  |k+1=>some ⟨1,(s.hd k).A,(s.hd k).c,s.l k⟩
 oq:=by
  rintro r s X w i L h a
  split at a
  ·injection a with a;subst a;exact h.out
  ·rename_i k;injection a with a;subst a;exact h.rd k
 ne:=λj=>Nat.beq j 0
 AB:=by
  rintro r s X w j i L x h f a b
  have f:=Nat.eq_of_beq_eq_true f
  subst f
  injection a with a
  subst a
  exact⟨_,rfl,h.ne b⟩
 st:=λ_ s j i tt=>match j,tt with
  |k+1,1=>λx=>some (s.own=true,s.set k i x)
  |_,_=>λ_=>none
 pP:=by
  rintro r s s' X w j i L x y off vs c h a b l o hs p K t
  match j,a with
  |0,a=>exact absurd hs (by intro e;cases e)
  | k+1,a=>
   injection a with a
   subst a
   simp only[Option.some.injEq,Prod.mk.injEq]at hs
   obtain⟨rfl,rfl⟩:=hs
   have d:k<s.hs.length:=by
    have b:(s.l k)[i]? =some x:=b
    by_cases d:k<s.hs.length
    ·exact d
    ·rw[Nst.IC (by rw[h.ok.len];exact d)]at b;cases b
   exact h.st p d b l o t
def kWt:Kind UE where
 ty:=Wt
 rw:=false
 pred:=λ_ s X w=>Rd w X s.A s.l.length s.c s.l
 ch:=λh q hb=>h.ch q hb
 lt:=λh=>h.lt
 li:=λ_ s i=>match i with
  |0=>some ⟨1,s.A,s.c,s.l⟩
  |_=>none
 oq:=by
  rintro r s X w i L h a
  split at a
  ·injection a with a;subst a;exact h
  ·cases a
structure Sv where
 D:DB
 pD:Nat
 pM:Nat
structure Sv.Ok(s:Sv):Prop where
 wf:s.D.mem.Wf
 pd:s.D.pd.Ok
def kSv:Kind UE where
 ty:=Sv
 pred:=λ_ s X w=>∃(a:Nat)(L:fO),L.g=s.pM/\DBP w ⟨s.pD,a,L⟩ s.D/\∀k,iI.X ⟨s.pD,a,L⟩ k↔X k
 ch:=fun⟨a,L,e,c,b⟩ q hb=>⟨a,L,e,c.ch q λk d=>hb k ((b k).1 d),b⟩
 lt:=fun⟨_,_,_,c,b⟩ k d=>c.lt k ((b k).2 d)
 iv:=true
 inv:=Sv.Ok
 jk:=fun⟨_,_,_,h,_⟩=>⟨⟨h.mem.u32,h.mem.ir⟩,h.pd.ok⟩
def kMc:Kind UE where
 ty:=Mc
 pred:=λr s X w=>(∀k,k=r 0↔X k)/\McP w (r 0) s
 ch:=fun⟨d,t,T,D⟩ q hb=>⟨d,t,T,q.blk D (hb _ ((d _).1 rfl))⟩
 lt:=fun⟨d,_,T,t⟩ k o=>by rw[(d k).2 o];exact t.lt
 li:=λr s i=>match i with
  |0=>some ⟨1,some ⟨r 0,2,none⟩,s.f.rs.length,s.f.rs⟩
  |_=>none
 oq:=by
  rintro r s X w i L h a
  split at a
  ·injection a with a;subst a;exact h.2.li h.1
  ·cases a
 fs:=λ_ s path off v=>match path,off,v with
  |0,17,.int .u32 x=>some (True,{s with f:= {s.f with pc:=x}})
  |_,_,_=>none
 sD:=by
  rintro r s s' X w path off v c h b z K p
  split at b
  all_goals first
   |cases b;done
   | (simp only[Option.some.injEq,Prod.mk.injEq]at b
      obtain⟨rfl,rfl⟩:=b
      exact McP.st h.2 (by omega) (by exact h.2.len) (by rfl) λw' A q=>p w' ⟨h.1,A⟩ (q.mono λk o=>(h.1 k).1 o))
 st:=λ_ s j i tt=>match j,tt with
  |0,1=>λx=>some (True,s.gZ i x)
  |_,_=>λ_=>none
 pP:=by
  rintro r s s' X w j i L x y off vs c h a F G H hs z K p
  split at a
  ·injection a with a
   subst a
   simp only[Option.some.injEq,Prod.mk.injEq]at hs
   obtain⟨rfl,rfl⟩:=hs
   exact h.2.stR h.1 F G H p
  ·cases a
 iv:=true
 inv:=λs=>s.f.Ok
 jk:=λh=>h.2.len
 fo:=λ_ s path off=>match path,off with
  |0,0=>some (.v (.pointer s.mp))
  |0,1=>some (.v (J s.l1))
  |0,17=>some (.v (O s.f.pc))
  |_,_=>none
 sF:=by
  rintro r s X w path off f v ⟨B,a,T,hb⟩ b C
  split at b
  all_goals first
   |cases b;done
   | (injection b with b
      subst b
      simp only[fvV,Option.some.injEq]at C
      exact⟨(B _).1 rfl,by rw[<-C];exact hb.cell rfl⟩)
 ix:=λpath off=>match path,off with
  |0,2=>some 0
  |_,_=>none
 qi:=by
  rintro r s path off i L h a
  split at h
  ·injection h with h;subst h
   injection a with a;subst a;rfl
  ·cases h
 wl:=λ_ s path off n=>match path,off,n with
  |0,2,19=>some (True,s.f.cells)
  |_,_,_=>none
 pC:=by
  rintro r s X w path off n c cs ⟨B,a,T,hb⟩ hw z
  split at hw
  ·simp only[Option.some.injEq,Prod.mk.injEq]at hw
   obtain⟨rfl,rfl⟩:=hw
   refine⟨(B _).1 rfl,λj u I=>hb.cell ?_⟩
   rw[Nat.add_comm]
   simpa[Mc.cells]using I
  ·cases hw
 ws:=λ_ s path off vs=>match path,off with
  | 0,2=>(match qn vs with
   |some l=>some (True,{s with f:=l})
   |none=>none)
  |_,_=>none
 od:=by
  rintro r s s' X w path off vs c h hs z K p
  split at hs
  ·split at hs
   ·rename_i l a
    simp only[Option.some.injEq,Prod.mk.injEq]at hs
    obtain⟨rfl,rfl⟩:=hs
    obtain⟨e,d⟩:=iB a
    subst e
    exact h.2.all d λw' A q=>p w' ⟨h.1,A⟩ (q.mono λk o=>(h.1 k).1 o)
   ·cases hs
  ·cases hs
def kRs:Kind UE where
 ty:=Rs
 pred:=λr s X w=>(∀k,k=r 0↔X k)/\RsP w (r 0) s
 ch:=fun⟨i,y,T,D⟩ q hb=>⟨i,y,T,q.blk D (hb _ ((i _).1 rfl))⟩
 lt:=fun⟨i,_,T,y⟩ k b=>by rw[(i k).2 b];exact y.lt
 fs:=λ_ s path off v=>match path,off,v with
  |0,9,.slice A n c=>some (True,{s with sA:=A,sN:=n,sC:=c})
  |0,11,.int .i64 x=>some (True,{s with tb:=x})
  |0,27,.int .u32 x=>some (True,{s with f:= {s.f with pc:=x}})
  |0,31,.int .i64 x=>some (True,{s with left:=x})
  |_,_,_=>none
 sD:=by
  rintro r s s' X w path off v c h a B K p
  split at a
  all_goals first
   |cases a;done
   | (simp only[Option.some.injEq,Prod.mk.injEq]at a
      obtain⟨rfl,rfl⟩:=a
      exact RsP.st h.2 (by omega) (by exact h.2.len) (by rfl) λw' o q=>p w' ⟨h.1,o⟩ (q.mono λk b=>(h.1 k).1 b))
 iv:=true
 inv:=λs=>s.f.Ok
 jk:=λh=>h.2.len
 fo:=λ_ s path off=>match path,off with
  |0,0=>some (.v (.pointer s.dp))
  |0,9=>some (.v (.slice s.sA s.sN s.sC))
  |0,10=>some (.v (J s.th))
  |0,11=>some (.v (J s.tb))
  |0,27=>some (.v (O s.f.pc))
  |0,31=>some (.v (J s.left))
  |_,_=>none
 sF:=by
  rintro r s X w path off f v ⟨t,d,T,hb⟩ a C
  split at a
  all_goals first
   |cases a;done
   | (injection a with a
      subst a
      simp only[fvV,Option.some.injEq]at C
      exact⟨(t _).1 rfl,by rw[<-C];exact hb.cell rfl⟩)
 wl:=λ_ s path off n=>match path,off,n with
  |0,12,19=>some (True,s.f.cells)
  |0,1,8=>some (True,s.k.cells)
  |_,_,_=>none
 pC:=by
  rintro r s X w path off n c cs ⟨t,d,hb⟩ hw B
  split at hw
  ·simp only[Option.some.injEq,Prod.mk.injEq]at hw
   obtain⟨rfl,rfl⟩:=hw
   exact⟨(t _).1 rfl,λj u z=>RsP.rdF ⟨d,hb⟩ z⟩
  ·simp only[Option.some.injEq,Prod.mk.injEq]at hw
   obtain⟨rfl,rfl⟩:=hw
   exact⟨(t _).1 rfl,λj u z=>RsP.rdK ⟨d,hb⟩ z⟩
  ·cases hw
 ws:=λ_ s path off vs=>match path,off with
  | 0,12=>(match qn vs with
   |some l=>some (True,{s with f:=l})
   |none=>none)
  | 0,1=>(match OT vs with
   |some k=>some (True,{s with k:=k})
   |none=>none)
  |_,_=>none
 od:=by
  rintro r s s' X w path off vs c h hs B K p
  split at hs
  ·split at hs
   ·rename_i l d
    simp only[Option.some.injEq,Prod.mk.injEq]at hs
    obtain⟨rfl,rfl⟩:=hs
    obtain⟨e,i⟩:=iB d
    subst e
    exact h.2.all i λw' o q=>p w' ⟨h.1,o⟩ (q.mono λk b=>(h.1 k).1 b)
   ·cases hs
  ·split at hs
   ·rename_i l d
    simp only[Option.some.injEq,Prod.mk.injEq]at hs
    obtain⟨rfl,rfl⟩:=hs
    have e:=JK d
    subst e
    exact h.2.key λw' o q=>p w' ⟨h.1,o⟩ (q.mono λk b=>(h.1 k).1 b)
   ·cases hs
  ·cases hs
def kGk:Kind UE where
 ty:=Unit
 rw:=false
 pred:=λ_ _ X w=>(∀k,gkX k↔X k)/\GkP w
 ch:=fun⟨a,b⟩ q hb=>⟨a,b.ch q λk c=>hb k ((a k).1 c)⟩
 lt:=fun⟨a,b⟩ k c=>b.lt k ((a k).2 c)
def Q0:Kind UE where
 ty:=List Wt
 rw:=false
 pred:=λ_ s X w=>(∀k,X k->k<w.heap.size)/\∀x∈s,Rd w X x.A x.l.length x.c x.l
 ch:=λh q hb=>⟨λk a=>Nat.lt_of_lt_of_le (h.1 k a) q.size,λx b=>(h.2 x b).ch q hb⟩
 lt:=λh=>h.1
def UK:Nat->Kind UE
 |0=>Q3
 |1=>kPd
 |4=>Q4
 |5=>Q1 1
 |7=>kU
 |8=>kWt
 |9=>kSv
 |10=>kFl
 |12=>kCl
 |13=>Q2
 |16=>kMc
 |17=>kGk
 |18=>kRs
 |19=>Q0
 |_=>Kind.none UE
abbrev bO(t:Nat)(r:Nat->Nat)(s:(UK t).ty)(X:Nat->Prop)(w:World):Prop:=(UK t).pred r s X w
def UMk:TypeId->List Value->Option ((t:Nat)×(UK t).ty)
 | 116,cs=>(match vc cs with
  |some l=>some ⟨7,l⟩
  |none=>none)
 | 26,cs=>(match vc cs with
  |some l=>some ⟨7,l⟩
  |none=>none)
 | 273,cs=>(match vc cs with
  |some l=>some ⟨7,l⟩
  |none=>none)
 | 146,cs=>(match vc cs with
  |some l=>some ⟨7,l⟩
  |none=>none)
 | 92,cs=>(match JI cs with
  |some s=>some ⟨18,s⟩
  |none=>none)
 | 219,cs=>(match JJ cs with
  |some s=>some ⟨16,s⟩
  |none=>none)
 | 65,cs=>(match qn cs with
  |some s=>some ⟨10,s⟩
  |none=>none)
 |_,_=>none
theorem O9 {T:TypeId}{cs:List Value}{q:(t:Nat)×(UK t).ty}{w:World}{g:Nat}(h:UMk T cs=some q)(hb:Blk w g ⟨cs⟩ T):(UK q.1).pred (λ_=>g) q.2 (λk=>k=g) w:=by
 unfold UMk at h;split at h
 ·split at h
  ·rename_i l a;injection h with h
   subst h;have:=jW a;subst this;exact(⟨λk=>Iff.rfl,_,hb.cast (by simp[bW])⟩:(∀k,k=g↔k=g)/\vK w g l)
  ·cases h
 ·split at h
  ·rename_i l a;injection h with h
   subst h;have:=jW a;subst this;exact(⟨λk=>Iff.rfl,_,hb.cast (by simp[bW])⟩:(∀k,k=g↔k=g)/\vK w g l)
  ·cases h
 ·split at h
  ·rename_i l a;injection h with h
   subst h;have:=jW a;subst this;exact(⟨λk=>Iff.rfl,_,hb.cast (by simp[bW])⟩:(∀k,k=g↔k=g)/\vK w g l)
  ·cases h
 ·split at h
  ·rename_i l a;injection h with h
   subst h;have:=jW a;subst this;exact(⟨λk=>Iff.rfl,_,hb.cast (by simp[bW])⟩:(∀k,k=g↔k=g)/\vK w g l)
  ·cases h
 ·split at h
  ·rename_i s hs;injection h with h
   subst h;obtain⟨rfl,b⟩:=GL hs;exact(⟨λk=>Iff.rfl,b,_,hb⟩:(∀k,k=g↔k=g)/\RsP w g s)
  ·cases h
 ·split at h
  ·rename_i s hs;injection h with h
   subst h;obtain⟨rfl,b⟩:=GM hs;exact(⟨λk=>Iff.rfl,b,_,hb⟩:(∀k,k=g↔k=g)/\McP w g s)
  ·cases h
 ·split at h
  ·rename_i s hs;injection h with h
   subst h;obtain⟨rfl,b⟩:=iB hs;exact(⟨λk=>Iff.rfl,b,_,hb⟩:(∀k,k=g↔k=g)/\FlP w g s)
  ·cases h
 ·cases h
def Un:Uni:=Uni.of UE UK (λt=>match t with
 |3=>some 0
 |23=>some 1
 |4=>some 3
 |46=>some 4
 |38=>some 5
 |22=>some 7
 |_=>none) UMk O9
theorem uO0 {a b:Mem}(h:a=b):Upd.ob (U:=Un) 0 a=.ob 0 b:=congrArg (Upd.ob (U:=Un) 0) h
theorem rO0 {r:Nat->Nat}{a b:Mem}(h:a=b):Res.ob (U:=Un) 0 r a=.ob 0 r b:=congrArg (Res.ob (U:=Un) 0 r) h
theorem uO1 {a b:Pd}(h:a=b):Upd.ob (U:=Un) 1 a=.ob 1 b:=congrArg (Upd.ob (U:=Un) 1) h
theorem rO1 {r:Nat->Nat}{a b:Pd}(h:a=b):Res.ob (U:=Un) 1 r a=.ob 1 r b:=congrArg (Res.ob (U:=Un) 1 r) h
theorem CA {a b:Rs}(h:a=b):Upd.ob (U:=Un) 18 a=.ob 18 b:=congrArg (Upd.ob (U:=Un) 18) h
theorem QT {r:Nat->Nat}{a b:Rs}(h:a=b):Res.ob (U:=Un) 18 r a=.ob 18 r b:=congrArg (Res.ob (U:=Un) 18 r) h
theorem pH {a b:Mc}(h:a=b):Upd.ob (U:=Un) 16 a=.ob 16 b:=congrArg (Upd.ob (U:=Un) 16) h
section
namespace V
section
variable {U:Uni}
theorem aR.more {rs:List (Res U)}{X:Nat->Nat->Prop}{w w':World}{Q:Ou U->Prop}{v:Value}{k:Option Kn}{Z:Nat->Prop}{r:Res U}(hs:Sat rs X w)(q:Pu w w')(o:RS Z w' r)(l:∀k,Z k->w.heap.size<=k)(p:Q ⟨v,k,[],[r],[]⟩)(a:KnO (rs++ [r]) v k):aR rs [] X w Q (.returned v) w':=by
 refine⟨_,rs,λi=>if i=rs.length then Z else X i,fJ a,p,rfl,⟨λi r' d=>?_,λi j hi t u x k e b=>?_⟩,q.mono λk a=>a.elim,λi hi _=>if_neg (by omega),λi hi=>(by cases hi),λi f c k a=>?_,.inr a,λ_ k a=>by cases a⟩
 ·by_cases hi:i<rs.length
  ·rw[aP,if_pos hi]at d;simp only[if_neg (show ¬i=rs.length by omega)];exact(hs.res i r' d).ch q λ_ _ h=>h
  ·have f:=aX d;simp at f;obtain rfl:i=rs.length:=by omega
   rw[aP,if_neg (by omega),Nat.sub_self]at d;obtain rfl:r=r':=by simpa[nth]using d
   simpa using o
 ·simp at hi t;by_cases f:i=rs.length
  ·have c:¬j=rs.length:=by omega
   simp only[f,if_true,if_neg c]at e b;have:=hs.lt (i:=j) (by omega) k b;have:=l k e;omega
  ·simp only[if_neg f]at e;by_cases c:j=rs.length
   ·simp only[c,if_true]at b;have:=hs.lt (i:=i) (by omega) k e;have:=l k b;omega
   ·simp only[if_neg c]at b;exact hs.gX i j (by omega) (by omega) u (by rw[<-dW (rs:=rs) (rs':=rs++ [r]) (i:=i) (by rw[aP,if_pos (by omega)]),<-dW (rs:=rs) (rs':=rs++ [r]) (i:=j) (by rw[aP,if_pos (by omega)])];exact x) k e b
 ·simp at c;obtain rfl:i=rs.length:=by omega
  simp only[if_true]at a;exact l k a
theorem N3 {t:Nat}{T:TypeId}{A:Option Addr}{n c:Nat}{l:List (U.el t)}{Z:Nat->Prop}{w:World}(h:Own w Z T A n c l):RS (U:=U) (λk=>Z k/\k<w.heap.size) w (.lst t true T A c l):=by
 have a:=h.len;subst a;exact⟨h.within,λk b=>b.2⟩
end
end V
section
variable {r rm:Nat->Nat}{E:Pd}{m:Mem}{X:Nat->Nat->Prop}{w w':World}
theorem oo(hs:Sat (U:=Un) [.ob 0 rm m] X w):∃L:fO,rm 0=L.g/\cJ w L m/\∀k,L.X k↔X 0 k:=by
 obtain⟨L,a,b,c⟩:=(hs.res 0 _ rfl:bO 0 rm m (X 0) w);exact⟨L,a,c,b⟩
theorem yM(hs:Sat (U:=Un) [.ob 1 r E,.ob 0 rm m] X w)(l:aG (U:=Un) [.ob 1 r E,.ob 0 rm m] fr0 [(.l 0 1,.p (.obj 1 0 0))])(o:E.n=m.S):
 ∃(a:Nat)(L:fO),rm 0=L.g/\r 1=L.g/\DBP w ⟨r 0,a,L⟩ (E.on m)/\(∀k,(k=r 0\/k=a)↔X 0 k)/\(∀k,L.X k↔X 1 k):=by
 obtain⟨a,c,d⟩:=(hs.res 0 _ rfl:bO 1 r E (X 0) w);obtain⟨L,e,f,p⟩:=(hs.res 1 _ rfl:bO 0 rm m (X 1) w);obtain⟨t,r',s',h,b⟩:=l _ _ (List.mem_singleton.2 rfl);simp only[nth,Option.some.injEq,Res.ob.injEq]at h;obtain⟨rfl,rfl,_⟩:=h;have b:some (Value.pointer (some ⟨rm 0,0,none⟩))=some (Value.pointer (some ⟨r 1,0,none⟩)):=b;simp only[Option.some.injEq,Value.pointer.injEq,Addr.mk.injEq]at b;have i:r 1=L.g:=by rw[<-e];exact b.1.symm
 rw[i]at d;have j:∀k,(k=r 0\/k=a)->¬L.X k:=λk b q=>hs.dis 0 1 (by simp) (by simp) (by omega) k ((c k).1 b) ((f k).1 q);exact⟨a,L,e,i,d.db p o ⟨j _ (.inl rfl),j _ (.inr rfl)⟩,c,f⟩
theorem Au {a:Nat}{L:fO}{D:DB}{Q:Ou Un->Prop}{v:Value}{k:Option Kn}(hs:Sat (U:=Un) [.ob 1 r E,.ob 0 rm m] X w)(d:∀k,(k=r 0\/k=a)↔X 0 k)(e:∀k,L.X k↔X 1 k)(f:rm 0=L.g)(l:r 1=L.g)(h:DBP w' ⟨r 0,a,L⟩ D)(q:Ch (iI.X ⟨r 0,a,L⟩) w w')
 (o:Q ⟨v,k,[.ob 1 D.pd,.ob 0 D.mem],[],[]⟩)(b:KnO (U:=Un) [.ob 1 r D.pd,.ob 0 rm D.mem] v k):aR (U:=Un) [.ob 1 r E,.ob 0 rm m] [0,1] X w Q (.returned v) w':=by
 refine⟨_,[.ob 1 r D.pd,.ob 0 rm D.mem],X,fJ b,o,by simp[br,cV,nth,cf],⟨λi r' c=>?_,λi j hi p t _=>hs.gX i j hi p t (by
  have hi:i<2:=hi
  match i,hi with
  |0,_=>rfl
  |1,_=>rfl)⟩,q.mono λk b=>?_,λi hi hm=>rfl,λi hi k b=>.inl b,λi u x=>by simp at u x;omega,.inr (by simpa using b),λ_ k b=>by cases b⟩
 ·match i with
  | 0=>
   simp only[List.append_nil,nth,Option.some.injEq]at c;subst c;exact(⟨a,d,by rw[l];exact h.pd⟩:bO 1 r D.pd (X 0) w')
  | 1=>
   simp only[List.append_nil,nth,Option.some.injEq]at c;subst c;exact(⟨L,f,e,h.mem⟩:bO 0 rm D.mem (X 1) w')
  |i+2=>simp[nth]at c
 ·rcases b with b|b|b
  ·exact⟨0,by simp,(d k).1 (.inl b)⟩
  ·exact⟨0,by simp,(d k).1 (.inr b)⟩
  ·exact⟨1,by simp,(e k).1 b⟩
end
end
theorem zS(t:Int){R:aV}{w:World}(h:∃a:Bool->World->Prop,(split ((t:Int)==4) (a true w) (split ((t:Int)==5) (a true w) (a ((t:Int)==6) w)))/\∀(d:Nat->Value)(b:Bool),∀c,a b c->R (vB b) c):Calls prog 77 #[J t] w (bI R):=rvc [] (aq (.node none (.node (some ⟨[(2,.one (.bool))],(rgN 2 11)⟩) .leaf .leaf) .leaf)) Tryz.func77 h
theorem xe(aH:Int){R:aV}{w:World}(h:∀(a:Nat)(c:World),a=w.heap.size->c=w.alloc (.cells (#[vB false,J 0]) 52)->aB c (vA a) [vB true,J aH] λb=>∃d:Bool,∃e:Int,(b.cell? ((vA a).add 0)=some (vB d)/\b.cell? ((vA a).add 1)=some (J e))/\R (.agg #[vB d,J e]) b):Calls prog 53 #[J aH] w (bI R):=rvc [] (.leaf) Tryz.func53 h
theorem zV(d:oA){R:aV}{w:World}(h:aF d λb=>∃c:oA,∃a e:Nat,w.cell? (b.add 2)=some (.slice c a e)/\R (J (i64.wrap ((((a:Nat):Int):Int).tdiv 2))) w):Calls prog 80 #[(.pointer d)] w (bI R):=rvc [] (.leaf) Tryz.func80 h
theorem Er(d:oA)(aH:Int){R:aV}{w:World}(h:∃b:Bool->World->Prop,(split (decide ((aH:Int)>=0)) (Calls prog 80 #[(.pointer d)] w λe a=>∃c:Int,e=.returned (J c)/\b (decide ((aH:Int)<c)) a) (b false w))/\∀(i:Nat->Value)(f:Bool),∀a,b f a->R (vB f) a):Calls prog 43 #[(.pointer d),J aH] w (bI R):=rvc [] (aq (.node none (.node (some ⟨[(4,.one (.bool))],(rgN 4 9)⟩) .leaf .leaf) .leaf)) Tryz.func43 h
theorem Hp(d:oA)(aH:Int){R:aV}{w:World}(h:∀(b:Nat)(a:World),b=w.heap.size->a=w.alloc (.cells (#[J 0,J 0,J 0,J 0,vB false]) 46)->aF d λV=>∃c:oA,∃f i:Nat,a.cell? (V.add 2)=some (.slice c f i)/\(0<=(i64.wrap (2*aH):Int)/\(i64.wrap (2*aH):Int)<=((f:Nat):Int))/\∀k:oA,k=(if i=(Int.toNat (i64.wrap (2*aH)))then c else(c:oA).map (·.add ((Int.toNat (i64.wrap (2*aH)))*1)))->∀l:Nat,l=f - (Int.toNat (i64.wrap (2*aH)))->∀Y:Nat,Y=i - (Int.toNat (i64.wrap (2*aH)))->2<=l/\aF k λo=>∃p q:Int,(a.cell? (o.add 0)=some (O p)/\a.cell? (o.add 1)=some (O q))/\Calls prog 86 #[(.agg #[O p,O q])] a λe t=>∃u v x y:Int,∃z:Bool,∃Z:Int,e=.returned (.tuple #[(.agg #[J u,J v,J x,J y,vB z]),J Z])/\∀(j:Nat)(A:World),j=t.heap.size->A=t.alloc (.cells (#[J 0,J 0,J 0,J 0,vB false]) 46)->aB A (vA j) [J u,J v,J x,J y,vB z] λB=>∃C D F G:Int,∃H:Bool,aO B (vA j) 0 [J C,J D,J F,J G,vB H]/\aB B (vA b) [J C,J D,J F,J G,vB H] λI=>∃L M Q S:Int,∃T:Bool,aO I (vA b) 0 [J L,J M,J Q,J S,vB T]/\R (.agg #[J L,J M,J Q,J S,vB T]) I):Calls prog 44 #[(.pointer d),J aH] w (bI R):=rvc [] (.leaf) Tryz.func44 h
theorem En(d:oA)(aH q t u v:Int)(x:Bool){R:aV}{w:World}(h:∀(y:Nat)(c:World),y=w.heap.size->c=w.alloc (.cells #[J q,J t,J u,J v,vB x] 46)->∃z A B C:Int,∃D:Bool,aO c (vA y) 0 [J z,J A,J B,J C,vB D]/\Calls prog 88 #[(.agg #[J z,J A,J B,J C,vB D])] c λe F=>∃G H Y:Int,e=.returned (.tuple #[(.agg #[O G,O H]),J Y])/\∀(a:Nat)(I:World),a=F.heap.size->I=F.alloc (.cells (#[O 0,O 0]) 24)->aB I (vA a) [O G,O H] λf=>∃b:bP,aF d λp14=>b 3 ((p14.add 2).block)/\∃j:oA,∃l o:Nat,f.drew.cell? (p14.add 2)=some (.slice j l o)/\(0<=(i64.wrap (2*aH):Int)/\(i64.wrap (2*aH):Int)<=((l:Nat):Int))/\∀L:oA,L=(if o=(Int.toNat (i64.wrap (2*aH)))then j else(j:oA).map (·.add ((Int.toNat (i64.wrap (2*aH)))*1)))->∀M:Nat,M=l - (Int.toNat (i64.wrap (2*aH)))->∀Q:Nat,Q=o - (Int.toNat (i64.wrap (2*aH)))->∀S:oA,S=(some (if 2=0 then Addr.mk a 0 none else(vA a).add (0*1)))->∀T:Nat,T=2 - 0->∀V:Nat,V=2 - 0->∃Z:Int,∃p,(Builtin.copy_ #[22,22] 3 #[(.slice L M Q),(.slice S T V)]:Sem Value).run prog f.drew=.ok (J Z) p/\Kept (bY b [0,1]) f.drew p/\∃b1:bP,(∀i k,b i k->b1 i k)/\R (.tuple #[]) p):Calls prog 47 #[(.pointer d),J aH,(.agg #[J q,J t,J u,J v,vB x])] w (bI R):=rvc [] (.leaf) Tryz.func47 h
theorem zW(d:oA)(aH:Int){R:aV}{w:World}(h:∀(a:Nat)(l:World),a=w.heap.size->l=w.alloc (.cells (#[J 0,J 0,J 0,J 0,vB false]) 46)->Calls prog 43 #[(.pointer d),J aH] l λe o=>∃p:Bool,e=.returned (vB p)/\split (!p) (aB o (vA a) [J 0,J 0,J 0,J 0,vB false] λk=>∃b c f i:Int,∃j:Bool,aO k (vA a) 0 [J b,J c,J f,J i,vB j]/\R (.tuple #[(.agg #[J b,J c,J f,J i,vB j]),J 5]) k) (Calls prog 44 #[(.pointer d),J aH] o λe k=>∃q t u v:Int,∃x:Bool,e=.returned (.agg #[J q,J t,J u,J v,vB x])/\aB k (vA a) [J q,J t,J u,J v,vB x] λy=>∃b c f i:Int,∃j:Bool,aO y (vA a) 0 [J b,J c,J f,J i,vB j]/\R (.tuple #[(.agg #[J b,J c,J f,J i,vB j]),J 0]) y)):Calls prog 14 #[(.pointer d),J aH] w (bI R):=rvc [] (.leaf) Tryz.func14 h
theorem wj(d:oA)(aH:Int){R:aV}{w:World}(h:∃b:Bool->World->Prop,(Calls prog 43 #[(.pointer d),J aH] w λe a=>∃c:Bool,e=.returned (vB c)/\split c (Calls prog 44 #[(.pointer d),J aH] a λe j=>∃f k l o:Int,∃p:Bool,e=.returned (.agg #[J f,J k,J l,J o,vB p])/\b ((f:Int)==1) j) (b false a))/\∀(q:Nat->Value)(i:Bool),∀a,b i a->R (vB i) a):Calls prog 78 #[(.pointer d),J aH] w (bI R):=rvc [] (aq (.node none (.node (some ⟨[(4,.one (.bool))],(rgN 4 11)⟩) .leaf .leaf) .leaf)) Tryz.func78 h
theorem Co(d:oA)(space more:Int){R:aV}{w:World}(h:Calls prog 44 #[(.pointer d),J space] w λe b=>∃c f i j:Int,∃k:Bool,e=.returned (.agg #[J c,J f,J i,J j,vB k])/\∀(a:Nat)(l:World),a=b.heap.size->l=b.alloc (.cells (#[J 0,J 0,J 0,J 0,vB false]) 46)->aB l (vA a) [J c,J f,J i,J j,vB k] λo=>∃p:Int,o.cell? ((vA a).add 2)=some (J p)/\aB o ((vA a).add 2) [J (i64.wrap (p+more))] λq=>∃t u v x:Int,∃y:Bool,aO q (vA a) 0 [J t,J u,J v,J x,vB y]/\Calls prog 47 #[(.pointer d),J space,(.agg #[J t,J u,J v,J x,vB y])] q λe z=>e=.returned (.tuple #[])/\R (.tuple #[]) z):Calls prog 79 #[(.pointer d),J space,J more] w (bI R):=rvc [] (.leaf) Tryz.func79 h
theorem Cn(d:oA)(aH t space:Int){R:aV}{w:World}(h:Calls prog 43 #[(.pointer d),J aH] w λe j=>∃o:Bool,e=.returned (vB o)/\∀p:Bool,p=(!o)->split p (R (J 5) j) (∃k:Bool->World->Prop,(split ((t:Int) !=2) (Calls prog 77 #[J t] j λe f=>∃q:Bool,e=.returned (vB q)/\∀a:Bool,a=(!q)->k a f) (∀a:Bool,a=false->k a j))/\∀(M:Nat->Value)(a:Bool),∀f,k a f->split a (R (J 124) f) (∃l:Bool->World->Prop,(Calls prog 78 #[(.pointer d),J space] f λe c=>∃u:Bool,e=.returned (vB u)/\split (!u) (∀b:Bool,b=true->l b c) (Calls prog 44 #[(.pointer d),J space] c λe i=>∃z A v B:Int,∃C:Bool,e=.returned (.agg #[J z,J A,J v,J B,vB C])/\∀b:Bool,b=(decide ((v:Int)>=63))->l b i))/\∀(O:Nat->Value)(b:Bool),∀c,l b c->split b (R (J 122) c) (Calls prog 44 #[(.pointer d),J aH] c λe i=>∃x D F G:Int,∃H:Bool,e=.returned (.agg #[J x,J D,J F,J G,vB H])/\∀y:Bool,y=((x:Int) !=0)->split y (R (J 120) i) (Calls prog 47 #[(.pointer d),J aH,(.agg #[J t,J space,J 0,J 0,vB false])] i λe I=>e=.returned (.tuple #[])/\Calls prog 79 #[(.pointer d),J space,J 1] I λe L=>e=.returned (.tuple #[])/\R (J 0) L))))):Calls prog 37 #[(.pointer d),J aH,J t,J space] w (bI R):=rvc [9,14,22,34] (aq (.node none (.node none (aq (aq (.node none (.node (some ⟨[(14,.one (.bool))],(rgN 14 8)⟩) .leaf .leaf) (aq (.node none (.node (some ⟨[(22,.one (.bool))],(rgN 22 12)⟩) .leaf .leaf) .leaf))))) .leaf) .leaf)) Tryz.func37 h
theorem Cm(d:oA)(aH t:Int){R:aV}{w:World}(h:Calls prog 43 #[(.pointer d),J aH] w λe p=>∃q:Bool,e=.returned (vB q)/\split (!q) (R (J 5) p) (Calls prog 44 #[(.pointer d),J aH] p λe u=>∃v x y z:Int,∃A:Bool,e=.returned (.agg #[J v,J x,J y,J z,vB A])/\∀(c:Nat)(B:World),c=u.heap.size->B=u.alloc (.cells (#[J 0,J 0,J 0,J 0,vB false]) 46)->aB B (vA c) [J v,J x,J y,J z,vB A] λC=>∃j:Bool->World->Prop,(∃D:Int,C.cell? ((vA c).add 0)=some (J D)/\Calls prog 77 #[J D] C λe a=>∃F:Bool,e=.returned (vB F)/\split (!F) (j true a) (Calls prog 77 #[J t] a λe f=>∃G:Bool,e=.returned (vB G)/\j (!G) f))/\∀(S3:Nat->Value)(H:Bool),∀a,j H a->split H (R (J 124) a) (aB a ((vA c).add 0) [J t] λf=>∃I L M O:Int,∃Q:Bool,aO f (vA c) 0 [J I,J L,J M,J O,vB Q]/\Calls prog 47 #[(.pointer d),J aH,(.agg #[J I,J L,J M,J O,vB Q])] f λe l=>e=.returned (.tuple #[])/\∃b:bP,aF d λS=>b 3 ((S.add 0).block)/\∃T:oA,l.drew.cell? (S.add 0)=some (.pointer T)/\Calls prog 53 #[J aH] l.drew λe o=>∃V:Bool,∃Y:Int,e=.returned (.agg #[vB V,J Y])/\Kept (bY b [0,1,2,3]) l.drew o/\∃b1:bP,(∀i k,b i k->b1 i k)/\Calls prog 52 #[(.pointer T),(.agg #[vB V,J Y])] o λe Z=>∃Tp:Int,e=.returned (J Tp)/\Kept (bY b1 [0]) o Z/\∃b2:bP,(∀i k,b1 i k->b2 i k)/\R (J Tp) Z))):Calls prog 161 #[(.pointer d),J aH,J t] w (bI R):=rvc [] (aq (aq (aq (.node none (.node none (.node (some ⟨[(23,.one (.bool))],(rgN 15 9)⟩) .leaf .leaf) .leaf) .leaf)))) Tryz.func161 h
theorem tq(d:oA)(space s:Int){R:aV}{w:World}(h:Calls prog 43 #[(.pointer d),J space] w λe j=>∃k:Bool,e=.returned (vB k)/\split (!k) (R (J 5) j) (Calls prog 44 #[(.pointer d),J space] j λe l=>∃o p q t:Int,∃u:Bool,e=.returned (.agg #[J o,J p,J q,J t,vB u])/\∀(b:Nat)(v:World),b=l.heap.size->v=l.alloc (.cells (#[J 0,J 0,J 0,J 0,vB false]) 46)->aB v (vA b) [J o,J p,J q,J t,vB u] λc=>∃x:Int,c.cell? ((vA b).add 0)=some (J x)/\∀y:Bool,y=((x:Int) !=1)->split y (R (J 124) c) (∃f:Bool->World->Prop,(split ((s:Int) !=3) (∃z:Int,c.cell? ((vA b).add 3)=some (J z)/\split ((z:Int) !=1) (∀a:Bool,a=true->f a c) (∀a:Bool,a=((s:Int) !=2)->f a c)) (∀a:Bool,a=false->f a c))/\∀(I:Nat->Value)(a:Bool),∀i,f a i->split a (R (J 3) i) (aB i ((vA b).add 3) [J s] λA=>∃B C D F:Int,∃G:Bool,aO A (vA b) 0 [J B,J C,J D,J F,vB G]/\Calls prog 47 #[(.pointer d),J space,(.agg #[J B,J C,J D,J F,vB G])] A λe H=>e=.returned (.tuple #[])/\R (J 0) H)))):Calls prog 18 #[(.pointer d),J space,J s] w (bI R):=rvc [15,19] (aq (aq (aq (.node none (.node none (aq (aq (.node none (.node (some ⟨[(19,.one (.bool))],(rgN 19 12)⟩) .leaf .leaf) .leaf))) .leaf) .leaf)))) Tryz.func18 h
theorem qN(d:oA)(thread:Int)(on:Bool){R:aV}{w:World}(h:Calls prog 43 #[(.pointer d),J thread] w λe c=>∃f:Bool,e=.returned (vB f)/\split (!f) (R (J 5) c) (Calls prog 44 #[(.pointer d),J thread] c λe i=>∃j k l o:Int,∃p:Bool,e=.returned (.agg #[J j,J k,J l,J o,vB p])/\∀(a:Nat)(q:World),a=i.heap.size->q=i.alloc (.cells (#[J 0,J 0,J 0,J 0,vB false]) 46)->aB q (vA a) [J j,J k,J l,J o,vB p] λb=>∃t:Int,b.cell? ((vA a).add 0)=some (J t)/\split ((t:Int) !=2) (R (J 124) b) (aB b ((vA a).add 4) [vB on] λu=>∃v x y z:Int,∃A:Bool,aO u (vA a) 0 [J v,J x,J y,J z,vB A]/\Calls prog 47 #[(.pointer d),J thread,(.agg #[J v,J x,J y,J z,vB A])] u λe B=>e=.returned (.tuple #[])/\R (J 0) B))):Calls prog 83 #[(.pointer d),J thread,vB on] w (bI R):=rvc [] (.leaf) Tryz.func83 h
theorem rX(d:oA)(space first:Int){R:aV}{w:World}(h:∃p:Bool->World->Prop,(Calls prog 43 #[(.pointer d),J space] w λe j=>∃A:Bool,e=.returned (vB A)/\split (!A) (∀c:Bool,c=true->p c j) (Calls prog 43 #[(.pointer d),J first] j λe a=>∃B:Bool,e=.returned (vB B)/\∀c:Bool,c=(!B)->p c a))/\∀(Uo:Nat->Value)(c:Bool),∀j,p c j->split c (R (J 5) j) (∀C:Bool,C=((space:Int)==first)->split C (R (J 1) j) (∃q:Bool->World->Prop,(Calls prog 44 #[(.pointer d),J space] j λe a=>∃D az aA aC:Int,∃aN:Bool,e=.returned (.agg #[J D,J az,J aA,J aC,vB aN])/\split ((D:Int) !=0) (∀f:Bool,f=true->q f a) (Calls prog 44 #[(.pointer d),J first] a λe t=>∃F a0 a1 a2:Int,∃a3:Bool,e=.returned (.agg #[J F,J a0,J a1,J a2,vB a3])/\∀f:Bool,f=((F:Int) !=0)->q f t))/\∀(S3:Nat->Value)(f:Bool),∀a,q f a->split f (R (J 120) a) (aF d λa4=>∃G:Int,a.cell? (a4.add 1)=some (J G)/\∀H:Bool,H=(decide ((G:Int)>=64))->split H (R (J 240) a) (Calls prog 47 #[(.pointer d),J space,(.agg #[J 1,J space,J 1,J 1,vB false])] a λe t=>e=.returned (.tuple #[])/\Calls prog 47 #[(.pointer d),J first,(.agg #[J 3,J space,J 0,J 0,vB false])] t λe u=>e=.returned (.tuple #[])/\∃b:bP,aF d λI=>b 3 ((I.add 0).block)/\∃L:oA,u.drew.cell? (I.add 0)=some (.pointer L)/\Calls prog 53 #[J space] u.drew λe v=>∃M:Bool,∃Q:Int,e=.returned (.agg #[vB M,J Q])/\Kept (bY b [0,1,2,3,6,7]) u.drew v/\∃b1:bP,(∀i k,b i k->b1 i k)/\Calls prog 36 #[(.pointer L),(.agg #[vB M,J Q]),J 0,O (u32.wrap first)] v λe l=>∃a5:Int,e=.returned (J a5)/\Kept (bY b1 [0]) v l/\∃b2:bP,(∀i k,b1 i k->b2 i k)/\∃b3:bP,aF d λS=>b3 3 ((S.add 0).block)/\∃T:oA,l.drew.cell? (S.add 0)=some (.pointer T)/\aF d λV=>b3 9 ((V.add 1).block)/\∃Y:Int,l.drew.cell? (V.add 1)=some (J Y)/\Calls prog 53 #[J space] l.drew λe x=>∃Z:Bool,∃aa:Int,e=.returned (.agg #[vB Z,J aa])/\Kept (bY b3 [0,1,2,3,6,7,8,9,10]) l.drew x/\∃b4:bP,(∀i k,b3 i k->b4 i k)/\Calls prog 36 #[(.pointer T),(.agg #[vB Z,J aa]),J 1,O (u32.wrap Y)] x λe o=>∃a6:Int,e=.returned (J a6)/\Kept (bY b4 [0,6,7]) x o/\∃b5:bP,(∀i k,b4 i k->b5 i k)/\∃b6:bP,aF d λab=>b6 3 ((ab.add 0).block)/\∃ae:oA,o.drew.cell? (ab.add 0)=some (.pointer ae)/\Calls prog 53 #[J space] o.drew λe y=>∃af:Bool,∃ah:Int,e=.returned (.agg #[vB af,J ah])/\Kept (bY b6 [0,1,2,3]) o.drew y/\∃b7:bP,(∀i k,b6 i k->b7 i k)/\Calls prog 36 #[(.pointer ae),(.agg #[vB af,J ah]),J 2,O 0] y λe z=>∃a7:Int,e=.returned (J a7)/\Kept (bY b7 [0]) y z/\∃b8:bP,(∀i k,b7 i k->b8 i k)/\aF d λa8=>∃an:Int,z.cell? (a8.add 1)=some (J an)/\aF d λa9=>aB z (a9.add 1) [J (i64.wrap (an+1))] λR8=>R (J 0) R8))))):Calls prog 58 #[(.pointer d),J space,J first] w (bI R):=rvc [7,18,22,35] (aq (.node none (.node none (.node none (.node (some ⟨[(7,.one (.bool))],(rgN 7 11)⟩) .leaf .leaf) (aq (aq (aq (.node none (.node (some ⟨[(22,.one (.bool))],(rgN 22 13)⟩) .leaf .leaf) .leaf))))) .leaf) .leaf)) Tryz.func58 h
theorem wI(q:Bool)(t:Int)(u md:Bool){R:aV}{w:World}(h:∀(a:Nat)(f:World),a=w.heap.size->f=w.alloc (.cells #[vB q,J t,vB u,vB md] 133)->∃l:Bool->World->Prop,(∃v:Int,f.cell? (((vA a).add 0).add 1)=some (J v)/\split (decide ((v:Int)<0)) (l true f) (∃x:Int,f.cell? (((vA a).add 0).add 1)=some (J x)/\l (decide ((x:Int)>63)) f))/\∀(Z:Nat->Value)(y:Bool),∀d,l y d->split y (R (.tuple #[O 0,J 4]) d) (∃o:Bool->World->Prop,(∃z:Bool,d.cell? ((vA a).add 3)=some (vB z)/\split z (∃A:Bool,d.cell? (((vA a).add 0).add 0)=some (vB A)/\o (!A) d) (o false d))/\∀(SQ:Nat->Value)(B:Bool),∀b,o B b->split B (R (.tuple #[O 0,J 1]) b) (∃C:Int,b.cell? (((vA a).add 0).add 1)=some (J C)/\∀D:Int,D=(u32.wrap (BitVec.ofInt u32.bits (u32.wrap ((u32.wrap C:Int)*2 ^ 8)) ||| BitVec.ofInt u32.bits 1).toNat)->∃F:Bool,b.cell? (((vA a).add 0).add 0)=some (vB F)/\∃G:Bool,b.cell? ((vA a).add 2)=some (vB G)/\∃H:Bool,b.cell? ((vA a).add 3)=some (vB H)/\∀(p:Nat)(L:World),p=b.heap.size->L=b.alloc (.cells #[vB F,O 2,vB G,O 4,vB H,O 8] 205)->∃I:Nat->Int->Int->World->Prop,(∃m,I m D 0 L)/\∀(m:Nat)(Vm:Nat->Value)(i c:Int),∀e,I m i c e->split (decide ((c:Int)<((3:Nat):Int))) ((0<=(c:Int)/\(c:Int)<((3:Nat):Int))/\∃M:Bool,∃Q:Int,(e.cell? (((vA p).add (Int.toNat c*2)).add 0)=some (vB M)/\e.cell? (((vA p).add (Int.toNat c*2)).add 1)=some (O Q))/\∀(j:Nat)(S:World),j=e.heap.size->S=e.alloc (.cells (#[vB false,O 0]) 205)->aB S (vA j) [vB M,O Q] λk=>∃T:Bool,k.cell? ((vA j).add 0)=some (vB T)/\split T (∃V:Int,k.cell? ((vA j).add 1)=some (O V)/\∀Y:Int,Y=(u32.wrap (BitVec.ofInt u32.bits i ||| BitVec.ofInt u32.bits V).toNat)->∃m1,m1<m/\I m1 Y (i64.wrap (c+1)) k) (∃m1,m1<m/\I m1 i (i64.wrap (c+1)) k)) (R (.tuple #[O i,J 0]) e)))):Calls prog 101 #[(.agg #[vB q,J t,vB u,vB md])] w (bI R):=rvc [4] (aq (.node none (.node none (.node (some ⟨[(16,.one (.bool))],(rgN 7 10)⟩) .leaf .leaf) .leaf) (.node none (.node none (.node (some ⟨[(24,.one (.bool))],(rgN 17 8)⟩) .leaf .leaf) .leaf) (aq (.node none (aq (.node none (.node (some ⟨[(4,.one (.int .u32)),(43,.one (.int .i64))],[4,6,43,44,45,46,47,48,49,50,51,52,53]⟩) .leaf .leaf) .leaf)) .leaf))))) Tryz.func101 h
theorem l8(x k:Int){R:aV}{w:World}(h:∀s:Int,s=(u64.wrap (BitVec.ofInt u64.bits (u64.wrap k) &&& BitVec.ofInt u64.bits 31).toNat)->eh s λa=>eh (u64.wrap (32 - s)) λb=>R (O (u32.wrap (BitVec.ofInt u32.bits (u32.wrap ((x:Int)*2 ^ (min a u32.bits))) ||| BitVec.ofInt u32.bits ((x:Int).fdiv (2 ^ (min b u32.bits)))).toNat)) w):Calls prog 166 #[O x,J k] w (bI R):=rvc [5] (.leaf) Tryz.func166 h
theorem zr(a n:Int){R:aV}{w:World}(h:Calls prog 166 #[O a,J (i64.wrap (0 - n))] w λe c=>∃b:Int,e=.returned (O b)/\R (O b) c):Calls prog 144 #[O a,J n] w (bI R):=rvc [] (.leaf) Tryz.func144 h
theorem tn(A B C D F G H L M Q S T V Y Z aa:Int){R:aV}{w:World}(h:∀(o:Nat)(p:World),o=w.heap.size->p=w.alloc (.cells (uC A B C D F G H L M Q S T V Y Z aa) 235)->∀(q:Nat)(x:World),q=p.heap.size->x=p.alloc (.cells (Array.replicate 64 (O 0)) 253)->∀(a:Nat)(Rq:World),a=x.heap.size->Rq=x.alloc (.cells (Array.replicate 64 (O 0)) 253)->∃b:bP,∀ZT:oA,ZT=(some (if 64=0 then Addr.mk a 0 none else(vA a).add (0*1)))->∀XN:Nat,XN=64 - 0->∀ZS:Nat,ZS=64 - 0->∀X8:oA,X8=(some (if 16=0 then Addr.mk o 0 none else(vA o).add (0*1)))->∀X6:Nat,X6=16 - 0->∀X7:Nat,X7=16 - 0->∃x9:Int,∃Rw,(Builtin.copy_ #[22,22] 3 #[(.slice ZT XN ZS),(.slice X8 X6 X7)]:Sem Value).run prog Rq.drew=.ok (J x9) Rw/\∃b1:bP,(∀i k,b i k->b1 i k)/\∀t:Int,t=16->∃I:Nat->Int->World->Prop,(∃m,I m t Rw)/\∀(m:Nat)(Vn:Nat->Value)(t1:Int),∀c,I m t1 c->split (decide ((t1:Int)<64)) ((0<=(i64.wrap (t1 - 15):Int)/\(i64.wrap (t1 - 15):Int)<((64:Nat):Int))/\∃j:Int,c.drew.cell? ((vA a).add (Int.toNat (i64.wrap (t1 - 15))*1))=some (O j)/\(0<=(i64.wrap (t1 - 2):Int)/\(i64.wrap (t1 - 2):Int)<((64:Nat):Int))/\∃l:Int,c.drew.cell? ((vA a).add (Int.toNat (i64.wrap (t1 - 2))*1))=some (O l)/\∃b2:bP,(0<=(i64.wrap (t1 - 16):Int)/\(i64.wrap (t1 - 16):Int)<((64:Nat):Int))/\b2 4 (((vA a).add (Int.toNat (i64.wrap (t1 - 16))*1)).block)/\∃UL:Int,c.drew.drew.cell? ((vA a).add (Int.toNat (i64.wrap (t1 - 16))*1))=some (O UL)/\(0<=(i64.wrap (t1 - 7):Int)/\(i64.wrap (t1 - 7):Int)<((64:Nat):Int))/\b2 17 (((vA a).add (Int.toNat (i64.wrap (t1 - 7))*1)).block)/\∃YD:Int,c.drew.drew.cell? ((vA a).add (Int.toNat (i64.wrap (t1 - 7))*1))=some (O YD)/\Calls prog 144 #[O j,J 7] c.drew.drew λe d=>∃S4:Int,e=.returned (O S4)/\Kept (bY b2 [0,1,2,3,4,7,10,11,14,15,16,17,19,21,24,25]) c.drew.drew d/\∃b3:bP,(∀i k,b2 i k->b3 i k)/\Calls prog 144 #[O j,J 18] d λe y=>∃Tx:Int,e=.returned (O Tx)/\Kept (bY b3 [0,1,2,3,4,10,11,14,15,16,17,19,21,24,25]) d y/\∃b4:bP,(∀i k,b3 i k->b4 i k)/\Calls prog 144 #[O l,J 17] y λe z=>∃UJ:Int,e=.returned (O UJ)/\Kept (bY b4 [0,1,2,3,4,9,10,11,12,13,14,15,16,17,18,21,24,25]) y z/\∃b5:bP,(∀i k,b4 i k->b5 i k)/\Calls prog 144 #[O l,J 19] z λe RZ=>∃ab:Int,e=.returned (O ab)/\Kept (bY b5 [0,1,2,3,4,5,9,10,11,12,13,14,15,16,17,18,24,25]) z RZ/\∃b6:bP,(∀i k,b5 i k->b6 i k)/\(0<=(t1:Int)/\(t1:Int)<((64:Nat):Int))/\aB RZ ((vA a).add (Int.toNat t1*1)) [O (u32.wrap ((u32.wrap ((u32.wrap (UL+(u32.wrap (BitVec.ofInt u32.bits (u32.wrap (BitVec.ofInt u32.bits S4 ^^^ BitVec.ofInt u32.bits Tx).toNat) ^^^ BitVec.ofInt u32.bits ((j:Int).fdiv (2 ^ 3))).toNat)))+YD))+(u32.wrap (BitVec.ofInt u32.bits (u32.wrap (BitVec.ofInt u32.bits UJ ^^^ BitVec.ofInt u32.bits ab).toNat) ^^^ BitVec.ofInt u32.bits ((l:Int).fdiv (2 ^ 10))).toNat)))] λSr=>∃b7:bP,(∀i k,b6 i k->b7 i k)/\∀t2:Int,t2=(i64.wrap (t1+1))->∃m1,m1<m/\I m1 t2 Sr) (∃f:Array Value,(f.size=64/\∀i u,f[i]? =some u->c.cell? ((vA a).add i)=some u)/\f.size=64/\(∀v∈f.toList,one? v True)/\aB c (vA q) f.toList λd=>∃r0:Array Value,(r0.size=64/\∀i u,r0[i]? =some u->d.cell? ((vA q).add i)=some u)/\R (.agg r0) d)):Calls prog 143 #[(.agg (uC A B C D F G H L M Q S T V Y Z aa))] w (bI R):=rvc [4] (aq (aq (aq (.node none (aq (.node none (.node (some ⟨[(4,.one (.int .i64))],[4,5,6,10,11,12,13,14,15,16,17,18,19,20,21,22,23,24,25,26,27,28,29,30,31,32,33,34,35,36,37,38,39,40,41,42,43,44,45,46,47,48,49,50]⟩) .leaf .leaf) .leaf)) .leaf)))) Tryz.func143 h
theorem zt(D F G H L M Q S T V Y Z aa ab ae af ah an az aA aC aN a0 a1:Int){R:aV}{w:World}(h:∀(u:Nat)(x:World),u=w.heap.size->x=w.alloc (.cells (q8a D F G H L M Q S) 26)->∀(Ru:Nat)(y:World),Ru=x.heap.size->y=x.alloc (.cells (uC T V Y Z aa ab ae af ah an az aA aC aN a0 a1) 235)->∀(z:Nat)(v:World),z=y.heap.size->v=y.alloc (.cells (z8a) 26)->∃Tj Td Ws Wr Wq Zl Zk Zj:Int,aO v (vA u) 0 [O Tj,O Td,O Ws,O Wr,O Wq,O Zl,O Zk,O Zj]/\∀(a:Nat)(Rw:World),a=v.heap.size->Rw=v.alloc (.cells (z8a) 26)->aB Rw (vA a) (q8l Tj Td Ws Wr Wq Zl Zk Zj) λRE=>∃SM SL TJ TI TH Wp Wo Wn Zg Zf Ze Zd Zc Zb Za Y9:Int,aO RE (vA Ru) 0 [O SM,O SL,O TJ,O TI,O TH,O Wp,O Wo,O Wn,O Zg,O Zf,O Ze,O Zd,O Zc,O Zb,O Za,O Y9]/\Calls prog 143 #[(.agg (uC SM SL TJ TI TH Wp Wo Wn Zg Zf Ze Zd Zc Zb Za Y9))] RE λe R0=>∃Wm:Array Value,e=.returned (.agg Wm)/\∃I:Nat->Int->World->Prop,(∃m,I m 0 R0)/\∀(m:Nat)(Vm:Nat->Value)(d:Int),∀f,I m d f->split (decide ((d:Int)<64)) ((0<=(d:Int)/\(d:Int)<((64:Nat):Int))/\∃TF:Int,Wm[Int.toNat d*1]? =some (O TF)/\(0<=(0:Int)/\(0:Int)<((8:Nat):Int))/\∃q:Int,f.drew.cell? ((vA a).add (Int.toNat 0*1))=some (O q)/\(0<=(4:Int)/\(4:Int)<((8:Nat):Int))/\∃t:Int,f.drew.cell? ((vA a).add (Int.toNat 4*1))=some (O t)/\∃b:bP,(0<=(7:Int)/\(7:Int)<((8:Nat):Int))/\b 1 (((vA a).add (Int.toNat 7*1)).block)/\∃Ue:Int,f.drew.drew.cell? ((vA a).add (Int.toNat 7*1))=some (O Ue)/\(0<=(5:Int)/\(5:Int)<((8:Nat):Int))/\b 13 (((vA a).add (Int.toNat 5*1)).block)/\∃YE:Int,f.drew.drew.cell? ((vA a).add (Int.toNat 5*1))=some (O YE)/\(0<=(6:Int)/\(6:Int)<((8:Nat):Int))/\b 18 (((vA a).add (Int.toNat 6*1)).block)/\∃UJ:Int,f.drew.drew.cell? ((vA a).add (Int.toNat 6*1))=some (O UJ)/\(0<=(d:Int)/\(d:Int)<((64:Nat):Int))/\b 24 (((vA 1).add (Int.toNat d*1)).block)/\∃Xe:Int,f.drew.drew.cell? ((vA 1).add (Int.toNat d*1))=some (O Xe)/\Calls prog 144 #[O t,J 6] f.drew.drew λe j=>∃Vp:Int,e=.returned (O Vp)/\Kept (bY b [0,1,4,7,11,12,13,14,15,16,17,18,19,20,22,23,24,26]) f.drew.drew j/\∃b1:bP,(∀i k,b i k->b1 i k)/\Calls prog 144 #[O t,J 11] j λe o=>∃WK:Int,e=.returned (O WK)/\Kept (bY b1 [0,1,7,11,12,13,14,15,16,17,18,19,20,22,23,24,26]) j o/\∃b2:bP,(∀i k,b1 i k->b2 i k)/\Calls prog 144 #[O t,J 25] o λe p=>∃a2:Int,e=.returned (O a2)/\Kept (bY b2 [0,1,6,11,12,13,14,15,16,17,18,19,20,22,23,24,26]) o p/\∃b3:bP,(∀i k,b2 i k->b3 i k)/\∀t1:Int,t1=(u32.wrap ((u32.wrap ((u32.wrap ((u32.wrap (Ue+(u32.wrap (BitVec.ofInt u32.bits (u32.wrap (BitVec.ofInt u32.bits Vp ^^^ BitVec.ofInt u32.bits WK).toNat) ^^^ BitVec.ofInt u32.bits a2).toNat)))+(u32.wrap (BitVec.ofInt u32.bits (u32.wrap (BitVec.ofInt u32.bits t &&& BitVec.ofInt u32.bits YE).toNat) ^^^ BitVec.ofInt u32.bits (u32.wrap (BitVec.ofInt u32.bits (u32.wrap (BitVec.ofInt u32.bits (if u32.signed then -1 else u32.max) ^^^ BitVec.ofInt u32.bits t).toNat) &&& BitVec.ofInt u32.bits UJ).toNat)).toNat)))+Xe))+TF))->∃b4:bP,(0<=(1:Int)/\(1:Int)<((8:Nat):Int))/\b4 10 (((vA a).add (Int.toNat 1*1)).block)/\∃a3:Int,p.drew.cell? ((vA a).add (Int.toNat 1*1))=some (O a3)/\(0<=(2:Int)/\(2:Int)<((8:Nat):Int))/\b4 14 (((vA a).add (Int.toNat 2*1)).block)/\∃a4:Int,p.drew.cell? ((vA a).add (Int.toNat 2*1))=some (O a4)/\(0<=(1:Int)/\(1:Int)<((8:Nat):Int))/\b4 18 (((vA a).add (Int.toNat 1*1)).block)/\∃a5:Int,p.drew.cell? ((vA a).add (Int.toNat 1*1))=some (O a5)/\(0<=(2:Int)/\(2:Int)<((8:Nat):Int))/\b4 20 (((vA a).add (Int.toNat 2*1)).block)/\∃a6:Int,p.drew.cell? ((vA a).add (Int.toNat 2*1))=some (O a6)/\Calls prog 144 #[O q,J 2] p.drew λe A=>∃a7:Int,e=.returned (O a7)/\Kept (bY b4 [2,5,8,9,10,11,12,13,14,15,16,17,18,19,20,21,22]) p.drew A/\∃b5:bP,(∀i k,b4 i k->b5 i k)/\Calls prog 144 #[O q,J 13] A λe B=>∃a8:Int,e=.returned (O a8)/\Kept (bY b5 [5,8,9,10,11,12,13,14,15,16,17,18,19,20,21,22]) A B/\∃b6:bP,(∀i k,b5 i k->b6 i k)/\Calls prog 144 #[O q,J 22] B λe l=>∃VE:Int,e=.returned (O VE)/\Kept (bY b6 [4,8,9,10,11,12,13,14,15,16,17,18,19,20,21,22]) B l/\∃b7:bP,(∀i k,b6 i k->b7 i k)/\∀t2:Int,t2=(u32.wrap ((u32.wrap (BitVec.ofInt u32.bits (u32.wrap (BitVec.ofInt u32.bits a7 ^^^ BitVec.ofInt u32.bits a8).toNat) ^^^ BitVec.ofInt u32.bits VE).toNat)+(u32.wrap (BitVec.ofInt u32.bits (u32.wrap (BitVec.ofInt u32.bits (u32.wrap (BitVec.ofInt u32.bits q &&& BitVec.ofInt u32.bits a3).toNat) ^^^ BitVec.ofInt u32.bits (u32.wrap (BitVec.ofInt u32.bits q &&& BitVec.ofInt u32.bits a4).toNat)).toNat) ^^^ BitVec.ofInt u32.bits (u32.wrap (BitVec.ofInt u32.bits a5 &&& BitVec.ofInt u32.bits a6).toNat)).toNat)))->(0<=(0:Int)/\(0:Int)<((8:Nat):Int))/\∃a9:Int,l.cell? ((vA a).add (Int.toNat 0*1))=some (O a9)/\(0<=(1:Int)/\(1:Int)<((8:Nat):Int))/\∃ba:Int,l.cell? ((vA a).add (Int.toNat 1*1))=some (O ba)/\(0<=(2:Int)/\(2:Int)<((8:Nat):Int))/\∃bb:Int,l.cell? ((vA a).add (Int.toNat 2*1))=some (O bb)/\(0<=(3:Int)/\(3:Int)<((8:Nat):Int))/\∃bc:Int,l.cell? ((vA a).add (Int.toNat 3*1))=some (O bc)/\(0<=(4:Int)/\(4:Int)<((8:Nat):Int))/\∃bd:Int,l.cell? ((vA a).add (Int.toNat 4*1))=some (O bd)/\(0<=(5:Int)/\(5:Int)<((8:Nat):Int))/\∃bf:Int,l.cell? ((vA a).add (Int.toNat 5*1))=some (O bf)/\(0<=(6:Int)/\(6:Int)<((8:Nat):Int))/\∃bh:Int,l.cell? ((vA a).add (Int.toNat 6*1))=some (O bh)/\aB l (vA a) [O (u32.wrap (t1+t2)),O a9,O ba,O bb,O (u32.wrap (bc+t1)),O bd,O bf,O bh] λcc=>∃m1,m1<m/\I m1 (i64.wrap (d+1)) cc) (∃C:Nat->Int->World->Prop,(∃m2,C m2 0 f)/\∀(m2:Nat)(XM:Nat->Value)(c:Int),∀j,C m2 c j->split (decide ((c:Int)<8)) (∃b:bP,(0<=(c:Int)/\(c:Int)<((8:Nat):Int))/\b 2 (((vA a).add (Int.toNat c*1)).block)/\∃bk:Int,j.drew.cell? ((vA a).add (Int.toNat c*1))=some (O bk)/\(0<=(c:Int)/\(c:Int)<((8:Nat):Int))/\b 5 (((vA u).add (Int.toNat c*1)).block)/\∃bl:Int,j.drew.cell? ((vA u).add (Int.toNat c*1))=some (O bl)/\(0<=(c:Int)/\(c:Int)<((8:Nat):Int))/\aB j.drew ((vA a).add (Int.toNat c*1)) [O (u32.wrap (bk+bl))] λo=>∃b1:bP,(∀i k,b i k->b1 i k)/\∃m3,m3<m2/\C m3 (i64.wrap (c+1)) o) (∃bm bs bA bC bF bN ca cb:Int,aO j (vA a) 0 [O bm,O bs,O bA,O bC,O bF,O bN,O ca,O cb]/\aB j (vA z) (q8l bm bs bA bC bF bN ca cb) λo=>∃Si Sg TB TA Tz Uf Vb Va:Int,aO o (vA z) 0 [O Si,O Sg,O TB,O TA,O Tz,O Uf,O Vb,O Va]/\R (.agg (q8a Si Sg TB TA Tz Uf Vb Va)) o))):Calls prog 121 #[(.agg (q8a D F G H L M Q S)),(.agg (uC T V Y Z aa ab ae af ah an az aA aC aN a0 a1))] w (bI R):=rvc [10,11] (aq (aq (.node none (aq (.node none (.node (some ⟨[(16,.one (.int .i64))],[6,7,8,9,10,11,16,17,18,19,20,21,22,23,24,25,26,27,28,29,30,31,32,33,34,35,36,37,38,39,40,41,42,43,44,45,46,47,48,49,50,51,52,53,54,55,56,57,58,59,60,61,62,63,64,65,66,67,68,69,70,71,72,73,74,75,76,77,78,79,80,81,82,83,84,85,86,87,88,89,90,91,92,93,94,95,96]⟩) .leaf .leaf) .leaf)) (.node none (aq (.node none (.node (some ⟨[(97,.one (.int .i64))],[12,97,98,99,100,101,102,103,104,105,106,107,108]⟩) .leaf .leaf) .leaf)) .leaf)))) Tryz.func121 h
theorem zs {R:aV}{w:World}(h:∀(a:Nat)(b:World),a=w.heap.size->b=w.alloc (.cells (z8a) 26)->aB b (vA a) (q8l 1779033703 3144134277 1013904242 2773480762 1359893119 2600822924 528734635 1541459225) λc=>∃d e f i j k l o:Int,aO c (vA a) 0 [O d,O e,O f,O i,O j,O k,O l,O o]/\R (.agg (q8a d e f i j k l o)) c):Calls prog 108 #[] w (bI R):=rvc [] (.leaf) Tryz.func108 h
theorem DM {R:aV}{w:World}(h:Calls prog 108 #[] w λe a=>∃b c d f i j k l:Int,e=.returned (.agg (q8a b c d f i j k l))/\∀(o:Nat)(p:World),o=a.heap.size->p=a.alloc (.cells #[O b,O c,O d,O f,O i,O j,O k,O l,J 0,(.slice none 0 0)] 195)->R (.pointer (pvA o)) p):Calls prog 91 #[] w (bI R):=rvc [] (.leaf) Tryz.func91 h
theorem DP(d x:oA)(cm y:Nat){R:aV}{w:World}(h:aF d λp8=>∃z:Int,w.cell? (p8.add 8)=some (J z)/\split (decide ((((cm:Nat):Int):Int)>(i64.wrap (36028797018963968 - z)))) (R (.tuple #[]) w) (aF d λp14=>∃A:Int,w.cell? (p14.add 8)=some (J A)/\aF d λbm=>aB w (bm.add 8) [J (i64.wrap (A+((cm:Nat):Int)))] λj=>∃b:bP,aF d λB=>b 3 ((B.add 9).block)/\∃t:oA,∃bs C:Nat,j.drew.cell? (B.add 9)=some (.slice t bs C)/\aF d λD=>b 7 ((D.add 9).block)/\∃bA:oA,∃p bC:Nat,j.drew.cell? (D.add 9)=some (.slice bA p bC)/\aF d λF=>b 12 ((F.add 9).block)/\∃bF:oA,∃a bN:Nat,j.drew.cell? (F.add 9)=some (.slice bF a bN)/\(0<=(((a:Nat):Int):Int)/\(((a:Nat):Int):Int)<=((C:Nat):Int))/\(0<=(((p:Nat):Int):Int)/\(((p:Nat):Int):Int)<=((Int.toNat ((a:Nat):Int):Nat):Int))/\∀G:oA,G=(if(Int.toNat ((a:Nat):Int))=0 then t else(t:oA).map (·.add (0*1)))->∀H:Nat,H=(Int.toNat ((p:Nat):Int)) - 0->∀L:Nat,L=(Int.toNat ((a:Nat):Int)) - 0->∃M:oA,∃Q S:Nat,∃u,(Builtin.append_ #[22,22] 22 #[(.slice G H L),(.slice x cm y)]:Sem Value).run prog j.drew=.ok (.slice M Q S) u/\Kept (bY b [0,1,4,5,6,9,10,11]) j.drew u/\∃b1:bP,(∀i k,b i k->b1 i k)/\∃I:Nat->Option Addr->Nat->Nat->World->Prop,(∃m,I m M Q S u)/\∀(m:Nat)(Uo:Nat->Value)(l:oA)(c q:Nat),∀f,I m l c q f->split (decide ((((c:Nat):Int):Int)>=16)) (∃b2:bP,aF d λT=>b2 4 ((T.add 0).block)/\∃V Y Z aa ab ae af ah:Int,aO f.drew (T.add 0) 0 [O V,O Y,O Z,O aa,O ab,O ae,O af,O ah]/\16<=c/\aF l λan=>b2 7 (an.block)/\∃Yu Yt Yr Yq Yp Yo Yn Ym az aA aC aN a0 a1 a2 a3:Int,aO f.drew an 0 [O Yu,O Yt,O Yr,O Yq,O Yp,O Yo,O Yn,O Ym,O az,O aA,O aC,O aN,O a0,O a1,O a2,O a3]/\Calls prog 121 #[(.agg (q8a V Y Z aa ab ae af ah)),(.agg (uC Yu Yt Yr Yq Yp Yo Yn Ym az aA aC aN a0 a1 a2 a3))] f.drew λe o=>∃a4 a5 a6 a7 a8 a9 ba bb:Int,e=.returned (.agg (q8a a4 a5 a6 a7 a8 a9 ba bb))/\Kept (bY b2 [0,1]) f.drew o/\∃b3:bP,(∀i k,b2 i k->b3 i k)/\aF d λca=>aB o (ca.add 0) (q8l a4 a5 a6 a7 a8 a9 ba bb) λv=>∃b4:bP,(∀i k,b3 i k->b4 i k)/\(0<=(16:Int)/\(16:Int)<=((c:Nat):Int))/\∀bc:oA,bc=(if q=(Int.toNat 16)then l else(l:oA).map (·.add ((Int.toNat 16)*1)))->∀bd:Nat,bd=c - (Int.toNat 16)->∀bf:Nat,bf=q - (Int.toNat 16)->∃m1,m1<m/\I m1 bc bd bf v) (∃bh:oA,∃bk bl:Nat,∃o,(Builtin.append_ #[22,22] 22 #[(.slice none 0 0),(.slice l c q)]:Sem Value).run prog f=.ok (.slice bh bk bl) o/\aF d λcb=>aB o (cb.add 9) [(.slice bh bk bl)] λv=>R (.tuple #[]) v))):Calls prog 112 #[(.pointer d),(.slice x cm y)] w (bI R):=rvc [4] (aq (aq (aq (.node none (.node none (.node (some ⟨[(4,.one (.slice))],[4,39,40,41,42,43,44,45,46,47,48,49,50,51,52,53,54]⟩) .leaf .leaf) .leaf) .leaf)))) Tryz.func112 h
theorem BN(d:oA){R:aV}{w:World}(h:∀(j:Nat)(l:World),j=w.heap.size->l=w.alloc (.cells (Array.replicate 26 (O 0)) 116)->∀(a:Nat)(o:World),a=l.heap.size->o=l.alloc (.cells (Array.replicate 26 (O 0)) 116)->∃b:bP,(0<=(8:Int)/\(8:Int)<=((26:Nat):Int))/\∀q:oA,q=(some (if 26=0 then Addr.mk a 0 none else(vA a).add (0*1)))->∀t:Nat,t=(Int.toNat 8) - 0->∀x:Nat,x=26 - 0->aF d λy=>∀z:oA,z=(some (if 8=0 then y.add 0 else(y.add 0).add (0*1)))->∀A:Nat,A=8 - 0->∀B:Nat,B=8 - 0->∃Z:Int,∃c,(Builtin.copy_ #[22,22] 3 #[(.slice q t x),(.slice z A B)]:Sem Value).run prog o.drew=.ok (J Z) c/\Kept (bY b [1]) o.drew c/\∃b1:bP,(∀i k,b i k->b1 i k)/\∃b2:bP,aF d λC=>b2 3 ((C.add 8).block)/\∃D:Int,c.drew.cell? (C.add 8)=some (J D)/\aF d λF=>b2 10 ((F.add 8).block)/\∃G:Int,c.drew.cell? (F.add 8)=some (J G)/\(0<=(8:Int)/\(8:Int)<((26:Nat):Int))/\aB c.drew ((vA a).add (Int.toNat 8*1)) [O (u32.wrap ((u64.wrap D:Int).fdiv (2 ^ 32)))] λH=>Kept (bY b2 [7,11]) c.drew H/\∃b3:bP,(∀i k,b2 i k->b3 i k)/\(0<=(9:Int)/\(9:Int)<((26:Nat):Int))/\aB H ((vA a).add (Int.toNat 9*1)) [O (u32.wrap G)] λp=>∃b4:bP,(∀i k,b3 i k->b4 i k)/\∃b5:bP,(0<=(10:Int)/\(10:Int)<=((26:Nat):Int))/\∀I:oA,I=(some (if 26=(Int.toNat 10)then Addr.mk a 0 none else(vA a).add ((Int.toNat 10)*1)))->∀L:Nat,L=26 - (Int.toNat 10)->∀M:Nat,M=26 - (Int.toNat 10)->aF d λQ=>b5 4 ((Q.add 9).block)/\∃S:oA,∃T V:Nat,p.drew.cell? (Q.add 9)=some (.slice S T V)/\∃WK:Int,∃f,(Builtin.copy_ #[22,22] 3 #[(.slice I L M),(.slice S T V)]:Sem Value).run prog p.drew=.ok (J WK) f/\Kept (bY b5 [1]) p.drew f/\∃b6:bP,(∀i k,b5 i k->b6 i k)/\∃e:Array Value,(e.size=26/\∀i u,e[i]? =some u->f.cell? ((vA a).add i)=some u)/\e.size=26/\(∀v∈e.toList,one? v True)/\aB f (vA j) e.toList λY=>∃r0:Array Value,(r0.size=26/\∀i u,r0[i]? =some u->Y.cell? ((vA j).add i)=some u)/\R (.agg r0) Y):Calls prog 92 #[(.pointer d)] w (bI R):=rvc [] (.leaf) Tryz.func92 h
theorem BO(a:oA)(cm j:Nat){R:aV}{w:World}(h:split ((((cm:Nat):Int):Int) !=26) (R (.tuple #[(.pointer none),J 20]) w) ((0<=(8:Int)/\(8:Int)<((cm:Nat):Int))/\aF a λZX=>∃t:Int,w.drew.cell? (ZX.add (Int.toNat 8*1))=some (O t)/\(0<=(9:Int)/\(9:Int)<((cm:Nat):Int))/\aF a λa3=>∃u:Int,w.drew.cell? (a3.add (Int.toNat 9*1))=some (O u)/\∀n:Int,n=(u64.wrap (BitVec.ofInt u64.bits (u64.wrap ((u64.wrap t:Int)*2 ^ 32)) ||| BitVec.ofInt u64.bits (u64.wrap u)).toNat)->(0<=(8:Int)/\(8:Int)<=((j:Nat):Int))/\(0<=(8:Int)/\(8:Int)<=((Int.toNat 8:Nat):Int))/\∀v:oA,v=(if(Int.toNat 8)=0 then a else(a:oA).map (·.add (0*1)))->∀x:Nat,x=(Int.toNat 8) - 0->∀U1:Nat,U1=(Int.toNat 8) - 0->8<=x/\aF v λa4=>∃y z A B C D F G:Int,aO w.drew a4 0 [O y,O z,O A,O B,O C,O D,O F,O G]/\∀(l:Nat)(c:World),l=w.drew.heap.size->c=w.drew.alloc (.cells #[O y,O z,O A,O B,O C,O D,O F,O G,J (i64.wrap n),(.slice none 0 0)] 195)->∃p:Bool->World->Prop,(∃b:bP,split (decide ((n:Int)>36028797018963968)) (p true c.drew) (split (decide ((n:Int)<16)) (b 9 (((vA l).add 0).block)/\∃H L M Q S T V Y:Int,aO c.drew ((vA l).add 0) 0 [O H,O L,O M,O Q,O S,O T,O V,O Y]/\Calls prog 108 #[] c.drew λe d=>∃Z aa ab ae af ah an az:Int,e=.returned (.agg (q8a Z aa ab ae af ah an az))/\Kept (bY b [0,6,7,8,9]) c.drew d/\∃b1:bP,(∀i k,b i k->b1 i k)/\p (!(bG (q8a H L M Q S T V Y) (q8a Z aa ab ae af ah an az))) d) (p false c.drew)))/\∀(S3:Nat->Value)(TP:Bool),∀d,p TP d->split TP (R (.tuple #[(.pointer none),J 20]) d) (∀waits:Int,waits=(i64.wrap ((n:Int).tmod 16))->(0<=(i64.wrap (10+waits):Int)/\(i64.wrap (10+waits):Int)<=((cm:Nat):Int))/\∀VS:oA,VS=(if j=(Int.toNat (i64.wrap (10+waits)))then a else(a:oA).map (·.add ((Int.toNat (i64.wrap (10+waits)))*1)))->∀q:Nat,q=cm - (Int.toNat (i64.wrap (10+waits)))->∀Wa:Nat,Wa=j - (Int.toNat (i64.wrap (10+waits)))->∃I:Nat->Int->World->Prop,(∃m,I m 0 d)/\∀(m:Nat)(SQ:Nat->Value)(f:Int),∀o,I m f o->split (decide ((f:Int)<((q:Nat):Int))) ((0<=(f:Int)/\(f:Int)<((q:Nat):Int))/\aF VS λa5=>∃aA:Int,o.cell? (a5.add (Int.toNat f*1))=some (O aA)/\split ((aA:Int) !=0) (R (.tuple #[(.pointer none),J 20]) o) (∃m1,m1<m/\I m1 (i64.wrap (f+1)) o)) ((0<=(i64.wrap (10+waits):Int)/\(i64.wrap (10+waits):Int)<=((j:Nat):Int))/\(0<=(i64.wrap (10+waits):Int)/\(i64.wrap (10+waits):Int)<=((Int.toNat (i64.wrap (10+waits)):Nat):Int))/\(0<=(10:Int)/\(10:Int)<=((Int.toNat (i64.wrap (10+waits)):Nat):Int))/\∀aC:oA,aC=(if(Int.toNat (i64.wrap (10+waits)))=(Int.toNat 10)then a else(a:oA).map (·.add ((Int.toNat 10)*1)))->∀V9:Nat,V9=(Int.toNat (i64.wrap (10+waits))) - (Int.toNat 10)->∀aN:Nat,aN=(Int.toNat (i64.wrap (10+waits))) - (Int.toNat 10)->∃a0:oA,∃a1 a2:Nat,∃Rw,(Builtin.append_ #[22,22] 22 #[(.slice none 0 0),(.slice aC V9 aN)]:Sem Value).run prog o=.ok (.slice a0 a1 a2) Rw/\aB Rw ((vA l).add 9) [(.slice a0 a1 a2)] λRE=>R (.tuple #[(.pointer (pvA l)),J 0]) RE)))):Calls prog 102 #[(.slice a cm j)] w (bI R):=rvc [4,6] (aq (aq (aq (aq (.node none (.node none (.node (some ⟨[(43,.one (.bool))],(rgN 30 14)⟩) .leaf .leaf) .leaf) (aq (.node none (aq (.node none (.node (some ⟨[(52,.one (.int .i64))],[2,3,8,52,53,54,55,56,57,58]⟩) .leaf .leaf) .leaf)) .leaf))))))) Tryz.func102 h
theorem Eo(m:oA){R:aV}{w:World}(h:split m.isNone (R (.pointer none) w) (Calls prog 51 #[(.pointer m)] w λe u=>∃i:Int,e=.returned (J i)/\∃I:Nat->Int->World->Prop,(∃m1,I m1 0 u)/\∀(m1:Nat)(x:Nat->Value)(b:Int),∀c,I m1 b c->split (decide ((b:Int)<i)) (Calls prog 53 #[J b] c λe d=>∃j:Bool,∃k:Int,e=.returned (.agg #[vB j,J k])/\Calls prog 52 #[(.pointer m),(.agg #[vB j,J k])] d λe a=>∃v:Int,e=.returned (J v)/\∃m2,m2<m1/\I m2 (i64.wrap (b+1)) a) (Calls prog 51 #[(.pointer m)] c λe d=>∃f:Int,e=.returned (J f)/\∃l:oA,∃o p:Nat,∃a,(Instr.makeSlice 22 (J (i64.wrap (2*f))) (J (i64.wrap (2*f))):Sem Value).run prog d=.ok (.slice l o p) a/\∀(q:Nat)(t:World),q=a.heap.size->t=a.alloc (.cells #[(.pointer m),J 0,(.slice l o p)] 81)->R (.pointer (pvA q)) t))):Calls prog 26 #[(.pointer m)] w (bI R):=rvc [] (aq (aq (.node none (aq (.node none (.node (some ⟨[(8,.one (.int .i64))],[3,8,9,10,11,12,13,14,15]⟩) .leaf .leaf) .leaf)) .leaf))) Tryz.func26 h
theorem zR(d:oA){R:aV}{w:World}(h:aF d λA=>∃B:oA,∃f C:Nat,w.cell? (A.add 2)=some (.slice B f C)/\∃a:oA,∃c e:Nat,∃j,(Instr.makeSlice 22 (J (i64.wrap (1+((f:Nat):Int)))) (J (i64.wrap (1+((f:Nat):Int)))):Sem Value).run prog w=.ok (.slice a c e) j/\aF d λD=>∃p:Int,j.cell? (D.add 1)=some (J p)/\(0<=(0:Int)/\(0:Int)<((c:Nat):Int))/\aF a λF=>aB j (F.add (Int.toNat 0*1)) [O (u32.wrap p)] λl=>∃b:bP,(0<=(1:Int)/\(1:Int)<=((c:Nat):Int))/\∀q:oA,q=(if e=(Int.toNat 1)then a else(a:oA).map (·.add ((Int.toNat 1)*1)))->∀t:Nat,t=c - (Int.toNat 1)->∀u:Nat,u=e - (Int.toNat 1)->aF d λv=>b 5 ((v.add 2).block)/\∃x:oA,∃y z:Nat,l.drew.cell? (v.add 2)=some (.slice x y z)/\∃G:Int,∃o,(Builtin.copy_ #[22,22] 3 #[(.slice q t u),(.slice x y z)]:Sem Value).run prog l.drew=.ok (J G) o/\Kept (bY b [2]) l.drew o/\∃b1:bP,(∀i k,b i k->b1 i k)/\R (.slice a c e) o):Calls prog 45 #[(.pointer d)] w (bI R):=rvc [] (.leaf) Tryz.func45 h
theorem zX(d:oA){R:aV}{w:World}(h:∃b:bP,aF d λH=>b 3 ((H.add 0).block)/\∃D:oA,w.drew.cell? (H.add 0)=some (.pointer D)/\aF d λI=>b 8 ((I.add 1).block)/\∃F:Int,w.drew.cell? (I.add 1)=some (J F)/\aF d λp14=>b 12 ((p14.add 2).block)/\∃L:oA,∃o M:Nat,w.drew.cell? (p14.add 2)=some (.slice L o M)/\(Calls prog 35 #[(.pointer D)] w.drew λe j=>∃p:oA,e=.returned (.pointer p)/\Kept (bY b [0,5,6,7,8,9,10,11,12,13]) w.drew j/\∃b1:bP,(∀i k,b i k->b1 i k)/\∃q:oA,∃t u:Nat,∃c,(Instr.makeSlice 22 (J ((o:Nat):Int)) (J ((o:Nat):Int)):Sem Value).run prog j=.ok (.slice q t u) c/\Kept (bY b1 [0,1,2,3,4,5,6,7,8,9,10]) j c/\∃b2:bP,(∀i k,b1 i k->b2 i k)/\∀(f:Nat)(a:World),f=c.heap.size->a=c.alloc (.cells #[(.pointer p),J F,(.slice q t u)] 81)->Kept (bY b2 [0,1,2,5,6,9,10,11,12]) c a/\∃b3:bP,(∀i k,b2 i k->b3 i k)/\∃b4:bP,b4 3 (((vA f).add 2).block)/\∃v:oA,∃x y:Nat,a.drew.cell? ((vA f).add 2)=some (.slice v x y)/\aF d λz=>b4 7 ((z.add 2).block)/\∃A:oA,∃B C:Nat,a.drew.cell? (z.add 2)=some (.slice A B C)/\∃G:Int,∃l,(Builtin.copy_ #[22,22] 3 #[(.slice v x y),(.slice A B C)]:Sem Value).run prog a.drew=.ok (J G) l/\Kept (bY b4 [0,4]) a.drew l/\∃b5:bP,(∀i k,b4 i k->b5 i k)/\R (.pointer (pvA f)) l)/\(∃q:oA,∃t u:Nat,∃j,(Instr.makeSlice 22 (J ((o:Nat):Int)) (J ((o:Nat):Int)):Sem Value).run prog w.drew=.ok (.slice q t u) j/\Kept (bY b [0,1,2,3,5,6,7,8,9,10]) w.drew j/\∃b1:bP,(∀i k,b i k->b1 i k)/\Calls prog 35 #[(.pointer D)] j λe c=>∃p:oA,e=.returned (.pointer p)/\Kept (bY b1 [0,5,6,7,8,9,10,11,12,13,14]) j c/\∃b2:bP,(∀i k,b1 i k->b2 i k)/\∀(f:Nat)(a:World),f=c.heap.size->a=c.alloc (.cells #[(.pointer p),J F,(.slice q t u)] 81)->Kept (bY b2 [0,1,2,5,6,9,10,11,12]) c a/\∃b3:bP,(∀i k,b2 i k->b3 i k)/\∃b4:bP,b4 3 (((vA f).add 2).block)/\∃v:oA,∃x y:Nat,a.drew.cell? ((vA f).add 2)=some (.slice v x y)/\aF d λz=>b4 7 ((z.add 2).block)/\∃A:oA,∃B C:Nat,a.drew.cell? (z.add 2)=some (.slice A B C)/\∃G:Int,∃l,(Builtin.copy_ #[22,22] 3 #[(.slice v x y),(.slice A B C)]:Sem Value).run prog a.drew=.ok (J G) l/\Kept (bY b4 [0,4]) a.drew l/\∃b5:bP,(∀i k,b4 i k->b5 i k)/\R (.pointer (pvA f)) l)):Calls prog 9 #[(.pointer d)] w (bI R):=rvc [] (.leaf) Tryz.func9 h
namespace Mem
def dQ(m:Mem):Nat->Mem
 |0=>m
 |k+1=>(dQ m k).zero true k
theorem Nl(m:Mem)(s:Bool)(p:Int):(m.zero s p).S=m.S:=by unfold zero;split<;>rfl
theorem Nm(m:Mem)(s:Bool)(p:Int):(m.zero s p).I=m.I:=by unfold zero;split<;>rfl
@[simp] theorem ny(m:Mem):∀k,(m.dQ k).S=m.S
 |0=>rfl
 |k+1=>by rw[dQ,Nl,ny m k]
@[simp] theorem EB(m:Mem):∀k,(m.dQ k).I=m.I
 |0=>rfl
 |k+1=>by rw[dQ,Nm,EB m k]
theorem Cr(m:Mem){p:Int}(h:0<=p/\p<9000000000000000000):m.dQ (i64.wrap (p+1)).toNat=(m.dQ p.toNat).zero true p:=by
 rw[ay (by omega),show(p+1).toNat=p.toNat+1 by omega,dQ,show((p.toNat:Nat):Int)=p by omega]
end Mem
def DB.new(m:Mem):DB:=⟨m.dQ m.S,0,λ_=>.free⟩
theorem DB.M1(m:Mem):(DB.new m).S=m.S:=m.ny _
theorem DB.lG(m:Mem)(h:1<=m.S):(DB.new m).Ok:=⟨λp hp=>⟨Ent.LX,by show(0:Int)<((DB.new m).S:Nat);rw[DB.M1];omega⟩,by show(0:Int)<=0/\(0:Int)<=64;omega⟩
def DB.ws(D:DB):List Int:=(List.range D.S).flatMap λp=>[(D.ent p).w0,(D.ent p).w1]
theorem pI {α:Type}(f g:Nat->α):∀n,((List.range n).flatMap λp=>[f p,g p]).length=2*n
 |0=>rfl
 |n+1=>by rw[List.range_succ,List.flatMap_append,List.length_append,pI f g n];simp;omega
theorem ts {α:Type}(f g:Nat->α):∀n i,i<2*n->((List.range n).flatMap λp=>[f p,g p])[i]? =some (if i % 2=0 then f (i / 2)else g (i / 2))
 |0,i,h=>by omega
 | n+1,i,h=>by
  rw[List.range_succ,List.flatMap_append];by_cases hi:i<2*n
  ·rw[List.getElem?_append_left (by rw[pI];exact hi),ts f g n i hi]
  ·rw[List.getElem?_append_right (by rw[pI];omega),pI];by_cases b:i=2*n
   ·subst b;have e1:2*n % 2=0:=by omega
    have a:2*n / 2=n:=by omega
    simp[e1,a]
   ·have:i=2*n+1:=by omega
    subst this;have e1:(2*n+1) % 2=1:=by omega
    have a:(2*n+1) / 2=n:=by omega
    simp[e1,a]
theorem DB.km(D:DB):D.ws.length=2*D.S:=pI _ _ _
theorem DB.words_eq(D:DB):D.words=D.bn::D.ws:=rfl
theorem DBP.ints {w:World}{L:iI}{D:DB}(h:DBP w L D):dz w (λk=>k=L.a) .u32 (some (Addr.mk L.a 0 none)) D.n2 D.n2 D.ws:=by
 obtain⟨T,cs,hb,hs,c⟩:=h.ws;refine dz.blk (Z:=λk=>k=L.a) (m:=0) hb rfl (Nat.le_refl _) (D.km) λj x b=>?_;have d:j<2*D.S:=by rw[<-D.km];exact(List.getElem?_eq_some_iff.1 b).1
 have e:=ts (λp=>(D.ent p).w0) (λp=>(D.ent p).w1) D.S j d;have a:D.ws[j]? =_:=e;rw[b]at a;injection a with a
 have hp:=c (j / 2) (by omega);rw[Nat.zero_add,a];split
 ·have:=hp.1
  rwa[show 2*(j / 2)=j by omega]at this
 ·have:=hp.2
  rwa[show 2*(j / 2)+1=j by omega]at this
theorem DB.lay {D:DB}{n:Nat}(a:n=1+2*D.S):ko ((List.replicate n 0).set 0 D.bn) 1 (D.ws.take (min (2*D.S) (n - 1)))=D.words:=by
 subst a;rw[List.take_of_length_le (by rw[D.km];omega),show 1+2*D.S=(2*D.S)+1 by omega,List.replicate_succ,List.set_cons_zero];have:=uj [D.bn] D.ws [] (List.replicate (2*D.S) 0) (by rw[D.km];simp);simpa[D.words_eq]using this
theorem DB.fR(D:DB):D.words.length=1+2*D.S:=by rw[D.words_eq,List.length_cons,D.km];omega
def DB.N0(D:DB)(s:Int)(n:Nat):List I64:=((List.range n).filter (D.Lr s)).map fun(p:Nat)=>I64.mk (p:Int)
def DB.wd(l:List U32)(i:Nat):Int:=(l.getD i ⟨0⟩).v
def DB.load(m:Mem)(l:List U32):DB:=⟨m,DB.wd l 0,λp=>Ent.dec (DB.wd l (1+2*p)) (DB.wd l (2+2*p))⟩
def DB.Jy(m:Mem)(l:List U32)(p:Nat):Bool:=Ent.jo (DB.wd l (1+2*p)) (DB.wd l (2+2*p))==0 && decide ((Ent.dec (DB.wd l (1+2*p)) (DB.wd l (2+2*p))).owner<m.S)
def DB.aL(m:Mem)(l:List U32):Int:=
 if l.length≠1+2*m.S then 110 else if DB.wd l 0>64 then 110 else if(List.range m.S).all (DB.Jy m l)then 0 else 110
theorem ET {n:Nat}{v:Value}{i:Nat}(h:i<n):(Array.replicate n v)[i]? =some v:=by simp[h]
theorem uo:S1 prog 22 23 (O 0) 4:=S1.of (by kernel_rfl) (by kernel_rfl) rfl
theorem EL:SN prog 22 23 (O 0) 1 4:=uo.sn
theorem rD {w:World}(x k:Int)(a: -31<=k/\k<= -1):
 Calls prog 166 #[O x,J k] w λe w'=>∃v,e=.returned v/\v=.int .u32 (pU x (-k))/\Pu w w':=by
 refine l8 _ _ ?_;have hs:=PM a;have hp:=Ch.refl (λ_=>False) w;rintro _ rfl;refine dI (by(rw[hs];omega)) (dI (by(rw[IntKind.wrap_u64];omega)) ?_);exact⟨congrArg (Value.int .u32) (by rw[hs];exact rot_eq a),hp⟩
theorem kp {w:World}(a n:Int)(c:1<=n/\n<=31):
 Calls prog 144 #[O a,J n] w λe w'=>∃v,e=.returned v/\v=.int .u32 (pU a n)/\Pu w w':=by
 refine zr _ _ ?_;have e0:i64.wrap (0 - n)= -n:=by rw[ay (by omega)];omega
 have hp:=Ch.refl (λ_=>False) w;refine Calls.mono (rD _ _ (by rw[e0];omega)) ?_;rintro e d ⟨_,rfl,rfl,b⟩;refine⟨_,rfl,?_⟩;have hp:=Ch.pu hp b;exact⟨congrArg (Value.int .u32) (by rw[e0,Int.neg_neg]),hp⟩
theorem Ga {w:World}(p q t u x y z A B C D F G H I J:Int):
 Calls prog 143 #[(.agg (uC p q t u x y z A B C D F G H I J))] w λe w'=>∃v,e=.returned v/\v=.agg (bW (aD [p,q,t,u,x,y,z,A,B,C,D,F,G,H,I,J] 48))/\Pu w w':=by
 refine tn _ _ _ _ _ _ _ _ _ _ _ _ _ _ _ _ ?_;obtain⟨j,V⟩:∃j,j= [p,q,t,u,x,y,z,A,B,C,D,F,G,H,I,J]:=⟨_,rfl⟩;have d:j.length=16:=by rw[V];rfl
 have hp:=Ch.refl (λ_=>False) w;refine mkd λgv wv RB=>?_;have b:=RB.blk;have hp:=Ch.made hp RB;refine mkd λRu Ro L=>?_;have Tv:=L.lo hp;have Tn:=L.ne b;have c:Blk Ro Ru (bW (List.replicate 64 0)) _:=L.blk.cast (iT _ _);have hp:=Ch.made hp L;have b:=Made.old L b;refine mkd λRT Y f=>?_;have VW:=f.lo hp;have Um:=f.ne b;have aa:=f.ne c;have a:Blk Y RT (bW (List.replicate 64 0)) _:=f.blk.cast (iT _ _);refine⟨bXU [] [] Y.drew (λ_=>False),?_⟩;rintro _ rfl _ rfl _ rfl;rintro _ rfl _ rfl _ rfl;have a:=Blk.drew a;have b:=Blk.drew (Made.old f b);have b:Blk Y.drew gv (bW [p,q,t,u,x,y,z,A,B,C,D,F,G,H,I,J]) _:=b.cast (by rfl);refine qp uo a (o:=0) rfl (by(simp;done)) (dz.QS (Z:=λ_=>True) b trivial rfl (by(simp;done)) (by(simp;done)) (by(simp;done))) (by(simp;done)) λRw M=>?_;have a:=M.blk;refine bXU.grow M.ch ?_;rintro _ rfl;have hp:=Ch.call (Ch.drew (Ch.made hp f)) M.ch (by exact λk e=>.inr (e▸VW));have b:=Ch.blk M.ch b (Um);have c:=Ch.blk M.ch (Blk.drew (Made.old f c)) (aa);refine⟨λmz t1 W=>mz=(64 - t1).toNat/\(16<=t1/\t1<=64)/\Ch (λ_=>False) w W/\Blk W gv (bW ([p,q,t,u,x,y,z,A,B,C,D,F,G,H,I,J])) 235/\Blk W Ru (bW (List.replicate 64 0)) 253/\Blk W RT (bW (aD j (t1.toNat - 16))) 253,⟨_,rfl,(by omega),hp,b,c,a.cast (congrArg bW (by subst V;rfl))⟩,?_⟩;rintro _ _ t1 RE ⟨rfl,h0,hp,b,c,a⟩;refine av (λc1=>?_) (λc1=>?_)
 ·refine⟨by(simp only[wrap_i64];omega),?_⟩;have a:=Blk.drew a;refine⟨_,a.uw (i:=(i64.wrap (t1 - 15))) (by(rw[dJ d];simp only[wrap_i64];omega)),by(simp only[wrap_i64];omega),_,a.uw (i:=(i64.wrap (t1 - 2))) (by(rw[dJ d];simp only[wrap_i64];omega)),?_⟩;refine⟨bXU [4,17] [] RE.drew.drew (λ_=>False),?_⟩;have a:=Blk.drew a;refine⟨by(simp only[wrap_i64];omega),.inr ⟨by decide,bX.ld a (λh=>h) _⟩,_,a.uw (i:=(i64.wrap (t1 - 16))) (by(rw[dJ d];simp only[wrap_i64];omega)),by(simp only[wrap_i64];omega),.inr ⟨by decide,bX.ld a (λh=>h) _⟩,_,a.uw (i:=(i64.wrap (t1 - 7))) (by(rw[dJ d];simp only[wrap_i64];omega)),?_⟩;refine Calls.mono (kp _ _ (by omega)) ?_;rintro e R0 ⟨_,rfl,rfl,O⟩;refine⟨_,rfl,?_⟩;refine bXU.iX O (by decide) ?_;refine Calls.mono (kp _ _ (by omega)) ?_;rintro e Sb ⟨_,rfl,rfl,Q⟩;refine⟨_,rfl,?_⟩;refine bXU.iX Q (by decide) ?_;refine Calls.mono (kp _ _ (by omega)) ?_;rintro e RY ⟨_,rfl,rfl,R⟩;refine⟨_,rfl,?_⟩;refine bXU.iX R (by decide) ?_;refine Calls.mono (kp _ _ (by omega)) ?_;rintro e RZ ⟨_,rfl,rfl,S⟩;refine⟨_,rfl,?_⟩;refine bXU.iX S (by decide) ?_;have a:=Pu.blk S (Pu.blk R (Pu.blk Q (Pu.blk O a)));refine⟨by omega,CG a (by(rw[dJ d];omega)) λSr T=>?_⟩;have a:=T.blk;refine bXU.grow T.ch ?_;rintro _ rfl;have hp:=Ch.call (Ch.pu (Ch.pu (Ch.pu (Ch.pu (Ch.drew (Ch.drew hp)) O) Q) R) S) T.ch (by exact λk e=>.inr (e▸VW));have b:=Ch.blk T.ch (Pu.blk S (Pu.blk R (Pu.blk Q (Pu.blk O (Blk.drew (Blk.drew b)))))) (Um);have c:=Ch.blk T.ch (Pu.blk S (Pu.blk R (Pu.blk Q (Pu.blk O (Blk.drew (Blk.drew c)))))) (aa);exact⟨_,by rw[wrap_i64];omega,rfl,by rw[wrap_i64];omega,hp,b,c,a.cast (congrArg bW (by exact Ai (by omega)))⟩
 ·refine⟨bW (aD j (t1.toNat - 16)),a.yD (by(simp[dJ d];done)),by rw[gL];(simp[dJ d];done),pT,qS c (by(simp[dJ d];done)) λR0 SX=>?_⟩;have c:=SX.blk;refine⟨bW (aD j (t1.toNat - 16)),c.yD (by(simp[dJ d];done)),?_⟩;have hp:=Ch.call hp SX.ch (by exact λk e=>.inr (e▸Tv));exact⟨congrArg (λl=>Value.agg (bW l)) (by have:t1=64:=(by omega);subst this;rw[<-V];rfl),hp⟩
theorem Ij {K:List Int}{w:World}(q:jB w 1 K)(u y C D F H V aa ab ae af ah an az aA aC aN a0 a1 a2 a3 a4 a5 a6:Int):
 Calls prog 121 #[(.agg (q8a u y C D F H V aa)),(.agg (uC ab ae af ah an az aA aC aN a0 a1 a2 a3 a4 a5 a6))] w λe w'=>∃v,e=.returned v/\v=.agg (w8 (oa K (S8.mk u y C D F H V aa) [ab,ae,af,ah,an,az,aA,aC,aN,a0,a1,a2,a3,a4,a5,a6]))/\Pu w w':=by
 refine zt _ _ _ _ _ _ _ _ _ _ _ _ _ _ _ _ _ _ _ _ _ _ _ _ ?_;obtain⟨a,A⟩:∃a,a= [ab,ae,af,ah,an,az,aA,aC,aN,a0,a1,a2,a3,a4,a5,a6]:=⟨_,rfl⟩;have hB:a.length=16:=by rw[A];rfl
 obtain⟨b,t⟩:∃b,b=(S8.mk u y C D F H V aa):=⟨_,rfl⟩;have hp:=Ch.refl (λ_=>False) w;have I:=q.lt;refine mkd λgv wv RB=>?_;have d:=RB.blk;refine mkd λRu Ro R5=>?_;have j:=R5.blk;have hp:=Ch.made (Ch.made hp RB) R5;have d:=Made.old R5 d;refine mkd λRT Rq Y=>?_;have VW:=Y.lo hp;have Um:=Y.ne d;have a9:=Y.ne j;have o:=Y.blk;have d:=Made.old Y d;refine⟨_,_,_,_,_,_,_,_,⟨d.at rfl,d.at rfl,d.at rfl,d.at rfl,d.at rfl,d.at rfl,d.at rfl,d.at rfl⟩,?_⟩;have hp:=Ch.made hp Y;have j:=Made.old Y j;refine mkd λz Rw J=>?_;have x:=J.lo hp;have L:=J.ne d;have M:=J.ne j;have Q:=J.ne o;have c:=J.blk;refine di c rfl λRE RM=>?_;have c:=RM.blk;have j:=Ch.blk RM.ch (Made.old J j) (M);refine⟨_,_,_,_,_,_,_,_,_,_,_,_,_,_,_,_,⟨j.at rfl,j.at rfl,j.at rfl,j.at rfl,j.at rfl,j.at rfl,j.at rfl,j.at rfl,j.at rfl,j.at rfl,j.at rfl,j.at rfl,j.at rfl,j.at rfl,j.at rfl,j.at rfl⟩,?_⟩;refine Calls.mono (Ga _ _ _ _ _ _ _ _ _ _ _ _ _ _ _ _) ?_;rintro e R0 ⟨_,rfl,rfl,Sp⟩;refine⟨_,rfl,?_⟩;have hp:=Ch.pu (Ch.call (Ch.made hp J) RM.ch (by exact λk e=>.inr (e▸x))) Sp;have q:=(((((q.pu RB.pu).pu R5.pu).pu Y.pu).pu J.pu).ch RM.ch (λk p e=>(λp=>absurd (I _ p) (Nat.not_lt.2 x)) (e▸p))).pu Sp;have d:=Pu.blk Sp (Ch.blk RM.ch (Made.old J d) (L));have j:=Pu.blk Sp j;have o:=Pu.blk Sp (Ch.blk RM.ch (Made.old J o) (Q));have c:=Pu.blk Sp c;refine⟨λG Z W=>G=(64 - Z).toNat/\(0<=Z/\Z<=64)/\Ch (λ_=>False) w W/\jB W 1 K/\Blk W gv (q8a u y C D F H V aa) 26/\Blk W Ru (uC ab ae af ah an az aA aC aN a0 a1 a2 a3 a4 a5 a6) 235/\Blk W RT z8a 26/\Blk W z (w8 (aS K (aD a 48) b Z.toNat)) 26,⟨_,rfl,(by omega),hp,q,d,j,o,c.cast (Mm (congrArg (Value.int .u32) (by subst t;rfl)) (congrArg (Value.int .u32) (by subst t;rfl)) (congrArg (Value.int .u32) (by subst t;rfl)) (congrArg (Value.int .u32) (by subst t;rfl)) (congrArg (Value.int .u32) (by subst t;rfl)) (congrArg (Value.int .u32) (by subst t;rfl)) (congrArg (Value.int .u32) (by subst t;rfl)) (congrArg (Value.int .u32) (by subst t;rfl)))⟩,?_⟩;rintro _ _ Z Sb ⟨rfl,h0,hp,q,d,j,o,c⟩;refine av (λc1=>?_) (λc1=>?_)
 ·refine⟨by omega,_,Al (l:=(aD [ab,ae,af,ah,an,az,aA,aC,aN,a0,a1,a2,a3,a4,a5,a6] 48)) (i:=Z) (by(rw[dJ rfl];omega)),by decide,?_⟩;have c:=Blk.drew c;refine⟨_,c.at rfl,by decide,_,c.at rfl,?_⟩;refine⟨bXU [1,13,18,24] [] Sb.drew.drew (λ_=>False),?_⟩;have c:=Blk.drew c;have q:=(q.pu (Pu.aU _)).pu (Pu.aU _);obtain⟨_,a7⟩:=q.blk;refine⟨by decide,.inr ⟨by decide,bX.ld c (λh=>h) _⟩,_,c.at rfl,by decide,.inr ⟨by decide,bX.ld c (λh=>h) _⟩,_,c.at rfl,by decide,.inr ⟨by decide,bX.ld c (λh=>h) _⟩,_,c.at rfl,by omega,.inr ⟨by decide,bX.ld a7 (λh=>h) _⟩,_,a7.uw (i:=Z) (by(have h9:=q.len;omega)),?_⟩;refine Calls.mono (kp _ _ (by omega)) ?_;rintro e S ⟨_,rfl,rfl,Sw⟩;refine⟨_,rfl,?_⟩;refine bXU.iX Sw (by decide) ?_;refine Calls.mono (kp _ _ (by omega)) ?_;rintro e B ⟨_,rfl,rfl,Su⟩;refine⟨_,rfl,?_⟩;refine bXU.iX Su (by decide) ?_;refine Calls.mono (kp _ _ (by omega)) ?_;rintro e Sr ⟨_,rfl,rfl,TW⟩;refine⟨_,rfl,?_⟩;refine bXU.iX TW (by decide) ?_;rintro _ rfl;refine⟨bXU [10,14,18,20] [] Sr.drew (λ_=>False),?_⟩;have c:=Blk.drew (Pu.blk TW (Pu.blk Su (Pu.blk Sw c)));refine⟨by decide,.inr ⟨by decide,bX.ld c (λh=>h) _⟩,_,c.at rfl,by decide,.inr ⟨by decide,bX.ld c (λh=>h) _⟩,_,c.at rfl,by decide,.inr ⟨by decide,bX.ld c (λh=>h) _⟩,_,c.at rfl,by decide,.inr ⟨by decide,bX.ld c (λh=>h) _⟩,_,c.at rfl,?_⟩;refine Calls.mono (kp _ _ (by omega)) ?_;rintro e R8 ⟨_,rfl,rfl,T9⟩;refine⟨_,rfl,?_⟩;refine bXU.iX T9 (by decide) ?_;refine Calls.mono (kp _ _ (by omega)) ?_;rintro e Uj ⟨_,rfl,rfl,T8⟩;refine⟨_,rfl,?_⟩;refine bXU.iX T8 (by decide) ?_;refine Calls.mono (kp _ _ (by omega)) ?_;rintro e VC ⟨_,rfl,rfl,T7⟩;refine⟨_,rfl,?_⟩;refine bXU.iX T7 (by decide) ?_;rintro _ rfl;have c:=Pu.blk T7 (Pu.blk T8 (Pu.blk T9 c));refine⟨by decide,_,c.at rfl,by decide,_,c.at rfl,by decide,_,c.at rfl,by decide,_,c.at rfl,by decide,_,c.at rfl,by decide,_,c.at rfl,by decide,_,c.at rfl,di c rfl λba Uk=>?_⟩;have c:=Uk.blk;have hp:=Ch.call (Ch.pu (Ch.pu (Ch.pu (Ch.drew (Ch.pu (Ch.pu (Ch.pu (Ch.drew (Ch.drew hp)) Sw) Su) TW)) T9) T8) T7) Uk.ch (by exact λk e=>.inr (e▸x));have q:=(((((((q.pu Sw).pu Su).pu TW).pu (Pu.aU _)).pu T9).pu T8).pu T7).ch Uk.ch (λk p e=>(λp=>absurd (I _ p) (Nat.not_lt.2 x)) (e▸p));have d:=Ch.blk Uk.ch (Pu.blk T7 (Pu.blk T8 (Pu.blk T9 (Blk.drew (Pu.blk TW (Pu.blk Su (Pu.blk Sw (Blk.drew (Blk.drew d))))))))) (L);have j:=Ch.blk Uk.ch (Pu.blk T7 (Pu.blk T8 (Pu.blk T9 (Blk.drew (Pu.blk TW (Pu.blk Su (Pu.blk Sw (Blk.drew (Blk.drew j))))))))) (M);have o:=Ch.blk Uk.ch (Pu.blk T7 (Pu.blk T8 (Pu.blk T9 (Blk.drew (Pu.blk TW (Pu.blk Su (Pu.blk Sw (Blk.drew (Blk.drew o))))))))) (Q);exact⟨_,by rw[wrap_i64];omega,rfl,by rw[wrap_i64];omega,hp,q,d,j,o,c.cast (Mm (congrArg (Value.int .u32) (by rw[gM (by omega),A];rfl)) (congrArg (Value.int .u32) (by rw[gM (by omega),A];rfl)) (congrArg (Value.int .u32) (by rw[gM (by omega),A];rfl)) (congrArg (Value.int .u32) (by rw[gM (by omega),A];rfl)) (congrArg (Value.int .u32) (by rw[gM (by omega),A];rfl)) (congrArg (Value.int .u32) (by rw[gM (by omega),A];rfl)) (congrArg (Value.int .u32) (by rw[gM (by omega),A];rfl)) (congrArg (Value.int .u32) (by rw[gM (by omega),A];rfl)))⟩
 ·have a8:Z.toNat=64:=by omega
  rw[a8]at c;refine⟨λG R W=>Ch (λ_=>False) w W/\jB W 1 K/\(∃T,Blk W gv (q8a u y C D F H V aa) T)/\(∃T,Blk W Ru (uC ab ae af ah an az aA aC aN a0 a1 a2 a3 a4 a5 a6) T)/\(∃T,Blk W RT z8a T)/\((G=8/\R=0/\(∃T,Blk W z (w8 (aS K (aD a 48) b 64)) T))\/(G=7/\R=1/\(∃T,Blk W z #[O (bL (aS K (aD a 48) b 64).a u),O (aS K (aD a 48) b 64).b,O (aS K (aD a 48) b 64).c,O (aS K (aD a 48) b 64).d,O (aS K (aD a 48) b 64).e,O (aS K (aD a 48) b 64).f,O (aS K (aD a 48) b 64).g,O (aS K (aD a 48) b 64).h] T))\/(G=6/\R=2/\(∃T,Blk W z #[O (bL (aS K (aD a 48) b 64).a u),O (bL (aS K (aD a 48) b 64).b y),O (aS K (aD a 48) b 64).c,O (aS K (aD a 48) b 64).d,O (aS K (aD a 48) b 64).e,O (aS K (aD a 48) b 64).f,O (aS K (aD a 48) b 64).g,O (aS K (aD a 48) b 64).h] T))\/(G=5/\R=3/\(∃T,Blk W z #[O (bL (aS K (aD a 48) b 64).a u),O (bL (aS K (aD a 48) b 64).b y),O (bL (aS K (aD a 48) b 64).c C),O (aS K (aD a 48) b 64).d,O (aS K (aD a 48) b 64).e,O (aS K (aD a 48) b 64).f,O (aS K (aD a 48) b 64).g,O (aS K (aD a 48) b 64).h] T))\/(G=4/\R=4/\(∃T,Blk W z #[O (bL (aS K (aD a 48) b 64).a u),O (bL (aS K (aD a 48) b 64).b y),O (bL (aS K (aD a 48) b 64).c C),O (bL (aS K (aD a 48) b 64).d D),O (aS K (aD a 48) b 64).e,O (aS K (aD a 48) b 64).f,O (aS K (aD a 48) b 64).g,O (aS K (aD a 48) b 64).h] T))\/(G=3/\R=5/\(∃T,Blk W z #[O (bL (aS K (aD a 48) b 64).a u),O (bL (aS K (aD a 48) b 64).b y),O (bL (aS K (aD a 48) b 64).c C),O (bL (aS K (aD a 48) b 64).d D),O (bL (aS K (aD a 48) b 64).e F),O (aS K (aD a 48) b 64).f,O (aS K (aD a 48) b 64).g,O (aS K (aD a 48) b 64).h] T))\/(G=2/\R=6/\(∃T,Blk W z #[O (bL (aS K (aD a 48) b 64).a u),O (bL (aS K (aD a 48) b 64).b y),O (bL (aS K (aD a 48) b 64).c C),O (bL (aS K (aD a 48) b 64).d D),O (bL (aS K (aD a 48) b 64).e F),O (bL (aS K (aD a 48) b 64).f H),O (aS K (aD a 48) b 64).g,O (aS K (aD a 48) b 64).h] T))\/(G=1/\R=7/\(∃T,Blk W z #[O (bL (aS K (aD a 48) b 64).a u),O (bL (aS K (aD a 48) b 64).b y),O (bL (aS K (aD a 48) b 64).c C),O (bL (aS K (aD a 48) b 64).d D),O (bL (aS K (aD a 48) b 64).e F),O (bL (aS K (aD a 48) b 64).f H),O (bL (aS K (aD a 48) b 64).g V),O (aS K (aD a 48) b 64).h] T))\/(G=0/\R=8/\(∃T,Blk W z #[O (bL (aS K (aD a 48) b 64).a u),O (bL (aS K (aD a 48) b 64).b y),O (bL (aS K (aD a 48) b 64).c C),O (bL (aS K (aD a 48) b 64).d D),O (bL (aS K (aD a 48) b 64).e F),O (bL (aS K (aD a 48) b 64).f H),O (bL (aS K (aD a 48) b 64).g V),O (bL (aS K (aD a 48) b 64).h aa)] T))),⟨_,hp,q,⟨_,d⟩,⟨_,j⟩,⟨_,o⟩,.inl ⟨rfl,rfl,_,c⟩⟩,?_⟩;rintro _ _ R S ⟨hp,q,⟨_,d⟩,⟨_,j⟩,⟨_,o⟩,hU⟩;rcases hU with⟨rfl,rfl,_,c⟩|⟨rfl,rfl,_,c⟩|⟨rfl,rfl,_,c⟩|⟨rfl,rfl,_,c⟩|⟨rfl,rfl,_,c⟩|⟨rfl,rfl,_,c⟩|⟨rfl,rfl,_,c⟩|⟨rfl,rfl,_,c⟩|⟨rfl,rfl,_,c⟩
  ·refine eK ?_;refine⟨bXU [] [2,5] S.drew (λ_=>False),?_⟩;have c:=Blk.drew c;have d:=Blk.drew d;refine⟨by decide,.inl (by decide),_,c.at rfl,by decide,.inl (by decide),_,d.at rfl,by decide,bB c (by simp) λB f=>?_⟩;have c:Blk B z #[_,O (aS K (aD a 48) b 64).b,O (aS K (aD a 48) b 64).c,O (aS K (aD a 48) b 64).d,O (aS K (aD a 48) b 64).e,O (aS K (aD a 48) b 64).f,O (aS K (aD a 48) b 64).g,O (aS K (aD a 48) b 64).h] _:=f.blk;refine bXU.grow f.ch ?_;have hp:=Ch.call (Ch.drew hp) f.ch (by exact λk e=>.inr (e▸x));have q:=(q.pu (Pu.aU _)).ch f.ch (λk p e=>(λp=>absurd (I _ p) (Nat.not_lt.2 x)) (e▸p));have d:=Ch.blk f.ch d (L);have j:=Ch.blk f.ch (Blk.drew j) (M);have o:=Ch.blk f.ch (Blk.drew o) (Q);exact⟨7,by decide,hp,q,⟨_,d⟩,⟨_,j⟩,⟨_,o⟩,.inr (.inl ⟨rfl,rfl,_,c⟩)⟩
  ·refine eK ?_;refine⟨bXU [] [2,5] S.drew (λ_=>False),?_⟩;have c:=Blk.drew c;have d:=Blk.drew d;refine⟨by decide,.inl (by decide),_,c.at rfl,by decide,.inl (by decide),_,d.at rfl,by decide,bB c (by simp) λB f=>?_⟩;have c:Blk B z #[O (bL (aS K (aD a 48) b 64).a u),_,O (aS K (aD a 48) b 64).c,O (aS K (aD a 48) b 64).d,O (aS K (aD a 48) b 64).e,O (aS K (aD a 48) b 64).f,O (aS K (aD a 48) b 64).g,O (aS K (aD a 48) b 64).h] _:=f.blk;refine bXU.grow f.ch ?_;have hp:=Ch.call (Ch.drew hp) f.ch (by exact λk e=>.inr (e▸x));have q:=(q.pu (Pu.aU _)).ch f.ch (λk p e=>(λp=>absurd (I _ p) (Nat.not_lt.2 x)) (e▸p));have d:=Ch.blk f.ch d (L);have j:=Ch.blk f.ch (Blk.drew j) (M);have o:=Ch.blk f.ch (Blk.drew o) (Q);exact⟨6,by decide,hp,q,⟨_,d⟩,⟨_,j⟩,⟨_,o⟩,.inr (.inr (.inl ⟨rfl,rfl,_,c⟩))⟩
  ·refine eK ?_;refine⟨bXU [] [2,5] S.drew (λ_=>False),?_⟩;have c:=Blk.drew c;have d:=Blk.drew d;refine⟨by decide,.inl (by decide),_,c.at rfl,by decide,.inl (by decide),_,d.at rfl,by decide,bB c (by simp) λB f=>?_⟩;have c:Blk B z #[O (bL (aS K (aD a 48) b 64).a u),O (bL (aS K (aD a 48) b 64).b y),_,O (aS K (aD a 48) b 64).d,O (aS K (aD a 48) b 64).e,O (aS K (aD a 48) b 64).f,O (aS K (aD a 48) b 64).g,O (aS K (aD a 48) b 64).h] _:=f.blk;refine bXU.grow f.ch ?_;have hp:=Ch.call (Ch.drew hp) f.ch (by exact λk e=>.inr (e▸x));have q:=(q.pu (Pu.aU _)).ch f.ch (λk p e=>(λp=>absurd (I _ p) (Nat.not_lt.2 x)) (e▸p));have d:=Ch.blk f.ch d (L);have j:=Ch.blk f.ch (Blk.drew j) (M);have o:=Ch.blk f.ch (Blk.drew o) (Q);exact⟨5,by decide,hp,q,⟨_,d⟩,⟨_,j⟩,⟨_,o⟩,.inr (.inr (.inr (.inl ⟨rfl,rfl,_,c⟩)))⟩
  ·refine eK ?_;refine⟨bXU [] [2,5] S.drew (λ_=>False),?_⟩;have c:=Blk.drew c;have d:=Blk.drew d;refine⟨by decide,.inl (by decide),_,c.at rfl,by decide,.inl (by decide),_,d.at rfl,by decide,bB c (by simp) λB f=>?_⟩;have c:Blk B z #[O (bL (aS K (aD a 48) b 64).a u),O (bL (aS K (aD a 48) b 64).b y),O (bL (aS K (aD a 48) b 64).c C),_,O (aS K (aD a 48) b 64).e,O (aS K (aD a 48) b 64).f,O (aS K (aD a 48) b 64).g,O (aS K (aD a 48) b 64).h] _:=f.blk;refine bXU.grow f.ch ?_;have hp:=Ch.call (Ch.drew hp) f.ch (by exact λk e=>.inr (e▸x));have q:=(q.pu (Pu.aU _)).ch f.ch (λk p e=>(λp=>absurd (I _ p) (Nat.not_lt.2 x)) (e▸p));have d:=Ch.blk f.ch d (L);have j:=Ch.blk f.ch (Blk.drew j) (M);have o:=Ch.blk f.ch (Blk.drew o) (Q);exact⟨4,by decide,hp,q,⟨_,d⟩,⟨_,j⟩,⟨_,o⟩,.inr (.inr (.inr (.inr (.inl ⟨rfl,rfl,_,c⟩))))⟩
  ·refine eK ?_;refine⟨bXU [] [2,5] S.drew (λ_=>False),?_⟩;have c:=Blk.drew c;have d:=Blk.drew d;refine⟨by decide,.inl (by decide),_,c.at rfl,by decide,.inl (by decide),_,d.at rfl,by decide,bB c (by simp) λB f=>?_⟩;have c:Blk B z #[O (bL (aS K (aD a 48) b 64).a u),O (bL (aS K (aD a 48) b 64).b y),O (bL (aS K (aD a 48) b 64).c C),O (bL (aS K (aD a 48) b 64).d D),_,O (aS K (aD a 48) b 64).f,O (aS K (aD a 48) b 64).g,O (aS K (aD a 48) b 64).h] _:=f.blk;refine bXU.grow f.ch ?_;have hp:=Ch.call (Ch.drew hp) f.ch (by exact λk e=>.inr (e▸x));have q:=(q.pu (Pu.aU _)).ch f.ch (λk p e=>(λp=>absurd (I _ p) (Nat.not_lt.2 x)) (e▸p));have d:=Ch.blk f.ch d (L);have j:=Ch.blk f.ch (Blk.drew j) (M);have o:=Ch.blk f.ch (Blk.drew o) (Q);exact⟨3,by decide,hp,q,⟨_,d⟩,⟨_,j⟩,⟨_,o⟩,.inr (.inr (.inr (.inr (.inr (.inl ⟨rfl,rfl,_,c⟩)))))⟩
  ·refine eK ?_;refine⟨bXU [] [2,5] S.drew (λ_=>False),?_⟩;have c:=Blk.drew c;have d:=Blk.drew d;refine⟨by decide,.inl (by decide),_,c.at rfl,by decide,.inl (by decide),_,d.at rfl,by decide,bB c (by simp) λB f=>?_⟩;have c:Blk B z #[O (bL (aS K (aD a 48) b 64).a u),O (bL (aS K (aD a 48) b 64).b y),O (bL (aS K (aD a 48) b 64).c C),O (bL (aS K (aD a 48) b 64).d D),O (bL (aS K (aD a 48) b 64).e F),_,O (aS K (aD a 48) b 64).g,O (aS K (aD a 48) b 64).h] _:=f.blk;refine bXU.grow f.ch ?_;have hp:=Ch.call (Ch.drew hp) f.ch (by exact λk e=>.inr (e▸x));have q:=(q.pu (Pu.aU _)).ch f.ch (λk p e=>(λp=>absurd (I _ p) (Nat.not_lt.2 x)) (e▸p));have d:=Ch.blk f.ch d (L);have j:=Ch.blk f.ch (Blk.drew j) (M);have o:=Ch.blk f.ch (Blk.drew o) (Q);exact⟨2,by decide,hp,q,⟨_,d⟩,⟨_,j⟩,⟨_,o⟩,.inr (.inr (.inr (.inr (.inr (.inr (.inl ⟨rfl,rfl,_,c⟩))))))⟩
  ·refine eK ?_;refine⟨bXU [] [2,5] S.drew (λ_=>False),?_⟩;have c:=Blk.drew c;have d:=Blk.drew d;refine⟨by decide,.inl (by decide),_,c.at rfl,by decide,.inl (by decide),_,d.at rfl,by decide,bB c (by simp) λB f=>?_⟩;have c:Blk B z #[O (bL (aS K (aD a 48) b 64).a u),O (bL (aS K (aD a 48) b 64).b y),O (bL (aS K (aD a 48) b 64).c C),O (bL (aS K (aD a 48) b 64).d D),O (bL (aS K (aD a 48) b 64).e F),O (bL (aS K (aD a 48) b 64).f H),_,O (aS K (aD a 48) b 64).h] _:=f.blk;refine bXU.grow f.ch ?_;have hp:=Ch.call (Ch.drew hp) f.ch (by exact λk e=>.inr (e▸x));have q:=(q.pu (Pu.aU _)).ch f.ch (λk p e=>(λp=>absurd (I _ p) (Nat.not_lt.2 x)) (e▸p));have d:=Ch.blk f.ch d (L);have j:=Ch.blk f.ch (Blk.drew j) (M);have o:=Ch.blk f.ch (Blk.drew o) (Q);exact⟨1,by decide,hp,q,⟨_,d⟩,⟨_,j⟩,⟨_,o⟩,.inr (.inr (.inr (.inr (.inr (.inr (.inr (.inl ⟨rfl,rfl,_,c⟩)))))))⟩
  ·refine eK ?_;refine⟨bXU [] [2,5] S.drew (λ_=>False),?_⟩;have c:=Blk.drew c;have d:=Blk.drew d;refine⟨by decide,.inl (by decide),_,c.at rfl,by decide,.inl (by decide),_,d.at rfl,by decide,bB c (by simp) λB f=>?_⟩;have c:Blk B z #[O (bL (aS K (aD a 48) b 64).a u),O (bL (aS K (aD a 48) b 64).b y),O (bL (aS K (aD a 48) b 64).c C),O (bL (aS K (aD a 48) b 64).d D),O (bL (aS K (aD a 48) b 64).e F),O (bL (aS K (aD a 48) b 64).f H),O (bL (aS K (aD a 48) b 64).g V),_] _:=f.blk;refine bXU.grow f.ch ?_;have hp:=Ch.call (Ch.drew hp) f.ch (by exact λk e=>.inr (e▸x));have q:=(q.pu (Pu.aU _)).ch f.ch (λk p e=>(λp=>absurd (I _ p) (Nat.not_lt.2 x)) (e▸p));have d:=Ch.blk f.ch d (L);have j:=Ch.blk f.ch (Blk.drew j) (M);have o:=Ch.blk f.ch (Blk.drew o) (Q);exact⟨0,by decide,hp,q,⟨_,d⟩,⟨_,j⟩,⟨_,o⟩,.inr (.inr (.inr (.inr (.inr (.inr (.inr (.inr (⟨rfl,rfl,_,c⟩))))))))⟩
  ·refine jw ⟨_,_,_,_,_,_,_,_,⟨c.at rfl,c.at rfl,c.at rfl,c.at rfl,c.at rfl,c.at rfl,c.at rfl,c.at rfl⟩,di o rfl λB f=>?_⟩;have o:=f.blk;refine⟨_,_,_,_,_,_,_,_,⟨o.at rfl,o.at rfl,o.at rfl,o.at rfl,o.at rfl,o.at rfl,o.at rfl,o.at rfl⟩,?_⟩;have hp:=Ch.call hp f.ch (by exact λk e=>.inr (e▸VW));exact⟨congrArg Value.agg (Mm (congrArg (Value.int .u32) (by rw[<-A,<-t];subst t;rfl)) (congrArg (Value.int .u32) (by rw[<-A,<-t];subst t;rfl)) (congrArg (Value.int .u32) (by rw[<-A,<-t];subst t;rfl)) (congrArg (Value.int .u32) (by rw[<-A,<-t];subst t;rfl)) (congrArg (Value.int .u32) (by rw[<-A,<-t];subst t;rfl)) (congrArg (Value.int .u32) (by rw[<-A,<-t];subst t;rfl)) (congrArg (Value.int .u32) (by rw[<-A,<-t];subst t;rfl)) (congrArg (Value.int .u32) (by rw[<-A,<-t];subst t;rfl))),hp⟩
theorem Ii {w:World}:
 Calls prog 108 #[] w λe w'=>∃v,e=.returned v/\v=.agg (w8 S8.first)/\Pu w w':=by
 refine zs ?_;have hp:=Ch.refl (λ_=>False) w;refine mkd λf h b=>?_;have d:=b.lo hp;have a:=b.blk;refine di a rfl λi c=>?_;have a:=c.blk;refine⟨_,_,_,_,_,_,_,_,⟨a.at rfl,a.at rfl,a.at rfl,a.at rfl,a.at rfl,a.at rfl,a.at rfl,a.at rfl⟩,?_⟩;have hp:=Ch.call (Ch.made hp b) c.ch (by exact λk e=>.inr (e▸d));exact⟨congrArg Value.agg (Mm (congrArg (Value.int .u32) (by rfl)) (congrArg (Value.int .u32) (by rfl)) (congrArg (Value.int .u32) (by rfl)) (congrArg (Value.int .u32) (by rfl)) (congrArg (Value.int .u32) (by rfl)) (congrArg (Value.int .u32) (by rfl)) (congrArg (Value.int .u32) (by rfl)) (congrArg (Value.int .u32) (by rfl))),hp⟩
namespace Ent
theorem or0 {e:Ent}(h:e.ok=true):u32.wrap (BitVec.ofInt u32.bits (u32.wrap (BitVec.ofInt u32.bits (u32.wrap ((u32.wrap e.typ:Int)*2 ^ 0)) ||| BitVec.ofInt u32.bits (u32.wrap ((u32.wrap e.state:Int)*2 ^ 4))).toNat) ||| BitVec.ofInt u32.bits (u32.wrap ((u32.wrap e.owner:Int)*2 ^ 16))).toNat=e.typ+16*e.state+65536*e.owner:=by
 have a:=hY h;have b:=mO h;rw[dV (x:=e.typ) (by omega),dV (x:=e.state) (by omega),dV (x:=e.owner) (by omega),dV (x:=e.typ*2 ^ 0) (by omega),dV (x:=e.state*2 ^ 4) (by omega),dV (x:=e.owner*2 ^ 16) (by omega),oR (x:=e.typ*2 ^ 0) (by omega) (by omega),qc,
  show e.state*2 ^ 4=2 ^ 4*e.state by omega,iN 4 (by omega) (by omega) (by omega),oR (by omega) (by omega),qc,show e.owner*2 ^ 16=2 ^ 16*e.owner by omega,iN 16 (by omega) (by omega) (by omega)]
 omega
theorem or1 {x:Int}(h:∃a b:Int,x=a+512*b/\0<=a/\a<256/\0<=b/\b<8388608):u32.wrap (BitVec.ofInt u32.bits x ||| BitVec.ofInt u32.bits 256).toNat=x+256:=by
 obtain⟨a,b,rfl,c,f,d,j⟩:=h;have e1:nor (2 ^ 8*1) a=2 ^ 8*1+a:=iN 8 (by omega) c f;have e:nor (2 ^ 9*b) a=2 ^ 9*b+a:=iN 9 d c (by omega);have i:nor (2 ^ 9*b) (256+a)=2 ^ 9*b+(256+a):=iN 9 d (by omega) (by omega);rw[oR (by omega) (by omega)];have assoc:∀x y z:Int,nor (nor x y) z=nor x (nor y z):=by
  intro x y z;unfold nor;simp[Nat.or_assoc]
 rw[show a+512*b=2 ^ 9*b+a by omega,<-e,assoc,qc a 256,show nor 256 a=256+a by simpa using e1,i,e];omega
theorem mask(k:Nat){x:Int}(m:Int)(hm:m=2 ^ k - 1)(c:k<=31)(a:0<=x/\x<4294967296):i64.wrap (u32.wrap (BitVec.ofInt u32.bits x &&& BitVec.ofInt u32.bits m).toNat)=x % 2 ^ k:=by
 have d:(2:Int) ^ k<=2 ^ 31:=by exact_mod_cast Nat.pow_le_pow_right (n:=2) (by omega) c
 have b:(0:Int)<2 ^ k:=Int.pow_pos (by omega);have e:=Int.emod_nonneg x (Int.ne_of_gt b);have f:=Int.emod_lt_of_pos x b;subst hm;rw[tE a (by omega),ri k a.1,ay (by omega)]
theorem PZ(k:Nat){x:Int}(m:Int)(hm:m=2 ^ k - 1)(b:k<=31)(a:0<=x/\x<4294967296):u32.wrap (BitVec.ofInt u32.bits x &&& BitVec.ofInt u32.bits m).toNat=x % 2 ^ k:=by
 have c:(2:Int) ^ k<=2 ^ 31:=by exact_mod_cast Nat.pow_le_pow_right (n:=2) (by omega) b
 have d:(0:Int)<2 ^ k:=Int.pow_pos (by omega);subst hm;rw[tE a (by omega),ri k a.1]
theorem nD {x:Int}(n:Nat)(a:0<=x/\x<4294967296):0<=x.fdiv (2 ^ n)/\x.fdiv (2 ^ n)<4294967296:=by
 rw[mW];have b:(0:Int)<2 ^ n:=Int.pow_pos (by omega);refine⟨Int.ediv_nonneg a.1 (by omega),?_⟩;have:=Int.ediv_le_self (2 ^ n) a.1;omega
theorem parts_eq {a b:Int}(c:0<=a/\a<4294967296)(hb:0<=b/\b<4294967296):
 i64.wrap (u32.wrap (BitVec.ofInt u32.bits ((a:Int).fdiv (2 ^ 0)) &&& BitVec.ofInt u32.bits 7).toNat)=(parts a b).typ/\
 i64.wrap (u32.wrap (BitVec.ofInt u32.bits ((a:Int).fdiv (2 ^ 16)) &&& BitVec.ofInt u32.bits 63).toNat)=(parts a b).owner/\
 i64.wrap (u32.wrap (BitVec.ofInt u32.bits b &&& BitVec.ofInt u32.bits 63).toNat)=(parts a b).refs/\
 i64.wrap (u32.wrap (BitVec.ofInt u32.bits ((a:Int).fdiv (2 ^ 4)) &&& BitVec.ofInt u32.bits 3).toNat)=(parts a b).state/\
 ((u32.wrap (BitVec.ofInt u32.bits ((a:Int).fdiv (2 ^ 8)) &&& BitVec.ofInt u32.bits 1).toNat:Int)==1)=(parts a b).bq:=by
 refine⟨?_,?_,?_,?_,?_⟩
 ·rw[mask 3 7 (by decide) (by decide) (nD 0 c),mW];simp[parts]
 ·rw[mask 6 63 (by decide) (by decide) (nD 16 c),mW];simp[parts]
 ·rw[mask 6 63 (by decide) (by decide) hb];simp[parts]
 ·rw[mask 2 3 (by decide) (by decide) (nD 4 c),mW];simp[parts]
 ·rw[PZ 1 1 (by decide) (by decide) (nD 8 c),mW];simp only[parts];rw[Bool.eq_iff_iff];simp
theorem eqW(a b c d:Int):bG #[.int .u32 a,.int .u32 b] #[.int .u32 c,.int .u32 d]=(decide (a=c) && decide (b=d)):=by
 simp[bG,eqL,kG];rfl
end Ent
section
attribute [local irreducible] Vc2 VcD
theorem Ent.eqC(a b c d a' b' c' f:Int)(e h:Bool):bG #[.int .i64 a,.int .i64 b,.int .i64 c,.int .i64 d,.bool e] #[.int .i64 a',.int .i64 b',.int .i64 c',.int .i64 f,.bool h]=decide (a=a'/\b=b'/\c=c'/\d=f/\e=h):=by
 simp[bG,eqL,kG];rw[Bool.eq_iff_iff];simp
theorem Ent.Jj {e:Ent}:(if e.ok then(0:Int)else 110)=0↔e.ok=true:=by cases e.ok<;>simp
def zQ:Ctr Un:=⟨[.one (.int .i64)],[],[],[],λn K=>K ⟨vB (decide (0<=n/\n<=63)),none,[],[],[]⟩⟩
theorem MJ:LV Un prog 120 zQ:=bR Tryz.func120 ak [] trivial [] (.r' (.two (.node [] (some ⟨[(2,(.one .bool))],[],upN 2 7,[]⟩) [] [] .leaf .leaf) .leaf)) [] (F:=∀n Q,zQ.body n Q->∃J:Bool->Prop,(split (decide (n>=0)) (J (decide (n<=63))) (J false))/\∀(c:Nat->Value)(a:Bool),J a->Q ⟨vB a,none,[],[],[]⟩) λn Q h=>eS ((decide ((n:Int)>=0)) && (decide ((n:Int)<=63))) (ao (λb=>(by show _=_;rw[Bool.eq_iff_iff];simp_all<;>omega)) λb=>(by show _=_;rw[Bool.eq_iff_iff];simp_all<;>omega))<| AO h (by rw[Bool.eq_iff_iff];simp)
def we:Ctr Un:=⟨[.agg [.int .i64,.int .i64,.int .i64,.int .i64,.bool]],[],[],[],λa b c d e K=>K ⟨J (if(Ent.mk a b c d e).ok then 0 else 110),none,[],[],[]⟩⟩
section
attribute [local grind=] Ent.ok Ent.eqC
theorem KL:LV Un prog 107 we:=bR Tryz.func107 ak [(120,zQ)] ⟨MJ,trivial⟩ [4,30,54] (.r' (.r' (.two (.node [] (some ⟨[(4,(.one .bool))],[],[4]++upN 8 8,[]⟩) [] [] .leaf .leaf) (.two (.r' (.node [] (some ⟨[(4,(.one .bool))],[],[4]++upN 19 9,[(1,(.blk [(.v (.int .i64)),(.v (.int .i64)),(.v (.int .i64)),(.v (.int .i64)),(.v .bool)]))]⟩) [] [] (.r' (.node [] (some ⟨[(4,(.one .bool))],[],[4]++upN 22 6,[]⟩) [] [] .leaf .leaf)) .leaf)) (.two (.r' (.two (.r' (.two (.two (.node [] none [] [(1,[0]),(3,[0])] .leaf .leaf) (.node [] (some ⟨[(4,(.one .bool))],[],[4]++upN 38 16,[]⟩) [] [] .leaf .leaf)) .leaf)) .leaf)) (.two (.two (.node [] (some ⟨[(65,(.one .bool))],[],upN 59 7,[]⟩) [] [] .leaf .leaf) .leaf) .leaf)))))) [] (F:=∀a d e f j Q,we.body a d e f j Q->∀(B:Nat),∀(C:Nat),∃u:Bool->Prop,(split (decide (a>=0)) (∀ok:Bool,ok=(decide ((a:Int)<7))->u ok) (∀ok:Bool,ok=false->u ok))/\∀(SQ:Nat->Value)(ok:Bool),u ok->∃v:Bool->Int->Int->Int->Int->Bool->Prop,(split (a !=0) (∃c:Bool->Prop,(split ok (∀b:Bool,b=(decide (0<=d/\d<=63))->c b) (∀b:Bool,b=false->c b))/\∀(D:Nat->Value)(b:Bool),c b->v b a d 0 0 false) (v ok a 0 0 0 false))/\∀(D:Nat->Value)(b:Bool) k l o p (q:Bool),v b k l o p q->∀y:Bool,y=((a:Int)==1)->split y (∃c:Bool->Prop,(split b (split (decide (0<=e/\e<=63)) (split (decide (f>0)) (∀i:Bool,i=(decide ((f:Int)<4))->c i) (∀i:Bool,i=false->c i)) (∀i:Bool,i=false->c i)) (∀i:Bool,i=false->c i))/\∀(z:Nat->Value)(i:Bool),c i->∃x:Bool->Prop,(split (!i) (x true) (x (!(bG #[J a,J d,J e,J f,vB j] #[J k,J l,J e,J f,vB q]))))/\∀(XM:Nat->Value)(t:Bool),x t->split t (Q ⟨J 110,none,[],[],[]⟩) (Q ⟨J 0,none,[],[],[]⟩)) (∀A:Bool,A=((a:Int)==2)->split A (∃c:Bool->Prop,(split (!b) (c true) (c (!(bG #[J a,J d,J e,J f,vB j] #[J k,J l,J o,J p,vB j]))))/\∀(z:Nat->Value)(t:Bool),c t->split t (Q ⟨J 110,none,[],[],[]⟩) (Q ⟨J 0,none,[],[],[]⟩)) (∃c:Bool->Prop,(split (!b) (c true) (c (!(bG #[J a,J d,J e,J f,vB j] #[J k,J l,J o,J p,vB q]))))/\∀(z:Nat->Value)(t:Bool),c t->split t (Q ⟨J 110,none,[],[],[]⟩) (Q ⟨J 0,none,[],[],[]⟩)))) λa d e f j Q h B C=>eS ((decide ((a:Int)>=0)) && (decide ((a:Int)<7))) (ao (λG=>allEq<| (by grind)) λG=>allEq<| (by grind))<| ⟨λb k l o p q=>(b=(decide (0<=a/\a<7) && (a==0 || decide (0<=d/\d<=63))))/\(k=a/\l=(if a=0 then 0 else d)/\o=0/\p=0/\q=false),ax (λH=>eS (((decide ((a:Int)>=0)) && (decide ((a:Int)<7))) && (decide (0<=d/\d<=63))) (ao (λI=>allEq<| (by grind)) λI=>allEq<| (by grind))<| ⟨(by grind),(by grind)⟩) λH=>⟨(by grind),(by grind)⟩,λ_ b k l o p q ⟨g1,g2⟩=>allEq<| ar (λL=>eS (b && ((decide (0<=e/\e<=63)) && ((decide ((f:Int)>0)) && (decide ((f:Int)<4))))) (ao (λM=>ao (λO=>ao (λR=>allEq<| (by grind)) λR=>allEq<| (by grind)) λO=>allEq<| (by grind)) λM=>allEq<| (by grind))<| eS ((!(b && ((decide (0<=e/\e<=63)) && ((decide ((f:Int)>0)) && (decide ((f:Int)<4)))))) || (!(bG #[J a,J d,J e,J f,vB j] #[J k,J l,J e,J f,vB q]))) (ao (λS=>(by grind)) λS=>(by grind))<| bZ (λT=>cv h (by grind)) λT=>cv h (by grind)) λL=>allEq<| ar (λV=>eS ((!b) || (!(bG #[J a,J d,J e,J f,vB j] #[J k,J l,J o,J p,vB j]))) (ao (λY=>(by grind)) λY=>(by grind))<| bZ (λZ=>cv h (by grind)) λZ=>cv h (by grind)) λV=>eS ((!b) || (!(bG #[J a,J d,J e,J f,vB j] #[J k,J l,J o,J p,vB q]))) (ao (λWH=>(by grind)) λWH=>(by grind))<| bZ (λaa=>cv h (by grind)) λaa=>cv h (by grind)⟩
end
def rW:Ctr Un:=⟨[.agg [.int .i64,.int .i64,.int .i64,.int .i64,.bool]],[],[],[],λa b c d e K=>∀(x y z:Int),((x=(if(Ent.mk a b c d e).ok then(Ent.mk a b c d e).w0 else 0)/\y=(if(Ent.mk a b c d e).ok then(Ent.mk a b c d e).w1 else 0)/\z=(if(Ent.mk a b c d e).ok then 0 else 110)))->K ⟨(.tuple #[(.agg #[O x,O y]),J z]),kn2,[],[],[]⟩⟩
theorem ym:LV Un prog 88 rW:=bR Tryz.func88 ak [(107,we)] ⟨KL,trivial⟩ [4] .leaf [] (F:=∀c d b e i Q,rW.body c d b e i Q->∀(t:Nat),∀(u:Nat),split (((if(Ent.mk c d b e i).ok then 0 else 110):Int) !=0) (Q ⟨(.tuple #[(.agg #[O 0,O 0]),J 110]),kn2,[],[],[]⟩) (∀j:Int,j=(u32.wrap (BitVec.ofInt u32.bits (u32.wrap (BitVec.ofInt u32.bits (u32.wrap ((u32.wrap c:Int)*2 ^ 0)) ||| BitVec.ofInt u32.bits (u32.wrap ((u32.wrap e:Int)*2 ^ 4))).toNat) ||| BitVec.ofInt u32.bits (u32.wrap ((u32.wrap d:Int)*2 ^ 16))).toNat)->split i (∀q:Int,q=(u32.wrap (BitVec.ofInt u32.bits j ||| BitVec.ofInt u32.bits 256).toNat)->Q ⟨(.tuple #[(.agg #[O q,O (u32.wrap b)]),J 0]),kn2,[],[],[]⟩) (Q ⟨(.tuple #[(.agg #[O j,O (u32.wrap b)]),J 0]),kn2,[],[],[]⟩))) λc d b e i Q h t u=>ax (λk=>(h 0 0 110 (by grind))) λk=>allEq<| ao (λl=>allEq<| aw (h (u32.wrap (BitVec.ofInt u32.bits (u32.wrap (BitVec.ofInt u32.bits (u32.wrap (BitVec.ofInt u32.bits (u32.wrap ((u32.wrap c:Int)*2 ^ 0)) ||| BitVec.ofInt u32.bits (u32.wrap ((u32.wrap e:Int)*2 ^ 4))).toNat) ||| BitVec.ofInt u32.bits (u32.wrap ((u32.wrap d:Int)*2 ^ 16))).toNat) ||| BitVec.ofInt u32.bits 256).toNat) (u32.wrap b) 0 (by have a:=Ent.Jj.1 k;have o:=Ent.hY a;have p:=Ent.mO a;simp only at o p;rw[if_pos a,if_pos a,if_pos a];refine⟨?_,dV (x:=b) (by omega),rfl⟩;have f:=Ent.or0 a;simp only at f;rw[f,Ent.or1 ⟨c+16*e,128*d,by omega⟩];simp[Ent.w0,l])) (bJ (ai (fB (ai rfl (ai (aE (by rfl)) rfl))) rfl)) rfl rfl) λl=>aw (h (u32.wrap (BitVec.ofInt u32.bits (u32.wrap (BitVec.ofInt u32.bits (u32.wrap ((u32.wrap c:Int)*2 ^ 0)) ||| BitVec.ofInt u32.bits (u32.wrap ((u32.wrap e:Int)*2 ^ 4))).toNat) ||| BitVec.ofInt u32.bits (u32.wrap ((u32.wrap d:Int)*2 ^ 16))).toNat) (u32.wrap b) 0 (by have a:=Ent.Jj.1 k;have o:=Ent.hY a;have p:=Ent.mO a;simp only at o p;rw[if_pos a,if_pos a,if_pos a];refine⟨?_,dV (x:=b) (by omega),rfl⟩;have f:=Ent.or0 a;simp only at f;rw[f];simp[Ent.w0,l])) (bJ (ai (fB (ai rfl (ai (aE (by rfl)) rfl))) rfl)) rfl rfl
theorem Ent.Mf {a b x y z:Int}(h:x=(if(parts a b).ok then(parts a b).w0 else 0)/\y=(if(parts a b).ok then(parts a b).w1 else 0)/\z=(if(parts a b).ok then 0 else 110))(c:(z !=0)=true\/(!(bG #[.int .u32 x,.int .u32 y] #[.int .u32 a,.int .u32 b]))=true):dec a b=free/\jo a b=110:=by
 obtain⟨rfl,rfl,rfl⟩:=h;rw[eqW]at c;cases d:(parts a b).ok<;>simp[d]at c
 ·simp[dec,jo,d]
 ·have e:¬((parts a b).w0=a/\(parts a b).w1=b):=by rcases c with c|c<;>simp[c]
  simp[dec,jo,d,e]
theorem Ent.JH {a b x y z:Int}(h:x=(if(parts a b).ok then(parts a b).w0 else 0)/\y=(if(parts a b).ok then(parts a b).w1 else 0)/\z=(if(parts a b).ok then 0 else 110))(c:(z !=0)=false/\(!(bG #[.int .u32 x,.int .u32 y] #[.int .u32 a,.int .u32 b]))=false):dec a b=parts a b/\jo a b=0:=by
 obtain⟨rfl,rfl,rfl⟩:=h;rw[eqW]at c;cases d:(parts a b).ok<;>simp[d]at c
 simp[dec,jo,d,c]
def yn:Ctr Un:=⟨[.agg [.int .u32,.int .u32]],[],[],[],λa b K=>(0<=(a:Int)/\(a:Int)<4294967296)/\(0<=(b:Int)/\(b:Int)<4294967296)/\K ⟨(.tuple #[(.agg #[J (Ent.dec a b).typ,J (Ent.dec a b).owner,J (Ent.dec a b).refs,J (Ent.dec a b).state,vB ((Ent.dec a b).bq)]),J (Ent.jo a b)]),kn2,[],[],[]⟩⟩
theorem Ho:LV Un prog 86 yn:=bR Tryz.func86 ak [(88,rW)] ⟨ym,trivial⟩ [11,16,21,26,30] (.r' (.r' (.two (.r' (.two (.node [] (some ⟨[(43,(.one .bool))],[],upN 37 7,[]⟩) [] [] .leaf .leaf) .leaf)) .leaf))) [] (F:=∀c k Q,yn.body c k Q->∀(B:Nat),∀(C:Nat),(0<=(0:Int)/\(0:Int)<(2:Int))/\∀d:Int,d=(i64.wrap (u32.wrap (BitVec.ofInt u32.bits ((c:Int).fdiv (2 ^ 0)) &&& BitVec.ofInt u32.bits 7).toNat))->(0<=(0:Int)/\(0:Int)<(2:Int))/\∀e:Int,e=(i64.wrap (u32.wrap (BitVec.ofInt u32.bits ((c:Int).fdiv (2 ^ 4)) &&& BitVec.ofInt u32.bits 3).toNat))->(0<=(0:Int)/\(0:Int)<(2:Int))/\∀f:Bool,f=((u32.wrap (BitVec.ofInt u32.bits ((c:Int).fdiv (2 ^ 8)) &&& BitVec.ofInt u32.bits 1).toNat:Int)==1)->(0<=(0:Int)/\(0:Int)<(2:Int))/\∀i:Int,i=(i64.wrap (u32.wrap (BitVec.ofInt u32.bits ((c:Int).fdiv (2 ^ 16)) &&& BitVec.ofInt u32.bits 63).toNat))->(0<=(1:Int)/\(1:Int)<(2:Int))/\∀j:Int,j=(i64.wrap (u32.wrap (BitVec.ofInt u32.bits k &&& BitVec.ofInt u32.bits 63).toNat))->∀(D:Nat),∀(x y z:Int),((x=(if(Ent.mk d i j e f).ok then(Ent.mk d i j e f).w0 else 0)/\y=(if(Ent.mk d i j e f).ok then(Ent.mk d i j e f).w1 else 0)/\z=(if(Ent.mk d i j e f).ok then 0 else 110)))->∀(G:Nat),∃l:Bool->Prop,(split (z !=0) (l true) (l (!(bG #[O x,O y] #[O c,O k]))))/\∀(R:Nat->Value)(p:Bool),l p->split p (Q ⟨(.tuple #[(.agg #[J 0,J 0,J 0,J 0,vB false]),J 110]),kn2,[],[],[]⟩) (Q ⟨(.tuple #[(.agg #[J d,J i,J j,J e,vB f]),J 0]),kn2,[],[],[]⟩)) λc k Q h=>by
 obtain⟨e1,H,I,L,e5⟩:=Ent.parts_eq h.1 h.2.1;obtain⟨S,T,h⟩:=h;exact λB C=>aj (by omega) λs1 d q=>aj ‹_› λs2 e t=>aj ‹_› λs3 f u=>aj ‹_› λV i v=>aj (by omega) λY j A D x y z f6=>(by rw[e1]at q;rw[H]at v;rw[I]at A;rw[L]at t;rw[e5]at u;subst q v A t u;exact λG=>eS (((z:Int) !=0) || (!(bG #[O x,O y] #[O c,O k]))) (ao (λM=>(by grind)) λM=>(by grind))<| bZ (λo=>(by have hd:=Ent.Mf (a:=c) (b:=k) f6 o;exact aw h (by rw[hd.1,hd.2]<;>rfl) rfl rfl)) λo=>(by have hd:=Ent.JH (a:=c) (b:=k) f6 o;exact aw h (by rw[hd.1,hd.2]<;>rfl) rfl rfl))
theorem puC {P:Program}{f:Nat}{args:Array Value}{w:World}{v:Value}{k:Option Kn}(h:∀X:bP,Sat (U:=Un) [] X w->aG (U:=Un) [] fr0 []->Calls P f args w (aR (U:=Un) [] [] X w (λo=>o=⟨v,k,[],[],[]⟩)))(a:ln k v=.returned v:=by rfl):Calls P f args w λe w'=>∃u,e=.returned u/\u=v/\Pu w w':=by
 refine(h (λ_ _=>False) ⟨λi r h=>by simp[nth]at h,λ_ _ _ _ _ _ _ h=>h.elim⟩ (λ_ _ h=>by cases h)).mono ?_;rintro e w' ⟨out,rs',c,rfl,rfl,_,hp⟩;exact⟨_,a,rfl,hp.ch.mono λk ⟨j,b,_⟩=>by cases b⟩
theorem L9 {w:World}(a b c d:Int)(f:Bool):
 Calls prog 88 #[(.agg #[J a,J b,J c,J d,vB f])] w λe w'=>∃v,e=.returned v/\v=.tuple #[(.agg #[O (if(Ent.mk a b c d f).ok then(Ent.mk a b c d f).w0 else 0),O (if(Ent.mk a b c d f).ok then(Ent.mk a b c d f).w1 else 0)]),J (if(Ent.mk a b c d f).ok then 0 else 110)]/\Pu w w':=
 puC λX=>ym a b c d f (λo=>o=_) (λx y z h=>by obtain⟨rfl,rfl,rfl⟩:=h;rfl) X w
theorem Ma {w:World}(a b:Int)(c:0<=a/\a<4294967296)(hb:0<=b/\b<4294967296):
 Calls prog 86 #[(.agg #[O a,O b])] w λe w'=>∃v,e=.returned v/\v=(.tuple #[(.agg #[J (Ent.dec a b).typ,J (Ent.dec a b).owner,J (Ent.dec a b).refs,J (Ent.dec a b).state,vB ((Ent.dec a b).bq)]),J (Ent.jo a b)])/\Pu w w':=
 puC λX=>Ho a b (λo=>o=_) ⟨c,hb,rfl⟩ X w
end
end Go.Proofs.YtjiflmkpbkeocaaGreatDoor
