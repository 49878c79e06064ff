/- SnapForms returns true for every input: a snapshot that the program reads is read alike by the document's answer, with the same refusals and the same words. -/
import Derived.Test.YtoghdgcmhbanbaaGreatDoorF3
import Derived.MapKept
import Derived.Maps.Own
set_option linter.unusedVariables false
set_option linter.unusedSimpArgs false
section
set_option maxRecDepth 20000
namespace Go.Proofs.YtoghdgcmhbanbaaGreatDoor
open Go Go.RowKit V
open Go.IntKind (i64 u32 u64 wrap_i64 wrap_u32)
open Enc (enc)
attribute [local irreducible] bf jq
theorem D5 {K:List Int}{d l2:List U32}(f:d.length=16)(j:l2.length<=1099511627776):((Dg.new.add K d).add K l2).sum K=xD K (d++l2):=by
 have h:Dg.new.add K d=⟨(bf K S8.first d).1,16,(bf K S8.first d).2⟩:=by
  unfold Dg.add Dg.new;rw[if_neg (by simp only[];omega)];simp only[List.nil_append,f];rfl
 have i:(Dg.new.add K d).add K l2=⟨(bf K S8.first (d++l2)).1,((d++l2).length:Nat),(bf K S8.first (d++l2)).2⟩:=by
  rw[h];unfold Dg.add;rw[if_neg (by simp only[];omega),ug K d l2];simp only[List.length_append,f,Dg.mk.injEq,true_and,and_true];omega
 rw[i];have k:(d++l2).length<=1099511627792:=by rw[List.length_append];omega
 generalize d++l2=L at *;obtain⟨T,t1,t2⟩:=zc (a:=(bf K S8.first L).2) (b:=L) (uM 2147483648) (by rw[ud];omega);have en:u64.wrap (32*(u64.wrap ((L.length:Nat):Int)))=u64.wrap (u64.wrap ((4*L.length:Nat):Int)*8):=by
  rw[dz (x:=((L.length:Nat):Int)) (by omega),dz (x:=((4*L.length:Nat):Int)) (by omega)];congr 1;omega
 unfold Dg.sum Dg.fin xD ou hiW loW;simp only[];rw[en,t1,t2,List.append_assoc,List.append_assoc,ug K L]
theorem be_eq {a b c d:Int}(k:0<=a/\a<256)(l:0<=b/\b<256)(m:0<=c/\c<256)(hd:0<=d/\d<256):be a b c d=a*16777216+b*65536+c*256+d:=by
 unfold be;rw[bT (x:=a) (by omega),bT (x:=b) (by omega),bT (x:=c) (by omega),bT (x:=d) (by omega),bT (x:=a*2 ^ 24) (by omega),bT (x:=b*2 ^ 16) (by omega),bT (x:=c*2 ^ 8) (by omega),bT (x:=d*2 ^ 0) (by omega)];have o:∀(n:Nat)(x y:Int),0<=x->0<=y->y<2 ^ n->2 ^ n*x+y<4294967296->2 ^ n*x<4294967296->u32.wrap (BitVec.ofInt u32.bits (2 ^ n*x) ||| BitVec.ofInt u32.bits y).toNat=2 ^ n*x+y:=by
  intro n x y f h i p q;have r:(0:Int)<2 ^ n:=Int.pow_pos (by decide);have t:0<=2 ^ n*x:=Int.mul_nonneg (by omega) f;rw[tU,BitVec.toNat_or,dw (by omega) (by omega),dw (by omega) (by omega)];have:=fJ n (a:=x) (y:=y) f h i;unfold nor at this;rw[this,bT (by omega)]
 have s1:=o 24 a (b*2 ^ 16) (by omega) (by omega) (by omega) (by omega) (by omega);rw[show a*2 ^ 24=2 ^ 24*a by omega,s1];have s2:=o 16 (256*a+b) (c*2 ^ 8) (by omega) (by omega) (by omega) (by omega) (by omega);rw[show 2 ^ 24*a+b*2 ^ 16=2 ^ 16*(256*a+b)by omega,s2];have j:=o 8 (65536*a+256*b+c) (d*2 ^ 0) (by omega) (by omega) (by omega) (by omega) (by omega);rw[show 2 ^ 16*(256*a+b)+c*2 ^ 8=2 ^ 8*(65536*a+256*b+c)by omega,j];omega
theorem AQ {l:List U8}(z:l.length % 4=0)(t:∀x∈l,0<=x.v/\x.v<256):aP (dR l)=l:=by
 have hlen:(aP (dR l)).length=l.length:=by rw[cp,mK];omega
 apply List.ext_getElem hlen;intro i u v;have hq:i / 4<l.length / 4:=by omega
 have y:(dR l)[i / 4]? =some (g9 l (i / 4)):=by unfold dR;rw[List.getElem?_map,List.getElem?_range hq];rfl
 have q:=tT y (i % 4) (by omega);rw[show 4*(i / 4)+i % 4=i by omega,List.getD_eq_getElem?_getD,List.getElem?_eq_getElem u,Option.getD_some]at q;rw[q];have g:∀j,j<l.length->0<=(l.getD j ⟨0⟩).v/\(l.getD j ⟨0⟩).v<256:=λj r=>by rw[List.getD_eq_getElem?_getD,List.getElem?_eq_getElem r];exact t _ (List.getElem_mem r)
 have d:=be_eq (g (4*(i / 4)) (by omega)) (g (4*(i / 4)+1) (by omega)) (g (4*(i / 4)+2) (by omega)) (g (4*(i / 4)+3) (by omega));obtain⟨k,m,o,p⟩:=byW_eq (x:=(g9 l (i / 4)).v) (H2 _ _ _ _);have f:(g9 l (i / 4)).v=be (l.getD (4*(i / 4)) ⟨0⟩).v (l.getD (4*(i / 4)+1) ⟨0⟩).v (l.getD (4*(i / 4)+2) ⟨0⟩).v (l.getD (4*(i / 4)+3) ⟨0⟩).v:=rfl;rw[f,d]at k m o p;have r0:=g (4*(i / 4)) (by omega);have r1:=g (4*(i / 4)+1) (by omega);have r2:=g (4*(i / 4)+2) (by omega);have r3:=g (4*(i / 4)+3) (by omega);have ge:l[i]=l.getD i ⟨0⟩:=by rw[List.getD_eq_getElem?_getD,List.getElem?_eq_getElem v];rfl
 have x:∀(a b:U8),a.v=b.v->a=b:=λa b h=>by cases a;cases b;cases h;rfl
 rw[ge];apply x;rw[<-d,<-f]at k m o p;rcases(show i % 4=0\/i % 4=1\/i % 4=2\/i % 4=3 by omega)with h|h|h|h
 ·rw[h];show(byW (g9 l (i / 4)).v 24).v=_;rw[k,f,d,show l.getD i ⟨0⟩=l.getD (4*(i / 4)) ⟨0⟩by rw[show 4*(i / 4)=i by omega]];omega
 ·rw[h];show(byW (g9 l (i / 4)).v 16).v=_;rw[m,f,d,show l.getD i ⟨0⟩=l.getD (4*(i / 4)+1) ⟨0⟩by rw[show 4*(i / 4)+1=i by omega]];omega
 ·rw[h];show(byW (g9 l (i / 4)).v 8).v=_;rw[o,f,d,show l.getD i ⟨0⟩=l.getD (4*(i / 4)+2) ⟨0⟩by rw[show 4*(i / 4)+2=i by omega]];omega
 ·rw[h];show(byW (g9 l (i / 4)).v 0).v=_;rw[p,f,d,show l.getD i ⟨0⟩=l.getD (4*(i / 4)+3) ⟨0⟩by rw[show 4*(i / 4)+3=i by omega]];omega
theorem G0(l:List U8)(p:Int):∀x∈gx l p,0<=x.v/\x.v<256:=by
 intro x d;unfold gx at d;obtain⟨y,_,rfl⟩:=List.mem_map.1 d;show 0<=xp y.v p/\xp y.v p<256;unfold xp;rw[u8_eq];omega
theorem vM {w:World}{Y:Nat->Prop}{A:Option Addr}{n c:Nat}{l:List U8}(h:Rd w Y A n c l)(W:n<=64)(p:Int):
 Calls Tryz.prog 134 #[.slice A n c,.int .u8 p] w λe w'=>∃v,e=.returned v/\∃A' c',v=.slice A' 64 c'/\Own w' (λk=>w.heap.size<=k) 5 A' 64 c' (gx l p)/\Pu w w':=by
 have hl:=h.len;have o:l.length<=64:=by omega
 have an:=eg o p;refine rq _ _ _ _ ?_;refine⟨λA' n' c' w'=>A=A'/\n=n'/\c=c'/\w=w',af (λt=>by omega) (λ_=>⟨rfl,rfl,rfl,rfl⟩),?_⟩;rintro _ _ _ _ _ ⟨rfl,rfl,rfl,rfl⟩;rintro _ rfl;refine⟨λm A' G H i w'=>∃k:Nat,i=(k:Int)/\k<=64/\m=64 - k/\k=G/\Own w' (λa=>w.heap.size<=a) 5 A' k H ((gx l p).take k)/\Pu w w',⟨64,0,rfl,by omega,rfl,rfl,Own.nil,Ch.refl _ _⟩,?_⟩;rintro m _ I _ J _ w1 ⟨k,rfl,hk,rfl,rfl,u,q⟩;have qs:=q.size;refine af (λt=>?_) (λt=>?_)
 ·have y:k<64:=by omega
  have L:(gx l p)[k]? =some ⟨xp ((full l).getD k ⟨0⟩).v p⟩:=by
   unfold gx;rw[List.getElem?_map,List.getElem?_eq_getElem (by rw[iC o];exact y),List.getD_eq_getElem?_getD,List.getElem?_eq_getElem (by rw[iC o];exact y)];rfl
  have M:(gx l p).take (k+1)=(gx l p).take k++ [⟨xp ((full l).getD k ⟨0⟩).v p⟩]:=by rw[List.take_add_one,L];rfl
  have step:∀ {x:Int},((full l).getD k ⟨0⟩).v=x->∀(r:Nat)(w2:World),r=w1.heap.size->w2=w1.alloc (.cells #[vY (IntKind.u8.wrap (BitVec.ofInt IntKind.u8.bits x ^^^ BitVec.ofInt IntKind.u8.bits p).toNat)] 5)->
   ∃(z:oA)(C D:Nat)(f:World),(Builtin.append_ #[27,27] 27 #[.slice I k J,.slice (pvA r) 1 1]:Sem Value).run Tryz.prog w2=.ok (.slice z C D) f/\∀i2:Int,i2=i64.wrap ((k:Int)+1)->∃F,F<64 - k/\∃d:Nat,i2=(d:Int)/\d<=64/\F=64 - d/\d=C/\Own f (λa=>w.heap.size<=a) 5 z d D ((gx l p).take d)/\Pu w f:=by
   intro x N;subst N;refine mkd λr w2 j=>?_;refine Own.app (x:=(⟨xp ((full l).getD k ⟨0⟩).v p⟩:U8)) (u.pu j.pu) sB8.sn j.blk rfl (by omega) (by omega) (by have:=j.pu.size;omega) λA3 c3 f O Q=>?_;rintro _ rfl;exact⟨64 - (k+1),by omega,k+1,by rw[aa (by omega)];omega,by omega,rfl,rfl,by rw[M];exact O,(q.trans j.pu).call Q λa R=>.inr R⟩
  refine af (λS=>?_) (λS=>?_)
  ·obtain⟨pp,T,V⟩:=GL (h.pu q) (by omega);refine⟨⟨by omega,by omega⟩,ah pp T ⟨_,by rw[Int.toNat_natCast,Nat.mul_one];exact V k (by omega),?_⟩⟩;refine step (x:=(l.getD k ⟨0⟩).v) ?_;unfold full;rw[List.getD_eq_getElem?_getD,List.getElem?_append_left (by omega),List.getD_eq_getElem?_getD]
  ·refine step (x:=0) ?_;unfold full;rw[List.getD_eq_getElem?_getD,List.getElem?_append_right (by omega),List.getElem?_replicate,if_pos (by omega)];rfl
 ·obtain rfl:k=64:=by omega
  refine⟨_,_,rfl,?_,q⟩
  rwa[List.take_of_length_le (by omega)]at u
theorem th(l:List U8)(h:l.length<=64)(p:Int):aP (dR (gx l p))=gx l p:=AQ (by rw[eg h]) (G0 l p)
theorem IW(K:List Int)(l:List U32):(xD K l).ok:=pG _ _ _ (by unfold S8.ok S8.first;decide)
theorem zG {w:World}{Y Z:Nat->Prop}{C D:Option Addr}{kn kc F G:Nat}{key msg:List U32}{K:List Int}(j:Rd w Y C kn kc (aP key))(H:Rd w Z D F G (aP msg))(i:cR w 2 K)(a7:key.length<=16)(a8:msg.length<=1048576)(a9:0<msg.length)(hr:∀x∈msg,0<=x.v/\x.v<4294967296):
 Calls Tryz.prog 104 #[.slice C kn kc,.slice D F G] w λe w'=>∃v,e=.returned v/\v=.agg (s8C (qX K key msg))/\Pu w w':=by
 have aA:=j.len;have aC:=H.len;have m:(aP key).length<=64:=by rw[cp];omega
 rw[cp]at aA aC;have wl:∀p,(dR (gx (aP key) p)).length=16:=λp=>by rw[mK,eg m]
 refine oJ _ _ _ _ _ _ ?_;refine mkd λgv w1 f=>?_;refine(vM (j.pu f.pu) (by omega) 54).mono ?_;rintro e w2 ⟨_,rfl,A2,c2,rfl,o2,o⟩;have q2:Pu w w2:=f.pu.trans o;have z1:=f.pu.size;have z2:=o.size;refine⟨_,_,_,rfl,?_⟩;refine Own.apps o2 sB8.sn (H.pu q2) (by omega) (by omega) (by omega) (λA3 c3 I J q3=>?_) (λh=>absurd h (by omega))
 ·have L:Pu w1 I:=o.call q3 λk i=>.inr i;have M:Pu w I:=f.pu.trans L;have aN:gx (aP key) 54++aP msg=aP (dR (gx (aP key) 54)++msg):=by rw[fg,th _ m]
  rw[aN]at J;have a0:∀x∈dR (gx (aP key) 54)++msg,0<=x.v/\x.v<4294967296:=λx q=>(List.mem_append.1 q).elim (mJ x) (hr x);refine(qj J.rd a0 (i.pu M) (by omega)).mono ?_;rintro e N ⟨_,rfl,rfl,O⟩;obtain⟨S,r⟩:∃S,S=xD K (dR (gx (aP key) 54)++msg):=⟨_,rfl⟩;have Q:S.ok:=r▸IW _ _;rw[<-r];refine⟨_,_,_,_,_,_,_,_,rfl,mkd λgs w5 t=>aI t.blk rfl λu R=>?_⟩;have a1:N.heap.size<=gs:=by rw[t.num];exact Nat.le_refl _
  have T:Pu N u:=t.pu.stored R (.inr a1);have W:Pu w u:=(M.trans O).trans T;refine(vM (j.pu W) (by omega) 92).mono ?_;rintro e w7 ⟨_,rfl,A7,c7,rfl,o7,y⟩;refine⟨_,_,_,rfl,?_⟩;rintro A8 a2 N8 a3 C8 a4;have b7:=y.blk R.blk;have r8:Rd w7 (λk=>k=gs) A8 N8 C8 (s8L S):=by
   subst a2 a3 a4;exact rdB (l:=s8L S) b7 rfl rfl (Nat.le_refl _)
  have a5:N8=8:=r8.len.symm;subst a5;refine(te r8 (by omega) (rG Q)).mono ?_;rintro e w9 ⟨_,rfl,A9,c9,rfl,o9,z⟩;refine⟨_,_,_,rfl,?_⟩;have z7:=y.size;have z9:=z.size;refine Own.apps (o7.pu z) sB8.sn o9.rd (by omega) (by omega) (by omega) (λAa ca wa oa qa=>?_) (λh=>absurd h (by omega));have a6:gx (aP key) 92++aP (s8L S)=aP (dR (gx (aP key) 92)++s8L S):=by rw[fg,th _ m]
  rw[a6]at oa;have an:Pu u wa:=(y.trans z).call qa λk i=>.inr i;refine(qj oa.rd (λx q=>(List.mem_append.1 q).elim (mJ x) (rG Q x)) (i.pu (W.trans an)) (by omega)).mono ?_;rintro e wb ⟨_,rfl,rfl,pb⟩;have eM:xD K (dR (gx (aP key) 92)++s8L S)=qX K key msg:=by
   unfold qX xT;rw[D5 (wl 54) (by omega),<-r,D5 (wl 92) (by show 8<=_;omega)]
  rw[eM];generalize qX K key msg=V;have az:Pu w1 wb:=(((L.trans O).trans T).trans an).trans pb;refine⟨_,_,_,_,_,_,_,_,rfl,aI (Pu.blk az f.blk) rfl λwc sc=>?_⟩;have d:=sc.blk;exact⟨_,_,_,_,_,_,_,_,⟨d.at rfl,d.at rfl,d.at rfl,d.at rfl,d.at rfl,d.at rfl,d.at rfl,d.at rfl⟩,rfl,(f.pu.trans az).stored sc (.inr (by rw[f.num];exact Nat.le_refl _))⟩
theorem Lg {w:World}{Y Z:Nat->Prop}{i j:Option Addr}{kn kc h k:Nat}{key msg:List U32}{K:List Int}(l:Rd w Y i kn kc key)(m:Rd w Z j h k msg)(y:cR w 2 K)(I:kn<=16)(J:h<=1048576)(L:0<h)(z:∀x∈key,0<=x.v/\x.v<4294967296)(o:∀x∈msg,0<=x.v/\x.v<4294967296):
 Calls Tryz.prog 81 #[.slice i kn kc,.slice j h k] w λe w'=>∃v,e=.returned v/\v=.agg (s8C (qX K key msg))/\Pu w w':=by
 have M:=l.len;have N:=m.len;refine yS _ _ _ _ _ _ ?_;refine mkd λO w1 f=>?_;refine(te (l.pu f.pu) (by omega) z).mono ?_;rintro e w2 ⟨_,rfl,Q,R,rfl,C,p⟩;refine⟨_,_,_,rfl,(te (m.pu (f.pu.trans p)) (by omega) o).mono ?_⟩;rintro e D ⟨_,rfl,S,T,rfl,F,q⟩;have r:Pu w1 D:=p.trans q;refine⟨_,_,_,rfl,(zG (C.pu q).rd F.rd (y.pu (f.pu.trans r)) (by omega) (by omega) (by omega) o).mono ?_⟩;rintro e G ⟨_,rfl,rfl,H⟩;generalize qX K key msg=V;have t:Pu w1 G:=r.trans H;refine⟨_,_,_,_,_,_,_,_,rfl,aI (Pu.blk t f.blk) rfl λW u=>?_⟩;have d:=u.blk;exact⟨_,_,_,_,_,_,_,_,⟨d.at rfl,d.at rfl,d.at rfl,d.at rfl,d.at rfl,d.at rfl,d.at rfl,d.at rfl⟩,rfl,(f.pu.trans t).stored u (.inr (by rw[f.num];exact Nat.le_refl _))⟩
end Go.Proofs.YtoghdgcmhbanbaaGreatDoor
end
section
set_option maxRecDepth 100000
set_option maxHeartbeats 2000000
namespace Go.Proofs.YtoghdgcmhbanbaaGreatDoor
open Go Go.RowKit V Pk
open Go.IntKind (i64 u32 u64 wrap_i64 wrap_u32)
def yc(K:List Int)(s:S8):S8:=qX K (s8L s) [⟨2002874980⟩,⟨1701716075⟩,⟨1702436913⟩]
theorem Ea:∀x∈ [uM 2002874980,⟨1701716075⟩,⟨1702436913⟩],0<=x.v/\x.v<4294967296:=by
 intro x d;simp only[List.mem_cons,List.not_mem_nil,or_false]at d;rcases d with rfl|rfl|rfl<;>decide
theorem MZ {w:World}{K:List Int}(u:cR w 1 K)(s:S8):
 Calls Tryz.prog 70 #[.agg (s8C s)] w λe w'=>∃v,e=.returned v/\v=.agg (s8C (yc K s))/\Pu w w':=by
 refine DC _ _ _ _ _ _ _ _ ?_;refine mkd λx w1 f=>mkd λy w2 h=>?_;rintro z C m o D F;refine mkd λp i k=>?_;have q:Pu w1 i:=h.pu.trans k.pu;have G:Rd i (λj=>j=x) z m D (s8L s):=by subst C o F;exact rdB (l:=s8L s) (Pu.blk q f.blk) rfl rfl (Nat.le_refl _)
 have rm:Rd i (λj=>j=p) (pvA p) 3 3 [uM 2002874980,⟨1701716075⟩,⟨1702436913⟩]:=rdB (l:= [uM 2002874980,⟨1701716075⟩,⟨1702436913⟩]) k.blk rfl rfl (Nat.le_refl _);obtain rfl:m=8:=o;refine(MH G rm (u.pu (f.pu.trans q)) (by omega) (by omega) Ea).mono ?_;rintro e H ⟨_,rfl,rfl,I⟩;have eq:qX K (s8L s) [uM 2002874980,⟨1701716075⟩,⟨1702436913⟩]=yc K s:=rfl;rw[eq];generalize yc K s=R;have J:w.heap.size<=y:=by rw[h.num];exact f.pu.size
 have r:Pu w2 H:=k.pu.trans I;refine⟨_,_,_,_,_,_,_,_,rfl,aI (Pu.blk r h.blk) rfl λL t=>?_⟩;have d:=t.blk;exact⟨_,_,_,_,_,_,_,_,⟨d.at rfl,d.at rfl,d.at rfl,d.at rfl,d.at rfl,d.at rfl,d.at rfl,d.at rfl⟩,rfl,((f.pu.trans h.pu).trans r).stored t (.inr J)⟩
theorem Nl {w:World}{K:List Int}(u:cR w 2 K){s:S8}(x:s.ok):
 Calls Tryz.prog 59 #[.agg (s8C s)] w λe w'=>∃v,e=.returned v/\v=.agg (s8C (yc K s))/\Pu w w':=by
 refine yM _ _ _ _ _ _ _ _ ?_;refine mkd λy w1 f=>mkd λz w2 h=>?_;rintro C D m o F G;refine mkd λp i k=>?_;have q:Pu w1 i:=h.pu.trans k.pu;have H:Rd i (λj=>j=y) C m F (s8L s):=by subst D o G;exact rdB (l:=s8L s) (Pu.blk q f.blk) rfl rfl (Nat.le_refl _)
 have rm:Rd i (λj=>j=p) (pvA p) 3 3 [uM 2002874980,⟨1701716075⟩,⟨1702436913⟩]:=rdB (l:= [uM 2002874980,⟨1701716075⟩,⟨1702436913⟩]) k.blk rfl rfl (Nat.le_refl _);obtain rfl:m=8:=o;refine(Lg H rm (u.pu (f.pu.trans q)) (by omega) (by omega) (by omega) (rG x) Ea).mono ?_;rintro e I ⟨_,rfl,rfl,J⟩;have eq:qX K (s8L s) [uM 2002874980,⟨1701716075⟩,⟨1702436913⟩]=yc K s:=rfl;rw[eq];generalize yc K s=R;have L:w.heap.size<=z:=by rw[h.num];exact f.pu.size
 have r:Pu w2 I:=k.pu.trans J;refine⟨_,_,_,_,_,_,_,_,rfl,aI (Pu.blk r h.blk) rfl λM t=>?_⟩;have d:=t.blk;exact⟨_,_,_,_,_,_,_,_,⟨d.at rfl,d.at rfl,d.at rfl,d.at rfl,d.at rfl,d.at rfl,d.at rfl,d.at rfl⟩,rfl,((f.pu.trans h.pu).trans r).stored t (.inr L)⟩
@[reducible] def kt(a b:Int)(s:S8)(A:oA)(n c:Nat):Array Value:= #[.int .i64 a,.int .i64 b,.int .u32 s.a,.int .u32 s.b,.int .u32 s.c,.int .u32 s.d,.int .u32 s.e,.int .u32 s.f,.int .u32 s.g,.int .u32 s.h,.slice A n c]
def mu(a b:Int)(ss:List (List Int)):Prop:=1<=a/\a<=64/\1<=b/\b<=64/\ss.length<=64/\∀s∈ss,s.length<=4096
section
variable {a b:Int}{s:S8}{A:Option Addr}{n c:Nat}{ss:List (List Int)}{Z:Nat->Prop}{w:World}
theorem Be {k:Nat}(h:∀j,j<k->(ss.getD j []).length<=4096)(f:(ss.getD k []).length<=4096):∀j,j<k+1->(ss.getD j []).length<=4096:=λj d=>by
 rcases Nat.lt_succ_iff_lt_or_eq.1 d with d|rfl
 ·exact h j d
 ·exact f
theorem Ex(h:∀j,j<ss.length->(ss.getD j []).length<=4096):∀x∈ss,x.length<=4096:=λx f=>by
 obtain⟨j,d,rfl⟩:=List.getElem_of_mem f;have:=h j d
 rwa[List.getD_eq_getElem?_getD,List.getElem?_eq_getElem d]at this
theorem rJ(h:∀x∈ss,x.length<=4096){j:Nat}(d:j<ss.length):(ss.getD j []).length<=4096:=by
 rw[List.getD_eq_getElem?_getD,List.getElem?_eq_getElem d];exact h _ (List.getElem_mem d)
theorem KA(h:NL w Z A n c ss)(o:n<=1000000):
 Calls Tryz.prog 67 #[.agg (kt a b s A n c)] w λe w'=>∃v,e=.returned v/\(∃x:Bool,v=.bool x/\(x=true↔mu a b ss))/\Pu w w':=by
 have G:=h.len;refine BS _ _ _ _ _ _ _ _ _ _ _ _ _ ?_;refine mkd λH w1 m=>?_;have f:=m.blk;refine⟨_,_,_,f.at rfl,λp i w2=>∃k:Nat,i=(k:Int)/\k<=n/\p=n - k/\(∀j,j<k->(ss.getD j []).length<=4096)/\w1=w2,⟨_,0,rfl,Nat.zero_le _,rfl,λj q=>absurd q (by omega),rfl⟩,?_⟩;rintro p _ _ _ ⟨k,rfl,I,rfl,r,rfl⟩;refine af (λu=>?_) (λu=>?_)
 ·refine(h.pu m.pu).rd (by omega) (by omega) λB J d hi=>?_;rw[Int.toNat_natCast]at hi;have L:=hi.len;refine af (λM=>⟨⟨false,rfl,by simp;rintro⟨_,_,_,_,_,y⟩;have:=rJ y (j:=k) (by omega);omega⟩,m.pu⟩) (λN=>?_);exact⟨n - (k+1),by omega,k+1,by rw[aa (by omega)];omega,by omega,rfl,Be r (by omega),rfl⟩
 ·have hm:∀x∈ss,x.length<=4096:=Ex λj q=>r j (by omega);have no:¬(1<=a/\a<=64/\1<=b/\b<=64/\ss.length<=64)->(false=true↔mu a b ss):=λo=>⟨λh=>(by cases h),λh=>absurd ⟨h.1,h.2.1,h.2.2.1,h.2.2.2.1,h.2.2.2.2.1⟩ o⟩;refine⟨λx w2=>(x=true↔mu a b ss)/\w1=w2,?_,λ_ x w2 t=>⟨⟨x,rfl,t.1⟩,t.2▸m.pu⟩⟩;refine⟨_,f.at rfl,af (λz=>?_) (λz=>⟨no (by omega),rfl⟩)⟩;refine⟨_,f.at rfl,af (λC=>?_) (λC=>⟨no (by omega),rfl⟩)⟩;refine⟨_,f.at rfl,af (λD=>?_) (λD=>⟨no (by omega),rfl⟩)⟩;refine⟨_,f.at rfl,af (λF=>?_) (λF=>⟨no (by omega),rfl⟩)⟩;exact⟨_,_,_,f.at rfl,⟨λl=>⟨by omega,by omega,by omega,by omega,by simp at l;omega,hm⟩,λl=>by have:=l.2.2.2.2.1;simp;omega⟩,rfl⟩
theorem GO(h:NL w Z A n c ss)(J:n<=1000000):
 Calls Tryz.prog 33 #[.agg (kt a b s A n c)] w λe w'=>∃v,e=.returned v/\(∃x:Bool,v=.bool x/\(x=true↔mu a b ss))/\Pu w w':=by
 have L:=h.len;refine ux _ _ _ _ _ _ _ _ _ _ _ _ _ ?_;refine mkd λM w1 m=>?_;have l:=m.blk;refine⟨λx w2=>(x=true↔(1<=a/\a<=64/\1<=b/\b<=64/\ss.length<=64))/\w1=w2,?_,?_⟩
 ·refine⟨_,l.at rfl,af (λo=>?_) (λo=>λ_ e=>⟨by subst e;simp;omega,rfl⟩)⟩;refine⟨_,l.at rfl,af (λp=>?_) (λp=>λ_ e=>⟨by subst e;simp;omega,rfl⟩)⟩;refine⟨_,l.at rfl,af (λf=>?_) (λf=>λ_ e=>⟨by subst e;simp;omega,rfl⟩)⟩;refine⟨_,l.at rfl,af (λq=>?_) (λq=>λ_ e=>⟨by subst e;simp;omega,rfl⟩)⟩;exact⟨_,_,_,l.at rfl,λ_ e=>⟨by subst e;simp;omega,rfl⟩⟩
 rintro _ ok _ ⟨D,rfl⟩ i0 rfl;refine⟨λC x i w2=>∃k:Nat,i=(k:Int)/\k<=n/\C=n - k/\(x=true↔(1<=a/\a<=64/\1<=b/\b<=64/\ss.length<=64)/\∀j,j<k->(ss.getD j []).length<=4096)/\w1=w2,⟨_,0,rfl,Nat.zero_le _,rfl,by rw[D];exact⟨λh=>⟨h,λj r=>absurd r (by omega)⟩,λh=>h.1⟩,rfl⟩,?_⟩;rintro C _ x _ _ ⟨k,rfl,N,rfl,t,rfl⟩;refine⟨_,_,_,l.at rfl,af (λF=>?_) (λF=>?_)⟩
 ·refine⟨λy w2=>(y=true↔(1<=a/\a<=64/\1<=b/\b<=64/\ss.length<=64)/\∀j,j<k+1->(ss.getD j []).length<=4096)/\w1=w2,?_,?_⟩
  ·refine ab (λG=>?_) (λH=>?_)
   ·obtain⟨o,p⟩:=t.1 G;refine⟨_,_,_,l.at rfl,(h.pu m.pu).rd (by omega) (by omega) λB O d hi=>?_⟩;rw[Int.toNat_natCast]at hi;have Q:=hi.len;rintro _ rfl;refine⟨⟨λf=>⟨o,Be p (by simp at f;omega)⟩,λf=>by have:=f.2 k (by omega);simp;omega⟩,rfl⟩
   ·rintro _ rfl;refine⟨⟨λh=>(by cases h),λf=>?_⟩,rfl⟩;have:=t.2 ⟨f.1,λj r=>f.2 j (by omega)⟩;rw[H]at this;exact this
  ·rintro _ y _ ⟨I,rfl⟩ i2 rfl;exact⟨n - (k+1),by omega,k+1,by rw[aa (by omega)];omega,by omega,rfl,I,rfl⟩
 ·refine⟨⟨x,rfl,?_⟩,m.pu⟩;rw[t];unfold mu;constructor
  ·rintro⟨⟨o,p,f,q,u⟩,z⟩;exact⟨o,p,f,q,u,Ex λj r=>z j (by omega)⟩
  ·rintro⟨o,p,f,q,u,z⟩;exact⟨⟨o,p,f,q,u⟩,λj r=>rJ z (by omega)⟩
end
theorem KN {w:World}{Z:Nat->Prop}{A:Option Addr}{n c:Nat}{l:List Int}(h:aD w Z .u32 A n c l)(q:n<=1048576):
 Calls Tryz.prog 85 #[.slice A n c] w λe w'=>∃v,e=.returned v/\∃A' n' c',v=.slice A' n' c'/\aD w' (up w) .u32 A' n' c' l/\Pu w w':=by
 refine fh _ _ _ ?_;cases A with
 | none=>
  have:l= []:=by
   cases l with
   |nil=>rfl
   |cons x r=>obtain⟨p,j,_⟩:=h.cell 0 x rfl;cases j
  subst this;exact aU ⟨none,0,0,rfl,aD.nil,Ch.refl _ _⟩
 | some p=>
  refine bG (mkd λi w1 d=>?_);have o:OI w1 (up w) 22 .u32 (pvA i) 0 0 []:=⟨⟨rfl,.inr ⟨i,0,_,rfl,Nat.zero_le _,d.blk,Nat.le_refl _,by decide,rfl,rfl⟩⟩,λa f=>by injection f with f;rw[<-f];exact Nat.le_of_eq d.num.symm⟩;refine cu (t:=26) oQ o (by show w.heap.size<=_;have:=d.size;omega) (h.pu d.pu) (by omega) (by omega) λA' c' w2 k m=>?_;exact⟨A',_,c',rfl,k.ints,(show Pu w w1 from d.pu).up m⟩
end Go.Proofs.YtoghdgcmhbanbaaGreatDoor
end
section
set_option maxRecDepth 100000
set_option maxHeartbeats 2000000
namespace Go.Proofs.YtoghdgcmhbanbaaGreatDoor
open Go Go.RowKit V Pk
open Go.IntKind (i64 u32 u64 wrap_i64 wrap_u32)
section
variable {a b:Int}{s:S8}{A:Option Addr}{n c:Nat}{ss:List (List Int)}{Z:Nat->Prop}{w:World}
def Mid(w0 w:World)(g n k:Nat)(T:TypeId)(ss:List (List Int)):Prop:=∃cs:Array Value,Blk w g cs T/\cs.size=n/\∀(j:Nat)(p:List Int),j<k->ss[j]? =some p->∃(B:oA)(m d:Nat),cs[j]? =some (.slice B m d)/\aD w (λq=>w0.heap.size<=q/\q≠g/\q<w.heap.size) .u32 B m d p
theorem Mid.ch {w0 w w':World}{X:Nat->Prop}{g n k:Nat}{T:TypeId}(h:Mid w0 w g n k T ss)(q:Ch X w w')(i:∀k,w0.heap.size<=k->k<w.heap.size->¬X k)(o:w0.heap.size<=g):Mid w0 w' g n k T ss:=by
 obtain⟨cs,l,r,t⟩:=h;refine⟨cs,q.blk l (i g o l.lt),r,λj p u v=>?_⟩;obtain⟨B,m,d,e,hi⟩:=t j p u v;exact⟨B,m,d,e,(hi.ch q λk f=>i k f.1 f.2.2).mono λk f=>⟨f.1,f.2.1,Nat.lt_of_lt_of_le f.2.2 q.size⟩⟩
theorem Mid.nl {w0 w:World}{g n:Nat}{T:TypeId}(h:Mid w0 w g n n T ss)(i:ss.length=n)(l:w0.heap.size<=g):NL w (up w0) (pvA g) n n ss:=by
 obtain⟨cs,o,t,q⟩:=h;refine⟨i,Nat.le_refl _,λj p f=>?_⟩;obtain⟨B,m,d,e,hi⟩:=q j p (by have:=(List.getElem?_eq_some_iff.1 f).1;omega) f;exact⟨_,⟨B,m,d⟩,rfl,l,o.at e,hi.mono λk r=>r.1⟩
theorem s1N:S1 Tryz.prog 55 26 (.slice none 0 0) 24:=S1.of (by kernel_rfl) (by kernel_rfl) rfl
theorem tu(h:NL w Z A n c ss)(hn:n<=1000000)(T:∀x∈ss,x.length<=4096):
 Calls Tryz.prog 69 #[.agg (kt a b s A n c)] w λe w'=>∃v,e=.returned v/\∃A' c',v=.agg (kt a b s A' n c')/\NL w' (up w) A' n c' ss/\Pu w w':=by
 have V:=h.len;refine uH _ _ _ _ _ _ _ _ _ _ _ _ _ ?_;refine mkd λW w1 m=>mkd λan w2 u=>?_;have J:=u.old m.blk;have ne:=u.ne m.blk;have s0:=m.num;have s1:=u.num;have z0:=m.size;have z1:=u.size;have L:Pu w w2:=(show Pu w w1 from m.pu).made u;refine⟨_,_,_,J.at rfl,j3 s1N (by omega) (by omega) (by omega) λg G t=>?_⟩;have M:=t.old J;have c1:=t.old u.blk;have s2:=t.num;have z2:=t.size;rw[Int.toNat_natCast]at t ⊢;have p3:Pu w G:=L.made t;have C:w2.heap.size<=g:=by omega
 have T0:Mid w2 G g n 0 26 ss:=⟨_,t.blk,by simp,λj p y=>absurd y (by omega)⟩;refine⟨_,_,_,M.at rfl,λN i o=>∃k:Nat,i=(k:Int)/\k<=n/\N=n - k/\Mid w2 o g n k 26 ss/\Blk o W _ _/\Blk o an _ _/\G.heap.size<=o.heap.size/\Pu w o,⟨_,0,rfl,Nat.zero_le _,rfl,T0,M,c1,Nat.le_refl _,p3⟩,?_⟩;rintro N _ _ o ⟨k,rfl,hk,rfl,O,Q,R,az,H⟩;refine af (λhb=>?_) (λhb=>?_)
 ·refine(h.pu H).rd (by omega) (by omega) λB t d hi=>?_;rw[Int.toNat_natCast]at hi;have a0:=hi.len;have hlen:=rJ T (j:=k) (by omega);refine(KN hi (by omega)).mono ?_;rintro e w5 ⟨_,rfl,A5,n5,c5,rfl,aA,z⟩;refine⟨_,_,_,rfl,⟨by omega,by omega⟩,ah _ rfl ?_⟩;rw[Int.toNat_natCast,Nat.mul_one];obtain⟨cs,d1,d2,d3⟩:=O.ch z (λ_ _ _ h=>h) C;refine aL d1 (by show k+1<=_;omega) λw6 r=>?_;have D:=r.ch;refine⟨n - (k+1),by omega,k+1,by rw[aa (by omega)];omega,by omega,rfl,⟨_,r.blk,by rw[fe];exact d2,λj p y S=>?_⟩,r.old (Pu.blk z Q) (by omega),r.old (Pu.blk z R) (by omega),Nat.le_trans az (Nat.le_trans z.size D.size),(H.trans z).stored r (.inr (by omega))⟩;rw[dO _ _ _ _ (by show k+1<=_;omega)];rcases Nat.lt_succ_iff_lt_or_eq.1 y with y|rfl
  ·obtain⟨B',m',d',e,aC⟩:=d3 j p y S;rw[if_neg (by omega)];exact⟨B',m',d',e,(aC.ch D λq hq e=>hq.2.1 e).mono λq hq=>⟨hq.1,hq.2.1,Nat.lt_of_lt_of_le hq.2.2 D.size⟩⟩
  ·rw[if_pos ⟨Nat.le_refl _,by simp⟩,Nat.sub_self];have e:p=ss.getD j []:=by rw[List.getD_eq_getElem?_getD,S];rfl
   subst e;refine⟨A5,n5,c5,rfl,(aA.ch D λq hq e=>?_).lt.mono λq hq=>⟨?_,?_,hq.2⟩⟩
   ·have hq:o.heap.size<=q:=hq;omega
   ·have I:o.heap.size<=q:=hq.1;omega
   ·have I:o.heap.size<=q:=hq.1;omega
 ·obtain rfl:k=n:=by omega
  refine aL Q (by show 10+1<=11;omega) λw5 F=>?_;have f:=F.blk;refine⟨_,_,_,_,_,_,_,_,_,_,_,_,_,⟨f.at rfl,f.at rfl,f.at rfl,f.at rfl,f.at rfl,f.at rfl,f.at rfl,f.at rfl,f.at rfl,f.at rfl,f.at rfl⟩,?_⟩;refine aI (F.old R (by omega)) rfl λw6 r=>?_;have l:=r.blk;refine⟨_,_,_,_,_,_,_,_,_,_,_,_,_,⟨l.at rfl,l.at rfl,l.at rfl,l.at rfl,l.at rfl,l.at rfl,l.at rfl,l.at rfl,l.at rfl,l.at rfl,l.at rfl⟩,?_⟩;have aN:=(O.ch F.ch (λq I _ e=>by omega) C).ch r.ch (λq I _ e=>by omega) C;exact⟨_,_,rfl,(aN.nl V C).mono λq hq=>Nat.le_trans L.size hq,(H.stored F (.inr (by omega))).stored r (.inr (by omega))⟩
theorem Jj(h:NL w Z A n c ss)(hn:n<=100000)(hs:∀x∈ss,x.length<=4096):
 Calls Tryz.prog 58 #[.agg (kt a b s A n c)] w λe w'=>∃v,e=.returned v/\∃A' c',v=.agg (kt a b s A' n c')/\NL w' (up w) A' n c' ss/\Pu w w':=by
 have hl:=h.len;refine rj _ _ _ _ _ _ _ _ _ _ _ _ _ ?_;refine mkd λS w1 m=>mkd λT w2 z=>?_;have f:=z.old m.blk;refine⟨_,_,_,_,_,_,_,_,_,_,_,_,_,⟨f.at rfl,f.at rfl,f.at rfl,f.at rfl,f.at rfl,f.at rfl,f.at rfl,f.at rfl,f.at rfl,f.at rfl,f.at rfl⟩,mkd λH r p=>?_⟩;have s0:=m.num;have s1:=z.num;have s2:=p.num;have z0:=m.size;have z1:=z.size;have z2:=p.size;have I:Pu w r:=((show Pu w w1 from m.pu).made z).made p;refine aI p.blk rfl λw4 C=>aL C.blk (by show 10+1<=11;omega) λJ D=>?_;have b5:=D.old (C.old (p.old f) (by omega)) (by omega);have c5:=D.old (C.old (p.old z.blk) (by omega)) (by omega);have d5:Blk J H (kt a b s none 0 0) _:=D.blk.cast rfl;have p5:Pu w J:=(I.stored C (.inr (by omega))).stored D (.inr (by omega));have az:r.heap.size<=J.heap.size:=Nat.le_trans C.ch.size D.ch.size;rintro i0 rfl;refine⟨λV i w'=>∃(k:Nat)(oA:oA)(L:Nat),i=(k:Int)/\k<=n/\V=n - k/\ONL r w' oA k L (ss.take k)/\Blk w' S _ _/\Blk w' T _ _/\Blk w' H (kt a b s oA k L) _/\r.heap.size<=w'.heap.size/\Pu w w',⟨_,0,none,0,rfl,Nat.zero_le _,rfl,ONL.nil,b5,c5,d5,az,p5⟩,?_⟩;rintro V _ _ w6 ⟨k,oA,L,rfl,hk,rfl,G,M,W,d6,N,O⟩;refine⟨_,_,_,M.at rfl,af (λhb=>?_) (λhb=>?_)⟩
 ·refine⟨_,_,_,M.at rfl,(h.pu O).rd (by omega) (by omega) λB p d hi=>?_⟩;rw[Int.toNat_natCast]at hi;have aC:=hi.len;have hlen:=rJ hs (j:=k) (by omega);refine cu (t:=26) (Z:=up w6) oQ OI.nil (Nat.le_refl _) hi (by omega) (by omega) λA7 c7 w7 o7 o=>?_;rw[Nat.zero_add]at o7 ⊢;have o:=Ch.fresh o;refine⟨_,_,_,(Pu.blk o d6).at rfl,mkd λg4 w8 u=>?_⟩;refine(G.pu o).app (Nat.le_trans N o.size) (G.fresh N o7.ints) u (by omega) λA9 c9 w9 an _ F=>?_;have Q:∀q,q<r.heap.size->¬up r q:=λq hq h=>absurd hq (Nat.not_lt.2 h);refine aL (F.blk (u.old (Pu.blk o d6)) (Q H (by omega))) (by show 10+1<=11;omega) λwa y=>?_;rintro i2 rfl;have e:ss.take k++ [([]:List Int)++ss.getD k []]=ss.take (k+1):=by
   rw[List.nil_append,List.take_succ_eq_append_getElem (by omega),List.getD_eq_getElem?_getD,List.getElem?_eq_getElem (by omega)];rfl
  rw[e]at an;have aA:w7.heap.size<=wa.heap.size:=by have:=u.size;have:=F.size;have:=y.ch.size;omega
  exact⟨n - (k+1),by omega,k+1,A9,c9,by rw[aa (by omega)];omega,by omega,rfl,an.ch y.ch (λq h1 _ e=>by omega),y.old (F.blk (u.old (Pu.blk o M)) (Q S (by omega))) (by omega),y.old (F.blk (u.old (Pu.blk o W)) (Q T (by omega))) (by omega),y.blk.cast rfl,Nat.le_trans N (Nat.le_trans o.size aA),
   (((O.trans o).made u).call F λq hq=>.inr (Nat.le_trans I.size hq)).stored y (.inr (by omega))⟩
 ·obtain rfl:k=n:=by omega
  refine⟨_,_,_,_,_,_,_,_,_,_,_,_,_,⟨d6.at rfl,d6.at rfl,d6.at rfl,d6.at rfl,d6.at rfl,d6.at rfl,d6.at rfl,d6.at rfl,d6.at rfl,d6.at rfl,d6.at rfl⟩,?_⟩;refine aI W rfl λw7 R=>?_;have l:=R.blk;refine⟨_,_,_,_,_,_,_,_,_,_,_,_,_,⟨l.at rfl,l.at rfl,l.at rfl,l.at rfl,l.at rfl,l.at rfl,l.at rfl,l.at rfl,l.at rfl,l.at rfl,l.at rfl⟩,?_⟩;rw[List.take_of_length_le (by omega)]at G;exact⟨_,_,rfl,(G.ch R.ch λq h1 _ e=>by omega).nl.mono λq hq=>Nat.le_trans I.size hq.1,O.stored R (.inr (by omega))⟩
end
end Go.Proofs.YtoghdgcmhbanbaaGreatDoor
end
section
namespace Go.Proofs.YtoghdgcmhbanbaaGreatDoor.V
open Go Go.RowKit
open Go.IntKind (i64 u32 u64 wrap_i64 wrap_u32)
variable {w w0 w1 w2 A B:World}{X Y Z:Nat->Prop}
theorem Ch.Js(h:Kept X w A):Ch (λk=>¬X k) w A:=⟨h.mono λ_ d=>Classical.not_not.1 d.2⟩
theorem Pu.join(p:Pu w w0)(d:Kept X w0 A)(j:Ch X w A):Pu w A:=
 ⟨⟨j.kept.os,j.kept.tape,j.kept.output,j.kept.size,λk f=>by
  by_cases h:X k
  ·rw[d.block k h];exact p.kept.block k f
  ·exact j.kept.block k ⟨f.1,h⟩⟩⟩
theorem Pu.put(w:World)(l:Nat)(o:Obj)(X:Nat->Prop)(d:X l):Ch X w (w.putObj l o):=⟨Kept.putObj w l o λh=>h.2 d⟩
theorem Ch.obj {o:Obj}{g:Nat}(q:Ch X w A)(h:w.heap[g]? =some o)(d:¬X g):A.heap[g]? =some o:=
 (q.kept.block g ⟨(Array.getElem?_eq_some_iff.1 h).1,d⟩).trans h
theorem Ff {P:Program}{f:Nat}{cap:Array Value}{xs:Ys}{w:World}(r:∀k,X k->k<w.heap.size)
 (h:∀(l:Nat)(J d:Nat->World->Prop)(W:World),(∀i A B,J i A->Ch X A B->J i B)->(∀i A B,d i A->Ch X A B->d i B)->J 0 W->Kept X w W->(∀i x A,xs.is i x A->J i A->Kept X w A->YieldAt Fence.wide 0 P l ⟨x⟩ A λe B=>(e=.returned (.bool true)/\J (i+1) B/\Kept X A B)\/(e=.returned (.bool false)/\d (i+1) B/\Kept X A B))->Calls P f (#[.func (.yield l) #[] #[]]++cap) W λe B=>(∃v,e=.returned v)/\((J xs.n B/\Kept X w B)\/∃i,d i B/\Kept X w B)):
 Iter P f cap xs X (λ_ A=>Kept X w A):=
 ⟨λ_ _ _ a k=>a.trans k,λl J d W j m o d0 p=>h l J d W (λi A B a q=>j i A B a q.kept) (λi A B a q=>m i A B a q.kept) o d0 p⟩
theorem IX {l:Nat}{J:Nat->World->Prop}(h:∀i A B,J i A->Ch (λk=>X k\/k=l) A B->J i B):Bz X l J:=
 λi A B a k=>h i A B a ⟨k.mono λ_ d=>⟨d.1,λf=>d.2 (.inl f),λe=>d.2 (.inr e)⟩⟩
theorem xq {P:Program}{l:Nat}{args:Array Value}{W:World}{R d:Ending->World->Prop}(h:YieldAt Fence.wide 0 P l args W R)(f:∀e B,R e B->d e B):YieldAt Fence.wide 0 P l args W d:=by
 obtain⟨fn,tmps,assign,body,i,j⟩:=h;exact⟨fn,tmps,assign,body,i,j.mono f⟩
end Go.Proofs.YtoghdgcmhbanbaaGreatDoor.V
end
section
namespace Go.Proofs.YtoghdgcmhbanbaaGreatDoor.V
open Go Go.RowKit Go.MapKept
open Go.IntKind (i64 u32 u64 wrap_i64 wrap_u32)
def vp(w:World)(g:Nat)(l:List (Int×Value)):Prop:=∃es c,w.heap[g]? =some (.map es c)/\es.toList.map (λe=>(e.key,e.val))=l.map λp=>(Value.int .u32 p.1,p.2)
def lkF:List (Int×Value)->Int->Option Value
 | [],_=>none
 |(a,v)::r,i=>if i=a then some v else lkF r i
theorem qz:∀(l:List MapEntry)(m:List (Int×Value))(i:Int)(n:Nat),l.map (λe=>(e.key,e.val))=m.map (λp=>(Value.int .u32 p.1,p.2))->∃k,Instr.findNow (.int .u32) (.int .u32 i) l n=some ((lkF m i).map λv=>(k,v))
 | [],[],i,n,_=>⟨0,rfl⟩
 | [],_::_,i,n,h=>by simp at h
 |_::_,[],i,n,h=>by simp at h
 | e::l,(a,v)::m,i,n,h=>by
  simp only[List.map_cons,List.cons.injEq,Prod.mk.injEq]at h;obtain⟨⟨d,f⟩,j⟩:=h;by_cases hi:i=a
  ·refine⟨n,?_⟩;simp[Instr.findNow,Instr.sameNow,d,lkF,hi,f]
  ·obtain⟨k,o⟩:=qz l m i (n+1) j;refine⟨k,?_⟩;have q:(i==a)=false:=by simpa using hi
   simp[Instr.findNow,Instr.sameNow,d,lkF,hi,o,q]
theorem EU {P:Program}{w:World}{T K E:TypeId}{z:Value}{g:Nat}{l:List (Int×Value)}(f:P.underlying T=some (.map K E))(j:P.underlying K=some (.int .u32))(q:(zeroValue E).run P w=.ok z w)(h:vp w g l)(i:Int):(Instr.lookup T (.map (some g)) (.int .u32 i) true).run P w=.ok (.tuple #[(lkF l i).getD z,.bool (lkF l i).isSome]) w:=by
 obtain⟨es,c,m,he⟩:=h;obtain⟨k,r⟩:=qz es.toList l i 0 he;have d:=run_findKey (w:=w) j r;have o:(Instr.checkKey es.isEmpty 10000 K (.int .u32 i)).run P w=.ok () w:=run_checkKey j (show IsKey (.int .u32) (.int .u32 i)from rfl) _ _;cases p:lkF l i with
 | none=>
  rw[p]at d;simp[Instr.lookup,run_underlying f,MapKept.run_getObj_map m,o,d,q,Result.andThen]
 | some v=>
  rw[p]at d;simp[Instr.lookup,run_underlying f,MapKept.run_getObj_map m,o,d,Result.andThen]
theorem vp.ch {w w':World}{g:Nat}{l:List (Int×Value)}{X:Nat->Prop}(h:vp w g l)(q:Ch X w w')(f:¬X g):vp w' g l:=by
 obtain⟨es,c,d,he⟩:=h;exact⟨es,c,(q.kept.block g ⟨(Array.getElem?_eq_some_iff.1 d).1,f⟩).trans d,he⟩
theorem vp.lt {w:World}{g:Nat}{l:List (Int×Value)}(h:vp w g l):g<w.heap.size:=by
 obtain⟨es,c,d,_⟩:=h;exact(Array.getElem?_eq_some_iff.1 d).1
theorem vp.made(w:World):vp (w.alloc (.map #[] 0)) w.heap.size []:=⟨#[],0,(MapKept.heap_alloc w _).1,rfl⟩
end Go.Proofs.YtoghdgcmhbanbaaGreatDoor.V
end
section
namespace Go.Proofs.YtoghdgcmhbanbaaGreatDoor.V
open Go Go.RowKit
open Go.IntKind (i64 u32 u64 wrap_i64 wrap_u32)
open Enc (enc)
structure Ls(el:Nat->Type) where
 t:Nat
 A:Option Addr
 c:Nat
 l:List (el t)
inductive FV where
 |v (x:Value)|o (path off:Nat)|l (li:Nat)
def fvV {el:Nat->Type}(r:Nat->Nat)(li:Nat->Option (Ls el)):FV->Option Value
 |.v x=>some x
 |.o p off=>some (.pointer (some ⟨r p,off,none⟩))
 | .l i=>match li i with
  |some L=>some (.slice L.A L.l.length L.c)
  |none=>none
structure Uni where
 ty:Nat->Type
 pred:(t:Nat)->(Nat->Nat)->ty t->(Nat->Prop)->World->Prop
 ch:∀ {t:Nat}{r:Nat->Nat}{s:ty t}{X Y:Nat->Prop}{w w':World},pred t r s X w->Ch Y w w'->(∀k,X k->¬Y k)->pred t r s X w'
 lt:∀ {t:Nat}{r:Nat->Nat}{s:ty t}{X:Nat->Prop}{w:World},pred t r s X w->∀k,X k->k<w.heap.size
 el:Nat->Type
 en:(t:Nat)->Enc (el t)
 df:(t:Nat)->el t
 dec:(t:Nat)->List Value->Option (el t)
 fW:∀ {t:Nat}{cs:List Value}{x:el t},dec t cs=some x->(en t).enc x=cs
 cd:TypeId->Option Nat
 li:(t:Nat)->(Nat->Nat)->ty t->Nat->Option (Ls el)
 qt:∀ {t:Nat}{r:Nat->Nat}{s:ty t}{X:Nat->Prop}{w:World}{i:Nat}{L:Ls el},pred t r s X w->li t r s i=some L-> @Rd (el L.t) (en L.t) w X L.A L.l.length L.c L.l
 ne:Nat->Nat->Bool
 DZ:∀ {t:Nat}{r:Nat->Nat}{s:ty t}{X:Nat->Prop}{w:World}{j i:Nat}{L:Ls el}{x:el L.t},pred t r s X w->ne t j=true->li t r s j=some L->L.l[i]? =some x->∃L':Ls el,li t r s (i+1)=some L'/\(en L.t).enc x= [.slice L'.A L'.l.length L'.c]
 fs:(t:Nat)->(Nat->Nat)->ty t->Nat->Nat->Value->Option (Prop×ty t)
 tF:∀ {t:Nat}{r:Nat->Nat}{s s':ty t}{X:Nat->Prop}{w:World}{path off:Nat}{v:Value}{c:Prop},pred t r s X w->fs t r s path off v=some (c,s')->c->∀ {K:World->Prop},(∀w',pred t r s' X w'->Ch X w w'->K w')->ao w ⟨r path,off,none⟩ [v] K
 st:(t:Nat)->(Nat->Nat)->ty t->Nat->Nat->(tt:Nat)->el tt->Option (Prop×ty t)
 pZ:∀ {t:Nat}{r:Nat->Nat}{s s':ty t}{X:Nat->Prop}{w:World}{j i:Nat}{L:Ls el}{x y:el L.t}{off:Nat}{vs:List Value}{c:Prop},pred t r s X w->li t r s j=some L->L.l[i]? =some x->off+vs.length<=(en L.t).size->(en L.t).enc y=((en L.t).enc x).take off++vs++((en L.t).enc x).drop (off+vs.length)->st t r s j i L.t y=some (c,s')->c->∀ {K:World->Prop},(∀w',pred t r s' X w'->Ch X w w'->K w')->ao w (((L.A.getD ⟨0,0,none⟩).add (i*(en L.t).size)).add off) vs K
 iv:Nat->Bool
 inv:(t:Nat)->ty t->Prop
 iB:∀ {t:Nat}{r:Nat->Nat}{s:ty t}{X:Nat->Prop}{w:World},pred t r s X w->inv t s
 fo:(t:Nat)->(Nat->Nat)->ty t->Nat->Nat->Option FV
 tI:∀ {t:Nat}{r:Nat->Nat}{s:ty t}{X:Nat->Prop}{w:World}{path off:Nat}{f:FV}{v:Value},pred t r s X w->fo t r s path off=some f->fvV r (li t r s) f=some v->X (r path)/\w.cell? ⟨r path,off,none⟩=some v
 mp:(t:Nat)->ty t->Option (List (Int×Value))
 D0:∀ {t:Nat}{r:Nat->Nat}{s:ty t}{X:Nat->Prop}{w:World}{l:List (Int×Value)},pred t r s X w->mp t s=some l->vp w (r 0) l
 mko:TypeId->List Value->Option ((t:Nat)×ty t)
 xQ:∀ {T:TypeId}{cs:List Value}{q:(t:Nat)×ty t}{w:World}{g:Nat},mko T cs=some q->Blk w g ⟨cs⟩ T->pred q.1 (λ_=>g) q.2 (λk=>k=g) w
 ix:Nat->Nat->Nat->Option Nat
 qv:∀ {t:Nat}{r:Nat->Nat}{s:ty t}{path off i:Nat}{L:Ls el},ix t path off=some i->li t r s i=some L->L.A=some ⟨r path,off,none⟩
 wl:(t:Nat)->(Nat->Nat)->ty t->Nat->Nat->Nat->Option (Prop×List Value)
 sq:∀ {t:Nat}{r:Nat->Nat}{s:ty t}{X:Nat->Prop}{w:World}{path off n:Nat}{c:Prop}{cs:List Value},pred t r s X w->wl t r s path off n=some (c,cs)->c->X (r path)/\∀j u,cs[j]? =some u->w.cell? ⟨r path,off+j,none⟩=some u
 ws:(t:Nat)->(Nat->Nat)->ty t->Nat->Nat->List Value->Option (Prop×ty t)
 pV:∀ {t:Nat}{r:Nat->Nat}{s s':ty t}{X:Nat->Prop}{w:World}{path off:Nat}{vs:List Value}{c:Prop},pred t r s X w->ws t r s path off vs=some (c,s')->c->∀ {K:World->Prop},(∀w',pred t r s' X w'->Ch X w w'->K w')->ao w ⟨r path,off,none⟩ vs K
instance (U:Uni)(t:Nat):Enc (U.el t):=U.en t
inductive PK where
 |loc (id off:Nat)|obj (id path off:Nat)|sl (id li:Nat)|el (id li:Nat)(i:Int)(off:Nat)
inductive Kn where
 |p (k:PK)|t (l:List (Option PK))|f (a b:List (Option PK))|ag (l:List (Option PK))|pan|w (k:PK)(n:Nat)
inductive Key where
 |s (i:Nat)|c (id off:Nat)|l (id path:Nat)
inductive Res (U:Uni) where
 |blk (g:Nat)(cs:List Value)(T:TypeId)
 |ob (t:Nat)(r:Nat->Nat)(s:U.ty t)
 |lst (t:Nat)(own:Bool)(T:TypeId)(A:Option Addr)(c:Nat)(l:List (U.el t))
structure St(U:Uni) where
 rs:List (Res U)
 kn:List (Key×Kn)
 md:List Nat
def nth {α:Type}:List α->Nat->Option α
 | [],_=>none
 |a::_,0=>some a
 |_::l,n+1=>nth l n
def bK {α:Type}:List α->Nat->α->List α
 | [],_,_=>[]
 |_::l,0,x=>x::l
 |a::l,n+1,x=>a::bK l n x
theorem aZ {α:Type}:∀ {l:List α}{i:Nat}{x:α},nth l i=some x->i<l.length
 |_::_,0,_,_=>by simp
 |_::l,i+1,x,h=>by have:=aZ (l:=l) h;simp;omega
theorem bW {α:Type}:∀ {l:List α}{i:Nat},i<l.length->∃x,nth l i=some x
 |a::_,0,_=>⟨a,rfl⟩
 |_::l,i+1,h=>bW (l:=l) (by simpa using h)
theorem tq {α:Type}:∀ {l:List α}{i:Nat},l.length<=i->nth l i=none
 | [],_,_=>rfl
 |_::l,i+1,h=>tq (l:=l) (by simpa using h)
@[simp] theorem sQ {α:Type}:∀(l:List α)(i:Nat)(x:α),(bK l i x).length=l.length
 | [],_,_=>rfl
 |_::_,0,_=>rfl
 |_::l,i+1,x=>by simp[bK,sQ l i x]
theorem bh {α:Type}:∀(l:List α)(i j:Nat)(x:α),nth (bK l i x) j=if j=i/\i<l.length then some x else nth l j
 | [],i,j,x=>by simp[bK,nth]
 |a::l,0,0,x=>by simp[bK,nth]
 |a::l,0,j+1,x=>by simp[bK,nth]
 |a::l,i+1,0,x=>by simp[bK,nth]
 |a::l,i+1,j+1,x=>by simp[bK,nth,bh l i j x]
theorem bp {α:Type}:∀(l m:List α)(i:Nat),nth (l++m) i=if i<l.length then nth l i else nth m (i - l.length)
 | [],m,i=>by simp
 |a::l,m,0=>by simp[nth]
 |a::l,m,i+1=>by simp[nth,bp l m i]
theorem aO {α:Type}:∀(l:List α)(i:Nat),nth l i=l[i]?
 | [],_=>rfl
 |_::_,0=>rfl
 |_::l,i+1=>by simp[nth,aO l i]
section
variable {U:Uni}
def elA(U:Uni)(t:Nat)(A:Option Addr)(i:Int)(off:Nat):Addr:=((A.getD ⟨0,0,none⟩).add (i.toNat *(U.en t).size)).add off
def yf:List (Res U)->Prop->Prop
 | [],F=>F
 | .ob t _ s::l,F=>match U.iv t with
  |true=>U.inv t s->yf l F
  |false=>yf l F
 |_::l,F=>yf l F
def nmL:List (Res U)->List Nat->(List (Res U)->Prop)->Prop
 |rs,[],F=>F rs
 | rs,i::l,F=>match nth rs i with
  | some (.ob t r s)=>∀d:U.ty t,d=s->(match U.iv t with
   |true=>U.inv t d->nmL (bK rs i (.ob t r d)) l F
   |false=>nmL (bK rs i (.ob t r d)) l F)
  |some (.lst t own T A c x)=>∀f:List (U.el t),f=x->nmL (bK rs i (.lst t own T A c f)) l F
  |_=>nmL rs l F
def upto:Nat->Nat->List Nat
 |_,0=>[]
 |n,k+1=>n::upto (n+1) k
def Gx(rs:List (Res U)):List Nat->List (Res U)
 | []=>[]
 | i::l=>match nth rs i with
  |some r=>r::Gx rs l
  |none=>Gx rs l
def fQ:Res U->Nat->Option (Ls U.el)
 |.lst t _ _ A c l,_=>some ⟨t,A,c,l⟩
 |.ob t r s,i=>U.li t r s i
 |_,_=>none
def bE(U:Uni):PK->Option (Res U)->Option Value
 |.loc _ off,some (.blk g _ _)=>some (.pointer (some ⟨g,off,none⟩))
 |.obj _ path off,some (.ob _ r _)=>some (.pointer (some ⟨r path,off,none⟩))
 | .sl _ li,some r=>(match fQ r li with
  |some L=>some (.slice L.A L.l.length L.c)
  |none=>none)
 | .el _ li i off,some r=>(match fQ r li with
  |some L=>if 0<=i/\i<L.l.length then some (.pointer (some (elA U L.t L.A i off)))else none
  |none=>none)
 |_,_=>none
def PK.id:PK->Nat
 |.loc i _=>i
 |.obj i _ _=>i
 |.sl i _=>i
 |.el i _ _ _=>i
def den(U:Uni)(rs:List (Res U))(k:PK):Option Value:=bE U k (nth rs k.id)
def iJ(rs:List (Res U))(v:Value):Kn->Prop
 |.p k=>den U rs k=some v
 |.t l=>∃vs,v=.tuple vs/\∀j k,nth l j=some (some k)->∃u,vs[j]? =some u/\den U rs k=some u
 |.pan=>False
 |.w k n=>∃a c,den U rs k=some (.pointer (some a))/\v=.slice (some a) n c
 |.ag l=>∃cs,v=.agg cs/\∀j k,nth l j=some (some k)->∃u,cs[j]? =some u/\den U rs k=some u
 |.f a b=>∃f fs cs,v=.func f fs cs/\(a.length=fs.size/\b.length=cs.size)/\(∀j k,nth a j=some (some k)->∃u,fs[j]? =some u/\den U rs k=some u)/\(∀j k,nth b j=some (some k)->∃u,cs[j]? =some u/\den U rs k=some u)
def KnO(rs:List (Res U))(v:Value):Option Kn->Prop
 |none=>True
 |some k=>iJ rs v k
def fN(rs:List (Res U))(fr:Fr):Key->Kn->Prop
 |.s i,k=>iJ rs (lk fr.g i fr.e) k
 |.c id off,k=>∃g cs T v,nth rs id=some (.blk g cs T)/\nth cs off=some v/\iJ rs v k
 |.l id path,k=>∃t r s,nth rs id=some (.ob t r s)/\iJ rs (.pointer (some ⟨r path,0,none⟩)) k
def aH(rs:List (Res U))(fr:Fr)(kn:List (Key×Kn)):Prop:=∀key k,(key,k)∈kn->fN rs fr key k
def RS(X:Nat->Prop)(w:World):Res U->Prop
 |.blk g cs T=>X g/\(∀k,X k->k=g)/\Blk w g ⟨cs⟩ T
 |.ob t r s=>U.pred t r s X w
 |.lst _ true T A c l=>Own w X T A l.length c l/\∀k,X k->k<w.heap.size
 |.lst _ false _ A c l=>Rd w X A l.length c l
theorem RS.lt {X:Nat->Prop}{w:World}{r:Res U}(h:RS X w r):∀k,X k->k<w.heap.size:=by
 cases r with
 |blk g cs T=>intro k d;rw[h.2.1 k d];exact h.2.2.lt
 |ob t r s=>exact U.lt h
 |lst t own T A c l=>cases own;exact(show Rd w X A l.length c l from h).lt;exact h.2
theorem RS.ch {X Y:Nat->Prop}{w w':World}{r:Res U}(h:RS X w r)(q:Ch Y w w')(d:∀k,X k->¬Y k):RS X w' r:=by
 cases r with
 |blk g cs T=>exact⟨h.1,h.2.1,q.blk h.2.2 (d g h.1)⟩
 |ob t r s=>exact U.ch h q d
 | lst t own T A c l=>
  cases own
  ·exact(show Rd w X A l.length c l from h).ch q d
  ·exact⟨h.1.ch q d,λk f=>Nat.lt_of_lt_of_le (h.2 k f) q.size⟩
theorem jE:∀ {l:List (Res U)}{F:Prop},(∀r,r∈l->∃(X:Nat->Prop)(w:World),RS X w r)->yf l F->F
 | [],F,_,h=>h
 | .ob t r s::l,F,d,h=>by
  unfold yf at h;have i:=λx f=>d x (List.mem_cons_of_mem _ f);split at h
  ·obtain⟨X,w,hw⟩:=d _ (List.mem_cons_self ..);exact jE i (h (U.iB hw))
  ·exact jE i h
 |.blk _ _ _::l,F,d,h=>jE (l:=l) (λx f=>d x (List.mem_cons_of_mem _ f)) h
 |.lst _ _ _ _ _ _::l,F,d,h=>jE (l:=l) (λx f=>d x (List.mem_cons_of_mem _ f)) h
theorem oS {α:Type}:∀ {l:List α}{i:Nat}{x:α},nth l i=some x->bK l i x=l
 | [],_,_,h=>by simp[nth]at h
 |a::l,0,x,h=>by simp[nth]at h;subst h;rfl
 |a::l,i+1,x,h=>by simp only[bK];rw[oS (l:=l) h]
theorem lT {rs:List (Res U)}(d:∀i r,nth rs i=some r->∃(X:Nat->Prop)(w:World),RS X w r):∀ {l:List Nat}{F:List (Res U)->Prop},nmL rs l F->F rs
 | [],F,h=>h
 | i::l,F,h=>by
  unfold nmL at h;split at h
  ·rename_i t r s f;have h:=h s rfl;rw[oS f]at h;split at h
   ·obtain⟨X,w,hw⟩:=d i _ f;exact lT d (h (U.iB hw))
   ·exact lT d h
  ·rename_i t own T A c x f;have h:=h x rfl;rw[oS f]at h;exact lT d h
  ·exact lT d h
theorem sU {rs:List (Res U)}{r:Res U}:∀ {l:List Nat},r∈Gx rs l->∃i,nth rs i=some r
 | i::l,h=>by
  unfold Gx at h;split at h
  ·rename_i x d;rcases List.mem_cons.1 h with e|h
   ·exact⟨i,by rw[d,e]⟩
   ·exact sU h
  ·exact sU h
structure Sat(rs:List (Res U))(X:Nat->Nat->Prop)(w:World):Prop where
 res:∀i r,nth rs i=some r->RS (X i) w r
 dis:∀i j,i<rs.length->j<rs.length->i≠j->∀k,X i k->¬X j k
theorem Sat.lt {rs:List (Res U)}{X:Nat->Nat->Prop}{w:World}(h:Sat rs X w){i:Nat}(hi:i<rs.length):∀k,X i k->k<w.heap.size:=by
 obtain⟨r,d⟩:=bW hi;exact(h.res i r d).lt
structure Inv(w0:World)(k0:Nat)(X0:Nat->Nat->Prop)(may:List Nat)(rs:List (Res U))(X:Nat->Nat->Prop)(w:World):Prop where
 sat:Sat rs X w
 ch:Ch (λk=>∃j,j∈may/\X0 j k) w0 w
 old:∀i,i<k0->∀k,X i k->X0 i k\/w0.heap.size<=k
 new:∀i,k0<=i->i<rs.length->∀k,X i k->w0.heap.size<=k
 len:k0<=rs.length
variable {w0:World}{k0:Nat}{X0:Nat->Nat->Prop}{may:List Nat}{rs:List (Res U)}{X:Nat->Nat->Prop}{w w':World}
theorem Inv.step(h:Inv w0 k0 X0 may rs X w)(M:List Nat)(q:Ch (λk=>∃j,j∈M/\X j k) w w')(D:∀j,j∈M->j<rs.length/\(j∈may\/k0<=j)){rs':List (Res U)}{o:Nat->Nat->Prop}(I:rs.length<=rs'.length)
 (u:∀i,i<rs.length->i ∉ M->nth rs' i=nth rs i/\o i=X i)
 (hm:∀i,(i∈M\/rs.length<=i)->∀r,nth rs' i=some r->RS (o i) w' r)
 (F:∀i,i∈M->∀k,o i k->X i k\/w.heap.size<=k)(J:∀i,rs.length<=i->i<rs'.length->∀k,o i k->w.heap.size<=k)
 (hd:∀i j,(i∈M\/rs.length<=i)->(j∈M\/rs.length<=j)->i≠j->i<rs'.length->j<rs'.length->∀k,o i k->¬o j k):Inv w0 k0 X0 may rs' o w':=by
 have hw:=h.ch.size;have low:∀i,i<rs.length->i ∉ M->∀k,o i k->k<w.heap.size:=λi hi hm k d=>h.sat.lt hi k (by rw[(u i hi hm).2]at d;exact d);have apart:∀i j,i<rs.length->i ∉ M->(j∈M\/rs.length<=j)->j<rs'.length->i≠j->∀k,o i k->¬o j k:=by
  intro i j hi L l O v k d x;have I:=low i hi L k d;rw[(u i hi L).2]at d;by_cases G:j∈M
  ·rcases F j G k x with m|m
   ·exact h.sat.dis i j hi (D j G).1 v k d m
   ·omega
  ·have:=J j (by rcases l with l|l;exact absurd l G;exact l) O k x;omega
 refine⟨⟨λi r H=>?_,λi j hi l v k d=>?_⟩,?_,λi hi k d=>?_,λi hi Q k d=>?_,Nat.le_trans h.len I⟩
 ·by_cases f:i<rs.length/\i ∉ M
  ·obtain⟨R,S⟩:=u i f.1 f.2;rw[R]at H;rw[S];exact(h.sat.res i r H).ch q λk d ⟨j,l,x⟩=>h.sat.dis i j f.1 (D j l).1 (λe=>f.2 (e▸l)) k d x
  ·exact hm i (by by_cases hi:i∈M;exact .inl hi;exact .inr (Nat.le_of_not_lt λp=>f ⟨p,hi⟩)) r H
 ·by_cases y:i<rs.length/\i ∉ M
  ·by_cases t:j<rs.length/\j ∉ M
   ·rw[(u i y.1 y.2).2]at d;rw[(u j t.1 t.2).2];exact h.sat.dis i j y.1 t.1 v k d
   ·exact apart i j y.1 y.2 (by by_cases hi:j∈M;exact .inl hi;exact .inr (Nat.le_of_not_lt λp=>t ⟨p,hi⟩)) l v k d
  ·have N:i∈M\/rs.length<=i:=by by_cases hi:i∈M;exact .inl hi;exact .inr (Nat.le_of_not_lt λp=>y ⟨p,hi⟩)
   by_cases t:j<rs.length/\j ∉ M
   ·exact λx=>apart j i t.1 t.2 N hi (Ne.symm v) k x d
   ·exact hd i j N (by by_cases hi:j∈M;exact .inl hi;exact .inr (Nat.le_of_not_lt λp=>t ⟨p,hi⟩)) v hi l k d
 ·refine h.ch.call q ?_;rintro k ⟨j,l,d⟩;obtain⟨m,C⟩:=D j l;rcases Nat.lt_or_ge j k0 with f|f
  ·rcases C with C|C
   ·exact(h.old j f k d).imp (λp=>⟨j,C,p⟩) id
   ·omega
  ·exact .inr (h.new j f m k d)
 ·by_cases z:i∈M
  ·rcases F i z k d with m|m
   ·exact h.old i hi k m
   ·exact .inr (Nat.le_trans hw m)
  ·rw[(u i (Nat.lt_of_lt_of_le hi h.len) z).2]at d;exact h.old i hi k d
 ·by_cases f:i<rs.length
  ·by_cases z:i∈M
   ·rcases F i z k d with m|m
    ·exact h.new i hi f k m
    ·exact Nat.le_trans hw m
   ·rw[(u i f z).2]at d;exact h.new i hi f k d
  ·exact Nat.le_trans hw (J i (Nat.le_of_not_lt f) Q k d)
def jP(X:Nat->Nat->Prop)(i:Nat)(Z:Nat->Prop):Nat->Nat->Prop:=λj=>if j=i then Z else X j
theorem updX_eq(X:Nat->Nat->Prop)(i:Nat)(Z:Nat->Prop):jP X i Z i=Z:=if_pos rfl
theorem iM(X:Nat->Nat->Prop){i j:Nat}(Z:Nat->Prop)(h:j≠i):jP X i Z j=X j:=if_neg h
theorem Inv.pu(h:Inv w0 k0 X0 may rs X w)(q:Pu w w'):Inv w0 k0 X0 may rs X w':=
 h.step [] (q.mono λ_ h=>h.elim) (λj d=>by cases d) (Nat.le_refl _) (λi _ _=>⟨rfl,rfl⟩) (λi hi r f=>by
  rcases hi with hi|hi
  ·cases hi
  ·have:=aZ f;omega) (λi hi=>by cases hi) (λi k l=>by omega) (λi j hi d _ k _=>by
  rcases hi with hi|hi
  ·cases hi
  ·omega)
theorem Inv.more(h:Inv w0 k0 X0 may rs X w)(q:Pu w w'){r:Res U}{Z:Nat->Prop}(p:RS Z w' r)(t:∀k,Z k->w.heap.size<=k):Inv w0 k0 X0 may (rs++ [r]) (jP X rs.length Z) w':=
 h.step [] (q.mono λ_ h=>h.elim) (λj d=>by cases d) (by simp) (λi hi _=>⟨by rw[bp,if_pos hi],iM _ _ (by omega)⟩) (λi hi r' l=>by
  rcases hi with hi|hi
  ·cases hi
  ·have f:=aZ l;simp at f;obtain rfl:i=rs.length:=by omega
   rw[bp,if_neg (by omega),Nat.sub_self]at l;obtain rfl:r=r':=by simpa[nth]using l
   rw[updX_eq];exact p) (λi hi=>by cases hi) (λi f m k o=>by
  simp at m;obtain rfl:i=rs.length:=by omega
  rw[updX_eq]at o;exact t k o) (λi j hi d u f m=>by
  simp at f m;rcases hi with hi|hi
  ·cases hi
  ·rcases d with d|d
   ·cases d
   ·omega)
theorem Inv.set(h:Inv w0 k0 X0 may rs X w){i:Nat}(hi:i<rs.length)(u:i∈may\/k0<=i)(q:Ch (X i) w w'){r:Res U}{Z:Nat->Prop}(v:RS Z w' r)(x:∀k,Z k->X i k\/w.heap.size<=k):Inv w0 k0 X0 may (bK rs i r) (jP X i Z) w':=
 h.step [i] (q.mono λk m=>⟨i,by simp,m⟩) (λj d=>by simp at d;subst d;exact⟨hi,u⟩) (by simp) (λj d p=>by
  simp at p;exact⟨by rw[bh,if_neg (by rintro⟨e,_⟩;exact p e)],iM _ _ p⟩) (λj d r' f=>by
  have o:=aZ f;simp at o d;obtain rfl:j=i:=by omega
  rw[bh,if_pos ⟨rfl,hi⟩]at f;injection f with f
  subst f;rw[updX_eq];exact v) (λj d k m=>by
  simp at d;subst d;rw[updX_eq]at m;exact x k m) (λj o t=>by simp at t;omega) (λj l d y z o t=>by
  simp at d y o t;omega)
end
end Go.Proofs.YtoghdgcmhbanbaaGreatDoor.V
end
section
namespace Go.Proofs.YtoghdgcmhbanbaaGreatDoor.V
open Go Go.RowKit
open Go.IntKind (i64 u32 u64 wrap_i64 wrap_u32)
open Enc (enc)
def PK.eq:PK->PK->Bool
 |.loc a b,.loc x y=>Nat.beq a x && Nat.beq b y
 |.obj a b c,.obj x y z=>Nat.beq a x && (Nat.beq b y && Nat.beq c z)
 |.sl a b,.sl x y=>Nat.beq a x && Nat.beq b y
 |_,_=>false
def Kn.eq:Kn->Kn->Bool
 |.p a,.p b=>a.eq b
 |_,_=>false
def Key.eq:Key->Key->Bool
 |.s a,.s b=>Nat.beq a b
 |.c a b,.c x y=>Nat.beq a x && Nat.beq b y
 |.l a b,.l x y=>Nat.beq a x && Nat.beq b y
 |_,_=>false
def cr(key:Key):List (Key×Kn)->Option Kn
 | []=>none
 | (a,k)::r=>match a.eq key with
  |true=>some k
  |false=>cr key r
def dS(f:Key->Kn->Bool):List (Key×Kn)->List (Key×Kn)
 | []=>[]
 | (a,k)::r=>match f a k with
  |true=>(a,k)::dS f r
  |false=>dS f r
def Al(key:Key)(o:Option Kn)(l:List (Key×Kn)):List (Key×Kn):=
 match o with
 |none=>dS (λa _=>!(a.eq key)) l
 |some k=>(key,k)::dS (λa _=>!(a.eq key)) l
def Key.rM(id off n:Nat):Key->Bool
 |.c i o=>Nat.beq i id && (Nat.ble off o && Nat.blt o (off+n))
 |_=>false
def PK.ofList(id:Nat):PK->Bool
 |.sl i _=>Nat.beq i id
 |.el i _ _ _=>Nat.beq i id
 |_=>false
def vX(id:Nat):Option PK->Bool
 |none=>false
 |some k=>k.ofList id
def mr {α:Type}(f:α->Bool):List α->Bool
 | []=>false
 | a::r=>match f a with
  |true=>true
  |false=>mr f r
def Kn.ofList(id:Nat):Kn->Bool
 |.p k=>k.ofList id
 |.t l=>mr (vX id) l
 |.ag l=>mr (vX id) l
 |.pan=>false
 |.w k _=>k.ofList id
 | .f a b=>match mr (vX id) a with
  |true=>true
  |false=>mr (vX id) b
def LY:Option Kn->Nat->Option PK
 | some (.ag l),i=>(match nth l i with
  |some o=>o
  |none=>none)
 |_,_=>none
def ym(id:Nat):Nat->List (Option PK)->List (Key×Kn)
 |_,[]=>[]
 |o,none::r=>ym id (o+1) r
 |o,some p::r=>(.c id o,.p p)::ym id (o+1) r
def cellsOf(id off:Nat)(sc:Bool):Option Kn->List (Key×Kn)
 |none=>[]
 |some .pan=>[]
 |some (.w _ _)=>[]
 |some (.ag l)=>ym id off l
 | some (.p p)=>(match sc with
  |true=>[(.c id off,.p p)]
  |false=>[])
 | some (.t l)=>(match sc with
  |true=>[(.c id off,.t l)]
  |false=>[])
 | some (.f a b)=>(match sc with
  |true=>[(.c id off,.f a b)]
  |false=>[])
def jm:Option Kn->Option PK
 |some (.p k)=>some k
 |_=>none
def kf(kn:List (Key×Kn)):Operand->Option Kn
 |.tmp t=>cr (.s t) kn
 |_=>none
inductive CP where
 |int (k:IntKind)|bool|str|any|hdr|nsl|nil|fn (k:Nat)|ptr (j:Nat)|obj (j path:Nat)|sl (j:Nat)
def CP.T:CP->Type->Type
 |.int _,T=>Int->T
 |.bool,T=>Bool->T
 |.str,T=>ByteArray->T
 |.any,T=>Value->T
 |.hdr,T=>Option Addr->Nat->Nat->T
 |_,T=>T
def Dy:List CP->Type->Type
 | [],T=>T
 |c::l,T=>c.T (Dy l T)
inductive AP where
 |one (c:CP)|agg (l:List CP)|enc (tt:Nat)
def AP.T(U:Uni):AP->Type->Type
 |.one c,T=>c.T T
 |.agg l,T=>Dy l T
 |.enc tt,T=>U.el tt->T
def DA(U:Uni):List AP->Type->Type
 | [],T=>T
 |a::l,T=>a.T U (DA U l T)
inductive RP where
 |ob (t:Nat)(lk:List (Nat×Nat×Nat))|blk (l:List CP)(T:TypeId)|lst (t:Nat)(own:Bool)(T:TypeId)
def RP.T(U:Uni):RP->Type->Type
 |.ob t _,T=>(Nat->Nat)->U.ty t->T
 |.blk l _,T=>Nat->Dy l T
 |.lst t _ _,T=>Option Addr->Nat->List (U.el t)->T
def FZ(U:Uni):List RP->Type->Type
 | [],T=>T
 |p::l,T=>p.T U (FZ U l T)
inductive Upd (U:Uni) where
 |ob (t:Nat)(s:U.ty t)|blk (cs:List Value)|lst (t:Nat)(A:Option Addr)(c:Nat)(l:List (U.el t))
structure Ou(U:Uni) where
 res:Value
 kr:Option Kn
 upd:List (Upd U)
 news:List (Res U)
 kc:List (Key×Kn)
structure Ctr(U:Uni) where
 args:List AP
 imp:List (Nat×Nat)
 res:List RP
 bB:List Nat
 body:DA U args (FZ U res ((Ou U->Prop)->Prop))
structure Tb(U:Uni) where
 c:Nat->Option (Ctr U)
 sh:Sh
 al:List (Nat×List PK×List PK)
abbrev Th:=List (Nat×Nat)
def cq:Th->Nat->Option Nat
 | [],_=>none
 | (j,i)::r,k=>match Nat.beq j k with
  |true=>some i
  |false=>cq r k
def mP(j id:Nat)(θ:Th)(F:Th->Prop):Prop:=
 match cq θ j with
 |none=>F ((j,id)::θ)
 | some i=>match Nat.beq i id with
  |true=>F θ
  |false=>False
def apC {T:Type}:(c:CP)->c.T T->Value->Option PK->Th->(T->Th->Prop)->Prop
 | .int k,J,v,_,θ,F=>match v with
  | .int k' x=>match kEq k k' with
   |true=>F (J x) θ
   |false=>False
  |_=>False
 | .bool,J,v,_,θ,F=>match v with
  |.bool x=>F (J x) θ
  |_=>False
 | .str,J,v,_,θ,F=>match v with
  |.string x=>F (J x) θ
  |_=>False
 |.any,J,v,_,θ,F=>F (J v) θ
 | .hdr,J,v,_,θ,F=>match v with
  |.slice A n c=>F (J A n c) θ
  |_=>False
 | .nsl,J,v,_,θ,F=>match v with
  |.slice none 0 0=>F J θ
  |_=>False
 | .nil,J,v,_,θ,F=>match v with
  |.pointer none=>F J θ
  |_=>False
 | .fn f,J,v,_,θ,F=>match v with
  | .func (.func d) ⟨[]⟩ ⟨[]⟩=>(match Nat.beq f d with
   |true=>F J θ
   |false=>False)
  |_=>False
 | .ptr j,J,_,k,θ,F=>match k with
  |some (.loc id 0)=>mP j id θ (F J)
  |_=>False
 | .obj j path,J,_,k,θ,F=>match k with
  | some (.obj id p 0)=>match Nat.beq p path with
   |true=>mP j id θ (F J)
   |false=>False
  |_=>False
 | .sl j,J,_,k,θ,F=>match k with
  |some (.sl id 0)=>mP j id θ (F J)
  |_=>False
def J6 {T:Type}:(l:List CP)->Dy l T->List Value->(Nat->Option PK)->Nat->Th->(T->Th->Prop)->Prop
 | [],J,[],_,_,θ,F=>F J θ
 |c::l,J,v::vs,kc,i,θ,F=>apC c J v (kc i) θ λd f=>J6 l d vs kc (i+1) f F
 |_,_,_,_,_,_,_=>False
def apA {U:Uni}{T:Type}:(a:AP)->a.T U T->Value->Option Kn->Th->(T->Th->Prop)->Prop
 |.one c,J,v,k,θ,F=>apC c J v (jm k) θ F
 | .agg l,J,v,k,θ,F=>match v with
  |.agg cs=>J6 l J cs.toList (LY k) 0 θ F
  |_=>False
 | .enc tt,J,v,_,θ,F=>match v with
  | .agg cs=>(match U.dec tt cs.toList with
   |some x=>F (J x) θ
   |none=>False)
  |_=>False
def Ba {U:Uni}{T:Type}:(l:List AP)->DA U l T->List Value->List (Option Kn)->Th->(T->Th->Prop)->Prop
 | [],J,[],_,θ,F=>F J θ
 |a::l,J,v::vs,k::d,θ,F=>apA a J v k θ λf h=>Ba l f vs d h F
 |_,_,_,_,_,_=>False
def J5:List (Nat×Nat×Nat)->(Nat->Option PK)->Th->(Th->Prop)->Prop
 | [],_,θ,F=>F θ
 | (p,j,q)::l,d,θ,F=>match d p with
  | some (.obj i q' 0)=>(match Nat.beq q' q with
   |true=>mP j i θ λf=>J5 l d f F
   |false=>False)
  |_=>False
def apR {U:Uni}{T:Type}:(p:RP)->p.T U T->Option (Res U)->(Nat->Option PK)->(Nat->Option PK)->Th->(T->Th->Prop)->Prop
 |.ob t lk,J,some (.ob d r s),_,i,θ,F=>if h:d=t then J5 lk i θ λj=>F (J r (h▸s)) j else False
 | .blk l T,J,some (.blk g cs f),kc,_,θ,F=>match Nat.beq f T with
  |true=>J6 l (J g) cs kc 0 θ F
  |false=>False
 | .lst t own T,J,some (.lst d k f A c l),_,_,θ,F=>match (!own || (k && Nat.beq f T))with
  |true=>if h:d=t then F (J A c (h▸l)) θ else False
  |false=>False
 |_,_,_,_,_,_,_=>False
def J0 {U:Uni}{T:Type}(rs:List (Res U))(kn:List (Key×Kn)):(l:List RP)->FZ U l T->Nat->Th->(T->Th->Prop)->Prop
 | [],J,_,θ,F=>F J θ
 | p::l,J,j,θ,F=>match cq θ j with
  |some id=>apR p J (nth rs id) (λo=>jm (cr (.c id o) kn)) (λp=>jm (cr (.l id p) kn)) θ λd f=>J0 rs kn l d (j+1) f F
  |none=>False
def CG {U:Uni}(t:Nat):List (Res U)->Nat->Option Nat
 | [],_=>none
 | .ob d _ _::r,i=>match CG t r (i+1)with
  |some j=>some j
  | none=>match Nat.beq d t with
   |true=>some i
   |false=>none
 |_::r,i=>CG t r (i+1)
def Ev {U:Uni}(rs:List (Res U)):List (Nat×Nat)->Th->(Th->Prop)->Prop
 | [],θ,F=>F θ
 | (j,t)::l,θ,F=>match CG t rs 0 with
  |some id=>mP j id θ λd=>Ev rs l d F
  |none=>False
def k9(x:Nat):List Nat->Bool
 | []=>false
 | y::r=>match Nat.beq y x with
  |true=>true
  |false=>k9 x r
def po:List Nat->Bool
 | []=>true
 | x::r=>match k9 x r with
  |true=>false
  |false=>po r
def iA {α β:Type}(f:α->Option β):List α->Option (List β)
 | []=>some []
 | a::r=>match f a,iA f r with
  |some b,some d=>some (b::d)
  |_,_=>none
def dI {U:Uni}:Res U->Upd U->Option (Res U)
 |.ob t r _,.ob d i=>if h:d=t then some (.ob t r (h▸i))else none
 | .blk g cs T,.blk f=>match Nat.beq f.length cs.length with
  |true=>some (.blk g f T)
  |false=>none
 |.lst t own T _ _ _,.lst d A c l=>if h:d=t then some (.lst t own T A c (h▸l))else none
 |_,_=>none
def bH {U:Uni}:List (Res U)->List Nat->List (Upd U)->Option (List (Res U))
 |rs,[],[]=>some rs
 | rs,i::is,u::us=>match nth rs i with
  | some r=>match dI r u with
   |some r'=>bH (bK rs i r') is us
   |none=>none
  |none=>none
 |_,_,_=>none
def ef:List Nat->List (Key×Kn)->List (Key×Kn)
 | [],kn=>kn
 |i::r,kn=>ef r (dS (λa k=>!(k.ofList i) && (match a with|.c id _=>!(Nat.beq id i)|_=>true)) kn)
def DF(θ:Th)(k n j:Nat):Option Nat:=
 match Nat.blt j k with
 |true=>cq θ j
 |false=>some (n+(j - k))
def PK.ren(f:Nat->Option Nat):PK->Option PK
 |.loc i o=>(f i).map (.loc · o)
 |.obj i p o=>(f i).map (.obj · p o)
 |.sl i l=>(f i).map (.sl · l)
 |.el i l x o=>(f i).map (.el · l x o)
def tl(f:Nat->Option Nat):Option PK->Option PK
 |none=>none
 |some k=>k.ren f
def Uni.ix1(U:Uni)(rs:List (Res U))(id path off:Nat):Option Nat:=match nth rs id with
 |some (.ob tt _ _)=>U.ix tt path off
 |_=>none
def aM {α β:Type}(f:α->β):List α->List β
 | []=>[]
 |a::r=>f a::aM f r
def Kn.ren(f:Nat->Option Nat):Kn->Option Kn
 |.p k=>(k.ren f).map .p
 |.t l=>some (.t (aM (tl f) l))
 |.ag l=>some (.ag (aM (tl f) l))
 |.f a b=>some (.f (aM (tl f) a) (aM (tl f) b))
 |.pan=>some .pan
 |.w k n=>(k.ren f).map (.w · n)
def D9(f:Nat->Option Nat):Option Kn->Option Kn
 |none=>none
 |some k=>k.ren f
def kp(f:Nat->Option Nat):List (Key×Kn)->List (Key×Kn)
 | []=>[]
 | (.c i o,k)::r=>match f i,k.ren f with
  |some d,some k'=>(.c d o,k')::kp f r
  |_,_=>kp f r
 | (.l i o,k)::r=>match f i,k.ren f with
  |some d,some k'=>(.l d o,k')::kp f r
  |_,_=>kp f r
 |_::r=>kp f r
section
variable (U:Uni)(P:Program)(tbl:Tb U)(may:List Nat)(k0:Nat)
abbrev dL:=Value->Option Kn->St U->Prop
def ku(i:Nat):Bool:=match Nat.ble k0 i with
 |true=>true
 |false=>k9 i may
def iF {α:Type}(f:α->Bool):List α->Bool
 | []=>true
 | a::r=>match f a with
  |true=>iF f r
  |false=>false
def Lp(c:Ctr U):Bool:=iF (λj=>match nth c.res j with
 |some (.lst _ own _)=>own
 |some _=>true
 |none=>false) c.bB
def call2(f:Nat)(args:List Value)(d:List (Option Kn))(st:St U)(K:dL U):Prop:=
 match tbl.c f with
 |none=>False
 | some c=>Ba c.args c.body args d [] λB θ=>Ev st.rs c.imp θ λθ=>J0 st.rs st.kn c.res B 0 θ λB θ=>
  match po (aM (·.2) θ) && (iF (λp=>Nat.blt p.1 c.res.length) θ && Lp U c),iA (cq θ) c.bB with
  | true,some M=>(match iF (ku may k0) M with
   | true=>B λout=>match bH st.rs M out.upd with
    |some rs'=>nmL (rs'++out.news) (M++upto rs'.length out.news.length) λh=>K out.res (D9 (DF θ c.res.length st.rs.length) out.kr) ⟨h,kp (DF θ c.res.length st.rs.length) out.kc++ef M st.kn,M++st.md⟩
    |none=>False
   |false=>False)
  |_,_=>False
def fB {α:Type}:List α->Nat->List α->List α
 |cs,_,[]=>cs
 |cs,o,v::r=>fB (bK cs o v) (o+1) r
def iN {α:Type}:Nat->List α->List α
 |0,_=>[]
 |_,[]=>[]
 |n+1,a::r=>a::iN n r
def lu {α:Type}:Nat->List α->List α
 |0,l=>l
 |_,[]=>[]
 |n+1,_::r=>lu n r
def cW(t:TypeId)(cs:List Value)(off:Nat):Option Value:=
 match ub P t (sP (dg P t)) && (hasType P t && (Nat.beq (gF (dg P t)) (aS P t) && Nat.ble (off+aS P t) cs.length))with
 | true=>(match dg P t with
  |.one _=>nth cs off
  |.agg l=>some (.agg ⟨iN l.length (lu off cs)⟩)
  |.row n=>some (.agg ⟨iN n (lu off cs)⟩))
 |false=>none
def kJ(t:TypeId):Bool:=match dg P t with
 |.one _=>true
 |_=>false
def fI {α:Type}(o:Option α)(F:α->Prop):Prop:=match o with
 |some a=>F a
 |none=>False
def fvK(kn:List (Key×Kn))(id:Nat):FV->Option Kn
 |.v _=>none
 | .o p 0=>(match cr (.l id p) kn with
  |some k=>some k
  |none=>some (.p (.obj id p 0)))
 |.o p off=>some (.p (.obj id p off))
 |.l i=>some (.p (.sl id i))
def upN:Nat->Nat->List Nat
 |_,0=>[]
 |n,k+1=>n::upN (n+1) k
def isK:Option PK->Bool
 |some _=>true
 |none=>false
def CL(id off:Nat)(kn:List (Key×Kn))(v:Value):Option Kn:=
 match v with
 | .agg cs=>(match mr isK (aM (λj=>jm (cr (.c id (off+j)) kn)) (upN 0 cs.toList.length))with
  |true=>some (.ag (aM (λj=>jm (cr (.c id (off+j)) kn)) (upN 0 cs.toList.length)))
  |false=>none)
 |_=>none
def hd1:List Value->Value
 |v::_=>v
 | []=>undef
def lx(tt:Nat)(l:List (U.el tt))(i n:Nat):List Value:=aM (λj=>hd1 ((U.en tt).enc (l.getD (i+j) (U.df tt)))) (upN 0 n)
def neK(t:TypeId)(id li:Nat)(i:Int)(off:Nat):Res U->Option Kn
 | .ob tt _ _=>(match U.ne tt li && (kJ P t && Nat.beq off 0)with
  |true=>some (.p (.sl id (i.toNat+1)))
  |false=>none)
 |_=>none
def wo(t:TypeId)(k:Option Kn)(st:St U)(K:Value->Option Kn->Prop):Prop:=
 match k with
 | some (.p (.loc id off))=>(match nth st.rs id with
  | some (.blk _ cs _)=>fI (cW P t cs off) λv=>K v (match kJ P t with
   |true=>cr (.c id off) st.kn
   |false=>CL id off st.kn v)
  |_=>False)
 | some (.p (.obj id path off))=>(match nth st.rs id with
  | some (.ob tt r s)=>(match U.fo tt r s path off with
   | some f=>fI (fvV r (U.li tt r s) f) λu=>fI (cW P t [u] 0) λv=>K v (match kJ P t with
    |true=>fvK st.kn id f
    |false=>none)
   | none=>(match U.wl tt r s path off (aS P t)with
    |some (c,cs)=>c/\fI (cW P t cs 0) λv=>K v none
    |none=>False))
  |_=>False)
 | some (.p (.el id li i off))=>(match nth st.rs id with
  | some r=>(match fQ r li with
   | some L=>(match Nat.ble (off+aS P t) (U.en L.t).size,Nat.beq off 0 with
    | false,true=>(match Nat.beq (U.en L.t).size 1 with
     |true=>i.toNat+aS P t<=L.l.length/\fI (cW P t (lx U L.t L.l i.toNat (aS P t)) 0) λv=>K v none
     |false=>False)
    |_,_=>fI (cW P t ((U.en L.t).enc (L.l.getD i.toNat (U.df L.t))) off) λv=>K v (neK U P t id li i off r))
   |none=>False)
  |none=>False)
 |_=>False
def Ja(t:TypeId):Bool:=match dg P t with
 |.row _=>true
 |_=>false
def xE(t:TypeId)(k:Option Kn)(y:Value)(st:St U)(K:dL U):Prop:=
 match dg P t,k,y with
 | .row n,some (.p (.obj id path off)),.agg cs=>(match hasType P t && (Nat.beq n (aS P t) && Nat.beq cs.toList.length n),nth st.rs id,ku may k0 id with
  | true,some (.ob tt r s),true=>mo cs.toList (match U.ws tt r s path off cs.toList with
   |some (c,d)=>c/\nmL (bK st.rs id (.ob tt r d)) [id] λf=>K undef none ⟨f,ef [id] st.kn,id::st.md⟩
   |none=>False)
  |_,_,_=>False)
 |_,_,_=>False
def Cc(t:TypeId)(k:Option Kn)(y:Value)(ky:Option Kn)(st:St U)(K:dL U):Prop:=
 match Ja P t with
 |true=>xE U P may k0 t k y st K
 |false=>match !(Ja P t) && (Nat.beq y.cells.toList.length (aS P t) && hasType P t)with
 |false=>False
 | true=>match k with
  | some (.p (.loc id off))=>(match nth st.rs id,ku may k0 id with
   | some (.blk g cs T),true=>(match Nat.ble (off+aS P t) cs.length with
    |true=>mo y.cells.toList (K undef none ⟨bK st.rs id (.blk g (fB cs off y.cells.toList) T),cellsOf id off (kJ P t && Nat.beq (aS P t) 1) ky++dS (λa _=>!(a.rM id off (aS P t))) st.kn,id::st.md⟩)
    |false=>False)
   |_,_=>False)
  | some (.p (.el id 0 i off))=>(match nth st.rs id,ku may k0 id with
   | some (.lst tt true T A c l),true=>(match Nat.ble (off+aS P t) (U.en tt).size with
    | true=>mo y.cells.toList (fI (U.dec tt (fB ((U.en tt).enc (l.getD i.toNat (U.df tt))) off y.cells.toList)) λx=>
     nmL (bK st.rs id (.lst tt true T A c (l.set i.toNat x))) [id] λd=>K undef none ⟨d,st.kn,id::st.md⟩)
    |false=>False)
   | some (.ob tt r s),true=>(match U.li tt r s 0 with
    | some L=>(match Nat.ble (off+aS P t) (U.en L.t).size with
     | true=>mo y.cells.toList (fI (U.dec L.t (fB ((U.en L.t).enc (L.l.getD i.toNat (U.df L.t))) off y.cells.toList)) λx=>(match U.st tt r s 0 i.toNat L.t x with
      |some (c,f)=>c/\nmL (bK st.rs id (.ob tt r f)) [id] λd=>K undef none ⟨d,ef [id] st.kn,id::st.md⟩
      |none=>False))
     |false=>False)
    |none=>False)
   |_,_=>False)
  | some (.p (.el id (li+1) i off))=>(match nth st.rs id,ku may k0 id with
   | some (.ob tt r s),true=>(match U.li tt r s (li+1)with
    | some L=>(match Nat.ble (off+aS P t) (U.en L.t).size with
     | true=>mo y.cells.toList (fI (U.dec L.t (fB ((U.en L.t).enc (L.l.getD i.toNat (U.df L.t))) off y.cells.toList)) λx=>(match U.st tt r s (li+1) i.toNat L.t x with
      |some (c,f)=>c/\nmL (bK st.rs id (.ob tt r f)) [id] λd=>K undef none ⟨d,ef [id] st.kn,id::st.md⟩
      |none=>False))
     |false=>False)
    |none=>False)
   |_,_=>False)
  | some (.p (.obj id path off))=>(match nth st.rs id,ku may k0 id,y.cells.toList with
   | some (.ob tt r s),true,[v]=>mo [v] (match U.fs tt r s path off v with
    |some (c,f)=>c/\nmL (bK st.rs id (.ob tt r f)) [id] λd=>K undef none ⟨d,ef [id] st.kn,id::st.md⟩
    |none=>False)
   | some (.ob tt r s),true,v::v2::vs=>mo (v::v2::vs) (match U.ws tt r s path off (v::v2::vs)with
    |some (c,f)=>c/\nmL (bK st.rs id (.ob tt r f)) [id] λd=>K undef none ⟨d,ef [id] st.kn,id::st.md⟩
    |none=>False)
   |_,_,_=>False)
  |_=>False
def PK.on(l:Nat):PK->Option PK
 |.loc id off=>some (.loc id (off+l))
 |.obj id path off=>some (.obj id path (off+l))
 |_=>none
def Lw(d:Nat):Option Value->Option Nat
 |none=>some d
 |some (.int _ (.ofNat l))=>some l
 |_=>none
def KP(t:TypeId)(k:Option Kn)(lo hi:Option Value)(st:St U)(K:Value->Option Kn->Prop):Prop:=
 match P.underlying t,k,Lw 0 lo with
 | some (.array n e),some (.p p),some l=>(match Lw n hi,PK.on l p with
  | some h,some q=>(match den U st.rs p,den U st.rs q,hasType P e && (Nat.beq (aS P e) 1 && (Nat.blt l h && Nat.ble h n))with
   |some _,some (.pointer (some a)),true=>K (.slice (some a) (h - l) (n - l)) (some (.w q (h - l)))
   |_,_,_=>False)
  |_,_=>False)
 |_,_,_=>False
def xR(n m:Nat):Nat:=match Nat.ble n m with
 |true=>n
 |false=>m
def KW(k:Option Kn)(n:Nat)(st:St U)(F:List Value->Prop):Prop:=
 match k with
 | some (.w (.loc id off) m)=>(match nth st.rs id with
  | some (.blk _ cs _)=>(match Nat.ble (off+xR n m) cs.length with
   |true=>F (iN (xR n m) (lu off cs))
   |false=>False)
  |_=>False)
 | some (.w (.obj id path off) m)=>(match nth st.rs id with
  | some (.ob tt r s)=>(match U.wl tt r s path off (xR n m)with
   | some (c,cs)=>c/\(match Nat.beq cs.length (xR n m)with
    |true=>F cs
    |false=>False)
   |none=>False)
  |_=>False)
 | some (.p (.sl id li))=>(match nth st.rs id with
  | some (.ob tt r s)=>(match U.li tt r s li with
   | some L=>(match Nat.beq (U.en L.t).size 1 with
    |true=>(0<n/\n<=L.l.length)/\F (lx U L.t L.l 0 n)
    |false=>False)
   |none=>False)
  | some (.lst tt _ _ _ c l)=>(match Nat.beq (U.en tt).size 1 with
   |true=>(0<xR n c/\l.length=c)/\F (lx U tt l 0 (xR n c))
   |false=>False)
  |_=>False)
 |_=>False
def LK(q:PK)(vs:List Value)(st:St U)(K:dL U):Prop:=
 match q with
 | .loc id off=>(match nth st.rs id,ku may k0 id with
  | some (.blk g cs T),true=>(match Nat.ble (off+vs.length) cs.length with
   |true=>mo vs (K (.int .i64 vs.length) none ⟨bK st.rs id (.blk g (fB cs off vs) T),dS (λa _=>!(a.rM id off vs.length)) st.kn,id::st.md⟩)
   |false=>False)
  |_,_=>False)
 | .obj id path off=>(match nth st.rs id,ku may k0 id with
  | some (.ob tt r s),true=>mo vs (match U.ws tt r s path off vs with
   |some (c,d)=>c/\nmL (bK st.rs id (.ob tt r d)) [id] λf=>K (.int .i64 vs.length) none ⟨f,ef [id] st.kn,id::st.md⟩
   |none=>False)
  |_,_=>False)
 |_=>False
def slB(t:TypeId):Bool:=match P.underlying t with
 | some (.slice e)=>(match P.info? e with
  |some i=>Nat.beq i.size 1
  |none=>false)
 |_=>false
def HL(t:TypeId)(d ky:Option Kn)(st:St U)(K:dL U):Prop:=
 match d,slB P t with
 |some (.w q n),true=>KW U ky n st λvs=>LK U may k0 q vs st K
 |_,_=>False
def yb(s:TypeId)(f:Nat):Option Kn->Option Kn
 | some (.p k)=>(match P.underlying s with
  | some (.struct fields)=>(match fields[f]? with
   | some fd=>(match k with
    |.loc id off=>some (.p (.loc id (off+fd.offset)))
    |.el id li i off=>some (.p (.el id li i (off+fd.offset)))
    |.obj id path off=>some (.p (.obj id path (off+fd.offset)))
    |_=>none)
   |none=>none)
  |_=>none)
 |_=>none
def W0:World:=default
def Ju(cs:List Value)(T:TypeId)(ck:Option Kn)(st:St U)(K:dL U):Prop:=
 match U.mko T cs with
 |some ⟨t,s⟩=>∀g:Nat,nmL (st.rs++ [.ob t (λ_=>g) s]) [st.rs.length] λd=>K (.pointer (some ⟨g,0,none⟩)) (some (.p (.obj st.rs.length 0 0))) ⟨d,st.kn,st.md⟩
 |none=>∀g:Nat,K (.pointer (some ⟨g,0,none⟩)) (some (.p (.loc st.rs.length 0))) ⟨st.rs++ [.blk g cs T],cellsOf st.rs.length 0 true ck++st.kn,st.md⟩
def Hi(k:Option Kn)(i:Nat):Option Kn:=
 match k with
 | some (.t l)=>(match nth l i with
  |some (some p)=>some (.p p)
  |_=>none)
 |_=>none
def ql(o:Oper)(ρ:Operand->Value)(F:Value->Prop):Prop:=qk P none o ρ W0 F False
def Nn(t:TypeId)(i:Nat):Option Nat:=
 match P.underlying t with
 | some (.struct fields)=>(match fields[i]? with
  |some fd=>some fd.offset
  |none=>none)
 |some (.array _ e)=>some (i*aS P e)
 |_=>none
def agC(o:Nat):List (Option PK)->List (Nat×PK)
 | []=>[]
 |some p::r=>(o,p)::agC (o+1) r
 |none::r=>agC (o+1) r
def yp(t:TypeId)(kn:List (Key×Kn)):List (Nat×Operand)->List (Nat×PK)
 | []=>[]
 | (i,x)::r=>match kf kn x,Nn P t i with
  |some (.p p),some o=>(o,p)::yp t kn r
  |some (.ag l),some o=>agC o l++yp t kn r
  |_,_=>yp t kn r
def yq(j:Nat):List (Nat×PK)->Option PK
 | []=>none
 | (i,p)::r=>match Nat.beq i j with
  |true=>some p
  |false=>yq j r
def LJ {U:Uni}(rs:List (Res U))(cs:List Value):List (Nat×PK)->Prop->Prop
 | [],F=>F
 |(o,p)::r,F=>den U rs p=nth cs o/\LJ rs cs r F
def HW {U:Uni}(st:St U)(v:Value)(d:List (Nat×PK))(K:Value->Option Kn->Prop):Prop:=
 match d with
 | []=>K v none
 | b::r=>match v with
  |.agg cs=>LJ st.rs cs.toList (b::r) (K v (some (.ag (aM (λj=>yq j (b::r)) (upN 0 cs.toList.length)))))
  |_=>False
def MI:Option Kn->List Value->List Value->List (Option Kn)->List (Option Kn)
 |some (.f a b),_,_,d=>aM (λo=>o.map .p) a++(d++aM (λo=>o.map .p) b)
 |_,first,cap,d=>aM (λ_=>none) first++(d++aM (λ_=>none) cap)
def HD(t:TypeId):Nat:=match P.underlying t with
 |some (.slice e)=>aS P e
 |some (.array _ e)=>aS P e
 |_=>0
def Fq(tt:Nat):Nat->List Value->Option (List (U.el tt))
 |0,[]=>some []
 | n+1,cs=>match U.dec tt (iN (U.en tt).size cs),Fq tt n (lu (U.en tt).size cs)with
  |some x,some r=>some (x::r)
  |_,_=>none
 |_,_=>none
def Gs(t:TypeId):Option (TypeId×Nat×TypeInfo×Value):=
 match P.underlying t with
 | some (.slice e)=>(match U.cd e,P.info? e with
  | some tt,some d=>(match d.zero with
   | some z=>(match Nat.beq d.size (U.en tt).size && (Nat.beq z.cells.toList.length d.size && Nat.blt 0 d.bytes)with
    |true=>some (e,tt,d,z)
    |false=>none)
   |none=>none)
  |_,_=>none)
 |_=>none
def MJ(d:TypeInfo)(z:Value)(len:Nat)(parts:List (Nat×Value)):Option (Array Value):=
 Instr.fill (λi=>some (i*d.size,d.size)) ((Array.range (len*d.size)).map (z.cells[· % z.cells.size]!)) parts
def KV(tt:Nat)(v:Value)(k:Option Kn)(st:St U)(F:List (U.el tt)->Prop):Prop:=
 match k with
 | some (.p (.sl id li))=>(match nth st.rs id with
  | some r=>(match fQ r li with
   |some L=>if h:L.t=tt then F (h▸L.l)else False
   |none=>False)
  |none=>False)
 | _=>match v with
  |.slice none 0 _=>F []
  |_=>False
def orL {α:Type}(F:α->Prop):List α->Prop
 | []=>False
 | [a]=>F a
 |a::r=>F a\/orL F r
def MK:Sh->(Value->Prop)->Prop
 |.int k,F=>∃x:Int,F (.int k x)
 |.bool,F=>∃x:Bool,F (.bool x)
 |.str,F=>∃x:ByteArray,F (.string x)
 |_,F=>∃x:Value,F x
def dv {U:Uni}(rs:List (Res U))(p:PK):Value:=(den U rs p).getD undef
def Fp {U:Uni}(rs:List (Res U))(p:PK):Bool:=match den U rs p with
 |some _=>true
 |none=>false
def Cp(k:Option Kn)(A B:Prop):Prop:=match k with
 |some .pan=>A
 |_=>B
def Es(v:Value)(args:List Value)(d:List (Option Kn))(st:St U)(K:dL U):Prop:=
 MK tbl.sh λr=>orL (λa=>match iF (Fp st.rs) a.2.1 && iF (Fp st.rs) a.2.2 with
  | true=>v=.func (.func a.1) ⟨aM (dv st.rs) a.2.1⟩ ⟨aM (dv st.rs) a.2.2⟩/\call2 U tbl may k0 a.1 (aM (dv st.rs) a.2.1++(args++aM (dv st.rs) a.2.2)) (aM (λp=>some (.p p)) a.2.1++(d++aM (λp=>some (.p p)) a.2.2)) st λr' k' st'=>
    Cp k' False<| match Nat.beq st'.rs.length st.rs.length && Nat.beq st'.md.length st.md.length with
    |true=>r'=r
    |false=>False
  |false=>False) tbl.al/\K r none st
def J7:Operand->List (Nat×List PK×List PK)->Bool
 |.tmp _,_::_=>true
 |_,_=>false
def mpL:List (Res U)->Option ((Nat->Nat)×List (Int×Value))
 | []=>none
 | .ob t r s::l=>(match U.mp t s with
  |some m=>some (r,m)
  |none=>mpL l)
 |_::l=>mpL l
def lkT(P:Program)(T:TypeId):Option Value:=match P.underlying T with
 | some (.map K E)=>(match P.underlying K with
  |some (.int .u32)=>(P.info? E).bind (·.zero)
  |_=>none)
 |_=>none
def lkS:List (Int×Value)->Int->Value->(Value->Bool->Prop)->Prop
 | [],_,z,F=>F z false
 |(a,v)::r,i,z,F=>split (decide (i=a)) (F v true) (lkS r i z F)
def Lt(o:Oper)(ρ:Operand->Value)(st:St U)(K:dL U):Prop:=
 match o.op with
 | .panic x=>(match ρ x with
  |.iface t v=>K (.iface t v) (some .pan) st
  |_=>False)
 |.store t x y=>Cc U P may k0 t (kf st.kn x) (ρ y) (kf st.kn y) st K
 | .alloc t=>(match (P.info? t).bind (·.zero)with
  |some z=>Ju U z.cells.toList t none st K
  |none=>False)
 |.box t x=>Ju U (ρ x).cells.toList t (kf st.kn x) st K
 | .call c=>(match c.callee with
  | .value f=>(match J7 f tbl.al with
   |true=>Es U tbl may k0 (ρ f) (aM ρ c.args.toList) (aM (kf st.kn) c.args.toList) st K
   | false=>match ρ f with
    |.func (.func k) first cap=>call2 U tbl may k0 k (first.toList++(aM ρ c.args.toList++cap.toList)) (MI (kf st.kn f) first.toList cap.toList (aM (kf st.kn) c.args.toList)) st K
    |_=>False)
  | .invoke x name=>(match ρ x with
   | .iface t u=>(match zX P t name with
    |some k=>call2 U tbl may k0 k (u::aM ρ c.args.toList) (none::aM (kf st.kn) c.args.toList) st K
    |none=>False)
   |_=>False)
  | .builtin .append=>(match c.args.toList,c.argTypes.toList with
   | [x,y],[t,m]=>(match Gs U P t,Nat.beq t m with
    | some (e,tt,d,_),true=>KV U tt (ρ y) (kf st.kn y) st λl2=>(match kf st.kn x with
     | some (.p (.sl id 0))=>(match nth st.rs id,ku may k0 id with
      | some (.lst p true T _ _ l),true=>(match Nat.beq T e with
       |true=>if h:p=tt then(l.length+l2.length)*d.bytes<=140737488355328/\∀(A:Option Addr)(c:Nat),nmL (bK st.rs id (.lst tt true e A c ((h▸l)++l2))) [id] λj=>K (.slice A ((h▸l)++l2).length c) (some (.p (.sl id 0))) ⟨j,ef [id] st.kn,id::st.md⟩else False
       |false=>False)
      |_,_=>False)
     | none=>(match ρ x with
      |.slice none 0 0=>l2.length*d.bytes<=140737488355328/\∀(A:Option Addr)(c:Nat),nmL (st.rs++ [.lst tt true e A c l2]) [st.rs.length] λj=>K (.slice A l2.length c) (some (.p (.sl st.rs.length 0))) ⟨j,st.kn,st.md⟩
      |_=>False)
     |_=>False)
    |_,_=>False)
   |_,_=>False)
  | .builtin .copy=>(match c.args.toList,c.argTypes.toList with
   | [x,y],[t,m]=>HL U P may k0 t (kf st.kn x) (kf st.kn y) st K
   |_,_=>False)
  |_=>False)
 | .buildSlice t len parts=>(match Gs U P t with
  | some (e,tt,d,z)=>(match MJ d z len (parts.map fun(i,x)=>(i,ρ x)).toList,Nat.blt 0 len && Nat.ble (len*d.size) 16777216 with
   | some cells,true=>(match Fq U tt len cells.toList with
    |some l=>∀g:Nat,nmL (st.rs++ [.lst tt true e (some ⟨g,0,none⟩) len l]) [st.rs.length] λj=>K (.slice (some ⟨g,0,none⟩) len len) (some (.p (.sl st.rs.length 0))) ⟨j,st.kn,st.md⟩
    |none=>False)
   |_,_=>False)
  |none=>False)
 | .lookup T x ix true=>(match ρ x,ρ ix,lkT P T,mpL U st.rs with
  |.map (some g),.int .u32 i,some z,some (r,l)=>g=r 0/\lkS l i z λv b=>K (.tuple ⟨[v,.bool b]⟩) none st
  |_,_,_,_=>False)
 | .makeSlice t l c=>(match ρ l,ρ c,Gs U P t with
  | .int .i64 a,.int .i64 b,some (e,tt,d,z)=>(match U.dec tt z.cells.toList with
   |some x=>(a=b/\0<=a/\(d.bytes:Int)*a<=281474976710656)/\∀g:Nat,nmL (st.rs++ [.lst tt true e (some ⟨g,0,none⟩) a.toNat (List.replicate a.toNat x)]) [st.rs.length] λj=>K (.slice (some ⟨g,0,none⟩) (List.replicate a.toNat x).length a.toNat) (some (.p (.sl st.rs.length 0))) ⟨j,st.kn,st.md⟩
   |none=>False)
  |_,_,_=>False)
 |_=>False
def od(o:Oper)(ρ:Operand->Value)(st:St U)(K:Value->Option Kn->Prop):Prop:=
 match o.op with
 |.move x=>K (ρ x) (kf st.kn x)
 |.assign x=>K (ρ x) (kf st.kn x)
 | .nilCheck x=>(match ρ x with
  |.pointer (some p)=>K (.pointer (some p)) (kf st.kn x)
  |_=>False)
 |.fieldAddr s x f=>j8 P s (ρ x) f λv=>K v (yb P s f (kf st.kn x))
 | .indexAddr t x i=>(match kf st.kn x,ρ i with
  | some (.p (.sl id li)),.int _ ix=>(match nth st.rs id,P.underlying t with
   | some r,some (.slice e)=>(match fQ r li with
    | some L=>(match hasType P e && Nat.beq (aS P e) (U.en L.t).size with
     |true=>(0<=ix/\ix<L.l.length)/\K (.pointer (some (elA U L.t L.A ix 0))) (some (.p (.el id li ix 0)))
     |false=>False)
    |none=>False)
   |_,_=>False)
  | some (.p (.obj id path off)),.int _ ix=>(match nth st.rs id,U.ix1 st.rs id path off,P.underlying t with
   | some (.ob tt r s),some li,some (.array n e)=>(match U.li tt r s li with
    | some L=>(match hasType P e && Nat.beq (aS P e) (U.en L.t).size with
     |true=>((0<=ix/\ix<L.l.length)/\ix<(n:Int))/\K (.pointer (some (elA U L.t L.A ix 0))) (some (.p (.el id li ix 0)))
     | false=>(match hasType P e && (Nat.beq (U.en L.t).size 1 && Nat.blt 0 (aS P e))with
      |true=>((0<=ix/\ix<(n:Int))/\(ix.toNat+1)*aS P e<=L.l.length)/\K (.pointer (some (elA U L.t L.A (ix*(aS P e:Nat)) 0))) (some (.p (.el id li (ix*(aS P e:Nat)) 0)))
      |false=>False))
    |none=>False)
   |_,_,_=>False)
  | some (.p (.el id li i0 0)),.int _ ix=>(match nth st.rs id,P.underlying t with
   | some r,some (.array n e)=>(match fQ r li with
    | some L=>(match hasType P e && (Nat.beq (aS P e) 1 && Nat.beq (U.en L.t).size 1)with
     |true=>((0<=ix/\ix<(n:Int))/\i0+ix<L.l.length)/\K (.pointer (some (elA U L.t L.A (i0+ix) 0))) (some (.p (.el id li (i0+ix) 0)))
     |false=>False)
    |none=>False)
   |_,_=>False)
  |some (.p (.loc id off)),.int _ ix=>mq P t (ρ x) (ρ i) λv=>K v (some (.p (.loc id (off+ix.toNat *HD P t))))
  |_,_=>False)
 |.load t x=>wo U P t (kf st.kn x) st K
 | .extract x i=>(match ρ x with
  |.tuple vs=>fI (nth vs.toList i) λv=>K v (Hi (kf st.kn x) i)
  |_=>False)
 |.makeFunc f first cap=>K (.func f ⟨aM ρ first.toList⟩ ⟨aM ρ cap.toList⟩) (some (.f (aM (λx=>jm (kf st.kn x)) first.toList) (aM (λx=>jm (kf st.kn x)) cap.toList)))
 | .binOp op t x y ty=>(match ρ x with
  |.slice (some _) _ _=>False
  |_=>ql P o ρ λv=>K v none)
 |.build t d=>ql P o ρ λv=>HW st v (yp P t st.kn d.toList) K
 | .slice t x lo hi none=>(match kf st.kn x,lo,hi with
  | some (.p (.obj id path off)),none,none=>(match nth st.rs id,U.ix1 st.rs id path off,P.underlying t with
   | some (.ob tt r s),some li,some (.array n e)=>(match U.li tt r s li with
    | some L=>(match hasType P e with
     |true=>((L.l.length=n/\L.c=n)/\0<n)/\K (.slice L.A L.l.length L.c) (some (.p (.sl id li)))
     |false=>False)
    |none=>False)
   |_,_,_=>False)
  |k,lo,hi=>KP U P t k (lo.map ρ) (hi.map ρ) st K)
 |.slice .. =>False
 | .sliceToArrayPointer arr x=>(match kf st.kn x with
  | some (.p (.sl id li))=>(match nth st.rs id,P.underlying arr with
   | some r,some (.array n _)=>(match fQ r li with
    |some L=>(0<L.l.length/\n<=L.l.length)/\K (.pointer (some (elA U L.t L.A 0 0))) (some (.p (.el id li 0 0)))
    |none=>False)
   |_,_=>False)
  | some (.w q n)=>(match P.underlying arr,den U st.rs q with
   | some (.array N _),some v=>(match Nat.ble N n with
    |true=>K v (some (.p q))
    |false=>False)
   |_,_=>False)
  |_=>False)
 |_=>ql P o ρ λv=>K v none
def Hm(o:Oper):Bool:=match o.op with
 |.panic _=>true
 |.store .. =>true
 |.alloc _=>true
 |.box .. =>true
 |.buildSlice .. =>true
 |.makeSlice .. =>true
 |.lookup .. =>true
 | .call c=>(match c.callee with
  |.value _=>true
  |.invoke .. =>true
  |.builtin .append=>true
  |.builtin .copy=>true
  |_=>false)
 |_=>false
def op2(o:Oper)(ρ:Operand->Value)(st:St U)(K:dL U):Prop:=
 match Hm o with
 |true=>Lt U P tbl may k0 o ρ st K
 |false=>od U P o ρ st λv k=>K v k st
def zI(n:Nat)(N:List Nat)(fr:Fr)(dst:Option Tmp)(v:Value)(k:Option Kn)(st:St U)(F:Fr->St U->Prop):Prop:=
 jl n N fr dst v λf=>F f (match dst with
  |some d=> {st with kn:=Al (.s d) k st.kn}
  |none=>st)
def EF(n:Nat)(N:List Nat)(ops:Array Oper)(K:Fr->St U->Prop)(d:List PanicEntry->Fr->St U->Prop):List Oper->Fr->St U->Prop
 | [],fr,st=>K fr st
 | o::rest,fr,st=>gI ops o fr
  (λfr=>op2 U P tbl may k0 o (ev fr) st λv h st'=>Cp h (d [⟨v,false,false⟩] fr st') (zI U n N fr o.dst v h st' λf i=>EF n N ops K d rest f i))
  (λfr=>zI U n N fr o.dst undef none st λf st'=>EF n N ops K d rest f st')
end
end Go.Proofs.YtoghdgcmhbanbaaGreatDoor.V
end
section
namespace Go.Proofs.YtoghdgcmhbanbaaGreatDoor.V
open Go Go.RowKit
open Go.IntKind (i64 u32 u64 wrap_i64 wrap_u32)
open Enc (enc)
inductive CS where
 |v (s:Sh)|k (p:PK)
inductive RSh where
 |ob (t:Nat)|blk (l:List CS)|lst (t:Nat)
structure B3 where
 live:List (Nat×Sh2)
 kns:List (Nat×Kn)
 wr:List Nat
 rsh:List (Nat×RSh)
inductive An where
 |leaf
 |two (l r:An)
 |node (ad:List (Key×Nat×TypeId))(cut:Option B3)(V:List Nat)(rd:List (Nat×List Nat))(l r:An)
abbrev An.r'(a:An):An:=.two .leaf a
def An.ad:An->List (Key×Nat×TypeId)
 |.node a _ _ _ _ _=>a
 |_=>[]
def An.cut:An->Option B3
 |.node _ c _ _ _ _=>c
 |_=>none
def An.V:An->List Nat
 |.node _ _ v _ _ _=>v
 |_=>[]
def An.rd:An->List (Nat×List Nat)
 |.node _ _ _ d _ _=>d
 |_=>[]
def An.l:An->An
 |.leaf=>.leaf
 |.two l _=>l
 |.node _ _ _ _ l _=>l
def An.r:An->An
 |.leaf=>.leaf
 |.two _ r=>r
 |.node _ _ _ _ _ r=>r
def SlT:List (Nat×Sh2)->Type->Type
 | [],T=>T
 |(_,s)::r,T=>IA s (SlT r T)
def CST:List CS->Type->Type
 | [],T=>T
 |.v s::r,T=>ShT s (CST r T)
 |.k _::r,T=>CST r T
def BG(U:Uni):List (Nat×RSh)->Type->Type
 | [],T=>T
 |(_,.ob t)::r,T=>U.ty t->BG U r T
 |(_,.blk l)::r,T=>CST l (BG U r T)
 |(_,.lst t)::r,T=>Option Addr->Nat->List (U.el t)->BG U r T
abbrev JT2(U:Uni)(c:B3):Type:=SlT c.live (BG U c.rsh Prop)
def KR {T:Type}:(l:List (Nat×Sh2))->SlT l T->Fr->(T->Prop)->Prop
 | [],J,_,F=>F J
 |(s,sh)::r,J,fr,F=>AW sh J (lk fr.g s fr.e) λd=>KR r d fr F
def B8 {T:Type}(id:Nat)(kn:List (Key×Kn)):(l:List CS)->CST l T->Nat->List Value->(T->Prop)->Prop
 | [],J,_,[],F=>F J
 |.v s::r,J,i,v::vs,F=>H5 s J v λd=>B8 id kn r d (i+1) vs F
 | .k p::r,J,i,_::vs,F=>match cr (.c id i) kn with
  | some q=>(match q.eq (.p p)with
   |true=>B8 id kn r J (i+1) vs F
   |false=>False)
  |none=>False
 |_,_,_,_,_=>False
def qS {U:Uni}{T:Type}(rs:List (Res U))(kn:List (Key×Kn)):(l:List (Nat×RSh))->BG U l T->(T->Prop)->Prop
 | [],J,F=>F J
 | (id,.ob t)::r,J,F=>match nth rs id with
  |some (.ob d _ s)=>if h:d=t then qS rs kn r (J (h▸s)) F else False
  |_=>False
 | (id,.blk l)::r,J,F=>match nth rs id with
  |some (.blk _ cs _)=>B8 id kn l J 0 cs λf=>qS rs kn r f F
  |_=>False
 | (id,.lst t)::r,J,F=>match nth rs id with
  |some (.lst d _ _ A c l)=>if h:d=t then qS rs kn r (J A c (h▸l)) F else False
  |_=>False
def D8(kn:List (Key×Kn)):List (Nat×Kn)->Bool
 | []=>true
 | (s,k)::r=>match cr (.s s) kn with
  | some q=>(match q.eq k with
   |true=>D8 kn r
   |false=>false)
  |none=>false
def iW(n:Nat):List CS->Bool
 | []=>true
 |.v _::r=>iW n r
 | .k p::r=>match Nat.blt p.id n with
  |true=>iW n r
  |false=>false
def dZ(n:Nat):List (Nat×RSh)->Bool
 | []=>true
 | (i,.blk l)::r=>match Nat.blt i n && iW n l with
  |true=>dZ n r
  |false=>false
 | (i,_)::r=>match Nat.blt i n with
  |true=>dZ n r
  |false=>false
def oe(n:Nat):List (Nat×Kn)->Bool
 | []=>true
 | (_,.p k)::r=>match Nat.blt k.id n with
  |true=>oe n r
  |false=>false
 |_::_=>false
def oO {U:Uni}(c:B3)(n:Nat)(J:JT2 U c)(fr:Fr)(st:St U):Prop:=
 match D8 st.kn c.kns && (iF (λi=>Nat.ble n i || k9 i (aM (·.1) c.rsh)) st.md && (dZ n c.rsh && oe n c.kns))with
 |true=>KR c.live J fr λd=>qS st.rs st.kn c.rsh d λp=>p
 |false=>False
inductive AV where
 |v (x:Value)|k (p:PK)
inductive UP (U:Uni) where
 |ob (t:Nat)(s:U.ty t)|blk (l:List AV)|lst (t:Nat)(A:Option Addr)(c:Nat)(l:List (U.el t))
def alS {T:Type}:(l:List (Nat×Sh2))->SlT l T->(T->List (Nat×Value)->Prop)->Prop
 | [],J,F=>F J []
 |(s,sh)::r,J,F=>CT sh J λd v=>alS r d λf vs=>F f ((s,v)::vs)
def Ic {T:Type}:(l:List CS)->CST l T->(T->List AV->Prop)->Prop
 | [],J,F=>F J []
 |.v s::r,J,F=>Ey s J λf v=>Ic r f λd l=>F d (.v v::l)
 |.k p::r,J,F=>Ic r J λd l=>F d (.k p::l)
def FD {U:Uni}{T:Type}:(l:List (Nat×RSh))->BG U l T->(T->List (Nat×UP U)->Prop)->Prop
 | [],J,F=>F J []
 |(id,.ob t)::r,J,F=>∀s:U.ty t,FD r (J s) λd us=>F d ((id,.ob t s)::us)
 |(id,.blk l)::r,J,F=>Ic l J λd cs=>FD r d λf us=>F f ((id,.blk cs)::us)
 |(id,.lst t)::r,J,F=>∀(A:Option Addr)(c:Nat)(l:List (U.el t)),FD r (J A c l) λd us=>F d ((id,.lst t A c l)::us)
def jI {U:Uni}(rs:List (Res U)):AV->Value
 |.v x=>x
 |.k p=>(den U rs p).getD undef
def ko {U:Uni}(i:Nat):List (Nat×UP U)->Option (UP U)
 | []=>none
 | (j,u)::r=>match Nat.beq j i with
  |true=>some u
  |false=>ko i r
def lay {U:Uni}(f:Nat->Res U->Option (Res U)):Nat->List (Res U)->Option (List (Res U))
 |_,[]=>some []
 | i,r::l=>match f i r,lay f (i+1) l with
  |some r',some l'=>some (r'::l')
  |_,_=>none
def Ly {U:Uni}(us:List (Nat×UP U))(i:Nat)(r:Res U):Option (Res U):=
 match ko i us with
 |some (.ob t s)=>dI r (.ob t s)
 |some (.lst t A c l)=>dI r (.lst t A c l)
 |_=>some r
def MC {U:Uni}(d:List (Res U))(us:List (Nat×UP U))(i:Nat)(r:Res U):Option (Res U):=
 match ko i us with
 |some (.blk l)=>dI r (.blk (aM (jI d) l))
 |_=>some r
def yn(id:Nat):Nat->List CS->List (Key×Kn)
 |_,[]=>[]
 |i,.v _::r=>yn id (i+1) r
 |i,.k p::r=>(.c id i,.p p)::yn id (i+1) r
def DH:List (Nat×RSh)->List (Key×Kn)
 | []=>[]
 |(id,.blk l)::r=>yn id 0 l++DH r
 |_::r=>DH r
def Cd:List (Nat×Kn)->List (Key×Kn)
 | []=>[]
 |(s,k)::r=>(.s s,k)::Cd r
def lf {U:Uni}(rs:List (Res U)):List (Nat×Kn)->List (Nat×Value)
 | []=>[]
 |(s,.p k)::r=>(s,(den U rs k).getD undef)::lf rs r
 |_::r=>lf rs r
def B3.wr2(c:B3):List Nat:=aM (·.1) c.kns++c.wr
def CV {U:Uni}(c:B3)(J:JT2 U c)(st:St U)(e:List (Nat×Value))(F:List (Nat×Value)->St U->Prop):Prop:=
 alS c.live J λh vs=>FD c.rsh h λp us=>p->match lay (Ly us) 0 st.rs with
  | some f=>(match lay (MC f us) 0 f with
   |some d=>yf (Gx d (aM (·.1) c.rsh))<| F (vs++lf d c.kns++forget c.wr2 e) ⟨d,Cd c.kns++(DH c.rsh++dS (λa _=>match a with|.s s=>!(k9 s c.wr2)|_=>true) (ef (aM (·.1) c.rsh) st.kn)),[]⟩
   |none=>False)
  |none=>False
def vy {U:Uni}(fr:Fr)(st:St U):Key->Option Value
 |.s i=>some (lk fr.g i fr.e)
 | .c id off=>match nth st.rs id with
  |some (.blk _ cs _)=>nth cs off
  |_=>none
 |.l _ _=>none
def Cx {U:Uni}(k0 s j:Nat)(st:St U):Option (St U):=match cr (.s s) st.kn with
 | some (.p (.sl i 0))=>(match Nat.beq i j with
  |true=>some st
  | false=>(match nth st.rs i,nth st.rs j with
   | some (.lst t true T A c l),some (.lst d true f _ _ _)=>(match Nat.ble k0 i && Nat.ble k0 j && (Nat.beq t d && Nat.beq T f)with
    |true=>some ⟨bK (bK st.rs j (.lst t true T A c l)) i (.lst t true T none 0 []),(.s s,.p (.sl j 0))::ef [i,j] st.kn,i::j::st.md⟩
    |false=>none)
   |_,_=>none))
 |_=>none
def DG {U:Uni}(k0:Nat)(fr:Fr)(s j:Nat)(st:St U)(F:St U->Prop):Prop:=match cr (.s s) st.kn with
 |none=>den U st.rs (.sl j 0)=some (lk fr.g s fr.e)/\F ⟨st.rs,(.s s,.p (.sl j 0))::st.kn,st.md⟩
 | some _=>(match Cx k0 s j st with
  |some st'=>F st'
  |none=>False)
def kd {U:Uni}(k0:Nat)(fr:Fr):List (Key×Nat×TypeId)->St U->(St U->Prop)->Prop
 | [],st,F=>F st
 | (key,tt,T)::r,st,F=>match Nat.ble 1000 tt,key with
  |true,.s s=>DG k0 fr s (tt - 1000) st λst'=>kd k0 fr r st' F
  | _,_=>(match vy fr st key with
   |some (.slice none 0 0)=>kd k0 fr r ⟨st.rs++ [.lst tt true T none 0 []],(key,.p (.sl st.rs.length 0))::dS (λa _=>!(a.eq key)) st.kn,st.md⟩ F
   |_=>False)
section
variable (U:Uni)(P:Program)(tbl:Tb U)(may:List Nat)(k0:Nat)
def qh(i:Nat):List (Nat×List Nat)->List Nat
 | []=>[]
 | (j,l)::r=>match Nat.beq j i with
  |true=>l
  |false=>qh i r
def Lb(all:Bool)(V:List Nat)(rd:List (Nat×List Nat))(i:Nat)(o:Oper)(kn:List (Key×Kn)):Bool:=
 match o.op with
 | .load _ x=>(match all || k9 i V with
  |true=>true
  | false=>(match kf kn x with
   |some (.p k)=>k9 k.id (qh i rd)
   |_=>false))
 |_=>true
def CR(V:List Nat)(rd:List (Nat×List Nat))(M d:List Nat):Bool:=
 iF (λi=>!(k9 i V) && iF (λj=>!(k9 j (qh i rd))) M) d
def uU(n:Nat)(N:List Nat)(ops:Array Oper)(all:Bool)(V:List Nat)(rd:List (Nat×List Nat))(K:Fr->St U->Prop):Nat->Array Bool->Fr->St U->Prop
 | 0,listed,fr,st=>match Region.ready .any ops listed with
  | []=>K fr st
  |_=>False
 | fuel+1,listed,fr,st=>match Region.ready .any ops listed with
  | []=>K fr st
  | i0::r0=>match iD P ops listed (i0::r0)with
   | some i=>match ops[i]? with
    | some o=>gI ops o fr
     (λfr=>match Hm o,Lb all V rd i o st.kn with
      |false,true=>od U P o (ev fr) st λv k=>zI U n N fr o.dst v k st λd st'=>uU n N ops all V rd K fuel (listed.setIfInBounds i true) d st'
      |_,_=>False)
     (λfr=>zI U n N fr o.dst undef none st λd st'=>uU n N ops all V rd K fuel (listed.setIfInBounds i true) d st')
    |none=>False
   | none=>match all with
    |true=>False
    | false=>CU (λi=>match ops[i]? with
     | some o=>gI ops o fr
      (λfr=>op2 U P tbl may k0 o (ev fr) st λv k st'=>Cp k False<| match CR V rd (iN (st'.md.length - st.md.length) st'.md) (behind ops listed i)with
       |true=>zI U n N fr o.dst v k st' λd f=>uU n N ops all V rd K fuel (listed.setIfInBounds i true) d f
       |false=>False)
      (λfr=>zI U n N fr o.dst undef none st λd st'=>uU n N ops all V rd K fuel (listed.setIfInBounds i true) d st')
     |none=>False) (i0::r0)
abbrev QF2:=Exit->Fr->St U->Prop
def jZ(st:St U)(l:List Nat):St U:= {st with md:=st.md++l}
def sr(may:List Nat)(k0:Nat)(c:Code)(a:An)(Q:QF2 U)(fr:Fr)(st:St U)(F:QF2 U->St U->Prop):Prop:=
 match a.cut with
 |none=>F Q st
 | some d=>match tR d.wr2 (writes c) && iF (ku may k0) (aM (·.1) d.rsh)with
  | true=>∃J:JT2 U d,F (λx f st'=>match x with
   |.normal=>oO d st.rs.length J f st'
   |x=>Q x f (jZ U st' st.md)) {st with md:= []}/\∀g:Nat->Value,CV d J st fr.e λe st'=>Q .normal ⟨e,g,fr.ds⟩ (jZ U st' (aM (·.1) d.rsh++st.md))
  |false=>False
def su(k0:Nat)(a:An)(Q:QF2 U)(fr:Fr)(st:St U)(F:QF2 U->St U->Prop):Prop:=kd k0 fr a.ad st λst'=>F Q st'
def ia(may:List Nat)(k0:Nat)(c:Code)(a:An)(Q:QF2 U)(fr:Fr)(st:St U)(F:QF2 U->St U->Prop):Prop:=su U k0 a Q fr st λQ st=>sr U may k0 c a Q fr st F
def jN(n:Nat)(N:List Nat):Code->An->QF2 U->Fr->St U->Prop
 |.skip,_,Q,fr,st=>Q .normal fr st
 |.region id ops false,a,Q,fr,st=>ia U may k0 (.region id ops false) a Q fr st λQ st=>EF U P tbl may k0 n N ops (Q .normal) (λch=>Q (.panic ch)) ops.toList fr st
 | .region id ops true,a,Q,fr,st=>ia U may k0 (.region id ops true) a Q fr st λQ st=>match Region.noSelect ops,eh ops.toList with
  |true,true=>uU U P tbl may k0 n N ops (lz P ops.toList) a.V a.rd (Q .normal) ops.size (Array.replicate ops.size false) fr st
  |_,_=>False
 |.seq x y,a,Q,fr,st=>ia U may k0 (.seq x y) a Q fr st λQ st=>jN n N x a.l (λe d st'=>match e with|.normal=>jN n N y a.r Q d st'|e=>Q e d st') fr st
 | .cond c x y,a,Q,fr,st=>ia U may k0 (.cond c x y) a Q fr st λQ st=>match ev fr c with
  |.bool b=>split b (jN n N x a.l Q fr st) (jN n N y a.r Q fr st)
  |_=>False
 | .block id c,a,Q,fr,st=>ia U may k0 (.block id c) a Q fr st λQ st=>jN n N c a.l (λe d st'=>match e with
  |.exit h=>(match Nat.beq h id with|true=>Q .normal d st'|false=>Q (.exit h) d st')
  |e=>Q e d st') fr st
 | .loop c,a,Q,fr,st=>su U k0 a Q fr st λQ st=>match a.cut with
  |none=>False
  | some f=>match tR f.wr2 (writes c) && iF (ku may k0) (aM (·.1) f.rsh)with
   | true=>∃I:Nat->JT2 U f,(∃m,oO f st.rs.length (I m) fr {st with md:= []})/\∀(m:Nat)(g:Nat->Value),CV f (I m) st fr.e λe st'=>
    jN n N c a.l (λx d i=>match x with
     |.normal=>∃m',m'<m/\oO f st.rs.length (I m') d i
     |x=>Q x d (jZ U i (aM (·.1) f.rsh++st.md))) ⟨e,g,fr.ds⟩ st'
   |false=>False
 |.exit id,_,Q,fr,st=>Q (.exit id) fr st
 |.ret,_,Q,fr,st=>Q .ret fr st
 |.label _,_,Q,fr,st=>Q .normal fr st
 | .scope c,a,Q,fr,st=>ia U may k0 (.scope c) a Q fr st λQ st=>jN n N c a.l (λe d st'=>match e with
  |.goto _=>False
  |e=>Q e d st') fr st
 |_,_,_,_,_=>False
def kP(fr:Fr)(st:St U):List ResultVar->(List Value->List (Option Kn)->Prop)->Prop
 | [],F=>F [] []
 |.tmp t::r,F=>kP fr st r λvs d=>F (lk fr.g t fr.e::vs) (cr (.s t) st.kn::d)
 |.cell a t::r,F=>wo U P t (cr (.s a) st.kn) st λv k=>kP fr st r λvs d=>F (v::vs) (k::d)
def vz:Res U->Upd U
 |.ob t _ s=>.ob t s
 |.blk _ cs _=>.blk cs
 |.lst t _ _ A c l=>.lst t A c l
def posOf(i:Nat):List Nat->Nat->Option Nat
 | [],_=>none
 | j::r,p=>match Nat.beq j i with
  |true=>some p
  |false=>posOf i r (p+1)
def mW(k:Nat)(d:List Nat)(i:Nat):Option Nat:=
 match Nat.blt i k with
 |true=>some i
 |false=>(posOf i d 0).map (k+ ·)
def rQ(k0:Nat):Option PK->Bool
 |none=>false
 |some p=>Nat.ble k0 p.id
def Hs(k0:Nat):Option Kn->Bool
 |none=>false
 |some (.p p)=>Nat.ble k0 p.id
 |some (.t l)=>mr (rQ k0) l
 |some (.ag l)=>mr (rQ k0) l
 |some .pan=>false
 |some (.w p _)=>Nat.ble k0 p.id
 | some (.f a b)=>match mr (rQ k0) a with
  |true=>true
  |false=>mr (rQ k0) b
def ow(k0:Nat)(bB:List Nat):List (Key×Kn)->Bool
 | []=>false
 | (.c i _,k)::r=>(match k9 i bB with
  | true=>(match Hs k0 (some k)with
   |true=>true
   |false=>ow k0 bB r)
  |false=>ow k0 bB r)
 |(_,_)::r=>ow k0 bB r
def Ng(k0:Nat)(bB d:List Nat)(k:Option Kn)(kn:List (Key×Kn)):List Nat:=
 match d with
 | []=>[]
 | n::r=>match Nat.beq n 1000000 with
  | true=>(match Hs k0 k with
   |true=>r
   | false=>(match ow k0 bB kn with
    |true=>r
    |false=>[]))
  |false=>n::r
def LI(bB d:List Nat)(Q:Ou U->Prop)(v:Value)(k:Option Kn)(st:St U):Prop:=
 match iA (nth st.rs) bB,iA (nth st.rs) d,iF (λi=>Nat.ble k0 i) d && po d with
 |some us,some f,true=>Q ⟨v,D9 (mW k0 d) k,aM (vz U) us,f,kp (mW k0 d) (dS (λa _=>match a with|.c i _=>k9 i bB || k9 i d|.l i _=>k9 i d|_=>false) st.kn)⟩
 |_,_,_=>False
def Hy(bB d:List Nat)(Q:Ou U->Prop)(v:Value)(k:Option Kn)(st:St U):Prop:=LI U k0 bB (Ng k0 bB d k st.kn) Q v k st
def u4:Nat->List (Option Kn)->List (Key×Kn)
 |_,[]=>[]
 |i,none::r=>u4 (i+1) r
 |i,some k::r=>(.s i,k)::u4 (i+1) r
def qu {U:Uni}(rs:List (Res U)):List (Key×Kn)->Bool
 | []=>true
 | (_,.p p)::r=>(match den U rs p with
  |some _=>qu rs r
  |none=>false)
 | (_,.ag l)::r=>(match iF (λo=>match o with|some p=>Fp rs p|none=>true) l with
  |true=>qu rs r
  |false=>false)
 |_::_=>false
def zz(bB f:List Nat)(Q:Ou U->Prop)(fn:Func)(fr:Fr)(st:St U):Prop:=
 kP U P fr st fn.results.toList λvs d=>(match vs,d with
  | [v],[k]=>Hy U k0 bB f Q v k st
  |vs,d=>Hy U k0 bB f Q (.tuple ⟨vs⟩) (some (.t (aM jm d))) st)
def Mh(N:List Nat)(fn:Func)(h:An)(d:List Nat)(args:List Value)(f:List (Option Kn))(rs:List (Res U))(kc:List (Key×Kn))(Q:Ou U->Prop):Prop:=
 match fn.body,Nat.ble args.length fn.ntmps && qu rs (u4 0 f++kc)with
 | some c,true=>jN U P tbl may k0 fn.ntmps N c h (λe fr st=>match fr.ds,e with
  | [],.normal=>zz U P k0 may d Q fn fr st
  | [],.ret=>zz U P k0 may d Q fn fr st
  | [],.panic [⟨v,false,false⟩]=>Hy U k0 may d Q v (some .pan) st
  |_,_=>False) ⟨num 0 args,λ_=>undef,[]⟩ ⟨rs,u4 0 f++kc,[]⟩
 |_,_=>False
def MM(d:Nat):List Oper->Option Nat
 | [⟨none,.defer ⟨.value (.func f),h,_⟩,_,_,_,none⟩]=>(match h.toList,Nat.beq f d with
  | [.tmp t],true=>some t
  |_,_=>none)
 |_=>none
def Ns(a:Key)(k:Kn):Bool:=match a,k with
 |.s _,.p (.loc _ _)=>true
 |_,_=>false
def MB(bB:List Nat)(id off:Nat)(v:Value)(st:St U)(F:St U->Prop):Prop:=
 match nth st.rs id with
 | some (.blk g cs T)=>(match Nat.blt off cs.length && ku bB k0 id with
  |true=>F ⟨bK st.rs id (.blk g (bK cs off v) T),dS Ns st.kn,id::st.md⟩
  |false=>False)
 |_=>False
def Nz(T:TypeId)(id off:Nat)(bB d:List Nat)(Q:Ou U->Prop)(fn:Func):QF2 U:=λe fr st=>match e with
 |.normal=>zz U P k0 bB d Q fn fr st
 |.ret=>zz U P k0 bB d Q fn fr st
 | .panic [⟨.iface f (.int .u32 x),false,false⟩]=>(match Nat.beq f T with
  |true=>MB U k0 bB id off (.int .u32 x) st λst'=>zz U P k0 bB d Q fn fr st'
  |false=>False)
 |_=>False
def Nf(d:Nat)(T:TypeId)(N:List Nat)(fn:Func)(f:An)(h:List Nat)(code:Code)(Q:Ou U->Prop)(fr0:Fr)(st0:St U):Prop:=
 match code with
 | .seq (.region i0 i false) (.seq (.region _ j false) c)=>jN U P tbl may k0 fn.ntmps N (.region i0 i false) .leaf (λe fr st=>match e with
  | .normal=>(match MM d j.toList with
   | some t=>(match cr (.s t) st.kn with
    |some (.p (.loc id off))=>jN U P tbl may k0 fn.ntmps N c f (Nz U P k0 T id off may h Q fn) ⟨fr.e,fr.g,[⟨.fn (.func d) #[],#[lk fr.g t fr.e]⟩]⟩ st
    |_=>False)
   |none=>False)
  |_=>False) fr0 st0
 |_=>False
def Nd(f:Nat)(T:TypeId)(N:List Nat)(fn:Func)(h:An)(i:List Nat)(args:List Value)(d:List (Option Kn))(rs:List (Res U))(kc:List (Key×Kn))(Q:Ou U->Prop):Prop:=
 match fn.body,Nat.ble args.length fn.ntmps && qu rs (u4 0 d++kc)with
 |some c,true=>Nf U P tbl may k0 f T N fn h i c Q ⟨num 0 args,λ_=>undef,[]⟩ ⟨rs,u4 0 d++kc,[]⟩
 |_,_=>False
end
section
variable {U:Uni}
def alC {T:Type}:(c:CP)->c.T T->(T->AV->Prop)->Prop
 |.int k,J,F=>∀x:Int,F (J x) (.v (.int k x))
 |.bool,J,F=>∀x:Bool,F (J x) (.v (.bool x))
 |.str,J,F=>∀x:ByteArray,F (J x) (.v (.string x))
 |.any,J,F=>∀x:Value,F (J x) (.v x)
 |.hdr,J,F=>∀(A:Option Addr)(n c:Nat),F (J A n c) (.v (.slice A n c))
 |.nsl,J,F=>F J (.v (.slice none 0 0))
 |.nil,J,F=>F J (.v (.pointer none))
 |.fn f,J,F=>F J (.v (.func (.func f) ⟨[]⟩ ⟨[]⟩))
 |.ptr j,J,F=>F J (.k (.loc j 0))
 |.obj j path,J,F=>F J (.k (.obj j path 0))
 |.sl j,J,F=>F J (.k (.sl j 0))
def CW {T:Type}:(l:List CP)->Dy l T->(T->List AV->Prop)->Prop
 | [],J,F=>F J []
 |c::l,J,F=>alC c J λd v=>CW l d λf vs=>F f (v::vs)
inductive AA where
 |one (a:AV)|agg (l:List AV)
def alA {T:Type}:(a:AP)->a.T U T->(T->AA->Prop)->Prop
 |.one c,J,F=>alC c J λd v=>F d (.one v)
 |.agg l,J,F=>CW l J λd vs=>F d (.agg vs)
 |.enc tt,J,F=>∀x:U.el tt,F (J x) (.agg (aM .v ((U.en tt).enc x)))
def yx {T:Type}:(l:List AP)->DA U l T->(T->List AA->Prop)->Prop
 | [],J,F=>F J []
 |a::l,J,F=>alA a J λd v=>yx l d λf vs=>F f (v::vs)
inductive PR (U:Uni) where
 |ob (t:Nat)(r:Nat->Nat)(s:U.ty t)(lk:List (Nat×Nat×Nat))|blk (g:Nat)(l:List AV)(T:TypeId)|lst (t:Nat)(own:Bool)(T:TypeId)(A:Option Addr)(c:Nat)(l:List (U.el t))
def alR {T:Type}:(p:RP)->p.T U T->(T->PR U->Prop)->Prop
 |.ob t lk,J,F=>∀(r:Nat->Nat)(s:U.ty t),F (J r s) (.ob t r s lk)
 |.blk l T,J,F=>∀g:Nat,CW l (J g) λd cs=>F d (.blk g cs T)
 |.lst t own T,J,F=>∀(A:Option Addr)(c:Nat)(l:List (U.el t)),F (J A c l) (.lst t own T A c l)
def yw {T:Type}:(l:List RP)->FZ U l T->(T->List (PR U)->Prop)->Prop
 | [],J,F=>F J []
 |p::l,J,F=>alR p J λd x=>yw l d λf xs=>F f (x::xs)
def PR.jx:PR U->Res U
 |.ob t r s _=>.ob t r s
 |.blk g _ T=>.blk g [] T
 |.lst t own T A c l=>.lst t own T A c l
def PR.fin(rs:List (Res U)):PR U->Res U
 |.ob t r s _=>.ob t r s
 |.blk g l T=>.blk g (aM (jI rs) l) T
 |.lst t own T A c l=>.lst t own T A c l
def dK(l:List (PR U)):List (Res U):=aM (PR.fin (aM PR.jx l)) l
def uh(rs:List (Res U)):AA->Value
 |.one a=>jI rs a
 |.agg l=>.agg ⟨aM (jI rs) l⟩
def avK:AV->Option PK
 |.v _=>none
 |.k p=>some p
def FG:AA->Option Kn
 |.one (.k p)=>some (.p p)
 |.one (.v _)=>none
 | .agg l=>(match mr isK (aM avK l)with
  |true=>some (.ag (aM avK l))
  |false=>none)
def JX(id:Nat):Nat->List AV->List (Key×Kn)
 |_,[]=>[]
 |i,.v _::r=>JX id (i+1) r
 |i,.k p::r=>(.c id i,.p p)::JX id (i+1) r
def Cm:Nat->List (PR U)->List (Key×Kn)
 |_,[]=>[]
 |i,.blk _ l _::r=>JX i 0 l++Cm (i+1) r
 |i,_::r=>Cm (i+1) r
def lkK(i:Nat):List (Nat×Nat×Nat)->List (Key×Kn)
 | []=>[]
 |(p,j,q)::l=>(.l i p,.p (.obj j q 0))::lkK i l
def xX:Nat->List (PR U)->List (Key×Kn)
 |_,[]=>[]
 |i,.ob _ _ _ lk::r=>lkK i lk++xX (i+1) r
 |i,_::r=>xX (i+1) r
abbrev fr0:Fr:=⟨[],λ_=>undef,[]⟩
abbrev kq(k:Option Kn)(v:Value):Ending:=match k with
 |some .pan=>.panicked [⟨v,false,false⟩]
 |_=>.returned v
structure mH(rs:List (Res U))(bB:List Nat)(X:Nat->Nat->Prop)(w:World)(out:Ou U)(w':World)(rs':List (Res U))(X':Nat->Nat->Prop):Prop where
 sat:Sat (rs'++out.news) X' w'
 ch:Ch (λk=>∃j,j∈bB/\X j k) w w'
 same:∀i,i<rs.length->i ∉ bB->X' i=X i
 grow:∀i,i∈bB->∀k,X' i k->X i k\/w.heap.size<=k
 new:∀i,rs.length<=i->i<rs.length+out.news.length->∀k,X' i k->w.heap.size<=k
 kr:out.kr=some .pan\/KnO (rs'++out.news) out.res out.kr
 kc:∀key k,(key,k)∈out.kc->(∀i,key≠ .s i)->fN (rs'++out.news) fr0 key k
def cS(rs:List (Res U))(bB:List Nat)(X:Nat->Nat->Prop)(w:World)(Q:Ou U->Prop)(e:Ending)(w':World):Prop:=∃out rs' d,e=kq out.kr out.res/\Q out/\bH rs bB out.upd=some rs'/\mH rs bB X w out w' rs' d
def LV(U:Uni)(P:Program)(f:Nat)(c:Ctr U):Prop:=yx c.args c.body λB h=>yw c.res B λB d=>∀Q:Ou U->Prop,B Q->∀(X:Nat->Nat->Prop)(w:World),Sat (dK d) X w->aH (dK d) fr0 (xX 0 d)->Calls P f ⟨aM (uh (aM PR.jx d)) h⟩ w λe w'=>∃out rs' i,e=kq out.kr out.res/\Q out/\bH (dK d) c.bB out.upd=some rs'/\mH (dK d) c.bB X w out w' rs' i
def Vc2(U:Uni)(P:Program)(tbl:Tb U)(N:List Nat)(fn:Func)(h:An)(i:List Nat)(c:Ctr U):Prop:=yx c.args c.body λB f=>yw c.res B λB d=>∀Q:Ou U->Prop,B Q->yf (dK d) (Mh U P tbl c.bB c.res.length N fn h i (aM (uh (aM PR.jx d)) f) (aM FG f) (dK d) (Cm 0 d++xX 0 d) Q)
def VcD(U:Uni)(P:Program)(tbl:Tb U)(h:Nat)(T:TypeId)(N:List Nat)(fn:Func)(i:An)(j:List Nat)(c:Ctr U):Prop:=yx c.args c.body λB f=>yw c.res B λB d=>∀Q:Ou U->Prop,B Q->yf (dK d) (Nd U P tbl c.bB c.res.length h T N fn i j (aM (uh (aM PR.jx d)) f) (aM FG f) (dK d) (Cm 0 d++xX 0 d) Q)
end
end Go.Proofs.YtoghdgcmhbanbaaGreatDoor.V
end
section
namespace Go.Proofs.YtoghdgcmhbanbaaGreatDoor.V
open Go Go.RowKit
open Go.IntKind (i64 u32 u64 wrap_i64 wrap_u32)
open Enc (enc)
section
variable {U:Uni}{P:Program}{tbl:Tb U}{may:List Nat}{k0:Nat}
theorem gy {α β:Type}(f:α->β):∀l,aM f l=l.map f
 | []=>rfl
 |a::l=>by simp[aM,gy f l]
theorem bq {α β:Type}(f:α->β):∀(l:List α)(i:Nat),nth (aM f l) i=(nth l i).map f
 | [],_=>rfl
 |_::_,0=>rfl
 |_::l,i+1=>bq f l i
@[simp] theorem tx {α β:Type}(f:α->β):∀l:List α,(aM f l).length=l.length
 | []=>rfl
 |_::l=>by simp[aM,tx f l]
theorem eQ {x:Nat}:∀ {l:List Nat},k9 x l=true↔x∈l
 | []=>by simp[k9]
 | y::r=>by
  unfold k9;split
  ·rename_i h;have:=Nat.eq_of_beq_eq_true h;simp[this]
  ·rename_i h;have d:¬x=y:=by rintro rfl;simp at h
   rw[eQ];simp[d]
theorem mY:∀ {l:List Nat},po l=true->l.Nodup
 | [],_=>List.nodup_nil
 | x::r,h=>by
  unfold po at h;split at h
  ·cases h
  ·rename_i hm;refine List.nodup_cons.2 ⟨λd=>?_,mY h⟩;rw[eQ.2 d]at hm;cases hm
theorem bY {α:Type}{f:α->Bool}:∀ {l:List α},iF f l=true↔∀x∈l,f x=true
 | []=>by simp[iF]
 | a::r=>by
  unfold iF;split
  ·rename_i h;rw[bY];simp[h]
  ·rename_i h;simp[h]
theorem Bb {α:Type}{f:α->Bool}:∀ {l:List α},mr f l=true↔∃x∈l,f x=true
 | []=>by simp[mr]
 | a::r=>by
  unfold mr;split
  ·rename_i h;simp[h]
  ·rename_i h;rw[Bb];simp[h]
theorem tw {α β:Type}{f:α->Option β}:∀ {l:List α}{r:List β},iA f l=some r->r.length=l.length/\∀i a,nth l i=some a->∃b,f a=some b/\nth r i=some b
 | [],r,h=>by
  simp only[iA,Option.some.injEq]at h;subst h;exact⟨rfl,λi a hi=>by simp[nth]at hi⟩
 | a::l,r,h=>by
  unfold iA at h;split at h
  ·rename_i b p j k;injection h with h
   subst h;obtain⟨m,o⟩:=tw k;refine⟨by simp[m],λi x d=>?_⟩;cases i with
   |zero=>simp[nth]at d;subst d;exact⟨b,j,rfl⟩
   |succ i=>exact o i x d
  ·cases h
theorem dB {α:Type}:∀(n:Nat)(l:List α),iN n l=l.take n
 |0,_=>by simp[iN]
 |n+1,[]=>by simp[iN]
 |n+1,a::l=>by simp[iN,dB n l]
theorem eu {α:Type}:∀(n:Nat)(l:List α),lu n l=l.drop n
 |0,_=>by simp[lu]
 |n+1,[]=>by simp[lu]
 |n+1,a::l=>by simp[lu,eu n l]
theorem zq {α:Type}:∀(l:List α)(i:Nat)(x:α),bK l i x=l.set i x
 | [],_,_=>by simp[bK]
 |_::_,0,_=>rfl
 |_::l,i+1,x=>by simp[bK,zq l i x]
theorem qf:∀(vs cs:List Value)(o:Nat),setAt ⟨cs⟩ o vs=⟨fB cs o vs⟩
 | [],_,_=>rfl
 | v::r,cs,o=>by
  have e:(Array.mk cs).setIfInBounds o v=⟨bK cs o v⟩:=by apply Array.ext';simp[zq]
  simp only[setAt,fB,e];exact qf r _ _
@[simp] theorem EP {α:Type}:∀(vs cs:List α)(o:Nat),(fB cs o vs).length=cs.length
 | [],_,_=>rfl
 |v::r,cs,o=>by simp[fB,EP r]
theorem lS {α:Type}:∀(vs cs:List α)(o i:Nat),o+vs.length<=cs.length->nth (fB cs o vs) i=if o<=i/\i<o+vs.length then nth vs (i - o)else nth cs i
 | [],cs,o,i,h=>by
  simp only[fB,List.length_nil,Nat.add_zero];rw[if_neg (by omega)]
 | v::r,cs,o,i,h=>by
  simp only[List.length_cons]at h;simp only[fB,List.length_cons];rw[lS r _ _ _ (by simp;omega),bh];by_cases d:o+1<=i/\i<o+1+r.length
  ·rw[if_pos d,if_pos (by omega)];have:i - o=(i - (o+1))+1:=by omega
   rw[this];rfl
  ·rw[if_neg d];by_cases f:i=o
   ·subst f;rw[if_pos ⟨rfl,by omega⟩,if_pos (by omega)];simp[nth]
   ·rw[if_neg (by omega),if_neg (by omega)]
theorem dE {f:Key->Kn->Bool}{key:Key}{k:Kn}:∀ {l:List (Key×Kn)},(key,k)∈dS f l->(key,k)∈l/\f key k=true
 | [],h=>by cases h
 | (a,q)::r,h=>by
  unfold dS at h;split at h
  ·rename_i d;rcases List.mem_cons.1 h with e|h
   ·injection e with i j;subst i;subst j;exact⟨List.mem_cons_self ..,d⟩
   ·have:=dE h;exact⟨List.mem_cons_of_mem _ this.1,this.2⟩
  ·have:=dE h;exact⟨List.mem_cons_of_mem _ this.1,this.2⟩
theorem Key.ng:∀ {a b:Key},a.eq b=true->a=b
 |.s a,.s b,h=>by rw[Nat.eq_of_beq_eq_true h]
 | .c a b,.c x y,h=>by
  simp only[Key.eq,Bool.and_eq_true]at h;rw[Nat.eq_of_beq_eq_true h.1,Nat.eq_of_beq_eq_true h.2]
 | .l a b,.l x y,h=>by
  simp only[Key.eq,Bool.and_eq_true]at h;rw[Nat.eq_of_beq_eq_true h.1,Nat.eq_of_beq_eq_true h.2]
 |.s _,.l _ _,h=>by cases h
 |.l _ _,.s _,h=>by cases h
 |.c _ _,.l _ _,h=>by cases h
 |.l _ _,.c _ _,h=>by cases h
 |.s _,.c _ _,h=>by cases h
 |.c _ _,.s _,h=>by cases h
theorem wu {key:Key}{k:Kn}:∀ {l:List (Key×Kn)},cr key l=some k->(key,k)∈l
 | [],h=>by cases h
 | (a,q)::r,h=>by
  unfold cr at h;split at h
  ·rename_i he;injection h with h
   subst h;rw[Key.ng he];exact List.mem_cons_self ..
  ·exact List.mem_cons_of_mem _ (wu h)
theorem PK.ng:∀ {a b:PK},a.eq b=true->a=b
 | .loc a b,.loc x y,h=>by
  simp only[PK.eq,Bool.and_eq_true]at h;rw[Nat.eq_of_beq_eq_true h.1,Nat.eq_of_beq_eq_true h.2]
 | .obj a b c,.obj x y z,h=>by
  simp only[PK.eq,Bool.and_eq_true]at h;rw[Nat.eq_of_beq_eq_true h.1,Nat.eq_of_beq_eq_true h.2.1,Nat.eq_of_beq_eq_true h.2.2]
 | .sl a b,.sl x y,h=>by
  simp only[PK.eq,Bool.and_eq_true]at h;rw[Nat.eq_of_beq_eq_true h.1,Nat.eq_of_beq_eq_true h.2]
 |.loc ..,.obj ..,h|.loc ..,.sl ..,h|.loc ..,.el ..,h|.obj ..,.loc ..,h|.obj ..,.sl ..,h|.obj ..,.el ..,h|.sl ..,.loc ..,h|.sl ..,.obj ..,h|.sl ..,.el ..,h|.el ..,.loc ..,h|.el ..,.obj ..,h|.el ..,.sl ..,h|.el ..,.el ..,h=>by cases h
theorem Kn.ng {a b:Kn}(h:a.eq b=true):a=b/\∃p,a=.p p:=by
 cases a<;>cases b<;>simp only[Kn.eq]at h<;>first|cases h|skip
 rename_i p q;exact⟨by rw[PK.ng h],p,rfl⟩
def Kn.has(p:PK):Kn->Prop
 |.p k=>k=p
 |.t l=>∃j,nth l j=some (some p)
 |.ag l=>∃j,nth l j=some (some p)
 |.f a b=>(∃j,nth a j=some (some p))\/∃j,nth b j=some (some p)
 |.pan=>False
 |.w k _=>k=p
theorem iJ.mono {rs rs':List (Res U)}{v:Value}{k:Kn}(h:iJ rs v k)(hd:∀p,k.has p->∀u,den U rs p=some u->den U rs' p=some u):iJ rs' v k:=by
 cases k with
 |pan=>exact h
 |p k=>exact hd k rfl _ h
 |w k n=>obtain⟨a,c,i,m⟩:=h;exact⟨a,c,hd k rfl _ i,m⟩
 | t l=>
  obtain⟨vs,i,m⟩:=h;exact⟨vs,i,λj k d=>by obtain⟨u,hu,o⟩:=m j k d;exact⟨u,hu,hd k ⟨j,d⟩ _ o⟩⟩
 | ag l=>
  obtain⟨vs,i,m⟩:=h;exact⟨vs,i,λj k d=>by obtain⟨u,hu,o⟩:=m j k d;exact⟨u,hu,hd k ⟨j,d⟩ _ o⟩⟩
 | f a b=>
  obtain⟨f,fs,cs,i,q,m,r⟩:=h;exact⟨f,fs,cs,i,q,λj k d=>by obtain⟨u,hu,o⟩:=m j k d;exact⟨u,hu,hd k (.inl ⟨j,d⟩) _ o⟩,λj k d=>by obtain⟨u,hu,o⟩:=r j k d;exact⟨u,hu,hd k (.inr ⟨j,d⟩) _ o⟩⟩
theorem gQ {α:Type}:∀ {l:List α}{i:Nat}{x:α},nth l i=some x->x∈l
 |a::l,0,x,h=>by simp[nth]at h;subst h;exact List.mem_cons_self ..
 |a::l,i+1,x,h=>List.mem_cons_of_mem _ (gQ (l:=l) h)
theorem Kn.Cw {k:Kn}{i:Nat}(h:k.ofList i=false){p:PK}(m:k.has p):p.ofList i=false:=by
 have key:∀ {l:List (Option PK)},mr (vX i) l=false->∀j,nth l j=some (some p)->p.ofList i=false:=by
  intro l o j d;cases he:p.ofList i
  ·rfl
  ·have:mr (vX i) l=true:=Bb.2 ⟨some p,gQ d,he⟩;rw[o]at this;cases this
 cases k with
 |pan=>exact m.elim
 |p k=>cases m;exact h
 |w k n=>cases m;exact h
 |t l=>obtain⟨j,d⟩:=m;exact key h j d
 |ag l=>obtain⟨j,d⟩:=m;exact key h j d
 | f a b=>
  simp only[Kn.ofList]at h;split at h
  ·cases h
  ·rename_i q;rcases m with⟨j,d⟩|⟨j,d⟩
   ·exact key q j d
   ·exact key h j d
inductive cD:Res U->Res U->Prop
 |blk (g:Nat)(cs cs':List Value)(T:TypeId):cs.length=cs'.length->cD (.blk g cs T) (.blk g cs' T)
 |ob (t:Nat)(r:Nat->Nat)(s s':U.ty t):cD (.ob t r s) (.ob t r s')
 |lst (t:Nat)(own:Bool)(T:TypeId)(A A':Option Addr)(c c':Nat)(l l':List (U.el t)):cD (.lst t own T A c l) (.lst t own T A' c' l')
theorem cD.refl:∀a:Res U,cD a a
 |.blk g cs T=>.blk g cs cs T rfl
 |.ob t r s=>.ob t r s s
 |.lst t own T A c l=>.lst t own T A A c c l l
theorem cD.den {a b:Res U}(h:cD a b){p:PK}{v:Value}(d:p.ofList p.id=false\/a=b)(hd:bE U p (some a)=some v):bE U p (some b)=some v:=by
 rcases d with d|rfl
 ·cases h<;>cases p<;>simp only[bE,PK.ofList,PK.id,reduceCtorEq]at hd d ⊢ <;>first|exact hd|(simp at d)
 ·exact hd
theorem AU {r r':Res U}{u:Upd U}(h:dI r u=some r'):cD r r':=by
 cases r<;>cases u<;>simp only[dI]at h<;>first|cases h|skip
 ·split at h
  ·rename_i f;injection h with h;subst h
   exact .blk _ _ _ _ (Nat.eq_of_beq_eq_true f).symm
  ·cases h
 ·split at h
  ·rename_i t r s i j d;subst d;injection h with h;subst h
   exact .ob _ _ _ _
  ·cases h
 ·split at h
  ·rename_i t own T A c l i A' c' l' d;subst d;injection h with h;subst h
   exact .lst _ _ _ _ _ _ _ _ _
  ·cases h
theorem cD.trans {a b c:Res U}(h:cD a b)(k:cD b c):cD a c:=by
 cases h<;>cases k
 ·rename_i d _ f;exact .blk _ _ _ _ (d.trans f)
 ·exact .ob _ _ _ _
 ·exact .lst _ _ _ _ _ _ _ _ _
theorem tP {rs rs':List (Res U)}{M:List Nat}(f:∀i,i<rs.length->i ∉ M->nth rs' i=nth rs i)(j:∀i,i∈M->∀a,nth rs i=some a->∃b,nth rs' i=some b/\cD a b)
 {p:PK}(k:p.id ∉ M\/p.ofList p.id=false){v:Value}(hd:den U rs p=some v):den U rs' p=some v:=by
 unfold den at hd ⊢;cases d:nth rs p.id with
 |none=>rw[d]at hd;cases p<;>simp[bE]at hd
 | some a=>
  rw[d]at hd;by_cases hm:p.id∈M
  ·obtain⟨b,l,m⟩:=j _ hm a d;rw[l];exact m.den (.inl (k.elim (λh=>absurd hm h) id)) hd
  ·rw[f _ (aZ d) hm,d];exact hd
theorem fN.Nh {rs:List (Res U)}{fr d:Fr}(h:∀i,lk d.g i d.e=lk fr.g i fr.e){key:Key}{k:Kn}(f:fN rs fr key k):fN rs d key k:=by
 cases key with
 |s i=>show iJ rs (lk d.g i d.e) k;rw[h];exact f
 |c id off=>exact f
 |l id path=>exact f
theorem aH.same {rs:List (Res U)}{fr d:Fr}{kn:List (Key×Kn)}(h:aH rs fr kn)(he:∀i,lk d.g i d.e=lk fr.g i fr.e):aH rs d kn:=λkey k f=>(h key k f).Nh he
theorem aH.app {rs:List (Res U)}{fr:Fr}{a b:List (Key×Kn)}(h:aH rs fr a)(k:aH rs fr b):aH rs fr (a++b):=λkey q hq=>(List.mem_append.1 hq).elim (h key q) (k key q)
theorem aH.nil {rs:List (Res U)}{fr:Fr}:aH rs fr []:=λ_ _ h=>by cases h
theorem aH.get {rs:List (Res U)}{fr:Fr}{kn:List (Key×Kn)}(h:aH rs fr kn){key:Key}{k:Kn}(d:cr key kn=some k):fN rs fr key k:=h _ _ (wu d)
theorem aH.kf {rs:List (Res U)}{fr:Fr}{kn:List (Key×Kn)}(h:aH rs fr kn)(x:Operand):KnO rs (ev fr x) (V.kf kn x):=by
 cases x with
 | tmp t=>
  show KnO rs (lk fr.g t fr.e) (cr (.s t) kn);cases d:cr (.s t) kn with
  |none=>exact trivial
  |some k=>exact h.get d
 |const v=>exact trivial
 |global g=>exact trivial
 |func f=>exact trivial
theorem aH.jo {rs rs':List (Res U)}{fr:Fr}{kn:List (Key×Kn)}{M:List Nat}(h:aH rs fr kn)(m:∀i,i<rs.length->i ∉ M->nth rs' i=nth rs i)(x:∀i,i∈M->∀a,nth rs i=some a->∃b,nth rs' i=some b/\cD a b)
 {y:List (Key×Kn)}(D:∀key k,(key,k)∈y->(key,k)∈kn/\(∀p,k.has p->p.id ∉ M\/p.ofList p.id=false)/\∀id off,key=.c id off->id ∉ M\/∃g cs z T,nth rs id=some (.blk g cs T)/\nth rs' id=some (.blk g z T)/\nth z off=nth cs off):aH rs' fr y:=by
 intro key k hm;obtain⟨F,G,o⟩:=D key k hm;have q:=h key k F;have hd:∀p,k.has p->∀u,den U rs p=some u->den U rs' p=some u:=λp H u hu=>tP m x (G p H) hu;cases key with
 |s i=>exact iJ.mono q hd
 | c id off=>
  obtain⟨g,cs,T,v,d,j,C⟩:=q;rcases o id off rfl with o|⟨S,V,I,W,f,J,L⟩
  ·exact⟨g,cs,T,v,by rw[m _ (aZ d) o];exact d,j,C.mono hd⟩
  ·rw[d]at f;injection f with f
   injection f with f N O
   subst f;subst N;subst O;exact⟨g,I,T,v,J,by rw[L];exact j,C.mono hd⟩
 | l id path=>
  obtain⟨t,r,s,d,j⟩:=q;by_cases hm:id∈M
  ·obtain⟨b,Q,R⟩:=x id hm _ d;cases R;exact⟨t,r,_,Q,j.mono hd⟩
  ·exact⟨t,r,s,by rw[m _ (aZ d) hm];exact d,j.mono hd⟩
theorem vP {key:Key}{k:Kn}:∀ {M:List Nat}{kn:List (Key×Kn)},(key,k)∈ef M kn->(key,k)∈kn/\∀i∈M,k.ofList i=false/\∀off,key≠ .c i off
 | [],kn,h=>⟨h,λi hi=>by cases hi⟩
 | i::r,kn,h=>by
  unfold ef at h;obtain⟨l,m⟩:=vP h;obtain⟨o,d⟩:=dE l;simp only[Bool.and_eq_true,Bool.not_eq_true']at d;refine⟨o,λj f=>?_⟩;rcases List.mem_cons.1 f with rfl|f
  ·refine⟨d.1,λoff e=>?_⟩;subst e;simp at d
  ·exact m j f
theorem aH.ef {rs rs':List (Res U)}{fr:Fr}{kn:List (Key×Kn)}{M:List Nat}(h:aH rs fr kn)(f:∀i,i<rs.length->i ∉ M->nth rs' i=nth rs i)(j:∀i,i∈M->∀a,nth rs i=some a->∃b,nth rs' i=some b/\cD a b):aH rs' fr (V.ef M kn):=by
 refine h.jo f j λkey k l=>?_;obtain⟨m,d⟩:=vP l;refine⟨m,λp o=>?_,λid off e=>?_⟩
 ·by_cases hm:p.id∈M
  ·exact .inr (Kn.Cw (d _ hm).1 o)
  ·exact .inl hm
 ·by_cases hm:id∈M
  ·exact absurd e ((d id hm).2 off)
  ·exact .inl hm
theorem Hh {rs:List (Res U)}{fr f:Fr}{kn:List (Key×Kn)}{d:Nat}{v:Value}{k:Option Kn}(h:aH rs fr kn)(o:KnO rs v k)(p:lk f.g d f.e=v)(r:∀i,i≠d->lk f.g i f.e=lk fr.g i fr.e):aH rs f (Al (.s d) k kn):=by
 have key:aH rs f (dS (λa _=>!(a.eq (.s d))) kn):=by
  intro a q hq;obtain⟨hm,t⟩:=dE hq;have j:=h a q hm;cases a with
  | s i=>
   have u:i≠d:=by rintro rfl;simp[Key.eq]at t
   show iJ rs (lk f.g i f.e) q;rw[r i u];exact j
  |c id off=>exact j
  |l id path=>exact j
 unfold Al;split
 ·exact key
 ·rename_i q;intro a z m;rcases List.mem_cons.1 m with e|m
  ·injection e with x y
   subst x;subst y;show iJ rs (lk f.g d f.e) z;rw[p];exact o
  ·exact key a z m
theorem xW(g:Nat->Value)(d i:Nat)(v:Value)(e:List (Nat×Value)):lk g i ((d,v)::e)=if i=d then v else lk g i e:=by
 simp only[lk];split
 ·rename_i h;rw[if_pos (Nat.eq_of_beq_eq_true h)]
 ·rename_i h;rw[if_neg (by rintro rfl;simp at h)]
theorem jA {n:Nat}{N:List Nat}{fr:Fr}{dst:Option Tmp}{v:Value}{k:Option Kn}{st:St U}{F:Fr->St U->Prop}(h:zI U n N fr dst v k st F)(l:aH st.rs fr st.kn)(m:KnO st.rs v k):
 jl n N fr dst v λj=>∃st',st'.rs=st.rs/\st'.md=st.md/\aH st.rs j st'.kn/\j.ds=fr.ds/\F j st':=by
 unfold zI at h;unfold jl at h ⊢;cases dst with
 |none=>exact⟨st,rfl,rfl,l,rfl,h⟩
 | some d=>
  dsimp only at h ⊢;split at h
  ·rename_i p;have fin:∀u,u=v->F ⟨(d,u)::fr.e,fr.g,fr.ds⟩ {st with kn:=Al (.s d) k st.kn}->∃st':St U,st'.rs=st.rs/\st'.md=st.md/\aH st.rs ⟨(d,u)::fr.e,fr.g,fr.ds⟩ st'.kn/\fr.ds=fr.ds/\F ⟨(d,u)::fr.e,fr.g,fr.ds⟩ st':=by
    intro u hu o;subst hu;exact⟨{st with kn:=Al (.s d) k st.kn},rfl,rfl,Hh l m (by rw[xW,if_pos rfl]) (λi hi=>by rw[xW,if_neg hi]),rfl,o⟩
   split at h
   ·rename_i q;cases v with
    |int r x=>intro z f;exact fin _ (by rw[f]) (h z f)
    |bool x=>intro z f;exact fin _ (by rw[f]) (h z f)
    |_=>exact fin _ rfl h
   ·exact fin _ rfl h
  ·exact h.elim
theorem lh {ops:Array Oper}{o:Oper}{fr:Fr}{yes no t u:Fr->Prop}(h:gI ops o fr yes no)(p:∀f,(∀i,lk f.g i f.e=lk fr.g i fr.e)->f.ds=fr.ds->yes f->t f)(q:∀f,(∀i,lk f.g i f.e=lk fr.g i fr.e)->f.ds=fr.ds->no f->u f):gI ops o fr t u:=by
 unfold gI at h ⊢;split at h
 ·exact p fr (λ_=>rfl) rfl h
 ·rename_i j want x;split at h
  ·rename_i d hd;split at h
   ·rename_i b l;have m:∀r,lk fr.g d fr.e=.bool r->∀i,lk fr.g i ((d,.bool r)::fr.e)=lk fr.g i fr.e:=by
     intro r v i;rw[xW];split
     ·rename_i e;rw[e,v]
     ·rfl
    rcases fT h with⟨rfl,k⟩|⟨rfl,k⟩
    ·refine ab (λ_=>?_) (λe=>by cases e);cases want
     ·exact q _ (m _ l) rfl k
     ·exact p _ (m _ l) rfl k
    ·refine ab (λe=>by cases e) (λ_=>?_);cases want
     ·exact p _ (m _ l) rfl k
     ·exact q _ (m _ l) rfl k
   ·exact q fr (λ_=>rfl) rfl h
   ·exact h.elim
  ·exact h.elim
theorem E1 {o:Oper}{ρ:Operand->Value}{F:Value->Prop}(f:∀v,ρ (.const v)=v)(d:∀t x,o.op≠ .load t x)(h:ql P o ρ F)(w:World):∃v,F v/\∀w',w'.os=w.os->w'.tape=w.tape->w'.output=w.output->(execOp ρ o).run P w'=.ok (.value v) w':=by
 have hw:qk P none o ρ {w with heap:= #[]} F False:=by
  unfold ql qk at h;unfold qk;generalize o.op=op at h d ⊢;cases op<;>first|exact h|exact absurd rfl (d _ _)
 rcases oY f hw with⟨v,i,j⟩|l
 ·exact⟨v,i,λw' m p q=>j w' ⟨m,p,q,Nat.zero_le _,λk r=>absurd r (Nat.not_lt_zero _)⟩⟩
 ·exact l.elim
def rdX(o:Oper)(kn:List (Key×Kn))(X:Nat->Nat->Prop):Nat->Prop:=
 match o.op with
 | .load _ x=>(match V.kf kn x with
  |some (.p k)=>X k.id
  |_=>λ_=>False)
 |_=>λ_=>False
theorem CH {s:TypeId}{x:Value}{f:Nat}{F:Value->Prop}(h:j8 P s x f F):∃fields fd p,P.underlying s=some (.struct fields)/\fields[f]? =some fd/\x=.pointer (some p)/\F (.pointer (some (p.add fd.offset)))/\∀w,(Instr.fieldAt s x f).run P w=.ok (.pointer (some (p.add fd.offset))) w:=by
 have key:∀fields fd p,P.underlying s=some (.struct fields)->fields[f]? =some fd->x=.pointer (some p)->∀w,(Instr.fieldAt s x f).run P w=.ok (.pointer (some (p.add fd.offset))) w:=by
  intro fields fd p l m o w;have q:j8 P s x f λv=>v=.pointer (some (p.add fd.offset)):=by
   unfold j8 at h ⊢;subst o;rw[l]at h ⊢;simp only at h ⊢;rw[m]at h ⊢;simp only at h ⊢;split at h
   ·rename_i i hi;split at h
    ·exact ah p rfl rfl
    ·exact h.elim
   ·exact h.elim
  obtain⟨v,r,t⟩:=tM q;rw[t w,r]
 have y:=h;unfold j8 at h;split at h
 ·rename_i fields d;split at h
  ·rename_i fd j;split at h
   ·split at h
    ·split at h
     ·obtain⟨p,k,u⟩:=cm h;exact⟨fields,fd,p,d,j,by rw[k],u,key fields fd p d j (by rw[k])⟩
     ·exact h.elim
    ·exact h.elim
   ·exact h.elim
  ·exact h.elim
 ·exact h.elim
theorem Hq {t:TypeId}{p:Addr}{i:Value}{F:Value->Prop}(h:mq P t (.pointer (some p)) i F):∃n e k ix,P.underlying t=some (.array n e)/\i=.int k ix/\F (.pointer (some (p.add (ix.toNat *aS P e))))/\∀w,(Instr.indexAt t (.pointer (some p)) i).run P w=.ok (.pointer (some (p.add (ix.toNat *aS P e)))) w:=by
 unfold mq at h;cases hu:P.underlying t with
 |none=>rw[hu]at h;exact h.elim
 | some d=>
  rw[hu]at h;cases d<;>first|exact h.elim|skip
  rename_i n e;cases i<;>first|exact h.elim|skip
  rename_i k ix;simp only at h;split at h
  ·rename_i he;obtain⟨f,h⟩:=h;obtain⟨q,hq,j⟩:=cm h;injection hq with hq
   subst hq;refine⟨n,e,k,ix,rfl,rfl,j,λw=>?_⟩;have l:mq P t (.pointer (some p)) (.int k ix) λv=>v=.pointer (some (p.add (ix.toNat *aS P e))):=by
    unfold mq;rw[hu];simp only[he];exact⟨f,ah p rfl rfl⟩
   obtain⟨v,m,o⟩:=jF l;rw[o w,m]
  ·exact h.elim
theorem JI {t e:TypeId}{A:Option Addr}{n c:Nat}{k:IntKind}{ix:Int}{p:Addr}(d:P.underlying t=some (.slice e))(he:hasType P e=true)(f:0<=ix/\ix<n)(h:A=some p)(w:World):(Instr.indexAt t (.slice A n c) (.int k ix)).run P w=.ok (.pointer (some (p.add (ix.toNat *aS P e)))) w:=by
 have i:mq P t (.slice A n c) (.int k ix) λv=>v=.pointer (some (p.add (ix.toNat *aS P e))):=by
  unfold mq;rw[d];simp only[he];exact⟨f,ah p h rfl⟩
 obtain⟨v,j,l⟩:=jF i;rw[l w,j]
theorem RS.rd {X:Nat->Prop}{w:World}{t:Nat}{own:Bool}{T:TypeId}{A:Option Addr}{c:Nat}{l:List (U.el t)}(h:RS X w (.lst t own T A c l)):Rd w X A l.length c l:=by
 cases own
 ·exact h
 ·have d:Rd w (λk=>X k/\k<w.heap.size) A l.length c l:=h.1.rd;exact d.mono (λk f=>f.1) h.2
theorem RS.ls {X:Nat->Prop}{w:World}{r:Res U}{li:Nat}{L:Ls U.el}(h:RS X w r)(d:fQ r li=some L):Rd w X L.A L.l.length L.c L.l:=by
 unfold fQ at d;split at d
 ·injection d with d
  subst d;exact RS.rd h
 ·exact U.qt h d
 ·cases d
theorem cv {α:Type}{o:Option α}{F:α->Prop}(h:fI o F):∃a,o=some a/\F a:=by
 cases o with
 |none=>exact h.elim
 |some a=>exact⟨a,rfl,h⟩
theorem jB {t:TypeId}{cs:List Value}{off:Nat}{v:Value}(h:cW P t cs off=some v){w:World}{p:Addr}(k:∀j u,j<aS P t->nth cs (off+j)=some u->w.cell? (p.add j)=some u):(Instr.loadAt t (.pointer (some p))).run P w=.ok v w:=by
 unfold cW at h;split at h
 ·rename_i q;simp only[Bool.and_eq_true]at q;obtain⟨m,G,z,C⟩:=q;have C:off+aS P t<=cs.length:=Nat.le_of_ble_eq_true C;have f:gF (dg P t)=aS P t:=Nat.eq_of_beq_eq_true z;refine kM (s:=dg P t) m G z ?_;have hd:∀j,nth (cs.drop off) j=nth cs (off+j):=λj=>by rw[aO,aO,List.getElem?_drop]
  split at h
  ·rename_i s d;have:=k 0 v (by rw[<-f,d];simp[gF]) (by simpa using h);rw[d];simpa[gS,Addr.add]using this
  ·rename_i l d;injection h with h
   subst h;rw[d]at f ⊢;simp only[gF]at f;have hlen:(cs.drop off |>.take l.length).length=l.length:=by simp;omega
   simp only[gS,dB,eu,hlen,Nat.beq_refl];have key:∀(vs:List Value)(i:Nat),(∀j u,vs[j]? =some u->w.cell? (p.add (i+j))=some u)->ar w p i vs:=by
    intro vs
    induction vs with
    |nil=>intro _ _;exact trivial
    | cons x r H=>
     intro i D;have F:=D 0 x rfl;have m:=H (i+1) λj u hu=>by rw[show i+1+j=i+(j+1)by omega];exact D (j+1) u (by simpa using hu)
     cases r with
     |nil=>exact F
     |cons y r=>exact⟨F,m⟩
   refine key _ 0 λj u hu=>?_;rw[Nat.zero_add];have o:j<l.length:=by have:=(List.getElem?_eq_some_iff.1 hu).1;omega
   refine k j u (by omega) ?_;rw[aO,<-List.getElem?_drop,<-hu,List.getElem?_take,if_pos o]
  ·rename_i n d;injection h with h
   subst h;rw[d]at f ⊢;simp only[gF]at f;refine⟨by simp[dB,eu];omega,λj u hu=>?_⟩;simp only[dB,eu]at hu;have o:j<n:=by
    have:=(Array.getElem?_eq_some_iff.1 hu).1;simp at this;omega
   refine k j u (by omega) ?_;rw[aO,<-List.getElem?_drop];have:((cs.drop off).take n)[j]? =some u:=by simpa using hu
   rwa[List.getElem?_take,if_pos o]at this
 ·cases h
theorem Kept.AM {B:Nat->Prop}{w w':World}(k:Kept B w w'){p:Addr}(d:B p.block){v:Value}(h:w.cell? p=some v):w'.cell? p=some v:=(k.cell d).trans h
theorem nM:∀ {n k j i:Nat},nth (upN n k) j=some i->i=n+j
 |n,0,j,i,h=>by simp[upN,nth]at h
 |n,k+1,0,i,h=>by simp[upN,nth]at h;omega
 |n,k+1,j+1,i,h=>by have:=nM (n:=n+1) (k:=k) (j:=j) h;omega
theorem jQ:∀(n k:Nat),(upN n k).length=k
 |_,0=>rfl
 |n,k+1=>by simp[upN,jQ (n+1) k]
theorem E3 {o:Option Kn}{p:PK}(h:jm o=some p):o=some (.p p):=by
 unfold jm at h;split at h
 ·injection h with h;rw[h]
 ·cases h
theorem FA {st:St U}{fr:Fr}{id off g:Nat}{cs:List Value}{T t:TypeId}{v:Value}(q:aH st.rs fr st.kn)(r:nth st.rs id=some (.blk g cs T))(d:cW P t cs off=some v)(k:kJ P t=false):KnO st.rs v (CL id off st.kn v):=by
 unfold CL;split
 ·rename_i v2 o;split
  ·refine⟨o,rfl,λj p f=>?_⟩;rw[bq]at f;cases hu:nth (upN 0 o.toList.length) j with
   |none=>rw[hu]at f;cases f
   | some i=>
    rw[hu]at f;have x:i=j:=by have:=nM hu;omega
    subst x;have l:=aZ hu;rw[jQ]at l;injection f with f
    obtain⟨D,F,G,u,h,y,z⟩:=q.get (E3 f);rw[r]at h;injection h with h
    injection h with _ h _
    subst h;refine⟨u,?_,z⟩;have key:∀m,i<(iN m (lu off cs)).length->(iN m (lu off cs))[i]? =some u:=λm hm=>by
     rw[dB,eu]at hm ⊢;rw[List.getElem?_take,if_pos (by simp at hm;omega),List.getElem?_drop,<-aO];exact y
    unfold cW at d;unfold kJ at k;split at d
    ·split at d
     ·rename_i C;rw[C]at k;cases k
     ·injection d with d;injection d with d
      subst d;simpa using key _ l
     ·injection d with d;injection d with d
      subst d;simpa using key _ l
    ·cases d
  ·trivial
 ·trivial
theorem Lo {t:TypeId}{id li off:Nat}{i:Int}{r:Res U}{rs:List (Res U)}{X:Nat->Prop}{w:World}{L:Ls U.el}{y:U.el L.t}{v:Value}(m:RS X w r)(o:nth rs id=some r)(p:fQ r li=some L)(u:L.l[i.toNat]? =some y)(d:cW P t ((U.en L.t).enc y) off=some v):KnO rs v (neK U P t id li i off r):=by
 unfold neK;split
 ·rename_i tt q s;split
  ·rename_i l;simp only[Bool.and_eq_true]at l;obtain⟨x,f,h⟩:=l;have h:off=0:=Nat.eq_of_beq_eq_true h;subst h;obtain⟨j,z,C⟩:=U.DZ (t:=tt) (r:=q) (s:=s) m x p u;have hu:v=.slice j.A j.l.length j.c:=by
    rw[C]at d;unfold cW at d;unfold kJ at f;split at d
    ·split at d
     ·injection d with d;exact d.symm
     ·rename_i k;rw[k]at f;cases f
     ·rename_i k;rw[k]at f;cases f
    ·cases d
   show den U rs (.sl id (i.toNat+1))=some v;simp only[den,PK.id,o,bE,fQ,z,hu]
  ·trivial
 ·trivial
theorem wm {t:TypeId}{x:Value}{k:Option Kn}{st:St U}{X:Nat->Nat->Prop}{w:World}{K:Value->Option Kn->Prop}(J:Sat st.rs X w){fr:Fr}(hk:aH st.rs fr st.kn)(Q:KnO st.rs x k)(h:wo U P t k st K):
 ∃v kv,K v kv/\KnO st.rs v kv/\∀w',Kept (match k with|some (.p k)=>X k.id|_=>λ_=>False) w w'->(Instr.loadAt t x).run P w'=.ok v w':=by
 unfold wo at h;split at h
 ·rename_i id off;split at h
  ·rename_i g cs T m;obtain⟨v,d,D⟩:=cv h;have hd:den U st.rs (.loc id off)=some x:=Q;simp only[den,PK.id,m,bE,Option.some.injEq]at hd;subst hd;obtain⟨R,S,V⟩:=J.res id _ m;refine⟨v,_,D,?_,λw' hw=>jB d λj u W hu=>?_⟩
   ·cases C:kJ P t
    ·exact FA hk m d C
    ·simp only;cases hq:cr (.c id off) st.kn with
     |none=>exact trivial
     | some q=>
      obtain⟨g',a6,T',u,z,M,e3⟩:=hk.get hq;rw[m]at z;injection z with z
      injection z with _ z _
      subst z;have:v=u:=by
       unfold cW at d;unfold kJ at C;split at d
       ·split at d
        ·rw[M]at d;injection d with d;exact d.symm
        ·rename_i G;rw[G]at C;cases C
        ·rename_i G;rw[G]at C;cases C
       ·cases d
      rw[this];exact e3
   ·refine Kept.AM hw (by rw[block_add];exact R) ?_;rw[bn];exact V.cell (by rw[aO]at hu;simpa using hu)
  ·exact h.elim
 ·rename_i id path off;split at h
  ·rename_i tt r s m;split at h
   rotate_left
   ·split at h
    ·rename_i c cs aN;obtain⟨N,h⟩:=h;obtain⟨v,d,D⟩:=cv h;have hd:den U st.rs (.obj id path off)=some x:=Q;simp only[den,PK.id,m,bE,Option.some.injEq]at hd;subst hd;obtain⟨S,a0⟩:=U.sq (J.res id _ m) aN N;refine⟨v,_,D,trivial,λw' hw=>jB d λj u W hu=>?_⟩;refine Kept.AM hw (by rw[block_add];exact S) ?_;rw[Nat.zero_add,aO]at hu;rw[bn];exact a0 j u hu
    ·exact h.elim
   ·rename_i f hf;obtain⟨u,hu,h⟩:=cv h;obtain⟨v,d,D⟩:=cv h;have hd:den U st.rs (.obj id path off)=some x:=Q;simp only[den,PK.id,m,bE,Option.some.injEq]at hd;subst hd;obtain⟨S,N⟩:=U.tI (J.res id _ m) hf hu;refine⟨v,_,D,?_,λw' hw=>jB d λj y W H=>?_⟩
    ·cases C:kJ P t
     ·exact trivial
     ·have a1:u=v:=by
       unfold cW at d;unfold kJ at C;split at d
       ·split at d
        ·injection d
        ·rename_i G;rw[G]at C;cases C
        ·rename_i G;rw[G]at C;cases C
       ·cases d
      subst a1;cases f with
      |v y=>exact trivial
      | o p o=>
       have aA:den U st.rs (.obj id p o)=some u:=by
        simp only[den,PK.id,m,bE];exact hu
       cases o with
       |succ o=>exact aA
       | zero=>
        show KnO st.rs u (match cr (.l id p) st.kn with
         |some k=>some k
         |none=>some (.p (.obj id p 0)))
        cases hl:cr (.l id p) st.kn with
        |none=>exact aA
        | some k=>
         obtain⟨t',r',s',z,M⟩:=hk.get hl;rw[m]at z;injection z with z
         cases z;simp only[fvV,Option.some.injEq]at hu;rw[<-hu];exact M
      | l i=>
       show den U st.rs (.sl id i)=_;simp only[den,PK.id,m,bE];simp only[fvV]at hu;simp only[fQ];cases I:U.li tt r s i with
       |none=>rw[I]at hu;cases hu
       |some L=>simp only[I]at hu ⊢;exact hu
    ·cases j with
     | zero=>
      simp only[Nat.zero_add,nth,Option.some.injEq]at H;subst H;exact Kept.AM hw (by rw[block_add];exact S) N
     |succ j=>simp[nth]at H
  ·exact h.elim
 ·rename_i id li i off;split at h
  ·rename_i r m;split at h
   ·rename_i L I;have hd:den U st.rs (.el id li i off)=some x:=Q;simp only[den,PK.id,m,bE,I]at hd;split at hd
    ·rename_i V;injection hd with hd
     subst hd;have hr:=(J.res id _ m).ls I;obtain⟨p,y,hA,H,hZ,N⟩:=hr.ld V.1 V.2;split at h
     ·rename_i _ ho;have ho:off=0:=Nat.eq_of_beq_eq_true ho;subst ho;split at h
      ·rename_i O;have O:(U.en L.t).size=1:=Nat.eq_of_beq_eq_true O;obtain⟨hle,h⟩:=h;obtain⟨v,d,D⟩:=cv h;refine⟨v,_,D,trivial,λw' hw=>jB d λj u W hu=>?_⟩;rw[Nat.zero_add,lx,bq]at hu;cases an:nth (upN 0 (aS P t)) j with
       |none=>rw[an]at hu;cases hu
       | some F=>
        rw[an]at hu;have a2:F=j:=by have:=nM an;omega
        subst a2;have a3:=aZ an;rw[jQ]at a3;injection hu with hu
        have aC:=List.getElem?_eq_getElem (l:=L.l) (i:=i.toNat+F) (by omega);obtain⟨p',az,a7,a4⟩:=hr.cell _ _ aC;rw[hA]at az;injection az with az
        subst az;have h0:=a4 0 (by show 0<(U.en L.t).size;omega);have z:elA U L.t L.A i 0=p.add i.toNat:=by unfold elA;rw[hA,O];simp[Addr.add]
        rw[z];refine Kept.AM hw (by rw[block_add,block_add];exact hZ) ?_;have M:(p.add ((i.toNat+F)*Enc.size (U.el L.t))).add 0=(p.add i.toNat).add F:=by
         rw[show Enc.size (U.el L.t)=1 from O,add_add,add_add,Nat.mul_one,Nat.add_zero]
        rw[M]at h0;have hu:hd1 (enc (L.l.getD (i.toNat+F) (U.df L.t)))=u:=hu;rw[h0,<-hu,List.getD_eq_getElem?_getD,aC];show(enc L.l[i.toNat+F])[0]? =some (hd1 (enc L.l[i.toNat+F]));have hl:(enc L.l[i.toNat+F]).length=1:=by rw[bM];exact O
        match he:enc L.l[i.toNat+F],hl with
        | [a],_=>rfl
      ·exact h.elim
     obtain⟨v,d,D⟩:=cv h;have R:L.l.getD i.toNat (U.df L.t)=y:=by rw[List.getD_eq_getElem?_getD,H];rfl
     refine⟨v,_,D,Lo (J.res id _ m) m I H (R▸d),λw' hw=>jB d λj u W hu=>?_⟩;rw[R]at hu;have a5:off+j<Enc.size (U.el L.t):=by have:=aZ hu;rw[<-bM y];exact this
     have h2:=N (off+j) a5;refine Kept.AM hw ?_ ?_
     ·unfold elA;rw[hA];simp only[Option.getD_some,block_add];exact hZ
     ·unfold elA;rw[hA];simp only[Option.getD_some];rw[add_add];rw[aO]at hu;exact h2.trans hu
    ·cases hd
   ·exact h.elim
  ·exact h.elim
 ·exact h.elim
theorem z8(ρ:Operand->Value)(a:Array Operand):(⟨aM ρ a.toList⟩:Array Value)=a.map ρ:=by
 apply Array.ext';simp[gy]
theorem AB {rs:List (Res U)}{cs:List Value}:∀ {l:List (Nat×PK)}{F:Prop},LJ rs cs l F->F/\∀o p,(o,p)∈l->den U rs p=nth cs o
 | [],F,h=>⟨h,λ_ _ h=>by cases h⟩
 | (a,b)::l,F,h=>by
  obtain⟨d,f⟩:=AB h.2;refine⟨d,λo p hm=>?_⟩;rcases List.mem_cons.1 hm with e|hm
  ·injection e with i j;subst i;subst j;exact h.1
  ·exact f o p hm
theorem tW {j:Nat}{p:PK}:∀ {l:List (Nat×PK)},yq j l=some p->(j,p)∈l
 | (a,b)::l,h=>by
  unfold yq at h;split at h
  ·rename_i he;injection h with h
   subst h;rw[<-Nat.eq_of_beq_eq_true he];exact List.mem_cons_self ..
  ·exact List.mem_cons_of_mem _ (tW h)
theorem Lm {rs:List (Res U)}{p q:PK}{l:Nat}{v:Value}{a:Addr}(h:PK.on l p=some q)(d:den U rs p=some v)(hq:den U rs q=some (.pointer (some a))):∃b,v=.pointer (some b)/\a=b.add l:=by
 cases p<;>simp only[PK.on,Option.some.injEq,reduceCtorEq]at h
 ·rename_i id off;subst h;unfold den at d hq;simp only[PK.id]at d hq;cases f:nth rs id with
  |none=>rw[f]at d;simp[bE]at d
  | some r=>
   rw[f]at d hq;cases r<;>simp only[bE,reduceCtorEq,Option.some.injEq,Value.pointer.injEq]at d hq
   exact⟨_,d.symm,by rw[<-hq,bn]⟩
 ·rename_i id path off;subst h;unfold den at d hq;simp only[PK.id]at d hq;cases f:nth rs id with
  |none=>rw[f]at d;simp[bE]at d
  | some r=>
   rw[f]at d hq;cases r<;>simp only[bE,reduceCtorEq,Option.some.injEq,Value.pointer.injEq]at d hq
   exact⟨_,d.symm,by rw[<-hq,bn]⟩
theorem Ah {d l:Nat}:∀ {o:Option Value},Lw d o=some l->(o=none/\l=d)\/∃k,o=some (.int k (l:Int))
 |none,h=>.inl ⟨rfl,by injection h with h;exact h.symm⟩
 |some (.int k (.ofNat n)),h=>.inr ⟨k,by injection h with h;rw[h];rfl⟩
theorem Gi {t:TypeId}{k:Option Kn}{lo hi:Option Value}{st:St U}{K:Value->Option Kn->Prop}{v:Value}(f:KnO st.rs v k)(h:KP U P t k lo hi st K):∃(a:Value)(n:Nat)(k':Option Kn),K a k'/\KnO st.rs a k'/\mS P t v lo hi none (λu=>u=a) False:=by
 unfold KP at h;split at h
 ·rename_i n e p l r x;split at h
  ·rename_i d q y z;split at h
   ·rename_i u a j hq m;simp only[Bool.and_eq_true]at m;obtain⟨C,i,D,hle⟩:=m;have i:aS P e=1:=Nat.eq_of_beq_eq_true i;rw[Nat.blt_eq]at D;have hle:d<=n:=Nat.le_of_ble_eq_true hle;obtain⟨b,rfl,rfl⟩:=Lm z j hq;have f:den U st.rs p=some v:=f;rw[j]at f;injection f with f
    subst f;refine⟨_,0,_,h,⟨_,_,hq,rfl⟩,?_⟩;unfold mS;rw[r];simp only[C,Option.isNone_none,Bool.true_or,Bool.and_self];refine ah b rfl ?_;have o:qI lo d λl'=>∀a',a'=some (if n=l' then b else b.add (l'*aS P e))->∀n',n'=d - l'->∀c',c'=n - l'->Value.slice a' n' c'=.slice (some (b.add l)) (d - l) (n - l):=by
     have fin:∀a',a'=some (if n=l then b else b.add (l*aS P e))->∀n',n'=d - l->∀c',c'=n - l->Value.slice a' n' c'=.slice (some (b.add l)) (d - l) (n - l):=by
      rintro _ rfl _ rfl _ rfl;rw[if_neg (by omega),i,Nat.mul_one]
     rcases Ah x with⟨rfl,rfl⟩|⟨k,rfl⟩
     ·exact fin
     ·refine⟨⟨by omega,by omega⟩,?_⟩;rw[Int.toNat_natCast];exact fin
    rcases Ah y with⟨rfl,rfl⟩|⟨k,rfl⟩
    ·exact o
    ·refine⟨⟨by omega,by show(d:Int)<=(n:Nat);omega⟩,?_⟩;rw[Int.toNat_natCast];exact o
   ·exact h.elim
  ·exact h.elim
 ·exact h.elim
theorem wi {o:Oper}{fr:Fr}{st:St U}{X:Nat->Nat->Prop}{w:World}{K:Value->Option Kn->Prop}(hS:Sat st.rs X w)(R:aH st.rs fr st.kn)(h:od U P o (ev fr) st K):
 ∃v k,K v k/\KnO st.rs v k/\∀w',Kept (rdX o st.kn X) w w'->(execOp (ev fr) o).run P w'=.ok (.value v) w':=by
 have hc:∀v,ev fr (.const v)=v:=λ_=>rfl;have hp:∀F:Value->Prop,(∀t x,o.op≠ .load t x)->ql P o (ev fr) F->∃v,F v/\∀w',Kept (rdX o st.kn X) w w'->(execOp (ev fr) o).run P w'=.ok (.value v) w':=λF hl hF=>by
  obtain⟨v,z,G⟩:=E1 hc hl hF w;exact⟨v,z,λw' hw=>G w' hw.os hw.tape hw.output⟩
 have aN:(∀t x,o.op≠ .load t x)->ql P o (ev fr) (λv=>K v none)->∃v k,K v k/\KnO st.rs v k/\∀w',Kept (rdX o st.kn X) w w'->(execOp (ev fr) o).run P w'=.ok (.value v) w':=λhl hF=>by
  obtain⟨v,z,G⟩:=hp _ hl hF;exact⟨v,none,z,trivial,G⟩
 obtain⟨dst,op,ty,pos,after,guard⟩:=o;cases op<;>first
  |exact aN (λ_ _ e=>by cases e) h
  |skip
 case move x=>exact⟨_,_,h,R.kf x,λ_ _=>rfl⟩
 case assign x=>exact⟨_,_,h,R.kf x,λ_ _=>rfl⟩
 case build t ps=>
  obtain⟨v,z,G⟩:=hp _ (λ_ _ e=>by cases e) h;unfold HW at z;split at z
  ·exact⟨v,none,z,trivial,G⟩
  ·split at z
   ·rename_i cs;obtain⟨z,h3⟩:=AB z;refine⟨_,_,z,⟨cs,rfl,λj k C=>?_⟩,G⟩;rw[bq]at C;cases m:nth (upN 0 cs.toList.length) j with
    |none=>rw[m]at C;cases C
    | some i=>
     rw[m]at C;have a2:i=j:=by have:=nM m;omega
     subst a2;injection C with C
     have:=h3 _ _ (tW C);have a0:=aZ m;rw[jQ]at a0;obtain⟨u,hu⟩:=bW (l:=cs.toList) (i:=i) a0;exact⟨u,by rw[aO]at hu;simpa using hu,by rw[this,hu]⟩
   ·exact z.elim
 case load t x=>
  obtain⟨v,kv,z,G,h3⟩:=wm hS R (R.kf x) h;refine⟨v,kv,z,G,λw' hw=>?_⟩;have:=h3 w' hw;simp[execOp,this]
 case nilCheck x=>
  simp only[od]at h;split at h
  ·rename_i p d;refine⟨_,_,h,by rw[<-d];exact R.kf x,λw' _=>?_⟩;simp[execOp,d]
  ·exact h.elim
 case fieldAddr s x f=>
  have h:j8 P s (ev fr x) f (λv=>K v (yb P s f (V.kf st.kn x))):=h;obtain⟨fields,fd,p,z,G,h3,h4,h5⟩:=CH h;refine⟨_,_,h4,?_,λw' _=>by simp[execOp,h5]⟩;have d:=R.kf x;rw[h3]at d;unfold yb;split
  ·rename_i k I;rw[I]at d;rw[z];simp only[G];have d:den U st.rs k=some (.pointer (some p)):=d;cases k with
   | loc id off=>
    show den U st.rs _=_;unfold den at d ⊢;simp only[PK.id]at d ⊢;cases m:nth st.rs id with
    |none=>rw[m]at d;simp[bE]at d
    | some r=>
     rw[m]at d;cases r<;>simp only[bE,reduceCtorEq,Option.some.injEq,Value.pointer.injEq]at d ⊢
     rw[<-d,bn]
   | el id li i off=>
    show den U st.rs _=_;unfold den at d ⊢;simp only[PK.id]at d ⊢;cases m:nth st.rs id with
    |none=>rw[m]at d;simp[bE]at d
    | some r=>
     rw[m]at d;simp only[bE]at d ⊢;cases D:fQ r li with
     |none=>rw[D]at d;cases d
     | some L=>
      simp only[D]at d ⊢;split at d
      ·rename_i M;rw[if_pos M];injection d with d
       injection d with d
       injection d with d
       rw[<-d];unfold elA;rw[<-add_add]
      ·cases d
   | obj id path off=>
    show den U st.rs _=_;unfold den at d ⊢;simp only[PK.id]at d ⊢;cases m:nth st.rs id with
    |none=>rw[m]at d;simp[bE]at d
    | some r=>
     rw[m]at d;cases r<;>simp only[bE,reduceCtorEq,Option.some.injEq,Value.pointer.injEq]at d ⊢
     rw[<-d,bn]
   |sl _ _=>exact trivial
  ·exact trivial
 case sliceToArrayPointer arr x=>
  simp only[od]at h;have d:=R.kf x;split at h
  ·rename_i id li I;rw[I]at d;have d:den U st.rs (.sl id li)=some (ev fr x):=d;split at h
   ·rename_i r n e m Q;split at h
    ·rename_i L D;simp only[den,PK.id,m,bE,D,Option.some.injEq]at d;obtain⟨⟨h0,hle⟩,J⟩:=h;obtain⟨p,y,S,_⟩:=((hS.res id _ m).ls D).ld (i:=0) (by omega) (by omega);have e1:elA U L.t L.A 0 0=p:=by unfold elA;rw[S];simp[Addr.add]
     obtain⟨v,H,O⟩:=hp (λv=>v=.pointer (some p)) (λ_ _ e=>by cases e) (by
      show(match P.underlying arr,ev fr x with
       |some (.array n _),.slice a len _=>n<=len/\Value.pointer a=.pointer (some p)
       |_,_=>False)
      rw[Q,<-d,S];exact⟨hle,rfl⟩)
     subst H;rw[e1]at J;refine⟨_,_,J,?_,O⟩;show den U st.rs (.el id li 0 0)=_;simp only[den,PK.id,m,bE,D];rw[if_pos (by omega),e1]
    ·exact h.elim
   ·exact h.elim
  ·rename_i q n I;rw[I]at d;obtain⟨a,c,z,G⟩:=(d:∃a c,den U st.rs q=some (.pointer (some a))/\ev fr x=.slice (some a) n c);split at h
   ·rename_i N e v Q hd;rw[z]at hd;injection hd with hd
    subst hd;split at h
    ·rename_i hle;obtain⟨v,H,O⟩:=hp (λv=>v=.pointer (some a)) (λ_ _ e=>by cases e) (by
      show(match P.underlying arr,ev fr x with
       |some (.array n _),.slice a len _=>n<=len/\Value.pointer a=.pointer (some _)
       |_,_=>False)
      rw[Q,G];exact⟨Nat.le_of_ble_eq_true hle,rfl⟩)
     subst H;exact⟨_,_,h,z,O⟩
    ·exact h.elim
   ·exact h.elim
  ·exact h.elim
 case indexAddr t x i=>
  simp only[od]at h;have d:=R.kf x;split at h
  ·rename_i id li k ix I hi;rw[I]at d;have d:den U st.rs (.sl id li)=some (ev fr x):=d;split at h
   ·rename_i r e m Q;split at h
    ·rename_i L D;simp only[den,PK.id,m,bE,D,Option.some.injEq]at d;split at h
     ·rename_i he;simp only[Bool.and_eq_true]at he;have aA:aS P e=(U.en L.t).size:=Nat.eq_of_beq_eq_true he.2;obtain⟨M,J⟩:=h;obtain⟨p,y,S,_⟩:=((hS.res id _ m).ls D).ld M.1 M.2;have H:elA U L.t L.A ix 0=p.add (ix.toNat *aS P e):=by
       unfold elA;rw[S,aA];simp[Addr.add]
      refine⟨_,_,J,?_,λw' _=>?_⟩
      ·show den U st.rs (.el id li ix 0)=_;simp only[den,PK.id,m,bE,D];rw[if_pos M]
      ·have:=JI (P:=P) (c:=L.c) (k:=k) Q he.1 M S w';rw[H];simp[execOp,<-d,hi,this]
     ·exact h.elim
    ·exact h.elim
   ·exact h.elim
  ·rename_i id path off k ix I hi;rw[I]at d;have d:den U st.rs (.obj id path off)=some (ev fr x):=d;split at h
   ·rename_i tt r s li n e m W Q;split at h
    ·rename_i L D;simp only[den,PK.id,m,bE,Option.some.injEq]at d;split at h
     ·rename_i he;simp only[Bool.and_eq_true]at he;have aA:aS P e=(U.en L.t).size:=Nat.eq_of_beq_eq_true he.2;obtain⟨⟨M,an⟩,J⟩:=h;unfold Uni.ix1 at W;rw[m]at W;have S:=U.qv W D;have hM:mq P t (ev fr x) (ev fr i) (λv=>v=.pointer (some ((Addr.mk (r path) off none).add (ix.toNat *aS P e)))):=by
       unfold mq;rw[Q,<-d,hi];simp only[he.1];exact⟨⟨M.1,an⟩,ah _ rfl rfl⟩
      obtain⟨v,H,O⟩:=jF hM;have az:elA U L.t L.A ix 0=(Addr.mk (r path) off none).add (ix.toNat *aS P e):=by
       unfold elA;rw[S,aA];simp[Addr.add]
      refine⟨_,_,J,?_,λw' _=>?_⟩
      ·show den U st.rs (.el id li ix 0)=_;simp only[den,PK.id,m,bE,fQ,D];rw[if_pos M]
      ·rw[az,<-H];simp[execOp,O]
     ·split at h
      ·rename_i he;simp only[Bool.and_eq_true]at he;have z:(U.en L.t).size=1:=Nat.eq_of_beq_eq_true he.2.1;have a7:0<aS P e:=by have:=he.2.2;rwa[Nat.blt_eq]at this
       obtain⟨⟨M,an⟩,J⟩:=h;unfold Uni.ix1 at W;rw[m]at W;have S:=U.qv W D;have hM:mq P t (ev fr x) (ev fr i) (λv=>v=.pointer (some ((Addr.mk (r path) off none).add (ix.toNat *aS P e)))):=by
        unfold mq;rw[Q,<-d,hi];simp only[he.1];exact⟨M,ah _ rfl rfl⟩
       obtain⟨v,H,O⟩:=jF hM;obtain⟨k,rfl⟩:∃k:Nat,ix=(k:Int):=⟨ix.toNat,by omega⟩;rw[Int.toNat_natCast]at an;have hmul:(k+1)*aS P e=k*aS P e+aS P e:=by rw[Nat.add_mul,Nat.one_mul]
       have aC:((k:Int)*(aS P e:Nat)).toNat=k*aS P e:=by rw[<-Int.natCast_mul,Int.toNat_natCast]
       have az:elA U L.t L.A ((k:Int)*(aS P e:Nat)) 0=(Addr.mk (r path) off none).add (k*aS P e):=by
        unfold elA;rw[S,aC,z];simp[Addr.add]
       refine⟨_,_,J,?_,λw' _=>?_⟩
       ·show den U st.rs (.el id li ((k:Int)*(aS P e:Nat)) 0)=_;simp only[den,PK.id,m,bE,fQ,D];rw[if_pos ⟨by rw[<-Int.natCast_mul];omega,by rw[<-Int.natCast_mul];omega⟩]
       ·rw[Int.toNat_natCast]at H;rw[az,<-H];simp[execOp,O]
      ·exact h.elim
    ·exact h.elim
   ·exact h.elim
  ·rename_i id li i0 k ix I hi;rw[I]at d;have d:den U st.rs (.el id li i0 0)=some (ev fr x):=d;split at h
   ·rename_i r n e m Q;split at h
    ·rename_i L D;simp only[den,PK.id,m,bE,D]at d;split at d
     case isFalse=>cases d
     rename_i h0;injection d with d
     split at h
     ·rename_i he;simp only[Bool.and_eq_true]at he;have z:(U.en L.t).size=1:=Nat.eq_of_beq_eq_true he.2.2;have G:aS P e=1:=Nat.eq_of_beq_eq_true he.2.1;obtain⟨⟨M,an⟩,J⟩:=h;have hM:mq P t (ev fr x) (ev fr i) (λv=>v=.pointer (some ((elA U L.t L.A i0 0).add (ix.toNat *aS P e)))):=by
       unfold mq;rw[Q,<-d,hi];simp only[he.1];exact⟨M,ah _ rfl rfl⟩
      obtain⟨v,H,O⟩:=jF hM;have az:elA U L.t L.A (i0+ix) 0=(elA U L.t L.A i0 0).add (ix.toNat *aS P e):=by
       unfold elA;rw[z,G,add_add,add_add,add_add];congr 1;omega
      refine⟨_,_,J,?_,λw' _=>?_⟩
      ·show den U st.rs (.el id li (i0+ix) 0)=_;simp only[den,PK.id,m,bE,D];rw[if_pos ⟨by omega,an⟩]
      ·rw[az,<-H];simp[execOp,O]
     ·exact h.elim
    ·exact h.elim
   ·exact h.elim
  ·rename_i id off k ix I hi;rw[I]at d;have d:den U st.rs (.loc id off)=some (ev fr x):=d;unfold den at d;simp only[PK.id]at d;cases m:nth st.rs id with
   |none=>rw[m]at d;simp[bE]at d
   | some r=>
    rw[m]at d;cases r<;>simp only[bE,reduceCtorEq,Option.some.injEq]at d
    rename_i g cs T;rw[<-d]at h;obtain⟨n,e,k',a8,z,G,h3,h4⟩:=Hq h;rw[hi]at G;injection G with G a3
    subst G;subst a3;refine⟨_,_,h3,?_,λw' _=>by simp[execOp,<-d,h4]⟩;show den U st.rs _=_;simp only[den,PK.id,m,bE,HD,z];rw[bn]
  ·exact h.elim
 case extract x i=>
  simp only[od]at h;split at h
  ·rename_i vs d;obtain⟨v,H,J⟩:=cv h;have a1:vs[i]? =some v:=by rw[aO]at H;simpa using H
   refine⟨v,_,J,?_,λw' _=>?_⟩
   ·unfold Hi;split
    ·rename_i l I;split
     ·rename_i p hl;have:=R.kf x;rw[I,d]at this;obtain⟨a9,e,hh⟩:=this;injection e with e
      subst e;obtain⟨u,hu,hd⟩:=hh i p hl;rw[a1]at hu;injection hu with hu
      subst hu;exact hd
     ·exact trivial
    ·exact trivial
   ·simp[execOp,Instr.extract,d,a1]
  ·exact h.elim
 case makeFunc f first cap=>
  refine⟨_,_,h,?_,λw' _=>by rw[z8,z8];rfl⟩;have key:∀(a:Array Operand)(j:Nat)(k:PK),nth (aM (λx=>jm (V.kf st.kn x)) a.toList) j=some (some k)->∃u,(⟨aM (ev fr) a.toList⟩:Array Value)[j]? =some u/\den U st.rs k=some u:=by
   intro a j k C;rw[bq]at C;cases m:nth a.toList j with
   |none=>rw[m]at C;cases C
   | some x=>
    rw[m]at C;injection C with C
    refine⟨ev fr x,?_,?_⟩
    ·rw[aO]at m;simp[gy,m]
    ·have:=R.kf x;unfold jm at C;dsimp only at C;split at C
     ·rename_i q hq;injection C with C
      subst C;rw[hq]at this;exact this
     ·cases C
  exact⟨_,_,_,rfl,by simp,key first,key cap⟩
 case binOp op t x y ba=>
  simp only[od]at h;split at h
  ·exact h.elim
  ·exact aN (λ_ _ e=>by cases e) h
 case slice t x lo hi mx=>
  cases mx with
  |some _=>exact h.elim
  | none=>
   simp only[od]at h;have d:=R.kf x;split at h
   ·rename_i id path off I;rw[I]at d;have d:den U st.rs (.obj id path off)=some (ev fr x):=d;split at h
    ·rename_i tt r s li n e m W Q;split at h
     ·rename_i L D;simp only[den,PK.id,m,bE,Option.some.injEq]at d;split at h
      ·rename_i he;obtain⟨⟨⟨hl,hc⟩,bb⟩,J⟩:=h;unfold Uni.ix1 at W;rw[m]at W;have S:=U.qv W D;have hM:mS P t (ev fr x) none none none (λv=>v=.slice L.A L.l.length L.c) False:=by
        unfold mS;rw[Q,<-d];simp only[he,Option.isNone_none,Bool.true_or,Bool.and_self];refine ah _ rfl ?_;unfold nr qJ qI;intro a' a4 n' a5 c' a6;subst a4 a5 a6;rw[if_neg (by omega),S,hl,hc];simp[Addr.add]
       rcases mR hM with⟨v,H,O⟩|h
       ·refine⟨_,_,J,?_,λw' _=>?_⟩
        ·show den U st.rs (.sl id li)=_;simp only[den,PK.id,m,bE,fQ,D]
        ·rw[<-H];simp[execOp,O]
       ·exact h.elim
      ·exact h.elim
     ·exact h.elim
    ·exact h.elim
   ·obtain⟨a,n,k,J,aC,hM⟩:=Gi d h;rcases mR hM with⟨v,H,O⟩|h
    ·refine⟨_,_,J,aC,λw' _=>?_⟩;rw[<-H];simp[execOp,O]
    ·exact h.elim
end
end Go.Proofs.YtoghdgcmhbanbaaGreatDoor.V
end
section
namespace Go.Proofs.YtoghdgcmhbanbaaGreatDoor
open Go Go.RowKit V
open Go.IntKind (i64 u32 u64 wrap_i64 wrap_u32)
open Enc (enc)
structure Fl where
 rs:List U32
 pc:Int
 z:Bool
 n:Bool
 l:Bool
namespace Fl
def Ok(s:Fl):Prop:=s.rs.length=15
def uX(s:Fl)(i:Nat)(x:U32):Fl:= {s with rs:=List.set s.rs i x}
def zero:Fl:=⟨[U32.mk 0,U32.mk 0,U32.mk 0,U32.mk 0,U32.mk 0,U32.mk 0,U32.mk 0,U32.mk 0,U32.mk 0,U32.mk 0,U32.mk 0,U32.mk 0,U32.mk 0,U32.mk 0,U32.mk 0],0,false,false,false⟩
def norm(s:Fl):Fl:= {s with rs:=aM (λj=>U32.mk (s.rs.getD j (U32.mk 0)).v) (upN 0 15)}
theorem norm_eq {s:Fl}(h:s.Ok):s.norm=s:=by
 obtain⟨rs,pc,z,n,l⟩:=s
 match rs,h with
 | [_,_,_,_,_,_,_,_,_,_,_,_,_,_,_],_=>rfl
theorem DY(s:Fl):s.norm.Ok:=rfl
def words(s:Fl):List Value:=aM (λj=>.int .u32 (s.rs.getD j (U32.mk 0)).v) (upN 0 15)
def cells(s:Fl):List Value:=s.words++ [.int .u32 s.pc,.bool s.z,.bool s.n,.bool s.l]
theorem words_eq {s:Fl}(h:s.Ok):s.words=s.rs.map λx=>.int .u32 x.v:=by
 obtain⟨rs,pc,z,n,l⟩:=s
 match rs,h with
 | [_,_,_,_,_,_,_,_,_,_,_,_,_,_,_],_=>rfl
theorem lK(s:Fl):s.words.length=15:=rfl
theorem Fz {s:Fl}(h:s.Ok){i:Nat}{x:U32}(d:s.rs[i]? =some x):s.cells[i]? =some (.int .u32 x.v):=by
 have hi:i<15:=by have:=(List.getElem?_eq_some_iff.1 d).1;rw[h]at this;exact this
 rw[cells,List.getElem?_append_left (by rw[lK];exact hi),words_eq h,List.getElem?_map,d];rfl
theorem Fy {s:Fl}(h:s.Ok){i:Nat}(hi:i<15)(x:U32):(s.uX i x).cells=s.cells.set i (.int .u32 x.v):=by
 have d:(s.uX i x).Ok:=by show(List.set s.rs i x).length=15;rw[List.length_set];exact h
 rw[cells,words_eq d,cells,words_eq h,List.set_append_left _ _ (by rw[List.length_map,h];exact hi)];show(List.set s.rs i x).map _++_=_;rw[List.map_set];rfl
end Fl
theorem flE {s t:Fl}(h:s=t):Value.agg ⟨Fl.cells s⟩=Value.agg ⟨Fl.cells t⟩:=h▸rfl
theorem zY {α β:Type}{f:α->β}{u:β}:∀ {l:List α},u∈aM f l->∃a,u=f a
 | a::l,h=>by
  rcases List.mem_cons.1 h with e|h
  ·exact⟨a,e⟩
  ·exact zY (l:=l) h
instance:Enc Fl:=⟨Fl.cells,19,λ_=>rfl,λx u h=>by
 rcases List.mem_append.1 h with h|h
 ·obtain⟨a,rfl⟩:=zY h
  rfl
 ·simp only[List.mem_cons,List.not_mem_nil,or_false]at h
  rcases h with rfl|rfl|rfl|rfl<;>rfl,by omega⟩
structure FlP(w:World)(g:Nat)(s:Fl):Prop where
 len:s.Ok
 blk:∃T,Blk w g ⟨s.cells⟩ T
section
variable {w:World}{g:Nat}{s:Fl}{K:World->Prop}
theorem FlP.st(h:FlP w g s){i:Nat}{v:Value}{d:Fl}(hi:i<19)(f:d.Ok)(j:d.cells=s.cells.set i v)(l:∀w',FlP w' g d->Ch (λk=>k=g) w w'->K w'):ao w ⟨g,i,none⟩ [v] K:=by
 obtain⟨T,m⟩:=h.blk;exact jT m (by show i+1<=s.cells.length;show i+1<=19;omega) λw2 st=>l w2 ⟨f,T,by rw[j];exact st.blk.cast (by rw[oU];simp)⟩ st.ch
theorem FlP.li(h:FlP w g s){X:Nat->Prop}(d:∀k,k=g↔X k):Rd w X (some (Addr.mk g 0 none)) s.rs.length s.rs.length s.rs:=by
 obtain⟨T,f⟩:=h.blk;refine⟨rfl,Nat.le_refl _,λk m=>by rw[(d k).2 m];exact f.lt,λi x hi=>⟨_,rfl,(d _).1 rfl,λj l=>?_⟩⟩;have l:j=0:=by have:Enc.size U32=1:=rfl;omega
 subst l;rw[bn,Nat.zero_add,show Enc.size U32=1 from rfl,Nat.mul_one];show w.cell? ⟨g,i,none⟩=some (.int .u32 x.v);exact f.cell (by simpa using Fl.Fz h.len hi)
theorem FlP.stR(h:FlP w g s){X:Nat->Prop}(f:∀k,k=g↔X k){i:Nat}{x y:U32}(p:s.rs[i]? =some x){o:Nat}{vs:List Value}(u:o+vs.length<=1)(d:enc y=(enc x).take o++vs++(enc x).drop (o+vs.length))(m:∀w',(∀k,k=g↔X k)/\FlP w' g (s.uX i y)->Ch X w w'->K w'):
 ao w (((Addr.mk g 0 none).add (i*1)).add o) vs K:=by
 have hi:i<15:=by have:=(List.getElem?_eq_some_iff.1 p).1;rw[h.len]at this;exact this
 have hlen:(s.uX i y).Ok:=by show(List.set s.rs i y).length=15;rw[List.length_set];exact h.len
 obtain⟨T,r⟩:=h.blk;rw[bn,Nat.zero_add,Nat.mul_one];have ex:enc x= [.int .u32 x.v]:=rfl;have z:enc y= [.int .u32 y.v]:=rfl;rw[ex,z]at d;have t:∀j,j<=19->j<=(⟨s.cells⟩:Array Value).size:=λj C=>C;have same:x=y->s.uX i y=s:=λe=>by
  subst e;have:s.rs.set i x=s.rs:=by
   apply List.ext_getElem?;intro j;rw[List.getElem?_set];split
   ·rename_i e;subst e;rw[if_pos (by rw[h.len];exact hi),p]
   ·rfl
  unfold Fl.uX;rw[this]
 match vs,o,u with
 | [v],0,_=>
  simp at d;subst d;exact(FlP.st h (i:=i) (by omega) hlen (Fl.Fy h.len hi y) λw' D q=>m w' ⟨f,D⟩ (q.mono λk l=>(f k).1 l))
 | [],0,_=>
  simp at d;refine⟨g,i,_,T,rfl,r,by simpa using t i (by omega),λw2 st=>m w2 ⟨f,by rw[same (by cases x;cases y;simp at d;rw[d])];exact⟨h.len,T,st.blk⟩⟩ (st.ch.mono λk l=>(f k).1 l)⟩
 | [],1,_=>
  simp at d;refine⟨g,i+1,_,T,rfl,r,by simpa using t (i+1) (by omega),λw2 st=>m w2 ⟨f,by rw[same (by cases x;cases y;simp at d;rw[d])];exact⟨h.len,T,st.blk⟩⟩ (st.ch.mono λk l=>(f k).1 l)⟩
theorem FlP.all(h:FlP w g s){d:Fl}(f:d.Ok)(i:∀w',FlP w' g d->Ch (λk=>k=g) w w'->K w'):ao w ⟨g,0,none⟩ d.cells K:=by
 obtain⟨T,j⟩:=h.blk;exact aI j rfl λw2 st=>i w2 ⟨f,T,st.blk.cast (by simp)⟩ st.ch
end
theorem Fl.JS {s:Fl}(h:s.Ok)(he:bk ⟨s.cells⟩ ⟨Fl.zero.cells⟩=true):s=Fl.zero:=by
 obtain⟨rs,pc,z,n,l⟩:=s
 match rs,h with
 | [⟨a0⟩,⟨d⟩,⟨f⟩,⟨i⟩,⟨j⟩,⟨k⟩,⟨m⟩,⟨o⟩,⟨p⟩,⟨q⟩,⟨r⟩,⟨t⟩,⟨u⟩,⟨v⟩,⟨x⟩],_=>
  simp[bk,eqL,jt,Fl.cells,Fl.words,aM,upN,Fl.zero]at he ⊢;simp[he]
def wG:List Value->Option Fl
 | [.int .u32 a0,.int .u32 d,.int .u32 f,.int .u32 h,.int .u32 i,.int .u32 j,.int .u32 k,.int .u32 m,.int .u32 o,.int .u32 p,.int .u32 q,.int .u32 r,.int .u32 t,.int .u32 u,.int .u32 v,.int .u32 pc,.bool z,.bool n,.bool l]=>
  some ⟨[⟨a0⟩,⟨d⟩,⟨f⟩,⟨h⟩,⟨i⟩,⟨j⟩,⟨k⟩,⟨m⟩,⟨o⟩,⟨p⟩,⟨q⟩,⟨r⟩,⟨t⟩,⟨u⟩,⟨v⟩],pc,z,n,l⟩
 |_=>none
theorem lW {cs:List Value}{s:Fl}(h:wG cs=some s):cs=s.cells/\s.Ok:=by
 unfold wG at h;split at h
 ·injection h with h
  subst h;exact⟨rfl,rfl⟩
 ·cases h
end Go.Proofs.YtoghdgcmhbanbaaGreatDoor
end
section
namespace Go.Proofs.YtoghdgcmhbanbaaGreatDoor
open Go Go.RowKit V
open Go.IntKind (i64 u32 u64 wrap_i64 wrap_u32)
open Enc (enc)
structure Pd where
 n:Nat
 aR:Int
 ent:Nat->Ent
namespace Pd
def on(E:Pd)(m:Mem):DB:=⟨m,E.aR,E.ent⟩
def ax(E:Pd):List Ent:=(List.range E.n).map E.ent
end Pd
abbrev eG(E:Pd)(p:Int):Ent:=(Pd.ax E).getD p.toNat Ent.free
namespace Pd
def set(E:Pd)(i:Nat)(e:Ent):Pd:= {E with ent:=λq=>if q=i then e else E.ent q}
def kz(E:Pd)(x:Int):Pd:= {E with aR:=x}
structure Ok(E:Pd):Prop where
 ent:∀p,p<E.n->(E.ent p).ok=true/\(E.ent p).owner<E.n
 aR:0<=E.aR/\E.aR<=64
 dD:E.n<=64
@[simp] theorem cO(E:Pd):E.ax.length=E.n:=by simp[ax]
theorem tN {E:Pd}{i:Nat}(h:i<E.n):E.ax[i]? =some (E.ent i):=by simp[ax,h]
theorem dj {E:Pd}{p:Int}{d:Ent}(h:0<=p/\p<((E.n:Nat):Int)):E.ax.getD p.toNat d=E.ent p.toNat:=by
 rw[List.getD_eq_getElem?_getD,tN (by omega)];rfl
theorem AD(E:Pd)(i:Nat)(e:Ent):(E.set i e).ax=E.ax.set i e:=by
 apply List.ext_getElem?;intro j;show((List.range E.n).map (E.set i e).ent)[j]? =_;rw[List.getElem?_set,List.getElem?_map];by_cases d:j<E.n
 ·rw[List.getElem?_range d];simp only[Option.map_some,set,cO,tN d];by_cases f:i=j
  ·subst f;simp[d]
  ·rw[if_neg (λh=>f h.symm),if_neg f]
 ·rw[List.getElem?_eq_none (by simp;omega),List.getElem?_eq_none (l:=E.ax) (by simp;omega)];simp;intro k;omega
end Pd
def DB.pd(D:DB):Pd:=⟨D.S,D.aR,D.ent⟩
theorem Pd.qn(E:Pd)(m:Mem)(h:E.n=m.S):(E.on m).pd=E:=by
 cases E;simp only[on]at *;simp[DB.pd,DB.S,<-h]
theorem Pd.kY(E:Pd)(m:Mem):(E.on m).mem=m:=rfl
theorem Pd.jn(E:Pd)(m:Mem)(h:E.n=m.S):(E.on m).S=E.n:=h.symm
theorem Pd.kZ(E:Pd)(m:Mem)(p:Int)(h:E.n=m.S):(E.on m).has p=decide (0<=p/\p<((E.n:Nat):Int)):=by unfold DB.has;rw[jn E m h]
theorem Pd.k8(E:Pd)(m:Mem)(p:Int):(E.on m).at_ p=E.ent p.toNat:=rfl
theorem Pd.kX(E:Pd)(m:Mem)(p:Int)(e:Ent):(E.on m).set p e=(E.set p.toNat e).on m:=rfl
theorem Pd.vZ(E:Pd)(m:Mem):(E.on m).aR=E.aR:=rfl
theorem Pd.qe(E:Pd)(i:Nat)(e:Ent):(E.set i e).n=E.n:=rfl
theorem Pd.iP(E:Pd)(i j:Nat)(e:Ent):(E.set i e).ent j=if j=i then e else E.ent j:=rfl
structure PdP(w:World)(g a mg:Nat)(E:Pd):Prop where
 hd:∃T,Blk w g #[.pointer (pvA mg),.int .i64 E.aR,.slice (pvA a) (2*E.n) (2*E.n)] T
 ws:∃T cs,Blk w a cs T/\cs.size=2*E.n/\∀p,p<E.n->cs[2*p]? =some (O (E.ent p).w0)/\cs[2*p+1]? =some (O (E.ent p).w1)
 ok:E.Ok
 ne:a≠g
structure nu(w:World)(g mg e c:Nat)(E:Pd):Prop where
 hd:∃T,Blk w g #[.pointer (pvA mg),.slice (pvA e) E.n c,.int .i64 E.aR] T
 es:Own w (λk=>k=e) 101 (pvA e) E.n c E.ax
 ok:E.Ok
 ne:e≠g
 pos:1<=E.n
section
variable {w w':World}{g a mg e c:Nat}{E:Pd}{Y:Nat->Prop}
theorem PdP.ch(h:PdP w g a mg E)(q:Ch Y w w')(d:¬Y g)(f:¬Y a):PdP w' g a mg E:=by
 obtain⟨T,hd⟩:=h.hd;obtain⟨T2,cs,i,j⟩:=h.ws;exact⟨⟨T,q.blk hd d⟩,⟨T2,cs,q.blk i f,j⟩,h.ok,h.ne⟩
theorem nu.ch(h:nu w g mg e c E)(q:Ch Y w w')(d:¬Y g)(he:¬Y e):nu w' g mg e c E:=by
 obtain⟨T,hd⟩:=h.hd;exact⟨⟨T,q.blk hd d⟩,h.es.ch q λk f=>f▸he,h.ok,h.ne,h.pos⟩
theorem PdP.lt(h:PdP w g a mg E):g<w.heap.size/\a<w.heap.size:=by
 obtain⟨T,hd⟩:=h.hd;obtain⟨T2,cs,d,f⟩:=h.ws;exact⟨hd.lt,d.lt⟩
theorem nu.lt(h:nu w g mg e c E):g<w.heap.size/\e<w.heap.size:=by
 obtain⟨T,hd⟩:=h.hd;obtain⟨d,i,f,j⟩:=h.es.lt h.pos;have:d=e:=f;exact⟨hd.lt,by omega⟩
theorem PdP.db {L:fP}{m:Mem}(h:PdP w g a L.g E)(hm:cH w L m)(d:E.n=m.S)(f:¬L.X g/\¬L.X a):DBP w ⟨g,a,L⟩ (E.on m):=by
 have j:(E.on m).S=E.n:=d.symm;refine⟨?_,?_,hm,⟨λp i=>?_,h.ok.aR⟩,h.ne,f.1,f.2⟩
 ·show ∃T,Blk w g #[_,_,.slice _ (2*m.S) (2*m.S)] T;rw[<-d];exact h.hd
 ·show ∃T cs,Blk w a cs T/\cs.size=2*m.S/\∀p,p<m.S->_;rw[<-d];exact h.ws
 ·rw[j]at i ⊢;exact h.ok.ent p i
theorem DBP.pd {L:gE}{D:DB}(h:DBP w L D):PdP w L.g L.a L.M.g D.pd:=⟨h.hd,h.ws,⟨h.ok.ent,h.ok.aR,h.mem.dD.1⟩,h.dis.1⟩
theorem PdP.Gw(h:PdP w g a mg E){x:Int}(d:0<=x/\x<=64){K:World->Prop}(f:∀w',PdP w' g a mg (E.kz x)->Ch (λk=>k=g) w w'->K w'):ao w ⟨g,1,none⟩ [.int .i64 x] K:=by
 obtain⟨T,hd⟩:=h.hd;obtain⟨T2,cs,i,j⟩:=h.ws;exact jT hd (by simp) λw2 s=>f w2 ⟨⟨T,s.blk⟩,⟨T2,cs,s.old i h.ne,j⟩,⟨h.ok.ent,d,h.ok.dD⟩,h.ne⟩ s.ch
theorem nu.Gw(h:nu w g mg e c E){x:Int}(d:0<=x/\x<=64){K:World->Prop}(f:∀w',nu w' g mg e c (E.kz x)->Ch (λk=>k=g) w w'->K w'):ao w ⟨g,2,none⟩ [.int .i64 x] K:=by
 obtain⟨T,hd⟩:=h.hd;exact jT hd (by simp) λw2 s=>f w2 ⟨⟨T,s.blk⟩,h.es.ch s.ch λk i j=>h.ne (by rw[<-i,j]),⟨h.ok.ent,d,h.ok.dD⟩,h.ne,h.pos⟩ s.ch
theorem nu.Mk(h:nu w g mg e c E){i:Nat}{x y:Ent}(f:E.ax[i]? =some x){o:Nat}{vs:List Value}(q:o+vs.length<=5)(r:enc y=(enc x).take o++vs++(enc x).drop (o+vs.length))(j:y.ok=true/\y.owner<(E.n:Int)){K:World->Prop}
 (t:∀w',nu w' g mg e c (E.set i y)->Ch (λk=>k=e) w w'->K w'):ao w (((vA e).add (i*5)).add o) vs K:=by
 have hi:i<E.n:=by
  have:=(List.getElem?_eq_some_iff.1 f).1;simpa using this
 obtain⟨T,hd⟩:=h.hd;refine h.es.st rfl hi f q r λw2 u l=>t w2 ⟨⟨T,l.blk hd λe=>h.ne e.symm⟩,by rw[Pd.AD];exact u,⟨λp m=>?_,h.ok.aR,h.ok.dD⟩,h.ne,h.pos⟩ l;show(if p=i then y else E.ent p).ok=true/\_;split
 ·rename_i d;refine⟨j.1,?_⟩;show(if p=i then y else E.ent p).owner<_;rw[if_pos d];exact j.2
 ·rename_i d;refine⟨(h.ok.ent p m).1,?_⟩;show(if p=i then y else E.ent p).owner<_;rw[if_neg d];exact(h.ok.ent p m).2
end
def BF(w:World)(g:Nat)(s:List U32):Prop:=∃T,Blk w g (bD (s.map U32.v)) T
def CI:List Value->Option (List U32)
 | []=>some []
 | .int .u32 x::r=>(match CI r with
  |some l=>some (uM x::l)
  |none=>none)
 |_=>none
theorem tQ:∀ {cs:List Value}{l:List U32},CI cs=some l->cs=(l.map U32.v).map (Value.int .u32)
 | [],l,h=>by simp only[CI,Option.some.injEq]at h;subst h;rfl
 | v::r,l,h=>by
  unfold CI at h;split at h
  ·rename_i e;cases e
  ·rename_i x r' e;injection e with d f
   subst d;subst f;split at h
   ·rename_i l' i;injection h with h
    subst h;rw[tQ i];rfl
   ·cases h
  ·cases h
theorem K6 {w:World}{g mg e c:Nat}{E:Pd}{X:Nat->Prop}(f:∀k,(k=g\/k=e)↔X k)(h:nu w g mg e c E):Rd w X (pvA e) E.ax.length c E.ax:=by
 rw[Pd.cO];exact h.es.rd.mono (λk d=>(f k).1 (.inr d.1)) λk d=>by rcases(f k).2 d with rfl|rfl;exact h.lt.1;exact h.lt.2
theorem K7 {w:World}{g mg e c:Nat}{E:Pd}(h:nu w g mg e c E):w.cell? ⟨g,0,none⟩=some (.pointer (some ⟨mg,0,none⟩))/\w.cell? ⟨g,1,none⟩=some (.slice (some ⟨e,0,none⟩) E.ax.length c)/\w.cell? ⟨g,2,none⟩=some (J E.aR):=by
 obtain⟨T,hd⟩:=h.hd;rw[Pd.cO];exact⟨hd.cell rfl,hd.cell rfl,hd.cell rfl⟩
theorem Mw {w:World}{g a mg:Nat}{E:Pd}(h:PdP w g a mg E):w.cell? ⟨g,0,none⟩=some (.pointer (some ⟨mg,0,none⟩))/\w.cell? ⟨g,1,none⟩=some (J E.aR):=by
 obtain⟨T,hd⟩:=h.hd;exact⟨hd.cell rfl,hd.cell rfl⟩
theorem I8 {w:World}{g:Nat}{s:List U32}{X:Nat->Prop}(d:∀k,k=g↔X k)(h:BF w g s):Rd w X (pvA g) s.length s.length s:=by
 obtain⟨T,f⟩:=h;refine⟨rfl,Nat.le_refl _,λk m=>by rw[(d k).2 m];exact f.lt,λi x hi=>⟨_,rfl,(d _).1 rfl,λj l=>?_⟩⟩;have l:j=0:=by have:Enc.size U32=1:=rfl;omega
 subst l;have o:i<s.length:=(List.getElem?_eq_some_iff.1 hi).1;rw[bn,Nat.zero_add,show Enc.size U32=1 from rfl,Nat.mul_one];show w.cell? ⟨g,i,none⟩=some (O x.v);refine f.cell ?_;rw[fE (by simpa using o),List.getD_eq_getElem?_getD,List.getElem?_map,hi];rfl
theorem I7 {w:World}{g i:Nat}{s:List U32}{X:Nat->Prop}(p:∀k,k=g↔X k)(h:BF w g s){x y:U32}(f:s[i]? =some x){o:Nat}{vs:List Value}(r:o+vs.length<=1)(d:enc y=(enc x).take o++vs++(enc x).drop (o+vs.length)){K:World->Prop}(t:∀w',(∀k,k=g↔X k)/\BF w' g (s.set i y)->Ch X w w'->K w'):
 ao w (((vA g).add (i*1)).add o) vs K:=by
 obtain⟨T,l⟩:=h;have q:i<s.length:=(List.getElem?_eq_some_iff.1 f).1;have m:∀w2,br w g (bD ((s.set i y).map U32.v)) T w2->K w2:=λw2 st=>t w2 ⟨p,T,st.blk⟩ (st.ch.mono λk u=>(p k).1 u);rw[bn,Nat.zero_add,Nat.mul_one];have ex:enc x= [.int .u32 x.v]:=rfl;have z:enc y= [.int .u32 y.v]:=rfl;rw[ex,z]at d
 match vs,o,r with
 | [v],0,_=>
  simp at d;subst d;refine⟨g,i,_,T,rfl,l,by simp;omega,λw2 st=>m w2 ?_⟩;rw[List.map_set,<-nT];exact st
 | [],0,_=>
  simp at d;refine⟨g,i,_,T,rfl,l,by simp;omega,λw2 st=>m w2 ?_⟩;have:s.set i y=s:=by
   have:y=x:=by cases x;cases y;simp at d;rw[d]
   rw[this];exact List.ext_getElem? λj=>by rw[List.getElem?_set];split;(rename_i e;subst e;(try rw[if_pos q]);rw[f]);rfl
  rw[this];exact st
 | [],1,_=>
  simp at d;refine⟨g,i+1,_,T,rfl,l,by simp;omega,λw2 st=>m w2 ?_⟩;have:s.set i y=s:=by
   have:y=x:=by cases x;cases y;simp at d;rw[d]
   rw[this];exact List.ext_getElem? λj=>by rw[List.getElem?_set];split;(rename_i e;subst e;(try rw[if_pos q]);rw[f]);rfl
  rw[this];exact st
theorem I5 {w:World}{g:Nat}{s l:List U32}{vs:List Value}{X:Nat->Prop}(d:∀k,k=g↔X k)(h:BF w g s)(f:CI vs=some l)(p:s.length=l.length){K:World->Prop}(i:∀w',(∀k,k=g↔X k)/\BF w' g l->Ch X w w'->K w'):ao w ⟨g,0,none⟩ vs K:=by
 obtain⟨T,j⟩:=h;have e:=tQ f;have m:vs=(bD (l.map U32.v)).toList:=by rw[e];simp[bD]
 rw[m];exact vH j (by simp;omega) λw2 st=>i w2 ⟨d,T,st.blk⟩ (st.ch.mono λk o=>(d k).1 o)
def Mem.Wf(m:Mem):Prop:=(∀s i o,0<=m.pg s i o/\m.pg s i o<4294967296)/\m.S<=64/\m.I<=64
end Go.Proofs.YtoghdgcmhbanbaaGreatDoor
end
section
namespace Go.Proofs.YtoghdgcmhbanbaaGreatDoor.V
open Go Go.RowKit
open Go.IntKind (i64 u32 u64 wrap_i64 wrap_u32)
open Enc (enc)
structure Els where
 el:Nat->Type
 en:(t:Nat)->Enc (el t)
 df:(t:Nat)->el t
 dec:(t:Nat)->List Value->Option (el t)
 fW:∀ {t:Nat}{cs:List Value}{x:el t},dec t cs=some x->(en t).enc x=cs
structure Kind(E:Els) where
 ty:Type
 pred:(Nat->Nat)->ty->(Nat->Prop)->World->Prop
 ch:∀ {r:Nat->Nat}{s:ty}{X Y:Nat->Prop}{w w':World},pred r s X w->Ch Y w w'->(∀k,X k->¬Y k)->pred r s X w'
 lt:∀ {r:Nat->Nat}{s:ty}{X:Nat->Prop}{w:World},pred r s X w->∀k,X k->k<w.heap.size
 li:(Nat->Nat)->ty->Nat->Option (Ls E.el):=λ_ _ _=>none
 qt:∀ {r:Nat->Nat}{s:ty}{X:Nat->Prop}{w:World}{i:Nat}{L:Ls E.el},pred r s X w->li r s i=some L-> @Rd (E.el L.t) (E.en L.t) w X L.A L.l.length L.c L.l:=by intro _ _ _ _ _ _ _ h;cases h
 ne:Nat->Bool:=λ_=>false
 DZ:∀ {r:Nat->Nat}{s:ty}{X:Nat->Prop}{w:World}{j i:Nat}{L:Ls E.el}{x:E.el L.t},pred r s X w->ne j=true->li r s j=some L->L.l[i]? =some x->∃L':Ls E.el,li r s (i+1)=some L'/\(E.en L.t).enc x= [.slice L'.A L'.l.length L'.c]:=by intro _ _ _ _ _ _ _ _ _ h;cases h
 fs:(Nat->Nat)->ty->Nat->Nat->Value->Option (Prop×ty):=λ_ _ _ _ _=>none
 tF:∀ {r:Nat->Nat}{s s':ty}{X:Nat->Prop}{w:World}{path off:Nat}{v:Value}{c:Prop},pred r s X w->fs r s path off v=some (c,s')->c->∀ {K:World->Prop},(∀w',pred r s' X w'->Ch X w w'->K w')->ao w ⟨r path,off,none⟩ [v] K:=by intro _ _ _ _ _ _ _ _ _ _ h;cases h
 st:(Nat->Nat)->ty->Nat->Nat->(tt:Nat)->E.el tt->Option (Prop×ty):=λ_ _ _ _ _ _=>none
 pZ:∀ {r:Nat->Nat}{s s':ty}{X:Nat->Prop}{w:World}{j i:Nat}{L:Ls E.el}{x y:E.el L.t}{off:Nat}{vs:List Value}{c:Prop},pred r s X w->li r s j=some L->L.l[i]? =some x->off+vs.length<=(E.en L.t).size->(E.en L.t).enc y=((E.en L.t).enc x).take off++vs++((E.en L.t).enc x).drop (off+vs.length)->st r s j i L.t y=some (c,s')->c->∀ {K:World->Prop},(∀w',pred r s' X w'->Ch X w w'->K w')->ao w (((L.A.getD ⟨0,0,none⟩).add (i*(E.en L.t).size)).add off) vs K:=by intro _ _ _ _ _ _ _ _ _ _ _ _ _ _ _ _ _ _ h;cases h
 iv:Bool:=false
 inv:ty->Prop:=λ_=>True
 iB:∀ {r:Nat->Nat}{s:ty}{X:Nat->Prop}{w:World},pred r s X w->inv s:=by intros;trivial
 fo:(Nat->Nat)->ty->Nat->Nat->Option FV:=λ_ _ _ _=>none
 tI:∀ {r:Nat->Nat}{s:ty}{X:Nat->Prop}{w:World}{path off:Nat}{f:FV}{v:Value},pred r s X w->fo r s path off=some f->fvV r (li r s) f=some v->X (r path)/\w.cell? ⟨r path,off,none⟩=some v:=by intro _ _ _ _ _ _ _ _ _ h;cases h
 ix:Nat->Nat->Option Nat:=λ_ _=>none
 qv:∀ {r:Nat->Nat}{s:ty}{path off i:Nat}{L:Ls E.el},ix path off=some i->li r s i=some L->L.A=some ⟨r path,off,none⟩:=by intro _ _ _ _ _ _ h;cases h
 wl:(Nat->Nat)->ty->Nat->Nat->Nat->Option (Prop×List Value):=λ_ _ _ _ _=>none
 sq:∀ {r:Nat->Nat}{s:ty}{X:Nat->Prop}{w:World}{path off n:Nat}{c:Prop}{cs:List Value},pred r s X w->wl r s path off n=some (c,cs)->c->X (r path)/\∀j u,cs[j]? =some u->w.cell? ⟨r path,off+j,none⟩=some u:=by intro _ _ _ _ _ _ _ _ _ _ h;cases h
 ws:(Nat->Nat)->ty->Nat->Nat->List Value->Option (Prop×ty):=λ_ _ _ _ _=>none
 pV:∀ {r:Nat->Nat}{s s':ty}{X:Nat->Prop}{w:World}{path off:Nat}{vs:List Value}{c:Prop},pred r s X w->ws r s path off vs=some (c,s')->c->∀ {K:World->Prop},(∀w',pred r s' X w'->Ch X w w'->K w')->ao w ⟨r path,off,none⟩ vs K:=by intro _ _ _ _ _ _ _ _ _ _ h;cases h
 mp:ty->Option (List (Int×Value)):=λ_=>none
 D0:∀ {r:Nat->Nat}{s:ty}{X:Nat->Prop}{w:World}{l:List (Int×Value)},pred r s X w->mp s=some l->vp w (r 0) l:=by intro _ _ _ _ _ _ h;cases h
def Kind.none(E:Els):Kind E where
 ty:=Unit
 pred:=λ_ _ X _=>∀k,¬X k
 ch:=λh _ _=>h
 lt:=λh k d=>absurd d (h k)
def Uni.of(E:Els)(K:Nat->Kind E)(cd:TypeId->Option Nat)(mko:TypeId->List Value->Option ((t:Nat)×(K t).ty))(xQ:∀ {T:TypeId}{cs:List Value}{q:(t:Nat)×(K t).ty}{w:World}{g:Nat},mko T cs=some q->Blk w g ⟨cs⟩ T->(K q.1).pred (λ_=>g) q.2 (λk=>k=g) w):Uni where
 ty:=λt=>(K t).ty
 pred:=λt=>(K t).pred
 ch:=λ{t}=>(K t).ch
 lt:=λ{t}=>(K t).lt
 el:=E.el
 en:=E.en
 df:=E.df
 dec:=E.dec
 fW:=E.fW
 cd:=cd
 li:=λt=>(K t).li
 qt:=λ{t}=>(K t).qt
 ne:=λt=>(K t).ne
 DZ:=λ{t}=>(K t).DZ
 fs:=λt=>(K t).fs
 tF:=λ{t}=>(K t).tF
 st:=λt=>(K t).st
 pZ:=λ{t}=>(K t).pZ
 iv:=λt=>(K t).iv
 inv:=λt=>(K t).inv
 iB:=λ{t}=>(K t).iB
 fo:=λt=>(K t).fo
 tI:=λ{t}=>(K t).tI
 mp:=λt=>(K t).mp
 D0:=λ{t}=>(K t).D0
 mko:=mko
 xQ:=xQ
 ix:=λt=>(K t).ix
 qv:=λ{t}=>(K t).qv
 wl:=λt=>(K t).wl
 sq:=λ{t}=>(K t).sq
 ws:=λt=>(K t).ws
 pV:=λ{t}=>(K t).pV
end Go.Proofs.YtoghdgcmhbanbaaGreatDoor.V
end
section
namespace Go.Proofs.YtoghdgcmhbanbaaGreatDoor.V
open Go Go.RowKit
open Go.IntKind (i64 u32 u64 wrap_i64 wrap_u32)
open Enc (enc)
section
variable {U:Uni}{P:Program}{tbl:Tb U}{may:List Nat}{k0:Nat}
def Ext(θ d:Th):Prop:=∀j i,cq θ j=some i->cq d j=some i
theorem Ext.refl(θ:Th):Ext θ θ:=λ_ _ h=>h
theorem Ext.trans {a b c:Th}(h:Ext a b)(k:Ext b c):Ext a c:=λj i d=>k j i (h j i d)
theorem ic {j id:Nat}{θ:Th}{F:Th->Prop}(h:mP j id θ F):∃d,F d/\Ext θ d/\cq d j=some id:=by
 unfold mP at h;split at h
 ·rename_i k;refine⟨_,h,λl i f=>?_,?_⟩
  ·unfold cq;split
   ·rename_i he;rw[<-Nat.eq_of_beq_eq_true he,k]at f;cases f
   ·exact f
  ·simp[cq]
 ·rename_i i hi;split at h
  ·rename_i he;exact⟨θ,h,Ext.refl θ,by rw[hi,Nat.eq_of_beq_eq_true he]⟩
  ·exact h.elim
theorem lM {j i:Nat}:∀ {θ:Th},cq θ j=some i->(j,i)∈θ
 | [],h=>by cases h
 | (a,b)::r,h=>by
  unfold cq at h;split at h
  ·rename_i he;injection h with h
   rw[<-h,Nat.eq_of_beq_eq_true he];exact List.mem_cons_self ..
  ·exact List.mem_cons_of_mem _ (lM h)
theorem KS {θ:Th}(o:po (aM (·.2) θ)=true){a b i:Nat}(p:cq θ a=some i)(q:cq θ b=some i):a=b:=by
 have f:=lM p;have d:=lM q;have k:=mY o;rw[gy]at k;have key:∀(l:Th),(l.map (·.2)).Nodup->(a,i)∈l->(b,i)∈l->a=b:=by
  intro l
  induction l with
  |nil=>intro _ h;cases h
  | cons x r t=>
   intro hd f d;rw[List.map_cons,List.nodup_cons]at hd;rcases List.mem_cons.1 f with m|f
   ·rcases List.mem_cons.1 d with j|d
    ·rw[<-m]at j;injection j with j;exact j.symm
    ·exact absurd (List.mem_map.2 ⟨(b,i),d,by rw[<-m]⟩) hd.1
   ·rcases List.mem_cons.1 d with j|d
    ·exact absurd (List.mem_map.2 ⟨(a,i),f,by rw[<-j]⟩) hd.1
    ·exact t hd.2 f d
 exact key θ k f d
theorem PK.xI {f:Nat->Option Nat}{p q:PK}(h:p.ren f=some q):f p.id=some q.id:=by
 cases p<;>simp only[PK.ren,Option.map_eq_some_iff]at h<;>obtain⟨i,hi,rfl⟩:=h<;>exact hi
theorem PK.GK {f g:Nat->Option Nat}(h:∀j i,f j=some i->g j=some i){p q:PK}(d:p.ren f=some q):p.ren g=some q:=by
 cases p<;>simp only[PK.ren,Option.map_eq_some_iff]at d ⊢ <;>obtain⟨i,hi,rfl⟩:=d<;>exact⟨i,h _ _ hi,rfl⟩
def Rel(r r':Res U):Prop:=r=r'\/∃(t:Nat)(own:Bool)(T d:TypeId)(A:Option Addr)(c:Nat)(l:List (U.el t)),r=.lst t false T A c l/\r'=.lst t own d A c l
theorem Rel.den {r r':Res U}(h:Rel r r'){f:Nat->Option Nat}{p q:PK}(d:p.ren f=some q):bE U p (some r)=bE U q (some r'):=by
 rcases h with rfl|⟨t,own,T,j,A,c,l,rfl,rfl⟩
 ·cases p<;>simp only[PK.ren,Option.map_eq_some_iff]at d<;>obtain⟨i,hi,rfl⟩:=d<;>cases r<;>rfl
 ·cases p<;>simp only[PK.ren,Option.map_eq_some_iff]at d<;>obtain⟨i,hi,rfl⟩:=d<;>rfl
def Emb(f:Nat->Option Nat)(L G:List (Res U)):Prop:=∀j r,nth L j=some r->∃i r',f j=some i/\nth G i=some r'/\Rel r r'
theorem Emb.dn {f:Nat->Option Nat}{L G:List (Res U)}(h:Emb f L G){p q:PK}(k:p.ren f=some q){v:Value}(hd:den U L p=some v):den U G q=some v:=by
 unfold V.den at hd ⊢;cases j:nth L p.id with
 |none=>rw[j]at hd;cases p<;>simp[bE]at hd
 | some r=>
  rw[j]at hd;obtain⟨i,r',d,l,m⟩:=h _ _ j;rw[PK.xI k]at d;injection d with d
  subst d;rw[l,<-m.den k];exact hd
theorem du {f:Nat->Option Nat}{l:List (Option PK)}{j:Nat}{q:PK}(h:nth (aM (tl f) l) j=some (some q)):∃p,nth l j=some (some p)/\p.ren f=some q:=by
 rw[bq]at h;cases d:nth l j with
 |none=>rw[d]at h;cases h
 | some o=>
  rw[d]at h;injection h with h
  cases o with
  |none=>cases h
  |some p=>exact⟨p,rfl,h⟩
theorem Emb.kn {f:Nat->Option Nat}{L G:List (Res U)}(h:Emb f L G){k k':Kn}(d:k.ren f=some k'){v:Value}(o:iJ L v k):iJ G v k':=by
 cases k with
 |pan=>exact o.elim
 | p p=>
  simp only[Kn.ren,Option.map_eq_some_iff]at d;obtain⟨q,hq,rfl⟩:=d;exact h.dn hq o
 | w p n=>
  simp only[Kn.ren,Option.map_eq_some_iff]at d;obtain⟨q,hq,rfl⟩:=d;obtain⟨a,c,r,x⟩:=o;exact⟨a,c,h.dn hq r,x⟩
 | t l=>
  simp only[Kn.ren,Option.some.injEq]at d;subst d;obtain⟨vs,e,y⟩:=o;refine⟨vs,e,λj q i=>?_⟩;obtain⟨p,m,hq⟩:=du i;obtain⟨u,hu,hd⟩:=y j p m;exact⟨u,hu,h.dn hq hd⟩
 | ag l=>
  simp only[Kn.ren,Option.some.injEq]at d;subst d;obtain⟨vs,e,y⟩:=o;refine⟨vs,e,λj q i=>?_⟩;obtain⟨p,m,hq⟩:=du i;obtain⟨u,hu,hd⟩:=y j p m;exact⟨u,hu,h.dn hq hd⟩
 | f a b=>
  simp only[Kn.ren,Option.some.injEq]at d;subst d;obtain⟨fn,fs,cs,e,z,r,x⟩:=o;refine⟨fn,fs,cs,e,by simpa using z,λj q i=>?_,λj q i=>?_⟩
  ·obtain⟨p,m,hq⟩:=du i;obtain⟨u,hu,hd⟩:=r j p m;exact⟨u,hu,h.dn hq hd⟩
  ·obtain⟨p,m,hq⟩:=du i;obtain⟨u,hu,hd⟩:=x j p m;exact⟨u,hu,h.dn hq hd⟩
theorem Emb.knO {f:Nat->Option Nat}{L G:List (Res U)}(h:Emb f L G){k:Option Kn}{v:Value}(d:KnO L v k):KnO G v (D9 f k):=by
 cases k with
 |none=>exact trivial
 | some k=>
  show KnO G v (k.ren f);cases i:k.ren f with
  |none=>exact trivial
  |some k'=>exact h.kn i d
theorem jD {f:Nat->Option Nat}{key:Key}{k':Kn}:∀ {l:List (Key×Kn)},(key,k')∈kp f l->∃i d o k,((key=.c d o/\(Key.c i o,k)∈l)\/(key=.l d o/\(Key.l i o,k)∈l))/\f i=some d/\k.ren f=some k'
 | [],h=>by cases h
 | (.s _,_)::r,h=>by
  obtain⟨i,d,o,k,p,q⟩:=jD (l:=r) h;exact⟨i,d,o,k,p.imp (λh=>⟨h.1,List.mem_cons_of_mem _ h.2⟩) (λh=>⟨h.1,List.mem_cons_of_mem _ h.2⟩),q⟩
 | (.c i o,k)::r,h=>by
  have tail:(key,k')∈kp f r->∃i1 d j m,((key=.c d j/\(Key.c i1 j,m)∈(Key.c i o,k)::r)\/(key=.l d j/\(Key.l i1 j,m)∈(Key.c i o,k)::r))/\f i1=some d/\m.ren f=some k':=λh=>by
   obtain⟨i,d,o,k,p,q⟩:=jD (l:=r) h;exact⟨i,d,o,k,p.imp (λh=>⟨h.1,List.mem_cons_of_mem _ h.2⟩) (λh=>⟨h.1,List.mem_cons_of_mem _ h.2⟩),q⟩
  simp only[kp]at h;split at h
  ·rename_i d x hi t;rcases List.mem_cons.1 h with e|h
   ·injection e with u v
    subst u;subst v;exact⟨i,d,o,k,.inl ⟨rfl,List.mem_cons_self ..⟩,hi,t⟩
   ·exact tail h
  ·exact tail h
 | (.l i o,k)::r,h=>by
  have tail:(key,k')∈kp f r->∃i1 d j m,((key=.c d j/\(Key.c i1 j,m)∈(Key.l i o,k)::r)\/(key=.l d j/\(Key.l i1 j,m)∈(Key.l i o,k)::r))/\f i1=some d/\m.ren f=some k':=λh=>by
   obtain⟨i,d,o,k,p,q⟩:=jD (l:=r) h;exact⟨i,d,o,k,p.imp (λh=>⟨h.1,List.mem_cons_of_mem _ h.2⟩) (λh=>⟨h.1,List.mem_cons_of_mem _ h.2⟩),q⟩
  simp only[kp]at h;split at h
  ·rename_i d x hi t;rcases List.mem_cons.1 h with e|h
   ·injection e with u v
    subst u;subst v;exact⟨i,d,o,k,.inr ⟨rfl,List.mem_cons_self ..⟩,hi,t⟩
   ·exact tail h
  ·exact tail h
def AvD(θ:Th)(v:Value)(k:Option PK):AV->Prop
 |.v x=>x=v
 |.k p=>∃q,k=some q/\p.ren (cq θ)=some q
theorem AvD.mono {θ d:Th}(h:Ext θ d){v:Value}{k:Option PK}{a:AV}(f:AvD θ v k a):AvD d v k a:=by
 cases a with
 |v x=>exact f
 |k p=>obtain⟨q,i,j⟩:=f;exact⟨q,i,PK.GK h j⟩
def Dz(θ:Th)(vs:List Value)(kc:Nat->Option PK)(i:Nat)(d:List AV):Prop:=d.length=vs.length/\∀j a v,nth d j=some a->nth vs j=some v->AvD θ v (kc (i+j)) a
theorem Dz.mono {θ d:Th}(h:Ext θ d){vs:List Value}{kc:Nat->Option PK}{i:Nat}{f:List AV}(k:Dz θ vs kc i f):Dz d vs kc i f:=⟨k.1,λj a v l m=>(k.2 j a v l m).mono h⟩
theorem Ew {T:Type}{c:CP}{J:c.T T}{v:Value}{k:Option PK}{θ:Th}{F:T->Th->Prop}(h:apC c J v k θ F):∃q i a,F q i/\Ext θ i/\(∀G:T->AV->Prop,alC c J G->G q a)/\AvD i v k a:=by
 cases c with
 | int r=>
  cases v<;>simp only[apC]at h<;>skip
  rename_i k' x;split at h
  ·rename_i he;obtain rfl:=og he;exact⟨_,θ,.v (.int r x),h,Ext.refl θ,λG d=>d x,rfl⟩
  ·exact h.elim
 | bool=>
  cases v<;>simp only[apC]at h<;>skip
  exact⟨_,θ,_,h,Ext.refl θ,λG d=>d _,rfl⟩
 | str=>
  cases v<;>simp only[apC]at h<;>skip
  exact⟨_,θ,_,h,Ext.refl θ,λG d=>d _,rfl⟩
 |any=>exact⟨_,θ,.v v,h,Ext.refl θ,λG d=>d _,rfl⟩
 | hdr=>
  cases v<;>simp only[apC]at h<;>skip
  exact⟨_,θ,_,h,Ext.refl θ,λG d=>d _ _ _,rfl⟩
 | nsl=>
  simp only[apC]at h;split at h
  ·exact⟨_,θ,_,h,Ext.refl θ,λG d=>d,rfl⟩
  ·exact h.elim
 | nil=>
  simp only[apC]at h;split at h
  ·exact⟨_,θ,_,h,Ext.refl θ,λG d=>d,rfl⟩
  ·exact h.elim
 | fn f=>
  simp only[apC]at h;split at h
  ·split at h
   ·rename_i he;obtain rfl:=Nat.eq_of_beq_eq_true he;exact⟨_,θ,_,h,Ext.refl θ,λG d=>d,rfl⟩
   ·exact h.elim
  ·exact h.elim
 | ptr j=>
  simp only[apC]at h;split at h
  ·rename_i id;obtain⟨i,l,m,o⟩:=ic h;exact⟨_,i,_,l,m,λG d=>d,_,rfl,by simp[PK.ren,o]⟩
  ·exact h.elim
 | obj j path=>
  simp only[apC]at h;split at h
  ·rename_i id p;split at h
   ·rename_i he;obtain⟨i,l,m,o⟩:=ic h;exact⟨_,i,_,l,m,λG d=>d,_,rfl,by simp[PK.ren,o,Nat.eq_of_beq_eq_true he]⟩
   ·exact h.elim
  ·exact h.elim
 | sl j=>
  simp only[apC]at h;split at h
  ·rename_i id;obtain⟨i,l,m,o⟩:=ic h;exact⟨_,i,_,l,m,λG d=>d,_,rfl,by simp[PK.ren,o]⟩
  ·exact h.elim
theorem tY {T:Type}:∀ {l:List CP}{J:Dy l T}{vs:List Value}{kc:Nat->Option PK}{i:Nat}{θ:Th}{F:T->Th->Prop},J6 l J vs kc i θ F->∃d k f,F d k/\Ext θ k/\(∀G:T->List AV->Prop,CW l J G->G d f)/\Dz k vs kc i f
 | [],J,[],kc,i,θ,F,h=>⟨J,θ,[],h,Ext.refl θ,λG m=>m,rfl,λj a v r=>by simp[nth]at r⟩
 | [],_,_::_,_,_,_,_,h=>h.elim
 |c::l,J,[],_,_,_,_,h=>h.elim
 | c::l,J,v::vs,kc,i,θ,F,h=>by
  obtain⟨I,L,a,t,x,y,d1⟩:=Ew h;obtain⟨z,C,f,D,q,H,d2⟩:=tY t;refine⟨z,C,a::f,D,x.trans q,λG m=>H (λo vs=>G o (a::vs)) (y (λd a'=>CW l d λo vs=>G o (a'::vs)) m),?_,λj b u p hu=>?_⟩
  ·simp[d2.1]
  ·cases j with
   | zero=>
    simp only[nth,Option.some.injEq]at p hu;subst p;subst hu;exact d1.mono q
   | succ j=>
    have:=d2.2 j b u p hu
    rwa[show i+1+j=i+(j+1)by omega]at this
def AaD(θ:Th)(v:Value)(k:Option Kn):AA->Prop
 |.one a=>AvD θ v (jm k) a
 |.agg d=>∃cs,v=.agg cs/\Dz θ cs.toList (LY k) 0 d
theorem AaD.mono {θ d:Th}(h:Ext θ d){v:Value}{k:Option Kn}{a:AA}(f:AaD θ v k a):AaD d v k a:=by
 cases a with
 |one a=>exact AvD.mono h f
 |agg j=>obtain⟨cs,e,i⟩:=f;exact⟨cs,e,i.mono h⟩
theorem AZ {T:Type}:∀ {l:List AP}{J:DA U l T}{vs:List Value}{o:List (Option Kn)}{θ:Th}{F:T->Th->Prop},Ba l J vs o θ F->∃d i p,F d i/\Ext θ i/\(∀G:T->List AA->Prop,yx l J G->G d p)/\p.length=vs.length/\∀j a v,nth p j=some a->nth vs j=some v->∃k,nth o j=some k/\AaD i v k a
 | [],J,[],o,θ,F,h=>⟨J,θ,[],h,Ext.refl θ,λG f=>f,rfl,λj a v m=>by simp[nth]at m⟩
 | [],_,_::_,_,_,_,h=>by simp[Ba]at h
 |_::_,_,[],_,_,_,h=>by simp[Ba]at h
 |_::_,_,_::_,[],_,_,h=>by simp[Ba]at h
 | a::l,J,v::vs,k::o,θ,F,h=>by
  simp only[Ba]at h;have one:∃d i x,Ba l d vs o i F/\Ext θ i/\(∀G:DA U l T->AA->Prop,alA a J G->G d x)/\AaD i v k x:=by
   cases a with
   | one c=>
    obtain⟨z,C,x,q,r,t,d1⟩:=Ew (show apC c J v (jm k) θ _ from h);exact⟨z,C,.one x,q,r,λG f=>t (λd y=>G d (.one y)) f,d1⟩
   | agg cs=>
    simp only[apA]at h;split at h
    ·rename_i L;obtain⟨z,C,x,q,r,t,d1⟩:=tY h;exact⟨z,C,.agg x,q,r,λG f=>t (λd y=>G d (.agg y)) f,L,rfl,d1⟩
    ·exact h.elim
   | enc tt=>
    simp only[apA]at h;split at h
    ·rename_i cs;split at h
     ·rename_i x M;have e:=U.fW M;refine⟨_,θ,.agg (aM .v ((U.en tt).enc x)),h,Ext.refl θ,λG f=>f x,cs,rfl,?_,λj a v m N=>?_⟩
      ·rw[e,gy,List.length_map]
      ·rw[e,bq,N]at m;injection m with m
       subst m;rfl
     ·exact h.elim
    ·exact h.elim
  obtain⟨z,C,x,q,r,t,d1⟩:=one;obtain⟨O,Q,p,R,I,S,l2,d2⟩:=AZ q;refine⟨O,Q,x::p,R,r.trans I,λG f=>S (λD vs=>G D (x::vs)) (t (λd a'=>yx l d λD vs=>G D (a'::vs)) f),by simp[l2],λj b u H hu=>?_⟩;cases j with
  | zero=>
   simp only[nth,Option.some.injEq]at H hu;subst H;subst hu;exact⟨k,rfl,d1.mono I⟩
  |succ j=>exact d2 j b u H hu
def LkD(θ:Th)(d:Nat->Option PK)(lk:List (Nat×Nat×Nat)):Prop:=∀p j q,(p,j,q)∈lk->∃i,d p=some (.obj i q 0)/\cq θ j=some i
def PrD(θ:Th)(kc h:Nat->Option PK):PR U->Res U->Prop
 |.ob t r s lk,x=>x=.ob t r s/\LkD θ h lk
 |.blk g i T,x=>∃cs,x=.blk g cs T/\Dz θ cs kc 0 i
 |.lst t own T A c l,x=>∃d f,x=.lst t d f A c l/\(own=true->d=true/\f=T)
theorem PrD.mono {θ f:Th}(h:Ext θ f){kc k:Nat->Option PK}{p:PR U}{x:Res U}(d:PrD θ kc k p x):PrD f kc k p x:=by
 cases p with
 |ob t r s lk=>exact⟨d.1,λp j q hm=>by obtain⟨i,m,o⟩:=d.2 p j q hm;exact⟨i,m,h _ _ o⟩⟩
 |blk g v T=>obtain⟨cs,e,u⟩:=d;exact⟨cs,e,u.mono h⟩
 |lst t own T A c l=>exact d
def K8:RP->Bool
 |.lst _ own _=>!own
 |_=>false
def Lh:PR U->Bool
 |.lst _ own _ _ _ _=>!own
 |_=>false
theorem AY:∀ {l:List (Nat×Nat×Nat)}{d:Nat->Option PK}{θ:Th}{F:Th->Prop},J5 l d θ F->∃f,F f/\Ext θ f/\LkD f d l
 | [],d,θ,F,h=>⟨θ,h,Ext.refl θ,λ_ _ _ hm=>by cases hm⟩
 | (p,j,q)::l,d,θ,F,h=>by
  simp only[J5]at h;split at h
  ·rename_i i q' o;split at h
   ·rename_i hq;have hq:=Nat.eq_of_beq_eq_true hq;subst hq;obtain⟨D,r,t,u⟩:=ic h;obtain⟨v,x,m,y⟩:=AY r;refine⟨v,x,t.trans m,λG H I hm=>?_⟩;rcases List.mem_cons.1 hm with e|hm
    ·injection e with z k
     injection k with k C
     subst z;subst k;subst C;exact⟨i,o,m _ _ u⟩
    ·exact y _ _ _ hm
   ·exact h.elim
  ·exact h.elim
theorem J4 {T:Type}{p:RP}{J:p.T U T}{r:Option (Res U)}{kc C:Nat->Option PK}{θ:Th}{F:T->Th->Prop}(h:apR p J r kc C θ F):∃i k x y,r=some x/\F i k/\Ext θ k/\(∀G:T->PR U->Prop,alR p J G->G i y)/\PrD k kc C y x/\Lh y=K8 p:=by
 cases p with
 | ob t lk=>
  cases r with
  |none=>exact h.elim
  | some x=>
   cases x<;>simp only[apR]at h<;>skip
   rename_i m r s;split at h
   ·rename_i d;subst d;obtain⟨o,q,u,v⟩:=AY h;exact⟨_,o,_,.ob m r s lk,rfl,q,u,λG f=>f r s,⟨rfl,v⟩,rfl⟩
   ·exact h.elim
 | blk l j=>
  cases r with
  |none=>exact h.elim
  | some x=>
   cases x<;>simp only[apR]at h<;>skip
   rename_i g cs D;split at h
   ·rename_i d;obtain⟨H,o,I,q,u,v,d1⟩:=tY h;exact⟨H,o,_,.blk g I j,rfl,q,u,λG f=>v (λi cs=>G i (.blk g cs j)) (f g),⟨cs,by rw[Nat.eq_of_beq_eq_true d],d1⟩,rfl⟩
   ·exact h.elim
 | lst t own j=>
  cases r with
  |none=>exact h.elim
  | some x=>
   cases x<;>simp only[apR]at h<;>skip
   rename_i m L D A c l;split at h
   ·rename_i z;split at h
    ·rename_i d;subst d;refine⟨_,θ,_,.lst m own j A c l,rfl,h,Ext.refl θ,λG f=>f A c l,⟨L,D,rfl,λM=>?_⟩,rfl⟩;subst M;simp only[Bool.not_true,Bool.false_or,Bool.and_eq_true]at z;exact⟨z.1,Nat.eq_of_beq_eq_true z.2⟩
    ·exact h.elim
   ·exact h.elim
theorem AX {T:Type}{rs:List (Res U)}{kn:List (Key×Kn)}:∀ {l:List RP}{J:FZ U l T}{d:Nat}{θ:Th}{F:T->Th->Prop},J0 rs kn l J d θ F->∃i k f,F i k/\Ext θ k/\(∀G:T->List (PR U)->Prop,yw l J G->G i f)/\f.length=l.length/\
 ∀j p,nth f j=some p->∃id x,cq k (d+j)=some id/\nth rs id=some x/\PrD k (λo=>jm (cr (.c id o) kn)) (λq=>jm (cr (.l id q) kn)) p x/\∃q,nth l j=some q/\Lh p=K8 q
 | [],J,d,θ,F,h=>⟨J,θ,[],h,Ext.refl θ,λG m=>m,rfl,λj p v=>by simp[nth]at v⟩
 | p::l,J,d,θ,F,h=>by
  simp only[J0]at h;split at h
  ·rename_i id z;obtain⟨J1,θ1,x,y,C,D,u,H,d1,I⟩:=J4 h;obtain⟨L,M,f,N,r,O,l2,d2⟩:=AX D;refine⟨L,M,y::f,N,u.trans r,λG m=>O (λt xs=>G t (y::xs)) (H (λi Q=>yw l i λt xs=>G t (Q::xs)) m),by simp[l2],λj q hq=>?_⟩;cases j with
   | zero=>
    simp only[nth,Option.some.injEq]at hq;subst hq;exact⟨id,x,r _ _ (u _ _ z),C,d1.mono r,p,rfl,I⟩
   | succ j=>
    obtain⟨R,S,V,W,h5,h6⟩:=d2 j q hq;exact⟨R,S,by rw[show d+(j+1)=d+1+j by omega];exact V,W,h5,h6⟩
  ·exact h.elim
theorem wQ {rs:List (Res U)}:∀ {l:List (Nat×Nat)}{θ:Th}{F:Th->Prop},Ev rs l θ F->∃d,F d/\Ext θ d
 | [],θ,F,h=>⟨θ,h,Ext.refl θ⟩
 | (j,t)::l,θ,F,h=>by
  simp only[Ev]at h;split at h
  ·obtain⟨p,f,i,_⟩:=ic h;obtain⟨k,m,o⟩:=wQ f;exact⟨k,m,i.trans o⟩
  ·exact h.elim
structure dt(w0:World)(k0:Nat)(X0:Nat->Nat->Prop)(may:List Nat)(fr:Fr)(st:St U)(X:Nat->Nat->Prop)(w:World)(st':St U)(X':Nat->Nat->Prop)(w':World)(M:List Nat):Prop where
 inv:Inv w0 k0 X0 may st'.rs X' w'
 kn:aH st'.rs fr st'.kn
 md:st'.md=M++st.md
 mlt:∀i,i∈M->i<st.rs.length
 can:∀i,i∈M->i∈may\/k0<=i
 len:st.rs.length<=st'.rs.length
 same:∀i,i<st.rs.length->i ∉ M->nth st'.rs i=nth st.rs i/\X' i=X i
 grow:∀i,i∈M->∀k,X' i k->X i k\/w.heap.size<=k
 new:∀i,st.rs.length<=i->i<st'.rs.length->∀k,X' i k->w.heap.size<=k
 ch:Ch (λk=>∃j,j∈M/\X j k) w w'
 root:∀i a,nth st.rs i=some a->∃b,nth st'.rs i=some b/\cD a b
theorem gA {i:Nat}(h:ku may k0 i=true):i∈may\/k0<=i:=by
 unfold ku at h;split at h
 ·rename_i d;exact .inr (Nat.le_of_ble_eq_true d)
 ·exact .inl (eQ.1 h)
theorem ft:∀ {M:List Nat}{us:List (Upd U)}{rs rs':List (Res U)},bH rs M us=some rs'->rs'.length=rs.length/\(∀i,i ∉ M->nth rs' i=nth rs i)/\∀i,i∈M->i<rs.length/\∀a,nth rs i=some a->∃b,nth rs' i=some b/\cD a b
 | [],[],rs,rs',h=>by
  simp only[bH,Option.some.injEq]at h;subst h;exact⟨rfl,λ_ _=>rfl,λi hi=>by cases hi⟩
 | [],_::_,_,_,h=>by simp[bH]at h
 |_::_,[],_,_,h=>by simp[bH]at h
 | i::M,u::us,rs,rs',h=>by
  simp only[bH]at h;split at h
  ·rename_i r m;split at h
   ·rename_i r' t;obtain⟨o,p,k⟩:=ft h;have hi:=aZ m;simp only[sQ]at o k;have e:∀j,nth (bK rs i r') j=if j=i then some r' else nth rs j:=λj=>by
     rw[bh];by_cases d:j=i
     ·rw[if_pos ⟨d,hi⟩,if_pos d]
     ·rw[if_neg (λv=>d v.1),if_neg d]
    refine⟨o,λj d=>?_,λj d=>?_⟩
    ·rw[List.mem_cons,not_or]at d;rw[p j d.2,e,if_neg d.1]
    ·refine⟨?_,λa f=>?_⟩
     ·rcases List.mem_cons.1 d with rfl|d
      ·exact hi
      ·exact(k j d).1
     ·by_cases l:j=i
      ·subst l;rw[m]at f;injection f with f
       subst f;have q:=AU t;by_cases hm:j∈M
       ·obtain⟨b,x,y⟩:=(k j hm).2 r' (by rw[e,if_pos rfl]);exact⟨b,x,q.trans y⟩
       ·exact⟨r',by rw[p j hm,e,if_pos rfl],q⟩
      ·have hm:j∈M:=(List.mem_cons.1 d).resolve_left l;exact(k j hm).2 a (by rw[e,if_neg l];exact f)
   ·cases h
  ·cases h
theorem qL {f:Nat->Option Nat}(F:∀a b i,f a=some i->f b=some i->a=b):∀ {ms M:List Nat}{us:List (Upd U)}{L y G z:List (Res U)},iA f ms=some M->bH L ms us=some y->bH G M us=some z->Emb f L G->(∀j,j∈ms->∀r,nth L j=some r->∃i,f j=some i/\nth G i=some r)->
 Emb f y z/\∀j,j∈ms->∀r,nth y j=some r->∃i,f j=some i/\nth z i=some r
 | [],M,us,L,y,G,z,q,o,t,N,O=>by
  simp only[iA,Option.some.injEq]at q;subst q;cases us with
  |cons u us=>simp[bH]at o
  | nil=>
   simp only[bH,Option.some.injEq]at o t;subst o;subst t;exact⟨N,λj k=>by cases k⟩
 | m::ms,M,us,L,y,G,z,q,o,t,N,O=>by
  simp only[iA]at q;split at q
  ·rename_i i v hi R;injection q with q
   subst q;cases us with
   |nil=>simp[bH]at o
   | cons u us=>
    simp only[bH]at o t;split at o
    ·rename_i r S;split at o
     ·rename_i r1 an;obtain⟨i',H,T⟩:=O m (List.mem_cons_self ..) r S;rw[hi]at H;injection H with H
      subst H;rw[T]at t;simp only[an]at t;have V:=aZ S;have az:=aZ T;have key:∀j x,nth (bK L m r1) j=some x->(j=m/\x=r1)\/(j≠m/\nth L j=some x):=by
       intro j x d;rw[bh]at d;by_cases k:j=m
       ·rw[if_pos ⟨k,V⟩]at d;injection d with d
        exact .inl ⟨k,d.symm⟩
       ·rw[if_neg (λp=>k p.1)]at d;exact .inr ⟨k,d⟩
      have C:∀j,nth (bK G i r1) j=if j=i then some r1 else nth G j:=λj=>by
       rw[bh];by_cases k:j=i
       ·rw[if_pos ⟨k,az⟩,if_pos k]
       ·rw[if_neg (λp=>k p.1),if_neg k]
      have W:=qL F R o t (λj x d=>by
       rcases key j x d with⟨rfl,rfl⟩|⟨k,d⟩
       ·exact⟨i,_,hi,by rw[C,if_pos rfl],.inl rfl⟩
       ·obtain⟨a,b,D,Q,h5⟩:=N j x d;exact⟨a,b,D,by rw[C,if_neg (by rintro rfl;exact k (F _ _ _ D hi))];exact Q,h5⟩) (λj k x d=>by
       rcases key j x d with⟨rfl,rfl⟩|⟨aA,d⟩
       ·exact⟨i,hi,by rw[C,if_pos rfl]⟩
       ·obtain⟨a,D,Q⟩:=O j (List.mem_cons_of_mem _ k) x d;exact⟨a,D,by rw[C,if_neg (by rintro rfl;exact aA (F _ _ _ D hi))];exact Q⟩)
      refine⟨W.1,λj k x d=>?_⟩;by_cases I:j∈ms
      ·exact W.2 j I x d
      ·have aC:j=m:=(List.mem_cons.1 k).resolve_right I;subst aC;have J:=(ft o).2.1 j I;rw[d,bh,if_pos ⟨rfl,V⟩]at J;injection J with J
       subst J;have aN:i ∉ v:=by
        intro p;have:∀ {l v:List Nat},iA f l=some v->i∈v->∃a∈l,f a=some i:=by
         intro l
         induction l with
         |nil=>intro v h p;simp only[iA,Option.some.injEq]at h;subst h;cases p
         | cons a l ih=>
          intro v h p;simp only[iA]at h;split at h
          ·rename_i b bs hb a0;injection h with h
           subst h;rcases List.mem_cons.1 p with rfl|p
           ·exact⟨a,List.mem_cons_self ..,hb⟩
           ·obtain⟨c,hc,a2⟩:=ih a0 p;exact⟨c,List.mem_cons_of_mem _ hc,a2⟩
          ·cases h
        obtain⟨a,ha,a3⟩:=this R p;exact I (F _ _ _ a3 hi▸ha)
       refine⟨i,hi,?_⟩;rw[(ft t).2.1 i aN,C,if_pos rfl]
     ·cases o
    ·cases o
  ·cases q
theorem zZ {α β:Type}{f:α->Option β}:∀ {l:List α}{r:List β},iA f l=some r->∀b,b∈r->∃a,a∈l/\f a=some b
 | [],r,h,b,d=>by
  simp only[iA,Option.some.injEq]at h;subst h;cases d
 | a::l,r,h,b,d=>by
  simp only[iA]at h;split at h
  ·rename_i c cs i j;injection h with h
   subst h;rcases List.mem_cons.1 d with rfl|d
   ·exact⟨a,List.mem_cons_self ..,i⟩
   ·obtain⟨x,k,m⟩:=zZ j b d;exact⟨x,List.mem_cons_of_mem _ k,m⟩
  ·cases h
theorem lU {α β:Type}{f:α->Option β}:∀ {l:List α}{r:List β},iA f l=some r->∀a,a∈l->∃b,b∈r/\f a=some b
 | [],r,h,a,i=>by cases i
 | a::l,r,h,x,d=>by
  simp only[iA]at h;split at h
  ·rename_i c cs j k;injection h with h
   subst h;rcases List.mem_cons.1 d with rfl|d
   ·exact⟨c,List.mem_cons_self ..,j⟩
   ·obtain⟨b,m,o⟩:=lU k x d;exact⟨b,List.mem_cons_of_mem _ m,o⟩
  ·cases h
theorem jG {d:List (PR U)}{j:Nat}:nth (dK d) j=(nth d j).map (PR.fin (aM PR.jx d)):=by
 unfold dK;exact bq _ _ _
@[simp] theorem Me(d:List (PR U)):(dK d).length=d.length:=by unfold dK;simp
theorem rU(d:List (PR U))(p:PK):den U (dK d) p=den U (aM PR.jx d) p:=by
 unfold den;rw[jG,bq];cases nth d p.id with
 |none=>rfl
 |some y=>cases y<;>cases p<;>rfl
theorem D7 {i:Nat}{key:Key}{k:Kn}:∀ {l:List (Nat×Nat×Nat)},(key,k)∈lkK i l->∃p j q,(p,j,q)∈l/\key=.l i p/\k=.p (.obj j q 0)
 | (p,j,q)::l,h=>by
  rcases List.mem_cons.1 h with e|h
  ·injection e with d f
   exact⟨p,j,q,List.mem_cons_self ..,d,f⟩
  ·obtain⟨m,o,q',r,t⟩:=D7 (l:=l) h;exact⟨m,o,q',List.mem_cons_of_mem _ r,t⟩
theorem jC {key:Key}{k:Kn}:∀ {l:List (PR U)}{i:Nat},(key,k)∈xX i l->∃j t r s lk p d q,nth l j=some (.ob t r s lk)/\(p,d,q)∈lk/\key=.l (i+j) p/\k=.p (.obj d q 0)
 | [],_,h=>by cases h
 | .ob t r s lk::l,i,h=>by
  rcases List.mem_append.1 h with h|h
  ·obtain⟨p,d,q,f,m,o⟩:=D7 h;exact⟨0,t,r,s,lk,p,d,q,rfl,f,m,o⟩
  ·obtain⟨j,t,r,s,lk,p,d,q,f,m,o,u⟩:=jC (l:=l) h;exact⟨j+1,t,r,s,lk,p,d,q,f,m,by rw[o];congr 1;omega,u⟩
 | .blk _ _ _::l,i,h=>by
  obtain⟨j,t,r,s,lk,p,d,q,f,m,o,u⟩:=jC (l:=l) h;exact⟨j+1,t,r,s,lk,p,d,q,f,m,by rw[o];congr 1;omega,u⟩
 | .lst _ _ _ _ _ _::l,i,h=>by
  obtain⟨j,t,r,s,lk,p,d,q,f,m,o,u⟩:=jC (l:=l) h;exact⟨j+1,t,r,s,lk,p,d,q,f,m,by rw[o];congr 1;omega,u⟩
theorem wz(f:Nat->Option Nat)(k:Option Kn)(v:Value):kq (D9 f k) v=kq k v:=by
 cases k with
 |none=>rfl
 | some k=>
  cases k with
  |p p=>show kq ((p.ren f).map .p) v=_;cases p.ren f<;>rfl
  |w p n=>show kq ((p.ren f).map (.w · n)) v=_;cases p.ren f<;>rfl
  |_=>rfl
theorem jH {rs:List (Res U)}{v:Value}{k:Option Kn}(h:KnO rs v k):Ending.returned v=kq k v:=by
 cases k with
 |none=>rfl
 |some k=>cases k<;>first|rfl|exact h.elim
theorem wL {f:Nat}{args:List Value}{ks:List (Option Kn)}{st:St U}{K:dL U}{w0:World}{X0 X:Nat->Nat->Prop}{w:World}{fr:Fr}(b8:∀f c,tbl.c f=some c->LV U P f c)(hI:Inv w0 k0 X0 may st.rs X w)(J:aH st.rs fr st.kn)
 (b9:∀j v k,nth args j=some v->nth ks j=some k->KnO st.rs v k)(h:call2 U tbl may k0 f args ks st K):
 Calls P f ⟨args⟩ w λe w'=>∃v k st' O M,e=kq k v/\K v k st'/\(k=some .pan\/KnO st'.rs v k)/\dt w0 k0 X0 may fr st X w st' O w' M:=by
 unfold call2 at h;split at h
 ·exact h.elim
 rename_i c hc;have cc:=b8 f c hc;obtain⟨B1,θ1,az,h,e1,g1,la,da⟩:=AZ h;obtain⟨θ2,h,R⟩:=wQ h;obtain⟨B2,θ,I,h,e3,g3,lp,dp⟩:=AX h;split at h
 case h_2=>exact h.elim
 rename_i M H hM;simp only[Bool.and_eq_true]at H;obtain⟨cf,cg,cj⟩:=H;split at h
 case h_2=>exact h.elim
 rename_i bc;have a5:∀a b i,cq θ a=some i->cq θ b=some i->a=b:=λa b i=>KS cf;have bd:∀j i,cq θ j=some i->j<I.length:=λj i m=>by
  have:=bY.1 cg _ (lM m);rw[lp];simpa[Nat.blt_eq]using this
 have bg:∀ {p q v},p.ren (cq θ)=some q->den U st.rs q=some v->den U (aM PR.jx I) p=some v:=by
  intro p q v z hd;obtain⟨y,L⟩:=bW (bd _ _ (PK.xI z));obtain⟨id,x,C,D,F,_⟩:=dp _ y L;rw[Nat.zero_add,PK.xI z]at C;injection C with C
  subst C;unfold den at hd ⊢;rw[D]at hd;rw[bq,L,<-hd];simp only[Option.map_some];cases y with
  | ob t r s lk=>
   cases F.1;cases p<;>simp only[PK.ren,Option.map_eq_some_iff]at z<;>obtain⟨i,hi,rfl⟩:=z<;>rfl
  | blk g a1 T=>
   obtain⟨cs,rfl,_⟩:=F;cases p<;>simp only[PK.ren,Option.map_eq_some_iff]at z<;>obtain⟨i,hi,rfl⟩:=z<;>rfl
  | lst t own T A c' l=>
   obtain⟨bl,T',rfl,_⟩:=F;cases p<;>simp only[PK.ren,Option.map_eq_some_iff]at z<;>obtain⟨i,hi,rfl⟩:=z<;>rfl
 have bs:∀ {v:Value}{k:Option PK}{a:AV},AvD θ v k a->(∀p,k=some p->den U st.rs p=some v)->jI (aM PR.jx I) a=v:=by
  intro v k a G a6;cases a with
  |v x=>exact G
  | k p=>
   obtain⟨q,hq,d⟩:=G;show(den U _ p).getD undef=v;rw[bg d (a6 q hq)];rfl
 have bA:∀ {vs:List Value}{kc:Nat->Option PK}{az:List AV},Dz θ vs kc 0 az->(∀j v p,nth vs j=some v->kc j=some p->den U st.rs p=some v)->aM (jI (aM PR.jx I)) az=vs:=by
  intro vs kc az hd a6;apply List.ext_getElem?;intro j;rw[<-aO,<-aO,bq];cases G:nth az j with
  | none=>
   have:vs.length<=j:=by
    rw[<-hd.1];apply Nat.le_of_not_lt;intro S;obtain⟨x,hx⟩:=bW S;rw[hx]at G;cases G
   rw[tq this];rfl
  | some a=>
   obtain⟨v,N⟩:=bW (l:=vs) (i:=j) (by rw[<-hd.1];exact aZ G);rw[N];have hd':=hd.2 j a v G N;rw[Nat.zero_add]at hd';exact congrArg some (bs hd' (λp z=>a6 j v p N z))
 have ck:aM (uh (aM PR.jx I)) az=args:=by
  apply List.ext_getElem?;intro j;rw[<-aO,<-aO,bq];cases G:nth az j with
  | none=>
   have:args.length<=j:=by
    rw[<-la];apply Nat.le_of_not_lt;intro S;obtain⟨x,hx⟩:=bW S;rw[hx]at G;cases G
   rw[tq this];rfl
  | some a=>
   obtain⟨v,N⟩:=bW (l:=args) (i:=j) (by rw[<-la];exact aZ G);rw[N];obtain⟨k,ct,hd⟩:=da j a v G N;have hd:=hd.mono (R.trans e3);have bC:=b9 j v k N ct;cases a with
   | one a=>
    refine congrArg some (bs hd λp z=>?_);unfold jm at z;split at z
    ·injection z with z;subst z;exact bC
    ·cases z
   | agg a1=>
    obtain⟨cs,rfl,cA⟩:=hd;have h9:=bA cA (λj v p N z=>by
     unfold LY at z;split at z
     ·rename_i l _;obtain⟨cC,e,S⟩:=bC;injection e with e
      subst e;split at z
      ·rename_i o ho;subst z;obtain⟨u,hu,hd⟩:=S _ _ ho;rw[aO]at N;have:some v=some u:=by rw[<-N,<-hu];simp
       injection this with this
       rw[this];exact hd
      ·cases z
     ·cases z)
    show some (Value.agg ⟨aM _ a1⟩)=_;rw[h9]
 have aC:Emb (cq θ) (dK I) st.rs:=by
  intro j r d;rw[jG]at d;cases L:nth I j with
  |none=>rw[L]at d;cases d
  | some y=>
   rw[L]at d;injection d with d
   obtain⟨id,x,C,D,F,_⟩:=dp _ y L;rw[Nat.zero_add]at C;refine⟨id,x,C,D,?_⟩;cases y with
   |ob t r' s lk=>exact .inl (by rw[<-d,F.1];rfl)
   | blk g a1 T=>
    obtain⟨cs,rfl,hd⟩:=F;left;rw[<-d];show Res.blk g (aM _ a1) T=_;rw[bA hd λo v p N z=>?_];unfold jm at z;split at z
    ·rename_i q hq;injection z with z
     subst z;obtain⟨g',cC,T',u,e4,e5,e6⟩:=J.get hq;rw[D]at e4;injection e4 with e4
     injection e4 with _ e4 _
     subst e4;rw[N]at e5;injection e5 with e5
     subst e5;exact e6
    ·cases z
   | lst t own T A c' l=>
    obtain⟨bl,T',rfl,ho⟩:=F;cases own with
    |false=>exact .inr ⟨t,bl,T,T',A,c',l,d.symm,rfl⟩
    | true=>
     obtain⟨cM,cN⟩:=ho rfl;left;rw[<-d,cM,cN];rfl
 have c0:∀j,j∈c.bB->∀r,nth (dK I) j=some r->∃i,cq θ j=some i/\nth st.rs i=some r:=by
  intro j m r d;obtain⟨i,r',C,D,F⟩:=aC j r d;refine⟨i,C,?_⟩;rcases F with rfl|⟨t,own,T,T',A,c',l,rfl,rfl⟩
  ·exact D
  ·exfalso;have hm:=bY.1 cj j m;rw[jG]at d;cases L:nth I j with
   |none=>rw[L]at d;cases d
   | some y=>
    rw[L]at d;injection d with d
    obtain⟨_,_,_,_,_,q,hq,a7⟩:=dp j y L;rw[hq]at hm;have c1:Lh y=true:=by
     cases y<;>simp only[PR.fin,reduceCtorEq]at d
     injection d with e1 R
     subst R;rfl
    rw[c1]at a7;cases q<;>simp[K8]at a7
    subst a7;simp at hm
 have aN:∀j i,cq θ j=some i->X ((cq θ j).getD 0)=X i:=λj i m=>by simp[m]
 have c2:Sat (dK I) (λj=>X ((cq θ j).getD 0)) w:=by
  refine⟨λj r d=>?_,λi j hi m a8 k bN=>?_⟩
  ·obtain⟨i,r',C,D,F⟩:=aC j r d;rw[aN j i C];have:=hI.sat.res i r' D;rcases F with rfl|⟨t,own,T,T',A,c',l,rfl,rfl⟩
   ·exact this
   ·exact this.rd
  ·obtain⟨x,hx⟩:=bW hi;obtain⟨y,L⟩:=bW m;obtain⟨a,_,C,D,_⟩:=aC i x hx;obtain⟨b,_,F,h4,_⟩:=aC j y L;rw[aN i a C]at bN;rw[aN j b F];exact hI.sat.dis a b (aZ D) (aZ h4) (λe=>a8 (a5 i j a C (e▸F))) k bN
 have c3:=g3 _ (g1 _ cc);have c4:aH (dK I) fr0 (xX 0 I):=by
  intro key k hm;obtain⟨j,t,r,s,lk,p,j',q,e1,R,rfl,rfl⟩:=jC hm;rw[Nat.zero_add];obtain⟨id,x,C,D,F,_⟩:=dp _ _ e1;rw[Nat.zero_add]at C;obtain⟨F,h4⟩:=F;obtain⟨i,h5,h6⟩:=h4 _ _ _ R;refine⟨t,r,s,by rw[jG,e1];rfl,?_⟩;dsimp only at h5;unfold jm at h5;split at h5
  ·rename_i k' c5;injection h5 with h5
   subst h5;obtain⟨t',r',s',g1,g2⟩:=J.get c5;rw[D,F]at g1;injection g1 with g1
   cases g1;show den U (dK I) (.obj j' q 0)=_;rw[rU];exact bg (p:=.obj j' q 0) (q:=.obj i q 0) (by simp[PK.ren,h6]) g2
  ·cases h5
 have b0:=c3 _ h _ w c2 c4;rw[ck]at b0;refine b0.mono λe w' z=>?_;obtain⟨out,Q,Xl,rfl,hQ,b1,V⟩:=z;split at hQ
 case h_2=>exact hQ.elim
 rename_i rs' b2;obtain⟨c6,c7⟩:=qL a5 hM b1 b2 aC c0;obtain⟨u1,u2,u3⟩:=ft b2;obtain⟨v1,v2,v3⟩:=ft b1;have a2:∀i,i∈M->i<st.rs.length:=λi hi=>(u3 i hi).1;have dC:c.res.length=I.length:=lp.symm;have c8:Q.length=I.length:=by rw[v1];simp
 have a0:Emb (DF θ c.res.length st.rs.length) (Q++out.news) (rs'++out.news):=by
  intro j r d;rw[bp]at d;unfold DF;by_cases m:j<Q.length
  ·rw[if_pos m]at d;obtain⟨i,r',C,D,F⟩:=c6 j r d;have H:Nat.blt j c.res.length=true:=by rw[Nat.blt_eq];omega
   rw[H];exact⟨i,r',C,by rw[bp,if_pos (aZ D)];exact D,F⟩
  ·rw[if_neg m]at d;have H:Nat.blt j c.res.length=false:=by
    cases H:Nat.blt j c.res.length
    ·rfl
    ·rw[Nat.blt_eq]at H;omega
   rw[H];refine⟨_,r,rfl,?_,.inl rfl⟩;rw[bp,if_neg (by omega),u1];rw[show st.rs.length+(j - c.res.length) - st.rs.length=j - Q.length by omega];exact d
 let O:Nat->Nat->Prop:=λi=>open Classical in if h:∃j,j∈c.bB/\cq θ j=some i then Xl h.choose else if i<st.rs.length then X i else Xl (c.res.length+(i - st.rs.length))
 have a9:∀j i,j∈c.bB->cq θ j=some i->O i=Xl j:=by
  intro j i m hi;have hex:∃j,j∈c.bB/\cq θ j=some i:=⟨j,m,hi⟩;show(open Classical in if h:_ then _ else _)=_;rw[dif_pos hex,a5 _ _ _ hex.choose_spec.2 hi]
 have ba:∀i,i∈M->∃j,j∈c.bB/\cq θ j=some i:=λi hi=>zZ hM i hi;have b3:∀j i,j∈c.bB->cq θ j=some i->i∈M:=by
  intro j i m hi;obtain⟨b,H,aA⟩:=lU hM j m;rw[hi]at aA;injection aA with aA
  exact aA▸H
 have c9:∀i,i<st.rs.length->i ∉ M->O i=X i:=by
  intro i hi hm;show(open Classical in if h:_ then _ else _)=_;rw[dif_neg (fun⟨j,m,W⟩=>hm (b3 j i m W)),if_pos hi]
 have bb:∀i,st.rs.length<=i->O i=Xl (c.res.length+(i - st.rs.length)):=by
  intro i hi;show(open Classical in if h:_ then _ else _)=_;rw[dif_neg (fun⟨j,m,W⟩=>by have:=a2 i (b3 j i m W);omega),if_neg (by omega)]
 have a3:∀j,j∈c.bB->j<I.length:=by
  intro j m;obtain⟨b,_,H⟩:=lU hM j m;exact bd j b H
 have dc:∀j r,j∈c.bB->nth Q j=some r->nth (Q++out.news) j=some r:=λj r m d=>by rw[bp,if_pos (aZ d)];exact d
 have dd:∀j i r,j∈c.bB->cq θ j=some i->nth rs' i=some r->nth Q j=some r:=by
  intro j i r m hi d;obtain⟨r0,b4⟩:=bW (l:=Q) (i:=j) (by rw[c8];exact a3 j m);obtain⟨i',C,D⟩:=c7 j m r0 b4;rw[hi]at C;injection C with C
  subst C;rw[d]at D;injection D with D
  rw[b4,D]
 have hq:Ch (λk=>∃j,j∈M/\X j k) w w':=V.ch.mono λk ⟨j,m,J⟩=>by
  obtain⟨b,H,aA⟩:=lU hM j m;exact⟨b,H,by rw[aN j b aA]at J;exact J⟩
 have b5:∀i,i∈M->∀k,O i k->X i k\/w.heap.size<=k:=by
  intro i hi k J;obtain⟨j,m,W⟩:=ba i hi;rw[a9 j i m W]at J;have:=V.grow j m k J
  rwa[aN j i W]at this
 have dN:(rs'++out.news).length=st.rs.length+out.news.length:=by rw[List.length_append,u1]
 have b6:∀i,st.rs.length<=i->i<(rs'++out.news).length->∀k,O i k->w.heap.size<=k:=by
  intro i C D k J;rw[bb i C]at J;exact V.new _ (by simp;omega) (by simp;omega) k J
 have a4:∀i,i<st.rs.length->i ∉ M->nth (rs'++out.news) i=nth st.rs i/\O i=X i:=λi hi hm=>⟨by rw[bp,if_pos (by omega)];exact u2 i hm,c9 i hi hm⟩;have hinv:Inv w0 k0 X0 may (rs'++out.news) O w':=by
  refine hI.step M hq (λj m=>⟨a2 j m,gA (bY.1 bc j m)⟩) (by omega) a4 ?_ b5 b6 ?_
  ·intro i hi r d;by_cases an:i∈M
   ·obtain⟨j,m,W⟩:=ba i an;rw[bp,if_pos (by have:=a2 i an;omega)]at d;have C:=dd j i r m W d;rw[a9 j i m W];exact V.sat.res j r (dc j r m C)
   ·have hi:=hi.resolve_left an;rw[bp,if_neg (by omega)]at d;rw[bb i hi];refine V.sat.res _ r ?_;rw[bp,if_neg (by omega)];rw[show c.res.length+(i - st.rs.length) - Q.length=i - rs'.length by omega];exact d
  ·intro i j hi m a8 C D k J;have key:∀i,(i∈M\/st.rs.length<=i)->i<(rs'++out.news).length->∃a,O i=Xl a/\a<(Q++out.news).length/\((i∈M/\a∈c.bB/\cq θ a=some i)\/(st.rs.length<=i/\a=c.res.length+(i - st.rs.length))):=by
    intro i hi dT;by_cases an:i∈M
    ·obtain⟨a,G,b7⟩:=ba i an;exact⟨a,a9 a i G b7,by have:=a3 a G;simp;omega,.inl ⟨an,G,b7⟩⟩
    ·have hi:=hi.resolve_left an;exact⟨_,bb i hi,by simp;omega,.inr ⟨hi,rfl⟩⟩
   obtain⟨a,ea,dk,ca⟩:=key i hi C;obtain⟨b,eb,lb,cb⟩:=key j m D;rw[ea]at J;rw[eb];refine V.sat.dis a b dk lb (λdr=>?_) k J;subst dr;rcases ca with⟨m1,m2,m3⟩|⟨m1,m2⟩<;>rcases cb with⟨n1,n2,n3⟩|⟨n1,n2⟩
   ·rw[m3]at n3;injection n3 with n3;exact a8 n3
   ·have:=a3 a m2;omega
   ·have:=a3 a n2;omega
   ·omega
 have hQ:=lT (λi r d=>⟨_,_,hinv.sat.res i r d⟩) hQ;refine⟨out.res,_,_,O,M,(wz ..).symm,hQ,V.kr.imp (λe=>by rw[e];rfl) a0.knO,hinv,?_,rfl,a2,λi hi=>gA (bY.1 bc i hi),by simp only[];omega,a4,b5,b6,hq,λi a G=>by
  by_cases hi:i∈M
  ·obtain⟨b,H,d⟩:=(u3 i hi).2 a G;exact⟨b,by rw[bp,if_pos (aZ H)];exact H,d⟩
  ·exact⟨a,by rw[(a4 i (aZ G) hi).1];exact G,cD.refl a⟩⟩
 refine aH.app ?_ (aH.ef J (λi hi hm=>(a4 i hi hm).1) λi hi a G=>?_)
 ·intro key k' dA;obtain⟨i,i',o,k,⟨rfl,C⟩|⟨rfl,C⟩,D,F⟩:=jD dA
  ·obtain⟨g,cs,T,v,e1,R,e3⟩:=V.kc _ k C (λ_ e=>by cases e);obtain⟨i2,r',f1,f2,f3⟩:=a0 i _ e1;rw[D]at f1;injection f1 with f1
   subst f1;rcases f3 with rfl|⟨_,_,_,_,_,_,_,S,_⟩
   ·exact⟨g,cs,T,v,f2,R,a0.kn F e3⟩
   ·cases S
  ·obtain⟨t,r,s,e1,R⟩:=V.kc _ k C (λ_ e=>by cases e);obtain⟨i2,r',f1,f2,f3⟩:=a0 i _ e1;rw[D]at f1;injection f1 with f1
   subst f1;rcases f3 with rfl|⟨_,_,_,_,_,_,_,S,_⟩
   ·exact⟨t,r,s,f2,a0.kn F R⟩
   ·cases S
 ·obtain⟨b,H,d⟩:=(u3 i hi).2 a G;exact⟨b,by rw[bp,if_pos (aZ H)];exact H,d⟩
end
end Go.Proofs.YtoghdgcmhbanbaaGreatDoor.V
end
