/- EnterRefuses returns true for every input: which calls of a thread are taken, and why the others are not, by the entries alone; each argument reads behind the call as it read before; what the listed variables read as is tied to the program's text. -/
import Derived.Test.YtjiflmkpbkeocaaGreatDoorX3
import Derived.KernelRfl
import Derived.RecoverIn
import Derived.Test.YtjiflmkpbkeocaaGreatDoorProg
import Derived.Tactics
import Derived.Tactics2
import Derived.Laws.Pointers
import Derived.TacticsInMore
set_option linter.unusedVariables false
set_option linter.unusedSimpArgs false
set_option maxRecDepth 100000
set_option maxHeartbeats 1000000
namespace Go.Proofs.YtjiflmkpbkeocaaGreatDoor
open Go.Proofs.Tryz (prog)
open Go Go.RowKit V
open Go.IntKind (i64 u32 u64 wrap_i64 wrap_u32)
theorem Dn {w:World}(t:Int):
 Calls prog 77 #[J t] w λe b=>∃v,e=.returned v/\v=.bool (DB.turns t)/\Pu w b:=by
 refine zS _ ?_;have hp:=Ch.refl (λ_=>False) w;refine⟨λx b=>x=(((t:Int)==4) || (((t:Int)==5) || ((t:Int)==6)))/\Pu w b,?_,?_⟩
 ·refine ao (λa=>?_) (λa=>?_)
  ·exact⟨by simp only[a,Bool.true_and,Bool.and_true,Bool.false_and,Bool.and_false,Bool.true_or,Bool.or_true,Bool.false_or,Bool.or_false,Bool.not_true,Bool.not_false,if_true,if_false,Bool.false_eq_true],Ch.refl _ _⟩
  ·refine ao (λc=>?_) (λc=>?_)
   ·exact⟨by simp only[a,c,Bool.true_and,Bool.and_true,Bool.false_and,Bool.and_false,Bool.true_or,Bool.or_true,Bool.false_or,Bool.or_false,Bool.not_true,Bool.not_false,if_true,if_false,Bool.false_eq_true],Ch.refl _ _⟩
   ·exact⟨by simp only[a,c,Bool.true_and,Bool.and_true,Bool.false_and,Bool.and_false,Bool.true_or,Bool.or_true,Bool.false_or,Bool.or_false,Bool.not_true,Bool.not_false,if_true,if_false,Bool.false_eq_true],Ch.refl _ _⟩
 rintro _ _ f ⟨rfl,d⟩;have hp:=Ch.pu hp d;exact⟨congrArg Value.bool (by simp[DB.turns,Bool.or_assoc]),hp⟩
theorem qo {w:World}(aH:Int):
 Calls prog 53 #[J aH] w λe d=>∃v,e=.returned v/\v=.agg #[vB true,J aH]/\Pu w d:=by
 refine xe _ ?_;have hp:=Ch.refl (λ_=>False) w;refine mkd λf i b=>?_;have g:=b.lo hp;have a:=b.blk;refine bz a (by simp) λh c=>?_;have a:Blk h f #[vB true,J aH] _:=c.blk;refine⟨_,_,⟨a.at rfl,a.at rfl⟩,?_⟩;have hp:=Ch.call (Ch.made hp b) c.ch (by exact λk e=>.inr (e▸g));exact⟨rfl,hp⟩
theorem JL {L:iI}{D:DB}{w:World}(h:DBP w L D):
 Calls prog 80 #[(.pointer (some (Addr.mk L.g 0 none)))] w λe a=>∃v,e=.returned v/\v=.int .i64 (D.S:Int)/\a=w:=by
 refine zV (some (Addr.mk L.g 0 none)) ?_;obtain⟨_,b⟩:=h.hd;refine au _ rfl ⟨_,_,_,b.at rfl,?_⟩;exact⟨congrArg (Value.int .i64) (by have:=h.S64;rw[ay (by rw[Int.tdiv_eq_ediv_of_nonneg (by omega)];unfold DB.S DB.n2 at *;omega)];rw[Int.tdiv_eq_ediv_of_nonneg (by omega)];unfold DB.S DB.n2;omega),rfl⟩
theorem Bj {L:iI}{D:DB}{w:World}(h:DBP w L D)(aH:Int):
 Calls prog 43 #[(.pointer (some (Addr.mk L.g 0 none))),J aH] w λe a=>∃v,e=.returned v/\v=.bool (D.has aH)/\Pu w a:=by
 refine Er (some (Addr.mk L.g 0 none)) _ ?_;have hp:=Ch.refl (λ_=>False) w;have f:=h.lt;refine⟨λx a=>x=((decide ((aH:Int)>=0)) && (decide ((aH:Int)<(D.S:Int))))/\Pu w a,?_,?_⟩
 ·refine ao (λb=>?_) (λb=>?_)
  ·refine Calls.mono (JL h) ?_;rintro e g ⟨_,rfl,rfl,c⟩;obtain rfl:=c.symm;refine⟨_,rfl,?_⟩;exact⟨by simp only[b,Bool.true_and,Bool.and_true,Bool.false_and,Bool.and_false,Bool.true_or,Bool.or_true,Bool.false_or,Bool.or_false,Bool.not_true,Bool.not_false,if_true,if_false,Bool.false_eq_true],Ch.refl _ _⟩
  ·exact⟨by simp only[b,Bool.true_and,Bool.and_true,Bool.false_and,Bool.and_false,Bool.true_or,Bool.or_true,Bool.false_or,Bool.or_false,Bool.not_true,Bool.not_false,if_true,if_false,Bool.false_eq_true],Ch.refl _ _⟩
 rintro _ _ i ⟨rfl,d⟩;have hp:=Ch.pu hp d;exact⟨congrArg Value.bool (by rw[Bool.eq_iff_iff];simp[DB.has]),hp⟩
theorem dAt {L:iI}{D:DB}{w:World}(h:DBP w L D)(aH:Int)(hp:D.has aH=true):
 Calls prog 44 #[.pointer (some (Addr.mk L.g 0 none)),.int .i64 aH] w λe l=>∃v,e=.returned v/\v=.agg #[.int .i64 (D.at_ aH).typ,.int .i64 (D.at_ aH).owner,.int .i64 (D.at_ aH).refs,.int .i64 (D.at_ aH).state,.bool (D.at_ aH).bq]/\Pu w l:=by
 refine Hp _ _ ?_;refine mkd λo p m=>?_;have f:=h.pu m.pu;obtain⟨T,hd⟩:=f.hd;obtain⟨T2,cs,g,u,hw⟩:=f.ws;have d:=DB.fy hp;have x:=DB.dC hp;have y:=h.S64;have e0:i64.wrap (2*aH)=2*aH:=ay (by omega);have e1:(2*aH).toNat=2*aH.toNat:=by omega
 have i:D.n2=2*D.S:=rfl;refine au _ rfl ⟨_,_,_,hd.at rfl,by rw[e0,i];omega,?_⟩;rintro _ rfl _ rfl _ rfl;rw[e0,e1,i];refine⟨by omega,au (Addr.mk L.a (2*aH.toNat) none) (by rw[if_neg (by omega)];simp[Addr.add];omega) ?_⟩;refine⟨_,_,⟨by rw[aY];exact g.cell (hw _ d).1,by rw[aY];exact g.cell (hw _ d).2⟩,?_⟩;have b:=(h.ok.ent _ d).1;refine Calls.mono (Ma _ _ (Ent.HL b) (Ent.HK b)) ?_;rw[(Ent.Fy b).1,(Ent.Fy b).2];rintro e w1 ⟨_,rfl,rfl,c⟩;refine⟨_,_,_,_,_,_,rfl,?_⟩;refine mkd λq w2 m1=>?_;have b1:=m1.blk;have b0:=m1.old (c.blk m.blk);have ne:=m1.ne (c.blk m.blk);refine bz b1 (by simp) λr s3=>?_;have b1':Blk r q #[.int .i64 (D.at_ aH).typ,.int .i64 (D.at_ aH).owner,.int .i64 (D.at_ aH).refs,.int .i64 (D.at_ aH).state,.bool (D.at_ aH).bq] _:=s3.blk;refine⟨_,_,_,_,_,⟨b1'.at rfl,b1'.at rfl,b1'.at rfl,b1'.at rfl,b1'.at rfl⟩,?_⟩;refine bz (s3.old b0 ne) (by simp) λs j=>?_;have a:Blk s o #[.int .i64 (D.at_ aH).typ,.int .i64 (D.at_ aH).owner,.int .i64 (D.at_ aH).refs,.int .i64 (D.at_ aH).state,.bool (D.at_ aH).bq] _:=j.blk;refine⟨_,_,_,_,_,⟨a.at rfl,a.at rfl,a.at rfl,a.at rfl,a.at rfl⟩,?_⟩;have k:Pu w p:=m.pu;have t:Pu w w2:=(k.trans c).made m1;exact⟨rfl,(t.stored s3 (.inr (m1.lo (k.trans c)))).stored j (.inr (m.lo (Ch.refl (λ_=>False) w)))⟩
theorem Dq {L:iI}{D:DB}{w:World}(h:DBP w L D)(aH c a d f:Int)(g:Bool)(hp:D.has aH=true)(he:(Ent.mk c a d f g).ok=true)(E:a<(D.S:Int)):
 Calls prog 47 #[.pointer (some (Addr.mk L.g 0 none)),.int .i64 aH,.agg #[.int .i64 c,.int .i64 a,.int .i64 d,.int .i64 f,.bool g]] w λe A=>∃v,e=.returned v/\v=.tuple #[]/\DBP A L (D.set aH ⟨c,a,d,f,g⟩)/\Ch L.X w A:=by
 refine En _ _ _ _ _ _ _ ?_;refine mkd λM s m=>?_;have b:=m.blk;refine⟨_,_,_,_,_,⟨b.at rfl,b.at rfl,b.at rfl,b.at rfl,b.at rfl⟩,?_⟩;refine Calls.mono (L9 _ _ _ _ _) ?_;rw[if_pos he,if_pos he,if_pos he];rintro e w1 ⟨_,rfl,rfl,t⟩;refine⟨_,_,_,rfl,?_⟩;refine mkd λl w2 m1=>?_;have F:Pu w w2:=((show Pu w s from m.pu).trans t).made m1;refine bz m1.blk (by simp) λi s3=>?_;have b1:Blk i l #[.int .u32 (Ent.mk c a d f g).w0,.int .u32 (Ent.mk c a d f g).w1] _:=s3.blk;have B:Pu w i:=F.stored s3 (.inr (m1.lo ((show Pu w s from m.pu).trans t)));have u:=(h.pu B).pu (Pu.aU i);have b1:=b1.drew;obtain⟨T,hd⟩:=u.hd;obtain⟨T2,cs,C,G,hw⟩:=u.ws;have O:=DB.fy hp;have Q:=DB.dC hp;have R:=h.S64;have e0:i64.wrap (2*aH)=2*aH:=ay (by omega);have e1:(2*aH).toNat=2*aH.toNat:=by omega
 have y:D.n2=2*D.S:=rfl;have S:l≠L.a:=λe=>by have V:=(h.lt L.a (.inr (.inl rfl)));have W:=m1.lo ((show Pu w s from m.pu).trans t);omega
 refine⟨λ_ k=>k=L.g,au _ rfl ⟨block_add _ _,_,_,_,hd.at rfl,by rw[e0,y];omega,?_⟩⟩;rintro _ rfl _ rfl _ rfl _ rfl _ rfl _ rfl;rw[e0,e1,y,if_neg (by omega),if_neg (by omega)];have H:dz i.drew (λk=>k=l) .u32 (some ((vA l).add (0*1))) (2 - 0) (2 - 0) [(Ent.mk c a d f g).w0,(Ent.mk c a d f g).w1]:=
  dz.blk (m:=0) (Z:=λk=>k=l) b1 rfl (Nat.le_refl _) rfl (λj x p=>by
   match j with
   |0=>simp at p;subst p;rfl
   |1=>simp at p;subst p;rfl
   |j+2=>simp at p)
 have I:(Option.map (λx:Addr=>x.add (2*aH.toNat *1)) (some (Addr.mk L.a 0 none)))=some (Addr.mk L.a (2*aH.toNat) none):=by simp[Addr.add];omega
 rw[I];obtain⟨x,r,J,z⟩:=nN (P:=prog) (dT:=22) (sT:=22) (ty:=3) (o:=2*aH.toNat) (dn:=2*D.S - 2*aH.toNat) (dc:=2*D.S - 2*aH.toNat) mw C H (by rw[G,y];omega) (K:=λr=>cp i.drew L.a (setAt cs (2*aH.toNat) [.int .u32 (Ent.mk c a d f g).w0,.int .u32 (Ent.mk c a d f g).w1]) T2 r)
  (λr hs=>by rw[show min (2 - 0) (2*D.S - 2*aH.toNat)=2 by omega]at hs;exact hs)
 refine⟨x,r,J,z.kept.mono (λk q=>by have q:k=L.g:=(by simpa[bY]using q);rw[q];exact λe=>h.dis.1 e.symm),λ_ k=>k=L.g,λ_ k q=>q,rfl,u.QM hp he E C z,?_⟩;exact(((B.mono (by simp):Ch L.X w i)).drew).stored z (.inl (.inr (.inl rfl)))
theorem OV {L:iI}{D:DB}{w:World}(h:DBP w L D)(aH:Int):
 Calls prog 14 #[(.pointer (some (Addr.mk L.g 0 none))),J aH] w λe p=>∃v,e=.returned v/\v=.tuple #[(.agg #[J (D.entry aH).typ,J (D.entry aH).owner,J (D.entry aH).refs,J (D.entry aH).state,vB ((D.entry aH).bq)]),J (D.bo aH)]/\Pu w p:=by
 refine zW (some (Addr.mk L.g 0 none)) _ ?_;have hp:=Ch.refl (λ_=>False) w;have r:=h.lt;refine mkd λf s b=>?_;have g:=b.lo hp;have a:=b.blk;have h:=h.pu b.pu;refine Calls.mono (Bj h _) ?_;rintro e t ⟨_,rfl,rfl,c⟩;refine⟨_,rfl,?_⟩;refine dj (λd=>?_) (λd=>?_)
 ·have a:=Pu.blk c a;refine bz a (by simp) λi j=>?_;have a:Blk i f #[J 0,J 0,J 0,J 0,vB false] _:=j.blk;refine⟨_,_,_,_,_,⟨a.at rfl,a.at rfl,a.at rfl,a.at rfl,a.at rfl⟩,?_⟩;have hp:=Ch.call (Ch.pu (Ch.made hp b) c) j.ch (by exact λk e=>.inr (e▸g));exact⟨by(simp[DB.entry,DB.bo,d];done),hp⟩
 ·have h:=h.pu c;refine Calls.mono (dAt h _ ‹_›) ?_;rintro e i ⟨_,rfl,rfl,l⟩;have a:=Pu.blk l (Pu.blk c a);refine⟨_,_,_,_,_,rfl,bz a (by simp) λq o=>?_⟩;have a:Blk q f #[J (D.at_ aH).typ,J (D.at_ aH).owner,J (D.at_ aH).refs,J (D.at_ aH).state,vB ((D.at_ aH).bq)] _:=o.blk;refine⟨_,_,_,_,_,⟨a.at rfl,a.at rfl,a.at rfl,a.at rfl,a.at rfl⟩,?_⟩;have hp:=Ch.call (Ch.pu (Ch.pu (Ch.made hp b) c) l) o.ch (by exact λk e=>.inr (e▸g));exact⟨by(simp[DB.entry,DB.bo,d];done),hp⟩
theorem JM {L:iI}{D:DB}{w:World}(h:DBP w L D)(aH:Int):
 Calls prog 78 #[(.pointer (some (Addr.mk L.g 0 none))),J aH] w λe b=>∃v,e=.returned v/\v=.bool (D.ka aH)/\Pu w b:=by
 refine wj (some (Addr.mk L.g 0 none)) _ ?_;have hp:=Ch.refl (λ_=>False) w;have g:=h.lt;refine⟨λx b=>x=((D.has aH) && ((((D.at_ aH).typ):Int)==1))/\Pu w b,?_,?_⟩
 ·refine Calls.mono (Bj h _) ?_;rintro e d ⟨_,rfl,rfl,a⟩;refine⟨_,rfl,?_⟩;refine ao (λc=>?_) (λc=>?_)
  ·have h:=h.pu a;refine Calls.mono (dAt h _ ‹_›) ?_;rintro e i ⟨_,rfl,rfl,f⟩;refine⟨_,_,_,_,_,rfl,?_⟩;exact⟨by simp only[c,Bool.true_and,Bool.and_true,Bool.false_and,Bool.and_false,Bool.true_or,Bool.or_true,Bool.false_or,Bool.or_false,Bool.not_true,Bool.not_false,if_true,if_false,Bool.false_eq_true],(Ch.pu a f)⟩
  ·exact⟨by simp only[c,Bool.true_and,Bool.and_true,Bool.false_and,Bool.and_false,Bool.true_or,Bool.or_true,Bool.false_or,Bool.or_false,Bool.not_true,Bool.not_false,if_true,if_false,Bool.false_eq_true],a⟩
 rintro _ _ d ⟨rfl,a⟩;have hp:=Ch.pu hp a;exact⟨congrArg Value.bool (by(simp[DB.ka];done)),hp⟩
theorem Qn {L:iI}{D:DB}{w:World}(h:DBP w L D)(space more:Int)(hp:D.has space=true)(he:({D.at_ space with refs:=(D.at_ space).refs+more}:Ent).ok=true):
 Calls prog 79 #[(.pointer (some (Addr.mk L.g 0 none))),J space,J more] w λe i=>∃v,e=.returned v/\v=.tuple #[]/\DBP i L (D.more space more)/\Ch L.X w i:=by
 refine Co (some (Addr.mk L.g 0 none)) _ _ ?_;have hi:i64.wrap ((D.at_ space).refs+more)=(D.at_ space).refs+more:=ay (by have:=Ent.hY he;simp only at this;omega);have p:=(h.ok.ent _ (DB.fy hp)).2;have hp:=Ch.refl L.X w;have j:=h.lt;refine Calls.mono (dAt h _ ‹_›) ?_;rintro e u ⟨_,rfl,rfl,l⟩;refine⟨_,_,_,_,_,rfl,?_⟩;have hp:=Ch.pu hp l;refine mkd λo x c=>?_;have d:=c.lo hp;have a:=c.blk;refine bz a (by simp) λq f=>?_;have a:Blk q o #[J (D.at_ space).typ,J (D.at_ space).owner,J (D.at_ space).refs,J (D.at_ space).state,vB ((D.at_ space).bq)] _:=f.blk;refine⟨_,a.at rfl,bB a (by simp) λr g=>?_⟩;have a:Blk r o #[J (D.at_ space).typ,J (D.at_ space).owner,_,J (D.at_ space).state,vB ((D.at_ space).bq)] _:=g.blk;refine⟨_,_,_,_,_,⟨a.at rfl,a.at rfl,a.at rfl,a.at rfl,a.at rfl⟩,?_⟩;have h:=(((h.pu l).pu c.pu).ch f.ch (λk b e=>(λb=>absurd (j _ b) (Nat.not_lt.2 d)) (e▸b))).ch g.ch (λk b e=>(λb=>absurd (j _ b) (Nat.not_lt.2 d)) (e▸b));refine Calls.mono (Dq h _ _ _ _ _ _ ‹_› (by rw[hi];exact he) (by exact p)) ?_;rintro e y ⟨_,rfl,rfl,h,s⟩;refine⟨rfl,?_⟩;have hp:=Ch.call (Ch.call (Ch.call (Ch.made hp c) f.ch (by exact λk e=>.inr (e▸d))) g.ch (by exact λk e=>.inr (e▸d))) s (by exact λk t=>.inl t);exact⟨rfl,by rw[show D.more space more=D.set space ⟨((D.at_ space).typ),((D.at_ space).owner),(i64.wrap (((D.at_ space).refs)+more)),((D.at_ space).state),((D.at_ space).bq)⟩from by rw[hi];rfl];exact h,hp⟩
theorem Qm {L:iI}{D:DB}{w:World}(h:DBP w L D)(aH t space:Int):
 Calls prog 37 #[(.pointer (some (Addr.mk L.g 0 none))),J aH,J t,J space] w λe g=>∃v,e=.returned v/\v=.int .i64 (D.cX aH t space)/\DBP g L (D.take aH t space)/\Ch L.X w g:=by
 refine Cn (some (Addr.mk L.g 0 none)) _ _ _ ?_;have z:=h;have hp:=Ch.refl L.X w;have I:=h.lt;refine Calls.mono (Bj h _) ?_;rintro e A ⟨_,rfl,rfl,a⟩;refine⟨_,rfl,?_⟩;rintro _ rfl;refine dj (λi=>?_) (λi=>?_)
 ·have h:=h.pu a;have hp:=Ch.pu hp a;exact⟨congrArg (Value.int .i64) (by(simp[DB.take,DB.iA,DB.cX,i];done)),by rw[show D.take aH t space=D from by(simp[DB.take,DB.iA,DB.cX,i];done)];exact h,hp⟩
 ·refine⟨λx g=>x=(((t:Int) !=2) && (!(DB.turns t)))/\Pu A g,?_,?_⟩
  ·refine ao (λo=>?_) (λo=>?_)
   ·refine Calls.mono (Dn _) ?_;rintro e u ⟨_,rfl,rfl,b⟩;refine⟨_,rfl,?_⟩;rintro _ rfl;exact⟨by simp only[o,Bool.true_and,Bool.and_true,Bool.false_and,Bool.and_false,Bool.true_or,Bool.or_true,Bool.false_or,Bool.or_false,Bool.not_true,Bool.not_false,if_true,if_false,Bool.false_eq_true],b⟩
   ·rintro _ rfl;exact⟨by simp only[o,Bool.true_and,Bool.and_true,Bool.false_and,Bool.and_false,Bool.true_or,Bool.or_true,Bool.false_or,Bool.or_false,Bool.not_true,Bool.not_false,if_true,if_false,Bool.false_eq_true],Ch.refl _ _⟩
  rintro _ _ u ⟨rfl,b⟩;refine cT (λq=>?_) (λq=>?_)
  ·have h:=(h.pu a).pu b;have hp:=Ch.pu (Ch.pu hp a) b;exact⟨congrArg (Value.int .i64) (by(simp[DB.take,DB.iA,DB.cX,i,q];done)),by rw[show D.take aH t space=D from by(simp[DB.take,DB.iA,DB.cX,i,q];done)];exact h,hp⟩
  ·refine⟨λx g=>x=((!(D.ka space)) || (decide ((((D.at_ space).refs):Int)>=63)))/\Pu u g,?_,?_⟩
   ·have h:=(h.pu a).pu b;refine Calls.mono (JM h _) ?_;rintro e B ⟨_,rfl,rfl,c⟩;refine⟨_,rfl,?_⟩;refine ao (λr=>?_) (λr=>?_)
    ·rintro _ rfl;exact⟨by simp only[r,Bool.true_and,Bool.and_true,Bool.false_and,Bool.and_false,Bool.true_or,Bool.or_true,Bool.false_or,Bool.or_false,Bool.not_true,Bool.not_false,if_true,if_false,Bool.false_eq_true],c⟩
    ·have h:=h.pu c;refine Calls.mono (dAt h _ (by grind[DB.take,DB.iA,DB.cX,DB.ka])) ?_;rintro e C ⟨_,rfl,rfl,j⟩;refine⟨_,_,_,_,_,rfl,?_⟩;rintro _ rfl;exact⟨by simp only[r,Bool.true_and,Bool.and_true,Bool.false_and,Bool.and_false,Bool.true_or,Bool.or_true,Bool.false_or,Bool.or_false,Bool.not_true,Bool.not_false,if_true,if_false,Bool.false_eq_true],(Ch.pu c j)⟩
   rintro _ _ B ⟨rfl,c⟩;refine bZ (λE=>?_) (λE=>?_)
   ·have h:=((h.pu a).pu b).pu c;have hp:=Ch.pu (Ch.pu (Ch.pu hp a) b) c;exact⟨congrArg (Value.int .i64) (by grind[DB.take,DB.iA,DB.cX]),by rw[show D.take aH t space=D from by grind[DB.take,DB.iA,DB.cX]];exact h,hp⟩
   ·have h:=((h.pu a).pu b).pu c;refine Calls.mono (dAt h _ ‹_›) ?_;rintro e C ⟨_,rfl,rfl,j⟩;refine⟨_,_,_,_,_,rfl,?_⟩;rintro _ rfl;refine ax (λF=>?_) (λF=>?_)
    ·have h:=h.pu j;have hp:=Ch.pu (Ch.pu (Ch.pu (Ch.pu hp a) b) c) j;exact⟨congrArg (Value.int .i64) (by grind[DB.take,DB.iA,DB.cX]),by rw[show D.take aH t space=D from by grind[DB.take,DB.iA,DB.cX]];exact h,hp⟩
    ·have h:=h.pu j;refine Calls.mono (Dq h _ _ _ _ _ _ ‹_› (by obtain⟨f,l⟩:=DB.j9 (d:=D) (p:=space) (by grind);have:=DB.dC f;have:=h.S64;exact DB.Ob (by grind) (by omega)) (by obtain⟨f,l⟩:=DB.j9 (d:=D) (p:=space) (by grind);exact(DB.dC f).2)) ?_;rintro e K ⟨_,rfl,rfl,h,G⟩;refine⟨rfl,?_⟩;refine Calls.mono (Qn h _ _ (by obtain⟨f,l⟩:=DB.j9 (d:=D) (p:=space) (by grind);exact f) (by obtain⟨f,l⟩:=DB.j9 (d:=D) (p:=space) (by grind);rw[DB.Qw (d:=D) i f (by omega)];have y:=(z.ok.at_ f).1;have M:=Ent.hY y;exact DB.Lv y l (by grind))) ?_;rintro e O ⟨_,rfl,rfl,h,H⟩;refine⟨rfl,?_⟩;have hp:=Ch.call (Ch.call (Ch.pu (Ch.pu (Ch.pu (Ch.pu hp a) b) c) j) G (by exact λk s=>.inl s)) H (by exact λk s=>.inl s);exact⟨congrArg (Value.int .i64) (by grind[DB.take,DB.iA,DB.cX]),by rw[show D.take aH t space=(D.set aH ⟨t,space,0,0,false⟩).more space 1 from by grind[DB.take,DB.iA,DB.cX]];exact h,hp⟩
theorem Ql {L:iI}{D:DB}{w:World}(h:DBP w L D)(aH t:Int):
 Calls prog 161 #[(.pointer (some (Addr.mk L.g 0 none))),J aH,J t] w λe l=>∃v,e=.returned v/\v=.int .i64 (D.iL aH t)/\DBP l L (D.iz aH t)/\Ch L.X w l:=by
 refine Cm (some (Addr.mk L.g 0 none)) _ _ ?_;have hp:=Ch.refl L.X w;have p:=h.lt;refine Calls.mono (Bj h _) ?_;rintro e K ⟨_,rfl,rfl,o⟩;refine⟨_,rfl,?_⟩;refine dj (λd=>?_) (λd=>?_)
 ·have h:=h.pu o;have hp:=Ch.pu hp o;exact⟨congrArg (Value.int .i64) (by(simp[DB.iz,DB.oE,DB.iL,DB.bH,DB.gP,Mem.gu,DB.nJ,DB.nL,DB.mem_set,d];done)),by rw[show D.iz aH t=D from by(simp[DB.iz,DB.oE,DB.iL,DB.bH,DB.gP,Mem.gu,DB.nJ,DB.nL,DB.mem_set,d];done)];exact h,hp⟩
 ·have h:=h.pu o;refine Calls.mono (dAt h _ ‹_›) ?_;rintro e M ⟨_,rfl,rfl,q⟩;refine⟨_,_,_,_,_,rfl,?_⟩;have hp:=Ch.pu (Ch.pu hp o) q;refine mkd λz O f=>?_;have g:=f.lo hp;have a:=f.blk;refine bz a (by simp) λA i=>?_;have a:Blk A z #[J (D.at_ aH).typ,J (D.at_ aH).owner,J (D.at_ aH).refs,J (D.at_ aH).state,vB ((D.at_ aH).bq)] _:=i.blk;refine⟨λx l=>x=((!(DB.turns ((D.at_ aH).typ))) || (!(DB.turns t)))/\Pu A l,?_,?_⟩
  ·refine⟨_,a.at rfl,?_⟩;refine Calls.mono (Dn _) ?_;rintro e F ⟨_,rfl,rfl,c⟩;refine⟨_,rfl,?_⟩;refine ao (λr=>?_) (λr=>?_)
   ·exact⟨by simp only[r,Bool.true_and,Bool.and_true,Bool.false_and,Bool.and_false,Bool.true_or,Bool.or_true,Bool.false_or,Bool.or_false,Bool.not_true,Bool.not_false,if_true,if_false,Bool.false_eq_true],c⟩
   ·refine Calls.mono (Dn _) ?_;rintro e B ⟨_,rfl,rfl,G⟩;refine⟨_,rfl,?_⟩;exact⟨by simp only[r,Bool.true_and,Bool.and_true,Bool.false_and,Bool.and_false,Bool.true_or,Bool.or_true,Bool.false_or,Bool.or_false,Bool.not_true,Bool.not_false,if_true,if_false,Bool.false_eq_true],(Ch.pu c G)⟩
  rintro _ _ F ⟨rfl,c⟩;refine bZ (λs=>?_) (λs=>?_)
  ·have h:=(((h.pu q).pu f.pu).ch i.ch (λk b e=>(λb=>absurd (p _ b) (Nat.not_lt.2 g)) (e▸b))).pu c;have hp:=Ch.pu (Ch.call (Ch.made hp f) i.ch (by exact λk e=>.inr (e▸g))) c;exact⟨congrArg (Value.int .i64) (by grind[DB.iz,DB.oE,DB.iL,DB.bH,DB.gP,Mem.gu,DB.nJ,DB.nL,DB.mem_set]),by rw[show D.iz aH t=D from by grind[DB.iz,DB.oE,DB.iL,DB.bH,DB.gP,Mem.gu,DB.nJ,DB.nL,DB.mem_set]];exact h,hp⟩
  ·have a:=Pu.blk c a;refine bB a (by simp) λB u=>?_;have a:Blk B z #[J t,J (D.at_ aH).owner,J (D.at_ aH).refs,J (D.at_ aH).state,vB ((D.at_ aH).bq)] _:=u.blk;refine⟨_,_,_,_,_,⟨a.at rfl,a.at rfl,a.at rfl,a.at rfl,a.at rfl⟩,?_⟩;have h:=((((h.pu q).pu f.pu).ch i.ch (λk b e=>(λb=>absurd (p _ b) (Nat.not_lt.2 g)) (e▸b))).pu c).ch u.ch (λk b e=>(λb=>absurd (p _ b) (Nat.not_lt.2 g)) (e▸b));refine Calls.mono (Dq h _ _ _ _ _ _ ‹_› (by exact DB.Oa (h.ok.at_ d).1 (by grind) (by grind)) (by exact(h.ok.at_ d).2.1)) ?_;rintro e H ⟨_,rfl,rfl,h,I⟩;refine⟨rfl,?_⟩;refine⟨bXU [3] [] H.drew L.M.X,?_⟩;have h:=h.pu (Pu.aU _);obtain⟨_,C⟩:=h.hd;refine au _ rfl ⟨.inr ⟨by decide,bX.ld C (h.dis.2.1) _⟩,_,C.at rfl,?_⟩;refine Calls.mono (qo _) ?_;rintro e Q ⟨_,rfl,rfl,y⟩;refine⟨_,_,rfl,?_⟩;refine bXU.iX y (by decide) ?_;have h:=h.pu y;refine Calls.mono (OO h _ _) ?_;rintro e R ⟨_,rfl,rfl,h,E⟩;refine⟨_,rfl,?_⟩;refine bXU.more E (by intro k j;exact .inl j) (by decide) ?_;have hp:=Ch.call (Ch.pu (Ch.drew (Ch.call (Ch.call (Ch.pu (Ch.call (Ch.made hp f) i.ch (by exact λk e=>.inr (e▸g))) c) u.ch (by exact λk e=>.inr (e▸g))) I (by exact λk j=>.inl j))) y) (E.mono L.inM) (by exact λk j=>.inl j);exact⟨congrArg (Value.int .i64) (by(simp[DB.iz,DB.oE,DB.iL,DB.bH,DB.gP,Mem.gu,DB.nJ,DB.nL,DB.mem_set,d,s];done)),by rw[show D.iz aH t=((D.set aH ⟨t,((D.at_ aH).owner),((D.at_ aH).refs),((D.at_ aH).state),((D.at_ aH).bq)⟩).aT ((D.set aH ⟨t,((D.at_ aH).owner),((D.at_ aH).refs),((D.at_ aH).state),((D.at_ aH).bq)⟩).mem.zero true aH))from by(simp[DB.iz,DB.oE,DB.iL,DB.bH,DB.gP,Mem.gu,DB.nJ,DB.nL,DB.mem_set,d,s];done)];exact h,hp⟩
theorem GO {L:iI}{D:DB}{w:World}(h:DBP w L D)(space s:Int):
 Calls prog 18 #[(.pointer (some (Addr.mk L.g 0 none))),J space,J s] w λe l=>∃v,e=.returned v/\v=.int .i64 (D.cz space s)/\DBP l L (D.setState space s)/\Ch L.X w l:=by
 refine tq (some (Addr.mk L.g 0 none)) _ _ ?_;have hp:=Ch.refl L.X w;have o:=h.lt;refine Calls.mono (Bj h _) ?_;rintro e F ⟨_,rfl,rfl,p⟩;refine⟨_,rfl,?_⟩;refine dj (λc=>?_) (λc=>?_)
 ·have h:=h.pu p;have hp:=Ch.pu hp p;exact⟨congrArg (Value.int .i64) (by(simp[DB.setState,DB.cz,c];done)),by rw[show D.setState space s=D from by(simp[DB.setState,DB.cz,c];done)];exact h,hp⟩
 ·have h:=h.pu p;refine Calls.mono (dAt h _ ‹_›) ?_;rintro e G ⟨_,rfl,rfl,q⟩;refine⟨_,_,_,_,_,rfl,?_⟩;have hp:=Ch.pu (Ch.pu hp p) q;refine mkd λz H d=>?_;have f:=d.lo hp;have b:=d.blk;refine bz b (by simp) λA g=>?_;have b:Blk A z #[J (D.at_ space).typ,J (D.at_ space).owner,J (D.at_ space).refs,J (D.at_ space).state,vB ((D.at_ space).bq)] _:=g.blk;refine⟨_,b.at rfl,?_⟩;rintro _ rfl;refine ax (λi=>?_) (λi=>?_)
  ·have h:=((h.pu q).pu d.pu).ch g.ch (λk a e=>(λa=>absurd (o _ a) (Nat.not_lt.2 f)) (e▸a));have hp:=Ch.call (Ch.made hp d) g.ch (by exact λk e=>.inr (e▸f));exact⟨congrArg (Value.int .i64) (by(simp[DB.setState,DB.cz,c,i];done)),by rw[show D.setState space s=D from by(simp[DB.setState,DB.cz,c,i];done)];exact h,hp⟩
  ·refine⟨λx l=>x=(((s:Int) !=3) && (((((D.at_ space).state):Int) !=1) || ((s:Int) !=2)))/\Pu A l,?_,?_⟩
   ·refine ao (λr=>?_) (λr=>?_)
    ·refine⟨_,b.at rfl,?_⟩;refine ao (λt=>?_) (λt=>?_)
     ·rintro _ rfl;exact⟨by simp only[r,t,Bool.true_and,Bool.and_true,Bool.false_and,Bool.and_false,Bool.true_or,Bool.or_true,Bool.false_or,Bool.or_false,Bool.not_true,Bool.not_false,if_true,if_false,Bool.false_eq_true],Ch.refl _ _⟩
     ·rintro _ rfl;exact⟨by simp only[r,t,Bool.true_and,Bool.and_true,Bool.false_and,Bool.and_false,Bool.true_or,Bool.or_true,Bool.false_or,Bool.or_false,Bool.not_true,Bool.not_false,if_true,if_false,Bool.false_eq_true],Ch.refl _ _⟩
    ·rintro _ rfl;exact⟨by simp only[r,Bool.true_and,Bool.and_true,Bool.false_and,Bool.and_false,Bool.true_or,Bool.or_true,Bool.false_or,Bool.or_false,Bool.not_true,Bool.not_false,if_true,if_false,Bool.false_eq_true],Ch.refl _ _⟩
   rintro _ _ I ⟨rfl,j⟩;refine cT (λu=>?_) (λu=>?_)
   ·have h:=(((h.pu q).pu d.pu).ch g.ch (λk a e=>(λa=>absurd (o _ a) (Nat.not_lt.2 f)) (e▸a))).pu j;have hp:=Ch.pu (Ch.call (Ch.made hp d) g.ch (by exact λk e=>.inr (e▸f))) j;exact⟨congrArg (Value.int .i64) (by(simp[DB.setState,DB.cz,c,i,u];done)),by rw[show D.setState space s=D from by(simp[DB.setState,DB.cz,c,i,u];done)];exact h,hp⟩
   ·have b:=Pu.blk j b;refine bB b (by simp) λB y=>?_;have b:Blk B z #[J (D.at_ space).typ,J (D.at_ space).owner,J (D.at_ space).refs,J s,vB ((D.at_ space).bq)] _:=y.blk;refine⟨_,_,_,_,_,⟨b.at rfl,b.at rfl,b.at rfl,b.at rfl,b.at rfl⟩,?_⟩;have h:=((((h.pu q).pu d.pu).ch g.ch (λk a e=>(λa=>absurd (o _ a) (Nat.not_lt.2 f)) (e▸a))).pu j).ch y.ch (λk a e=>(λa=>absurd (o _ a) (Nat.not_lt.2 f)) (e▸a));refine Calls.mono (Dq h _ _ _ _ _ _ ‹_› (by exact DB.PV (h.ok.at_ c).1 (by grind) (by grind)) (by exact(h.ok.at_ c).2.1)) ?_;rintro e K ⟨_,rfl,rfl,h,C⟩;refine⟨rfl,?_⟩;have hp:=Ch.call (Ch.call (Ch.pu (Ch.call (Ch.made hp d) g.ch (by exact λk e=>.inr (e▸f))) j) y.ch (by exact λk e=>.inr (e▸f))) C (by exact λk E=>.inl E);exact⟨congrArg (Value.int .i64) (by grind[DB.setState,DB.cz]),by rw[show D.setState space s=D.set space ⟨((D.at_ space).typ),((D.at_ space).owner),((D.at_ space).refs),s,((D.at_ space).bq)⟩from by grind[DB.setState,DB.cz]];exact h,hp⟩
theorem Bi {L:iI}{D:DB}{w:World}(h:DBP w L D)(thread:Int)(on:Bool):
 Calls prog 83 #[(.pointer (some (Addr.mk L.g 0 none))),J thread,vB on] w λe q=>∃v,e=.returned v/\v=.int .i64 (D.bS thread)/\DBP q L (D.aQ thread on)/\Ch L.X w q:=by
 refine qN (some (Addr.mk L.g 0 none)) _ _ ?_;have hp:=Ch.refl L.X w;have l:=h.lt;refine Calls.mono (Bj h _) ?_;rintro e y ⟨_,rfl,rfl,j⟩;refine⟨_,rfl,?_⟩;refine dj (λc=>?_) (λc=>?_)
 ·have h:=h.pu j;have hp:=Ch.pu hp j;exact⟨congrArg (Value.int .i64) (by(simp[DB.aQ,DB.bS,c];done)),by rw[show D.aQ thread on=D from by(simp[DB.aQ,DB.bS,c];done)];exact h,hp⟩
 ·have h:=h.pu j;refine Calls.mono (dAt h _ ‹_›) ?_;rintro e z ⟨_,rfl,rfl,o⟩;refine⟨_,_,_,_,_,rfl,?_⟩;have hp:=Ch.pu (Ch.pu hp j) o;refine mkd λr A d=>?_;have f:=d.lo hp;have b:=d.blk;refine bz b (by simp) λs g=>?_;have b:Blk s r #[J (D.at_ thread).typ,J (D.at_ thread).owner,J (D.at_ thread).refs,J (D.at_ thread).state,vB ((D.at_ thread).bq)] _:=g.blk;refine⟨_,b.at rfl,?_⟩;refine ax (λi=>?_) (λi=>?_)
  ·have h:=((h.pu o).pu d.pu).ch g.ch (λk a e=>(λa=>absurd (l _ a) (Nat.not_lt.2 f)) (e▸a));have hp:=Ch.call (Ch.made hp d) g.ch (by exact λk e=>.inr (e▸f));exact⟨congrArg (Value.int .i64) (by(simp[DB.aQ,DB.bS,c,i];done)),by rw[show D.aQ thread on=D from by(simp[DB.aQ,DB.bS,c,i];done)];exact h,hp⟩
  ·refine bB b (by simp) λt p=>?_;have b:Blk t r #[J (D.at_ thread).typ,J (D.at_ thread).owner,J (D.at_ thread).refs,J (D.at_ thread).state,vB on] _:=p.blk;refine⟨_,_,_,_,_,⟨b.at rfl,b.at rfl,b.at rfl,b.at rfl,b.at rfl⟩,?_⟩;have h:=(((h.pu o).pu d.pu).ch g.ch (λk a e=>(λa=>absurd (l _ a) (Nat.not_lt.2 f)) (e▸a))).ch p.ch (λk a e=>(λa=>absurd (l _ a) (Nat.not_lt.2 f)) (e▸a));refine Calls.mono (Dq h _ _ _ _ _ _ ‹_› (by exact DB.CZ (h.ok.at_ c).1 (by grind)) (by exact(h.ok.at_ c).2.1)) ?_;rintro e B ⟨_,rfl,rfl,h,u⟩;refine⟨rfl,?_⟩;have hp:=Ch.call (Ch.call (Ch.call (Ch.made hp d) g.ch (by exact λk e=>.inr (e▸f))) p.ch (by exact λk e=>.inr (e▸f))) u (by exact λk x=>.inl x);exact⟨congrArg (Value.int .i64) (by(simp[DB.aQ,DB.bS,c,i];done)),by rw[show D.aQ thread on=D.set thread ⟨((D.at_ thread).typ),((D.at_ thread).owner),((D.at_ thread).refs),((D.at_ thread).state),on⟩from by(simp[DB.aQ,DB.bS,c,i];done)];exact h,hp⟩
theorem Dp {L:iI}{D:DB}{w:World}(h:DBP w L D)(space first:Int):
 Calls prog 58 #[(.pointer (some (Addr.mk L.g 0 none))),J space,J first] w λe g=>∃v,e=.returned v/\v=.int .i64 (D.bp space first)/\DBP g L (D.bw space first)/\Ch L.X w g:=by
 refine rX (some (Addr.mk L.g 0 none)) _ _ ?_;have T:=h.S64;have V:=h.ok.bn;have hp:=Ch.refl L.X w;have W:=h.lt;refine⟨λx g=>x=((!(D.has space)) || (!(D.has first)))/\Pu w g,?_,?_⟩
 ·refine Calls.mono (Bj h _) ?_;rintro e A ⟨_,rfl,rfl,c⟩;refine⟨_,rfl,?_⟩;refine ao (λq=>?_) (λq=>?_)
  ·rintro _ rfl;exact⟨by simp only[q,Bool.true_and,Bool.and_true,Bool.false_and,Bool.and_false,Bool.true_or,Bool.or_true,Bool.false_or,Bool.or_false,Bool.not_true,Bool.not_false,if_true,if_false,Bool.false_eq_true],c⟩
  ·have h:=h.pu c;refine Calls.mono (Bj h _) ?_;rintro e B ⟨_,rfl,rfl,f⟩;refine⟨_,rfl,?_⟩;rintro _ rfl;exact⟨by simp only[q,Bool.true_and,Bool.and_true,Bool.false_and,Bool.and_false,Bool.true_or,Bool.or_true,Bool.false_or,Bool.or_false,Bool.not_true,Bool.not_false,if_true,if_false,Bool.false_eq_true],(Ch.pu c f)⟩
 rintro _ _ A ⟨rfl,c⟩;refine bZ (λi=>?_) (λi=>?_)
 ·have h:=h.pu c;have hp:=Ch.pu hp c;exact⟨congrArg (Value.int .i64) (by grind[DB.bw,DB.bu,DB.bp]),by rw[show D.bw space first=D from by grind[DB.bw,DB.bu,DB.bp]];exact h,hp⟩
 ·rintro _ rfl;refine ar (λj=>?_) (λj=>?_)
  ·have h:=h.pu c;have hp:=Ch.pu hp c;exact⟨congrArg (Value.int .i64) (by(simp[DB.bw,DB.bu,DB.bp,i,j];done)),by rw[show D.bw space first=D from by(simp[DB.bw,DB.bu,DB.bp,i,j];done)];exact h,hp⟩
  ·refine⟨λx g=>x=(((((D.at_ space).typ):Int) !=0) || ((((D.at_ first).typ):Int) !=0))/\Pu A g,?_,?_⟩
   ·have h:=h.pu c;refine Calls.mono (dAt h _ (by grind[DB.bw,DB.bu,DB.bp])) ?_;rintro e B ⟨_,rfl,rfl,f⟩;refine⟨_,_,_,_,_,rfl,?_⟩;refine ao (λr=>?_) (λr=>?_)
    ·rintro _ rfl;exact⟨by simp only[r,Bool.true_and,Bool.and_true,Bool.false_and,Bool.and_false,Bool.true_or,Bool.or_true,Bool.false_or,Bool.or_false,Bool.not_true,Bool.not_false,if_true,if_false,Bool.false_eq_true],f⟩
    ·have h:=h.pu f;refine Calls.mono (dAt h _ (by grind[DB.bw,DB.bu,DB.bp])) ?_;rintro e H ⟨_,rfl,rfl,s⟩;refine⟨_,_,_,_,_,rfl,?_⟩;rintro _ rfl;exact⟨by simp only[r,Bool.true_and,Bool.and_true,Bool.false_and,Bool.and_false,Bool.true_or,Bool.or_true,Bool.false_or,Bool.or_false,Bool.not_true,Bool.not_false,if_true,if_false,Bool.false_eq_true],(Ch.pu f s)⟩
   rintro _ _ B ⟨rfl,f⟩;refine bZ (λl=>?_) (λl=>?_)
   ·have h:=(h.pu c).pu f;have hp:=Ch.pu (Ch.pu hp c) f;exact⟨congrArg (Value.int .i64) (by grind[DB.bw,DB.bu,DB.bp]),by rw[show D.bw space first=D from by grind[DB.bw,DB.bu,DB.bp]];exact h,hp⟩
   ·have h:=(h.pu c).pu f;obtain⟨_,a⟩:=h.hd;refine au _ rfl ⟨_,a.at rfl,?_⟩;rintro _ rfl;refine av (λo=>?_) (λo=>?_)
    ·have hp:=Ch.pu (Ch.pu hp c) f;exact⟨congrArg (Value.int .i64) (by(simp[DB.bw,DB.bu,DB.bp,i,j,l,o];done)),by rw[show D.bw space first=D from by(simp[DB.bw,DB.bu,DB.bp,i,j,l,o];done)];exact h,hp⟩
    ·refine Calls.mono (Dq h _ _ _ _ _ _ (by(show D.has space=true;grind)) (by have t:D.has space=true:=(by grind);have:=DB.dC t;simp only[Ent.ok,decide_eq_true_eq];simp;omega) (by exact(DB.dC (d:=D) (p:=space) (by grind)).2)) ?_;rintro e H ⟨_,rfl,rfl,h,s⟩;refine⟨rfl,?_⟩;refine Calls.mono (Dq h _ _ _ _ _ _ (by(show D.has first=true;grind)) (by have t:D.has space=true:=(by grind);have:=DB.dC t;simp only[Ent.ok,decide_eq_true_eq];simp;omega) (by exact(DB.dC (d:=D) (p:=space) (by grind)).2)) ?_;rintro e I ⟨_,rfl,rfl,h,K⟩;refine⟨rfl,?_⟩;refine⟨bXU [3] [] I.drew L.M.X,?_⟩;have h:=h.pu (Pu.aU _);obtain⟨_,a⟩:=h.hd;refine au _ rfl ⟨.inr ⟨by decide,bX.ld a (h.dis.2.1) _⟩,_,a.at rfl,?_⟩;refine Calls.mono (qo _) ?_;rintro e Y ⟨_,rfl,rfl,u⟩;refine⟨_,_,rfl,?_⟩;refine bXU.iX u (by decide) ?_;have h:=h.pu u;refine Calls.mono (za h _ _ _ _ (by exact gH _)) ?_;rintro e M ⟨_,rfl,rfl,h,C⟩;refine⟨_,rfl,?_⟩;refine bXU.more C (by intro k b;exact .inl b) (by decide) ?_;refine⟨bXU [3,9] [] M.drew L.M.X,?_⟩;have h:=h.pu (Pu.aU _);obtain⟨_,a⟩:=h.hd;refine au _ rfl ⟨.inr ⟨by decide,bX.ld a (h.dis.2.1) _⟩,_,a.at rfl,au _ rfl ⟨.inr ⟨by decide,bX.ld a (h.dis.2.1) _⟩,_,a.at rfl,?_⟩⟩;refine Calls.mono (qo _) ?_;rintro e Z ⟨_,rfl,rfl,y⟩;refine⟨_,_,rfl,?_⟩;refine bXU.iX y (by decide) ?_;have h:=h.pu y;refine Calls.mono (za h _ _ _ _ (by exact gH _)) ?_;rintro e O ⟨_,rfl,rfl,h,E⟩;refine⟨_,rfl,?_⟩;refine bXU.more E (by intro k b;exact .inl b) (by decide) ?_;refine⟨bXU [3] [] O.drew L.M.X,?_⟩;have h:=h.pu (Pu.aU _);obtain⟨_,a⟩:=h.hd;refine au _ rfl ⟨.inr ⟨by decide,bX.ld a (h.dis.2.1) _⟩,_,a.at rfl,?_⟩;refine Calls.mono (qo _) ?_;rintro e RZ ⟨_,rfl,rfl,z⟩;refine⟨_,_,rfl,?_⟩;refine bXU.iX z (by decide) ?_;have h:=h.pu z;refine Calls.mono (za h _ _ _ _ (by omega)) ?_;rintro e Sr ⟨_,rfl,rfl,h,F⟩;refine⟨_,rfl,?_⟩;refine bXU.more F (by intro k b;exact .inl b) (by decide) ?_;obtain⟨_,a⟩:=h.hd;refine au _ rfl ⟨_,a.at rfl,au _ rfl (bB a (by simp) λR8 G=>?_)⟩;have h:=h.NL G (by show 0<=i64.wrap (D.bn+1)/\i64.wrap (D.bn+1)<=64;rw[ay (by omega)];omega);have hp:=Ch.call (Ch.call (Ch.pu (Ch.drew (Ch.call (Ch.pu (Ch.drew (Ch.call (Ch.pu (Ch.drew (Ch.call (Ch.call (Ch.pu (Ch.pu hp c) f) s (by exact λk b=>.inl b)) K (by exact λk b=>.inl b))) u) (C.mono L.inM) (by exact λk b=>.inl b))) y) (E.mono L.inM) (by exact λk b=>.inl b))) z) (F.mono L.inM) (by exact λk b=>.inl b)) G.ch (by exact λk e=>.inl (by subst e;exact .inl rfl));exact⟨congrArg (Value.int .i64) (by(simp[DB.bw,DB.bu,DB.bp,i,j,l,o];done)),by rw[show D.bw space first=(((((D.set space ⟨1,space,1,1,false⟩).set first ⟨3,space,0,0,false⟩).aT (((D.set space ⟨1,space,1,1,false⟩).set first ⟨3,space,0,0,false⟩).mem.write true space 0 (u32.wrap first))).aT ((((D.set space ⟨1,space,1,1,false⟩).set first ⟨3,space,0,0,false⟩).aT (((D.set space ⟨1,space,1,1,false⟩).set first ⟨3,space,0,0,false⟩).mem.write true space 0 (u32.wrap first))).mem.write true space 1 (u32.wrap ((((D.set space ⟨1,space,1,1,false⟩).set first ⟨3,space,0,0,false⟩).aT (((D.set space ⟨1,space,1,1,false⟩).set first ⟨3,space,0,0,false⟩).mem.write true space 0 (u32.wrap first))).bn)))).aT (((((D.set space ⟨1,space,1,1,false⟩).set first ⟨3,space,0,0,false⟩).aT (((D.set space ⟨1,space,1,1,false⟩).set first ⟨3,space,0,0,false⟩).mem.write true space 0 (u32.wrap first))).aT ((((D.set space ⟨1,space,1,1,false⟩).set first ⟨3,space,0,0,false⟩).aT (((D.set space ⟨1,space,1,1,false⟩).set first ⟨3,space,0,0,false⟩).mem.write true space 0 (u32.wrap first))).mem.write true space 1 (u32.wrap ((((D.set space ⟨1,space,1,1,false⟩).set first ⟨3,space,0,0,false⟩).aT (((D.set space ⟨1,space,1,1,false⟩).set first ⟨3,space,0,0,false⟩).mem.write true space 0 (u32.wrap first))).bn)))).mem.write true space 2 0)).ml (i64.wrap (((((((D.set space ⟨1,space,1,1,false⟩).set first ⟨3,space,0,0,false⟩).aT (((D.set space ⟨1,space,1,1,false⟩).set first ⟨3,space,0,0,false⟩).mem.write true space 0 (u32.wrap first))).aT ((((D.set space ⟨1,space,1,1,false⟩).set first ⟨3,space,0,0,false⟩).aT (((D.set space ⟨1,space,1,1,false⟩).set first ⟨3,space,0,0,false⟩).mem.write true space 0 (u32.wrap first))).mem.write true space 1 (u32.wrap ((((D.set space ⟨1,space,1,1,false⟩).set first ⟨3,space,0,0,false⟩).aT (((D.set space ⟨1,space,1,1,false⟩).set first ⟨3,space,0,0,false⟩).mem.write true space 0 (u32.wrap first))).bn)))).aT (((((D.set space ⟨1,space,1,1,false⟩).set first ⟨3,space,0,0,false⟩).aT (((D.set space ⟨1,space,1,1,false⟩).set first ⟨3,space,0,0,false⟩).mem.write true space 0 (u32.wrap first))).aT ((((D.set space ⟨1,space,1,1,false⟩).set first ⟨3,space,0,0,false⟩).aT (((D.set space ⟨1,space,1,1,false⟩).set first ⟨3,space,0,0,false⟩).mem.write true space 0 (u32.wrap first))).mem.write true space 1 (u32.wrap ((((D.set space ⟨1,space,1,1,false⟩).set first ⟨3,space,0,0,false⟩).aT (((D.set space ⟨1,space,1,1,false⟩).set first ⟨3,space,0,0,false⟩).mem.write true space 0 (u32.wrap first))).bn)))).mem.write true space 2 0)).bn)+1))from by have Q:D.has first=true:=(by grind);have h6:=DB.dC Q;have e1:u32.wrap first=first:=dV (by omega);have R:u32.wrap D.bn=D.bn:=dV (by omega);have S:i64.wrap (D.bn+1)=D.bn+1:=ay (by omega);show D.bw space first=(((((D.set space ⟨1,space,1,1,false⟩).set first ⟨3,space,0,0,false⟩)).aT (((D.mem.write true space 0 (u32.wrap first)).write true space 1 (u32.wrap D.bn)).write true space 2 0)).ml (i64.wrap (D.bn+1)));rw[e1,R,S];unfold DB.bw;rw[if_pos (by grind[DB.bp])];rfl];exact h,hp⟩
theorem Ra {L:fO}{m:Mem}{w:World}(h:cJ w L m)(hS:1<=m.S):
 Calls prog 26 #[(.pointer (some (Addr.mk L.g 0 none)))] w λe i=>∃v,e=.returned v/\∃g a:Nat,v=.pointer (pvA g)/\cJ i L (m.dQ m.S)/\DBP i ⟨g,a,L⟩ (DB.new m)/\(w.heap.size<=g/\w.heap.size<=a)/\Ch L.X w i:=by
 refine Eo (some (Addr.mk L.g 0 none)) ?_;have hm:=h.ir;have hp:=Ch.refl L.X w;have F:=h.lt;refine jw ?_;refine Calls.mono (Fb h) ?_;rintro e x ⟨_,rfl,rfl,j⟩;obtain rfl:=j.symm;refine⟨_,rfl,?_⟩;refine⟨λy b W=>y=(m.S - b).toNat/\(0<=b/\b<=m.S)/\Ch L.X w W/\cJ W L (m.dQ b.toNat),⟨_,rfl,(by omega),hp,by exact h⟩,?_⟩;rintro _ _ b o ⟨rfl,G,hp,h⟩;refine av (λz=>?_) (λz=>?_)
 ·refine Calls.mono (qo _) ?_;rintro e H ⟨_,rfl,rfl,q⟩;refine⟨_,_,rfl,?_⟩;have h:=h.pu q;refine Calls.mono (I0 h _ _) ?_;rintro e A ⟨_,rfl,rfl,h,B⟩;refine⟨_,rfl,?_⟩;have hp:=Ch.call (Ch.pu hp q) B (by exact λk C=>.inl C);exact⟨_,by rw[wrap_i64];omega,rfl,by rw[wrap_i64];omega,hp,by rw[Mem.Cr _ (by omega)];exact h⟩
 ·have r:=h.lt;have D:=hp;have s:b.toNat=m.S:=by omega
  have I:=h.ir.1;have f:Int.toNat (i64.wrap (2*(((m.dQ b.toNat).S:Nat):Int)))=2*m.S:=by rw[Mem.ny,ay (by omega)];omega
  refine Calls.mono (Fb h) ?_;rintro e x ⟨_,rfl,rfl,j⟩;obtain rfl:=j.symm;refine⟨_,rfl,?_⟩;refine AH uo ((⟨0⟩:U32)) (by rfl) (n:=(i64.wrap (2*((m.dQ b.toNat).S)))) (by rw[ay (by omega)];omega) (by rw[ay (by omega)];omega) (by rw[ay (by omega)];omega) λt A c J=>?_;have K:=c.lo hp;refine mkd λu M d=>?_;have E:=d.blk;have h:=(h.pu c.pu).pu d.pu;have hp:=Ch.made (Ch.made hp c) d;exact⟨u,t,rfl,by rw[show(m.dQ m.S)=(m.dQ b.toNat)from by rw[s]];exact h,⟨⟨_,Blk.cast E (by rw[f];show _=_;simp only[DB.n2,DB.new,Mem.ny])⟩,⟨_,_,Made.old d c.blk,by rw[Array.size_replicate,f];show _=2*(m.dQ m.S).S;rw[Mem.ny],λp hp=>by have O:p<m.S:=(by rwa[DB.M1]at hp);exact⟨ET (by rw[f];omega),ET (by rw[f];omega)⟩⟩,by show cJ _ _ (m.dQ m.S);rw[<-s];exact h,DB.lG m hS,by have:=d.num;have:=c.lt;simp only[];omega,λl=>absurd (show u<o.heap.size from r _ l) (by have:=d.num;have:=c.kept.size;omega),λl=>absurd (show t<o.heap.size from r _ l) (by have:=c.num;omega)⟩,by have Q:=d.num;have R:=c.num;have S:=c.kept.size;have T:=D.size;omega,hp⟩
theorem OU {L:iI}{D:DB}{w:World}(h:DBP w L D):
 Calls prog 45 #[(.pointer (some (Addr.mk L.g 0 none)))] w λe r=>∃v,e=.returned v/\∃g n:Nat,v=.slice (pvA g) n n/\Own r (λk=>k=g) 23 (pvA g) n n (D.words.map uM)/\w.heap.size<=g/\Pu w r:=by
 refine zR (some (Addr.mk L.g 0 none)) ?_;have z:=h.S64;have hb:=h.ok.bn;have j:Int.toNat (i64.wrap (1+((D.n2:Nat):Int)))=1+2*D.S:=by have:D.n2=2*D.S:=rfl;rw[ay (by omega)];omega
 have hp:=Ch.refl (λ_=>False) w;have s:=h.lt;obtain⟨_,a⟩:=h.hd;refine au _ rfl ⟨_,_,_,a.at rfl,?_⟩;refine j7 uo (n:=(i64.wrap (1+((D.n2:Nat):Int)))) (by have:D.n2=2*D.S:=rfl;rw[ay (by omega)];omega) (by have:D.n2=2*D.S:=rfl;rw[ay (by omega)];omega) (by have:D.n2=2*D.S:=rfl;rw[ay (by omega)];omega) λt u c=>?_;have d:=c.lo hp;have b:Blk u t (bW (List.replicate (Int.toNat (i64.wrap (1+((D.n2:Nat):Int)))) 0)) 23:=c.blk.cast (iT _ _);have a:=Made.old c a;refine au _ rfl ⟨_,a.at rfl,by omega,au _ rfl (oI (i:=0) b (by simp only[List.length_replicate,j];omega) λx f=>?_)⟩;have b:=f.blk;refine⟨bXU [] [5] x.drew (λ_=>False),?_⟩;refine⟨by omega,?_⟩;rintro _ rfl _ rfl _ rfl;have a:=Blk.drew (Ch.blk f.ch a (λe=>absurd (s _ (by exact .inl rfl)) (Nat.not_lt.2 (by rw[e];exact d))));refine au _ rfl ⟨.inl (by decide),_,_,_,a.at rfl,?_⟩;have b:=Blk.drew b;have h:=((h.pu c.pu).ch f.ch (λk l e=>(λl=>absurd (s _ l) (Nat.not_lt.2 d)) (e▸l))).pu (Pu.aU _);refine qp uo b (o:=1) JN (by(simp;omega)) (h).ints (by(have:D.n2=2*D.S:=rfl;simp only[List.length_set,List.length_replicate];omega)) λA p=>?_;have b:=p.blk;refine bXU.xy p.ch (by decide) ?_;have hp:=Ch.call (Ch.drew (Ch.call (Ch.made hp c) f.ch (by exact λk e=>.inr (e▸d)))) p.ch (by exact λk e=>.inr (e▸d));exact⟨t,_,by rfl,by have hw:=DB.lay (D:=D) j;have y:u32.wrap D.bn=D.bn:=dV (by omega);have q:=b;rw[y]at q;have e:(min D.n2 (Int.toNat (i64.wrap (1+((D.n2:Nat):Int))) - Int.toNat 1))=min (2*D.S) (Int.toNat (i64.wrap (1+((D.n2:Nat):Int))) - 1):=rfl;rw[e,hw]at q;exact Own.ofRow q (by rw[D.fR,j]) (by omega),d,hp⟩
theorem DB.Gy {m:Mem}{l:List U32}(h:l.length=1+2*m.S)(hb:¬DB.wd l 0>64):DB.aL m l=if(List.range m.S).all (DB.Jy m l)then 0 else 110:=by unfold DB.aL;rw[if_neg (by simpa using h),if_neg hb]
theorem DB.iZ {m:Mem}{l:List U32}(h:l.length=1+2*m.S)(hb:¬DB.wd l 0>64){p:Nat}(hp:p<m.S)(he:DB.Jy m l p=false):DB.aL m l=110:=by
 rw[Gy h hb,if_neg];intro a;have:=List.all_eq_true.1 a p (List.mem_range.2 hp);rw[he]at this;cases this
section
namespace V
section
variable {U:Uni}
theorem aR.IU {rs:List (Res U)}{X:Nat->Nat->Prop}{w b:World}{Q:Ou U->Prop}{v:Value}{k:Option Kn}{Z:Nat->Prop}{r:Res U}{kc:List (Key×Kn)}(hs:Sat rs X w)(q:Pu w b)(e:RS Z b r)(f:∀k,Z k->w.heap.size<=k)(g:Q ⟨v,k,[],[r],kc⟩)(d:KnO (rs++ [r]) v k)
 (h:∀key k,(key,k)∈kc->ei (rs++ [r]) fr0 key k):aR rs [] X w Q (.returned v) b:=by
 obtain⟨out,rs',i,j,rfl,c,a⟩:=aR.more (Q:=λo=>o=⟨v,k,[],[r],[]⟩) hs q e f rfl d;have c:rs=rs':=by simpa[br]using c
 subst c;exact⟨⟨v,k,[],[r],kc⟩,rs,i,fJ d,g,rfl,a.sat,a.ch,a.same,a.grow,a.new,a.kr,λkey k hm _=>h key k hm⟩
theorem aR.II {t:Nat}{b:Nat->Nat}{m c:U.ty t}{X:Nat->Nat->Prop}{w e:World}{Q:Ou U->Prop}{v:Value}{k:Option Kn}{Z0 Z1:Nat->Prop}{r:Res U}{kc:List (Key×Kn)}(q:Ch (X 0) w e)(hp:U.pred t b c Z0 e)(o:∀k,Z0 k->X 0 k\/w.heap.size<=k)(p:RS Z1 e r)(s:∀k,Z1 k->w.heap.size<=k)(hd:∀k,Z0 k->¬Z1 k)
 (u:Q ⟨v,k,[.ob t c],[r],kc⟩)(a:KnO [.ob t b c,r] v k)(x:∀key k,(key,k)∈kc->ei [.ob t b c,r] fr0 key k):aR [.ob t b m] [0] X w Q (.returned v) e:=by
 refine⟨_,[.ob t b c],λi=>if i=0 then Z0 else if i=1 then Z1 else X i,fJ a,u,by simp[br,cV,nth,cf],⟨λi r' d=>?_,λi j hi f y _ k g l=>?_⟩,q.mono λk a=>⟨0,by simp,a⟩,λi hi hm=>?_,λi hi k a=>?_,λi z A k a=>?_,.inr a,λkey k hm _=>x key k hm⟩
 ·match i with
  |0=>simp only[List.cons_append,List.nil_append,nth,Option.some.injEq]at d;subst d;exact hp
  |1=>simp only[List.cons_append,List.nil_append,nth,Option.some.injEq]at d;subst d;exact p
  |i+2=>simp[nth]at d
 ·simp at hi f
  match i,j,hi,f,y with
  |0,1,_,_,_=>exact hd k g l
  |1,0,_,_,_=>exact hd k l g
  |0,0,_,_,h=>exact h rfl
  |1,1,_,_,h=>exact h rfl
 ·simp at hi hm;omega
 ·simp at hi;subst hi;exact o k a
 ·simp at z A;obtain rfl:i=1:=by omega
  exact s k a
theorem sP {rs rs':List (Res U)}{M:List Nat}{us:List (Upd U)}(h:br rs M us=some rs'):rs'.length=rs.length:=(gU h).1
theorem sX.pack {rs rs':List (Res U)}{aW:List Nat}{X l:Nat->Nat->Prop}{w q:World}{v:Value}{k u:Option Kn}{us:List (Upd U)}{a b c:Res U}{kc x:List (Key×Kn)}(h:sX rs aW X w ⟨v,k,us,[a,b],kc⟩ q rs' l)(s:rs'.length=rs.length){Z:Nat->Prop}(B:RS Z q c)(t:∀k,Z k->l rs.length k\/l (rs.length+1) k)
 (f:KnO (rs'++ [c]) v u)(C:∀key k,(key,k)∈x->ei (rs'++ [c]) fr0 key k)(D:rw1 a=true:=by rfl)(E:rw1 b=true:=by rfl):sX rs aW X w ⟨v,u,us,[c],x⟩ q rs' (λi=>if i=rs.length then Z else l i):=by
 refine⟨⟨λi r o=>?_,λi j hi y F G k p g=>?_⟩,h.ch,λi hi hm=>?_,λi hi k f=>?_,λi e d k f=>?_,.inr f,λkey k hm _=>C key k hm⟩
 ·by_cases hi:i<rs'.length
  ·rw[aP,if_pos hi]at o;simp only[if_neg (show ¬i=rs.length by omega)];exact h.sat.res i r (by rw[aP,if_pos hi];exact o)
  ·have e:=aX o;simp at e;obtain rfl:i=rs'.length:=by omega
   rw[aP,if_neg (by omega),Nat.sub_self]at o;obtain rfl:c=r:=by simpa[nth]using o
   simpa[s]using B
 ·simp at hi y;have z:∀j,j<rs'.length->Z k->¬l j k:=λj y H A=>by
   rcases t k H with e|e
   ·exact h.sat.gX rs.length j (by simp;omega) (by simp;omega) (by omega) (by rw[show rwB (rs'++ [a,b]) rs.length=true by unfold rwB;rw[aP,if_neg (by omega),s,Nat.sub_self];exact D,Bool.true_or]) k e A
   ·exact h.sat.gX (rs.length+1) j (by simp;omega) (by simp;omega) (by omega) (by rw[show rwB (rs'++ [a,b]) (rs.length+1)=true by unfold rwB;rw[aP,if_neg (by omega),s,show rs.length+1 - rs.length=1 by omega];exact E,Bool.true_or]) k e A
  by_cases e:i=rs.length
  ·have d:¬j=rs.length:=by omega
   simp only[e,if_true,if_neg d]at p g;exact z j (by omega) p g
  ·simp only[if_neg e]at p;by_cases d:j=rs.length
   ·simp only[d,if_true]at g;exact z i (by omega) g p
   ·simp only[if_neg d]at g;exact h.sat.gX i j (by simp;omega) (by simp;omega) F (by rw[dW (rs:=rs'++ [c]) (rs':=rs'++ [a,b]) (i:=i) (j:=i) (by rw[aP,aP,if_pos (by omega),if_pos (by omega)]),dW (rs:=rs'++ [c]) (rs':=rs'++ [a,b]) (i:=j) (j:=j) (by rw[aP,aP,if_pos (by omega),if_pos (by omega)])];exact G) k p g
 ·simp only[if_neg (show ¬i=rs.length by omega)];exact h.same i hi hm
 ·by_cases e:i=rs.length
  ·simp only[e,if_true]at f;rcases t k f with d|d
   ·exact .inr (h.new rs.length (by omega) (by simp) k d)
   ·exact .inr (h.new (rs.length+1) (by omega) (by simp) k d)
  ·simp only[if_neg e]at f;exact h.grow i hi k f
 ·simp at d;obtain rfl:i=rs.length:=by omega
  simp only[if_true]at f;rcases t k f with d|d
  ·exact h.new rs.length (by omega) (by simp) k d
  ·exact h.new (rs.length+1) (by omega) (by simp) k d
theorem aR.pack {rs rs':List (Res U)}{aW:List Nat}{X d:Nat->Nat->Prop}{w e:World}{Q:Ou U->Prop}{v:Value}{k f:Option Kn}{us:List (Upd U)}{a b c:Res U}{kc g:List (Key×Kn)}(i:br rs aW us=some rs')(h:sX rs aW X w ⟨v,k,us,[a,b],kc⟩ e rs' d){Z:Nat->Prop}(l:RS Z e c)(o:∀k,Z k->d rs.length k\/d (rs.length+1) k)
 (p:Q ⟨v,f,us,[c],g⟩)(j:KnO (rs'++ [c]) v f)(q:∀key k,(key,k)∈g->ei (rs'++ [c]) fr0 key k)(r:rw1 a=true:=by rfl)(s:rw1 b=true:=by rfl):aR rs aW X w Q (.returned v) e:=
 ⟨_,rs',_,fJ j,p,i,h.pack (sP i) l o j q r s⟩
theorem KnO.pair {rs:List (Res U)}{a b:Value}{p:PK}(h:den U rs p=some a):KnO rs (.tuple #[a,b]) (some (.t [some p,none])):=
 ⟨_,rfl,λj k c=>by
  match j,c with
  |0,c=>simp only[nth,Option.some.injEq]at c;subst c;exact⟨a,rfl,h⟩
  |1,c=>simp[nth]at c
  |j+2,c=>simp[nth]at c⟩
theorem Jb {rs:List (Res U)}{fr:Fr}{key:Key}{k:Kn}(h:ei rs fr key k):∀a b,(a,b)∈ [(key,k)]->ei rs fr a b:=λa b hm=>by
 simp only[List.mem_singleton,Prod.mk.injEq]at hm;obtain⟨rfl,rfl⟩:=hm;exact h
theorem aR.OF {a a':Res U}{rest:List (Res U)}{u:Upd U}{X:Nat->Nat->Prop}{w p:World}{Q:Ou U->Prop}{v:Value}{k:Option Kn}{Z:Nat->Prop}(hs:Sat (a::rest) X w)(q:Ch (X 0) w p)(hu:cV a u=some a')(hp:RS Z p a')(s:∀k,Z k->X 0 k\/w.heap.size<=k)(z:Q ⟨v,k,[u],[],[]⟩)(b:KnO (a'::rest) v k)(t:rw1 a=true:=by rfl):aR (a::rest) [0] X w Q (.returned v) p:=by
 refine⟨_,a'::rest,λi=>if i=0 then Z else X i,fJ b,z,by simp[br,hu,nth,cf],⟨λi r l=>?_,λi j hi d A B k o f=>?_⟩,q.mono λk b=>⟨0,by simp,b⟩,λi hi hm=>?_,λi hi k b=>?_,λi g c=>by simp at g c;omega,.inr (by simpa using b),λ_ k b=>by cases b⟩
 ·rw[List.append_nil]at l
  match i with
  |0=>simp only[nth,Option.some.injEq]at l;subst l;exact hp
  |i+1=>exact(hs.res (i+1) r l).ch q λk b x=>hs.gX 0 (i+1) (by simp) (aX l) (by omega) (by rw[show rwB (a::rest) 0=true from t,Bool.true_or]) k x b
 ·simp at hi d;have key:∀j,j<rest.length+1->j≠0->Z k->X j k->False:=λj d x C y=>by
   rcases s k C with h|h
   ·exact hs.gX 0 j (by simp) (by simpa using d) (by omega) (by rw[show rwB (a::rest) 0=true from t,Bool.true_or]) k h y
   ·have:=hs.lt (i:=j) (by simpa using d) k y;omega
  by_cases g:i=0
  ·have c:¬j=0:=by omega
   simp only[g,if_true,if_neg c]at o f;exact key j d c o f
  ·simp only[if_neg g]at o;by_cases c:j=0
   ·simp only[c,if_true]at f;exact key i hi g f o
   ·simp only[if_neg c]at f;exact hs.gX i j (by simpa using hi) (by simpa using d) A (by
     have e:∀i,i≠0->rwB (a'::rest++ []) i=rwB (a::rest) i:=λi hi=>by
      rw[List.append_nil]
      match i,hi with
      |i+1,_=>rfl
     rw[<-e i g,<-e j c];exact B) k o f
 ·simp at hm;simp only[if_neg hm]
 ·simp at hi;subst hi;exact s k b
theorem aR.first {t:Nat}{r:Nat->Nat}{s s':U.ty t}{rest:List (Res U)}{X:Nat->Nat->Prop}{w a:World}{Q:Ou U->Prop}{v:Value}{k:Option Kn}{Z:Nat->Prop}(hs:Sat (.ob t r s::rest) X w)(q:Ch (X 0) w a)(hp:U.pred t r s' Z a)(b:∀k,Z k->X 0 k\/w.heap.size<=k)(c:Q ⟨v,k,[.ob t s'],[],[]⟩)(d:KnO (.ob t r s'::rest) v k)(e:U.rw t=true:=by rfl):aR (.ob t r s::rest) [0] X w Q (.returned v) a:=
 aR.OF (a':=.ob t r s') hs q (by simp[cV]) hp b c d e
end
end V
theorem Dg.kM {d:Dg}(h:d.Ok):d.save.length=26:=by
 have a:=h.len;have b:=h.n;unfold Dg.save;simp;omega
theorem Im {l:List Int}(h:l.length=26):Value.agg (bW l)=.agg #[.int .u32 (l.getD 0 0),.int .u32 (l.getD 1 0),.int .u32 (l.getD 2 0),.int .u32 (l.getD 3 0),.int .u32 (l.getD 4 0),.int .u32 (l.getD 5 0),.int .u32 (l.getD 6 0),.int .u32 (l.getD 7 0),.int .u32 (l.getD 8 0),.int .u32 (l.getD 9 0),.int .u32 (l.getD 10 0),.int .u32 (l.getD 11 0),.int .u32 (l.getD 12 0),.int .u32 (l.getD 13 0),.int .u32 (l.getD 14 0),.int .u32 (l.getD 15 0),.int .u32 (l.getD 16 0),.int .u32 (l.getD 17 0),.int .u32 (l.getD 18 0),.int .u32 (l.getD 19 0),.int .u32 (l.getD 20 0),.int .u32 (l.getD 21 0),.int .u32 (l.getD 22 0),.int .u32 (l.getD 23 0),.int .u32 (l.getD 24 0),.int .u32 (l.getD 25 0)]:=by
 rcases l with _|⟨a0,_|⟨a,_|⟨b,_|⟨c,_|⟨d,_|⟨e,_|⟨f,_|⟨g,_|⟨i,_|⟨j,_|⟨b0,_|⟨b1,_|⟨b2,_|⟨b3,_|⟨b4,_|⟨b5,_|⟨b6,_|⟨b7,_|⟨b8,_|⟨b9,_|⟨k,_|⟨o,_|⟨p,_|⟨q,_|⟨s,_|⟨t,_|⟨u,r⟩⟩⟩⟩⟩⟩⟩⟩⟩⟩⟩⟩⟩⟩⟩⟩⟩⟩⟩⟩⟩⟩⟩⟩⟩⟩⟩
 all_goals first|rfl|(simp at h;done)
end
theorem PI {w:World}:
 Calls prog 91 #[] w λe b=>∃v,e=.returned v/\∃g:Nat,∃L:DgL,v=.pointer (pvA g)/\kD b g L Dg.new/\(∀k,L.X g k->w.heap.size<=k)/\Pu w b:=by
 refine DM ?_;have hp:=Ch.refl (λ_=>False) w;refine Calls.mono (Ii) ?_;rintro e j ⟨_,rfl,rfl,c⟩;refine⟨_,_,_,_,_,_,_,_,rfl,?_⟩;refine mkd λd l a=>?_;have f:=a.blk;have hp:=Ch.made (Ch.pu hp c) a;exact⟨d,⟨λ_=>False,none,0,0⟩,rfl,⟨⟨_,f⟩,Rd.nil,λh=>h⟩,by have:=a.num;have:=c.size;rintro k (rfl|i);omega;exact i.elim,hp⟩
theorem Lf {g:Nat}{L:DgL}{D:Dg}{Z:Nat->Prop}{x:Option Addr}{cm y:Nat}{l:List U32}{K:List Int}{w:World}(h:kD w g L D)(f:Rd w Z x cm y l)(b:jB w 1 K)(ok:D.Ok)(hlen:l.length<=1099511627776)(G:¬Z g)(H:¬g=1):
 Calls prog 112 #[(.pointer (pvA g)),(.slice x cm y)] w λe I=>∃v,e=.returned v/\∃M:DgL,v=.tuple #[]/\kD I g M (D.add K l)/\(∀k,(M.X g) k->(L.X g) k\/w.heap.size<=k)/\Ch (L.X g) w I:=by
 refine DP (pvA g) _ _ _ ?_;have Q:=ok.n;have ae:=f;have af:=h.lt g (.inl rfl);have hp:=Ch.refl (L.X g) w;have SF:=h.lt;have a5:=f.lt;have TK:=b.lt;obtain⟨⟨hT,hb⟩,p,z⟩:=h;have Xm:=p.lt;refine au _ rfl ⟨_,hb.at rfl,?_⟩;refine av (λA=>?_) (λA=>?_)
 ·exact⟨L,rfl,by have B:(l.length:Int)>36028797018963968 - D.n:=(by have:=f.len;rw[ay (by omega)]at A;omega);rw[Dg.add,if_pos B];exact⟨⟨_,hb⟩,p,z⟩,λk b=>.inl b,hp⟩
 ·have a6:=f.len;have UO:=p.len;have Q:=ok.n;have Zv:=ok.len;have a7:=p.cap;rw[ay (by omega)]at A;refine au _ rfl ⟨_,hb.at rfl,au _ rfl (bB hb (by simp) λC q=>?_)⟩;have hb:Blk C g #[O D.st.a,O D.st.b,O D.st.c,O D.st.d,O D.st.e,O D.st.f,O D.st.g,O D.st.h,J (i64.wrap (D.n+((cm:Nat):Int))),(.slice L.a L.n L.c)] _:=q.blk.cast (by kernel_rfl);refine⟨bXU [] [3,7,12] C.drew (λ_=>False),?_⟩;have hb:=Blk.drew hb;refine au _ rfl ⟨.inl (by decide),_,_,_,hb.at rfl,au _ rfl ⟨.inl (by decide),_,_,_,hb.at rfl,au _ rfl ⟨.inl (by decide),_,_,_,hb.at rfl,by omega,by omega,?_⟩⟩⟩;have p:=(p.ch q.ch (λk i e=>(z) (e▸i))).pu (Pu.aU _);rintro a8 ah a9 an ba az;have aA:=Rd.all p ah an az (by omega) (by omega);have f:=(f.ch q.ch (λk i e=>(G) (e▸i))).pu (Pu.aU _);have hp:=Ch.drew (Ch.call hp q.ch (by exact λk b=>.inl (.inl b)));refine O5 EL aA (by omega) f (by omega) (by omega) λbb bc Ro aC r=>?_;refine bXU.xy r (by decide) ?_;have hp:=Ch.pu hp r;have f:=f.pu r;have b:=((b.ch q.ch (λk i e=>(H) (e▸i))).pu (Pu.aU _)).pu r;have hb:=Pu.blk r hb;refine⟨λmz R s T W=>∃t:Nat->Prop,∃a:List U32,∃S:S8,∃n2:Int,mz=a.length/\(dN K S a=dN K D.st (D.waits++l))/\(¬t g)/\(a.length<=1099511627800)/\(n2=D.n+l.length)/\Rd W t R s T a/\Ch (L.X g) w W/\Rd W Z x cm y l/\jB W 1 K/\Blk W g #[O S.a,O S.b,O S.c,O S.d,O S.e,O S.f,O S.g,O S.h,J n2,(.slice L.a L.n L.c)] hT,⟨_,(λk=>(L.Y k\/C.drew.heap.size<=k)/\k<Ro.heap.size),(D.waits++l),D.st,_,rfl,rfl,(by rintro⟨h|h,_⟩;exact z h;exact absurd (Nat.lt_of_lt_of_le af (Nat.le_trans q.kept.size h)) (Nat.lt_irrefl _)),(by rw[List.length_append];omega),(by rw[ay (by omega)];omega),aC,hp,f,b,hb⟩,?_⟩;rintro _ _ R s T E ⟨t,a,S,n2,rfl,hI,V,bd,Y,c,hp,f,b,hb⟩;refine av (λc2=>?_) (λc2=>?_)
  ·refine⟨bXU [] [4,7] E.drew (λ_=>False),?_⟩;have hb:=Blk.drew hb;have c:=c.pu (Pu.aU _);refine au _ rfl ⟨.inl (by decide),_,_,_,_,_,_,_,_,⟨hb.at2 rfl,hb.at2 rfl,hb.at2 rfl,hb.at2 rfl,hb.at2 rfl,hb.at2 rfl,hb.at2 rfl,hb.at2 rfl⟩,by omega,?_⟩;obtain⟨p3,aN,bf,d⟩:=c.u32 (by omega);refine au p3 aN ⟨.inl (by decide),_,_,_,_,_,_,_,_,_,_,_,_,_,_,_,_,⟨d 0 (by omega),d 1 (by omega),d 2 (by omega),d 3 (by omega),d 4 (by omega),d 5 (by omega),d 6 (by omega),d 7 (by omega),d 8 (by omega),d 9 (by omega),d 10 (by omega),d 11 (by omega),d 12 (by omega),d 13 (by omega),d 14 (by omega),d 15 (by omega)⟩,?_⟩;have b:=b.pu (Pu.aU _);refine Calls.mono (Ij b _ _ _ _ _ _ _ _ _ _ _ _ _ _ _ _ _ _ _ _ _ _ _ _) ?_;rintro e Rw ⟨_,rfl,rfl,o⟩;refine⟨_,_,_,_,_,_,_,_,rfl,?_⟩;refine bXU.xy o (by decide) ?_;have hb:=Pu.blk o hb;refine au _ rfl (bB hb (by simp) λu j=>?_);have hb:Blk u g #[O (oa K (S8.mk S.a S.b S.c S.d S.e S.f S.g S.h) [((a.getD 0 ⟨0⟩).v),((a.getD 1 ⟨0⟩).v),((a.getD 2 ⟨0⟩).v),((a.getD 3 ⟨0⟩).v),((a.getD 4 ⟨0⟩).v),((a.getD 5 ⟨0⟩).v),((a.getD 6 ⟨0⟩).v),((a.getD 7 ⟨0⟩).v),((a.getD 8 ⟨0⟩).v),((a.getD 9 ⟨0⟩).v),((a.getD 10 ⟨0⟩).v),((a.getD 11 ⟨0⟩).v),((a.getD 12 ⟨0⟩).v),((a.getD 13 ⟨0⟩).v),((a.getD 14 ⟨0⟩).v),((a.getD 15 ⟨0⟩).v)]).a,O (oa K (S8.mk S.a S.b S.c S.d S.e S.f S.g S.h) [((a.getD 0 ⟨0⟩).v),((a.getD 1 ⟨0⟩).v),((a.getD 2 ⟨0⟩).v),((a.getD 3 ⟨0⟩).v),((a.getD 4 ⟨0⟩).v),((a.getD 5 ⟨0⟩).v),((a.getD 6 ⟨0⟩).v),((a.getD 7 ⟨0⟩).v),((a.getD 8 ⟨0⟩).v),((a.getD 9 ⟨0⟩).v),((a.getD 10 ⟨0⟩).v),((a.getD 11 ⟨0⟩).v),((a.getD 12 ⟨0⟩).v),((a.getD 13 ⟨0⟩).v),((a.getD 14 ⟨0⟩).v),((a.getD 15 ⟨0⟩).v)]).b,O (oa K (S8.mk S.a S.b S.c S.d S.e S.f S.g S.h) [((a.getD 0 ⟨0⟩).v),((a.getD 1 ⟨0⟩).v),((a.getD 2 ⟨0⟩).v),((a.getD 3 ⟨0⟩).v),((a.getD 4 ⟨0⟩).v),((a.getD 5 ⟨0⟩).v),((a.getD 6 ⟨0⟩).v),((a.getD 7 ⟨0⟩).v),((a.getD 8 ⟨0⟩).v),((a.getD 9 ⟨0⟩).v),((a.getD 10 ⟨0⟩).v),((a.getD 11 ⟨0⟩).v),((a.getD 12 ⟨0⟩).v),((a.getD 13 ⟨0⟩).v),((a.getD 14 ⟨0⟩).v),((a.getD 15 ⟨0⟩).v)]).c,O (oa K (S8.mk S.a S.b S.c S.d S.e S.f S.g S.h) [((a.getD 0 ⟨0⟩).v),((a.getD 1 ⟨0⟩).v),((a.getD 2 ⟨0⟩).v),((a.getD 3 ⟨0⟩).v),((a.getD 4 ⟨0⟩).v),((a.getD 5 ⟨0⟩).v),((a.getD 6 ⟨0⟩).v),((a.getD 7 ⟨0⟩).v),((a.getD 8 ⟨0⟩).v),((a.getD 9 ⟨0⟩).v),((a.getD 10 ⟨0⟩).v),((a.getD 11 ⟨0⟩).v),((a.getD 12 ⟨0⟩).v),((a.getD 13 ⟨0⟩).v),((a.getD 14 ⟨0⟩).v),((a.getD 15 ⟨0⟩).v)]).d,O (oa K (S8.mk S.a S.b S.c S.d S.e S.f S.g S.h) [((a.getD 0 ⟨0⟩).v),((a.getD 1 ⟨0⟩).v),((a.getD 2 ⟨0⟩).v),((a.getD 3 ⟨0⟩).v),((a.getD 4 ⟨0⟩).v),((a.getD 5 ⟨0⟩).v),((a.getD 6 ⟨0⟩).v),((a.getD 7 ⟨0⟩).v),((a.getD 8 ⟨0⟩).v),((a.getD 9 ⟨0⟩).v),((a.getD 10 ⟨0⟩).v),((a.getD 11 ⟨0⟩).v),((a.getD 12 ⟨0⟩).v),((a.getD 13 ⟨0⟩).v),((a.getD 14 ⟨0⟩).v),((a.getD 15 ⟨0⟩).v)]).e,O (oa K (S8.mk S.a S.b S.c S.d S.e S.f S.g S.h) [((a.getD 0 ⟨0⟩).v),((a.getD 1 ⟨0⟩).v),((a.getD 2 ⟨0⟩).v),((a.getD 3 ⟨0⟩).v),((a.getD 4 ⟨0⟩).v),((a.getD 5 ⟨0⟩).v),((a.getD 6 ⟨0⟩).v),((a.getD 7 ⟨0⟩).v),((a.getD 8 ⟨0⟩).v),((a.getD 9 ⟨0⟩).v),((a.getD 10 ⟨0⟩).v),((a.getD 11 ⟨0⟩).v),((a.getD 12 ⟨0⟩).v),((a.getD 13 ⟨0⟩).v),((a.getD 14 ⟨0⟩).v),((a.getD 15 ⟨0⟩).v)]).f,O (oa K (S8.mk S.a S.b S.c S.d S.e S.f S.g S.h) [((a.getD 0 ⟨0⟩).v),((a.getD 1 ⟨0⟩).v),((a.getD 2 ⟨0⟩).v),((a.getD 3 ⟨0⟩).v),((a.getD 4 ⟨0⟩).v),((a.getD 5 ⟨0⟩).v),((a.getD 6 ⟨0⟩).v),((a.getD 7 ⟨0⟩).v),((a.getD 8 ⟨0⟩).v),((a.getD 9 ⟨0⟩).v),((a.getD 10 ⟨0⟩).v),((a.getD 11 ⟨0⟩).v),((a.getD 12 ⟨0⟩).v),((a.getD 13 ⟨0⟩).v),((a.getD 14 ⟨0⟩).v),((a.getD 15 ⟨0⟩).v)]).g,O (oa K (S8.mk S.a S.b S.c S.d S.e S.f S.g S.h) [((a.getD 0 ⟨0⟩).v),((a.getD 1 ⟨0⟩).v),((a.getD 2 ⟨0⟩).v),((a.getD 3 ⟨0⟩).v),((a.getD 4 ⟨0⟩).v),((a.getD 5 ⟨0⟩).v),((a.getD 6 ⟨0⟩).v),((a.getD 7 ⟨0⟩).v),((a.getD 8 ⟨0⟩).v),((a.getD 9 ⟨0⟩).v),((a.getD 10 ⟨0⟩).v),((a.getD 11 ⟨0⟩).v),((a.getD 12 ⟨0⟩).v),((a.getD 13 ⟨0⟩).v),((a.getD 14 ⟨0⟩).v),((a.getD 15 ⟨0⟩).v)]).h,J n2,(.slice L.a L.n L.c)] _:=j.blk.cast (by kernel_rfl);refine bXU.grow j.ch ?_;refine⟨by omega,?_⟩;have c:=(c.pu o).ch j.ch (λk i e=>(V) (e▸i));rintro bh a0 bk a1 bl a2;have a3:=Rd.from_ (lo:=16) c a0 a1 a2 (by omega) (by have:=c.cap;omega);have hp:=Ch.call (Ch.pu (Ch.drew hp) o) j.ch (by exact λk b=>.inl (.inl b));have f:=((f.pu (Pu.aU _)).pu o).ch j.ch (λk i e=>(G) (e▸i));have b:=(b.pu o).ch j.ch (λk i e=>(H) (e▸i));exact⟨_,by rw[List.length_drop];have:=c.len;omega,t,(a.drop 16),(oa K S ((a.take 16).map U32.v)),n2,rfl,(by rw[<-hI,<-jd (by have:=c.len;omega)]),V,(by rw[List.length_drop];omega),Y,a3,hp,f,b,hb.cast (Qx (congrArg (Value.int .u32) (by rw[lv (by have:=c.len;omega)])) (congrArg (Value.int .u32) (by rw[lv (by have:=c.len;omega)])) (congrArg (Value.int .u32) (by rw[lv (by have:=c.len;omega)])) (congrArg (Value.int .u32) (by rw[lv (by have:=c.len;omega)])) (congrArg (Value.int .u32) (by rw[lv (by have:=c.len;omega)])) (congrArg (Value.int .u32) (by rw[lv (by have:=c.len;omega)])) (congrArg (Value.int .u32) (by rw[lv (by have:=c.len;omega)])) (congrArg (Value.int .u32) (by rw[lv (by have:=c.len;omega)])) (rfl) (rfl))⟩
  ·have a4:=hp.size;have aa:¬E.heap.size<=g:=by omega
   refine qw EL c (by omega) (by omega) λab Uv Rw F o=>?_;have hb:=Pu.blk o hb;refine au _ rfl (bB hb (by simp) λu j=>?_);have hb:Blk u g #[O S.a,O S.b,O S.c,O S.d,O S.e,O S.f,O S.g,O S.h,J n2,(.slice ab s Uv)] _:=j.blk.cast (by kernel_rfl);have F:=F.ch j.ch (λk i e=>aa (e▸i.1));have hp:=Ch.call (Ch.pu hp o) j.ch (by exact λk b=>.inl (.inl b));exact⟨⟨λk=>E.heap.size<=k/\k<u.heap.size,ab,s,Uv⟩,rfl,by have Q:=ok.n;have B:¬(l.length:Int)>36028797018963968 - D.n:=(by have:=ae.len;omega);have ha:dN K D.st (D.waits++l)=(S,a):=(by rw[<-hI,gV (by have:=c.len;omega)]);rw[Dg.add,if_neg B,ha];exact⟨⟨_,Blk.cast hb (by rw[<-Y])⟩,(F).NW (λk b=>⟨b.1.1,b.2⟩) (λk b=>b.2),λh=>absurd h.1 aa⟩,λk b=>b.elim (λe=>.inl (.inl e)) (λh=>.inr (Nat.le_trans a4 h.1)),hp⟩
theorem PH {g:Nat}{L:DgL}{D:Dg}{w:World}(h:kD w g L D)(ok:D.Ok):
 Calls prog 92 #[(.pointer (pvA g))] w λe C=>∃v,e=.returned v/\v=.agg (bW D.save)/\Pu w C:=by
 refine BN (pvA g) ?_;have E:=h.rd.len;have M:=ok.len;have hp:=Ch.refl (λ_=>False) w;have O:=h.lt;obtain⟨⟨Q,hb⟩,t,R⟩:=h;have y:=t.lt;refine mkd λF G f=>?_;have H:=f.lo hp;have S:=f.ne hb;have j:Blk G F (bW (List.replicate 26 0)) _:=f.blk.cast (iT _ _);have hp:=Ch.made hp f;have hb:=Made.old f hb;refine mkd λI A c=>?_;have d:=c.lo hp;have z:=c.ne hb;have u:=c.ne j;have a:Blk A I (bW (List.replicate 26 0)) _:=c.blk.cast (iT _ _);refine⟨bXU [] [] A.drew (λ_=>False),?_⟩;refine⟨by omega,?_⟩;rintro _ rfl _ rfl _ rfl;refine au _ rfl ?_;rintro _ rfl _ rfl _ rfl;have a:=Blk.drew a;have hb:=Blk.drew (Made.old c hb);refine qp uo a (o:=0) rfl (by(simp;done)) (dz.pre (Z:=λ_=>True) (o:=0) (r:= [D.st.a,D.st.b,D.st.c,D.st.d,D.st.e,D.st.f,D.st.g,D.st.h]) hb trivial rfl (by(simp;done)) (by rfl) (by rfl)) (by(simp;done)) λJ p=>?_;have a:=p.blk;refine bXU.xy p.ch (by decide) ?_;refine⟨bXU [] [3,10] J.drew (λ_=>False),?_⟩;have hb:=Blk.drew (Ch.blk p.ch hb (z));have a:=Blk.drew a;refine au _ rfl ⟨.inl (by decide),_,hb.at rfl,au _ rfl ⟨.inl (by decide),_,hb.at rfl,by decide,oI (i:=8) a (by(simp;done)) λT q=>?_⟩⟩;have a:=q.blk;refine bXU.xy q.ch (by decide) ?_;refine⟨by decide,oI (i:=9) a (by(simp;done)) λK s=>?_⟩;have a:=s.blk;refine bXU.grow s.ch ?_;refine⟨bXU [] [4] K.drew (λ_=>False),?_⟩;refine⟨by omega,?_⟩;rintro _ rfl _ rfl _ rfl;have hb:=Blk.drew (Ch.blk s.ch (Ch.blk q.ch hb (z)) (z));refine au _ rfl ⟨.inl (by decide),_,_,_,hb.at rfl,?_⟩;have a:=Blk.drew a;have t:=(((((((t.pu f.pu).pu c.pu).pu (Pu.aU _)).ch p.ch (λk b e=>(λb=>absurd (y _ b) (Nat.not_lt.2 d)) (e▸b))).pu (Pu.aU _)).ch q.ch (λk b e=>(λb=>absurd (y _ b) (Nat.not_lt.2 d)) (e▸b))).ch s.ch (λk b e=>(λb=>absurd (y _ b) (Nat.not_lt.2 d)) (e▸b))).pu (Pu.aU _);refine qp uo a (o:=10) rfl (by(simp;done)) (t).ints (by(simp;omega)) λV x=>?_;have a:=x.blk;refine bXU.xy x.ch (by decide) ?_;have j:=Ch.blk x.ch (Blk.drew (Ch.blk s.ch (Ch.blk q.ch (Blk.drew (Ch.blk p.ch (Blk.drew (Made.old c j)) (u))) (u)) (u))) (u);refine⟨bW (ko (((ko (List.replicate 26 0) 0 ([D.st.a,D.st.b,D.st.c,D.st.d,D.st.e,D.st.f,D.st.g,D.st.h].take (min (8 - 0) ((Int.toNat 8) - 0)))).set 8 (u32.wrap ((u64.wrap D.n:Int).fdiv (2 ^ 32)))).set 9 (u32.wrap D.n)) 10 ((List.map U32.v D.waits).take (min L.n (26 - (Int.toNat 10))))),a.yD (by(simp;done)),by rw[gL];(simp;done),pT,qS j (by(simp;done)) λW B=>?_⟩;have j:=B.blk;refine⟨bW (ko (((ko (List.replicate 26 0) 0 ([D.st.a,D.st.b,D.st.c,D.st.d,D.st.e,D.st.f,D.st.g,D.st.h].take (min (8 - 0) ((Int.toNat 8) - 0)))).set 8 (u32.wrap ((u64.wrap D.n:Int).fdiv (2 ^ 32)))).set 9 (u32.wrap D.n)) 10 ((List.map U32.v D.waits).take (min L.n (26 - (Int.toNat 10))))),j.yD (by(simp;done)),?_⟩;have hp:=Ch.call (Ch.call (Ch.drew (Ch.call (Ch.call (Ch.drew (Ch.call (Ch.drew (Ch.made hp c)) p.ch (by exact λk e=>.inr (e▸d)))) q.ch (by exact λk e=>.inr (e▸d))) s.ch (by exact λk e=>.inr (e▸d)))) x.ch (by exact λk e=>.inr (e▸d))) B.ch (by exact λk e=>.inr (e▸H));exact⟨congrArg (λl=>Value.agg (bW l)) (by exact Dg.save_eq ok (Dg.ND ok.n) (u32_eq _) E),hp⟩
theorem PJ {Z:Nat->Prop}{Q:Option Addr}{cm R:Nat}{l:List U32}{w:World}(b:Rd w Z Q cm R l)(hw:∀x∈l,0<=x.v/\x.v<4294967296):
 Calls prog 102 #[(.slice Q cm R)] w λe w'=>∃v,e=.returned v/\∃p:oA,v=.tuple #[(.pointer p),J (Dg.aL l)]/\(Dg.aL l=0->∃g L,p=some (vA g)/\kD w' g L (Dg.load l)/\∀k,L.X g k->w.heap.size<=k)/\Pu w w':=by
 refine BO _ _ _ ?_;have hl:=b.len;have a6:=b.cap;have hp:=Ch.refl (λ_=>False) w;have a7:=b.lt;refine ax (λc1=>?_) (λc1=>?_)
 ·exact⟨none,congrArg Value.tuple (wB (rfl) (congrArg (Value.int .i64) (by rw[Dg.qf (by omega)]))),λh=>absurd h (by rw[Dg.qf (by omega)];omega),hp⟩
 ·have f:l.length=26:=by omega
  have C:=Dg.nOf_eq hw f;refine⟨by omega,?_⟩;obtain⟨p2,aa,a8,XV⟩:=b.u32 (by omega);refine au p2 aa ?_;have b:=b.pu (Pu.aU _);refine⟨_,XV 8 (by omega),by omega,?_⟩;obtain⟨p3,ab,a9,Vu⟩:=b.u32 (by omega);refine au p3 ab ⟨_,Vu 9 (by omega),?_⟩;rintro n ae;obtain rfl:n=Dg.nOf l:=ae.trans (by exact C.1);refine⟨by omega,by omega,?_⟩;rintro Uy af Ux ah U1 an;have az:=Rd.cut (lo:=0) (hi:=(Int.toNat 8)) b af ah an (by omega) (by omega) (by omega);refine⟨by omega,?_⟩;obtain⟨p4,aA,ba,q⟩:=az.u32 (by omega);refine au p4 aA ⟨_,_,_,_,_,_,_,_,⟨q 0 (by omega),q 1 (by omega),q 2 (by omega),q 3 (by omega),q 4 (by omega),q 5 (by omega),q 6 (by omega),q 7 (by omega)⟩,?_⟩;have hp:=Ch.drew hp;refine mkd λr wv j=>?_;have S:=j.lo hp;have a:=j.blk;refine⟨_,?_,λ_ TP Ro h=>h⟩;refine⟨bXU [9] [] wv.drew (λ_=>False),?_⟩;refine av (λD=>?_) (λD=>?_)
  ·refine eK ?_;have hp:=Ch.drew (Ch.made hp j);exact⟨none,congrArg Value.tuple (wB (rfl) (congrArg (Value.int .i64) (by rw[Dg.jz f (.inl D)]))),λh=>absurd h (by rw[Dg.jz f (.inl D)];omega),hp⟩
  ·refine av (λT=>?_) (λT=>?_)
   ·have a:=Blk.drew a;refine⟨.inr ⟨by decide,bX.ld a (λh=>h) _⟩,_,_,_,_,_,_,_,_,⟨a.at2 rfl,a.at2 rfl,a.at2 rfl,a.at2 rfl,a.at2 rfl,a.at2 rfl,a.at2 rfl,a.at2 rfl⟩,?_⟩;refine Calls.mono (Ii) ?_;rintro e Ro ⟨_,rfl,rfl,E⟩;refine⟨_,_,_,_,_,_,_,_,rfl,?_⟩;refine bXU.iX E (by decide) ?_;refine dj (λV=>?_) (λV=>?_)
    ·have Y:Dg.lx l≠S8.first:=by intro h;simp[Dg.lx,S8.first]at h;simp[bG,eqL,kG,S8.first,h]at V
     have hp:=Ch.pu (Ch.drew (Ch.made hp j)) E;exact⟨none,congrArg Value.tuple (wB (rfl) (congrArg (Value.int .i64) (by rw[Dg.jz f (.inr ⟨T,Y⟩)]))),λh=>absurd h (by rw[Dg.jz f (.inr ⟨T,Y⟩)];omega),hp⟩
    ·have Y:Dg.lx l=S8.first:=by simp[bG,eqL,kG,S8.first]at V;simp[Dg.lx,S8.first,V]
     have s:¬(Dg.nOf l>36028797018963968\/(Dg.nOf l<16/\Dg.lx l≠S8.first)):=by rintro(h|h);exact D h;exact h.2 Y
     rintro waits V4;obtain rfl:waits=Dg.nOf l % 16:=V4.trans (by rw[Int.tmod_eq_emod_of_nonneg C.2.1,ay (by omega)]);refine⟨by(simp only[wrap_i64];omega),?_⟩;have b:=((b.pu j.pu).pu (Pu.aU _)).pu E;rintro VS Xb t W9 Wa Xa;have o:=Rd.from_ (lo:=(Int.toNat (i64.wrap (10+(Dg.nOf l % 16))))) b Xb W9 Xa (by(rw[Dg.lo_eq];omega)) (by have:=b.cap;omega);have hp:=Ch.pu (Ch.drew (Ch.made hp j)) E;have a:=Pu.blk E a;refine⟨λmz c W=>mz=(t - c).toNat/\(0<=c/\c<=t)/\(∀(i:Nat)(x:U32),i<c.toNat->(l.drop (10+(Dg.nOf l % 16).toNat))[i]? =some x->x.v=0)/\Ch (λ_=>False) w W/\Rd W Z Q cm R l/\Blk W r #[O (((l.drop 0).take ((Int.toNat 8) - 0)).getD 0 ⟨0⟩).v,O (((l.drop 0).take ((Int.toNat 8) - 0)).getD 1 ⟨0⟩).v,O (((l.drop 0).take ((Int.toNat 8) - 0)).getD 2 ⟨0⟩).v,O (((l.drop 0).take ((Int.toNat 8) - 0)).getD 3 ⟨0⟩).v,O (((l.drop 0).take ((Int.toNat 8) - 0)).getD 4 ⟨0⟩).v,O (((l.drop 0).take ((Int.toNat 8) - 0)).getD 5 ⟨0⟩).v,O (((l.drop 0).take ((Int.toNat 8) - 0)).getD 6 ⟨0⟩).v,O (((l.drop 0).take ((Int.toNat 8) - 0)).getD 7 ⟨0⟩).v,J (i64.wrap (Dg.nOf l)),(.slice none 0 0)] 195/\Rd W Z VS t Wa (l.drop (Int.toNat (i64.wrap (10+(Dg.nOf l % 16))))),⟨_,rfl,(by omega),(by intro i x h;omega),hp,b,a,o⟩,?_⟩;rintro _ _ c F ⟨rfl,h0,hq,hp,b,a,o⟩;refine av (λc8=>?_) (λc8=>?_)
     ·obtain⟨p9,x9,aC,z,A,aN⟩:=o.ld (i:=c) (by omega) (by omega);refine⟨by constructor<;>omega,au p9 aC ⟨_,aN 0 (by decide),?_⟩⟩;refine ax (λXc=>?_) (λXc=>?_)
      ·exact⟨none,congrArg Value.tuple (wB (rfl) (congrArg (Value.int .i64) (by rw[Dg.lo_eq]at z;rw[Dg.iZ f s z Xc]))),λh=>absurd h (by rw[Dg.iZ f s (Dg.lo_eq▸z) Xc];omega),hp⟩
      ·exact⟨_,by rw[wrap_i64];omega,rfl,by rw[wrap_i64];omega,by rw[ay (by omega)];intro i x hi d;by_cases he:i=c.toNat;(subst he;(rw[Dg.lo_eq]at z;rw[d]at z;injection z with e;rw[e];simpa using Xc));exact hq i x (by omega) d,hp,b,a,o⟩
     ·have A:=hp;have a0:r<F.heap.size:=a.lt;refine⟨by(simp only[wrap_i64];omega),by(simp only[wrap_i64];omega),by(simp only[wrap_i64];omega),?_⟩;rintro a1 W8 G W6 a2 W7;have WW:=Rd.cut (lo:=10) (hi:=(Int.toNat (i64.wrap (10+(Dg.nOf l % 16))))) b W8 W6 W7 (by(rw[Dg.lo_eq];omega)) (by(rw[Dg.lo_eq];omega)) (by omega);refine qw EL WW (by have:= @Dg.lo_eq l;omega) (by have:= @Dg.lo_eq l;omega) λH I Rw u K=>?_;have a:=Pu.blk K a;refine bB a (by simp) λM y=>?_;have a:Blk M r #[O (((l.drop 0).take ((Int.toNat 8) - 0)).getD 0 ⟨0⟩).v,O (((l.drop 0).take ((Int.toNat 8) - 0)).getD 1 ⟨0⟩).v,O (((l.drop 0).take ((Int.toNat 8) - 0)).getD 2 ⟨0⟩).v,O (((l.drop 0).take ((Int.toNat 8) - 0)).getD 3 ⟨0⟩).v,O (((l.drop 0).take ((Int.toNat 8) - 0)).getD 4 ⟨0⟩).v,O (((l.drop 0).take ((Int.toNat 8) - 0)).getD 5 ⟨0⟩).v,O (((l.drop 0).take ((Int.toNat 8) - 0)).getD 6 ⟨0⟩).v,O (((l.drop 0).take ((Int.toNat 8) - 0)).getD 7 ⟨0⟩).v,J (i64.wrap (Dg.nOf l)),(.slice H G I)] _:=y.blk.cast (by kernel_rfl);have u:=u.ch y.ch (λk d e=>absurd d.1 (by omega));have hp:=Ch.call (Ch.pu hp K) y.ch (by exact λk e=>.inr (e▸S));exact⟨_,congrArg Value.tuple (wB (rfl) (congrArg (Value.int .i64) (by rw[(Dg.oU f s (λi x d=>hq i x (by have:=(List.getElem?_eq_some_iff.1 d).1;rw[List.length_drop]at this;have:= @Dg.lo_eq l;omega) d))]))),λ_=>⟨r,⟨λk=>(F.heap.size<=k/\k<Rw.heap.size)/\k<M.heap.size,H,G,I⟩,rfl,⟨⟨_,Blk.cast a (by simp[Dg.load,Dg.lx];have:=C.2;exact(ay (x:=Dg.nOf l) (by omega)).symm)⟩,by have h9:=(u).rd;have h8:= @Dg.lo_eq l;have e:Dg.load l=⟨Dg.lx l,Dg.nOf l,(l.drop 10).take (Int.toNat (i64.wrap (10+Dg.nOf l % 16)) - 10)⟩:=(by rw[h8,Nat.add_sub_cancel_left];rfl);rw[e];exact h9,by intro h;exact absurd h.1.1 (by have:=j.num;have:=A.size;omega)⟩,λk hk=>hk.elim (λe=>by rw[e];exact S) (λh=>by have:=A.size;have:=h.1.1;omega)⟩,hp⟩
   ·have s:¬(Dg.nOf l>36028797018963968\/(Dg.nOf l<16/\Dg.lx l≠S8.first)):=by rintro(h|h);exact D h;exact T h.1
    refine jw ?_;rintro waits V4;obtain rfl:waits=Dg.nOf l % 16:=V4.trans (by rw[Int.tmod_eq_emod_of_nonneg C.2.1,ay (by omega)]);refine⟨by(simp only[wrap_i64];omega),?_⟩;have b:=(b.pu j.pu).pu (Pu.aU _);rintro VS Xb t W9 Wa Xa;have o:=Rd.from_ (lo:=(Int.toNat (i64.wrap (10+(Dg.nOf l % 16))))) b Xb W9 Xa (by(rw[Dg.lo_eq];omega)) (by have:=b.cap;omega);have hp:=Ch.drew (Ch.made hp j);have a:=Blk.drew a;refine⟨λmz c W=>mz=(t - c).toNat/\(0<=c/\c<=t)/\(∀(i:Nat)(x:U32),i<c.toNat->(l.drop (10+(Dg.nOf l % 16).toNat))[i]? =some x->x.v=0)/\Ch (λ_=>False) w W/\Rd W Z Q cm R l/\Blk W r #[O (((l.drop 0).take ((Int.toNat 8) - 0)).getD 0 ⟨0⟩).v,O (((l.drop 0).take ((Int.toNat 8) - 0)).getD 1 ⟨0⟩).v,O (((l.drop 0).take ((Int.toNat 8) - 0)).getD 2 ⟨0⟩).v,O (((l.drop 0).take ((Int.toNat 8) - 0)).getD 3 ⟨0⟩).v,O (((l.drop 0).take ((Int.toNat 8) - 0)).getD 4 ⟨0⟩).v,O (((l.drop 0).take ((Int.toNat 8) - 0)).getD 5 ⟨0⟩).v,O (((l.drop 0).take ((Int.toNat 8) - 0)).getD 6 ⟨0⟩).v,O (((l.drop 0).take ((Int.toNat 8) - 0)).getD 7 ⟨0⟩).v,J (i64.wrap (Dg.nOf l)),(.slice none 0 0)] 195/\Rd W Z VS t Wa (l.drop (Int.toNat (i64.wrap (10+(Dg.nOf l % 16))))),⟨_,rfl,(by omega),(by intro i x h;omega),hp,b,a,o⟩,?_⟩;rintro _ _ c F ⟨rfl,h0,hq,hp,b,a,o⟩;refine av (λXY=>?_) (λXY=>?_)
    ·obtain⟨a3,R1,a4,B,bb,a5⟩:=o.ld (i:=c) (by omega) (by omega);refine⟨by constructor<;>omega,au a3 a4 ⟨_,a5 0 (by decide),?_⟩⟩;refine ax (λWH=>?_) (λWH=>?_)
     ·exact⟨none,congrArg Value.tuple (wB (rfl) (congrArg (Value.int .i64) (by rw[Dg.lo_eq]at B;rw[Dg.iZ f s B WH]))),λh=>absurd h (by rw[Dg.iZ f s (Dg.lo_eq▸B) WH];omega),hp⟩
     ·exact⟨_,by rw[wrap_i64];omega,rfl,by rw[wrap_i64];omega,by rw[ay (by omega)];intro i x hi d;by_cases he:i=c.toNat;(subst he;(rw[Dg.lo_eq]at B;rw[d]at B;injection B with e;rw[e];simpa using WH));exact hq i x (by omega) d,hp,b,a,o⟩
    ·have A:=hp;have a0:r<F.heap.size:=a.lt;refine⟨by(simp only[wrap_i64];omega),by(simp only[wrap_i64];omega),by(simp only[wrap_i64];omega),?_⟩;rintro a1 W8 G W6 a2 W7;have WW:=Rd.cut (lo:=10) (hi:=(Int.toNat (i64.wrap (10+(Dg.nOf l % 16))))) b W8 W6 W7 (by(rw[Dg.lo_eq];omega)) (by(rw[Dg.lo_eq];omega)) (by omega);refine qw EL WW (by have:= @Dg.lo_eq l;omega) (by have:= @Dg.lo_eq l;omega) λH I Rw u K=>?_;have a:=Pu.blk K a;refine bB a (by simp) λM y=>?_;have a:Blk M r #[O (((l.drop 0).take ((Int.toNat 8) - 0)).getD 0 ⟨0⟩).v,O (((l.drop 0).take ((Int.toNat 8) - 0)).getD 1 ⟨0⟩).v,O (((l.drop 0).take ((Int.toNat 8) - 0)).getD 2 ⟨0⟩).v,O (((l.drop 0).take ((Int.toNat 8) - 0)).getD 3 ⟨0⟩).v,O (((l.drop 0).take ((Int.toNat 8) - 0)).getD 4 ⟨0⟩).v,O (((l.drop 0).take ((Int.toNat 8) - 0)).getD 5 ⟨0⟩).v,O (((l.drop 0).take ((Int.toNat 8) - 0)).getD 6 ⟨0⟩).v,O (((l.drop 0).take ((Int.toNat 8) - 0)).getD 7 ⟨0⟩).v,J (i64.wrap (Dg.nOf l)),(.slice H G I)] _:=y.blk.cast (by kernel_rfl);have u:=u.ch y.ch (λk d e=>absurd d.1 (by omega));have hp:=Ch.call (Ch.pu hp K) y.ch (by exact λk e=>.inr (e▸S));exact⟨_,congrArg Value.tuple (wB (rfl) (congrArg (Value.int .i64) (by rw[(Dg.oU f s (λi x d=>hq i x (by have:=(List.getElem?_eq_some_iff.1 d).1;rw[List.length_drop]at this;have:= @Dg.lo_eq l;omega) d))]))),λ_=>⟨r,⟨λk=>(F.heap.size<=k/\k<Rw.heap.size)/\k<M.heap.size,H,G,I⟩,rfl,⟨⟨_,Blk.cast a (by simp[Dg.load,Dg.lx];have:=C.2;exact(ay (x:=Dg.nOf l) (by omega)).symm)⟩,by have h9:=(u).rd;have h8:= @Dg.lo_eq l;have e:Dg.load l=⟨Dg.lx l,Dg.nOf l,(l.drop 10).take (Int.toNat (i64.wrap (10+Dg.nOf l % 16)) - 10)⟩:=(by rw[h8,Nat.add_sub_cancel_left];rfl);rw[e];exact h9,by intro h;exact absurd h.1.1 (by have:=j.num;have:=A.size;omega)⟩,λk hk=>hk.elim (λe=>by rw[e];exact S) (λh=>by have:=A.size;have:=h.1.1;omega)⟩,hp⟩
section
attribute [local irreducible] Vc2 VcD
def KF:Ctr Un:=⟨[.one (.int .i64),.one (.int .i64)],[],[],[],λs i K=>((1<=(s:Int)/\(s:Int)<=64)/\(1<=(i:Int)/\(i:Int)<=64))/\∀(a:Nat->Nat),K ⟨(.tuple #[(.pointer (pvA (a 0))),J 0]),(some (.t [(some (.obj 0 0 0)),none])),[],[(.ob 0 a (Mem.fresh s.toNat i.toNat))],[]⟩⟩
theorem Ph:LV Un prog 25 KF:=by
 show ∀(s i:Int),∀Q:Ou Un->Prop,(((1<=(s:Int)/\(s:Int)<=64)/\(1<=(i:Int)/\(i:Int)<=64))/\∀(b:Nat->Nat),Q ⟨(.tuple #[(.pointer (pvA (b 0))),J 0]),(some (.t [(some (.obj 0 0 0)),none])),[],[(.ob 0 b (Mem.fresh s.toNat i.toNat))],[]⟩)->∀(X:bP)(w:World),Sat (U:=Un) [] X w->aG (U:=Un) [] fr0 []->Calls prog 25 #[J s,J i] w (aR (U:=Un) [] [] X w Q);intro s i Q a X w hs k;obtain⟨⟨d,f⟩,a⟩:=a;refine(QX s i d f).mono ?_;rintro e c ⟨u,rfl,L,rfl,g,j,q⟩;exact aR.IU (Z:=L.X) hs q (show RS (U:=Un) L.X c (.ob 0 (λ_=>L.g) (Mem.fresh s.toNat i.toNat))from(⟨L,rfl,λ_=>Iff.rfl,g⟩:bO 0 (λ_=>L.g) (Mem.fresh s.toNat i.toNat) L.X c)) j (a (λ_=>L.g)) (KnO.pair rfl) (λ_ _ h=>by cases h)
def KN:Ctr Un:=⟨[.one (.obj 0 0)],[],[.ob 0 []],[0],λb m K=>1<=m.S/\∀(a:Nat->Nat),K ⟨(.pointer (pvA (a 0))),(some (.p (.obj 1 0 0))),[.ob 0 (m.dQ m.S)],[(.ob 1 a ((DB.new m).pd))],[(.l 1 1,.p (.obj 0 0 0))]⟩⟩
theorem Pj:LV Un prog 26 KN:=by
 show ∀(b:Nat->Nat)(m:Mem),∀Q:Ou Un->Prop,(1<=m.S/\∀(l:Nat->Nat),Q ⟨(.pointer (pvA (l 0))),(some (.p (.obj 1 0 0))),[.ob 0 (m.dQ m.S)],[(.ob 1 l ((DB.new m).pd))],[(.l 1 1,.p (.obj 0 0 0))]⟩)->∀(X:bP)(w:World),Sat (U:=Un) [(.ob 0 b m)] X w->aG (U:=Un) [(.ob 0 b m)] fr0 []->Calls prog 26 #[(.pointer (pvA (b 0)))] w (aR (U:=Un) [(.ob 0 b m)] [0] X w Q);intro b m Q d X w hs y;obtain⟨hS,d⟩:=d;obtain⟨L,f,o,h⟩:=oo hs;rw[f];refine(Ra o hS).mono ?_;rintro e j ⟨u,rfl,g,a,rfl,p,r,⟨s,t⟩,q⟩;have v:∀k,L.X k->k<w.heap.size:=o.lt;exact aR.II (k:=some (.p (.obj 1 0 0))) (kc:= [(.l 1 1,.p (.obj 0 0 0))]) (Z0:=X 0) (Z1:=λk=>k=g\/k=a) (q.mono λk c=>(h k).1 c) (show bO 0 b (m.dQ m.S) (X 0) j from⟨L,f,h,p⟩) (λk c=>.inl c) (show RS (U:=Un) (λk=>k=g\/k=a) j (.ob 1 (λi=>if i=0 then g else L.g) (DB.new m).pd)from(⟨a,λk=>Iff.rfl,r.pd⟩:bO 1 (λi=>if i=0 then g else L.g) (DB.new m).pd (λk=>k=g\/k=a) j))
  (λk c=>by rcases c with rfl|rfl;exact s;exact t) (λk c x=>by have:=v k ((h k).2 c);rcases x with rfl|rfl<;>omega) (d (λi=>if i=0 then g else L.g)) rfl (Jb ⟨_,_,_,rfl,show some (Value.pointer (some ⟨b 0,0,none⟩))=some (.pointer (some ⟨L.g,0,none⟩))by rw[f]⟩)
def Cl:Ctr Un:=⟨[.one (.obj 0 0)],[],[.ob 1 [(1,1,0)],.ob 0 []],[],λr E a m K=>E.n=m.S/\∀(A:oA)(c:Nat),K ⟨(.slice A (((E.on m).words.map uM).length) c),(some (.p (.sl 2 0))),[],[(.lst 1 true 23 A c ((E.on m).words.map uM))],[]⟩⟩
theorem KM:LV Un prog 45 Cl:=by
 show ∀(r:Nat->Nat)(E:Pd)(b:Nat->Nat)(m:Mem),∀Q:Ou Un->Prop,(E.n=m.S/\∀(A:oA)(c:Nat),Q ⟨(.slice A (((E.on m).words.map uM).length) c),(some (.p (.sl 2 0))),[],[(.lst 1 true 23 A c ((E.on m).words.map uM))],[]⟩)->∀(X:bP)(w:World),Sat (U:=Un) [(.ob 1 r E),(.ob 0 b m)] X w->aG (U:=Un) [(.ob 1 r E),(.ob 0 b m)] fr0 [(.l 0 1,.p (.obj 1 0 0))]->Calls prog 45 #[(.pointer (pvA (r 0)))] w (aR (U:=Un) [(.ob 1 r E),(.ob 0 b m)] [] X w Q);intro r E b m Q d X w hs h;obtain⟨i,d⟩:=d;obtain⟨a,L,p,s,j,v,x⟩:=yM hs h i;refine(OU j).mono ?_;rintro e y ⟨u,rfl,g,n,rfl,f,z,q⟩;have l:=f.len;subst l;exact aR.more hs q (N3 (U:=Un) (t:=1) f) (λk o=>by have:=o.1;omega) (d _ _) rfl
def DN:Ctr Un:=⟨[],[],[],[],λK=>∀(a:Nat->Nat),K ⟨(.pointer (pvA (a 0))),(some (.p (.obj 0 0 0))),[],[(.ob 4 a Dg.new)],[]⟩⟩
theorem Pc:LV Un prog 91 DN:=by
 show ∀Q:Ou Un->Prop,(∀(a:Nat->Nat),Q ⟨(.pointer (pvA (a 0))),(some (.p (.obj 0 0 0))),[],[(.ob 4 a Dg.new)],[]⟩)->∀(X:bP)(w:World),Sat (U:=Un) [] X w->aG (U:=Un) [] fr0 []->Calls prog 91 #[] w (aR (U:=Un) [] [] X w Q);intro Q c X w hs i;refine PI.mono ?_;rintro e b ⟨u,rfl,g,L,rfl,d,f,q⟩;exact aR.IU (Z:=L.X g) hs q (show RS (U:=Un) (L.X g) b (.ob 4 (λ_=>g) Dg.new)from(⟨L,λ_=>Iff.rfl,d⟩:bO 4 (λ_=>g) Dg.new (L.X g) b)) f (c (λ_=>g)) rfl (λ_ _ h=>by cases h)
def DQ:Ctr Un:=⟨[.one (.obj 0 0),.one (.sl 1)],[(2,5)],[.ob 4 [],.lst 1 false 23,.ob 5 []],[0],λr d A c l a kk K=>d.Ok/\l.length<=1099511627776/\K ⟨(.tuple #[]),(some (.t [])),[.ob 4 (d.add kk l)],[],[]⟩⟩
theorem Kz:LV Un prog 112 DQ:=by
 show ∀(r:Nat->Nat)(d:Dg)(A:oA)(c:Nat)(l:List U32)(a:Nat->Nat)(kk:List Int),∀Q:Ou Un->Prop,(d.Ok/\l.length<=1099511627776/\Q ⟨(.tuple #[]),(some (.t [])),[.ob 4 (d.add kk l)],[],[]⟩)->∀(X:bP)(w:World),Sat (U:=Un) [(.ob 4 r d),(.lst 1 false 23 A c l),(.ob 5 a kk)] X w->aG (U:=Un) [(.ob 4 r d),(.lst 1 false 23 A c l),(.ob 5 a kk)] fr0 []->Calls prog 112 #[(.pointer (pvA (r 0))),(.slice A l.length c)] w (aR (U:=Un) [(.ob 4 r d),(.lst 1 false 23 A c l),(.ob 5 a kk)] [0] X w Q);intro r d A c l a kk Q b X w hs B;obtain⟨o,hlen,b⟩:=b;obtain⟨L,f,p⟩:=(hs.res 0 _ rfl:bO 4 r d (X 0) w);have s:Rd w (X 1) A l.length c l:=hs.res 1 _ rfl;obtain⟨t,v⟩:=(hs.res 2 _ rfl:bO 5 a kk (X 2) w);have j:X 0 (r 0):=(f _).1 (.inl rfl);refine(Lf p s v o hlen (λh=>hs.dis 0 1 (by simp) (by simp) (by omega) _ j h) (λh=>hs.dis 0 2 (by simp) (by simp) (by omega) _ j ((t _).1 h))).mono ?_;rintro e x ⟨u,rfl,g,rfl,y,z,q⟩;exact aR.first (Z:=g.X (r 0)) hs (q.mono λk i=>(f k).1 i) (show bO 4 r (d.add kk l) (g.X (r 0)) x from⟨g,λ_=>Iff.rfl,y⟩) (λk i=>(z k i).imp (λh=>(f k).1 h) id) b (KnO.tup _ (by simp))
def qE:Ctr Un:=⟨[.one (.obj 0 0)],[],[.ob 4 []],[],λr d K=>d.Ok/\K ⟨(.agg ⟨Dg.sv d⟩),none,[],[],[]⟩⟩
theorem zq:LV Un prog 92 qE:=by
 show ∀(r:Nat->Nat)(d:Dg),∀Q:Ou Un->Prop,(d.Ok/\Q ⟨(.agg ⟨Dg.sv d⟩),none,[],[],[]⟩)->∀(X:bP)(w:World),Sat (U:=Un) [(.ob 4 r d)] X w->aG (U:=Un) [(.ob 4 r d)] fr0 []->Calls prog 92 #[(.pointer (pvA (r 0)))] w (aR (U:=Un) [(.ob 4 r d)] [] X w Q);intro r d Q a X w hs f;obtain⟨b,a⟩:=a;obtain⟨L,g,c⟩:=(hs.res 0 _ rfl:bO 4 r d (X 0) w);refine(PH c b).mono ?_;rintro e h ⟨u,rfl,rfl,q⟩;rw[Im (by rw[Dg.kM b])];exact aR.pu hs q a trivial
end
theorem mJ {f:Nat->Int}{cs:Array Value}(hs:cs.size=1024)(h:∀o,o<1024->cs[o]? =some (O (f o))):cs=bW ((List.range 1024).map f):=by
 apply Array.ext_getElem?;intro i;by_cases hi:i<1024
 ·rw[h i hi,jR (by simpa using hi),List.getD_eq_getElem?_getD,List.getElem?_map,List.getElem?_range hi];rfl
 ·rw[Array.getElem?_eq_none (by omega),Array.getElem?_eq_none (by simp;omega)]
theorem Bg:∀(l l':List Int),l.length=l'.length->eqL (l.map (Value.int .u32)) (l'.map (Value.int .u32))=decide (l=l')
 | [],[],_=>by simp[eqL]
 | a::l,b::l',c=>by
  have d:=Bg l l' (by simpa using c);rw[List.map_cons,List.map_cons,eqL,d];by_cases h:a=b
  ·subst h;simp[kG]
  ·simp[kG,h]
theorem AX:∀(l:List Int),de (uA [.int .u32] l.length) (l.map (Value.int .u32))=true
 | []=>rfl
 | a::l=>by
  have b:=AX l;simpa[uA,de,kEq]using b
structure vO(w:World)(a n:Nat)(pg:Nat->Nat)(f:Nat->Nat->Int):Prop where
 row:∃T cs,Blk w a cs T/\∀i,i<n->cs[i]? =some (ptr (pg i))
 pgs:∀i,i<n->jr w (pg i) (f i)
theorem vO.pu {w b:World}{a n:Nat}{pg:Nat->Nat}{f:Nat->Nat->Int}(h:vO w a n pg f)(q:Pu w b):vO b a n pg f:=by
 obtain⟨⟨T,cs,c,d⟩,e⟩:=h;exact⟨⟨T,cs,q.blk c,d⟩,λi hi=>(e i hi).pu q⟩
theorem cJ.xv {w:World}{L:fO}{m:Mem}(h:cJ w L m)(s:Bool):vO w (L.row s) (m.cnt s) (L.pg s) (m.pg s):=⟨h.rows s,h.pgs s⟩
theorem M7 {w:World}{a n:Nat}{pg:Nat->Nat}{f:Nat->Nat->Int}(h:vO w a n pg f)(W:n<=64):
 Calls prog 75 #[.slice (pvA a) n n] w λe b=>∃v,e=.returned v/\∃g p,v=.slice (pvA g) n n/\kC b g n n p f w.heap.size/\Pu w b:=by
 refine B8 _ _ _ ?_;refine j7 Ik (by omega) (by omega) (by omega) λg w1 d=>?_;rw[Int.toNat_natCast]at d ⊢;refine⟨λk x b=>∃i:Nat,x=(i:Int)/\i<=n/\k=n - i/\(∃p,kC b g n i p f w.heap.size)/\Pu w b,⟨n,0,rfl,by omega,by omega,⟨λ_=>0,⟨_,_,d.blk,by simp,by simp⟩,by simp,by simp,by simp,by rw[d.num];exact Nat.le_refl _,by simp⟩,d.pu⟩,?_⟩;rintro k _ x w2 ⟨i,rfl,hi,rfl,⟨p,t⟩,l⟩;refine ao (λhb=>?_) (λhb=>?_)
 ·have r:i<n:=by simpa using hb
  have z:=h.pu l;obtain⟨Y,Z,F,G⟩:=z.row;obtain⟨T1,A,H,c,B⟩:=z.pgs i r;refine⟨⟨by omega,by omega⟩,au _ rfl ⟨some (vA (pg i)),by rw[Nat.mul_one,Int.toNat_natCast];exact F.at (G i r),au _ rfl ⟨A,⟨c,λj u I=>H.at I⟩,?_⟩⟩⟩;intro q w3 hq J;have y:=made hq J;have K:∀v∈A.toList,one? v True:=by rw[mJ c B];exact pT
  refine⟨c,K,di y.blk (by simpa using c) λs C=>?_⟩;have M:jr s q (f i):=⟨_,_,C.blk,by simpa using c,λo O=>by simpa using B o O⟩;have D:w2.heap.size<=q:=by rw[y.num];exact Nat.le_refl _
  have E:Pu w2 s:=(Ch.stored (X:=λ_=>False) (y.pu) C (.inr D));obtain⟨T,cs,Q,R,S⟩:=t.more (w2:=s) E M D r l.size;refine⟨⟨by omega,by omega⟩,au _ rfl ?_⟩;rw[Nat.mul_one,Int.toNat_natCast];refine bB Q R λw5 hs=>⟨n - (i+1),by omega,i+1,?_,r,rfl,⟨_,S _ hs⟩,?_⟩
  ·rw[ay (by omega)];omega
  ·have V:w.heap.size<=g:=t.low.1;exact((l.trans E).mono (by simp):Ch (λ_=>False) w s).stored hs (.inr V)
 ·have:i=n:=by simp at hb;omega
  subst this;exact⟨g,p,rfl,t,l⟩
theorem I4 {w:World}{L:fO}{m:Mem}(h:cJ w L m):
 Calls prog 35 #[ptr L.g] w λe A=>∃v,e=.returned v/\∃u:fO,v=ptr u.g/\cJ A u m/\(∀k,u.X k->w.heap.size<=k)/\Pu w A:=by
 refine zF _ ?_;obtain⟨T,hd⟩:=h.hd;have p:Pu w w.drew:=Pu.aU w;have hd1:=p.blk hd;refine⟨λ_ k=>k=L.g,au _ rfl ⟨by rw[block_add],_,_,_,hd1.at rfl,au _ rfl ⟨by rw[block_add],_,_,_,hd1.at rfl,au _ rfl ⟨by rw[block_add],_,hd1.at rfl,?_⟩⟩⟩⟩;refine(M7 ((h.xv true).pu p) h.ir.1).mono ?_;rintro e w1 ⟨_,rfl,a,B,rfl,f,r⟩;have G:L.g<w.drew.heap.size:=hd1.lt;refine⟨_,_,_,rfl,r.ij (λk c=>by have:k=L.g:=(by simpa[bY]using c);rw[this];exact G),λ_ k=>k=L.g,λ_ k c=>c,?_⟩;refine(M7 (((h.xv false).pu p).pu r) h.ir.2).mono ?_;rintro e w2 ⟨_,rfl,b,C,rfl,d,t⟩;have M:=t.size;have O:=r.size;have Q:=p.size;refine⟨_,_,_,rfl,t.ij (λk c=>by have:k=L.g:=(by simpa[bY]using c);rw[this];omega),λ_ k=>k=L.g,λ_ k c=>c,?_⟩;intro g R H I;have o:=made H I;refine⟨o.kept.mono (λk c=>by have:k=L.g:=(by simpa[bY]using c);rw[this];omega),λ_ k=>k=L.g,λ_ k c=>c,?_⟩;have D:=(f.pu t).pu o.pu;have E:=d.pu o.pu;have x:∀j,j<m.S->B j<w1.heap.size:=λj y=>(f.pgs j y).lt;have S:a<w1.heap.size:=by obtain⟨T,cs,l,_⟩:=f.row;exact l.lt
 have J:∀j,j<m.I->C j<w2.heap.size:=λj y=>(d.pgs j y).lt;have V:b<w2.heap.size:=by obtain⟨T,cs,l,_⟩:=d.row;exact l.lt
 have W:=o.num;refine⟨⟨g,a,b,λs=>match s with|true=>B|false=>C,λs=>m.cnt s⟩,rfl,⟨λs=>rfl,⟨(105,T.2),o.blk⟩,λs=>?_,λs i hi=>?_,λs i s' F hi q e=>?_,⟨by show a≠g;omega,by show b≠g;omega,λs i hi=>?_⟩,h.u32,h.ir⟩,?_,((p.trans r).trans t).trans o.pu⟩
 ·cases s
  ·obtain⟨T,cs,l,_,z⟩:=E.row;exact⟨T,cs,l,z⟩
  ·obtain⟨T,cs,l,_,z⟩:=D.row;exact⟨T,cs,l,z⟩
 ·cases s
  ·exact E.pgs i hi
  ·exact D.pgs i hi
 ·cases s<;>cases s'<;>simp only[Mem.cnt]at hi q<;>simp only at e
  ·exact⟨rfl,d.inj _ _ hi q e⟩
  ·have:=d.low.2 i hi;have:=x F q;omega
  ·have:=d.low.2 F q;have:=x i hi;omega
  ·exact⟨rfl,f.inj _ _ hi q e⟩
 ·cases s<;>simp only[Mem.cnt]at hi<;>simp only
  ·have:=d.low.2 i hi;have:=J i hi;have:=d.dis i hi;refine⟨?_,?_,this⟩<;>omega
  ·have:=f.low.2 i hi;have:=x i hi;have K:=f.dis i hi;have:=d.low.1;refine⟨?_,K,?_⟩<;>omega
 ·rintro k (rfl|rfl|rfl|⟨s,i,hi,rfl⟩)
  ·omega
  ·have:=f.low.1;omega
  ·have:=d.low.1;omega
  ·cases s<;>simp only[Mem.cnt]at hi<;>simp only
   ·have:=d.low.2 i hi;omega
   ·have:=f.low.2 i hi;omega
def nc(n n':Nat)(f g:Nat->Nat->Int):Bool:=decide (n=n') && (List.range n).all λi=>(List.range 1024).all λo=>f i o==g i o
theorem lQ {n n':Nat}{f g:Nat->Nat->Int}:nc n n' f g=true↔n=n'/\∀i,i<n->∀o,o<1024->f i o=g i o:=by simp[nc]
theorem BF {n n':Nat}{f g:Nat->Nat->Int}(h:¬(n=n'/\∀i,i<n->∀o,o<1024->f i o=g i o)):nc n n' f g=false:=by
 rw[<-Bool.not_eq_true,lQ];exact h
theorem I5 {w:World}{a b n n':Nat}{r s:Nat->Nat}{f g:Nat->Nat->Int}(E:vO w a n r f)(F:vO w b n' s g)(V:n<=64):
 Calls prog 87 #[.slice (pvA a) n n,.slice (pvA b) n' n'] w λe p=>∃v,e=.returned v/\v=.bool (nc n n' f g)/\Pu w p:=by
 refine zG _ _ _ _ _ _ ?_;refine ax (λc=>?_) (λc=>?_)
 ·exact⟨by rw[BF (by rintro⟨e,_⟩;exact c (by rw[e]))],Ch.refl _ _⟩
 obtain rfl:n=n':=by omega
 refine⟨λk x p=>∃i:Nat,x=(i:Int)/\i<=n/\k=n - i/\(∀j,j<i->∀o,o<1024->f j o=g j o)/\Pu w p,⟨n,0,rfl,by omega,by omega,by simp,Ch.refl _ _⟩,?_⟩;rintro k _ x w2 ⟨i,rfl,hi,rfl,t,y⟩;refine ao (λhb=>?_) (λhb=>?_)
 ·have d:i<n:=by simpa using hb
  have hq:=y.drew;have z:=E.pu hq;have A:=F.pu hq;obtain⟨W,Y,G,H⟩:=z.row;obtain⟨T1,I,J,B,K⟩:=z.pgs i d;obtain⟨T2,Z,M,O⟩:=A.row;obtain⟨T3,Q,R,C,S⟩:=A.pgs i d;refine⟨⟨by omega,by omega⟩,au _ rfl ⟨some (vA (r i)),by rw[Nat.mul_one,Int.toNat_natCast];exact G.at (H i d),au _ rfl ⟨I,⟨B,λj u h=>J.at h⟩,⟨by omega,by omega⟩,au _ rfl ⟨some (vA (s i)),by rw[Nat.mul_one,Int.toNat_natCast];exact M.at (O i d),au _ rfl ⟨Q,⟨C,λj u h=>R.at h⟩,?_⟩⟩⟩⟩⟩;rw[mJ B K,mJ C S];have D:∀l:List Int,l.length=1024->de (uA [.int .u32] 1024) (bW l).toList=true:=λl T=>by rw[<-T];simpa[bW]using AX l
  refine⟨D _ (by simp),D _ (by simp),?_⟩;have he:bG (bW ((List.range 1024).map (f i))) (bW ((List.range 1024).map (g i)))=true↔∀o,o<1024->f i o=g i o:=by
   unfold bG bW;rw[show((List.range 1024).map (f i)).map (Value.int .u32)=(((List.range 1024).map (f i)).map (Value.int .u32))from rfl,List.toList_toArray,List.toList_toArray,Bg _ _ (by simp),decide_eq_true_eq];constructor
   ·intro e o q;have:=congrArg (λl=>l[o]?) e;simpa[List.getElem?_map,List.getElem?_range q]using this
   ·exact λe=>List.map_congr_left λo q=>e o (by simpa using q)
  refine dj (λc=>?_) (λc=>?_)
  ·have c:¬∀o,o<1024->f i o=g i o:=λe=>by rw[he.2 e]at c;cases c
   exact⟨by rw[BF (by rintro⟨_,e⟩;exact c (e i d))],hq⟩
  ·exact⟨n - (i+1),by omega,i+1,by rw[ay (by omega)];omega,d,rfl,λj h=>by
    by_cases e:j=i
    ·rw[e];exact he.1 c
    ·exact t j (by omega),hq⟩
 ·have:i=n:=by simp at hb;omega
  subst this;exact⟨by rw[lQ.2 ⟨rfl,t⟩],y⟩
def Mem.same(m o:Mem):Bool:=nc m.S o.S (m.pg true) (o.pg true) && nc m.I o.I (m.pg false) (o.pg false)
theorem P1 {w:World}{L f:fO}{m o:Mem}(h:cJ w L m)(i:cJ w f o):
 Calls prog 46 #[ptr L.g,ptr f.g] w λe g=>∃v,e=.returned v/\v=.bool (m.same o)/\Pu w g:=by
 refine B0 _ _ ?_;refine⟨λx g=>x=m.same o/\Pu w g,?_,λ_ x g ⟨p,q⟩=>⟨by rw[p],q⟩⟩;obtain⟨T,hd⟩:=h.hd;obtain⟨t,r⟩:=i.hd;have a:Pu w w.drew:=Pu.aU w;have d1:=a.blk hd;have d2:=a.blk r;refine⟨λ_ k=>k=L.g\/k=f.g,au _ rfl ⟨by rw[block_add];exact .inl rfl,_,_,_,d1.at rfl,au _ rfl ⟨by rw[block_add];exact .inr rfl,_,_,_,d2.at rfl,?_⟩⟩⟩;refine(I5 ((h.xv true).pu a) ((i.xv true).pu a) h.ir.1).mono ?_;rintro e w1 ⟨_,rfl,rfl,b⟩;have j:∀k,k=L.g\/k=f.g->k<w.drew.heap.size:=by rintro k (rfl|rfl);exact d1.lt;exact d2.lt
 refine⟨_,rfl,b.ij (λk d=>j k (by simpa[bY]using d)),λ_ k=>k=L.g\/k=f.g,λ_ k d=>d,?_⟩;refine ao (λc=>?_) (λc=>?_)
 ·have e1:=b.blk d1;have s:=b.blk d2;have u:=b.size;refine au _ rfl ⟨by rw[block_add];exact .inl rfl,_,_,_,e1.at rfl,au _ rfl ⟨by rw[block_add];exact .inr rfl,_,_,_,s.at rfl,?_⟩⟩;refine(I5 (((h.xv false).pu a).pu b) (((i.xv false).pu a).pu b) h.ir.2).mono ?_;rintro e w2 ⟨_,rfl,rfl,l⟩;refine⟨_,rfl,l.ij (λk d=>by have:=j k (by simpa[bY]using d);omega),λ_ k=>k=L.g\/k=f.g,λ_ k d=>d,?_,(a.trans b).trans l⟩;have c':nc m.S o.S (m.pg true) (o.pg true)=true:=c;rw[Mem.same,c',Bool.true_and];rfl
 ·have c':nc m.S o.S (m.pg true) (o.pg true)=false:=c;exact⟨by rw[Mem.same,c',Bool.false_and],a.trans b⟩
section
namespace Mem
def rd(m:Mem)(s:Bool)(p o:Int):Mem:=if m.has s p && eA o then m.tick 1 else m
def Bm(m:Mem)(s:Bool)(p:Int)(s':Bool)(a:Int):Int:=if m.has s p && m.has s' a then 0 else 5
def copy(m:Mem)(s:Bool)(p:Int)(s':Bool)(a:Int):Mem:=if m.has s p && m.has s' a then(m.tick 2048).fill s p.toNat (m.pg s' a.toNat)else m
def words(m:Mem)(s:Bool)(p:Nat):List U32:=(List.range 1024).map λo=>uM (m.pg s p o)
end Mem
section
variable {w:World}{L:fO}{m:Mem}
theorem M5(h:cJ w L m)(s:Bool)(p o:Int):
 Calls prog 39 #[ptr L.g,fr s p,.int .i64 o] w λe c=>∃v,e=.returned v/\v=.tuple #[.int .u32 (m.aI s p o),.int .i64 (m.err s p o)]/\cJ c L (m.rd s p o)/\Ch L.X w c:=by
 refine B3 _ s p o ?_;intro q w1 f hw;have b:=made f hw;refine⟨_,_,⟨b.blk.at rfl,b.blk.at rfl⟩,(M4 (h.pu b.pu) s p o).mono ?_⟩;rintro e w2 ⟨_,rfl,⟨a,rfl,d,g⟩|⟨a,rfl,he,hp⟩⟩
 ·refine⟨_,_,rfl,ao (λhb=>by simp at hb) (λ_=>?_)⟩;have i:Ch L.X w w2:=((Ch.refl _ w).made b).trans g;have j:=a;simp only[Bool.and_eq_true]at a;have hi:=Mem.fy a.1;have r:=Mem.kQ a.2;obtain⟨T,cs,k,t,l⟩:=d.pgs s p.toNat (by simpa using hi);refine au _ rfl ⟨_,k.cell (l _ (by omega)),?_,?_,i⟩
  ·simp[Mem.aI,Mem.err,a.1,a.2,Mem.tick]
  ·simpa[Mem.rd,j]using d
 ·refine⟨_,_,rfl,ao (λ_=>⟨?_,?_,(b.pu.trans hp).mono (by simp)⟩) (λhb=>absurd (by simpa using hb) he)⟩
  ·simp[Mem.aI,a]
  ·simpa[Mem.rd,a]using (h.pu b.pu).pu hp
theorem P4(h:cJ w L m)(s:Bool)(p:Int)(s':Bool)(a:Int):
 Calls prog 69 #[ptr L.g,fr s p,fr s' a] w λe l=>∃v,e=.returned v/\v=.int .i64 (m.Bm s p s' a)/\cJ l L (m.copy s p s' a)/\Ch L.X w l:=by
 refine B9 _ s p s' a ?_;intro D w1 E hw F w2 G H;have q:=made E hw;have c:=made G H;have t:Pu w w2.drew:=(q.pu.trans c.pu).drew;have l1:D<w2.drew.heap.size:=by have:=q.lt;have:=c.pu.size;exact Nat.lt_of_lt_of_le ‹_› ‹_›
 have l2:F<w2.drew.heap.size:=c.lt;refine⟨λ_ k=>k<w2.drew.heap.size,l1,_,_,⟨(c.old q.blk).drew.at rfl,(c.old q.blk).drew.at rfl⟩,l2,_,_,⟨c.blk.drew.at rfl,c.blk.drew.at rfl⟩,(mAt (h.pu t) s p).mono ?_⟩;rintro e S ⟨_,rfl,rfl,hp⟩;refine⟨_,rfl,hp.ij (λk I=>by simpa[bY]using I),λ_ k=>k<w2.drew.heap.size,λ_ _ h=>h,(mAt ((h.pu t).pu hp) s' a).mono ?_⟩;rintro e z ⟨_,rfl,rfl,J⟩;have r:=(t.trans hp).trans J;refine⟨_,rfl,λ_ k=>k<w2.drew.heap.size,λ_ _ h=>h,λb l=>z=l/\b= !(m.has s p && m.has s' a),?_,?_⟩
 ·refine ao (λhb=>⟨rfl,?_⟩) (λhb=>⟨rfl,?_⟩)
  ·cases hq:m.has s p<;>simp[hq]at hb ⊢
  ·cases hq:m.has s p
   ·simp[hq]at hb
   ·cases V:m.has s' a<;>simp
 rintro _ x _ ⟨rfl,rfl⟩;refine ao (λhb=>?_) (λhb=>?_)
 ·have d:(m.has s p && m.has s' a)=false:=by simpa only[Bool.not_eq_true']using hb
  refine⟨by simp[Mem.Bm,d],by simpa[Mem.copy,d]using h.pu r,r.mono (by simp)⟩
 ·have d:(m.has s p && m.has s' a)=true:=by simpa only[Bool.not_eq_false']using hb
  have g:=d;simp only[Bool.and_eq_true]at g;have hi:=Mem.fy g.1;have K:=Mem.fy g.2;have A:=h.pu r;obtain⟨T,hd⟩:=A.hd;refine OE hd rfl (au _ rfl (bB hd (by simp) λW hs=>?_));have y:=A.IV hs;obtain⟨Y,cs,M,j,B⟩:=y.pgs s' a.toNat K;obtain⟨T2,Z,O,Q,aa⟩:=y.pgs s p.toNat hi;rw[if_pos g.1,if_pos g.2];refine au _ rfl ⟨cs,⟨j,λi u hu=>M.at hu⟩,au _ rfl ⟨j,?_,di O (by simp[j,Q]) λw6 C=>⟨?_,?_,?_⟩⟩⟩
  ·rw[mJ j B];exact pT
  ·simp[Mem.Bm,d]
  ·have:=y.aH (f:=m.pg s' a.toNat) hi C (by simpa using j) (λo R=>by simpa using B o R) (λo=>h.u32 _ _ _);simp only[Mem.copy,d,if_true];exact this
  ·exact((r.mono (by simp):Ch L.X w z).stored hs (.inl (.inl rfl))).stored C (.inl (h.inX hi))
theorem P3(h:cJ w L m)(s:Bool)(p:Int):
 Calls prog 71 #[ptr L.g,fr s p] w λe a=>∃v,e=.returned v/\
  (m.has s p=true/\cJ a L (m.tick 1024)/\Ch L.X w a/\(∃g,v=.tuple #[.slice (pvA g) 1024 1024,.int .i64 0]/\w.heap.size<=g/\g<a.heap.size/\Own a (λk=>k=g) 23 (pvA g) 1024 1024 (m.words s p.toNat))\/
   m.has s p=false/\v=.tuple #[.slice none 0 0,.int .i64 5]/\Pu w a):=by
 refine B5 _ s p ?_;intro W w1 f hw;have b:=made f hw;refine⟨_,_,⟨b.blk.at rfl,b.blk.at rfl⟩,(I3 (h.pu b.pu) s p 1).mono ?_⟩;rintro e w2 ⟨_,rfl,⟨d,rfl,j,D⟩|⟨d,rfl,hp⟩⟩
 ·refine⟨_,_,rfl,ao (λhb=>by simp at hb) (λ_=>?_)⟩;have o:Ch L.X w w2:=((Ch.refl _ w).made b).trans D;have hi:=Mem.fy d;refine j7 mw (by omega) (by omega) (by omega) λg i c=>?_;have q:=j.pu c.pu;obtain⟨T,cs,E,F,G⟩:=q.pgs s p.toNat (by simpa using hi);have H:cs=bW ((List.range 1024).map ((m.tick 1024).pg s p.toNat)):=mJ F G;subst H;refine au _ rfl ?_;rintro A rfl N rfl C rfl;have f:(1024:Int).toNat=1024:=rfl;rw[f]at c ⊢;have I:Blk i g (bW (List.replicate 1024 0)) 23:=by rw[iT];exact c.blk
  have J:(List.replicate 1024 (0:Int)).length=1024:=List.length_replicate;have r:((List.range 1024).map ((m.tick 1024).pg s p.toNat)).length=1024:=by rw[List.length_map,List.length_range]
  have hw:(((List.range 1024).map ((m.tick 1024).pg s p.toNat)).map uM)=m.words s p.toNat:=by rw[List.map_map];rfl
  generalize (List.range 1024).map ((m.tick 1024).pg s p.toNat)=l at *;generalize List.replicate 1024 (0:Int)=z at *;have t:dz i (λ_=>True) .u32 (some (Addr.mk (L.pg s p.toNat) 0 none)) 1024 1024 ((l.drop 0).take 1024):=dz.row E trivial (Nat.le_refl _) (by omega);have e1:(l.drop 0).take 1024=l:=by rw[List.drop_zero,List.take_of_length_le (by omega)]
  rw[e1]at t;have K:(if 1024=0 then Addr.mk (L.pg s p.toNat) 0 none else(Addr.mk (L.pg s p.toNat) 0 none).add (0*1))=Addr.mk (L.pg s p.toNat) 0 none:=rfl;rw[K];refine xM mw I rfl t (by omega) λu hs=>?_;have M:ko z 0 (l.take (min (1024 - 0) 1024))=l:=by
   rw[show min (1024 - 0) 1024=1024 from rfl,List.take_of_length_le (by omega),uk _ _ (by rw[r,J])]
  rw[M]at hs;have O:w2.heap.size<=g:=by rw[c.num];exact Nat.le_refl _
  have Q:Ch L.X w i:=o.made c;have x:w.heap.size<=g:=Nat.le_trans o.size O;have R:∀k,L.X k->k≠g:=λk S=>by have:=j.lt k S;omega
  have V:cJ u L (m.tick 1024):=q.kept (B:=λk=>k≠g) hs.kept R;have y:=Own.ofRow (w:=u) (e:=23) hs.blk r (by decide);rw[hw]at y;refine Or.inl ?_;exact⟨d,V,Q.stored hs (.inr x),g,rfl,x,hs.blk.lt,y⟩
 ·refine⟨_,_,rfl,ao (λ_=>?_) (λhb=>by simp at hb)⟩;exact Or.inr ⟨d,rfl,b.pu.trans hp⟩
end
end
def Ix(w:Int):Bool:=decide (w % 256=1/\w / 256<64)
def dX(w:Int):Int:=if Ix w then w / 256 else 0
def kP(w:Int):Int:=if w=0 then 92 else if Ix w then 0 else 90
def dP(p:Int):Int:=if 0<=p/\p<64 then 256*p+1 else 0
def fH(p:Int):Int:=if 0<=p/\p<64 then 0 else 4
structure Mp where
 cD:Bool
 aH:Int
 write:Bool
 exec:Bool
deriving DecidableEq
def Mp.bits(m:Mp):Int:=(if m.cD then 2 else 0)+(if m.write then 4 else 0)+(if m.exec then 8 else 0)
def Mp.err(m:Mp):Int:=if 0<=m.aH/\m.aH<64 then(if m.exec && !m.cD then 1 else 0)else 4
def Mp.word(m:Mp):Int:=if m.err=0 then 256*m.aH+1+m.bits else 0
abbrev Mp.nil:Mp:=⟨false,0,false,false⟩
def Mp.Fk(w:Int):Mp:=⟨decide (w / 2 % 2=1),w / 256,decide (w / 4 % 2=1),decide (w / 8 % 2=1)⟩
def At(w:Int):Bool:=decide ((Mp.Fk w).err=0/\(Mp.Fk w).word=w)
def dm(w:Int):Mp:=if w≠0/\At w then Mp.Fk w else Mp.nil
def iV(w:Int):Int:=if w=0 then 92 else if At w then 0 else 90
theorem IE {p:Int}(h:0<=p/\p<64):u32.wrap (BitVec.ofInt u32.bits (u32.wrap ((u32.wrap p:Int)*2 ^ 8)) ||| BitVec.ofInt u32.bits 1).toNat=256*p+1:=by
 rw[dV (x:=p) (by omega),dV (x:=p*2 ^ 8) (by omega),oR (by omega) (by omega),show p*2 ^ 8=2 ^ 8*p by omega,iN 8 (by omega) (by omega) (by omega)];omega
theorem CW(k:Nat)(b:Int)(hb:b=2 ^ k)(d:k<=3){p a:Int}(h:0<=p/\p<64)(c:0<=a/\a<b):u32.wrap (BitVec.ofInt u32.bits (256*p+a) ||| BitVec.ofInt u32.bits b).toNat=256*p+(a+b):=by
 subst hb;have g:(2:Int) ^ k<=2 ^ 3:=by exact_mod_cast Nat.pow_le_pow_right (n:=2) (by omega) d
 have i:(0:Int)<2 ^ k:=Int.pow_pos (by omega);have assoc:∀x y z:Int,nor (nor x y) z=nor x (nor y z):=by
  intro x y z;unfold nor;simp[Nat.or_assoc]
 have e1:nor (2 ^ k*1) a=2 ^ k*1+a:=iN k (by omega) c.1 c.2;have e:nor (2 ^ 8*p) a=2 ^ 8*p+a:=iN 8 h.1 c.1 (by omega);have f:nor (2 ^ 8*p) (2 ^ k+a)=2 ^ 8*p+(2 ^ k+a):=iN 8 h.1 (by omega) (by omega);rw[Int.mul_one]at e1;rw[oR (by omega) (by omega),show 256*p+a=2 ^ 8*p+a by omega,<-e,assoc,qc a,e1,f];omega
theorem fV(k:Nat)(b:Int)(hb:b=2 ^ k)(f:k<=30){x:Int}(a:0<=x/\x<4294967296):((u32.wrap (BitVec.ofInt u32.bits x &&& BitVec.ofInt u32.bits b).toNat:Int) !=0)=decide (x / b % 2=1):=by
 subst hb;rw[Bool.eq_iff_iff];simp only[bne_iff_ne,ne_eq,decide_eq_true_eq];show(¬u32.wrap (BitVec.ofInt u32.bits x &&& BitVec.ofInt u32.bits (2 ^ k)).toNat=0)↔x / 2 ^ k % 2=1;have l:(2:Int) ^ k<=2 ^ 30:=by exact_mod_cast Nat.pow_le_pow_right (n:=2) (by omega) f
 have o:(0:Int)<2 ^ k:=Int.pow_pos (by omega);rw[tE a (by omega)];unfold LA;obtain⟨x,rfl⟩:=Int.eq_ofNat_of_zero_le a.1;have e:((2:Int) ^ k).toNat=2 ^ k:=by rw[show(2:Int) ^ k=((2 ^ k:Nat):Int)by push_cast;rfl,Int.toNat_natCast]
 rw[e,Int.toNat_natCast];have g:x &&& 2 ^ k=if x.testBit k then 2 ^ k else 0:=by
  apply Nat.eq_of_testBit_eq;intro j;rw[Nat.testBit_and,Nat.testBit_two_pow];by_cases c:k=j
  ·subst c;cases hb:x.testBit k<;>simp
  ·cases hb:x.testBit k<;>simp[c,Nat.testBit_two_pow]
 have h:x.testBit k=decide (x / 2 ^ k % 2=1):=Nat.testBit_eq_decide_div_mod_eq;rw[g,h];have i:((x:Int) / 2 ^ k % 2=1)↔(x / 2 ^ k % 2=1):=by
  rw[show(x:Int) / 2 ^ k % 2=((x / 2 ^ k % 2:Nat):Int)by push_cast;rfl];omega
 rw[i];have p:0<2 ^ k:=Nat.two_pow_pos k;by_cases d:x / 2 ^ k % 2=1
 ·simp[d];omega
 ·simp[d]
namespace File
def flags(f:Fl):Int:=if f.z then 1 else(if f.n then 2 else 0)+(if f.l then 4 else 0)
def jm(w:Int):Bool:=decide (w=0\/w=1\/w=2\/w=4\/w=6)
def iP(w:Int):Int:=if jm w then 0 else 80
def fU(f:Fl)(w:Int):Fl:=if jm w then {f with z:=decide (w=1),n:=decide (w=2\/w=6),l:=decide (w=4\/w=6)}else Fl.zero
def kI(l:List U32):Int:=if l.length=17 then iP (l.getD 16 ⟨0⟩).v else 80
def bare(l:List U32):Fl:=⟨l.take 15,(l.getD 15 ⟨0⟩).v,false,false,false⟩
def unpack(l:List U32):Fl:=if l.length=17 then fU (bare l) (l.getD 16 ⟨0⟩).v else Fl.zero
theorem AT {f:Fl}{w:Int}(h:jm w=false):fU f w=Fl.zero:=by unfold fU;rw[h];rfl
theorem AW {w:Int}(h:jm w=false):iP w=80:=by unfold iP;rw[h];rfl
theorem Di {f:Fl}{w:Int}(h:jm w=true):fU f w= {f with z:=decide (w=1),n:=decide (w=2\/w=6),l:=decide (w=4\/w=6)}:=by unfold fU;rw[h];rfl
theorem Dj {w:Int}(h:jm w=true):iP w=0:=by unfold iP;rw[h];rfl
theorem mo {l:List U32}(h:l.length=17):unpack l=fU (bare l) (l.getD 16 ⟨0⟩).v/\kI l=iP (l.getD 16 ⟨0⟩).v:=⟨if_pos h,if_pos h⟩
theorem ua {l:List U32}(h:¬l.length=17):unpack l=Fl.zero/\kI l=80:=⟨if_neg h,if_neg h⟩
theorem oW {l:List U32}(hw:∀x∈l,0<=x.v/\x.v<4294967296)(i:Nat):0<=(l.getD i ⟨0⟩).v/\(l.getD i ⟨0⟩).v<4294967296:=by
 rw[List.getD_eq_getElem?_getD];cases h:l[i]? with
 |none=>simp
 |some x=>exact hw x (List.mem_of_getElem? h)
theorem AU {w:Int}(h:0<=w/\w<4294967296):(if decide (w / 1 % 2=1)then(1:Int)else(if decide (w / 2 % 2=1)then 2 else 0)+(if decide (w / 4 % 2=1)then 4 else 0))=w↔jm w=true:=by
 simp only[jm,decide_eq_true_eq];constructor
 ·intro a;split at a<;>(try split at a)<;>(try split at a)<;>omega
 ·intro a;rcases a with rfl|rfl|rfl|rfl|rfl<;>decide
theorem GH {w:Int}(h:jm w=true):decide (w / 1 % 2=1)=decide (w=1)/\decide (w / 2 % 2=1)=decide (w=2\/w=6)/\decide (w / 4 % 2=1)=decide (w=4\/w=6):=by
 simp only[jm,decide_eq_true_eq]at h;rcases h with rfl|rfl|rfl|rfl|rfl<;>decide
def part(l:List U32)(i:Int):Fl:=⟨l.take i.toNat++List.replicate (15 - i.toNat) (uM 0),0,false,false,false⟩
theorem bare_eq {l:List U32}(h:l.length=17):Fl.mk [uM (vG l 0),uM (vG l 1),uM (vG l 2),uM (vG l 3),uM (vG l 4),uM (vG l 5),uM (vG l 6),uM (vG l 7),uM (vG l 8),uM (vG l 9),uM (vG l 10),uM (vG l 11),uM (vG l 12),uM (vG l 13),uM (vG l 14)] (vG l (Int.toNat 15)) false false false=bare l:=by
 match l,h with
 | [_,_,_,_,_,_,_,_,_,_,_,_,_,_,_,_,_],_=>rfl
theorem u4 {l:List U32}(h:l.length=17)(w:Int):(fU (bare l) w).Ok:=by
 unfold fU;split
 ·show(l.take 15).length=15;rw[List.length_take];omega
 ·rfl
end File
def GW(f:Int->Bool)(lo hi:Int):Bool:=(List.range (hi - lo).toNat).all λi=>f (lo+(i:Int))
def OX(f:Int->Bool)(n:Int):Int:=(((List.range n.toNat).countP fun(i:Nat)=>f (i:Int):Nat):Int)
namespace DB
def word(D:DB)(p o:Int):Int:=D.mem.aI true p o
def zero(D:DB)(p lo hi:Int):Bool:=GW (λo=>D.word p o==0) lo hi
def is(D:DB)(p t:Int):Bool:=D.has p && (D.at_ p).typ==t
def of(D:DB)(p t o:Int):Bool:=D.is p t && (D.at_ p).owner==o
def alive(D:DB)(p:Int):Bool:=D.is (D.at_ p).owner 1 && (D.at_ (D.at_ p).owner).state !=3
def some_(D:DB)(p lo:Int)(n:Nat):List U32:=(List.range n).map fun(i:Nat)=>⟨D.word p (lo+(i:Int))⟩
def La(D:DB)(p:Int):Bool:=
 decide (D.word p 1<D.bn) && decide (D.word p 2<=4096) && GW (λq=>!((D.at_ q).typ==1 && D.word q 1==D.word p 1)) 0 p
def MO(D:DB)(p:Int):Bool:=Dg.aL (D.some_ p 11 26)==0 && D.zero p 3 11
def Nx(D:DB)(p:Int):Bool:=
 D.zero p 37 1024 && (if(D.at_ p).state=1 then D.MO p else if(D.at_ p).state=2 then D.zero p 11 37 else D.MO p || D.zero p 11 37)
def NA(D:DB)(p:Int):Bool:=(D.at_ p).state==3 || (OX (λq=>D.of q 3 p) D.S==1 && D.of (D.word p 0) 3 p)
def named(D:DB)(p n q:Int):Int:=OX (λi=>D.word p i !=0 && dX (D.word p i)==q) n
def Of(D:DB)(p i:Int):Bool:=D.word p i==0 || (kP (D.word p i)==0 && D.of (dX (D.word p i)) 4 (D.at_ p).owner)
def Nz(D:DB)(p:Int):Bool:=
 D.zero p 256 1024 && (GW (D.Of p) 0 256 && GW (λq=>!(decide (D.named p 256 q>1) || (D.of q 4 (D.at_ p).owner && D.named p 256 q==0))) 0 D.S)
def P0(D:DB)(p j:Int):Bool:=
 D.word p j==0 || (iV (D.word p j)==0 && (if(dm (D.word p j)).cD then D.of (dm (D.word p j)).aH 5 (D.at_ p).owner else decide ((dm (D.word p j)).aH<D.mem.I)))
def Py(D:DB)(p:Int):Bool:=GW (D.P0 p) 0 1024
def Q5(D:DB)(p q j:Int):Bool:=iV (D.word q j)==0 && ((dm (D.word q j)).cD && (dm (D.word q j)).aH==p)
def LD(D:DB)(p n:Int):Int:=((List.range n.toNat).map fun(q:Nat)=>if D.of (q:Int) 4 (D.at_ p).owner then OX (D.Q5 p (q:Int)) 1024 else 0).sum
def Px(D:DB)(p:Int):Bool:=D.LD p D.S==1
def K9(D:DB)(p:Int):Bool:=
 D.zero p 18 1024 && (if(D.at_ p).bq then File.kI (D.some_ p 1 17)==0 && !(D.is (D.at_ p).owner 1 && (D.at_ (D.at_ p).owner).state==1)else D.zero p 1 18)
def clause(D:DB)(c p:Int):Bool:=
 let t:=(D.at_ p).typ
 if c=1 then t !=1 || (D.at_ p).owner==p
 else if c=2 then t !=0 || D.zero p 0 1024
 else if c=3 then t==1 || (t==0 || D.is (D.at_ p).owner 1)
 else if c=4 then t !=1 || (D.at_ p).refs==((D.N0 p D.S).length:Int)
 else if c=5 then t !=1 || D.La p
 else if c=6 then t !=1 || D.Nx p
 else if c=7 then t !=1 || D.NA p
 else if c=8 then t !=3 || (!D.alive p || D.Nz p)
 else if c=9 then t !=4 || (!D.alive p || D.Py p)
 else if c=10 then t !=5 || (!D.alive p || D.Px p)
 else if c=11 then t !=2 || D.K9 p
 else t !=6 || D.zero p 0 1024
def Ow(D:DB)(c:Int):Bool:=GW (D.clause c) 0 D.S
def holds(D:DB)(c:Int):Bool:=decide (1<=c/\c<=12) && D.Ow c
end DB
theorem Mem.fR(m:Mem)(s:Bool)(p:Nat):(m.words s p).length=1024:=by rw[Mem.words,List.length_map,List.length_range]
theorem Mem.MZ(m:Mem)(s:Bool)(p o:Int):m.rd s p o=m:=by unfold Mem.rd;split<;>rfl
theorem Gx {w:World}{L:fO}{m:Mem}(h:cJ w L m):Calls prog 98 #[ptr L.g] w λe a=>∃v,e=.returned v/\v=.int .i64 m.I/\a=w:=by
 obtain⟨T,hd⟩:=h.hd;exact tp _ (LY hd rfl ⟨rfl,rfl⟩)
theorem z7 {E:Pd}{m:Mem}(h:m.Wf)(p o:Int):0<=(E.on m).word p o/\(E.on m).word p o<4294967296:=by
 show 0<=m.aI true p o/\m.aI true p o<_;unfold Mem.aI;split
 ·exact h.1 _ _ _
 ·omega
section
attribute [local irreducible] Vc2 VcD
def eP:Ctr Un:=⟨[.one (.obj 0 0),.agg [.bool,.int .i64],.one (.int .i64)],[],[.ob 0 []],[0],λa b off c m K=>K ⟨(.tuple #[O (m.aI a b off),J (m.err a b off)]),kn2,[.ob 0 m],[],[]⟩⟩
theorem fW:LV Un prog 39 eP:=by
 show ∀(b:Bool)(c off:Int)(a:Nat->Nat)(m:Mem),∀Q:Ou Un->Prop,(Q ⟨(.tuple #[O (m.aI b c off),J (m.err b c off)]),kn2,[.ob 0 m],[],[]⟩)->∀(X:bP)(w:World),Sat (U:=Un) [(.ob 0 a m)] X w->aG (U:=Un) [(.ob 0 a m)] fr0 []->Calls prog 39 #[(.pointer (pvA (a 0))),(.agg #[vB b,J c]),J off] w (aR (U:=Un) [(.ob 0 a m)] [0] X w Q);intro b c off a m Q i X w hs o;obtain⟨L,f,j,g⟩:=oo hs;rw[f];refine(M5 j b c off).mono ?_;rintro e l ⟨u,rfl,rfl,h,q⟩;rw[Mem.MZ]at h;exact aR.one (Z:=X 0) (q.mono λk d=>(g k).1 d) (show bO 0 a _ (X 0) l from⟨L,f,g,h⟩) (λk d=>.inl d) i (KnO.tup _ (by simp))
def sW:Ctr Un:=⟨[.one (.obj 0 0)],[],[.ob 0 []],[],λa m K=>K ⟨J (m.I:Int),none,[],[],[]⟩⟩
theorem B7:LV Un prog 98 sW:=by
 show ∀(a:Nat->Nat)(m:Mem),∀Q:Ou Un->Prop,(Q ⟨J (m.I:Int),none,[],[],[]⟩)->∀(X:bP)(w:World),Sat (U:=Un) [(.ob 0 a m)] X w->aG (U:=Un) [(.ob 0 a m)] fr0 []->Calls prog 98 #[(.pointer (pvA (a 0)))] w (aR (U:=Un) [(.ob 0 a m)] [] X w Q);intro a m Q b X w hs f;obtain⟨L,c,d,g⟩:=oo hs;rw[c];refine(Gx d).mono ?_;rintro e h ⟨u,rfl,rfl,q⟩;subst q;exact aR.pu hs (Ch.refl _ _) b trivial
def zE:Ctr Un:=⟨[.one (.obj 0 0),.agg [.bool,.int .i64],.agg [.bool,.int .i64]],[],[.ob 0 []],[0],λa b c fd d m K=>K ⟨J (m.Bm a b c fd),none,[.ob 0 (m.copy a b c fd)],[],[]⟩⟩
theorem MH:LV Un prog 69 zE:=by
 show ∀(b:Bool)(c:Int)(d:Bool)(fd:Int)(a:Nat->Nat)(m:Mem),∀Q:Ou Un->Prop,(Q ⟨J (m.Bm b c d fd),none,[.ob 0 (m.copy b c d fd)],[],[]⟩)->∀(X:bP)(w:World),Sat (U:=Un) [(.ob 0 a m)] X w->aG (U:=Un) [(.ob 0 a m)] fr0 []->Calls prog 69 #[(.pointer (pvA (a 0))),(.agg #[vB b,J c]),(.agg #[vB d,J fd])] w (aR (U:=Un) [(.ob 0 a m)] [0] X w Q);intro b c d fd a m Q i X w hs p;obtain⟨L,g,j,h⟩:=oo hs;rw[g];refine(P4 j b c d fd).mono ?_;rintro e l ⟨u,rfl,rfl,o,q⟩;exact aR.one (Z:=X 0) (q.mono λk f=>(h k).1 f) (show bO 0 a _ (X 0) l from⟨L,g,h,o⟩) (λk f=>.inl f) i trivial
def zC:Ctr Un:=⟨[.one (.obj 0 0),.agg [.bool,.int .i64]],[],[.ob 0 []],[0],λa b c m K=>split (m.has a b) (∀(A:oA),K ⟨(.tuple #[(.slice A ((m.words a b.toNat).length) 1024),J 0]),(some (.t [(some (.sl 1 0)),none])),[.ob 0 m],[(.lst 1 true 23 A 1024 (m.words a b.toNat))],[]⟩) (K ⟨(.tuple #[(.slice none 0 0),J 5]),kn2,[.ob 0 m],[],[]⟩)⟩
theorem MG:LV Un prog 71 zC:=by
 show ∀(b:Bool)(c:Int)(d:Nat->Nat)(m:Mem),∀Q:Ou Un->Prop,(split (m.has b c) (∀(A:oA),Q ⟨(.tuple #[(.slice A ((m.words b c.toNat).length) 1024),J 0]),(some (.t [(some (.sl 1 0)),none])),[.ob 0 m],[(.lst 1 true 23 A 1024 (m.words b c.toNat))],[]⟩) (Q ⟨(.tuple #[(.slice none 0 0),J 5]),kn2,[.ob 0 m],[],[]⟩))->∀(X:bP)(w:World),Sat (U:=Un) [(.ob 0 d m)] X w->aG (U:=Un) [(.ob 0 d m)] fr0 []->Calls prog 71 #[(.pointer (pvA (d 0))),(.agg #[vB b,J c])] w (aR (U:=Un) [(.ob 0 d m)] [0] X w Q);intro b c d m Q f X w hs C;obtain⟨L,l,r,o⟩:=oo hs;rw[l];refine(P3 r b c).mono ?_;rintro e j ⟨u,rfl,⟨p,s,q,g,rfl,t,v,x⟩|⟨p,rfl,q⟩⟩
 ·have f:=cg f p (pvA g);rw[Mem.fR]at f;have y:RS (U:=Un) (λk=>k=g) j (.lst 1 true 23 (pvA g) 1024 (m.words b c.toNat)):=⟨(by have z:=Mem.fR m b c.toNat;show Own j _ _ _ (m.words b c.toNat).length _ _;rw[z];exact x),λk a=>a▸v⟩;exact aR.II (k:=some (.t [some (.sl 1 0),none])) (kc:= []) (Z0:=X 0) (q.mono λk a=>(o k).1 a) (show bO 0 d m (X 0) j from⟨L,l,o,s⟩) (λk a=>.inl a) y (λk a=>a▸t) (λk B D=>by have:=hs.lt (i:=0) (by simp) k B;omega) f (KnO.pair (by show some (Value.slice _ (m.words b c.toNat).length _)=_;rw[Mem.fR])) (λ_ _ h=>by cases h)
 ·exact aR.one (Z:=X 0) (q.mono λk a=>a.elim) (show bO 0 d m (X 0) j from⟨L,l,o,r.pu q⟩) (λk a=>.inl a) (cA f p) (KnO.tup _ (by simp))
end
theorem K5 {w:World}(h:Bool)(i:Int)(j md:Bool):
 Calls prog 101 #[(.agg #[vB h,J i,vB j,vB md])] w λe s=>∃v,e=.returned v/\v=.tuple #[O (Mp.mk h i j md).word,J (Mp.mk h i j md).err]/\Pu w s:=by
 refine wI _ _ _ _ ?_;have hp:=Ch.refl (λ_=>False) w;refine mkd λR S B=>?_;have b:=B.blk;refine⟨λx s=>x=((decide ((i:Int)<0)) || (decide ((i:Int)>63)))/\Pu S s,?_,?_⟩
 ·refine⟨_,b.at2 rfl,?_⟩;refine ao (λE=>?_) (λE=>?_)
  ·exact⟨by simp only[E,Bool.true_and,Bool.and_true,Bool.false_and,Bool.and_false,Bool.true_or,Bool.or_true,Bool.false_or,Bool.or_false,Bool.not_true,Bool.not_false,if_true,if_false,Bool.false_eq_true],Ch.refl _ _⟩
  ·refine⟨_,b.at2 rfl,?_⟩;exact⟨by simp only[E,Bool.true_and,Bool.and_true,Bool.false_and,Bool.and_false,Bool.true_or,Bool.or_true,Bool.false_or,Bool.or_false,Bool.not_true,Bool.not_false,if_true,if_false,Bool.false_eq_true],Ch.refl _ _⟩
 rintro _ _ V ⟨rfl,t⟩;refine bZ (λq=>?_) (λq=>?_)
 ·have hp:=Ch.pu (Ch.made hp B) t;exact⟨congrArg Value.tuple (wB (congrArg (Value.int .u32) (by grind[Mp.word,Mp.err,Mp.bits])) (congrArg (Value.int .i64) (by grind[Mp.word,Mp.err,Mp.bits]))),hp⟩
 ·refine⟨λx s=>x=(md && (!h))/\Pu V s,?_,?_⟩
  ·have b:=Pu.blk t b;refine⟨_,b.at rfl,?_⟩;refine ao (λF=>?_) (λF=>?_)
   ·refine⟨_,b.at2 rfl,?_⟩;exact⟨by simp only[F,Bool.true_and,Bool.and_true,Bool.false_and,Bool.and_false,Bool.true_or,Bool.or_true,Bool.false_or,Bool.or_false,Bool.not_true,Bool.not_false,if_true,if_false,Bool.false_eq_true],Ch.refl _ _⟩
   ·exact⟨by simp only[F,Bool.true_and,Bool.and_true,Bool.false_and,Bool.and_false,Bool.true_or,Bool.or_true,Bool.false_or,Bool.or_false,Bool.not_true,Bool.not_false,if_true,if_false,Bool.false_eq_true],Ch.refl _ _⟩
  rintro _ _ Rq ⟨rfl,G⟩;refine cT (λr=>?_) (λr=>?_)
  ·have hp:=Ch.pu (Ch.pu (Ch.made hp B) t) G;exact⟨congrArg Value.tuple (wB (congrArg (Value.int .u32) (by grind[Mp.word,Mp.err,Mp.bits])) (congrArg (Value.int .i64) (by grind[Mp.word,Mp.err,Mp.bits]))),hp⟩
  ·have C:0<=i/\i<64:=by grind
   have b:=Pu.blk G (Pu.blk t b);refine⟨_,b.at2 rfl,?_⟩;rintro _ rfl;refine⟨_,b.at2 rfl,_,b.at rfl,_,b.at rfl,?_⟩;refine mkd λY RE H=>?_;have d:=H.blk;have hp:=Ch.made (Ch.pu (Ch.pu (Ch.made hp B) t) G) H;have b:=Made.old H b;refine⟨λD u y W=>Ch (λ_=>False) w W/\(∃T,Blk W R #[vB h,J i,vB j,vB md] T)/\(∃T,Blk W Y #[vB h,O 2,vB j,O 4,vB md,O 8] T)/\((D=3/\u=(256*i+1)/\y=0)\/(D=2/\u=(256*i+(1+(if h then 2 else 0)))/\y=1)\/(D=1/\u=(256*i+(1+(if h then 2 else 0)+(if j then 4 else 0)))/\y=2)\/(D=0/\u=(256*i+(1+(if h then 2 else 0)+(if j then 4 else 0)+(if md then 8 else 0)))/\y=3)),⟨_,hp,⟨_,b⟩,⟨_,d⟩,.inl ⟨rfl,by exact IE C,rfl⟩⟩,?_⟩;rintro _ _ u y Sb ⟨hp,⟨_,b⟩,⟨_,d⟩,Z⟩;rcases Z with⟨rfl,rfl,rfl⟩|⟨rfl,rfl,rfl⟩|⟨rfl,rfl,rfl⟩|⟨rfl,rfl,rfl⟩
   ·refine eK ⟨by decide,_,_,⟨d.at2 rfl,d.at2 rfl⟩,?_⟩;refine mkd λz Q c=>?_;have l:=c.lo hp;have o:=c.ne b;have p:=c.ne d;have g:=c.blk;refine bz g (by simp) λA f=>?_;have g:Blk A z #[vB h,O 2] _:=f.blk;refine⟨_,g.at rfl,?_⟩;refine ao (λI=>?_) (λI=>?_)
    ·refine⟨_,g.at rfl,?_⟩;rintro _ rfl;have hp:=Ch.call (Ch.made hp c) f.ch (by exact λk e=>.inr (e▸l));have b:=Ch.blk f.ch (Made.old c b) (o);have d:=Ch.blk f.ch (Made.old c d) (p);exact⟨2,by decide,hp,⟨_,b⟩,⟨_,d⟩,.inr (.inl ⟨rfl,by(rw[CW 1 2 (by decide) (by omega) C (a:=1) (by constructor<;>grind)];simp only[q,r,I,if_true];done),rfl⟩)⟩
    ·have hp:=Ch.call (Ch.made hp c) f.ch (by exact λk e=>.inr (e▸l));have b:=Ch.blk f.ch (Made.old c b) (o);have d:=Ch.blk f.ch (Made.old c d) (p);exact⟨2,by decide,hp,⟨_,b⟩,⟨_,d⟩,.inr (.inl ⟨rfl,by(simp[q,r,I];done),rfl⟩)⟩
   ·refine eK ⟨by decide,_,_,⟨d.at2 rfl,d.at2 rfl⟩,?_⟩;refine mkd λz Q c=>?_;have l:=c.lo hp;have o:=c.ne b;have p:=c.ne d;have g:=c.blk;refine bz g (by simp) λA f=>?_;have g:Blk A z #[vB j,O 4] _:=f.blk;refine⟨_,g.at rfl,?_⟩;refine ao (λK=>?_) (λK=>?_)
    ·refine⟨_,g.at rfl,?_⟩;rintro _ rfl;have hp:=Ch.call (Ch.made hp c) f.ch (by exact λk e=>.inr (e▸l));have b:=Ch.blk f.ch (Made.old c b) (o);have d:=Ch.blk f.ch (Made.old c d) (p);exact⟨1,by decide,hp,⟨_,b⟩,⟨_,d⟩,.inr (.inr (.inl ⟨rfl,by(rw[CW 2 4 (by decide) (by omega) C (a:=(1+(if h then 2 else 0))) (by constructor<;>grind)];simp only[q,r,K,if_true];done),rfl⟩))⟩
    ·have hp:=Ch.call (Ch.made hp c) f.ch (by exact λk e=>.inr (e▸l));have b:=Ch.blk f.ch (Made.old c b) (o);have d:=Ch.blk f.ch (Made.old c d) (p);exact⟨1,by decide,hp,⟨_,b⟩,⟨_,d⟩,.inr (.inr (.inl ⟨rfl,by(simp[q,r,K];done),rfl⟩))⟩
   ·refine eK ⟨by decide,_,_,⟨d.at2 rfl,d.at2 rfl⟩,?_⟩;refine mkd λz Q c=>?_;have l:=c.lo hp;have o:=c.ne b;have p:=c.ne d;have g:=c.blk;refine bz g (by simp) λA f=>?_;have g:Blk A z #[vB md,O 8] _:=f.blk;refine⟨_,g.at rfl,?_⟩;refine ao (λM=>?_) (λM=>?_)
    ·refine⟨_,g.at rfl,?_⟩;rintro _ rfl;have hp:=Ch.call (Ch.made hp c) f.ch (by exact λk e=>.inr (e▸l));have b:=Ch.blk f.ch (Made.old c b) (o);have d:=Ch.blk f.ch (Made.old c d) (p);exact⟨0,by decide,hp,⟨_,b⟩,⟨_,d⟩,.inr (.inr (.inr (⟨rfl,by(rw[CW 3 8 (by decide) (by omega) C (a:=(1+(if h then 2 else 0)+(if j then 4 else 0))) (by constructor<;>grind)];simp only[q,r,M,if_true];done),rfl⟩)))⟩
    ·have hp:=Ch.call (Ch.made hp c) f.ch (by exact λk e=>.inr (e▸l));have b:=Ch.blk f.ch (Made.old c b) (o);have d:=Ch.blk f.ch (Made.old c d) (p);exact⟨0,by decide,hp,⟨_,b⟩,⟨_,d⟩,.inr (.inr (.inr (⟨rfl,by(simp[q,r,M];done),rfl⟩)))⟩
   ·refine jw ?_;exact⟨congrArg Value.tuple (wB (congrArg (Value.int .u32) (by grind[Mp.word,Mp.err,Mp.bits])) (congrArg (Value.int .i64) (by grind[Mp.word,Mp.err,Mp.bits]))),hp⟩
section
attribute [local irreducible] Vc2 VcD
def qB:Ctr Un:=⟨[.one (.int .i64)],[],[],[],λp K=>K ⟨(.tuple #[O (dP p),J (fH p)]),kn2,[],[],[]⟩⟩
theorem BK:LV Un prog 95 qB:=bR Tryz.func95 ak [] trivial [] (.r' (.two (.two (.node [] (some ⟨[(9,(.one .bool))],[],upN 4 6,[]⟩) [] [] .leaf .leaf) .leaf) .leaf)) [] (F:=∀p Q,qB.body p Q->∃a:Bool->Prop,(split (decide (p<0)) (a true) (a (decide (p>=64))))/\∀(e:Nat->Value)(b:Bool),a b->split b (Q ⟨(.tuple #[O 0,J 4]),kn2,[],[],[]⟩) (Q ⟨(.tuple #[O (u32.wrap (BitVec.ofInt u32.bits (u32.wrap ((u32.wrap p)*2 ^ 8)) ||| BitVec.ofInt u32.bits 1).toNat),J 0]),kn2,[],[],[]⟩)) λp Q h=>eS ((decide ((p:Int)<0)) || (decide ((p:Int)>=64))) (ao (λc=>(by grind)) λc=>(by grind))<| bZ (λd=>aw h (by(have h:¬(0<=p/\p<64):=by grind);simp[dP,fH,h]) rfl rfl) λd=>aw h (by(have h:0<=p/\p<64:=by grind);rw[IE h];simp[dP,fH,h]) rfl rfl
def kB:Ctr Un:=⟨[.one (.int .u32),.one (.int .i64),.one (.fn 95)],[],[],[],λv x K=>∀(a b:Int),((a=(if v≠0/\fH x=0/\dP x=v then x else 0)/\b=(if v=0 then 92 else if fH x=0/\dP x=v then 0 else 90)))->K ⟨(.tuple #[J a,J b]),kn2,[],[],[]⟩⟩
theorem wJ:LV Un prog 167 kB:=bR Tryz.func167 ak [(95,qB)] ⟨BK,trivial⟩ [] (.r' (.r' (.r' (.two (.r' (.two (.node [] (some ⟨[(26,(.one .bool))],[],upN 20 7,[]⟩) [] [] .leaf .leaf) .leaf)) .leaf)))) [] (F:=∀v x Q,kB.body v x Q->split (v==0) (Q ⟨(.tuple #[J 0,J 92]),kn2,[],[],[]⟩) (∃a:Bool->Prop,(split ((fH x) !=0) (a true) (a ((dP x) !=v)))/\∀(f:Nat->Value)(b:Bool),a b->split b (Q ⟨(.tuple #[J 0,J 90]),kn2,[],[],[]⟩) (Q ⟨(.tuple #[J x,J 0]),kn2,[],[],[]⟩))) λv x Q h=>by
 try skip
 exact ar (λc=>(h 0 92 (by omega))) λc=>eS ((((fH x):Int) !=0) || (((dP x):Int) !=v)) (ao (λd=>(by grind)) λd=>(by grind))<| bZ (λe=>(h 0 90 (by grind))) λe=>(h x 0 (by grind))
def iQ:Ctr Un:=⟨[.one (.int .u32)],[],[],[],λv K=>(0<=(v:Int)/\(v:Int)<4294967296)/\K ⟨(.tuple #[J (dX v),J (kP v)]),kn2,[],[],[]⟩⟩
theorem ox:LV Un prog 145 iQ:=bR Tryz.func145 ak [(167,kB)] ⟨wJ,trivial⟩ [] .leaf [] (F:=∀v Q,iQ.body v Q->∀(a b:Int),((a=(if v≠0/\fH (i64.wrap (v.fdiv (2 ^ 8)))=0/\dP (i64.wrap (v.fdiv (2 ^ 8)))=v then(i64.wrap (v.fdiv (2 ^ 8)))else 0)/\b=(if v=0 then 92 else if fH (i64.wrap (v.fdiv (2 ^ 8)))=0/\dP (i64.wrap (v.fdiv (2 ^ 8)))=v then 0 else 90)))->Q ⟨(.tuple #[J a,J b]),kn2,[],[],[]⟩) λv Q h=>by
 obtain⟨d,h⟩:=h;exact λa b f1=>(by(have e0:i64.wrap ((v:Int).fdiv (2 ^ 8))=v / 256:=by rw[mW,ay (by omega)];rfl);rw[e0]at f1;(have c:(fH (v / 256)=0/\dP (v / 256)=v)↔Ix v=true:=(by simp only[fH,dP,Ix,decide_eq_true_eq];constructor<;>intro h<;>grind));(have e:v=0->Ix v=false:=by intro h;subst h;decide);exact aw h (by simp only[c]at f1;rw[f1.1,f1.2];simp only[dX,kP]<;>grind) rfl rfl)
def rG:Ctr Un:=⟨[.agg [.bool,.int .i64,.bool,.bool]],[],[],[],λa b c md K=>K ⟨(.tuple #[O (Mp.mk a b c md).word,J (Mp.mk a b c md).err]),kn2,[],[],[]⟩⟩
theorem ye:LV Un prog 101 rG:=by
 show ∀(a:Bool)(b:Int)(c md:Bool),∀Q:Ou Un->Prop,(Q ⟨(.tuple #[O (Mp.mk a b c md).word,J (Mp.mk a b c md).err]),kn2,[],[],[]⟩)->∀(X:bP)(w:World),Sat (U:=Un) [] X w->aG (U:=Un) [] fr0 []->Calls prog 101 #[(.agg #[vB a,J b,vB c,vB md])] w (aR (U:=Un) [] [] X w Q);intro a b c md Q d X w hs f;refine(K5 a b c md).mono ?_;rintro e g ⟨u,rfl,rfl,q⟩;exact aR.pu hs q d (KnO.tup _ (by simp))
def gG:Ctr Un:=⟨[.one (.int .u32),.agg [.bool,.int .i64,.bool,.bool],.one (.fn 101)],[],[],[],λv a b c md K=>∀(d:Bool)(e:Int)(rc rd:Bool)(f:Int),((Mp.mk d e rc rd=(if v≠0/\(Mp.mk a b c md).err=0/\(Mp.mk a b c md).word=v then(Mp.mk a b c md)else Mp.nil)/\f=(if v=0 then 92 else if(Mp.mk a b c md).err=0/\(Mp.mk a b c md).word=v then 0 else 90)))->K ⟨(.tuple #[(.agg #[vB d,J e,vB rc,vB rd]),J f]),kn2,[],[],[]⟩⟩
theorem pj:LV Un prog 175 gG:=bR Tryz.func175 ak [(101,rG)] ⟨ye,trivial⟩ [] (.r' (.r' (.r' (.two (.r' (.two (.node [] (some ⟨[(26,(.one .bool))],[],upN 20 7,[]⟩) [] [] .leaf .leaf) .leaf)) .leaf)))) [] (F:=∀v a b c md Q,gG.body v a b c md Q->∀(f:Nat),∀(g:Nat),∀(i:Nat),split (v==0) (Q ⟨(.tuple #[(.agg #[vB false,J 0,vB false,vB false]),J 92]),kn2,[],[],[]⟩) (∃d:Bool->Prop,(split ((Mp.mk a b c md).err !=0) (d true) (d ((Mp.mk a b c md).word !=v)))/\∀(o:Nat->Value)(e:Bool),d e->split e (Q ⟨(.tuple #[(.agg #[vB false,J 0,vB false,vB false]),J 90]),kn2,[],[],[]⟩) (Q ⟨(.tuple #[(.agg #[vB a,J b,vB c,vB md]),J 0]),kn2,[],[],[]⟩))) λv a b c md Q h f g i=>ar (λj=>(h false 0 false false 92 (by(grind)))) λj=>eS ((((Mp.mk a b c md).err:Int) !=0) || (((Mp.mk a b c md).word:Int) !=v)) (ao (λk=>(by grind)) λk=>(by grind))<| bZ (λl=>(h false 0 false false 90 (by(grind)))) λl=>(h a b c md 0 (by(grind)))
def ik:Ctr Un:=⟨[.one (.int .u32)],[],[],[],λv K=>(0<=(v:Int)/\(v:Int)<4294967296)/\K ⟨(.tuple #[(.agg #[vB ((dm v).cD),J (dm v).aH,vB ((dm v).write),vB ((dm v).exec)]),J (iV v)]),kn2,[],[],[]⟩⟩
theorem nf:LV Un prog 170 ik:=bR Tryz.func170 ak [(175,gG)] ⟨pj,trivial⟩ [7,10,14,17] .leaf [] (F:=∀v Q,ik.body v Q->∀(p:Nat),∀a:Bool,a=((u32.wrap (BitVec.ofInt u32.bits v &&& BitVec.ofInt u32.bits 2).toNat:Int) !=0)->∀b:Int,b=(i64.wrap ((v:Int).fdiv (2 ^ 8)))->∀c:Bool,c=((u32.wrap (BitVec.ofInt u32.bits v &&& BitVec.ofInt u32.bits 4).toNat:Int) !=0)->∀d:Bool,d=((u32.wrap (BitVec.ofInt u32.bits v &&& BitVec.ofInt u32.bits 8).toNat:Int) !=0)->∀(e:Bool)(f:Int)(rc rd:Bool)(g:Int),((Mp.mk e f rc rd=(if v≠0/\(Mp.mk a b c d).err=0/\(Mp.mk a b c d).word=v then(Mp.mk a b c d)else Mp.nil)/\g=(if v=0 then 92 else if(Mp.mk a b c d).err=0/\(Mp.mk a b c d).word=v then 0 else 90)))->Q ⟨(.tuple #[(.agg #[vB e,J f,vB rc,vB rd]),J g]),kn2,[],[],[]⟩) λv Q h=>by
 obtain⟨i,h⟩:=h;exact λp a j b k c l d o e f rc rd g f1=>(by(have e0:i64.wrap ((v:Int).fdiv (2 ^ 8))=v / 256:=by rw[mW,ay (by omega)];rfl);(rw[fV 1 2 (by decide) (by omega) i]at j);rw[e0]at k;(rw[fV 2 4 (by decide) (by omega) i]at l);(rw[fV 3 8 (by decide) (by omega) i]at o);(have q:Mp.mk a b c d=Mp.Fk v:=by rw[j,k,l,o];rfl);rw[q]at f1;exact aw h (by(have hm:dm v=Mp.mk e f rc rd/\iV v=g:=by grind[dm,iV,At]);rw[hm.1,hm.2]) rfl rfl)
def vV:Ctr Un:=⟨[.enc 6],[],[],[],λf K=>K ⟨O (File.flags f),none,[],[],[]⟩⟩
theorem Cg:LV Un prog 89 vV:=bR Tryz.func89 ak [] trivial [3] .leaf [] (F:=∀(f:Fl) Q,vV.body f Q->∀(d:Nat),∀(s:Fl),s=(Fl.norm f)->Fl.Ok s->split (Fl.z s) (Q ⟨O 1,none,[],[],[]⟩) (∀b:Int,b=0->split (Fl.n s) (∀a:Int,a=(u32.wrap (BitVec.ofInt u32.bits b ||| BitVec.ofInt u32.bits 2).toNat)->split (Fl.l s) (∀c:Int,c=(u32.wrap (BitVec.ofInt u32.bits a ||| BitVec.ofInt u32.bits 4).toNat)->Q ⟨O c,none,[],[],[]⟩) (Q ⟨O a,none,[],[],[]⟩)) (split (Fl.l s) (∀a:Int,a=(u32.wrap (BitVec.ofInt u32.bits b ||| BitVec.ofInt u32.bits 4).toNat)->Q ⟨O a,none,[],[],[]⟩) (Q ⟨O b,none,[],[],[]⟩)))) λf Q h d s l f1=>ao (λe=>cv h (by subst_vars;simp only[Fl.norm]at *;(simp[File.flags, *];done))) λe b o=>ao (λg a i=>ao (λj c p=>cv h (by subst_vars;simp only[Fl.norm]at *;(simp only[File.flags, *];rfl))) λj=>cv h (by subst_vars;simp only[Fl.norm]at *;(simp only[File.flags, *];rfl))) λg=>ao (λk a i=>cv h (by subst_vars;simp only[Fl.norm]at *;(simp only[File.flags, *];rfl))) λk=>cv h (by subst_vars;simp only[Fl.norm]at *;(simp[File.flags, *];done))
def lX:Ctr Un:=⟨[.enc 6,.one (.int .u32)],[],[],[],λf w K=>Fl.Ok f/\(0<=(w:Int)/\(w:Int)<4294967296)/\K ⟨(.tuple #[(.agg ⟨Fl.cells (File.fU f w)⟩),J (File.iP w)]),kn2,[],[],[]⟩⟩
theorem Eg:LV Un prog 48 lX:=bR Tryz.func48 ak [(89,vV)] ⟨Cg,trivial⟩ [8,11,14] .leaf [] (F:=∀(f:Fl) w Q,lX.body f w Q->∀(B:Nat),∀(s:Fl),s=(Fl.norm f)->Fl.Ok s->∀(C:Nat),∀(s1:Fl),s1=Fl.zero->Fl.Ok s1->∀g:Bool,g=((u32.wrap (BitVec.ofInt u32.bits w &&& BitVec.ofInt u32.bits 1).toNat:Int) !=0)->∀i:Bool,i=((u32.wrap (BitVec.ofInt u32.bits w &&& BitVec.ofInt u32.bits 2).toNat:Int) !=0)->∀j:Bool,j=((u32.wrap (BitVec.ofInt u32.bits w &&& BitVec.ofInt u32.bits 4).toNat:Int) !=0)->True/\∀(s2:Fl),s2=({s with z:=g}:Fl)->Fl.Ok s2->True/\∀(s3:Fl),s3=({s2 with n:=i}:Fl)->Fl.Ok s3->True/\∀(a:Fl),a=({s3 with l:=j}:Fl)->Fl.Ok a->True/\split ((File.flags (Fl.norm a)) !=w) (True/\∀(b:Fl),b=Fl.zero->Fl.Ok b->True/\Q ⟨(.tuple #[(.agg ⟨Fl.cells b⟩),J 80]),kn2,[],[],[]⟩) (True/\True/\∀(b:Fl),b=(Fl.norm a)->Fl.Ok b->True/\Q ⟨(.tuple #[(.agg ⟨Fl.cells b⟩),J 0]),kn2,[],[],[]⟩)) λf w Q h=>by
 obtain⟨u,d,h⟩:=h;exact λB s v f1 C s1 D f2 g k i o j p=>aj trivial λ_ s2 x f4=>aj trivial λ_ s3 y f6=>aj trivial λ_ a A f8=>aj trivial λ_=>ax (λc=>aj trivial λ_ b r f11=>aj trivial λ_=>(by(have q:Fl.norm a= {f with z:=g,n:=i,l:=j}:=by rw[Fl.norm_eq (show Fl.Ok a by assumption),A,y,x,v,Fl.norm_eq u]);(rw[fV 0 1 (by decide) (by omega) d]at k);(rw[fV 1 2 (by decide) (by omega) d]at o);(rw[fV 2 4 (by decide) (by omega) d]at p);have hi:=File.AU d;(have e:File.jm w=false:=(by rw[q,k,o,p]at c;simp only[File.flags]at c;rw[hi]at c;simpa using c));exact aw h (bJ (ai (flE (by rw[File.AT e,r])) (ai (aJ (by rw[File.AW e])) rfl))) rfl rfl)) λc=>aj trivial λ_=>aj trivial λ_ b r f15=>aj trivial λ_=>(by(have q:Fl.norm a= {f with z:=g,n:=i,l:=j}:=by rw[Fl.norm_eq (show Fl.Ok a by assumption),A,y,x,v,Fl.norm_eq u]);(rw[fV 0 1 (by decide) (by omega) d]at k);(rw[fV 1 2 (by decide) (by omega) d]at o);(rw[fV 2 4 (by decide) (by omega) d]at p);have hi:=File.AU d;(have e:File.jm w=true:=(by rw[q,k,o,p]at c;simp only[File.flags]at c;rw[hi]at c;simpa using c));have t:=File.GH e;exact aw h (bJ (ai (flE (by rw[File.Di e,r,q,k,o,p,t.1,t.2.1,t.2.2])) (ai (aJ (by rw[File.Dj e])) rfl))) rfl rfl)
def rU:Ctr Un:=⟨[.one (.sl 0)],[],[.lst 1 false 23],[],λA c l K=>((∀x∈l,0<=x.v/\x.v<4294967296))/\K ⟨(.tuple #[(.agg ⟨Fl.cells (File.unpack l)⟩),J (File.kI l)]),kn2,[],[],[]⟩⟩
def Hl(A:oA)(c:Nat)(l:List U32)(Q:Ou Un->Prop):Prop:=∀(e:Nat),∀(s:Fl),s=Fl.zero->Fl.Ok s->split ((l.length:Int) !=17) (True/\∀(s1:Fl),s1=Fl.zero->Fl.Ok s1->True/\Q ⟨(.tuple #[(.agg ⟨Fl.cells s1⟩),J 80]),kn2,[],[],[]⟩) ((0<l.length/\15<=l.length)/\(15<=l.length)/\(0<=(15:Int)/\(15:Int)<(l.length:Int))/\∀(f:Nat),∀(s1:Fl),s1=Fl.zero->Fl.Ok s1->True/\∀(s2:Fl),s2=(Fl.mk [uM (vG l 0),uM (vG l 1),uM (vG l 2),uM (vG l 3),uM (vG l 4),uM (vG l 5),uM (vG l 6),uM (vG l 7),uM (vG l 8),uM (vG l 9),uM (vG l 10),uM (vG l 11),uM (vG l 12),uM (vG l 13),uM (vG l 14)] (vG l (Int.toNat 15)) false false false)->Fl.Ok s2->True/\(0<=(16:Int)/\(16:Int)<(l.length:Int))/\Fl.Ok (Fl.norm s2)/\(0<=(vG l (Int.toNat 16))/\(vG l (Int.toNat 16))<4294967296)/\True/\∀(s3:Fl),s3=(Fl.norm (File.fU (Fl.norm s2) (vG l (Int.toNat 16))))->Fl.Ok s3->∃b:Bool->Prop,(split ((File.iP (vG l (Int.toNat 16)))==0) (True/\b (bG ⟨Fl.cells s3⟩ ⟨Fl.cells Fl.zero⟩)) (b false))/\∀(g:Nat->Value)(d:Bool),b d->split d (True/\∀(a:Fl),a=Fl.zero->Fl.Ok a->True/\Q ⟨(.tuple #[(.agg ⟨Fl.cells a⟩),J 0]),kn2,[],[],[]⟩) (True/\True/\∀(a:Fl),a=(Fl.norm s3)->Fl.Ok a->True/\Q ⟨(.tuple #[(.agg ⟨Fl.cells a⟩),J (File.iP (vG l (Int.toNat 16)))]),kn2,[],[],[]⟩))
theorem Hm:Vc2 Un prog (iy [(48,lX)]) [] Tryz.f21 (.r' (.r' (.two (.node [] none [] [(2,[0]),(5,[0])] .leaf .leaf) (.two (.node [] none [] [(0,[2]),(3,[0])] .leaf .leaf) (.two (.two (.node [] (some ⟨[(31,(.one .bool))],[],upN 25 7,[]⟩) [] [] .leaf .leaf) .leaf) .leaf))))) [] rU=(∀A c (l:List U32),∀Q,(((∀x∈l,0<=x.v/\x.v<4294967296))/\Q ⟨(.tuple #[(.agg ⟨Fl.cells (File.unpack l)⟩),J (File.kI l)]),kn2,[],[],[]⟩)->Hl A c l Q):=by kernel_rfl
theorem Hk:LV Un prog 21 rU:=verify Tryz.func21 ak (tb:= [(48,lX)]) ⟨Eg,trivial⟩ (by kernel_rfl) (Hm.mpr λA c l Q h=>by
 obtain⟨k,h⟩:=h;exact λt s u f1=>ax (λo=>aj trivial λ_ s1 g f3=>aj trivial λ_=>(by(have a:¬l.length=17:=by omega);exact aw h (bJ (ai (flE (by rw[(File.ua a).1,g])) (ai (aJ (by rw[(File.ua a).2])) rfl))) rfl rfl)) λo=>aj (by omega) λv=>aj (by omega) λx=>aj (by omega) λy z s1 g f8=>aj trivial λ_ s2 i f10=>aj trivial λ_=>aj (by omega) λB=>aj (Fl.Lx _) λC=>aj (File.oW k _) λD=>aj trivial λ_ s3 j f16=>eS ((((File.iP ((l.getD (Int.toNat 16) (uM 0)).v)):Int)==0) && (bG ⟨Fl.cells s3⟩ ⟨Fl.cells Fl.zero⟩)) (ao (λp=>aj trivial λ_=>(by grind)) λp=>(by grind))<| cT (λb=>aj trivial λ_ q d f19=>aj trivial λ_=>(by(have a:l.length=17:=by omega);have hu:=File.mo a;(have e:Fl.norm s2=File.bare l:=by rw[Fl.norm_eq (show Fl.Ok s2 by assumption),i,File.bare_eq a]);(have f:s3=File.fU (File.bare l) (l.getD 16 (uM 0)).v:=by rw[j,e];exact Fl.norm_eq (File.u4 a _));(have r:=Fl.L7 (show Fl.Ok s3 by assumption) b.2);exact aw h (bJ (ai (flE (by rw[hu.1,<-f,r,d])) (ai (aJ (by(rw[hu.2];simpa using b.1))) rfl))) rfl rfl)) λb=>aj trivial λ_=>aj trivial λ_ q d f23=>aj trivial λ_=>(by(have a:l.length=17:=by omega);have hu:=File.mo a;(have e:Fl.norm s2=File.bare l:=by rw[Fl.norm_eq (show Fl.Ok s2 by assumption),i,File.bare_eq a]);(have f:s3=File.fU (File.bare l) (l.getD 16 (uM 0)).v:=by rw[j,e];exact Fl.norm_eq (File.u4 a _));exact aw h (bJ (ai (flE (by(rw[hu.1,<-f,d];exact(Fl.norm_eq ‹_›).symm))) (ai (aJ (by exact hu.2)) rfl))) rfl rfl))
end
section
attribute [local irreducible] Vc2 VcD
attribute [local grind=] Pd.jb Pd.gQ Pd.mM Pd.sw Pd.bT Pd.ku Pd.mL Pd.j5 Pd.sj
attribute [local grind .] Pd.Ok.ent
attribute [local grind→] Pd.Ok.ir
def zD:Ctr Un:=⟨[.one (.obj 0 0),.agg [.bool,.int .i64]],[],[.ob 0 []],[],λa b c m K=>K ⟨vB (m.has a b),none,[],[],[]⟩⟩
theorem Ec:LV Un prog 169 zD:=by
 show ∀(b:Bool)(c:Int)(a:Nat->Nat)(m:Mem),∀Q:Ou Un->Prop,(Q ⟨vB (m.has b c),none,[],[],[]⟩)->∀(X:bP)(w:World),Sat (U:=Un) [(.ob 0 a m)] X w->aG (U:=Un) [(.ob 0 a m)] fr0 []->Calls prog 169 #[(.pointer (pvA (a 0))),(.agg #[vB b,J c])] w (aR (U:=Un) [(.ob 0 a m)] [] X w Q);intro b c a m Q d X w hs h;obtain⟨L,f,g,i⟩:=oo hs;rw[f];refine(QY g b c).mono ?_;rintro e j ⟨u,rfl,rfl,q⟩;exact aR.pu hs q d trivial
def fN:Ctr Un:=⟨[.one (.obj 0 0),.agg [.bool,.int .i64],.one (.int .i64),.one (.int .u32)],[],[.ob 0 []],[0],λa b off v c m K=>(0<=(v:Int)/\(v:Int)<4294967296)/\K ⟨J (m.err a b off),none,[.ob 0 (m.write a b off v)],[],[]⟩⟩
theorem jY:LV Un prog 36 fN:=by
 show ∀(b:Bool)(c off v:Int)(a:Nat->Nat)(m:Mem),∀Q:Ou Un->Prop,((0<=(v:Int)/\(v:Int)<4294967296)/\Q ⟨J (m.err b c off),none,[.ob 0 (m.write b c off v)],[],[]⟩)->∀(X:bP)(w:World),Sat (U:=Un) [(.ob 0 a m)] X w->aG (U:=Un) [(.ob 0 a m)] fr0 []->Calls prog 36 #[(.pointer (pvA (a 0))),(.agg #[vB b,J c]),J off,O v] w (aR (U:=Un) [(.ob 0 a m)] [0] X w Q);intro b c off v a m Q d X w hs p;obtain⟨i,d⟩:=d;obtain⟨L,g,j,h⟩:=oo hs;rw[g];refine(Dc j b c off v i).mono ?_;rintro e l ⟨u,rfl,rfl,o,q⟩;exact aR.one (Z:=X 0) (q.mono λk f=>(h k).1 f) (show bO 0 a _ (X 0) l from⟨L,g,h,o⟩) (λk f=>.inl f) d trivial
def zy:Ctr Un:=⟨[.one (.obj 0 0),.agg [.bool,.int .i64]],[],[.ob 0 []],[0],λa b c m K=>K ⟨J (m.gu a b),none,[.ob 0 (m.zero a b)],[],[]⟩⟩
theorem ME:LV Un prog 52 zy:=by
 show ∀(b:Bool)(c:Int)(a:Nat->Nat)(m:Mem),∀Q:Ou Un->Prop,(Q ⟨J (m.gu b c),none,[.ob 0 (m.zero b c)],[],[]⟩)->∀(X:bP)(w:World),Sat (U:=Un) [(.ob 0 a m)] X w->aG (U:=Un) [(.ob 0 a m)] fr0 []->Calls prog 52 #[(.pointer (pvA (a 0))),(.agg #[vB b,J c])] w (aR (U:=Un) [(.ob 0 a m)] [0] X w Q);intro b c a m Q h X w hs o;obtain⟨L,f,i,g⟩:=oo hs;rw[f];refine(I0 i b c).mono ?_;rintro e j ⟨u,rfl,rfl,l,q⟩;exact aR.one (Z:=X 0) (q.mono λk d=>(g k).1 d) (show bO 0 a _ (X 0) j from⟨L,f,g,l⟩) (λk d=>.inl d) h trivial
theorem NZ {r b:Nat->Nat}{E:Pd}{m:Mem}(d:aG (U:=Un) [.ob 1 r E,.ob 0 b m] fr0 [(.l 0 1,.p (.obj 1 0 0))]):r 1=b 0:=by
 obtain⟨e,r',s',c,a⟩:=d _ _ (List.mem_singleton.2 rfl);simp only[nth,Option.some.injEq,Res.ob.injEq]at c;obtain⟨rfl,rfl,_⟩:=c;have a:some (Value.pointer (some ⟨b 0,0,none⟩))=some (Value.pointer (some ⟨r 1,0,none⟩)):=a;simp only[Option.some.injEq,Value.pointer.injEq,Addr.mk.injEq]at a;exact a.1.symm
def wi:Ctr Un:=⟨[.one (.obj 0 0)],[],[.ob 1 [(1,1,0)],.ob 0 []],[],λr E a m K=>K ⟨(.pointer (pvA (r 1))),(some (.p (.obj 1 0 0))),[],[],[]⟩⟩
theorem Ep:LV Un prog 23 wi:=bR Tryz.func23 ak [] trivial [] .leaf [] (F:=∀r (E:Pd) a (m:Mem) Q,wi.body r E a m Q->Pd.Ok E->Mem.Wf m->Q ⟨(.pointer (pvA (r 1))),(some (.p (.obj 1 0 0))),[],[],[]⟩) λr E a m Q h f1 f2=>h
def bV:Ctr Un:=⟨[.one (.obj 0 0)],[],[.ob 1 [(1,1,0)],.ob 0 []],[],λr E a m K=>K ⟨(.pointer (pvA (a 0))),(some (.p (.obj 1 0 0))),[],[],[]⟩⟩
theorem cC:LV Un prog 23 bV:=by
 show ∀(r:Nat->Nat)(E:Pd)(a:Nat->Nat)(m:Mem),∀Q:Ou Un->Prop,(Q ⟨(.pointer (pvA (a 0))),(some (.p (.obj 1 0 0))),[],[],[]⟩)->∀(X:bP)(w:World),Sat (U:=Un) [(.ob 1 r E),(.ob 0 a m)] X w->aG (U:=Un) [(.ob 1 r E),(.ob 0 a m)] fr0 [(.l 0 1,.p (.obj 1 0 0))]->Calls prog 23 #[(.pointer (pvA (r 0)))] w (aR (U:=Un) [(.ob 1 r E),(.ob 0 a m)] [] X w Q);intro r E a m Q c X w hs b;exact Ep r E a m Q (show Q ⟨.pointer (pvA (r 1)),some (.p (.obj 1 0 0)),[],[],[]⟩from(by rw[NZ b];exact c)) X w hs b
def lu:Ctr Un:=⟨[.one (.obj 0 0)],[],[.ob 1 [(1,1,0)],.ob 0 []],[],λr E a m K=>E.n=m.S/\K ⟨J ((E.on m).S:Int),none,[],[],[]⟩⟩
theorem nu:LV Un prog 80 lu:=by
 show ∀(r:Nat->Nat)(E:Pd)(b:Nat->Nat)(m:Mem),∀Q:Ou Un->Prop,(E.n=m.S/\Q ⟨J ((E.on m).S:Int),none,[],[],[]⟩)->∀(X:bP)(w:World),Sat (U:=Un) [(.ob 1 r E),(.ob 0 b m)] X w->aG (U:=Un) [(.ob 1 r E),(.ob 0 b m)] fr0 [(.l 0 1,.p (.obj 1 0 0))]->Calls prog 80 #[(.pointer (pvA (r 0)))] w (aR (U:=Un) [(.ob 1 r E),(.ob 0 b m)] [] X w Q);intro r E b m Q c X w hs d;obtain⟨f,c⟩:=c;obtain⟨a,L,h,i,g,j,k⟩:=yM hs d f;refine(JL g).mono ?_;rintro e l ⟨u,rfl,rfl,rfl⟩;exact aR.pu hs (Ch.refl _ _) c trivial
def eU:Ctr Un:=⟨[.one (.obj 0 0),.one (.int .i64)],[],[.ob 1 [(1,1,0)],.ob 0 []],[],λp r E a m K=>E.n=m.S/\K ⟨(.tuple #[(.agg #[J ((E.on m).entry p).typ,J ((E.on m).entry p).owner,J ((E.on m).entry p).refs,J ((E.on m).entry p).state,vB (((E.on m).entry p).bq)]),J ((E.on m).bo p)]),kn2,[],[],[]⟩⟩
theorem fP:LV Un prog 14 eU:=by
 show ∀(p:Int)(r:Nat->Nat)(E:Pd)(b:Nat->Nat)(m:Mem),∀Q:Ou Un->Prop,(E.n=m.S/\Q ⟨(.tuple #[(.agg #[J ((E.on m).entry p).typ,J ((E.on m).entry p).owner,J ((E.on m).entry p).refs,J ((E.on m).entry p).state,vB (((E.on m).entry p).bq)]),J ((E.on m).bo p)]),kn2,[],[],[]⟩)->∀(X:bP)(w:World),Sat (U:=Un) [(.ob 1 r E),(.ob 0 b m)] X w->aG (U:=Un) [(.ob 1 r E),(.ob 0 b m)] fr0 [(.l 0 1,.p (.obj 1 0 0))]->Calls prog 14 #[(.pointer (pvA (r 0))),J p] w (aR (U:=Un) [(.ob 1 r E),(.ob 0 b m)] [] X w Q);intro p r E b m Q c X w hs d;obtain⟨f,c⟩:=c;obtain⟨a,L,h,i,g,j,k⟩:=yM hs d f;refine(OV g p).mono ?_;rintro e l ⟨u,rfl,rfl,q⟩;exact aR.pu hs q c (KnO.tup _ (by simp))
def lZ:Ctr Un:=⟨[.one (.obj 0 0),.one (.int .i64),.one (.int .i64)],[],[.ob 1 [(1,1,0)],.ob 0 []],[0,1],λp q r E a m K=>E.n=m.S/\K ⟨J ((E.on m).bp p q),none,[.ob 1 (((E.on m).bw p q).pd),.ob 0 (((E.on m).bw p q).mem)],[],[]⟩⟩
theorem zU:LV Un prog 58 lZ:=by
 show ∀(p q:Int)(r:Nat->Nat)(E:Pd)(b:Nat->Nat)(m:Mem),∀Q:Ou Un->Prop,(E.n=m.S/\Q ⟨J ((E.on m).bp p q),none,[.ob 1 (((E.on m).bw p q).pd),.ob 0 (((E.on m).bw p q).mem)],[],[]⟩)->∀(X:bP)(w:World),Sat (U:=Un) [(.ob 1 r E),(.ob 0 b m)] X w->aG (U:=Un) [(.ob 1 r E),(.ob 0 b m)] fr0 [(.l 0 1,.p (.obj 1 0 0))]->Calls prog 58 #[(.pointer (pvA (r 0))),J p,J q] w (aR (U:=Un) [(.ob 1 r E),(.ob 0 b m)] [0,1] X w Q);intro p q r E b m Q c X w hs d;obtain⟨f,c⟩:=c;obtain⟨a,L,g,h,i,j,k⟩:=yM hs d f;refine(Dp i p q).mono ?_;rintro e o ⟨u,rfl,rfl,l,q⟩;exact Au hs j k g h l q c trivial
def ki:Ctr Un:=⟨[.one (.obj 0 0),.one (.int .i64),.one (.int .i64),.one (.int .i64)],[],[.ob 1 [(1,1,0)],.ob 0 []],[0,1],λp t o r E a m K=>E.n=m.S/\K ⟨J ((E.on m).cX p t o),none,[.ob 1 (((E.on m).take p t o).pd),.ob 0 (((E.on m).take p t o).mem)],[],[]⟩⟩
theorem tL:LV Un prog 37 ki:=by
 show ∀(p t o:Int)(r:Nat->Nat)(E:Pd)(b:Nat->Nat)(m:Mem),∀Q:Ou Un->Prop,(E.n=m.S/\Q ⟨J ((E.on m).cX p t o),none,[.ob 1 (((E.on m).take p t o).pd),.ob 0 (((E.on m).take p t o).mem)],[],[]⟩)->∀(X:bP)(w:World),Sat (U:=Un) [(.ob 1 r E),(.ob 0 b m)] X w->aG (U:=Un) [(.ob 1 r E),(.ob 0 b m)] fr0 [(.l 0 1,.p (.obj 1 0 0))]->Calls prog 37 #[(.pointer (pvA (r 0))),J p,J t,J o] w (aR (U:=Un) [(.ob 1 r E),(.ob 0 b m)] [0,1] X w Q);intro p t o r E b m Q c X w hs d;obtain⟨f,c⟩:=c;obtain⟨a,L,g,h,i,j,k⟩:=yM hs d f;refine(Qm i p t o).mono ?_;rintro e s ⟨u,rfl,rfl,l,q⟩;exact Au hs j k g h l q c trivial
def tK:Ctr Un:=⟨[.one (.obj 0 0),.one (.int .i64),.one (.int .i64)],[],[.ob 1 [(1,1,0)],.ob 0 []],[0,1],λp t r E a m K=>E.n=m.S/\K ⟨J ((E.on m).iL p t),none,[.ob 1 (((E.on m).iz p t).pd),.ob 0 (((E.on m).iz p t).mem)],[],[]⟩⟩
theorem zT:LV Un prog 161 tK:=by
 show ∀(p t:Int)(r:Nat->Nat)(E:Pd)(b:Nat->Nat)(m:Mem),∀Q:Ou Un->Prop,(E.n=m.S/\Q ⟨J ((E.on m).iL p t),none,[.ob 1 (((E.on m).iz p t).pd),.ob 0 (((E.on m).iz p t).mem)],[],[]⟩)->∀(X:bP)(w:World),Sat (U:=Un) [(.ob 1 r E),(.ob 0 b m)] X w->aG (U:=Un) [(.ob 1 r E),(.ob 0 b m)] fr0 [(.l 0 1,.p (.obj 1 0 0))]->Calls prog 161 #[(.pointer (pvA (r 0))),J p,J t] w (aR (U:=Un) [(.ob 1 r E),(.ob 0 b m)] [0,1] X w Q);intro p t r E b m Q c X w hs d;obtain⟨f,c⟩:=c;obtain⟨a,L,g,h,i,j,k⟩:=yM hs d f;refine(Ql i p t).mono ?_;rintro e o ⟨u,rfl,rfl,l,q⟩;exact Au hs j k g h l q c trivial
def kj:Ctr Un:=⟨[.one (.obj 0 0),.one (.int .i64),.one (.int .i64)],[],[.ob 1 [(1,1,0)],.ob 0 []],[0,1],λp t r E a m K=>E.n=m.S/\K ⟨J ((E.on m).cz p t),none,[.ob 1 (((E.on m).setState p t).pd),.ob 0 (((E.on m).setState p t).mem)],[],[]⟩⟩
theorem ta:LV Un prog 18 kj:=by
 show ∀(p t:Int)(r:Nat->Nat)(E:Pd)(b:Nat->Nat)(m:Mem),∀Q:Ou Un->Prop,(E.n=m.S/\Q ⟨J ((E.on m).cz p t),none,[.ob 1 (((E.on m).setState p t).pd),.ob 0 (((E.on m).setState p t).mem)],[],[]⟩)->∀(X:bP)(w:World),Sat (U:=Un) [(.ob 1 r E),(.ob 0 b m)] X w->aG (U:=Un) [(.ob 1 r E),(.ob 0 b m)] fr0 [(.l 0 1,.p (.obj 1 0 0))]->Calls prog 18 #[(.pointer (pvA (r 0))),J p,J t] w (aR (U:=Un) [(.ob 1 r E),(.ob 0 b m)] [0,1] X w Q);intro p t r E b m Q c X w hs d;obtain⟨f,c⟩:=c;obtain⟨a,L,g,h,i,j,k⟩:=yM hs d f;refine(GO i p t).mono ?_;rintro e o ⟨u,rfl,rfl,l,q⟩;exact Au hs j k g h l q c trivial
def xd:Ctr Un:=⟨[.one (.obj 0 0),.one (.int .i64),.one (.bool)],[],[.ob 1 [(1,1,0)],.ob 0 []],[0,1],λp b r E a m K=>E.n=m.S/\K ⟨J ((E.on m).bS p),none,[.ob 1 (((E.on m).aQ p b).pd),.ob 0 (((E.on m).aQ p b).mem)],[],[]⟩⟩
theorem xc:LV Un prog 83 xd:=by
 show ∀(p:Int)(b:Bool)(r:Nat->Nat)(E:Pd)(c:Nat->Nat)(m:Mem),∀Q:Ou Un->Prop,(E.n=m.S/\Q ⟨J ((E.on m).bS p),none,[.ob 1 (((E.on m).aQ p b).pd),.ob 0 (((E.on m).aQ p b).mem)],[],[]⟩)->∀(X:bP)(w:World),Sat (U:=Un) [(.ob 1 r E),(.ob 0 c m)] X w->aG (U:=Un) [(.ob 1 r E),(.ob 0 c m)] fr0 [(.l 0 1,.p (.obj 1 0 0))]->Calls prog 83 #[(.pointer (pvA (r 0))),J p,vB b] w (aR (U:=Un) [(.ob 1 r E),(.ob 0 c m)] [0,1] X w Q);intro p b r E c m Q d X w hs f;obtain⟨g,d⟩:=d;obtain⟨a,L,h,i,j,k,l⟩:=yM hs f g;refine(Bi j p b).mono ?_;rintro e s ⟨u,rfl,rfl,o,q⟩;exact Au hs k l h i o q d trivial
end
theorem Oc(k:Nat)(b:Int)(hb:b=2 ^ k){x:Int}(c:0<=x)(h:x % (2*b)<b):nor x b=x+b:=by
 have d:b=((2 ^ k:Nat):Int):=by rw[hb];simp
 obtain⟨n,rfl⟩:=Int.eq_ofNat_of_zero_le c;rw[d]at h ⊢;unfold nor;have e:n % (2*2 ^ k)<2 ^ k:=by exact_mod_cast h
 have e1:n=2 ^ (k+1)*(n / (2*2 ^ k))+n % (2*2 ^ k):=by
  rw[Nat.pow_succ,Nat.mul_comm (2 ^ k) 2];exact(Nat.div_add_mod n _).symm
 have a:n % (2*2 ^ k)<2 ^ (k+1):=by rw[Nat.pow_succ];omega
 have f:2 ^ k+n % (2*2 ^ k)<2 ^ (k+1):=by rw[Nat.pow_succ];omega
 have g:n ||| 2 ^ k=n+2 ^ k:=by
  generalize n % (2*2 ^ k)=r at *;generalize n / (2*2 ^ k)=q at *;have i:(2 ^ k ||| r)=2 ^ k+r:=by
   have:=Nat.two_pow_add_eq_or_of_lt e 1;rw[Nat.mul_one]at this;exact this.symm
  rw[e1,Nat.two_pow_add_eq_or_of_lt a,Nat.or_assoc,Nat.or_comm r,i,<-Nat.two_pow_add_eq_or_of_lt f,<-Nat.two_pow_add_eq_or_of_lt a];omega
 simp only[Int.toNat_natCast];rw[g];simp
theorem su(k:Nat)(b:Int)(hb:b=2 ^ k)(c:b<4294967296){x:Int}(a:0<=x/\x<4294967296)(h:x % (2*b)<b):u32.wrap (BitVec.ofInt u32.bits x ||| BitVec.ofInt u32.bits b).toNat=x+b:=by
 have d:0<=b:=by rw[hb];exact Int.pow_nonneg (by omega)
 rw[oR a ⟨d,c⟩,Oc k b hb a.1 h]
theorem FE {x:Int}(a:0<=x/\x<4294967296):u32.wrap (BitVec.ofInt u32.bits x &&& ~~~(BitVec.ofInt u32.bits 4095)).toNat=x - x % 4096:=by
 obtain⟨n,rfl⟩:=Int.eq_ofNat_of_zero_le a.1;have c:n<2 ^ 32:=by have:=a.2;omega
 have e:(BitVec.ofInt u32.bits (n:Int) &&& ~~~(BitVec.ofInt u32.bits 4095)).toNat=2 ^ 12*(n / 2 ^ 12):=by
  rw[qv,BitVec.toNat_and,dS (by omega) (by have:=a.2;omega),show(~~~BitVec.ofInt 32 4095).toNat=2 ^ 12*(2 ^ 20 - 1)from by decide,Int.toNat_natCast];apply Nat.eq_of_testBit_eq;intro i;rw[Nat.testBit_and,Nat.testBit_two_pow_mul,Nat.testBit_two_pow_mul,Nat.testBit_two_pow_sub_one,Nat.testBit_div_two_pow];by_cases b:12<=i
  ·by_cases f:i<32
   ·simp[b,show i - 12<20 by omega,show i - 12+12=i by omega,show 12+(i - 12)=i by omega]
   ·have d:n.testBit i=false:=Nat.testBit_lt_two_pow (Nat.lt_of_lt_of_le c (Nat.pow_le_pow_right (by omega) (by omega)));simp[d,show i - 12+12=i by omega,show 12+(i - 12)=i by omega,b]
  ·simp[b]
 rw[e,dV]<;>omega
theorem Kd {x:Int}(a:0<=x/\x<4294967296):u32.wrap (BitVec.ofInt u32.bits x &&& BitVec.ofInt u32.bits 1023).toNat=x % 1024:=by
 rw[tE a (by omega)];exact ri 10 a.1
theorem cO {m:Mem}(h:m.Wf)(s:Bool)(p o:Int):0<=m.aI s p o/\m.aI s p o<4294967296:=by
 unfold Mem.aI;split
 ·exact h.1 _ _ _
 ·omega
theorem u5(p:Int):0<=dP p/\dP p<4294967296:=by unfold dP;split<;>omega
theorem E9(p:Mp):0<=p.word/\p.word<4294967296:=by
 unfold Mp.word Mp.bits;split
 ·rename_i h;have hp:0<=p.aH/\p.aH<64:=by
   unfold Mp.err at h;by_cases hp:0<=p.aH/\p.aH<64
   ·exact hp
   ·rw[if_neg hp]at h;omega
  split<;>split<;>split<;>omega
 ·omega
def iw(v:Int):Int:=if 1073741824<=v\/v % 4≠0 then 91 else 0
def vaI(v:Int):Int:=if iw v=0 then v / 4194304 else 0
def vaJ(v:Int):Int:=if iw v=0 then v / 4096 % 1024 else 0
def vaO(v:Int):Int:=if iw v=0 then v / 4 % 1024 else 0
def ig(v:Int):Int:=if v % 4096≠0\/1073741824<=v then 91 else 0
def mgW(v:Int)(a b:Bool):Int:=if ig v=0 then v+1+(if a then 2 else 0)+(if b then 4 else 0)else 0
def Av(w:Int):Bool:=decide (ig (w - w % 4096)=0/\mgW (w - w % 4096) (decide (w / 2 % 2=1)) (decide (w / 4 % 2=1))=w)
def mK(w:Int):Int:=if Av w then 0 else 142
def bK(w:Int):Int:=if Av w then w - w % 4096 else 0
def paW(w:Int):Bool:=Av w && decide (w / 2 % 2=1)
def paX(w:Int):Bool:=Av w && decide (w / 4 % 2=1)
namespace DB
def fu(d:DB)(s:Int):Int:=
 if !d.has s then 5 else if(d.at_ s).typ≠1 then 124 else if(d.at_ s).state=3 then 3 else if d.of (d.word s 0) 3 s then 0 else 124
def tbl(d:DB)(s:Int):Int:=if d.fu s=0 then d.word s 0 else 0
def vr(d:DB)(s i q:Int):Int:=
 if d.fu s≠0 then d.fu s else if i<0\/256<=i then 4 else if !d.has q then 5 else if !d.of q 4 s then 124 else if d.word (d.tbl s) i≠0 then 140 else 0
def add(d:DB)(s i q:Int):DB:=if d.vr s i q=0 then d.bH (·.write true (d.tbl s) i (dP q))else d
def Ah(d:DB)(s w:Int):Bool:=kP w==0 && d.of (dX w) 4 s
def dZ(d:DB)(s va:Int):Int:=
 if d.fu s≠0 then d.fu s else if iw va≠0 then 91 else if d.Ah s (d.word (d.tbl s) (vaI va))then 0 else 141
def plP(d:DB)(s va:Int):Int:=dX (d.word (d.tbl s) (vaI va))
def cy(d:DB)(s va:Int):Int:=if d.dZ s va≠0 then d.dZ s va else if d.word (d.plP s va) (vaJ va)≠0 then 140 else 0
def yI(d:DB)(s va:Int)(p:Mp):Int:=if d.cy s va≠0 then d.cy s va else p.err
def put(d:DB)(s va:Int)(p:Mp):DB:=if d.yI s va p=0 then d.bH (·.write true (d.plP s va) (vaJ va) p.word)else d
end DB
theorem Ak {l:List Int}{i:Nat}:((l.map uM).getD i (uM 0)).v=l.getD i 0:=by
 rw[List.getD_eq_getElem?_getD,List.getD_eq_getElem?_getD,List.getElem?_map];cases l[i]? <;>rfl
theorem Dg.oM {d:Dg}(h:d.Ok):∀x∈d.save,0<=x/\x<4294967296:=by
 intro x a;have c:=h.n;obtain⟨e,f,g,i,j,k,l,o⟩:=h.st;simp only[save,List.mem_append,List.mem_cons,List.not_mem_nil,or_false,List.mem_map,List.mem_replicate]at a;rcases a with(h|h|h|h|h|h|h|h|h|h)|⟨y,b,rfl⟩|⟨_,rfl⟩
 all_goals first
  |(subst h;omega)
  |exact h.words y b
  |omega
namespace Mem
def wrs(m:Mem)(p:Int):Int->List Int->Mem
 |_,[]=>m
 |o,x::l=>(m.write true p o x).wrs p (o+1) l
theorem pA(p x:Int):∀(l:List Int)(m:Mem)(o:Int),m.wrs p o (l++ [x])=(m.wrs p o l).write true p (o+l.length) x
 | [],m,o=>by simp[wrs]
 | y::l,m,o=>by
  simp only[List.cons_append,wrs,List.length_cons];rw[pA p x l];congr 1;omega
@[simp] theorem ju(p:Int):∀(l:List Int)(m:Mem)(o:Int),(m.wrs p o l).S=m.S
 | [],_,_=>rfl
 |x::l,m,o=>by rw[wrs,ju p l,dD]
theorem HF {m:Mem}{a i:Int}{l:List Int}(c:l.length=26)(hi:0<=i/\i<26):m.wrs a 11 (l.take (i64.wrap (i+1)).toNat)=(m.wrs a 11 (l.take i.toNat)).write true a (i64.wrap (11+i)) (l.getD i.toNat 0):=by
 have b:i.toNat<l.length:=by omega
 rw[ay (x:=i+1) (by omega),ay (x:=11+i) (by omega),show(i+1).toNat=i.toNat+1 by omega,List.take_add_one,List.getElem?_eq_getElem b,List.getD_eq_getElem?_getD,List.getElem?_eq_getElem b];show m.wrs a 11 (l.take i.toNat++ [l[i.toNat]])=_;rw[pA,List.length_take];congr 1;omega
def dgW(m:Mem)(p:Int):List U32:=(List.range 26).map fun(i:Nat)=>uM (m.aI true p (11+(i:Int)))
theorem fA(m:Mem)(p:Int):(m.dgW p).length=26:=by rw[dgW,List.length_map,List.length_range]
theorem kd {m:Mem}(h:m.Wf)(p:Int):∀x∈m.dgW p,0<=x.v/\x.v<4294967296:=by
 intro x a;obtain⟨i,_,rfl⟩:=List.mem_map.1 a;exact cO h _ _ _
end Mem
namespace Dg
def KI(d:Dg):Prop:=d.Ok/\(d.n<16->d.st=S8.first)
theorem IS:new.KI:=⟨lG,λ_=>rfl⟩
theorem AL {l:List U32}(h:aL l=0):l.length=26/\nOf l<=36028797018963968/\(nOf l<16->lx l=S8.first)/\∀x∈l.drop (10+(nOf l % 16).toNat),x.v=0:=by
 unfold aL at h;split at h
 ·omega
 ·rename_i f;split at h
  ·omega
  ·rename_i a;split at h
   ·rename_i b;refine⟨by omega,by omega,λc=>?_,λx d=>by simpa using List.all_eq_true.1 b x d⟩;by_cases e:lx l=S8.first
    ·exact e
    ·exact absurd (.inr ⟨c,e⟩) a
   ·omega
theorem eX {l:List U32}(hw:∀x∈l,0<=x.v/\x.v<4294967296)(h:aL l=0):(load l).KI:=by
 obtain⟨f,b,c,_⟩:=AL h;have a:∀i,i<26->0<=(l.getD i ⟨0⟩).v/\(l.getD i ⟨0⟩).v<4294967296:=λi hi=>by
  rw[List.getD_eq_getElem?_getD,List.getElem?_eq_getElem (by omega)];exact hw _ (List.getElem_mem ..)
 have d:0<=nOf l:=by unfold nOf;have g:=a 8 (by omega);have j:=a 9 (by omega);omega
 refine⟨⟨⟨d,b⟩,?_,⟨a 0 (by omega),a 1 (by omega),a 2 (by omega),a 3 (by omega),a 4 (by omega),a 5 (by omega),a 6 (by omega),a 7 (by omega)⟩,λx e=>hw x (List.mem_of_mem_drop (List.mem_of_mem_take e))⟩,c⟩;show((l.drop 10).take (nOf l % 16).toNat).length=(nOf l % 16).toNat;rw[List.length_take,List.length_drop];omega
theorem vq {K:List Int}{d:Dg}{l:List U32}(h:d.KI)(c:∀x∈l,0<=x.v/\x.v<4294967296):(d.add K l).KI:=by
 refine⟨kz h.1 c,λa=>?_⟩;unfold add at a ⊢;split at a
 ·rename_i b;rw[if_pos b];exact h.2 a
 ·rename_i b;rw[if_neg b];have e:=h.1.n;have hw:=h.1.len;have a:d.n+l.length<16:=a;show(dN K d.st (d.waits++l)).1=_;rw[gV (by rw[List.length_append];omega)];exact h.2 (by omega)
theorem xp {d:Dg}(h:d.KI):aL (d.save.map uM)=0/\load (d.save.map uM)=d:=by
 have l:=h.1.n;have e:=h.1.len;have b:∀i,((d.save.map uM).getD i ⟨0⟩).v=d.save.getD i 0:=λi=>Ak;have g:d.save.getD 8 0=d.n / 4294967296:=rfl;have j:d.save.getD 9 0=d.n % 4294967296:=rfl;have c:nOf (d.save.map uM)=d.n:=by unfold nOf;rw[b,b,g,j];omega
 have hs:lx (d.save.map uM)=d.st:=by unfold lx;simp only[b];rfl
 have hd:(d.save.map uM).drop 10=d.waits++List.replicate (16 - d.waits.length) (uM 0):=by
  show((d.waits.map U32.v++List.replicate (16 - d.waits.length) 0).map uM)=_;rw[List.map_append,List.map_map,List.map_replicate];congr 1;exact(List.map_congr_left λx _=>rfl).trans (List.map_id _)
 refine⟨oU (by rw[List.length_map,kM h.1]) (by rw[c,hs];rintro(f|⟨f,k⟩);omega;exact k (h.2 f)) λi x a=>?_,?_⟩
 ·rw[c,<-List.drop_drop,hd,<-e,List.drop_left]at a;rw[List.getElem?_replicate]at a;split at a
  ·injection a with a;rw[<-a]
  ·cases a
 ·unfold load;rw[c,hs,hd,<-e,List.take_left]
end Dg
abbrev dy(l:List U32):Prop:=∀x∈l,0<=x.v/\x.v<4294967296
def opW(k a:Int)(l:List U32):List U32:= [uM k,uM a]++l
theorem Cs {k a:Int}(c:0<=a/\a<4294967296)(d:k=1\/k=2\/k=4):dy [uM (u32.wrap k),uM a]:=by
 rw[dV (by omega)];intro x b;rcases List.mem_cons.1 b with rfl|b
 ·show 0<=k/\k<4294967296;omega
 ·obtain rfl:=List.mem_singleton.1 b;exact c
theorem FR {a:Int}{l:List U32}(c:0<=a/\a<4294967296)(d:dy l):dy ([uM 3,uM a]++l):=by
 intro x b;simp only[List.cons_append,List.nil_append,List.mem_cons]at b;rcases b with rfl|rfl|b
 ·exact⟨by decide,by decide⟩
 ·exact c
 ·exact d x b
theorem Gn {k a:Int}(b:k=1\/k=2\/k=4):opW k a []= [uM (u32.wrap k),uM a]:=by
 rw[dV (by omega)];rfl
namespace W26
abbrev Ok(x:W26):Prop:=dy x.n
def ws(x:W26):List Int:=x.n.map U32.v
theorem PY(x:W26):x.n.length=26:=rfl
theorem HC(x:W26)(i:Nat):x.ws.getD i 0=(x.n.getD i (uM 0)).v:=by
 rw[ws,List.getD_eq_getElem?_getD,List.getD_eq_getElem?_getD,List.getElem?_map];cases x.n[i]? <;>rfl
theorem No {x:W26}(h:x.Ok){i:Nat}(hi:i<26):0<=x.ws.getD i 0/\x.ws.getD i 0<4294967296:=by
 rw[HC,List.getD_eq_getElem?_getD,List.getElem?_eq_getElem (by rw[PY];exact hi)];exact h _ (List.getElem_mem ..)
theorem Qs {l:List U32}{i:Int}(hi:0<=i/\i<26):(⟨W26.c (W26.mk l)⟩:Array Value)[i.toNat *1]? =some (O (l.getD i.toNat (uM 0)).v):=by
 have b:(⟨W26.c (W26.mk l)⟩:Array Value)[i.toNat *1]? =(aK (λj=>Value.int .u32 (l.getD j (uM 0)).v) (upN 0 26))[i.toNat *1]? :=by simp[W26.c]
 rw[b];obtain⟨j,a⟩:=cj (l:=upN 0 26) (i:=i.toNat) (by rw[fT];omega);rw[Nat.mul_one,<-aM,bx,a];have:=jv a;rw[show j=i.toNat by omega];rfl
theorem km(x:W26):x.ws.length=26:=rfl
end W26
theorem W26.LB {l:List U32}(h:l.length=26):W26.n (W26.mk l)=l:=by
 apply List.ext_getElem?;intro i;show(aK _ _)[i]? =_;rw[<-aM,bx];cases a:nth (upN 0 26) i with
 | none=>
  rw[List.getElem?_eq_none];rfl;by_cases hi:i<26
  ·obtain⟨_,b⟩:=cj (l:=upN 0 26) (i:=i) (by rw[fT];exact hi);rw[a]at b;cases b
  ·omega
 | some j=>
  have e:=jv a;have c:=aX a;rw[fT]at c;have d:j=i:=by omega
  subst d;show some (uM (l.getD j (uM 0)).v)=_;rw[List.getD_eq_getElem?_getD,List.getElem?_eq_getElem (by omega)];rfl
theorem W26.nn {l:List U32}(h:l.length=26):W26.n (W26.mk (W26.n (W26.mk l)))=l:=by rw[W26.LB h,W26.LB h]
theorem W26.Ax {l:List U32}(h:l.length=26)(a:dy l):W26.Ok (W26.mk (W26.n (W26.mk l))):=by
 show dy _;rw[W26.nn h];exact a
theorem Dg.svL_eq {d:Dg}(h:d.Ok):d.svL=d.save.map uM:=by
 have e:d.svL=W26.n (W26.mk (d.save.map uM)):=by
  show aK _ _=aK _ _;congr 1;funext j;rw[Ak]
 rw[e,W26.LB (by rw[List.length_map,Dg.kM h])]
theorem Dg.CC {d:Dg}(h:d.Ok):dy d.svL:=by
 rw[Dg.svL_eq h];intro x a;obtain⟨y,b,rfl⟩:=List.mem_map.1 a;exact Dg.oM h y b
theorem Dg.HY {d:Dg}(h:d.Ok):W26.ws (W26.mk (W26.n (W26.mk d.svL)))=d.save:=by
 show(W26.n _).map U32.v=_;rw[W26.nn (by rfl),Dg.svL_eq h,List.map_map];exact(List.map_congr_left λx _=>rfl).trans (List.map_id _)
namespace Mem
theorem Mb {m:Mem}{p:Int}{i:Nat}(hi:i<26):(m.dgW p)[i]? =some (uM (m.aI true p (11+(i:Int)))):=by
 unfold dgW;rw[List.getElem?_map,List.getElem?_range hi];rfl
theorem u9 {m:Mem}{p i:Int}{l:List U32}(hi:0<=i/\i<26)(h:l=(m.dgW p).take i.toNat++List.replicate (26 - i.toNat) (uM 0)):l.set i.toNat (uM (m.aI true p (i64.wrap (11+i))))=(m.dgW p).take (i64.wrap (i+1)).toNat++List.replicate (26 - (i64.wrap (i+1)).toNat) (uM 0):=by
 subst h;rw[ay (x:=i+1) (by omega),ay (x:=11+i) (by omega),show(i+1).toNat=i.toNat+1 by omega,List.take_add_one,Mb (by omega),show(11+((i.toNat:Nat):Int))=11+i by omega,show 26 - i.toNat=(26 - (i.toNat+1))+1 by omega,List.replicate_succ];have a:((m.dgW p).take i.toNat).length=i.toNat:=by rw[List.length_take,fA];omega
 rw[List.set_append,if_neg (by omega),a,Nat.sub_self];simp
theorem zb {m:Mem}{p i:Int}(hi:i=26):(m.dgW p).take i.toNat++List.replicate (26 - i.toNat) (uM 0)=m.dgW p:=by
 subst hi;show(m.dgW p).take 26++ []=_;rw[List.append_nil,List.take_of_length_le (by rw[fA];omega)]
end Mem
theorem CY {k a:Int}{l:List U32}(c:0<=a/\a<4294967296)(e:k=1\/k=2\/k=3\/k=4)(d:dy l):dy (opW k a l):=by
 intro x b;simp only[opW,List.cons_append,List.nil_append,List.mem_cons]at b;rcases b with rfl|rfl|b
 ·show 0<=k/\k<4294967296;omega
 ·exact c
 ·exact d x b
def Mem.msd(kk:List Int)(m:Mem)(p k a:Int)(l:List U32):Mem:=
 if Dg.aL (m.dgW p)=0 then m.wrs p 11 ((Dg.load (m.dgW p)).add kk (opW k a l)).save else m
theorem Mem.sy(kk:List Int)(m:Mem)(p k a:Int)(l:List U32):(m.msd kk p k a l).S=m.S:=by unfold Mem.msd;split<;>simp
theorem MX {U:Uni}{rs c:List (Res U)}(d:∀i b,nth c i=some b->∃a,nth rs i=some a/\(rw1 b=true->rw1 a=true)/\∀X w,RS X w a->RS X w b){i:Nat}(hi:i<c.length)(h:rwB c i=true):rwB rs i=true:=by
 obtain⟨b,hb⟩:=cj hi;obtain⟨a,e,hw,_⟩:=d i b hb;unfold rwB at h ⊢;rw[hb]at h;rw[e];exact hw h
theorem Sat.swap {U:Uni}{rs c:List (Res U)}{X:Nat->Nat->Prop}{w:World}(l:c.length=rs.length)(d:∀i b,nth c i=some b->∃a,nth rs i=some a/\(rw1 b=true->rw1 a=true)/\∀X w,RS X w a->RS X w b)(h:Sat rs X w):Sat c X w:=
 ⟨λi b hb=>by obtain⟨a,e,_,f⟩:=d i b hb;exact f _ _ (h.res i a e),λi j hi o g k=>h.gX i j (by omega) (by omega) g (MY k (MX d (by omega)) (MX d (by omega)))⟩
theorem aR.swap {U:Uni}{rs c:List (Res U)}{X:Nat->Nat->Prop}{w f:World}{Q g:Ou U->Prop}{e:Ending}(j:c.length=rs.length)(p:∀i b,nth c i=some b->∃a,nth rs i=some a/\(rw1 b=true->rw1 a=true)/\∀X w,RS X w a->RS X w b)
 (q:∀out,Q out->g out/\(KnO (rs++out.news) out.res out.kr->KnO (c++out.news) out.res out.kr)/\out.kc= [])(h:aR rs [] X w Q e f):aR c [] X w g e f:=by
 obtain⟨out,rs',r,he,hq,d,hp⟩:=h;obtain⟨s,t,u⟩:=q out hq;have hu:out.upd= []/\rs'=rs:=by
  cases hu:out.upd with
  |nil=>rw[hu]at d;simp only[br,Option.some.injEq]at d;exact⟨rfl,d.symm⟩
  |cons a l=>rw[hu]at d;cases d
 obtain⟨hu,rfl⟩:=hu;have v:∀i b,nth (c++out.news) i=some b->∃a,nth (rs'++out.news) i=some a/\(rw1 b=true->rw1 a=true)/\∀X w,RS X w a->RS X w b:=by
  intro i b hb;rw[aP]at hb ⊢;rw[j]at hb;split at hb
  ·rename_i hi;rw[if_pos hi];exact p i b hb
  ·rename_i hi;rw[if_neg hi];exact⟨b,hb,id,λ_ _ h=>h⟩
 refine⟨out,c,r,he,s,by rw[hu];rfl,Sat.swap (by simp[j]) v hp.sat,hp.ch,λi hi=>hp.same i (by omega),hp.grow,λi hi x=>hp.new i (by omega) (by omega),hp.kr.imp id t,λkey k o=>by rw[u]at o;cases o⟩
theorem EC {T:TypeId}{x:Wt}{r:Nat->Nat}{rest:List (Res Un)}:∀i b,nth (Res.ob 8 r x::rest) i=some b->∃a,nth (Res.lst 1 false T x.A x.c x.l::rest) i=some a/\(rw1 b=true->rw1 a=true)/\∀X w,RS X w a->RS X w b
 | 0,b,h=>by
  simp only[nth,Option.some.injEq]at h;subst h;exact⟨_,rfl,λh=>(by cases h),λ_ _ h=>h⟩
 |i+1,b,h=>⟨b,h,id,λ_ _ h=>h⟩
theorem AJ {T:TypeId}{x:Wt}{r:Nat->Nat}{rest:List (Res Un)}:∀i b,nth (Res.lst 1 false T x.A x.c x.l::rest) i=some b->∃a,nth (Res.ob 8 r x::rest) i=some a/\(rw1 b=true->rw1 a=true)/\∀X w,RS X w a->RS X w b
 | 0,b,h=>by
  simp only[nth,Option.some.injEq]at h;subst h;exact⟨_,rfl,λh=>(by cases h),λ_ _ h=>h⟩
 |i+1,b,h=>⟨b,h,id,λ_ _ h=>h⟩
section
attribute [local irreducible] Vc2 VcD
def qF:Ctr Un:=⟨[.one (.sl 0)],[],[.ob 7 []],[],λrw l K=>dy l/\split (decide (Dg.aL l=0)) (∀(a:Nat->Nat),K ⟨(.tuple #[(.pointer (pvA (a 0))),J 0]),(some (.t [(some (.obj 1 0 0)),none])),[],[(.ob 4 a (Dg.load l))],[]⟩) (∀(dp:Value),K ⟨(.tuple #[dp,J (Dg.aL l)]),kn2,[],[],[]⟩)⟩
theorem vJ:LV Un prog 102 qF:=by
 show ∀(rw:Nat->Nat)(l:List U32),∀Q:Ou Un->Prop,(dy l/\split (decide (Dg.aL l=0)) (∀(b:Nat->Nat),Q ⟨(.tuple #[(.pointer (pvA (b 0))),J 0]),(some (.t [(some (.obj 1 0 0)),none])),[],[(.ob 4 b (Dg.load l))],[]⟩) (∀(dp:Value),Q ⟨(.tuple #[dp,J (Dg.aL l)]),kn2,[],[],[]⟩))->∀(X:bP)(w:World),Sat (U:=Un) [(.ob 7 rw l)] X w->aG (U:=Un) [(.ob 7 rw l)] fr0 []->Calls prog 102 #[(.slice (pvA (rw 0)) l.length l.length)] w (aR (U:=Un) [(.ob 7 rw l)] [] X w Q);intro rw l Q a X w hs r;obtain⟨hw,a⟩:=a;obtain⟨d,f⟩:=(hs.res 0 _ rfl:bO 7 rw l (X 0) w);have i:Rd w (X 0) (pvA (rw 0)) l.length l.length l:=ES d f;refine(PJ i hw).mono ?_;rintro e c ⟨u,rfl,p,rfl,j,q⟩;by_cases he:Dg.aL l=0
 ·obtain⟨g,L,rfl,k,o⟩:=j he;have a:=cg a (decide_eq_true he) (λ_=>g);rw[he];exact aR.IU (Z:=L.X g) hs q (show RS (U:=Un) (L.X g) c (.ob 4 (λ_=>g) (Dg.load l))from(⟨L,λ_=>Iff.rfl,k⟩:bO 4 (λ_=>g) (Dg.load l) (L.X g) c)) o a (KnO.pair rfl) (λ_ _ h=>by cases h)
 ·exact aR.pu hs q (cA a (decide_eq_false he) (.pointer p)) (KnO.tup _ (by simp))
def nk:Ctr Un:=⟨[],[],[],[],λK=>K ⟨(.agg ⟨Dg.sv Dg.new⟩),none,[],[],[]⟩⟩
def KB(Q:Ou Un->Prop):Prop:=∀(a:Nat),∀(s:List U32),s=(W26.n (W26.mk []))->∀(b:Nat->Nat),∀(s1:Dg),s1=Dg.new->s1.Ok/\(s.length=26)/\∀(s2:List U32),s2=(Dg.svL s1)->(26<=s2.length)/\Q ⟨(.agg ⟨W26.c (W26.mk s2)⟩),none,[],[],[]⟩
theorem KC:Vc2 Un prog (iy [(91,DN),(92,qE)]) [] Tryz.f60 .leaf [] nk=(∀Q,(nk.body Q)->KB Q):=by kernel_rfl
theorem KA:LV Un prog 60 nk:=verify Tryz.func60 ak (tb:= [(91,DN),(92,qE)]) ⟨Pc,zq,trivial⟩ (by kernel_rfl) (KC.mpr λQ h d s c e s1 a=>aj (by rw[a];exact Dg.lG) λs1=>aj (by rw[c];rfl) λs2 s2 b=>aj (by rw[b];exact Nat.le_refl 26) λs3=>aw h (by rw[b,a];rfl) rfl rfl)
def nm:Ctr Un:=⟨[.agg [.int .i64,.int .u32],.one (.nsl)],[],[],[],λk a K=>∀(A:oA)(c:Nat),K ⟨(.slice A ([uM (u32.wrap k),uM a].length) c),(some (.p (.sl 0 0))),[],[(.lst 1 true 23 A c ([uM (u32.wrap k),uM a]))],[]⟩⟩
theorem BS:LV Un prog 212 nm:=bR Tryz.func212 ak [] trivial [] .leaf [2] (F:=∀k a Q,nm.body k a Q->∀(b:Nat),∀(d:Nat),∀(l:List U32),l=([uM (u32.wrap k),uM a]:List U32)->(l.length*4<=140737488355328)/\∀(A:oA)(c:Nat),∀(l1:List U32),l1=l->Q ⟨(.slice A l.length c),(some (.p (.sl 0 0))),[],[(.lst 1 true 23 A c l1)],[]⟩) λk a Q h b d l e=>aj (by grind) λs1 A c l1 f=>(by(have g: [uM (u32.wrap k),uM a]=l1:=by subst_vars;rfl);exact aw (h A c) (by grind) rfl (ai (congrArg (Res.lst (U:=Un) 1 true 23 _ _) ‹_›) rfl))
def sU:Ctr Un:=⟨[.agg [.int .u32,.sl 0],.one (.nsl)],[],[.lst 1 false 23],[],λa b d l K=>l.length<=1024/\∀(A:oA)(c:Nat),K ⟨(.slice A (([uM 3,uM a]++(show List U32 from l)).length) c),(some (.p (.sl 1 0))),[],[(.lst 1 true 23 A c ([uM 3,uM a]++(show List U32 from l)))],[]⟩⟩
def BU(a:Int)(f:oA)(g:Nat)(l:List U32)(Q:Ou Un->Prop):Prop:=∀(h:Nat),∀(i:Nat),∀(l1:List U32),l1=([uM 3,uM a]:List U32)->(l1.length*4<=140737488355328)/\∀(A:oA)(c:Nat),∀(l2:List U32),l2=l1->((l2.length+l.length)*4<=140737488355328)/\∀(b:oA)(d:Nat),∀(e:List U32),e=(l2++l)->Q ⟨(.slice b ((l2++l).length) d),(some (.p (.sl 1 0))),[],[(.lst 1 true 23 b d e)],[]⟩
theorem BV:Vc2 Un prog (iy []) [] Tryz.f211 (.r' (.two (.node [] none [] [(2,[1]),(6,[1])] .leaf .leaf) .leaf)) [3] sU=(∀a b d (l:List U32),∀Q,(l.length<=1024/\∀(A:oA)(c:Nat),Q ⟨(.slice A (([uM 3,uM a]++(show List U32 from l)).length) c),(some (.p (.sl 1 0))),[],[(.lst 1 true 23 A c ([uM 3,uM a]++(show List U32 from l)))],[]⟩)->BU a b d l Q):=by kernel_rfl
theorem BT:LV Un prog 211 sU:=verify Tryz.func211 ak (tb:= []) trivial (by kernel_rfl) (BV.mpr λa f g l Q h=>by
 obtain⟨i,h⟩:=h;exact λj k l1 o=>aj (by subst_vars;simp;try omega) λs1 A c l2 p=>aj (by subst_vars;simp;try omega) λs2 b d e q=>(by(have r: [uM 3,uM a]++l=e:=by subst_vars;rfl);exact aw (h b d) (by grind) rfl (ai (congrArg (Res.lst (U:=Un) 1 true 23 _ _) ‹_›) rfl)))
def vL:Ctr Un:=⟨[.agg [.int .u32,.hdr],.one (.nsl)],[(0,8)],[.ob 8 []],[],λa b d e rw x K=>(b=Wt.A x/\d=(Wt.l x).length/\e=Wt.c x)/\(Wt.l x).length<=1024/\∀(A:oA)(c:Nat),K ⟨(.slice A (([uM 3,uM a]++(show List U32 from(Wt.l x))).length) c),(some (.p (.sl 1 0))),[],[(.lst 1 true 23 A c ([uM 3,uM a]++(show List U32 from(Wt.l x))))],[]⟩⟩
theorem DR:LV Un prog 211 vL:=by
 show ∀(a:Int)(b:oA)(d f:Nat) (rw:Nat->Nat)(x:Wt),∀Q:Ou Un->Prop,((b=Wt.A x/\d=(Wt.l x).length/\f=Wt.c x)/\(Wt.l x).length<=1024/\∀(A:oA)(c:Nat),Q ⟨(.slice A (([uM 3,uM a]++(show List U32 from(Wt.l x))).length) c),(some (.p (.sl 1 0))),[],[(.lst 1 true 23 A c ([uM 3,uM a]++(show List U32 from(Wt.l x))))],[]⟩)->∀(X:bP)(w:World),Sat (U:=Un) [(.ob 8 rw x)] X w->aG (U:=Un) [(.ob 8 rw x)] fr0 []->Calls prog 211 #[(.agg #[O a,(.slice b d f)]),(.slice none 0 0)] w (aR (U:=Un) [(.ob 8 rw x)] [] X w Q);intro a b d f rw x Q g X w hs j;obtain⟨⟨rfl,rfl,rfl⟩,hle,g⟩:=g;refine(BT a x.A x.c x.l (λout=>Q out/\∃A c,out=⟨.slice A ([uM 3,uM a]++x.l).length c,some (.p (.sl 1 0)),[],[.lst 1 true 23 A c ([uM 3,uM a]++x.l)],[]⟩) ⟨hle,λA c=>⟨g A c,A,c,rfl⟩⟩ X w (show Sat (U:=Un) [.lst 1 false 23 x.A x.c x.l] X w from Sat.swap (rs:= [.ob 8 rw x]) rfl (AJ (x:=x)) hs) (λ_ _ h=>by cases h)).mono λe i h=>?_;refine aR.swap (rs:= [.lst 1 false 23 x.A x.c x.l]) rfl (EC (x:=x)) (λout h=>?_) (show aR (U:=Un) [.lst 1 false 23 x.A x.c x.l] [] X w _ e i from h);obtain⟨h,A,c,rfl⟩:=h;exact⟨h,id,rfl⟩
def rK:Ctr Un:=⟨[.agg [.int .i64,.int .u32,.nsl]],[],[],[],λk a K=>((k:Int)=1\/(k:Int)=2\/(k:Int)=4)/\K ⟨(.tuple #[(.iface 233 (.agg #[J k,O a])),J 0]),kn2,[],[],[]⟩⟩
theorem G6:LV Un prog 111 rK:=bR Tryz.func111 ak [] trivial [4,20] (.r' (.two (.two (.two (.node [] (some ⟨[(4,(.one .bool))],[],upN 4 10,[]⟩) [] [] .leaf .leaf) (.r' (.two (.node [] (some ⟨[(20,(.one .bool))],[],upN 20 20,[]⟩) [] [] .leaf .leaf) .leaf))) .leaf) .leaf)) [] (F:=∀k a Q,rK.body k a Q->∀(f:Nat),∃e:Bool->Prop,(split (k==3) (∀c:Bool,c=((((0:Nat):Int):Int)==1024)->e c) (∀c:Bool,c=false->e c))/\∀(q:Nat->Value)(c:Bool),e c->split c (Q ⟨(.tuple #[(.iface 231 (.agg #[O a,(.slice none 0 0)])),J 0]),kn2,[],[],[]⟩) (∃d:Bool->Prop,(split (decide (k>=1)) (split (decide (k<5)) (split (k !=3) (∀b:Bool,b=((((0:Nat):Int):Int)==0)->d b) (∀b:Bool,b=false->d b)) (∀b:Bool,b=false->d b)) (∀b:Bool,b=false->d b))/\∀(r:Nat->Value)(b:Bool),d b->split b (Q ⟨(.tuple #[(.iface 233 (.agg #[J k,O a])),J 0]),kn2,[],[],[]⟩) (Q ⟨(.tuple #[.nilIface,J 150]),kn2,[],[],[]⟩))) λk a Q h=>by
 obtain⟨s,h⟩:=h;exact λf=>eS (((k:Int)==3) && ((((0:Nat):Int):Int)==1024)) (ao (λg=>allEq<| (by grind)) λg=>allEq<| (by grind))<| cT (λi=>aw h (bJ (ai (by grind) rfl)) rfl rfl) λi=>eS ((decide ((k:Int)>=1)) && ((decide ((k:Int)<5)) && (((k:Int) !=3) && ((((0:Nat):Int):Int)==0)))) (ao (λj=>ao (λl=>ao (λo=>allEq<| (by grind)) λo=>allEq<| (by grind)) λl=>allEq<| (by grind)) λj=>allEq<| (by grind))<| cT (λp=>h) λp=>aw h (bJ (ai (by grind) (ai (aJ (by grind)) rfl))) rfl rfl
def rL:Ctr Un:=⟨[.agg [.int .i64,.int .u32,.hdr]],[],[],[],λk a c b d K=>(k:Int)=3/\b=1024/\K ⟨(.tuple #[(.iface 231 (.agg #[O a,(.slice c b d)])),J 0]),kn2,[],[],[]⟩⟩
theorem G7:LV Un prog 111 rL:=bR Tryz.func111 ak [] trivial [4,20] (.r' (.two (.two (.two (.node [] (some ⟨[(4,(.one .bool))],[],upN 4 10,[]⟩) [] [] .leaf .leaf) (.r' (.two (.node [] (some ⟨[(20,(.one .bool))],[],upN 20 20,[]⟩) [] [] .leaf .leaf) .leaf))) .leaf) .leaf)) [] (F:=∀k a f d g Q,rL.body k a f d g Q->∀(j:Nat),∃i:Bool->Prop,(split (k==3) (∀c:Bool,c=((((d:Nat):Int):Int)==1024)->i c) (∀c:Bool,c=false->i c))/\∀(t:Nat->Value)(c:Bool),i c->split c (Q ⟨(.tuple #[(.iface 231 (.agg #[O a,(.slice f d g)])),J 0]),kn2,[],[],[]⟩) (∃e:Bool->Prop,(split (decide (k>=1)) (split (decide (k<5)) (split (k !=3) (∀b:Bool,b=((((d:Nat):Int):Int)==0)->e b) (∀b:Bool,b=false->e b)) (∀b:Bool,b=false->e b)) (∀b:Bool,b=false->e b))/\∀(u:Nat->Value)(b:Bool),e b->split b (Q ⟨(.tuple #[(.iface 233 (.agg #[J k,O a])),J 0]),kn2,[],[],[]⟩) (Q ⟨(.tuple #[.nilIface,J 150]),kn2,[],[],[]⟩))) λk a f d g Q h=>by
 obtain⟨v,x,h⟩:=h;exact λj=>eS (((k:Int)==3) && ((((d:Nat):Int):Int)==1024)) (ao (λl=>allEq<| (by grind)) λl=>allEq<| (by grind))<| cT (λo=>h) λo=>eS ((decide ((k:Int)>=1)) && ((decide ((k:Int)<5)) && (((k:Int) !=3) && ((((d:Nat):Int):Int)==0)))) (ao (λp=>ao (λq=>ao (λr=>allEq<| (by grind)) λr=>allEq<| (by grind)) λq=>allEq<| (by grind)) λp=>allEq<| (by grind))<| cT (λs=>aw h (bJ (ai (by grind) rfl)) rfl rfl) λs=>aw h (bJ (ai (by grind) (ai (aJ (by grind)) rfl))) rfl rfl
def pr:Ctr Un:=⟨[.enc 8,.agg [.int .i64,.int .u32,.nsl]],[(0,5)],[.ob 5 []],[],λf k a b kk K=>W26.Ok f/\(0<=(a:Int)/\(a:Int)<4294967296)/\((k:Int)=1\/(k:Int)=2\/(k:Int)=4)/\split (decide ((Dg.aL (W26.n f))=0)) (K ⟨(.tuple #[(.agg ⟨Dg.sv ((Dg.load (W26.n f)).add kk (opW k a []))⟩),J 0]),kn2,[],[],[]⟩) (K ⟨(.tuple #[(.agg ⟨W26.c (W26.mk [])⟩),J (Dg.aL (W26.n f))]),kn2,[],[],[]⟩)⟩
theorem DT:LV Un prog 96 pr:=bR Tryz.func96 ak [(111,rK),(102,qF),(212,nm),(112,DQ),(92,qE)] ⟨G6,vJ,BS,Kz,zq,trivial⟩ [] .leaf [] (F:=∀(f:W26) k a e (kk:List Int) Q,pr.body f k a e kk Q->∀(j:Nat),∀(s:List U32),s=(W26.n f)->∀(o:Nat),∀(p:Nat),∀(s1:List U32),s1=(W26.n (W26.mk []))->(k=1\/k=2\/k=4)/\((s.length=26/\s.length=26)/\0<26)/\dy s/\split (decide (Dg.aL s=0)) (∀(q:Nat->Nat),∀(s2:Dg),s2=(Dg.load s)->∀(A:oA)(c:Nat),∀(l:List U32),l= [uM (u32.wrap k),uM a]->s2.Ok/\l.length<=1099511627776/\∀(s3:Dg),s3=(s2.add kk l)->s3.Ok/\(s1.length=26)/\∀(b:List U32),b=(Dg.svL s3)->(26<=b.length)/\Q ⟨(.tuple #[(.agg ⟨W26.c (W26.mk b)⟩),J 0]),kn2,[],[],[]⟩) (∀(dp:Value),split ((Dg.aL s) !=0) ((s1.length=26)/\∀(s2:List U32),s2=(W26.n (W26.mk []))->(26<=s2.length)/\Q ⟨(.tuple #[(.agg ⟨W26.c (W26.mk s2)⟩),J (Dg.aL s)]),kn2,[],[],[]⟩) (∀(A:oA)(c:Nat),∀(l:List U32),l= [uM (u32.wrap k),uM a]->False))) λf k a e kk Q h=>by
 obtain⟨g,r,i,h⟩:=h;exact λj s x o p s1 y=>aj ‹_› λe1=>aj (by subst_vars;exact⟨⟨rfl,rfl⟩,by omega⟩) λz=>aj (by subst_vars;assumption) λB=>av (λd q s2 t A c l u=>aj (by subst_vars;exact(Dg.eX g (by simpa using d)).1) λC=>aj (by grind) λe5 s3 D=>aj (by subst_vars;exact Dg.kz (Dg.eX g (by simpa using d)).1 (Cs r i)) λe6=>aj (by(subst_vars;rfl)) λE b G=>aj (by subst_vars;exact Nat.le_refl 26) λH=>aw (cg h (by grind)) (by subst_vars;rw[Gn i];rfl) rfl rfl) λd dp=>ax (λv=>aj (by(subst_vars;rfl)) λI s2 t=>aj (by subst_vars;exact Nat.le_refl 26) λK=>aw (cA h (by grind)) (by(subst_vars;rfl)) rfl rfl) λv A c l u=>(by exfalso;omega)
def vM:Ctr Un:=⟨[.enc 8,.agg [.int .i64,.int .u32,.hdr]],[(0,8),(1,5)],[.ob 8 [],.ob 5 []],[],λf k a b c d rw x e kk K=>W26.Ok f/\(0<=(a:Int)/\(a:Int)<4294967296)/\(k:Int)=3/\(b=Wt.A x/\c=(Wt.l x).length/\d=Wt.c x)/\(Wt.l x).length=1024/\dy (Wt.l x)/\split (decide ((Dg.aL (W26.n f))=0)) (K ⟨(.tuple #[(.agg ⟨Dg.sv ((Dg.load (W26.n f)).add kk (opW k a (Wt.l x)))⟩),J 0]),kn2,[],[],[]⟩) (K ⟨(.tuple #[(.agg ⟨W26.c (W26.mk [])⟩),J (Dg.aL (W26.n f))]),kn2,[],[],[]⟩)⟩
theorem DS:LV Un prog 96 vM:=bR Tryz.func96 ak [(111,rL),(102,qF),(211,vL),(112,DQ),(92,qE)] ⟨G7,vJ,DR,Kz,zq,trivial⟩ [] .leaf [] (F:=∀(f:W26) k a d b e rw (x:Wt) j (kk:List Int) Q,vM.body f k a d b e rw x j kk Q->∀(p:Nat),∀(s:List U32),s=(W26.n f)->∀(q:Nat),∀(r:Nat),∀(s1:List U32),s1=(W26.n (W26.mk []))->k=3/\b=1024/\((s.length=26/\s.length=26)/\0<26)/\dy s/\split (decide (Dg.aL s=0)) (∀(t:Nat->Nat),∀(s2:Dg),s2=(Dg.load s)->(d=Wt.A x/\b=(Wt.l x).length/\e=Wt.c x)/\(Wt.l x).length<=1024/\∀(A:oA)(c:Nat),∀(l:List U32),l=([uM 3,uM a]++(show List U32 from(Wt.l x)))->s2.Ok/\l.length<=1099511627776/\∀(s3:Dg),s3=(s2.add kk l)->s3.Ok/\(s1.length=26)/\∀(g:List U32),g=(Dg.svL s3)->(26<=g.length)/\Q ⟨(.tuple #[(.agg ⟨W26.c (W26.mk g)⟩),J 0]),kn2,[],[],[]⟩) (∀(dp:Value),split ((Dg.aL s) !=0) ((s1.length=26)/\∀(s2:List U32),s2=(W26.n (W26.mk []))->(26<=s2.length)/\Q ⟨(.tuple #[(.agg ⟨W26.c (W26.mk s2)⟩),J (Dg.aL s)]),kn2,[],[],[]⟩) ((d=Wt.A x/\b=(Wt.l x).length/\e=Wt.c x)/\(Wt.l x).length<=1024/\∀(A:oA)(c:Nat),∀(l:List U32),l=([uM 3,uM a]++(show List U32 from(Wt.l x)))->False))) λf k a d b e rw x j kk Q h=>by
 obtain⟨o,u,C,D,E,v,h⟩:=h;exact λp s G q r s1 H=>aj ‹_› λe1=>aj (by omega) λI=>aj (by subst_vars;exact⟨⟨rfl,rfl⟩,by omega⟩) λK=>aj (by subst_vars;assumption) λM=>av (λi t s2 y=>aj ‹_› λe5=>aj (by omega) λe6 A c l z=>aj (by subst_vars;exact(Dg.eX o (by simpa using i)).1) λO=>aj (by grind) λR s3 S=>aj (by subst_vars;exact Dg.kz (Dg.eX o (by simpa using i)).1 (FR u v)) λT=>aj (by(subst_vars;rfl)) λV g W=>aj (by subst_vars;exact Nat.le_refl 26) λY=>aw (cg h (by grind)) (by(subst_vars;rfl)) rfl rfl) λi dp=>ax (λB=>aj (by(subst_vars;rfl)) λZ s2 y=>aj (by subst_vars;exact Nat.le_refl 26) λaa=>aw (cA h (by grind)) (by(subst_vars;rfl)) rfl rfl) λB=>aj ‹_› λab=>aj (by omega) λae A c l z=>(by exfalso;omega)
def px:Ctr Un:=⟨[.enc 8,.agg [.int .i64,.int .u32,.sl 0]],[(1,5)],[.lst 1 false 23,.ob 5 []],[],λf k a b c l d kk K=>W26.Ok f/\(0<=(a:Int)/\(a:Int)<4294967296)/\(k:Int)=3/\l.length=1024/\dy l/\split (decide ((Dg.aL (W26.n f))=0)) (K ⟨(.tuple #[(.agg ⟨Dg.sv ((Dg.load (W26.n f)).add kk (opW k a l))⟩),J 0]),kn2,[],[],[]⟩) (K ⟨(.tuple #[(.agg ⟨W26.c (W26.mk [])⟩),J (Dg.aL (W26.n f))]),kn2,[],[],[]⟩)⟩
theorem DU:LV Un prog 96 px:=by
 show ∀(f:W26)(k a:Int)(c:oA)(d:Nat)(l:List U32)(g:Nat->Nat)(kk:List Int),∀Q:Ou Un->Prop,(W26.Ok f/\(0<=(a:Int)/\(a:Int)<4294967296)/\(k:Int)=3/\l.length=1024/\dy l/\split (decide ((Dg.aL (W26.n f))=0)) (Q ⟨(.tuple #[(.agg ⟨Dg.sv ((Dg.load (W26.n f)).add kk (opW k a l))⟩),J 0]),kn2,[],[],[]⟩) (Q ⟨(.tuple #[(.agg ⟨W26.c (W26.mk [])⟩),J (Dg.aL (W26.n f))]),kn2,[],[],[]⟩))->∀(X:bP)(w:World),Sat (U:=Un) [(.lst 1 false 23 c d l),(.ob 5 g kk)] X w->aG (U:=Un) [(.lst 1 false 23 c d l),(.ob 5 g kk)] fr0 []->Calls prog 96 #[(.agg ⟨W26.c f⟩),(.agg #[J k,O a,(.slice c l.length d)])] w (aR (U:=Un) [(.lst 1 false 23 c d l),(.ob 5 g kk)] [] X w Q);intro f k a c d l g kk Q i X w hs y;obtain⟨j,o,p,q,r,i⟩:=i;refine(DS f k a c l.length d (λ_=>0) ⟨c,d,l⟩ g kk (λout=>Q out/\out.kr=some (.t [none,none])/\(∃a b,out.res=.tuple #[a,b])/\out.kc= []) ⟨j,o,p,⟨rfl,rfl,rfl⟩,q,r,?_⟩ X w (show Sat (U:=Un) [.ob 8 (λ_=>0) (⟨c,d,l⟩:Wt),.ob 5 g kk] X w from Sat.swap (rs:= [.lst 1 false 23 c d l,.ob 5 g kk]) rfl (EC (x:=⟨c,d,l⟩)) hs) (λ_ _ h=>by cases h)).mono λe s h=>?_
 ·rcases gK i with⟨hb,i⟩|⟨hb,i⟩
  ·exact ao (λ_=>⟨i,rfl,⟨_,_,rfl⟩,rfl⟩) (λh=>by rw[hb]at h;cases h)
  ·exact ao (λh=>by rw[hb]at h;cases h) (λ_=>⟨i,rfl,⟨_,_,rfl⟩,rfl⟩)
 refine aR.swap (rs:= [.ob 8 (λ_=>0) (⟨c,d,l⟩:Wt),.ob 5 g kk]) rfl (AJ (x:=⟨c,d,l⟩)) (λout h=>?_) (show aR (U:=Un) [.ob 8 (λ_=>0) (⟨c,d,l⟩:Wt),.ob 5 g kk] [] X w _ e s from h);obtain⟨h,t,⟨a',b',u⟩,v⟩:=h;exact⟨h,λ_=>by rw[t,u];exact KnO.tup _ (by simp),v⟩
end
theorem BW(c:oA)(d f:Int){R:aV}{w:World}(h:∀(b:Nat)(a:World),b=w.heap.size->a=w.alloc (.cells #[(.pointer c),J d,J f] 197)->∃g:oA,a.cell? ((vA b).add 0)=some (.pointer g)/\∃i:Int,a.cell? ((vA b).add 1)=some (J i)/\∃j:Int,a.cell? ((vA b).add 2)=some (J j)/\Calls prog 39 #[(.pointer g),(.agg #[vB true,J i]),J j] a λe l=>∃k o:Int,e=.returned (.tuple #[O k,J o])/\R (O k) l):Calls prog 109 #[(.agg #[(.pointer c),J d,J f])] w (bI R):=rvc [] (.leaf) Tryz.func109 h
theorem DX(c:oA)(d f g:Int){R:aV}{w:World}(h:∀(b:Nat)(a:World),b=w.heap.size->a=w.alloc (.cells #[(.pointer c),J d,J f] 197)->∃i:oA,a.cell? ((vA b).add 0)=some (.pointer i)/\∃j:Int,a.cell? ((vA b).add 1)=some (J j)/\∃k:Int,a.cell? ((vA b).add 2)=some (J k)/\Calls prog 36 #[(.pointer i),(.agg #[vB true,J j]),J k,O g] a λe l=>∃o:Int,e=.returned (J o)/\R (.tuple #[]) l):Calls prog 110 #[(.agg #[(.pointer c),J d,J f]),O g] w (bI R):=rvc [] (.leaf) Tryz.func110 h
section
section
variable {w:World}{L:fO}{m:Mem}
theorem PT(h:cJ w L m)(p o:Int):
 Calls prog 109 #[.agg #[ptr L.g,.int .i64 p,.int .i64 o]] w λe b=>∃v,e=.returned v/\v=.int .u32 (m.aI true p o)/\cJ b L m/\Ch L.X w b:=by
 refine BW _ p o ?_;intro f w1 d hw;have a:=made d hw;refine⟨_,a.blk.at rfl,_,a.blk.at rfl,_,a.blk.at rfl,(M5 (h.pu a.pu) true p o).mono ?_⟩;rintro e w2 ⟨_,rfl,rfl,c,q⟩;rw[Mem.MZ]at c;exact⟨_,_,rfl,rfl,c,((Ch.refl _ w).made a).trans q⟩
theorem QU(h:cJ w L m)(p o v:Int)(c:0<=v/\v<4294967296):
 Calls prog 110 #[.agg #[ptr L.g,.int .i64 p,.int .i64 o],.int .u32 v] w λe b=>∃u,e=.returned u/\u=.tuple #[]/\cJ b L (m.write true p o v)/\Ch L.X w b:=by
 refine DX _ p o v ?_;intro g w1 d hw;have a:=made d hw;refine⟨_,a.blk.at rfl,_,a.blk.at rfl,_,a.blk.at rfl,(Dc (h.pu a.pu) true p o v c).mono ?_⟩;rintro e w2 ⟨_,rfl,rfl,f,q⟩;exact⟨_,rfl,rfl,f,((Ch.refl _ w).made a).trans q⟩
end
end
section
abbrev pkS(E:Pd)(m:Mem)(s va:Int):Int:=m.aI true (if(E.on m).dZ s va=0 then(E.on m).plP s va else 0) (if(E.on m).dZ s va=0 then vaJ va else 0)
attribute [local irreducible] Vc2 VcD
attribute [local grind=] Pd.jb Pd.gQ Pd.mM Pd.sw Pd.bT Pd.ku Pd.mL Pd.j5 Pd.sj Pd.yP
attribute [local grind .] Pd.Ok.ent
attribute [local grind→] Pd.Ok.ir
def nd:Ctr Un:=⟨[.one (.int .u32)],[],[],[],λv K=>(0<=(v:Int)/\(v:Int)<4294967296)/\K ⟨(.tuple #[J (vaI v),J (vaJ v),J (vaO v),J (iw v)]),kn4,[],[],[]⟩⟩
theorem vv:LV Un prog 122 nd:=bR Tryz.func122 ak [] trivial [] (.r' (.two (.two (.node [] (some ⟨[(12,(.one .bool))],[],upN 6 7,[]⟩) [] [] .leaf .leaf) .leaf) .leaf)) [] (F:=∀v Q,nd.body v Q->∃c:Bool->Prop,(split (decide (v>=1073741824)) (c true) (c ((v.tmod 4) !=0)))/\∀(j:Nat->Value)(f:Bool),c f->split f (Q ⟨(.tuple #[J 0,J 0,J 0,J 91]),kn4,[],[],[]⟩) (Q ⟨(.tuple #[J (i64.wrap (v.fdiv (2 ^ 22))),J (i64.wrap (u32.wrap (BitVec.ofInt u32.bits (v.fdiv (2 ^ 12)) &&& BitVec.ofInt u32.bits 1023).toNat)),J (i64.wrap (u32.wrap (BitVec.ofInt u32.bits (v.fdiv (2 ^ 2)) &&& BitVec.ofInt u32.bits 1023).toNat)),J 0]),kn4,[],[],[]⟩)) λv Q h=>by
 obtain⟨g,h⟩:=h;exact eS ((decide ((v:Int)>=1073741824)) || (((v:Int).tmod 4:Int) !=0)) (ao (λi=>(by grind)) λi=>(by grind))<| bZ (λd=>aw h (by(have e:=Int.tmod_eq_emod_of_nonneg (a:=v) (b:=4) g.1);rw[e]at d;(have h:iw v=91:=by grind[iw]);simp[vaI,vaJ,vaO,h]) rfl rfl) λd=>aw h (by(have e:=Int.tmod_eq_emod_of_nonneg (a:=v) (b:=4) g.1);rw[e]at d;(have h:iw v=0:=by grind[iw]);rw[mW,mW,mW,Kd (x:=v / 2 ^ 12) (by omega),Kd (x:=v / 2 ^ 2) (by omega),ay (by omega),ay (by omega),ay (by omega)];simp[vaI,vaJ,vaO,h]) rfl rfl
def zu:Ctr Un:=⟨[.agg [.int .u32,.bool,.bool]],[],[],[],λva wr ex K=>(0<=(va:Int)/\(va:Int)<4294967296)/\K ⟨(.tuple #[O (mgW va wr ex),J (ig va)]),kn2,[],[],[]⟩⟩
theorem MD:LV Un prog 113 zu:=bR Tryz.func113 ak [] trivial [4] (.r' (.two (.two (.node [] (some ⟨[(13,(.one .bool))],[],upN 5 9,[]⟩) [] [] .leaf .leaf) .leaf) .leaf)) [] (F:=∀va wr ex Q,zu.body va wr ex Q->∀(r:Nat),∃j:Bool->Prop,(split ((va.tmod 4096) !=0) (j true) (j (decide (va>=1073741824))))/\∀(t:Nat->Value)(p:Bool),j p->split p (Q ⟨(.tuple #[O 0,J 91]),kn2,[],[],[]⟩) (∀i:Int,i=(u32.wrap (BitVec.ofInt u32.bits va ||| BitVec.ofInt u32.bits 1).toNat)->split wr (∀e:Int,e=(u32.wrap (BitVec.ofInt u32.bits i ||| BitVec.ofInt u32.bits 2).toNat)->split ex (∀q:Int,q=(u32.wrap (BitVec.ofInt u32.bits e ||| BitVec.ofInt u32.bits 4).toNat)->Q ⟨(.tuple #[O q,J 0]),kn2,[],[],[]⟩) (Q ⟨(.tuple #[O e,J 0]),kn2,[],[],[]⟩)) (split ex (∀e:Int,e=(u32.wrap (BitVec.ofInt u32.bits i ||| BitVec.ofInt u32.bits 4).toNat)->Q ⟨(.tuple #[O e,J 0]),kn2,[],[],[]⟩) (Q ⟨(.tuple #[O i,J 0]),kn2,[],[],[]⟩)))) λva wr ex Q h=>by
 obtain⟨c,h⟩:=h;exact λr=>eS ((((va:Int).tmod 4096:Int) !=0) || (decide ((va:Int)>=1073741824))) (ao (λs=>(by grind)) λs=>(by grind))<| bZ (λf=>aw h (by(have d:=Int.tmod_eq_emod_of_nonneg (a:=va) (b:=4096) c.1);rw[d]at f;(have h:ig va=91:=by grind[ig]);simp[mgW,h]) rfl rfl) λf=>allEq<| ao (λg=>allEq<| ao (λk=>allEq<| aw h (by(have d:=Int.tmod_eq_emod_of_nonneg (a:=va) (b:=4096) c.1);rw[d]at f;(have h:ig va=0:=by grind[ig]);(have l:va % 4096=0/\va<1073741824:=by grind[ig]);rw[su 0 1 rfl (by decide) c (by omega),su 1 2 rfl (by decide) (by omega) (by omega),su 2 4 rfl (by decide) (by omega) (by omega)];simp[mgW,h,g,k]) rfl rfl) λk=>aw h (by(have d:=Int.tmod_eq_emod_of_nonneg (a:=va) (b:=4096) c.1);rw[d]at f;(have h:ig va=0:=by grind[ig]);(have l:va % 4096=0/\va<1073741824:=by grind[ig]);rw[su 0 1 rfl (by decide) c (by omega),su 1 2 rfl (by decide) (by omega) (by omega)];simp[mgW,h,g,k]) rfl rfl) λg=>ao (λo=>allEq<| aw h (by(have d:=Int.tmod_eq_emod_of_nonneg (a:=va) (b:=4096) c.1);rw[d]at f;(have h:ig va=0:=by grind[ig]);(have l:va % 4096=0/\va<1073741824:=by grind[ig]);rw[su 0 1 rfl (by decide) c (by omega),su 2 4 rfl (by decide) (by omega) (by omega)];simp[mgW,h,g,o]) rfl rfl) λo=>aw h (by(have d:=Int.tmod_eq_emod_of_nonneg (a:=va) (b:=4096) c.1);rw[d]at f;(have h:ig va=0:=by grind[ig]);(have l:va % 4096=0/\va<1073741824:=by grind[ig]);rw[su 0 1 rfl (by decide) c (by omega)];simp[mgW,h,g,o]) rfl rfl
def nq:Ctr Un:=⟨[.one (.int .u32)],[],[],[],λv K=>(0<=(v:Int)/\(v:Int)<4294967296)/\K ⟨(.tuple #[(.agg #[O (bK v),vB (paW v),vB (paX v)]),J (mK v)]),kn2,[],[],[]⟩⟩
theorem vP:LV Un prog 97 nq:=bR Tryz.func97 ak [(113,zu)] ⟨MD,trivial⟩ [] (.r' (.r' (.two (.r' (.two (.node [] (some ⟨[(27,(.one .bool))],[],upN 21 7,[]⟩) [] [] .leaf .leaf) .leaf)) .leaf))) [] (F:=∀v Q,nq.body v Q->∀(e:Nat),∀(f:Nat),(0<=(u32.wrap (BitVec.ofInt u32.bits v &&& ~~~(BitVec.ofInt u32.bits 4095)).toNat)/\(u32.wrap (BitVec.ofInt u32.bits v &&& ~~~(BitVec.ofInt u32.bits 4095)).toNat)<4294967296)/\∃b:Bool->Prop,(split ((ig (u32.wrap (BitVec.ofInt u32.bits v &&& ~~~(BitVec.ofInt u32.bits 4095)).toNat)) !=0) (b true) (b ((mgW (u32.wrap (BitVec.ofInt u32.bits v &&& ~~~(BitVec.ofInt u32.bits 4095)).toNat) ((u32.wrap (BitVec.ofInt u32.bits v &&& BitVec.ofInt u32.bits 2).toNat) !=0) ((u32.wrap (BitVec.ofInt u32.bits v &&& BitVec.ofInt u32.bits 4).toNat) !=0)) !=v)))/\∀(i:Nat->Value)(d:Bool),b d->split d (Q ⟨(.tuple #[(.agg #[O 0,vB false,vB false]),J 142]),kn2,[],[],[]⟩) (Q ⟨(.tuple #[(.agg #[O (u32.wrap (BitVec.ofInt u32.bits v &&& ~~~(BitVec.ofInt u32.bits 4095)).toNat),vB ((u32.wrap (BitVec.ofInt u32.bits v &&& BitVec.ofInt u32.bits 2).toNat) !=0),vB ((u32.wrap (BitVec.ofInt u32.bits v &&& BitVec.ofInt u32.bits 4).toNat) !=0)]),J 0]),kn2,[],[],[]⟩)) λv Q h=>by
 obtain⟨a,h⟩:=h;exact λe f=>aj (gH _) λs1=>eS ((((ig (u32.wrap (BitVec.ofInt u32.bits v &&& ~~~(BitVec.ofInt u32.bits 4095)).toNat)):Int) !=0) || (((mgW (u32.wrap (BitVec.ofInt u32.bits v &&& ~~~(BitVec.ofInt u32.bits 4095)).toNat) ((u32.wrap (BitVec.ofInt u32.bits v &&& BitVec.ofInt u32.bits 2).toNat:Int) !=0) ((u32.wrap (BitVec.ofInt u32.bits v &&& BitVec.ofInt u32.bits 4).toNat:Int) !=0)):Int) !=v)) (ao (λg=>(by grind)) λg=>(by grind))<| bZ (λc=>aw h (by rw[FE a,fV 1 2 (by decide) (by omega) a,fV 2 4 (by decide) (by omega) a]at c;(have h:Av v=false:=by grind[Av]);simp[bK,paW,paX,mK,h]) rfl rfl) λc=>aw h (by rw[FE a,fV 1 2 (by decide) (by omega) a,fV 2 4 (by decide) (by omega) a]at c ⊢;(have h:Av v=true:=by grind[Av]);simp[bK,paW,paX,mK,h]) rfl rfl
def lW:Ctr Un:=⟨[.agg [.any,.int .i64,.int .i64]],[(0,0)],[.ob 0 []],[0],λa aH off b m K=>a=Value.pointer (pvA (b 0))/\K ⟨O (m.aI true aH off),none,[.ob 0 m],[],[]⟩⟩
theorem nP:LV Un prog 109 lW:=by
 show ∀(b:Value)(aH off:Int)(a:Nat->Nat)(m:Mem),∀Q:Ou Un->Prop,(b=Value.pointer (pvA (a 0))/\Q ⟨O (m.aI true aH off),none,[.ob 0 m],[],[]⟩)->∀(X:bP)(w:World),Sat (U:=Un) [(.ob 0 a m)] X w->aG (U:=Un) [(.ob 0 a m)] fr0 []->Calls prog 109 #[(.agg #[b,J aH,J off])] w (aR (U:=Un) [(.ob 0 a m)] [0] X w Q);intro b aH off a m Q c X w hs l;obtain⟨rfl,c⟩:=c;obtain⟨L,f,h,g⟩:=oo hs;rw[f];refine(PT h aH off).mono ?_;rintro e i ⟨u,rfl,rfl,j,q⟩;exact aR.one (Z:=X 0) (q.mono λk d=>(g k).1 d) (show bO 0 a _ (X 0) i from⟨L,f,g,j⟩) (λk d=>.inl d) c trivial
def zw:Ctr Un:=⟨[.agg [.any,.int .i64,.int .i64],.one (.int .u32)],[(0,0)],[.ob 0 []],[0],λa aH off v b m K=>a=Value.pointer (pvA (b 0))/\(0<=(v:Int)/\(v:Int)<4294967296)/\K ⟨(.tuple #[]),(some (.t [])),[.ob 0 (m.write true aH off v)],[],[]⟩⟩
theorem DW:LV Un prog 110 zw:=by
 show ∀(b:Value)(aH off v:Int)(a:Nat->Nat)(m:Mem),∀Q:Ou Un->Prop,(b=Value.pointer (pvA (a 0))/\(0<=(v:Int)/\(v:Int)<4294967296)/\Q ⟨(.tuple #[]),(some (.t [])),[.ob 0 (m.write true aH off v)],[],[]⟩)->∀(X:bP)(w:World),Sat (U:=Un) [(.ob 0 a m)] X w->aG (U:=Un) [(.ob 0 a m)] fr0 []->Calls prog 110 #[(.agg #[b,J aH,J off]),O v] w (aR (U:=Un) [(.ob 0 a m)] [0] X w Q);intro b aH off v a m Q c X w hs o;obtain⟨rfl,h,c⟩:=c;obtain⟨L,f,i,g⟩:=oo hs;rw[f];refine(QU i aH off v h).mono ?_;rintro e j ⟨u,rfl,rfl,l,q⟩;exact aR.one (Z:=X 0) (q.mono λk d=>(g k).1 d) (show bO 0 a _ (X 0) j from⟨L,f,g,l⟩) (λk d=>.inl d) c (KnO.tup _ (by simp))
def BX:Ctr Un:=⟨[.one (.obj 0 0),.one (.int .i64),.one (.int .i64)],[],[.ob 1 [(1,1,0)],.ob 0 []],[],λaH off r E a m K=>K ⟨(.agg #[(.func (.func 109) #[(.agg #[(.pointer (pvA (a 0))),J aH,J off])] #[]),(.func (.func 110) #[(.agg #[(.pointer (pvA (a 0))),J aH,J off])] #[])]),none,[],[],[]⟩⟩
theorem KD:LV Un prog 93 BX:=bR Tryz.func93 ak [(23,bV)] ⟨cC,trivial⟩ [] .leaf [] (F:=∀aH off r (E:Pd) a (m:Mem) Q,BX.body aH off r E a m Q->Pd.Ok E->Mem.Wf m->∀(b:Nat),(some (.pointer (pvA (a 0))):Option Value)=some (.pointer (pvA (a 0)))/\∀(c:Nat),Q ⟨(.agg #[(.func (.func 109) #[(.agg #[(.pointer (pvA (a 0))),J aH,J off])] #[]),(.func (.func 110) #[(.agg #[(.pointer (pvA (a 0))),J aH,J off])] #[])]),none,[],[],[]⟩) λaH off r E a m Q h f1 f2 b=>aj (by rfl) λs3 c=>h
def qG:Ctr Un:=⟨[.one (.obj 0 0),.one (.int .i64),.one (.int .i64),.one (.int .i64)],[],[.ob 1 [(1,1,0)],.ob 0 []],[],λs p t r E a m K=>E.n=m.S/\K ⟨vB ((E.on m).of p t s),none,[],[],[]⟩⟩
section
attribute [local grind=] DB.entry DB.bo DB.of DB.is
theorem zv:LV Un prog 94 qG:=bR Tryz.func94 ak [(14,eU)] ⟨fP,trivial⟩ [] (.r' (.r' (.two (.node [] (some ⟨[(8,(.one .bool))],[],[8]++upN 17 14,[]⟩) [] [] .leaf .leaf) .leaf))) [] (F:=∀s p t r (E:Pd) a (m:Mem) Q,qG.body s p t r E a m Q->Pd.Ok E->Mem.Wf m->E.n=m.S/\∀(c:Nat),∃J:Bool->Prop,(split (((E.on m).bo p)==0) (split (((E.on m).entry p).typ==t) (J (((E.on m).entry p).owner==s)) (J false)) (J false))/\∀(f:Nat->Value)(b:Bool),J b->Q ⟨vB b,none,[],[],[]⟩) λs p t r E a m Q h=>by
 obtain⟨g,h⟩:=h;exact λf1 f2=>aj ‹_› λs3 c=>eS (((((E.on m).bo p):Int)==0) && (((((E.on m).entry p).typ:Int)==t) && ((((E.on m).entry p).owner:Int)==s))) (ao (λd=>ao (λe=>(by grind)) λe=>(by grind)) λd=>(by grind))<| AO h (by grind)
end
def je:Ctr Un:=⟨[.one (.obj 0 0),.one (.int .i64)],[],[.ob 1 [(1,1,0)],.ob 0 []],[1],λs r E a m K=>E.n=m.S/\K ⟨(.tuple #[J ((E.on m).tbl s),J ((E.on m).fu s)]),kn2,[.ob 0 m],[],[]⟩⟩
section
attribute [local grind=] DB.entry DB.bo DB.of DB.is DB.tbl DB.fu DB.word
theorem np:LV Un prog 62 je:=bR Tryz.func62 ak [(14,eU),(93,BX),(109,lW),(80,lu),(94,qG)] ⟨fP,KD,nP,nu,zv,trivial⟩ [15,18,22] (.r' (.r' (.r' (.r' (.two (.two (.node [] (some ⟨[(43,(.one .bool))],[],upN 31 13,[]⟩) [] [] .leaf .leaf) .leaf) .leaf))))) [] (F:=∀s r (E:Pd) a (m:Mem) Q,je.body s r E a m Q->Pd.Ok E->Mem.Wf m->E.n=m.S/\∀(j:Nat),∀c:Bool,c=((((E.on m).bo s):Int) !=0)->split c (Q ⟨(.tuple #[J 0,J 5]),kn2,[.ob 0 m],[],[]⟩) (∀d:Bool,d=((((E.on m).entry s).typ:Int) !=1)->split d (Q ⟨(.tuple #[J 0,J 124]),kn2,[.ob 0 m],[],[]⟩) (∀e:Bool,e=((((E.on m).entry s).state:Int)==3)->split e (Q ⟨(.tuple #[J 0,J 3]),kn2,[.ob 0 m],[],[]⟩) ((.pointer (pvA (a 0)))=Value.pointer (pvA (a 0))/\∀(m1:Mem),m1=m->Mem.Wf m1->∃b:Bool->Prop,(E.n=m1.S/\split (decide ((i64.wrap (m.aI true s 0))>=(E.on m1).S)) (b true) (E.n=m1.S/\b (!((E.on m1).of (i64.wrap (m.aI true s 0)) 3 s))))/\∀(z:Nat->Value)(f:Bool),b f->split f (Q ⟨(.tuple #[J 0,J 124]),kn2,[.ob 0 m1],[],[]⟩) (Q ⟨(.tuple #[J (i64.wrap (m.aI true s 0)),J 0]),kn2,[.ob 0 m1],[],[]⟩))))) λs r E a m Q h=>by
 obtain⟨A,h⟩:=h;exact λf1 f2=>(by(have k:=fun(p o:Int)=>z7 (E:=E) f2 p o);(have g:=fun(p o:Int)=>ay (x:=m.aI true p o) (by have:=k p o;simp only[DB.word,Pd.ku]at this;omega));exact aj ‹_› λs3 j=>allEq<| ax (λl=>aw h (bJ (ai (aJ (by grind)) (ai (aJ (by grind)) rfl))) rfl rfl) λl=>allEq<| ax (λq=>aw h (bJ (ai (aJ (by grind)) (ai (aJ (by grind)) rfl))) rfl rfl) λq=>allEq<| ar (λt=>aw h (bJ (ai (aJ (by grind)) (ai (aJ (by grind)) rfl))) rfl rfl) λt=>aj (by grind) λB m1 i f5=>eS ((decide ((i64.wrap (m.aI true s 0):Int)>=((E.on m1).S:Int))) || (!((E.on m1).of (i64.wrap (m.aI true s 0)) 3 s))) (aj (by grind) λC=>ao (λu=>(by grind)) λu=>aj ‹_› λD=>(by grind))<| bZ (λv=>(by subst i;have y:=g s 0;exact aw h (bJ (ai (aJ (by grind)) (ai (aJ (by grind)) rfl))) (ai (uO0 (by grind)) rfl) rfl)) λv=>(by subst i;have y:=g s 0;exact aw h (bJ (ai (aJ (by grind)) (ai (aJ (by grind)) rfl))) (ai (uO0 (by grind)) rfl) rfl))
end
def rP:Ctr Un:=⟨[.one (.obj 0 0),.one (.int .i64),.one (.int .u32)],[],[.ob 1 [(1,1,0)],.ob 0 []],[],λs v r E a m K=>E.n=m.S/\(0<=(v:Int)/\(v:Int)<4294967296)/\K ⟨(.tuple #[J (dX v),vB ((E.on m).Ah s v)]),kn2,[],[],[]⟩⟩
section
attribute [local grind=] DB.entry DB.bo DB.of DB.is DB.Ah
theorem Ha:LV Un prog 123 rP:=bR Tryz.func123 ak [(145,iQ),(94,qG)] ⟨ox,zv,trivial⟩ [] (.r' (.r' (.two (.node [] (some ⟨[(6,(.one (.int .i64))),(7,(.one .bool))],[],[6,7]++upN 15 9,[]⟩) [] [] .leaf .leaf) .leaf))) [] (F:=∀s v r (E:Pd) b (m:Mem) Q,rP.body s v r E b m Q->Pd.Ok E->Mem.Wf m->(0<=v/\v<4294967296)/\∃a:Int->Bool->Prop,(split ((kP v)==0) (E.n=m.S/\a (dX v) ((E.on m).of (dX v) 4 s)) (a (dX v) false))/\∀(f:Nat->Value) c (d:Bool),a c d->Q ⟨(.tuple #[J c,vB d]),kn2,[],[],[]⟩) λs v r E b m Q h=>by
 obtain⟨g,i,h⟩:=h;exact λf1 f2=>aj ‹_› λs3=>dup2<| ar (λe=>aj ‹_› λj=>aw h (bJ (ai rfl (ai (eQb (by grind)) rfl))) rfl rfl) λe=>aw h (bJ (ai rfl (ai (eQb (by grind)) rfl))) rfl rfl
end
def jf:Ctr Un:=⟨[.one (.obj 0 0),.one (.int .i64),.one (.int .i64),.one (.int .i64)],[],[.ob 1 [(1,1,0)],.ob 0 []],[0,1],λs i q r E a m K=>E.n=m.S/\K ⟨J ((E.on m).vr s i q),none,[.ob 1 (((E.on m).add s i q).pd),.ob 0 (((E.on m).add s i q).mem)],[],[]⟩⟩
section
attribute [local grind=] DB.entry DB.bo DB.of DB.is DB.word DB.vr DB.add Pd.pZ Mem.dD
theorem sV:LV Un prog 64 jf:=bR Tryz.func64 ak [(62,je),(14,eU),(94,qG),(93,BX),(109,lW),(95,qB),(110,zw)] ⟨np,fP,zv,KD,nP,BK,DW,trivial⟩ [] (.r' (.r' (.r' (.two (.two (.node [] (some ⟨[(30,(.one .bool))],[],upN 25 6,[]⟩) [] [] .leaf .leaf) .leaf) .leaf)))) [] (F:=∀s i q r (E:Pd) a (m:Mem) Q,jf.body s i q r E a m Q->Pd.Ok E->Mem.Wf m->E.n=m.S/\∀(m1:Mem),m1=m->Mem.Wf m1->split (((E.on m).fu s) !=0) (Q ⟨J ((E.on m).fu s),none,[.ob 1 E,.ob 0 m1],[],[]⟩) (∃c:Bool->Prop,(split (decide (i<0)) (c true) (c (decide (i>=256))))/\∀(y:Nat->Value)(d:Bool),c d->split d (Q ⟨J 4,none,[.ob 1 E,.ob 0 m1],[],[]⟩) (E.n=m1.S/\∀(e:Nat),split (((E.on m1).bo q) !=0) (Q ⟨J 5,none,[.ob 1 E,.ob 0 m1],[],[]⟩) (E.n=m1.S/\split (!((E.on m1).of q 4 s)) (Q ⟨J 124,none,[.ob 1 E,.ob 0 m1],[],[]⟩) (∀(f:Nat),(.pointer (pvA (a 0)))=Value.pointer (pvA (a 0))/\∀(m2:Mem),m2=m1->Mem.Wf m2->split ((m1.aI true ((E.on m).tbl s) i) !=0) (Q ⟨J 140,none,[.ob 1 E,.ob 0 m2],[],[]⟩) ((.pointer (pvA (a 0)))=Value.pointer (pvA (a 0))/\(0<=(dP q)/\(dP q)<4294967296)/\∀(b:Mem),b=(m2.write true ((E.on m).tbl s) i (dP q))->Mem.Wf b->Q ⟨J 0,none,[.ob 1 E,.ob 0 b],[],[]⟩)))))) λs i q r E a m Q h=>by
 obtain⟨z,h⟩:=h;exact λf1 f2=>(by(have g:=fun(p o:Int)=>z7 (E:=E) f2 p o);(have A:=fun(p o:Int)=>ay (x:=m.aI true p o) (by have:=g p o;simp only[DB.word,Pd.ku]at this;omega));exact aj ‹_› λs3 m1 B f4=>ax (λj=>aw h (aJ (by grind)) (ai (uO1 (by grind)) (ai (uO0 (by grind)) rfl)) rfl) λj=>eS ((decide ((i:Int)<0)) || (decide ((i:Int)>=256))) (ao (λk=>(by grind)) λk=>(by grind))<| bZ (λl=>aw h (aJ (by grind)) (ai (uO1 (by grind)) (ai (uO0 (by grind)) rfl)) rfl) λl=>aj (by grind) λC e=>ax (λt=>aw h (aJ (by grind)) (ai (uO1 (by grind)) (ai (uO0 (by grind)) rfl)) rfl) λt=>aj ‹_› λD=>dj (λu=>aw h (aJ (by grind)) (ai (uO1 (by grind)) (ai (uO0 (by grind)) rfl)) rfl) λu f=>aj (by grind) λG m2 H f8=>ax (λv=>aw h (aJ (by grind)) (ai (uO1 (by grind)) (ai (uO0 (by grind)) rfl)) rfl) λv=>aj ‹_› λI=>aj (u5 _) λK b M f11=>aw h (aJ (by grind)) (ai (uO1 (by grind)) (ai (uO0 (by grind)) rfl)) rfl)
end
def qH:Ctr Un:=⟨[.one (.obj 0 0),.one (.int .i64),.one (.int .u32)],[],[.ob 1 [(1,1,0)],.ob 0 []],[1],λs va r E a m K=>E.n=m.S/\(0<=(va:Int)/\(va:Int)<4294967296)/\split (decide ((E.on m).dZ s va=0)) (K ⟨(.tuple #[(.agg #[(.func (.func 109) #[(.agg #[(.pointer (pvA (a 0))),J ((E.on m).plP s va),J (vaJ va)])] #[]),(.func (.func 110) #[(.agg #[(.pointer (pvA (a 0))),J ((E.on m).plP s va),J (vaJ va)])] #[])]),J 0]),kn2,[.ob 0 m],[],[]⟩) (K ⟨(.tuple #[(.agg #[.nilFunc,.nilFunc]),J ((E.on m).dZ s va)]),kn2,[.ob 0 m],[],[]⟩)⟩
section
attribute [local grind=] DB.entry DB.bo DB.of DB.is DB.word DB.dZ DB.plP DB.cy
theorem zx:LV Un prog 114 qH:=bR Tryz.func114 ak [(62,je),(122,nd),(93,BX),(109,lW),(123,rP)] ⟨np,vv,KD,nP,Ha,trivial⟩ [] .leaf [] (F:=∀s va r (E:Pd) a (m:Mem) Q,qH.body s va r E a m Q->Pd.Ok E->Mem.Wf m->∀(b:Nat),E.n=m.S/\∀(m1:Mem),m1=m->Mem.Wf m1->split (((E.on m).fu s) !=0) (Q ⟨(.tuple #[(.agg #[.nilFunc,.nilFunc]),J ((E.on m).fu s)]),kn2,[.ob 0 m1],[],[]⟩) ((0<=va/\va<4294967296)/\split ((iw va) !=0) (Q ⟨(.tuple #[(.agg #[.nilFunc,.nilFunc]),J 91]),kn2,[.ob 0 m1],[],[]⟩) ((.pointer (pvA (a 0)))=Value.pointer (pvA (a 0))/\∀(m2:Mem),m2=m1->Mem.Wf m2->E.n=m2.S/\(0<=(m1.aI true ((E.on m).tbl s) (vaI va))/\(m1.aI true ((E.on m).tbl s) (vaI va))<4294967296)/\split (!((E.on m2).Ah s (m1.aI true ((E.on m).tbl s) (vaI va)))) (Q ⟨(.tuple #[(.agg #[.nilFunc,.nilFunc]),J 141]),kn2,[.ob 0 m2],[],[]⟩) (Q ⟨(.tuple #[(.agg #[(.func (.func 109) #[(.agg #[(.pointer (pvA (a 0))),J (dX (m1.aI true ((E.on m).tbl s) (vaI va))),J (vaJ va)])] #[]),(.func (.func 110) #[(.agg #[(.pointer (pvA (a 0))),J (dX (m1.aI true ((E.on m).tbl s) (vaI va))),J (vaJ va)])] #[])]),J 0]),kn2,[.ob 0 m2],[],[]⟩)))) λs va r E a m Q h=>by
 obtain⟨f,g,h⟩:=h;exact λf1 f2 b=>aj ‹_› λs3 m1 i f4=>ax (λc=>aw (cA h (by grind)) (bJ (ai rfl (ai (aJ (by grind)) rfl))) (ai (uO0 (by grind)) rfl) rfl) λc=>aj ‹_› λj=>ax (λd=>aw (cA h (by grind)) (bJ (ai rfl (ai (aJ (by grind)) rfl))) (ai (uO0 (by grind)) rfl) rfl) λd=>aj (by grind) λk m2 l f7=>aj (by grind) λs8=>aj (cO ‹_› _ _ _) λo=>dj (λe=>aw (cA h (by grind)) (bJ (ai rfl (ai (aJ (by grind)) rfl))) (ai (uO0 (by grind)) rfl) rfl) λe=>aw (cg h (by grind)) (bJ (ai (fB (ai (by grind) (ai (by grind) rfl))) rfl)) (ai (uO0 (by grind)) rfl) rfl
end
def tI:Ctr Un:=⟨[.one (.obj 0 0),.one (.int .i64),.one (.int .u32)],[],[.ob 1 [(1,1,0)],.ob 0 []],[1],λs va r E a m K=>E.n=m.S/\(0<=(va:Int)/\(va:Int)<4294967296)/\split (decide ((E.on m).cy s va=0)) (K ⟨(.tuple #[(.agg #[(.func (.func 109) #[(.agg #[(.pointer (pvA (a 0))),J ((E.on m).plP s va),J (vaJ va)])] #[]),(.func (.func 110) #[(.agg #[(.pointer (pvA (a 0))),J ((E.on m).plP s va),J (vaJ va)])] #[])]),J 0]),kn2,[.ob 0 m],[],[]⟩) (K ⟨(.tuple #[(.agg #[.nilFunc,.nilFunc]),J ((E.on m).cy s va)]),kn2,[.ob 0 m],[],[]⟩)⟩
section
attribute [local grind=] DB.entry DB.bo DB.of DB.is DB.word DB.dZ DB.plP DB.cy
theorem FL:LV Un prog 100 tI:=bR Tryz.func100 ak [(114,qH),(109,lW)] ⟨zx,nP,trivial⟩ [] .leaf [] (F:=∀s va r (E:Pd) a (m:Mem) Q,tI.body s va r E a m Q->Pd.Ok E->Mem.Wf m->∀(c:Nat),E.n=m.S/\(0<=va/\va<4294967296)/\split (decide ((E.on m).dZ s va=0)) (∀(m1:Mem),m1=m->Mem.Wf m1->∀(b:Nat),(.pointer (pvA (a 0)))=Value.pointer (pvA (a 0))/\∀(m2:Mem),m2=m1->Mem.Wf m2->split ((m1.aI true ((E.on m).plP s va) (vaJ va)) !=0) (Q ⟨(.tuple #[(.agg #[.nilFunc,.nilFunc]),J 140]),kn2,[.ob 0 m2],[],[]⟩) (Q ⟨(.tuple #[(.agg #[(.func (.func 109) #[(.agg #[(.pointer (pvA (a 0))),J ((E.on m).plP s va),J (vaJ va)])] #[]),(.func (.func 110) #[(.agg #[(.pointer (pvA (a 0))),J ((E.on m).plP s va),J (vaJ va)])] #[])]),J 0]),kn2,[.ob 0 m2],[],[]⟩)) (∀(m1:Mem),m1=m->Mem.Wf m1->∀(b:Nat),split (((E.on m).dZ s va) !=0) (Q ⟨(.tuple #[(.agg #[.nilFunc,.nilFunc]),J ((E.on m).dZ s va)]),kn2,[.ob 0 m1],[],[]⟩) (False))) λs va r E a m Q h=>by
 obtain⟨i,j,h⟩:=h;exact λf1 f2 c=>aj ‹_› λs3=>aj ‹_› λk=>av (λd m1 e f5 b=>aj (by grind) λl m2 o f7=>ax (λf=>aw (cA h (by grind)) (bJ (ai rfl (ai (aJ (by grind)) rfl))) (ai (uO0 (by grind)) rfl) rfl) λf=>aw (cg h (by grind)) rfl (ai (uO0 (by grind)) rfl) rfl) λd m1 e f8 b=>ax (λg=>aw (cA h (by grind)) (bJ (ai rfl (ai (aJ (by grind)) rfl))) (ai (uO0 (by grind)) rfl) rfl) λg=>(by exfalso;omega)
end
def tH:Ctr Un:=⟨[.one (.obj 0 0),.one (.int .i64),.one (.int .u32)],[],[.ob 1 [(1,1,0)],.ob 0 []],[1],λs va r E a m K=>E.n=m.S/\(0<=(va:Int)/\(va:Int)<4294967296)/\K ⟨J ((E.on m).cy s va),none,[.ob 0 m],[],[]⟩⟩
section
attribute [local grind=] DB.entry DB.bo DB.of DB.is DB.word DB.dZ DB.plP DB.cy
theorem FK:LV Un prog 99 tH:=bR Tryz.func99 ak [(100,tI)] ⟨FL,trivial⟩ [] .leaf [] (F:=∀s va r (E:Pd) b (m:Mem) Q,tH.body s va r E b m Q->Pd.Ok E->Mem.Wf m->E.n=m.S/\(0<=va/\va<4294967296)/\split (decide ((E.on m).cy s va=0)) (∀(m1:Mem),m1=m->Mem.Wf m1->∀(a:Nat),Q ⟨J 0,none,[.ob 0 m1],[],[]⟩) (∀(m1:Mem),m1=m->Mem.Wf m1->∀(a:Nat),Q ⟨J ((E.on m).cy s va),none,[.ob 0 m1],[],[]⟩)) λs va r E b m Q h=>by
 obtain⟨e,f,h⟩:=h;exact λf1 f2=>aj ‹_› λs3=>aj ‹_› λg=>av (λc m1 d f5 a=>aw h (aJ ‹_›) (ai (uO0 (by grind)) rfl) rfl) λc m1 d f6 a=>aw h rfl (ai (uO0 (by grind)) rfl) rfl
end
def py:Ctr Un:=⟨[.one (.obj 0 0),.one (.int .i64),.one (.int .u32),.agg [.bool,.int .i64,.bool,.bool]],[],[.ob 1 [(1,1,0)],.ob 0 []],[0,1],λs va a b c md r E d m K=>E.n=m.S/\(0<=(va:Int)/\(va:Int)<4294967296)/\K ⟨J ((E.on m).yI s va (Mp.mk a b c md)),none,[.ob 1 (((E.on m).put s va (Mp.mk a b c md)).pd),.ob 0 (((E.on m).put s va (Mp.mk a b c md)).mem)],[],[]⟩⟩
section
attribute [local grind=] DB.entry DB.bo DB.of DB.is DB.word DB.dZ DB.plP DB.cy DB.yI DB.put Pd.pZ Mem.dD
theorem DV:LV Un prog 70 py:=bR Tryz.func70 ak [(100,tI),(101,rG),(110,zw)] ⟨FL,ye,DW,trivial⟩ [] .leaf [] (F:=∀s va a b c md r (E:Pd) d (m:Mem) Q,py.body s va a b c md r E d m Q->Pd.Ok E->Mem.Wf m->∀(f:Nat),E.n=m.S/\(0<=va/\va<4294967296)/\split (decide ((E.on m).cy s va=0)) (∀(m1:Mem),m1=m->Mem.Wf m1->∀(e:Nat),split ((Mp.mk a b c md).err !=0) (Q ⟨J (Mp.mk a b c md).err,none,[.ob 1 E,.ob 0 m1],[],[]⟩) ((.pointer (pvA (d 0)))=Value.pointer (pvA (d 0))/\(0<=((Mp.mk a b c md).word)/\((Mp.mk a b c md).word)<4294967296)/\∀(m2:Mem),m2=(m1.write true ((E.on m).plP s va) (vaJ va) ((Mp.mk a b c md).word))->Mem.Wf m2->Q ⟨J 0,none,[.ob 1 E,.ob 0 m2],[],[]⟩)) (∀(m1:Mem),m1=m->Mem.Wf m1->∀(e:Nat),split (((E.on m).cy s va) !=0) (Q ⟨J ((E.on m).cy s va),none,[.ob 1 E,.ob 0 m1],[],[]⟩) (split ((Mp.mk a b c md).err !=0) (Q ⟨J (Mp.mk a b c md).err,none,[.ob 1 E,.ob 0 m1],[],[]⟩) (False)))) λs va a b c md r E d m Q h=>by
 obtain⟨o,p,h⟩:=h;exact λf1 f2 f=>aj ‹_› λs3=>aj ‹_› λq=>av (λg m1 i f5 e=>ax (λj=>aw h (aJ (by grind)) (ai (uO1 (by grind)) (ai (uO0 (by grind)) rfl)) rfl) λj=>aj (by grind) λt=>aj (E9 _) λu m2 v f8=>aw h (aJ (by grind)) (ai (uO1 (by grind)) (ai (uO0 (by grind)) rfl)) rfl) λg m1 i f9 e=>ax (λk=>aw h (aJ (by grind)) (ai (uO1 (by grind)) (ai (uO0 (by grind)) rfl)) rfl) λk=>ax (λl=>aw h (aJ (by omega)) (ai (uO1 (by omega)) (ai (uO0 (by omega)) rfl)) rfl) λl=>(by exfalso;omega)
end
end
namespace V
section
structure Ans(P:Program)(dk:FuncId)(T:TypeId):Prop where
 can:bE P dk=true
 calm:∀(p:Addr)(w:World),CallsDIn (WF none) 0 P dk #[.pointer (some p)] .returning w λe u w'=>(∃v,e=.returned v)/\u=.returning/\w'=w
 QL:∀(p:Addr)(x:Int)(w:World)(K:World->Prop),aB w p [.int .u32 x] K->CallsDIn (WF none) 0 P dk #[.pointer (some p)] (.panicking [⟨.iface T (.int .u32 x),false,false⟩]) w λe u w'=>(∃v,e=.returned v)/\settle u=.returning/\K w'
section
variable {U:Uni}{P:Program}{tbl:Tb U}{may:List Nat}{k0:Nat}
variable {w0:World}{X0 X:Nat->Nat->Prop}{w:World}{fr:Fr}{st:St U}{n:Nat}{N:List Nat}
theorem Md {a:Act}{l:List Oper}{c t:Nat}(h:Fw c l=some t):∃o,l= [o]/\o.guard=none/\o.dst=none/\∀w,(Oper.semAt none a.eval o).run P w=.ok (.defer ⟨.fn (.func c) #[],#[a.eval (.tmp t)]⟩) w:=by
 unfold Fw at h;split at h
 ·rename_i f d j ty pos k;split at h
  ·rename_i e b;injection h with h
   subst h;have b:=Nat.eq_of_beq_eq_true b;subst b;refine⟨_,rfl,rfl,rfl,λw=>?_⟩;have g:d= #[.tmp _]:=Array.ext' e;subst g;have i:a.eval (.func f)=.func (.func f) #[] #[]:=rfl;simp[Oper.semAt,execOp,resolve,i,Deferred.ofValue]
  ·cases h
 ·cases h
theorem OP {ops:Array Oper}{id c t:Nat}{a:Act}{Q:Exit->Act->World->Prop}(h:Fw c ops.toList=some t)(d:Q .normal {a with defers:=⟨.fn (.func c) #[],#[a.eval (.tmp t)]⟩::a.defers} w):(Code.region id ops false).wpIn (WF none) 0 P Q a w:=by
 obtain⟨o,b,e,hd,f⟩:=Md (P:=P) (a:=a) h;have b:ops= #[o]:=Array.ext' b;subst b;refine wpIn_region_list ?_;simp only[wpListIn];rw[if_pos (by unfold Region.wanted;rw[e])];refine⟨λ_ _=>trivial,?_⟩;show o.uponIn (WF none) 0 P a _ _ ((Oper.semAt none a.eval o).run P w);rw[f w,Oper.uponIn_defer,hd];exact d
theorem GA {id off:Nat}{v:Value}{F:St U->Prop}(t:∀vs,v≠ .agg vs)(hI:Inv w0 k0 X0 may st.rs X w)(c:aG st.rs fr st.kn)(h:I7 U k0 may id off v st F):
 ∃g cs T,nth st.rs id=some (.blk g cs T)/\aB w ⟨g,off,none⟩ [v] λp=>∃st',Steps w0 k0 X0 may st X st' X p/\aG st'.rs fr st'.kn/\F st':=by
 unfold I7 at h;split at h
 ·rename_i g cs T b;split at h
  ·rename_i f;rw[Bool.and_eq_true]at f;have u:off<cs.length:=by simpa[Nat.blt_eq]using f.1
   refine⟨g,cs,T,b,?_⟩;obtain⟨l,q,hb⟩:=(hI.sat.res id _ b:X id g/\(∀k,X id k->k=g)/\Blk w g ⟨cs⟩ T);refine⟨g,off,⟨cs⟩,T,rfl,hb,by simp;omega,λw2 hs=>?_⟩;have e:setAt (⟨cs⟩:Array Value) off [v]=⟨cf cs off v⟩:=by
    show(⟨cs⟩:Array Value).setIfInBounds off v=_;apply Array.ext';rw[ui];simp
   rw[e]at hs;have o:=pO hI c b f.2 (hs.ch.mono λk c=>c▸l) (dH.blk g cs (cf cs off v) T (by simp)) (show RS (X id) w2 (.blk g (cf cs off v) T)from⟨l,q,hs.blk⟩) (kn':=dO Oi st.kn) ?_
   ·exact⟨_,o.steps,o.kn,h⟩
   ·intro key k hm;obtain⟨r,j⟩:=dK hm;unfold Oi at j;split at j
    ·exact qm (M:= [id]) (λi _ hi=>by rw[bD,if_neg (λs=>hi (by simp[s.1]))]) (λi hi a d=>by
      simp at hi;subst hi;rw[b]at d;injection d with d
      subst d;exact⟨_,by rw[bD,if_pos ⟨rfl,aX b⟩],.blk _ _ _ _ (by simp)⟩) (.inr rfl) (c _ _ r)
    ·cases j
  ·exact h.elim
 ·exact h.elim
theorem JA {fn:Func}{r:List Nat}{Q:Ou U->Prop}{c:List (Res U)}{aW:List Nat}{kn0:List (Key×Kn)}{a':Act}{a:World}{st':St U}{A:Nat->Nat->Prop}{b:FuncId}{T:TypeId}{id off g:Nat}{e:Exit}(l:Ans P b T)(s:c.length=k0)(t:∀i,i∈aW->i<k0)(y:Rep n fr a')(hs:Steps w k0 X aW ⟨c,kn0,[]⟩ X st' A a)(z:aG st'.rs fr st'.kn)
 (B:∃cs T,nth st'.rs id=some (.blk g cs T))(hd:a'.defers= [⟨.fn (.func b) #[],#[.pointer (some ⟨g,off,none⟩)]⟩])(h:OL U P k0 T id off aW r Q fn e fr st'):bodyPostM (WF none) 0 P fn (aR c aW X w Q) e a' a:=by
 have hinv:(invoke (.fn (.func b) #[]) #[.pointer (some ⟨g,off,none⟩)]).run P a=.ok (.enter b #[.pointer (some ⟨g,off,none⟩)]) a:=dL (P:=P) (C:= [b]) (f:=b) (by simp[eO,l.can]) (by simp) _ _;have go:∀ {u:FrameMode}{R:Ending->FrameMode->World->Prop},u≠ .run->CallsDIn (WF none) 0 P b #[.pointer (some ⟨g,off,none⟩)] u a R->(∀e d w2,R e d w2->(∃v,e=.returned v)/\LeavesInM (WF none) 0 P fn a'.tmps (aR c aW X w Q) [] (settle d) w2)->LeavesInM (WF none) 0 P fn a'.tmps (aR c aW X w Q) a'.defers u a:=by
  intro u R hu D E;rw[hd];refine⟨hu,.inr ⟨λh=>(by cases h),_,_,b,_,rfl,hinv,λ_ _=>trivial,D.mono λe d w2 h=>?_⟩⟩;obtain⟨⟨v,rfl⟩,j⟩:=E e d w2 h;exact j
 have res:oQ U P k0 aW r Q fn fr st'->LeavesInM (WF none) 0 P fn a'.tmps (aR c aW X w Q) a'.defers .returning a:=λh=>go (by simp) (l.calm _ a) λe d w2 ⟨o,j,p⟩=>by
  subst j;subst p;exact⟨o,lO s t y hs z h⟩
 unfold OL at h;split at h
 ·exact res h
 ·exact res h
 ·rename_i J x;split at h
  ·rename_i q;have q:=Nat.eq_of_beq_eq_true q;subst q;obtain⟨K,cs,T2,F,G⟩:=GA (by simp) hs.inv z h;obtain⟨M,O,k⟩:=B;rw[F]at k;injection k with k
   injection k with e1 S V
   subst e1;refine go (by simp) (l.QL _ x a _ G) λe d w2 ⟨o,j,W,p,H,I⟩=>⟨o,?_⟩;rw[j];exact lO s t y (hs.trans p) H I
  ·exact h.elim
 ·exact h.elim
theorem HO {f:Nat}{fn:Func}{s:An}{y:List Nat}{c:Ctr U}{l:FuncId}{T:TypeId}(E:Ans P l T)(F:P.funcs[f]? =some fn)(hm:P.follows .mixedOrders=true)(z:∀f c,tbl.c f=some c->LV U P f c/\bE P f=true)(G:gp (λi=>Nat.blt i c.res.length) c.aW=true)(h:VcD U P tbl l T N fn s y c):LV U P f c:=by
 have H:∀i,i∈c.aW->i<c.res.length:=λi hi=>by simpa[Nat.blt_eq]using cx.1 G i hi
 refine yu (V:=λcode Q fr st=>Nv U P tbl c.aW c.res.length l T N fn s y code Q fr st) F ?_ (λargs ks rs kc Q h=>?_) h
 ·intro code Q Tg X w kn fr a I hI J K M h;unfold Nv at h;split at h
  case h_2=>exact h.elim
  rename_i i0 aa i1 ab code;refine wpIn_seq (wpIn_mono (cK z hm _ _ _ _ _ X _ w J hI K h) λe A w1 he=>?_);cases e
  case normal=>
   obtain⟨j,o,⟨q,B,u,v,g3,d⟩,_⟩:=he;dsimp only at d;split at d
   case h_2=>exact d.elim
   rename_i t O;split at d
   case h_2=>exact d.elim
   rename_i id off R;have g3:j.ds= []:=g3.trans M;have k:den U q.rs (.loc id off)=some (lk j.g t j.e):=v.get R;obtain⟨g,cs,T1,p⟩:∃g cs T1,nth q.rs id=some (.blk g cs T1):=by
    unfold den at k;simp only[PK.id]at k;cases p:nth q.rs id with
    |none=>rw[p]at k;cases k
    |some r=>cases r<;>first|exact⟨_,_,_,rfl⟩|(rw[p]at k;cases k)
   have C:lk j.g t j.e=.pointer (some ⟨g,off,none⟩):=by
    simp only[den,PK.id,p,cl,Option.some.injEq]at k;exact k.symm
   have S:A.eval (.tmp t)=.pointer (some ⟨g,off,none⟩):=by rw[o.eval];exact C
   refine wpIn_seq (OP O ?_);rw[S,o.defers,g3];rw[C]at d;have W:Rep fn.ntmps ⟨j.e,j.g,[⟨.fn (.func l) #[],#[.pointer (some ⟨g,off,none⟩)]⟩]⟩ {A with defers:= [⟨.fn (.func l) #[],#[.pointer (some ⟨g,off,none⟩)]⟩]}:=⟨o.size,o.get,rfl⟩;refine wpIn_mono (cK z hm code s _ _ _ B _ w1 W u.inv (v.same λ_=>rfl) d) λe a2 w2 he=>?_;cases e
   case outgrown=>exact he.elim
   all_goals
    obtain⟨Sm,D,⟨SR,X2,k1,Y,Z,k4⟩,_⟩:=he;obtain⟨b,hb,SY⟩:=k1.root id _ p;exact JA E I H D (u.trans k1) Y (by cases SY;exact⟨_,_,hb⟩) (D.defers.trans Z) k4
  case outgrown=>exact he.elim
  all_goals
   obtain⟨j,o,⟨q,B,u,v,g3,d⟩,_⟩:=he;exact d.elim
 ·unfold Pv at h;split at h
  case h_2=>exact h.elim
  rename_i code hb x;simp only[Bool.and_eq_true]at x;exact⟨code,hb,x.1,x.2,h⟩
theorem pE {f:Nat}{fn:Func}{b:An}{d:List Nat}{c:Ctr U}{tb:List (Nat×Ctr U)}{sh:Sh}{al:List (Nat×List PK×List PK)}{a:FuncId}{T:TypeId}(e:Ans P a T)(g:P.funcs[f]? =some fn)(hm:P.follows .mixedOrders=true)(j:oG U P tb)(hb:(gp (λp=>bE P p.1) tb && gp (λi=>Nat.blt i c.res.length) c.aW)=true)(h:VcD U P ⟨wx tb,sh,al⟩ a T N fn b d c):LV U P f c:=by
 rw[Bool.and_eq_true]at hb;exact HO e g hm (λf c k=>kJ k j hb.1) hb.2 h
end
end
end V
theorem Ac {w:World}{p:Addr}{v:Value}{K:World->Prop}(h:aB w p [v] K):(∃u,w.cell? p=some u)/\w.frozen? p=false/\K (w.setCell p v):=by
 obtain⟨g,o,cs,T,rfl,hb,a,b⟩:=h;have c:o<cs.size:=by have:o+1<=cs.size:=a;omega
 refine⟨⟨cs[o],hb.cell (by simp[c])⟩,?_,b _ (hb.set o v)⟩;have hb:w.heap[g]? =some (.cells cs T (0,0)):=hb;simp[World.frozen?,hb]
theorem Kc(p:Addr)(w:World):CallsDIn (WF none) 0 prog 54 #[.pointer (some p)] .returning w λe u a=>(∃v,e=.returned v)/\u=.returning/\a=w:=by
 refine callsDIn_of_wpSIn Tryz.func54 rfl trivial λb cs hu=>?_;apply wpSIn_seq;apply wpSIn_region;simp[wpOpsSIn,go_sem,recoverD,hu,Tryz.ntmps54,Exit.thenS];refine wpSIn_of_wpIn rfl (wpIn_block (wpIn_seq (wpIn_region_list ?_)));simp[wpListIn,Oper.wpIn,go_sem,Oper.semAt,Region.wanted];refine wpIn_cond (t:=true) (by simp[Act.eval,Array.replicate]) ?_;simp only[if_true];refine wpIn_region_list ?_;simp[wpListIn,Oper.wpIn,go_sem,Oper.semAt,Region.wanted,Exit.inBlock,bodyPostS,results,Tryz.results54];cases b
 simp_all
theorem Kb(p:Addr)(x:Int)(w:World)(K:World->Prop)(h:aB w p [.int .u32 x] K):CallsDIn (WF none) 0 prog 54 #[.pointer (some p)] (.panicking [⟨.iface 165 (O x),false,false⟩]) w λe u a=>(∃v,e=.returned v)/\settle u=.returning/\K a:=by
 obtain⟨⟨g,b⟩,c,d⟩:=Ac h;refine callsDIn_of_wpSIn Tryz.func54 rfl trivial λi cs hu=>?_;apply wpSIn_seq;apply wpSIn_region;simp[wpOpsSIn,go_sem,recoverD,hu,Tryz.ntmps54,Exit.thenS];refine wpSIn_of_wpIn rfl (wpIn_block (wpIn_seq (wpIn_region_list ?_)));simp[wpListIn,Oper.wpIn,go_sem,Oper.semAt,Region.wanted];refine wpIn_cond (t:=false) (by simp[Act.eval,Array.replicate]) ?_;simp only[Bool.false_eq_true,if_false];have f:∀w:World,(Instr.typeAssert (.iface 165 (O x)) 20 165 true).run prog w=.ok (.tuple #[.int .u32 x,.bool true]) w:=λw=>by kernel_rfl
 refine wpIn_seq (wpIn_region_list ?_);simp[wpListIn,Oper.wpIn,go_sem,Oper.semAt,Region.wanted,f];refine wpIn_cond (t:=true) (by simp[Act.eval,Array.replicate]) ?_;simp only[if_true];refine wpIn_seq (wpIn_region_list ?_);simp[wpListIn,Oper.wpIn,go_sem,Oper.semAt,Region.wanted];refine wpIn_region_list ?_;simp[wpListIn,Oper.wpIn,go_sem,Oper.semAt,Region.wanted,b,c,Exit.inBlock,bodyPostS,results,Tryz.results54];exact⟨rfl,d⟩
theorem ans:Ans prog 54 165:=⟨by kernel_rfl,Kc,Kb⟩
@[simp] theorem Mem.DK(m:Mem)(s:Bool)(p:Int)(s':Bool)(a:Int):(m.copy s p s' a).S=m.S:=by unfold Mem.copy;split<;>rfl
namespace DB
def cW(d:DB)(n:Int):Int:=if d.has n then 0 else 1
def dE(d:DB)(n:Int):Int:=if(d.entry n).typ=0 then 0 else 2
def kZ(d:DB)(n:Int):Int:=if n<(d.mem.I:Int)then 0 else 17
def gl(d:DB)(s:Int):Int:=if !d.has s then 1 else if(d.at_ s).typ≠1 then 3 else if(d.at_ s).state≠1 then 4 else 0
def kS(w:Int):Int:=if mK w=0 then 0 else 6
def jN(d:DB)(s va:Int):Int:=if d.cy s va=0 then 0 else if d.cy s va=140 then 7 else 21
def eY(d:DB)(s f:Int):Int:=if d.cW s≠0 then d.cW s else if d.cW f≠0 then d.cW f else if s=f then 16 else if d.dE s≠0 then d.dE s else if d.dE f≠0 then d.dE f else if d.bn>=64 then 24 else 0
def du(d:DB)(s f:Int):DB:=if d.eY s f=0 then(d.bw s f).bH (·.wrs s 11 Dg.new.save)else d
def dt(d:DB)(s p:Int):Int:=if d.gl s≠0 then d.gl s else if d.cW p≠0 then d.cW p else d.dE p
def cR(kk:List Int)(d:DB)(s p b:Int):DB:=if d.dt s p=0 then(d.take p 2 s).bH (λm=>(m.write true p 0 b).msd kk s 1 b [])else d
def gT(d:DB)(s p i:Int):Int:=if d.gl s≠0 then d.gl s else if d.cW p≠0 then d.cW p else if 256<=i then 16 else if d.dE p≠0 then d.dE p else if d.word (d.tbl s) i=0 then 0 else 7
def eo(kk:List Int)(d:DB)(s p i:Int):DB:=if d.gT s p i=0 then((d.take p 4 s).add s i p).bH (·.msd kk s 2 i [])else d
def gj(d:DB)(s p w n:Int):Int:=if d.gl s≠0 then d.gl s else if d.cW p≠0 then d.cW p else if kS w≠0 then kS w else if d.kZ n≠0 then d.kZ n else if d.dE p≠0 then d.dE p else d.jN s (bK w)
def vh(d:DB)(s p w n:Int):DB:=((d.take p 5 s).bH (·.copy true p false n)).put s (bK w) (Mp.mk true p (paW w) (paX w))
def eT(kk:List Int)(d:DB)(s p w n:Int):DB:=if d.gj s p w n=0 then(d.vh s p w n).bH (λm=>m.msd kk s 3 w (m.words true p.toNat))else d
def eZ(d:DB)(s w n:Int):Int:=if d.gl s≠0 then d.gl s else if kS w≠0 then kS w else if paX w then 6 else if d.kZ n≠0 then d.kZ n else d.jN s (bK w)
def dM(kk:List Int)(d:DB)(s w n:Int):DB:=if d.eZ s w n=0 then(d.put s (bK w) (Mp.mk false n (paW w) false)).bH (·.msd kk s 4 w [])else d
end DB
theorem DB.mN {d:DB}{f:Mem->Mem}(h:(f d.mem).S=d.mem.S):(d.bH f).pd=d.pd:=by
 show Pd.mk _ _ _=Pd.mk _ _ _;rw[show(d.bH f).S=d.S from h];rfl
theorem DB.sr(d:DB):d.pd.on d.mem=d:=rfl
theorem DB.CR {d:DB}{n:Int}(h:¬d.cW n≠0):d.has n=true:=by
 unfold DB.cW at h;cases a:d.has n
 ·rw[a]at h;simp at h
 ·rfl
theorem DB.ED {d:DB}{n:Int}(b:d.has n=true)(h:¬d.dE n≠0):(d.at_ n).typ=0:=by
 unfold DB.dE DB.entry at h;rw[if_pos b]at h;by_cases a:(d.at_ n).typ=0
 ·exact a
 ·rw[if_neg a]at h;simp at h
theorem DB.og {d:DB}{s q:Int}(c:¬d.cW s≠0)(e:¬d.cW q≠0)(f:¬s=q)(g:¬d.dE s≠0)(h:¬d.dE q≠0):d.bp s q=if d.bn>=64 then 240 else 0:=by
 have a:=DB.CR c;have b:=DB.CR e;unfold DB.bp;simp[a,b,f,DB.ED a g,DB.ED b h]
theorem gg {w:Int}(h:0<=w/\w<4294967296):0<=bK w/\bK w<4294967296:=by
 unfold bK;split<;>omega
theorem Mem.z5 {m:Mem}(h:m.Wf)(s:Bool)(p:Nat):dy (m.words s p):=by
 intro x a;obtain⟨o,_,rfl⟩:=List.mem_map.1 a;exact h.1 _ _ _
theorem Mem.Jm(m:Mem)(s:Bool)(p:Int)(s':Bool)(a:Int)(b:Bool)(q:Int):(m.copy s p s' a).has b q=m.has b q:=by
 unfold Mem.copy;split
 ·cases b<;>rfl
 ·rfl
theorem DB.HT(d:DB)(p t s:Int):(d.take p t s).mem=d.mem:=by unfold DB.take;split<;>rfl
theorem DB.Lo(d:DB)(s va:Int)(M:Mp)(p:Int):(d.put s va M).mem.has true p=d.mem.has true p:=by
 unfold DB.put;split
 ·exact DB.GD ..
 ·rfl
theorem DB.Du(d:DB)(s p w n:Int):(d.vh s p w n).mem.has true p=d.has p:=by
 rw[DB.vh,DB.Lo];show((d.take p 5 s).mem.copy true p false n).has true p=_;rw[Mem.Jm,DB.HT];rfl
namespace Mem
end Mem
namespace DB
end DB
section
attribute [local irreducible] Vc2 VcD
attribute [local grind=] Pd.jb Pd.gQ Pd.mM Pd.sw Pd.bT Pd.ku Pd.mL Pd.j5 Pd.sj Pd.yP
attribute [local grind .] Pd.Ok.ent
attribute [local grind→] Pd.Ok.ir
def dw:Ctr Un:=⟨[.one (.int .i64)],[],[],[],λp K=>K ⟨(.agg #[vB true,J p]),none,[],[],[]⟩⟩
theorem iK:LV Un prog 63 dw:=bR Tryz.func63 ak [] trivial [] .leaf [] (F:=∀p Q,dw.body p Q->∀(a:Nat),Q ⟨(.agg #[vB true,J p]),none,[],[],[]⟩) λp Q h a=>h
def l6:Ctr Un:=⟨[.one (.obj 0 0),.one (.int .i64),.enc 8],[],[.ob 1 [(1,1,0)],.ob 0 []],[1],λs f r E a m K=>E.n=m.S/\W26.Ok f/\K ⟨(.tuple #[]),(some (.t [])),[.ob 0 (m.wrs s 11 (W26.ws f))],[],[]⟩⟩
theorem z3:LV Un prog 59 l6:=bR Tryz.func59 ak [(23,bV),(63,dw),(36,fN)] ⟨cC,iK,jY,trivial⟩ [] (.r' (.r' (.two (.node [] (some ⟨[(9,(.one (.int .i64)))],[],[6,7]++upN 9 13,[(1,(.ob 0))]⟩) [] [] .leaf .leaf) .leaf))) [] (F:=∀s (f:W26) r (E:Pd) e (m:Mem) Q,l6.body s f r E e m Q->Pd.Ok E->Mem.Wf m->∀(i:Nat),∀(s1:List U32),s1=(W26.n f)->(26<=s1.length)/\∃I:Nat->Int->Mem->Prop,(∃m1,I m1 0 m)/\∀(m1:Nat)(l:Nat->Value)(a:Int)(b:Mem),I m1 a b->Mem.Wf b->split (decide (a<26)) ((0<=a/\a<(26:Int))/\∃c:Int,(⟨W26.c (W26.mk s1)⟩:Array Value)[Int.toNat a*1]? =some (O c)/\(0<=c/\c<4294967296)/\∀(d:Mem),d=(b.write true s (i64.wrap (11+a)) c)->Mem.Wf d->∃m2,m2<m1/\I m2 (i64.wrap (a+1)) d) (Q ⟨(.tuple #[]),(some (.t [])),[.ob 0 b],[],[]⟩)) λs f r E e m Q h=>by
 obtain⟨o,j,h⟩:=h;exact λf1 f2 i s1 p=>aj (by subst_vars;exact Nat.le_refl 26) λq=>⟨λm1 a b=>(m1=(26 - a).toNat)/\(0<=a/\a<=26)/\(b=m.wrs s 11 ((W26.ws f).take a.toNat)),⟨_,rfl,(by omega),(by rfl)⟩,λm1 _ a b ⟨hm,t,g⟩=>λf4=>av (λk=>aj (by omega) λe5=>⟨((W26.ws f).getD a.toNat 0),aj (by subst_vars;rw[W26.HC];exact W26.Qs (by omega)) λe6=>aj (W26.No j (by omega)) λu d v f8=>⟨_,(by rw[ay (by omega)];omega),rfl,(by rw[ay (by omega)];omega),(by rw[Mem.HF (W26.km f) (by omega),<-g];assumption)⟩⟩) λk=>aw h rfl (ai (uO0 (by rw[g,List.take_of_length_le];rw[W26.km];omega)) rfl) rfl⟩
def dG:Ctr Un:=⟨[.one (.obj 0 0),.one (.int .i64),.agg [.int .i64,.int .u32,.nsl]],[(2,5)],[.ob 1 [(1,1,0)],.ob 0 [],.ob 5 []],[1],λs k a r E b m c kk K=>E.n=m.S/\(0<=(a:Int)/\(a:Int)<4294967296)/\((k:Int)=1\/(k:Int)=2\/(k:Int)=4)/\K ⟨(.tuple #[]),(some (.t [])),[.ob 0 (m.msd kk s k a [])],[],[]⟩⟩
theorem kE:LV Un prog 65 dG:=bR Tryz.func65 ak [(23,bV),(63,dw),(39,eP),(96,pr),(59,l6)] ⟨cC,iK,fW,DT,z3,trivial⟩ [] (.r' (.r' (.two (.r' (.two (.node [] (some ⟨[(10,(.one (.int .i64)))],[],[7]++upN 10 16,[(1,(.ob 0)),(4,(.ob 7))]⟩) [] [] .leaf .leaf) .leaf)) .leaf))) [] (F:=∀s k a r (E:Pd) t (m:Mem) u (kk:List Int) Q,dG.body s k a r E t m u kk Q->Pd.Ok E->Mem.Wf m->∀(A:Nat),∀(B:Nat),∀(s1:List U32),s1=(W26.n (W26.mk []))->∃I:Nat->Int->Mem->List U32->Prop,(∃m1,I m1 0 m s1)/\∀(m1:Nat)(J:Nat->Value)(b:Int)(e:Mem)(c:List U32),I m1 b e c->Mem.Wf e->split (decide (b<26)) (∀(d:Mem),d=e->Mem.Wf d->((0<=b/\b<(c.length:Int))/\b<(26:Int))/\True/\∀(s2:List U32),s2=(List.set c b.toNat (uM (e.aI true s (i64.wrap (11+b)))))->∃m2,m2<m1/\I m2 (i64.wrap (b+1)) d s2) ((26<=c.length)/\W26.Ok (W26.mk (W26.n (W26.mk c)))/\(0<=a/\a<4294967296)/\(k=1\/k=2\/k=4)/\split (decide ((Dg.aL (W26.n (W26.mk (W26.n (W26.mk c)))))=0)) (∀(g:Nat),∀(s2:List U32),s2=(W26.n (W26.mk []))->(s2.length=26)/\∀(s3:List U32),s3=(Dg.svL ((Dg.load (W26.n (W26.mk (W26.n (W26.mk c))))).add kk (opW k a [])))->(26<=s3.length)/\E.n=e.S/\W26.Ok (W26.mk (W26.n (W26.mk s3)))/\∀(d:Mem),d=(e.wrs s 11 (W26.ws (W26.mk (W26.n (W26.mk s3)))))->Mem.Wf d->Q ⟨(.tuple #[]),(some (.t [])),[.ob 0 d],[],[]⟩) (∀(g:Nat),∀(s2:List U32),s2=(W26.n (W26.mk []))->(s2.length=26)/\∀(s3:List U32),s3=(W26.n (W26.mk []))->split ((Dg.aL (W26.n (W26.mk (W26.n (W26.mk c)))))==0) ((26<=s3.length)/\E.n=e.S/\W26.Ok (W26.mk (W26.n (W26.mk s3)))/\∀(d:Mem),d=(e.wrs s 11 (W26.ws (W26.mk (W26.n (W26.mk s3)))))->Mem.Wf d->Q ⟨(.tuple #[]),(some (.t [])),[.ob 0 d],[],[]⟩) (Q ⟨(.tuple #[]),(some (.t [])),[.ob 0 e],[],[]⟩)))) λs k a r E t m u kk Q h=>by
 obtain⟨M,C,O,h⟩:=h;exact λf1 f2 A B s1 R=>⟨λm1 b e c=>(m1=(26 - b).toNat)/\(0<=b/\b<=26)/\(e=m)/\(c=(m.dgW s).take b.toNat++List.replicate (26 - b.toNat) (uM 0)),⟨_,rfl,(by omega),(by rfl),(by(subst_vars;rfl))⟩,λm1 _ b e c ⟨hm,S,i,j⟩=>λf3=>av (λD d v f4=>aj (by rw[j];simp[Mem.fA];omega) λe5=>aj trivial λ_ s2 o=>⟨_,(by rw[ay (by omega)];omega),rfl,(by rw[ay (by omega)];omega),(by(subst_vars;rfl)),(by subst i;rw[o];exact Mem.u9 (by omega) j)⟩) λD=>(by(have p:c=m.dgW s:=by rw[j];exact Mem.zb (by omega));(have G:W26.n (W26.mk (W26.n (W26.mk c)))=m.dgW s:=by rw[p];exact W26.nn (Mem.fA m s));rw[G];exact aj (by rw[p];exact Nat.le_of_eq (Mem.fA m s).symm) λT=>aj (by rw[p];exact W26.Ax (Mem.fA m s) (Mem.kd f2 s)) λV=>aj ‹_› λW=>aj ‹_› λY=>av (λf=>(by(have y:=(Dg.vq (K:=kk) (l:=opW k a []) (Dg.eX (Mem.kd f2 s) f) (CY (k:=k) (a:=a) C (by omega) (λx H=>absurd H (by simp)))).1);exact λg s2 o=>aj (by(subst_vars;rfl)) λZ s3 q=>aj (by subst_vars;exact Nat.le_refl 26) λaa=>aj (by grind) λab=>aj (by subst q;exact W26.Ax rfl (Dg.CC y)) λae d v f15=>aw h rfl (ai (uO0 (by rw[v,q,Dg.HY y,i];unfold Mem.msd;rw[if_pos f])) rfl) rfl)) λf g s2 o=>aj (by(subst_vars;rfl)) λaf s3 q=>ar (λz=>(by exfalso;exact f z)) λz=>aw h rfl (ai (uO0 (by rw[i];unfold Mem.msd;rw[if_neg f])) rfl) rfl)⟩
def iS:Ctr Un:=⟨[.one (.obj 0 0),.one (.int .i64),.agg [.int .i64,.int .u32,.sl 2]],[(3,5)],[.ob 1 [(1,1,0)],.ob 0 [],.lst 1 false 23,.ob 5 []],[1],λs k a r E b m c d l e kk K=>E.n=m.S/\(0<=(a:Int)/\(a:Int)<4294967296)/\(k:Int)=3/\l.length=1024/\dy l/\K ⟨(.tuple #[]),(some (.t [])),[.ob 0 (m.msd kk s k a l)],[],[]⟩⟩
def xg(s k a:Int)(r:Nat->Nat)(E:Pd)(g:Nat->Nat)(m:Mem)(h:oA)(i:Nat)(l:List U32)(j:Nat->Nat)(kk:List Int)(Q:Ou Un->Prop):Prop:=Pd.Ok E->Mem.Wf m->∀(o:Nat),∀(p:Nat),∀(s1:List U32),s1=(W26.n (W26.mk []))->∃I:Nat->Int->Mem->List U32->Prop,(∃m1,I m1 0 m s1)/\∀(m1:Nat)(q:Nat->Value)(d:Int)(c:Mem)(e:List U32),I m1 d c e->Mem.Wf c->split (decide (d<26)) (∀(b:Mem),b=c->Mem.Wf b->((0<=d/\d<(e.length:Int))/\d<(26:Int))/\True/\∀(s2:List U32),s2=(List.set e d.toNat (uM (c.aI true s (i64.wrap (11+d)))))->∃m2,m2<m1/\I m2 (i64.wrap (d+1)) b s2) ((26<=e.length)/\W26.Ok (W26.mk (W26.n (W26.mk e)))/\(0<=a/\a<4294967296)/\k=3/\l.length=1024/\dy l/\split (decide ((Dg.aL (W26.n (W26.mk (W26.n (W26.mk e)))))=0)) (∀(f:Nat),∀(s2:List U32),s2=(W26.n (W26.mk []))->(s2.length=26)/\∀(s3:List U32),s3=(Dg.svL ((Dg.load (W26.n (W26.mk (W26.n (W26.mk e))))).add kk (opW k a l)))->(26<=s3.length)/\E.n=c.S/\W26.Ok (W26.mk (W26.n (W26.mk s3)))/\∀(b:Mem),b=(c.wrs s 11 (W26.ws (W26.mk (W26.n (W26.mk s3)))))->Mem.Wf b->Q ⟨(.tuple #[]),(some (.t [])),[.ob 0 b],[],[]⟩) (∀(f:Nat),∀(s2:List U32),s2=(W26.n (W26.mk []))->(s2.length=26)/\∀(s3:List U32),s3=(W26.n (W26.mk []))->split ((Dg.aL (W26.n (W26.mk (W26.n (W26.mk e)))))==0) ((26<=s3.length)/\E.n=c.S/\W26.Ok (W26.mk (W26.n (W26.mk s3)))/\∀(b:Mem),b=(c.wrs s 11 (W26.ws (W26.mk (W26.n (W26.mk s3)))))->Mem.Wf b->Q ⟨(.tuple #[]),(some (.t [])),[.ob 0 b],[],[]⟩) (Q ⟨(.tuple #[]),(some (.t [])),[.ob 0 c],[],[]⟩)))
theorem xh:Vc2 Un prog (iy [(23,bV),(63,dw),(39,eP),(96,px),(59,l6)]) [] Tryz.f65 (.r' (.r' (.two (.r' (.two (.node [] (some ⟨[(10,(.one (.int .i64)))],[],[7]++upN 10 16,[(1,(.ob 0)),(5,(.ob 7))]⟩) [] [] .leaf .leaf) .leaf)) .leaf))) [] iS=(∀s k a r (E:Pd) b (m:Mem) c d (l:List U32) e (kk:List Int),∀Q,(E.n=m.S/\(0<=(a:Int)/\(a:Int)<4294967296)/\(k:Int)=3/\l.length=1024/\dy l/\Q ⟨(.tuple #[]),(some (.t [])),[.ob 0 (m.msd kk s k a l)],[],[]⟩)->xg s k a r E b m c d l e kk Q):=by kernel_rfl
theorem xf:LV Un prog 65 iS:=verify Tryz.func65 ak (tb:= [(23,bV),(63,dw),(39,eP),(96,px),(59,l6)]) ⟨cC,iK,fW,DU,z3,trivial⟩ (by kernel_rfl) (xh.mpr λs k a r E B m C D l F kk Q h=>by
 obtain⟨G,u,H,I,v,h⟩:=h;exact λf1 f2 J M s1 O=>⟨λm1 b o d=>(m1=(26 - b).toNat)/\(0<=b/\b<=26)/\(o=m)/\(d=(m.dgW s).take b.toNat++List.replicate (26 - b.toNat) (uM 0)),⟨_,rfl,(by omega),(by rfl),(by(subst_vars;rfl))⟩,λm1 _ b o d ⟨hm,R,e,f⟩=>λf3=>av (λx y p f4=>aj (by rw[f];simp[Mem.fA];omega) λe5=>aj trivial λ_ s2 g=>⟨_,(by rw[ay (by omega)];omega),rfl,(by rw[ay (by omega)];omega),(by(subst_vars;rfl)),(by subst e;rw[g];exact Mem.u9 (by omega) f)⟩) λx=>(by(have i:d=m.dgW s:=by rw[f];exact Mem.zb (by omega));(have z:W26.n (W26.mk (W26.n (W26.mk d)))=m.dgW s:=by rw[i];exact W26.nn (Mem.fA m s));rw[z];exact aj (by rw[i];exact Nat.le_of_eq (Mem.fA m s).symm) λS=>aj (by rw[i];exact W26.Ax (Mem.fA m s) (Mem.kd f2 s)) λT=>aj ‹_› λV=>aj ‹_› λW=>aj ‹_› λY=>aj ‹_› λZ=>av (λc=>(by(have q:=(Dg.vq (K:=kk) (l:=opW k a l) (Dg.eX (Mem.kd f2 s) c) (CY (k:=k) (a:=a) u (by omega) v)).1);exact λA s2 g=>aj (by(subst_vars;rfl)) λaa s3 j=>aj (by subst_vars;exact Nat.le_refl 26) λab=>aj (by grind) λae=>aj (by subst j;exact W26.Ax rfl (Dg.CC q)) λaf y p f17=>aw h rfl (ai (uO0 (by rw[p,j,Dg.HY q,e];unfold Mem.msd;rw[if_pos c])) rfl) rfl)) λc A s2 g=>aj (by(subst_vars;rfl)) λah s3 j=>ar (λt=>(by exfalso;exact c t)) λt=>aw h rfl (ai (uO0 (by rw[e];unfold Mem.msd;rw[if_neg c])) rfl) rfl)⟩)
def cQ:Ctr Un:=⟨[.one (.bool),.one (.int .u32)],[],[],[],λyes c K=>split yes (K ⟨(.iface 165 (O c)),(some .pan),[],[],[]⟩) (K ⟨(.tuple #[]),(some (.t [])),[],[],[]⟩)⟩
theorem eQ:LV Un prog 56 cQ:=bR Tryz.func56 ak [] trivial [] .leaf [] (F:=∀yes c Q,cQ.body yes c Q->split yes (Q ⟨(.iface 165 (O c)),(some .pan),[],[],[]⟩) (Q ⟨(.tuple #[]),(some (.t [])),[],[],[]⟩)) λyes c Q h=>ao (λa=>(cg h ‹_›)) λa=>(cA h ‹_›)
def fQ:Ctr Un:=⟨[.one (.obj 0 0),.one (.int .u32)],[],[.ob 1 [(1,1,0)],.ob 0 []],[],λn r E a m K=>E.n=m.S/\(0<=(n:Int)/\(n:Int)<4294967296)/\split (decide (((E.on m).cW n)≠0)) (K ⟨(.iface 165 (O ((E.on m).cW n))),(some .pan),[],[],[]⟩) (K ⟨J n,none,[],[],[]⟩)⟩
section
attribute [local grind=] DB.cW
theorem nv:LV Un prog 55 fQ:=bR Tryz.func55 ak [(80,lu),(56,cQ)] ⟨nu,eQ,trivial⟩ [] .leaf [] (F:=∀n r (E:Pd) a (m:Mem) Q,fQ.body n r E a m Q->Pd.Ok E->Mem.Wf m->E.n=m.S/\split (decide ((i64.wrap n)>=(E.on m).S)) (Q ⟨(.iface 165 (O 1)),(some .pan),[],[],[]⟩) (Q ⟨J (i64.wrap n),none,[],[],[]⟩)) λn r E a m Q h=>by
 obtain⟨d,e,h⟩:=h;exact λf1 f2=>(by(have b:i64.wrap n=n:=ay (by omega));rw[b];exact aj ‹_› λs3=>av (λc=>aw (cg h (by grind)) (congrArg (Value.iface 165) (aE (by grind))) rfl rfl) λc=>cv (cA h (by grind)) (by omega))
end
def iJ:Ctr Un:=⟨[.one (.obj 0 0),.one (.int .u32)],[],[.ob 1 [(1,1,0)],.ob 0 []],[],λn r E a m K=>E.n=m.S/\(0<=(n:Int)/\(n:Int)<4294967296)/\split (decide (((E.on m).kZ n)≠0)) (K ⟨(.iface 165 (O ((E.on m).kZ n))),(some .pan),[],[],[]⟩) (K ⟨(.agg #[vB false,J n]),none,[],[],[]⟩)⟩
section
attribute [local grind=] DB.kZ
theorem wo:LV Un prog 67 iJ:=bR Tryz.func67 ak [(23,bV),(98,sW),(56,cQ)] ⟨cC,B7,eQ,trivial⟩ [] .leaf [] (F:=∀n r (E:Pd) a (m:Mem) Q,iJ.body n r E a m Q->Pd.Ok E->Mem.Wf m->∀(b:Nat),split (decide ((i64.wrap n)>=m.I)) (Q ⟨(.iface 165 (O 17)),(some .pan),[],[],[]⟩) (Q ⟨(.agg #[vB false,J (i64.wrap n)]),none,[],[],[]⟩)) λn r E a m Q h=>by
 obtain⟨e,f,h⟩:=h;exact λf1 f2=>(by(have c:i64.wrap n=n:=ay (by omega));rw[c];exact λb=>av (λd=>aw (cg h (by grind)) (congrArg (Value.iface 165) (aE (by grind))) rfl rfl) λd=>aw (cA h (by grind)) (fB (ai rfl (ai (aJ (by omega)) rfl))) rfl rfl)
end
def gq:Ctr Un:=⟨[.one (.obj 0 0),.one (.int .i64)],[],[.ob 1 [(1,1,0)],.ob 0 []],[],λn r E a m K=>E.n=m.S/\split (decide (((E.on m).dE n)≠0)) (K ⟨(.iface 165 (O ((E.on m).dE n))),(some .pan),[],[],[]⟩) (K ⟨(.tuple #[]),(some (.t [])),[],[],[]⟩)⟩
section
attribute [local grind=] DB.dE
theorem qO:LV Un prog 57 gq:=bR Tryz.func57 ak [(14,eU),(56,cQ)] ⟨fP,eQ,trivial⟩ [] .leaf [] (F:=∀n r (E:Pd) a (m:Mem) Q,gq.body n r E a m Q->Pd.Ok E->Mem.Wf m->E.n=m.S/\∀(b:Nat),split (((E.on m).entry n).typ !=0) (Q ⟨(.iface 165 (O 2)),(some .pan),[],[],[]⟩) (Q ⟨(.tuple #[]),(some (.t [])),[],[],[]⟩)) λn r E a m Q h=>by
 obtain⟨d,h⟩:=h;exact λf1 f2=>aj ‹_› λs3 b=>ax (λc=>aw (cg h (by grind)) (congrArg (Value.iface 165) (aE (by grind))) rfl rfl) λc=>(cA h (by grind))
end
def cY:Ctr Un:=⟨[.one (.obj 0 0),.one (.int .u32)],[],[.ob 1 [(1,1,0)],.ob 0 []],[],λs r E a m K=>E.n=m.S/\(0<=(s:Int)/\(s:Int)<4294967296)/\split (decide (((E.on m).gl s)≠0)) (K ⟨(.iface 165 (O ((E.on m).gl s))),(some .pan),[],[],[]⟩) (K ⟨J s,none,[],[],[]⟩)⟩
section
attribute [local grind=] DB.gl DB.cW DB.entry
theorem jE:LV Un prog 61 cY:=bR Tryz.func61 ak [(55,fQ),(14,eU),(56,cQ)] ⟨nv,fP,eQ,trivial⟩ [] .leaf [] (F:=∀s r (E:Pd) a (m:Mem) Q,cY.body s r E a m Q->Pd.Ok E->Mem.Wf m->E.n=m.S/\(0<=s/\s<4294967296)/\split (decide (((E.on m).cW s)≠0)) (Q ⟨(.iface 165 (O ((E.on m).cW s))),(some .pan),[],[],[]⟩) (E.n=m.S/\∀(b:Nat),split (((E.on m).entry s).typ !=1) (Q ⟨(.iface 165 (O 3)),(some .pan),[],[],[]⟩) (split (((E.on m).entry s).state !=1) (Q ⟨(.iface 165 (O 4)),(some .pan),[],[],[]⟩) (Q ⟨J s,none,[],[],[]⟩)))) λs r E a m Q h=>by
 obtain⟨f,g,h⟩:=h;exact λf1 f2=>aj ‹_› λs3=>aj ‹_› λi=>av (λc=>aw (cg h (by grind)) (congrArg (Value.iface 165) (aE (by grind))) rfl rfl) λc=>aj ‹_› λj b=>ax (λd=>aw (cg h (by grind)) (congrArg (Value.iface 165) (aE (by grind))) rfl rfl) λd=>ax (λe=>aw (cg h (by grind)) (congrArg (Value.iface 165) (aE (by grind))) rfl rfl) λe=>(cA h (by grind))
end
def gW:Ctr Un:=⟨[.one (.int .u32)],[],[],[],λw K=>(0<=(w:Int)/\(w:Int)<4294967296)/\split (decide (DB.kS w≠0)) (K ⟨(.iface 165 (O (DB.kS w))),(some .pan),[],[],[]⟩) (K ⟨(.agg #[O (bK w),vB (paW w),vB (paX w)]),none,[],[],[]⟩)⟩
section
attribute [local grind=] DB.kS
theorem tc:LV Un prog 66 gW:=bR Tryz.func66 ak [(97,nq),(56,cQ)] ⟨vP,eQ,trivial⟩ [] .leaf [] (F:=∀w Q,gW.body w Q->∀(a:Nat),(0<=w/\w<4294967296)/\∀(b:Nat),split ((mK w) !=0) (Q ⟨(.iface 165 (O 6)),(some .pan),[],[],[]⟩) (Q ⟨(.agg #[O (bK w),vB (paW w),vB (paX w)]),none,[],[],[]⟩)) λw Q h=>by
 obtain⟨d,h⟩:=h;exact λa=>aj ‹_› λs1 b=>ax (λc=>aw (cg h (by grind)) (congrArg (Value.iface 165) (aE (by grind))) rfl rfl) λc=>(cA h (by grind))
end
def jI:Ctr Un:=⟨[.one (.obj 0 0),.one (.int .i64),.one (.int .u32)],[],[.ob 1 [(1,1,0)],.ob 0 []],[1],λs va r E a m K=>E.n=m.S/\(0<=(va:Int)/\(va:Int)<4294967296)/\split (decide (((E.on m).jN s va)≠0)) (K ⟨(.iface 165 (O ((E.on m).jN s va))),(some .pan),[.ob 0 m],[],[]⟩) (K ⟨(.tuple #[]),(some (.t [])),[.ob 0 m],[],[]⟩)⟩
section
attribute [local grind=] DB.jN
theorem yo:LV Un prog 68 jI:=bR Tryz.func68 ak [(99,tH),(56,cQ)] ⟨FK,eQ,trivial⟩ [] .leaf [] (F:=∀s va r (E:Pd) a (m:Mem) Q,jI.body s va r E a m Q->Pd.Ok E->Mem.Wf m->E.n=m.S/\(0<=va/\va<4294967296)/\∀(m1:Mem),m1=m->Mem.Wf m1->split (((E.on m).cy s va)==140) (Q ⟨(.iface 165 (O 7)),(some .pan),[.ob 0 m1],[],[]⟩) (split (((E.on m).cy s va) !=0) (Q ⟨(.iface 165 (O 21)),(some .pan),[.ob 0 m1],[],[]⟩) (Q ⟨(.tuple #[]),(some (.t [])),[.ob 0 m1],[],[]⟩))) λs va r E a m Q h=>by
 obtain⟨d,e,h⟩:=h;exact λf1 f2=>aj ‹_› λs3=>aj ‹_› λf m1 g f5=>ar (λb=>aw (cg h (by grind)) (congrArg (Value.iface 165) (aE (by grind))) (ai (uO0 (by grind)) rfl) rfl) λb=>ax (λc=>aw (cg h (by grind)) (congrArg (Value.iface 165) (aE (by grind))) (ai (uO0 (by grind)) rfl) rfl) λc=>aw (cA h (by grind)) rfl (ai (uO0 (by grind)) rfl) rfl
end
def nX:Ctr Un:=⟨[.one (.obj 0 0),.one (.int .u32),.one (.int .u32)],[(2,5)],[.ob 1 [(1,1,0)],.ob 0 [],.ob 5 []],[0,1],λs q r E a m b kk K=>E.n=m.S/\(0<=(s:Int)/\(s:Int)<4294967296)/\(0<=(q:Int)/\(q:Int)<4294967296)/\K ⟨O ((E.on m).eY s q),none,[.ob 1 (((E.on m).du s q).pd),.ob 0 (((E.on m).du s q).mem)],[],[]⟩⟩
def Hv(s q:Int)(r:Nat->Nat)(E:Pd)(b:Nat->Nat)(m:Mem)(c:Nat->Nat)(kk:List Int)(Q:Ou Un->Prop):Prop:=Pd.Ok E->Mem.Wf m->∀(d:Nat),E.n=m.S/\(0<=s/\s<4294967296)/\split (decide (((E.on m).cW s)≠0)) (Q ⟨O ((E.on m).cW s),none,[.ob 1 E,.ob 0 m],[],[]⟩) (E.n=m.S/\(0<=q/\q<4294967296)/\split (decide (((E.on m).cW q)≠0)) (Q ⟨O ((E.on m).cW q),none,[.ob 1 E,.ob 0 m],[],[]⟩) (split (s==q) (Q ⟨O 16,none,[.ob 1 E,.ob 0 m],[],[]⟩) (E.n=m.S/\split (decide (((E.on m).dE s)≠0)) (Q ⟨O ((E.on m).dE s),none,[.ob 1 E,.ob 0 m],[],[]⟩) (E.n=m.S/\split (decide (((E.on m).dE q)≠0)) (Q ⟨O ((E.on m).dE q),none,[.ob 1 E,.ob 0 m],[],[]⟩) (E.n=m.S/\∀(a:Pd),a=((E.on m).bw s q).pd->Pd.Ok a->∀(m1:Mem),m1=((E.on m).bw s q).mem->Mem.Wf m1->split (((E.on m).bp s q) !=0) (Q ⟨O 24,none,[.ob 1 a,.ob 0 m1],[],[]⟩) (a.n=m1.S/\W26.Ok (W26.mk (Dg.svL Dg.new))/\∀(m2:Mem),m2=(m1.wrs s 11 (W26.ws (W26.mk (Dg.svL Dg.new))))->Mem.Wf m2->Q ⟨O 0,none,[.ob 1 a,.ob 0 m2],[],[]⟩))))))
theorem Hw:VcD Un prog (iy [(55,fQ),(56,cQ),(57,gq),(58,lZ),(60,nk),(59,l6)]) 54 165 [] Tryz.f27 .leaf [] nX=(∀s q r (E:Pd) a (m:Mem) b (kk:List Int),∀Q,(nX.body s q r E a m b kk Q)->Hv s q r E a m b kk Q):=by kernel_rfl
section
attribute [local grind=] DB.eY
theorem Hu:LV Un prog 27 nX:=pE ans Tryz.func27 ak (tb:= [(55,fQ),(56,cQ),(57,gq),(58,lZ),(60,nk),(59,l6)]) ⟨nv,eQ,qO,zU,KA,z3,trivial⟩ (by kernel_rfl) (Hw.mpr λs q r E j m k kk Q h=>by
 obtain⟨a,l,o,h⟩:=h;exact λf1 f2 p=>aj ‹_› λs3=>aj ‹_› λt=>av (λb=>aw h (aE (by grind)) (ai (uO1 (by(rw[DB.du,if_neg (by grind)];exact Pd.bT _ _ a))) (ai (uO0 (by(rw[DB.du,if_neg (by grind)];(subst_vars;rfl)))) rfl)) rfl) λb=>aj ‹_› λu=>aj ‹_› λv=>av (λc=>aw h (aE (by grind)) (ai (uO1 (by(rw[DB.du,if_neg (by grind)];exact Pd.bT _ _ a))) (ai (uO0 (by(rw[DB.du,if_neg (by grind)];(subst_vars;rfl)))) rfl)) rfl) λc=>ar (λd=>aw h (aE (by grind)) (ai (uO1 (by(rw[DB.du,if_neg (by grind)];exact Pd.bT _ _ a))) (ai (uO0 (by(rw[DB.du,if_neg (by grind)];(subst_vars;rfl)))) rfl)) rfl) λd=>aj ‹_› λx=>av (λe=>aw h (aE (by grind)) (ai (uO1 (by(rw[DB.du,if_neg (by grind)];exact Pd.bT _ _ a))) (ai (uO0 (by(rw[DB.du,if_neg (by grind)];(subst_vars;rfl)))) rfl)) rfl) λe=>aj ‹_› λs8=>av (λf=>aw h (aE (by grind)) (ai (uO1 (by(rw[DB.du,if_neg (by grind)];exact Pd.bT _ _ a))) (ai (uO0 (by(rw[DB.du,if_neg (by grind)];(subst_vars;rfl)))) rfl)) rfl) λf=>aj ‹_› λy z A f10 m1 B f11=>ax (λg=>(by have i:=DB.og b c d e f;exact aw h (aE (by grind)) (ai (uO1 (by rw[DB.du,if_neg (by grind)];subst_vars;rw[DB.bw,if_neg g])) (ai (uO0 (by rw[DB.du,if_neg (by grind)];subst_vars;rw[DB.bw,if_neg g])) rfl)) rfl)) λg=>aj (by(subst_vars;rfl)) λC=>aj (by show dy _;rw[W26.LB (by rfl)];exact Dg.CC Dg.lG) λD m2 F f14=>(by have i:=DB.og b c d e f;exact aw h (aE (by grind)) (ai (uO1 (by(rw[DB.du,if_pos (by grind)];subst_vars;exact DB.mN (by simp only[Mem.sy,Mem.dD,Mem.ju])))) (ai (uO0 (by(rw[DB.du,if_pos (by grind)];subst_vars;rfl))) rfl)) rfl))
end
def l5:Ctr Un:=⟨[.one (.obj 0 0),.one (.int .u32),.one (.int .u32),.one (.int .u32)],[(2,5)],[.ob 1 [(1,1,0)],.ob 0 [],.ob 5 []],[0,1],λs p b r E a m c kk K=>E.n=m.S/\(0<=(s:Int)/\(s:Int)<4294967296)/\(0<=(p:Int)/\(p:Int)<4294967296)/\(0<=(b:Int)/\(b:Int)<4294967296)/\K ⟨O ((E.on m).dt s p),none,[.ob 1 ((DB.cR kk (E.on m) s p b).pd),.ob 0 ((DB.cR kk (E.on m) s p b).mem)],[],[]⟩⟩
def Eu(s p b:Int)(r:Nat->Nat)(E:Pd)(d:Nat->Nat)(m:Mem)(e:Nat->Nat)(kk:List Int)(Q:Ou Un->Prop):Prop:=Pd.Ok E->Mem.Wf m->∀(f:Nat),E.n=m.S/\(0<=s/\s<4294967296)/\split (decide (((E.on m).gl s)≠0)) (Q ⟨O ((E.on m).gl s),none,[.ob 1 E,.ob 0 m],[],[]⟩) (E.n=m.S/\(0<=p/\p<4294967296)/\split (decide (((E.on m).cW p)≠0)) (Q ⟨O ((E.on m).cW p),none,[.ob 1 E,.ob 0 m],[],[]⟩) (E.n=m.S/\split (decide (((E.on m).dE p)≠0)) (Q ⟨O ((E.on m).dE p),none,[.ob 1 E,.ob 0 m],[],[]⟩) (E.n=m.S/\∀(a:Pd),a=((E.on m).take p 2 s).pd->Pd.Ok a->∀(m1:Mem),m1=((E.on m).take p 2 s).mem->Mem.Wf m1->(0<=b/\b<4294967296)/\∀(m2:Mem),m2=(m1.write true p 0 b)->Mem.Wf m2->a.n=m2.S/\(0<=b/\b<4294967296)/\((1:Int)=1\/(1:Int)=2\/(1:Int)=4)/\∀(c:Mem),c=(m2.msd kk s 1 b [])->Mem.Wf c->Q ⟨O 0,none,[.ob 1 a,.ob 0 c],[],[]⟩)))
theorem Ev:VcD Un prog (iy [(61,cY),(55,fQ),(57,gq),(37,ki),(23,bV),(63,dw),(36,fN),(65,dG)]) 54 165 [] Tryz.f32 .leaf [] l5=(∀s p b r (E:Pd) a (m:Mem) c (kk:List Int),∀Q,(l5.body s p b r E a m c kk Q)->Eu s p b r E a m c kk Q):=by kernel_rfl
section
attribute [local grind=] DB.dt DB.cW DB.dE
theorem Et:LV Un prog 32 l5:=pE ans Tryz.func32 ak (tb:= [(61,cY),(55,fQ),(57,gq),(37,ki),(23,bV),(63,dw),(36,fN),(65,dG)]) ⟨jE,nv,qO,tL,cC,iK,jY,kE,trivial⟩ (by kernel_rfl) (Ev.mpr λs p b r E f m g kk Q h=>by
 obtain⟨a,i,j,k,h⟩:=h;exact λf1 f2 l=>aj ‹_› λs3=>aj ‹_› λo=>av (λc=>aw h (aE (by grind)) (ai (uO1 (by(rw[DB.cR,if_neg (by grind)];exact Pd.bT _ _ a))) (ai (uO0 (by(rw[DB.cR,if_neg (by grind)];(subst_vars;rfl)))) rfl)) rfl) λc=>aj ‹_› λq=>aj ‹_› λt=>av (λd=>aw h (aE (by grind)) (ai (uO1 (by(rw[DB.cR,if_neg (by grind)];exact Pd.bT _ _ a))) (ai (uO0 (by(rw[DB.cR,if_neg (by grind)];(subst_vars;rfl)))) rfl)) rfl) λd=>aj ‹_› λu=>av (λe=>aw h (aE (by grind)) (ai (uO1 (by(rw[DB.cR,if_neg (by grind)];exact Pd.bT _ _ a))) (ai (uO0 (by(rw[DB.cR,if_neg (by grind)];(subst_vars;rfl)))) rfl)) rfl) λe=>aj ‹_› λs8 v x f9 m1 y f10=>aj ‹_› λz m2 A f12=>aj (by(subst_vars;(simp only[Mem.dD,Mem.ju,Mem.sy,Mem.DK];rfl))) λB=>aj ‹_› λC=>aj (by decide) λD F G f16=>aw h (aE (by grind)) (ai (uO1 (by(rw[DB.cR,if_pos (by grind)];subst_vars;exact DB.mN (by simp only[Mem.sy,Mem.dD,Mem.ju])))) (ai (uO0 (by(rw[DB.cR,if_pos (by grind)];subst_vars;rfl))) rfl)) rfl)
end
def nW:Ctr Un:=⟨[.one (.obj 0 0),.one (.int .u32),.one (.int .u32),.one (.int .u32)],[(2,5)],[.ob 1 [(1,1,0)],.ob 0 [],.ob 5 []],[0,1],λs p i r E a m b kk K=>E.n=m.S/\(0<=(s:Int)/\(s:Int)<4294967296)/\(0<=(p:Int)/\(p:Int)<4294967296)/\(0<=(i:Int)/\(i:Int)<4294967296)/\K ⟨O ((E.on m).gT s p i),none,[.ob 1 ((DB.eo kk (E.on m) s p i).pd),.ob 0 ((DB.eo kk (E.on m) s p i).mem)],[],[]⟩⟩
def Hs(s p i:Int)(r:Nat->Nat)(E:Pd)(f:Nat->Nat)(m:Mem)(g:Nat->Nat)(kk:List Int)(Q:Ou Un->Prop):Prop:=Pd.Ok E->Mem.Wf m->∀(h:Nat),E.n=m.S/\(0<=s/\s<4294967296)/\split (decide (((E.on m).gl s)≠0)) (Q ⟨O ((E.on m).gl s),none,[.ob 1 E,.ob 0 m],[],[]⟩) (E.n=m.S/\(0<=p/\p<4294967296)/\split (decide (((E.on m).cW p)≠0)) (Q ⟨O ((E.on m).cW p),none,[.ob 1 E,.ob 0 m],[],[]⟩) (split (decide (i>=256)) (Q ⟨O 16,none,[.ob 1 E,.ob 0 m],[],[]⟩) (E.n=m.S/\split (decide (((E.on m).dE p)≠0)) (Q ⟨O ((E.on m).dE p),none,[.ob 1 E,.ob 0 m],[],[]⟩) (E.n=m.S/\∀(m1:Mem),m1=m->Mem.Wf m1->∀(m2:Mem),m2=m1->Mem.Wf m2->split ((m1.aI true ((E.on m).tbl s) (i64.wrap i)) !=0) (Q ⟨O 7,none,[.ob 1 E,.ob 0 m2],[],[]⟩) (E.n=m2.S/\∀(a:Pd),a=((E.on m2).take p 4 s).pd->Pd.Ok a->∀(b:Mem),b=((E.on m2).take p 4 s).mem->Mem.Wf b->a.n=b.S/\∀(c:Pd),c=((a.on b).add s (i64.wrap i) p).pd->Pd.Ok c->∀(d:Mem),d=((a.on b).add s (i64.wrap i) p).mem->Mem.Wf d->c.n=d.S/\(0<=i/\i<4294967296)/\((2:Int)=1\/(2:Int)=2\/(2:Int)=4)/\∀(e:Mem),e=(d.msd kk s 2 i [])->Mem.Wf e->Q ⟨O 0,none,[.ob 1 c,.ob 0 e],[],[]⟩)))))
theorem Ht:VcD Un prog (iy [(61,cY),(55,fQ),(56,cQ),(57,gq),(62,je),(23,bV),(63,dw),(39,eP),(37,ki),(64,jf),(65,dG)]) 54 165 [] Tryz.f28 .leaf [] nW=(∀s p i r (E:Pd) a (m:Mem) b (kk:List Int),∀Q,(nW.body s p i r E a m b kk Q)->Hs s p i r E a m b kk Q):=by kernel_rfl
section
attribute [local grind=] DB.gT DB.word DB.cW DB.dE
theorem Hr:LV Un prog 28 nW:=pE ans Tryz.func28 ak (tb:= [(61,cY),(55,fQ),(56,cQ),(57,gq),(62,je),(23,bV),(63,dw),(39,eP),(37,ki),(64,jf),(65,dG)]) ⟨jE,nv,eQ,qO,np,cC,iK,fW,tL,sV,kE,trivial⟩ (by kernel_rfl) (Ht.mpr λs p i r E j m k kk Q h=>by
 obtain⟨a,l,o,q,h⟩:=h;exact λf1 f2=>(by(have b:i64.wrap i=i:=ay (by omega));rw[b];exact λt=>aj ‹_› λs3=>aj ‹_› λu=>av (λc=>aw h (aE (by grind)) (ai (uO1 (by(rw[DB.eo,if_neg (by grind)];exact Pd.bT _ _ a))) (ai (uO0 (by(rw[DB.eo,if_neg (by grind)];(subst_vars;rfl)))) rfl)) rfl) λc=>aj ‹_› λv=>aj ‹_› λx=>av (λd=>aw h (aE (by grind)) (ai (uO1 (by(rw[DB.eo,if_neg (by grind)];exact Pd.bT _ _ a))) (ai (uO0 (by(rw[DB.eo,if_neg (by grind)];(subst_vars;rfl)))) rfl)) rfl) λd=>av (λe=>aw h (aE (by grind)) (ai (uO1 (by(rw[DB.eo,if_neg (by grind)];exact Pd.bT _ _ a))) (ai (uO0 (by(rw[DB.eo,if_neg (by grind)];(subst_vars;rfl)))) rfl)) rfl) λe=>aj ‹_› λy=>av (λf=>aw h (aE (by grind)) (ai (uO1 (by(rw[DB.eo,if_neg (by grind)];exact Pd.bT _ _ a))) (ai (uO0 (by(rw[DB.eo,if_neg (by grind)];(subst_vars;rfl)))) rfl)) rfl) λf=>aj ‹_› λs8 m1 z f9 m2 A f10=>ax (λg=>aw h (aE (by grind)) (ai (uO1 (by(rw[DB.eo,if_neg (by grind)];exact Pd.bT _ _ a))) (ai (uO0 (by(rw[DB.eo,if_neg (by grind)];(subst_vars;rfl)))) rfl)) rfl) λg=>aj (by(subst_vars;assumption)) λB C D f12 F G f13=>aj (by(subst_vars;rfl)) λH I J f15 K M f16=>aj (by(subst_vars;rfl)) λO=>aj ‹_› λR=>aj (by decide) λS T V f20=>aw h (aE (by grind)) (ai (uO1 (by(rw[DB.eo,if_pos (by grind)];subst_vars;exact DB.mN (by simp only[Mem.sy,Mem.dD,Mem.ju])))) (ai (uO0 (by(rw[DB.eo,if_pos (by grind)];subst_vars;rfl))) rfl)) rfl))
end
def qP:Ctr Un:=⟨[.one (.obj 0 0),.one (.int .u32),.one (.int .u32),.one (.int .u32),.one (.int .u32)],[(2,5)],[.ob 1 [(1,1,0)],.ob 0 [],.ob 5 []],[0,1],λs p v n r E a m b kk K=>E.n=m.S/\(0<=(s:Int)/\(s:Int)<4294967296)/\(0<=(p:Int)/\(p:Int)<4294967296)/\(0<=(v:Int)/\(v:Int)<4294967296)/\(0<=(n:Int)/\(n:Int)<4294967296)/\K ⟨O ((E.on m).gj s p v n),none,[.ob 1 ((DB.eT kk (E.on m) s p v n).pd),.ob 0 ((DB.eT kk (E.on m) s p v n).mem)],[],[]⟩⟩
def KS(s p v n:Int)(r:Nat->Nat)(E:Pd)(g:Nat->Nat)(m:Mem)(h:Nat->Nat)(kk:List Int)(Q:Ou Un->Prop):Prop:=Pd.Ok E->Mem.Wf m->∀(i:Nat),E.n=m.S/\(0<=s/\s<4294967296)/\split (decide (((E.on m).gl s)≠0)) (Q ⟨O ((E.on m).gl s),none,[.ob 1 E,.ob 0 m],[],[]⟩) (E.n=m.S/\(0<=p/\p<4294967296)/\split (decide (((E.on m).cW p)≠0)) (Q ⟨O ((E.on m).cW p),none,[.ob 1 E,.ob 0 m],[],[]⟩) ((0<=v/\v<4294967296)/\split (decide (DB.kS v≠0)) (Q ⟨O (DB.kS v),none,[.ob 1 E,.ob 0 m],[],[]⟩) (∀(j:Nat),E.n=m.S/\(0<=n/\n<4294967296)/\split (decide (((E.on m).kZ n)≠0)) (Q ⟨O ((E.on m).kZ n),none,[.ob 1 E,.ob 0 m],[],[]⟩) (∀(k:Nat),E.n=m.S/\split (decide (((E.on m).dE p)≠0)) (Q ⟨O ((E.on m).dE p),none,[.ob 1 E,.ob 0 m],[],[]⟩) (E.n=m.S/\(0<=(bK v)/\(bK v)<4294967296)/\split (decide (((E.on m).jN s (bK v))≠0)) (∀(m1:Mem),m1=m->Mem.Wf m1->Q ⟨O ((E.on m).jN s (bK v)),none,[.ob 1 E,.ob 0 m1],[],[]⟩) (∀(m1:Mem),m1=m->Mem.Wf m1->E.n=m1.S/\∀(c:Pd),c=((E.on m1).take p 5 s).pd->Pd.Ok c->∀(m2:Mem),m2=((E.on m1).take p 5 s).mem->Mem.Wf m2->∀(d:Mem),d=(m2.copy true p false n)->Mem.Wf d->c.n=d.S/\(0<=(bK v)/\(bK v)<4294967296)/\∀(e:Pd),e=((c.on d).put s (bK v) (Mp.mk true p (paW v) (paX v))).pd->Pd.Ok e->∀(a:Mem),a=((c.on d).put s (bK v) (Mp.mk true p (paW v) (paX v))).mem->Mem.Wf a->split (a.has true p) (∀(A:oA),∀(b:Mem),b=a->Mem.Wf b->∀(l:List U32),l=(a.words true p.toNat)->(some (.slice A l.length 1024):Option Value)=some (.slice A ((a.words true p.toNat).length) 1024)/\e.n=b.S/\(0<=v/\v<4294967296)/\(3:Int)=3/\l.length=1024/\dy l/\∀(f:Mem),f=(b.msd kk s 3 v l)->Mem.Wf f->Q ⟨O 0,none,[.ob 1 e,.ob 0 f],[],[]⟩) (∀(b:Mem),b=a->Mem.Wf b->False)))))))
theorem KT:VcD Un prog (iy [(61,cY),(55,fQ),(66,gW),(67,iJ),(57,gq),(68,jI),(37,ki),(23,bV),(63,dw),(69,zE),(70,py),(71,zC),(65,iS)]) 54 165 [] Tryz.f30 (.r' (.r' (.r' (.r' (.r' (.r' (.r' (.two (.node [] none [] [(4,[5])] .leaf .leaf) (.two (.node [] none [] [(3,[4]),(7,[4]),(9,[4])] .leaf .leaf) .leaf))))))))) [] qP=(∀s p v n r (E:Pd) a (m:Mem) b (kk:List Int),∀Q,(qP.body s p v n r E a m b kk Q)->KS s p v n r E a m b kk Q):=by kernel_rfl
section
attribute [local grind=] DB.gj DB.cW DB.dE
theorem KR:LV Un prog 30 qP:=pE ans Tryz.func30 ak (tb:= [(61,cY),(55,fQ),(66,gW),(67,iJ),(57,gq),(68,jI),(37,ki),(23,bV),(63,dw),(69,zE),(70,py),(71,zC),(65,iS)]) ⟨jE,nv,tc,wo,qO,yo,tL,cC,iK,MH,DV,MG,xf,trivial⟩ (by kernel_rfl) (KT.mpr λs p v n r E o m q kk Q h=>by
 obtain⟨a,t,u,x,y,h⟩:=h;exact λf1 f2 z=>aj ‹_› λs3=>aj ‹_› λB=>av (λd=>aw h (aE (by grind)) (ai (uO1 (by(rw[DB.eT,if_neg (by grind)];exact Pd.bT _ _ a))) (ai (uO0 (by(rw[DB.eT,if_neg (by grind)];(subst_vars;rfl)))) rfl)) rfl) λd=>aj ‹_› λC=>aj ‹_› λD=>av (λc=>aw h (aE (by grind)) (ai (uO1 (by(rw[DB.eT,if_neg (by grind)];exact Pd.bT _ _ a))) (ai (uO0 (by(rw[DB.eT,if_neg (by grind)];(subst_vars;rfl)))) rfl)) rfl) λc=>aj ‹_› λF=>av (λe=>aw h (aE (by grind)) (ai (uO1 (by(rw[DB.eT,if_neg (by grind)];exact Pd.bT _ _ a))) (ai (uO0 (by(rw[DB.eT,if_neg (by grind)];(subst_vars;rfl)))) rfl)) rfl) λe G=>aj ‹_› λs8=>aj ‹_› λH=>av (λf=>aw h (aE (by grind)) (ai (uO1 (by(rw[DB.eT,if_neg (by grind)];exact Pd.bT _ _ a))) (ai (uO0 (by(rw[DB.eT,if_neg (by grind)];(subst_vars;rfl)))) rfl)) rfl) λf I=>aj ‹_› λJ=>av (λg=>aw h (aE (by grind)) (ai (uO1 (by(rw[DB.eT,if_neg (by grind)];exact Pd.bT _ _ a))) (ai (uO0 (by(rw[DB.eT,if_neg (by grind)];(subst_vars;rfl)))) rfl)) rfl) λg=>aj ‹_› λK=>aj (gg ‹_›) λM=>av (λi m1 j f13=>aw h (aE (by grind)) (ai (uO1 (by(rw[DB.eT,if_neg (by grind)];exact Pd.bT _ _ a))) (ai (uO0 (by(rw[DB.eT,if_neg (by grind)];(subst_vars;rfl)))) rfl)) rfl) λi m1 j f14=>aj (by(subst_vars;assumption)) λO R S f16 m2 T f17 V W f18=>aj (by(subst_vars;(simp only[Mem.dD,Mem.ju,Mem.sy,Mem.DK];rfl))) λY=>aj (gg ‹_›) λZ E2 SP f21 k R4 f22=>ao (λb A m5 Vk f23 l XK=>aj (by(subst_vars;rfl)) λaa=>aj (by(subst_vars;rfl)) λab=>aj ‹_› λae=>aj (by omega) λaf=>aj (by subst_vars;exact Mem.fR _ _ _) λah=>aj (by subst_vars;exact Mem.z5 ‹_› _ _) λan m6 UI f30=>aw h (aE (by grind)) (ai (uO1 (by(rw[DB.eT,if_pos (by grind)];subst_vars;exact DB.mN (by simp only[Mem.sy,Mem.dD,Mem.ju])))) (ai (uO0 (by(rw[DB.eT,if_pos (by grind)];subst_vars;rfl))) rfl)) rfl) λb=>(by exfalso;rw[show k=((E.on m).vh s p v n).mem by subst_vars;rfl,DB.Du,DB.CR c]at b;cases b))
end
def nY:Ctr Un:=⟨[.one (.obj 0 0),.one (.int .u32),.one (.int .u32),.one (.int .u32)],[(2,5)],[.ob 1 [(1,1,0)],.ob 0 [],.ob 5 []],[0,1],λs v n r E a m b kk K=>E.n=m.S/\(0<=(s:Int)/\(s:Int)<4294967296)/\(0<=(v:Int)/\(v:Int)<4294967296)/\(0<=(n:Int)/\(n:Int)<4294967296)/\K ⟨O ((E.on m).eZ s v n),none,[.ob 1 ((DB.dM kk (E.on m) s v n).pd),.ob 0 ((DB.dM kk (E.on m) s v n).mem)],[],[]⟩⟩
def Hy(s v n:Int)(r:Nat->Nat)(E:Pd)(c:Nat->Nat)(m:Mem)(d:Nat->Nat)(kk:List Int)(Q:Ou Un->Prop):Prop:=Pd.Ok E->Mem.Wf m->∀(e:Nat),E.n=m.S/\(0<=s/\s<4294967296)/\split (decide (((E.on m).gl s)≠0)) (Q ⟨O ((E.on m).gl s),none,[.ob 1 E,.ob 0 m],[],[]⟩) ((0<=v/\v<4294967296)/\split (decide (DB.kS v≠0)) (Q ⟨O (DB.kS v),none,[.ob 1 E,.ob 0 m],[],[]⟩) (∀(f:Nat),split (paX v) (Q ⟨O 6,none,[.ob 1 E,.ob 0 m],[],[]⟩) (E.n=m.S/\(0<=n/\n<4294967296)/\split (decide (((E.on m).kZ n)≠0)) (Q ⟨O ((E.on m).kZ n),none,[.ob 1 E,.ob 0 m],[],[]⟩) (∀(g:Nat),E.n=m.S/\(0<=(bK v)/\(bK v)<4294967296)/\split (decide (((E.on m).jN s (bK v))≠0)) (∀(m1:Mem),m1=m->Mem.Wf m1->Q ⟨O ((E.on m).jN s (bK v)),none,[.ob 1 E,.ob 0 m1],[],[]⟩) (∀(m1:Mem),m1=m->Mem.Wf m1->E.n=m1.S/\(0<=(bK v)/\(bK v)<4294967296)/\∀(a:Pd),a=((E.on m1).put s (bK v) (Mp.mk false n (paW v) false)).pd->Pd.Ok a->∀(m2:Mem),m2=((E.on m1).put s (bK v) (Mp.mk false n (paW v) false)).mem->Mem.Wf m2->a.n=m2.S/\(0<=v/\v<4294967296)/\((4:Int)=1\/(4:Int)=2\/(4:Int)=4)/\∀(b:Mem),b=(m2.msd kk s 4 v [])->Mem.Wf b->Q ⟨O 0,none,[.ob 1 a,.ob 0 b],[],[]⟩)))))
theorem Hz:VcD Un prog (iy [(61,cY),(66,gW),(56,cQ),(67,iJ),(68,jI),(70,py),(65,dG)]) 54 165 [] Tryz.f31 .leaf [] nY=(∀s v n r (E:Pd) a (m:Mem) b (kk:List Int),∀Q,(nY.body s v n r E a m b kk Q)->Hy s v n r E a m b kk Q):=by kernel_rfl
section
attribute [local grind=] DB.eZ DB.cW DB.dE
theorem Hx:LV Un prog 31 nY:=pE ans Tryz.func31 ak (tb:= [(61,cY),(66,gW),(56,cQ),(67,iJ),(68,jI),(70,py),(65,dG)]) ⟨jE,tc,eQ,wo,yo,DV,kE,trivial⟩ (by kernel_rfl) (Hz.mpr λs v n r E i m j kk Q h=>by
 obtain⟨a,k,l,o,h⟩:=h;exact λf1 f2 p=>aj ‹_› λs3=>aj ‹_› λq=>av (λb=>aw h (aE (by grind)) (ai (uO1 (by(rw[DB.dM,if_neg (by grind)];exact Pd.bT _ _ a))) (ai (uO0 (by(rw[DB.dM,if_neg (by grind)];(subst_vars;rfl)))) rfl)) rfl) λb=>aj ‹_› λt=>av (λc=>aw h (aE (by grind)) (ai (uO1 (by(rw[DB.dM,if_neg (by grind)];exact Pd.bT _ _ a))) (ai (uO0 (by(rw[DB.dM,if_neg (by grind)];(subst_vars;rfl)))) rfl)) rfl) λc u=>ao (λd=>aw h (aE (by grind)) (ai (uO1 (by(rw[DB.dM,if_neg (by grind)];exact Pd.bT _ _ a))) (ai (uO0 (by(rw[DB.dM,if_neg (by grind)];(subst_vars;rfl)))) rfl)) rfl) λd=>aj ‹_› λx=>aj ‹_› λy=>av (λe=>aw h (aE (by grind)) (ai (uO1 (by(rw[DB.dM,if_neg (by grind)];exact Pd.bT _ _ a))) (ai (uO0 (by(rw[DB.dM,if_neg (by grind)];(subst_vars;rfl)))) rfl)) rfl) λe z=>aj ‹_› λs8=>aj (gg ‹_›) λA=>av (λf m1 g f10=>aw h (aE (by grind)) (ai (uO1 (by(rw[DB.dM,if_neg (by grind)];exact Pd.bT _ _ a))) (ai (uO0 (by(rw[DB.dM,if_neg (by grind)];(subst_vars;rfl)))) rfl)) rfl) λf m1 g f11=>aj (by(subst_vars;assumption)) λB=>aj (gg ‹_›) λC D F f14 m2 G f15=>aj (by(subst_vars;rfl)) λH=>aj ‹_› λI=>aj (by decide) λJ K M f19=>aw h (aE (by grind)) (ai (uO1 (by(rw[DB.dM,if_pos (by grind)];subst_vars;exact DB.mN (by simp only[Mem.sy,Mem.dD,Mem.ju])))) (ai (uO0 (by(rw[DB.dM,if_pos (by grind)];subst_vars;rfl))) rfl)) rfl)
end
end
end Go.Proofs.YtjiflmkpbkeocaaGreatDoor
