/- SnapForms returns true for every input: a snapshot that the program reads is read alike by the document's answer, with the same refusals and the same words. -/
import Derived.Test.YtoghdgcmhbanbaaGreatDoorF5
import Derived.KernelRfl
import Derived.Lib.SlBytesConst
import Derived.ArgAppend
set_option linter.unusedVariables false
set_option linter.unusedSimpArgs false
section
set_option maxRecDepth 100000
set_option maxHeartbeats 1000000
namespace Go.Proofs.YtoghdgcmhbanbaaGreatDoor
open Go Go.RowKit V
open Go.IntKind (i64 u32 u64 wrap_i64 wrap_u32)
open Go.Proofs (Tryz.prog)
attribute [local irreducible] Vc2 VcD
attribute [local grind=] Pd.cO Pd.dj Pd.kZ Pd.k8 Pd.qn Pd.kY Pd.kX Pd.iP Pd.qe
attribute [local grind .] Pd.Ok.ent
attribute [local grind→] Pd.Ok.dD
def xg:Ctr Un:=⟨[.one (.obj 0 0),.agg [.bool,.int .i64],.one (.int .i64)],[],[.ob 2 []],[],λd e off rm m K=>K ⟨O (m.gp d e off),none,[],[],[]⟩⟩
theorem F4:LV Un Tryz.prog 64 xg:=by
 show ∀(d:Bool)(f off:Int)(rm:Nat->Nat)(m:Mem),∀Q:Ou Un->Prop,(Q ⟨O (m.gp d f off),none,[],[],[]⟩)->∀(X:bP)(w:World),Sat (U:=Un) [(.ob 2 rm m)] X w->aH (U:=Un) [(.ob 2 rm m)] fr0 []->Calls Tryz.prog 64 #[(.pointer (pvA (rm 0))),(.agg #[vB d,J f]),J off] w (cS (U:=Un) [(.ob 2 rm m)] [] X w Q);intro d f off rm m Q i X w h k;obtain⟨L,l,j⟩:=(h.res 0 _ rfl:gC 2 rm m (X 0) w);refine(DL j d f off).mono ?_;rintro e w' ⟨u,rfl,rfl,q⟩;exact cS.pu h q i trivial
def nB:Ctr Un:=⟨[.one (.int .i64)],[],[],[],λp K=>K ⟨(.agg #[vB true,J p]),none,[],[],[]⟩⟩
theorem Dc:LV Un Tryz.prog 155 nB:=dJ Tryz.func155 aj [] trivial [] .leaf [] (F:=∀p Q,nB.body p Q->∀(d:Nat),Q ⟨(.agg #[vB true,J p]),none,[],[],[]⟩) λp Q h=>λd=>h
def dQ:Ctr Un:=⟨[.one (.obj 0 0),.one (.int .i64),.one (.int .i64)],[],[.ob 3 [(1,1,0)],.ob 2 []],[],λp o r E rm m K=>E.n=m.S/\K ⟨O ((E.on m).word p o),none,[],[],[]⟩⟩
section
attribute [local grind=] DB.word
theorem fu:LV Un Tryz.prog 127 dQ:=dJ Tryz.func127 aj [(155,nB),(64,xg)] ⟨Dc,F4,trivial⟩ [] (.r' (.two (.node [] none [] [(3,[0])] .leaf .leaf) .leaf)) [] (F:=∀p o r (E:Pd) rm (m:Mem) Q,dQ.body p o r E rm m Q->Pd.Ok E->Mem.Wf m->Q ⟨O (m.gp true p o),none,[],[],[]⟩) λp o r E rm m Q h=>by
 obtain⟨d,h⟩:=h;exact λf1 f2=>fm h (by grind)
end
def gZ:Ctr Un:=⟨[.one (.obj 0 0),.one (.int .i64),.one (.int .i64),.one (.int .i64)],[],[.ob 3 [(1,1,0)],.ob 2 []],[],λp lo hi r E rm m K=>E.n=m.S/\(0<=(lo:Int)/\(hi:Int)<=1024)/\K ⟨vB ((E.on m).zero p lo hi),none,[],[],[]⟩⟩
section
attribute [local grind=] DB.zero
theorem mh:LV Un Tryz.prog 92 gZ:=dJ Tryz.func92 aj [(127,dQ)] ⟨fu,trivial⟩ [9] (.r' (.two (.r' (.two (.node [] (some ⟨[(9,(.one (.int .i64)))],[],[8,9]++upN 11 10,[]⟩) [] [] .leaf .leaf) .leaf)) .leaf)) [] (F:=∀p lo hi r (E:Pd) rm (m:Mem) Q,gZ.body p lo hi r E rm m Q->Pd.Ok E->Mem.Wf m->∀o:Int,o=lo->∃I:Nat->Int->Prop,(∃e,I e o)/\∀(e:Nat)(_gv:Nat->Value)(d:Int),I e d->split (decide (d<hi)) (E.n=m.S/\split (((E.on m).word p d) !=0) (Q ⟨vB false,none,[],[],[]⟩) (∀f:Int,f=(i64.wrap (d+1))->∃i,i<e/\I i f)) (Q ⟨vB true,none,[],[],[]⟩)) λp lo hi r E rm m Q h=>by
 obtain⟨t,u,h⟩:=h;exact λf1 f2=>allEq<| ⟨λe d=>(e=(hi - d).toNat)/\(lo<=d)/\(fR (λx=>(E.on m).word p x==0) lo d=true),⟨_,rfl,(by omega),(ez (Int.le_refl _))⟩,λe _ d ⟨hm,v,j⟩=>af (λk=>ak ‹_› λy=>aG (λl=>aW h (by grind[cP])) λl=>allEq<| ⟨_,(by(have q:=aa (x:=d+1) (by omega));omega),rfl,(by have q:=aa (x:=d+1) (by omega);omega),(bS j (by grind) (aa (by omega)))⟩) λk=>aW h (dm.2 λx a b=>dm.1 j x a (by omega))⟩
end
def mj:Ctr Un:=⟨[.one (.obj 0 0),.one (.int .i64),.one (.int .i64)],[],[.ob 3 [(1,1,0)],.ob 2 []],[],λp t r E rm m K=>E.n=m.S/\K ⟨vB ((E.on m).is p t),none,[],[],[]⟩⟩
section
attribute [local grind=] DB.is
theorem sj:LV Un Tryz.prog 93 mj:=dJ Tryz.func93 aj [] trivial [] (.r' (.two (.node [] (some ⟨[(6,(.one .bool))],[],upN 6 24,[]⟩) [] [] .leaf .leaf) .leaf)) [] (F:=∀p t r (E:Pd) rm (m:Mem) Q,mj.body p t r E rm m Q->Pd.Ok E->Mem.Wf m->∃J:Bool->Prop,(split (decide (p>=0)) (split (decide (p<((Pd.ax E).length:Int))) ((0<=p/\p<((Pd.ax E).length:Int))/\J ((eG E p).typ==t)) (J false)) (J false))/\∀(_gv:Nat->Value)(d:Bool),J d->Q ⟨vB d,none,[],[],[]⟩) λp t r E rm m Q h=>by
 obtain⟨i,h⟩:=h;exact λf1 f2=>bF ((decide ((p:Int)>=0)) && ((decide ((p:Int)<(((Pd.ax E).length:Nat):Int))) && (((eG E p).typ:Int)==t))) (ab (λe=>ab (λf=>ak (by grind) λj=>(by grind)) λf=>(by grind)) λe=>(by grind))<| aW h (by grind)
end
def mi:Ctr Un:=⟨[.one (.obj 0 0),.one (.int .i64),.one (.int .i64),.one (.int .i64)],[],[.ob 3 [(1,1,0)],.ob 2 []],[],λp t o r E rm m K=>E.n=m.S/\K ⟨vB ((E.on m).of p t o),none,[],[],[]⟩⟩
section
attribute [local grind=] DB.of DB.is
theorem si:LV Un Tryz.prog 129 mi:=dJ Tryz.func129 aj [(93,mj)] ⟨sj,trivial⟩ [] (.r' (.two (.node [] (some ⟨[(8,(.one .bool))],[],upN 8 17,[]⟩) [] [] .leaf .leaf) .leaf)) [] (F:=∀p t o r (E:Pd) rm (m:Mem) Q,mi.body p t o r E rm m Q->Pd.Ok E->Mem.Wf m->∃J:Bool->Prop,(E.n=m.S/\split ((E.on m).is p t) ((0<=p/\p<((Pd.ax E).length:Int))/\J ((eG E p).owner==o)) (J false))/\∀(_gv:Nat->Value)(d:Bool),J d->Q ⟨vB d,none,[],[],[]⟩) λp t o r E rm m Q h=>by
 obtain⟨f,h⟩:=h;exact λf1 f2=>bF (((E.on m).is p t) && (((eG E p).owner:Int)==o)) (ak ‹_› λi=>ab (λe=>ak (by grind) λj=>(by grind)) λe=>(by grind))<| aW h (by grind)
end
def nD:Ctr Un:=⟨[.one (.obj 0 0),.one (.int .i64)],[],[.ob 3 [(1,1,0)],.ob 2 []],[],λp r E rm m K=>E.n=m.S/\(E.on m).has p=true/\K ⟨vB ((E.on m).alive p),none,[],[],[]⟩⟩
section
attribute [local grind=] DB.alive DB.is
theorem De:LV Un Tryz.prog 98 nD:=dJ Tryz.func98 aj [(93,mj)] ⟨sj,trivial⟩ [] (.r' (.r' (.two (.node [] (some ⟨[(4,(.one .bool))],[],[4]++upN 14 14,[]⟩) [] [] .leaf .leaf) .leaf))) [] (F:=∀p r (E:Pd) rm (m:Mem) Q,nD.body p r E rm m Q->Pd.Ok E->Mem.Wf m->(0<=p/\p<((Pd.ax E).length:Int))/\∃J:Bool->Prop,(E.n=m.S/\split ((E.on m).is ((eG E p).owner) 1) ((0<=(eG E p).owner/\(eG E p).owner<((Pd.ax E).length:Int))/\J (((Pd.ax E).getD (Int.toNat ((eG E p).owner)) Ent.free).state !=3)) (J false))/\∀(_gv:Nat->Value)(d:Bool),J d->Q ⟨vB d,none,[],[],[]⟩) λp r E rm m Q h=>by
 obtain⟨f,i,h⟩:=h;exact λf1 f2=>ak (by grind) λj=>bF (((E.on m).is ((eG E p).owner) 1) && ((((Pd.ax E).getD (Int.toNat ((eG E p).owner)) Ent.free).state:Int) !=3)) (ak ‹_› λk=>ab (λe=>ak (by grind) λl=>(by grind)) λe=>(by grind))<| aW h (by grind)
end
theorem cB {E:Pd}{m:Mem}(h:m.Wf)(p o:Int):0<=(E.on m).word p o/\(E.on m).word p o<4294967296:=by
 show 0<=m.gp true p o/\m.gp true p o<_;unfold Mem.gp;split
 ·exact h.1 _ _ _
 ·omega
def lE:Ctr Un:=⟨[.one (.obj 0 0),.one (.int .i64)],[],[.ob 3 [(1,1,0)],.ob 2 []],[],λp r E rm m K=>E.n=m.S/\(E.on m).has p=true/\K ⟨vB ((E.on m).fx p),none,[],[],[]⟩⟩
section
attribute [local grind=] DB.fx Pd.vZ
theorem BJ:LV Un Tryz.prog 95 lE:=dJ Tryz.func95 aj [(127,dQ)] ⟨fu,trivial⟩ [6] (.r' (.r' (.two (.two (.node [] (some ⟨[(22,(.one .bool))],[],upN 10 13,[]⟩) [] [] .leaf .leaf) .leaf) (.two (.r' (.two (.node [] (some ⟨[(6,(.one (.int .i64)))],[],[4,6]++upN 23 21,[]⟩) [] [] (.r' (.two (.two (.two (.node [] (some ⟨[(43,(.one .bool))],[],upN 28 16,[]⟩) [] [] .leaf .leaf) .leaf) .leaf) .leaf)) .leaf) .leaf)) .leaf)))) [] (F:=∀p r (E:Pd) rm (m:Mem) Q,lE.body p r E rm m Q->Pd.Ok E->Mem.Wf m->E.n=m.S/\∃J:Bool->Prop,(split (decide ((i64.wrap ((E.on m).word p 1))>=(Pd.aR E))) (J true) (E.n=m.S/\J (decide (((E.on m).word p 2)>4096))))/\∀(_gv:Nat->Value)(i:Bool),J i->split i (Q ⟨vB false,none,[],[],[]⟩) (∀q:Int,q=0->∃I:Nat->Int->Prop,(∃e,I e q)/\∀(e:Nat)(_gv1:Nat->Value)(d:Int),I e d->split (decide (d<p)) (∃f:Bool->Prop,((0<=d/\d<((Pd.ax E).length:Int))/\split ((eG E d).typ==1) (E.n=m.S/\f (((E.on m).word d 1)==((E.on m).word p 1))) (f false))/\∀(_gv2:Nat->Value)(j:Bool),f j->split j (Q ⟨vB false,none,[],[],[]⟩) (∀k:Int,k=(i64.wrap (d+1))->∃l,l<e/\I l k)) (Q ⟨vB true,none,[],[],[]⟩))) λp r E rm m Q h=>by
 obtain⟨H,M,h⟩:=h;exact λf1 f2=>(by(have hw:=λa b=>aa (x:=(E.on m).word a b) (by have:=cB (E:=E) f2 a b;omega));exact ak ‹_› λN=>bF ((decide ((i64.wrap ((E.on m).word p 1):Int)>=(Pd.aR E))) || (decide ((((E.on m).word p 2):Int)>4096))) (ab (λu=>(by grind)) λu=>ak ‹_› λO=>(by grind))<| bm (λv=>aW h (by grind)) λv=>allEq<| ⟨λe d=>(e=(p - d).toNat)/\(0<=d/\d<=p)/\(fR (λz=>!(((E.on m).at_ z).typ==1 && (E.on m).word z 1==(E.on m).word p 1)) 0 d=true),⟨_,rfl,(by grind),(ez (Int.le_refl _))⟩,λe _ d ⟨hm,y,o⟩=>af (λt=>bF ((((eG E d).typ:Int)==1) && ((((E.on m).word d 1):Int)==((E.on m).word p 1))) (ak (by grind) λP=>ab (λB=>ak ‹_› λR=>(by grind)) λB=>(by grind))<| cJ (λC=>aW h (by rw[DB.fx,cP y.1 t (by grind)];simp)) λC=>allEq<| ⟨_,(by(have G:=aa (x:=d+1) (by grind));grind),rfl,(by(have G:=aa (x:=d+1) (by grind));grind),(bS o (by grind) (aa (by grind)))⟩) λt=>aW h (by(have hq:d=p:=by omega);subst hq;rw[DB.fx,o];grind)⟩)
end
def nC:Ctr Un:=⟨[.one (.obj 0 0),.one (.int .i64)],[],[.ob 3 [(1,1,0)],.ob 2 []],[],λp r E rm m K=>E.n=m.S/\(E.on m).has p=true/\K ⟨vB ((E.on m).mO p),none,[],[],[]⟩⟩
section
attribute [local grind=] DB.mO
theorem Dd:LV Un Tryz.prog 97 nC:=dJ Tryz.func97 aj [(129,mi),(127,dQ)] ⟨si,fu,trivial⟩ [5,6,7] (.r' (.r' (.r' (.two (.r' (.two (.node [] (some ⟨[(5,(.one (.int .i64))),(6,(.one (.int .i64)))],[],[5,6]++upN 17 15,[]⟩) [] [] .leaf .leaf) .leaf)) (.r' (.two (.node [] (some ⟨[(4,(.one .bool))],[],[4]++upN 36 8,[]⟩) [] [] .leaf .leaf) .leaf)))))) [] (F:=∀p r (E:Pd) rm (m:Mem) Q,nC.body p r E rm m Q->Pd.Ok E->Mem.Wf m->(0<=p/\p<((Pd.ax E).length:Int))/\split ((eG E p).state==3) (Q ⟨vB true,none,[],[],[]⟩) (∀n:Int,n=0->∀q:Int,q=0->∃I:Nat->Int->Int->Prop,(∃i,I i n q)/\∀(i:Nat)(_gv:Nat->Value)(e d:Int),I i e d->split (decide (d<((Pd.ax E).length:Int))) (E.n=m.S/\split ((E.on m).of d 3 p) (∀n2:Int,n2=(i64.wrap (e+1))->∀j:Int,j=(i64.wrap (d+1))->∃k,k<i/\I k n2 j) (∀j:Int,j=(i64.wrap (d+1))->∃k,k<i/\I k e j)) (E.n=m.S/\∀t:Int,t=(i64.wrap ((E.on m).word p 0))->∃J:Bool->Prop,(split (e==1) (E.n=m.S/\J ((E.on m).of t 3 p)) (J false))/\∀(_gv1:Nat->Value)(u:Bool),J u->Q ⟨vB u,none,[],[],[]⟩))) λp r E rm m Q h=>by
 obtain⟨O,P,h⟩:=h;exact λf1 f2=>(by(have hw:=λa b=>aa (x:=(E.on m).word a b) (by have:=cB (E:=E) f2 a b;omega));exact ak (by grind) λR=>aE (λv=>aW h (by grind)) λv=>allEq<| allEq<| ⟨λi e d=>(i=((E.n:Int) - d).toNat)/\(0<=d/\d<=(E.n:Int))/\(e=dH (λz=>(E.on m).of z 3 p) d),⟨_,rfl,(by omega),(by rfl)⟩,λi _ e d ⟨hm,o,S⟩=>af (λy=>ak ‹_› λT=>ab (λB=>allEq<| allEq<| ⟨_,(by(have l:=aa (x:=d+1) (by grind));grind),rfl,(by(have l:=aa (x:=d+1) (by grind));grind),(by(have l:=aa (x:=d+1) (by grind));have C:=cz (f:=λz=>(E.on m).of z 3 p) o.1;have G:=fM (f:=λz=>(E.on m).of z 3 p) o.1;have H:=dV (f:=λz=>(E.on m).of z 3 p) (n:=d);have M:=aa (x:=e+1) (by grind);grind)⟩) λB=>allEq<| ⟨_,(by(have l:=aa (x:=d+1) (by grind));grind),rfl,(by(have l:=aa (x:=d+1) (by grind));grind),(by(have l:=aa (x:=d+1) (by grind));have C:=cz (f:=λz=>(E.on m).of z 3 p) o.1;have G:=fM (f:=λz=>(E.on m).of z 3 p) o.1;have H:=dV (f:=λz=>(E.on m).of z 3 p) (n:=d);have M:=aa (x:=e+1) (by grind);grind)⟩) λy=>ak ‹_› λV=>allEq<| bF (((e:Int)==1) && ((E.on m).of (i64.wrap ((E.on m).word p 0)) 3 p)) (ab (λN=>ak ‹_› λW=>(by grind)) λN=>(by grind))<| aW h (by(have hq:d=(E.n:Int):=by grind);(grind[Pd.jn]))⟩)
end
def mF:Ctr Un:=⟨[.one (.obj 0 0)],[],[.ob 2 []],[],λrm m K=>K ⟨J (m.I:Int),none,[],[],[]⟩⟩
theorem vm:LV Un Tryz.prog 56 mF:=by
 show ∀(rm:Nat->Nat)(m:Mem),∀Q:Ou Un->Prop,(Q ⟨J (m.I:Int),none,[],[],[]⟩)->∀(X:bP)(w:World),Sat (U:=Un) [(.ob 2 rm m)] X w->aH (U:=Un) [(.ob 2 rm m)] fr0 []->Calls Tryz.prog 56 #[(.pointer (pvA (rm 0)))] w (cS (U:=Un) [(.ob 2 rm m)] [] X w Q);intro rm m Q f X w d i;obtain⟨L,j,h⟩:=(d.res 0 _ rfl:gC 2 rm m (X 0) w);refine(qi h).mono ?_;rintro e w' ⟨u,rfl,rfl,q⟩;exact cS.pu d q f trivial
def pO:Ctr Un:=⟨[.one (.obj 0 0),.one (.int .i64)],[],[.ob 3 [(1,1,0)],.ob 2 []],[],λp r E rm m K=>E.n=m.S/\(E.on m).has p=true/\K ⟨vB ((E.on m).km p),none,[],[],[]⟩⟩
theorem F1:LV Un Tryz.prog 100 pO:=dJ Tryz.func100 aj [(127,dQ),(131,eJ),(129,mi),(56,mF)] ⟨fu,jK,si,vm,trivial⟩ [5] (.r' (.two (.r' (.two (.node [] (some ⟨[(5,(.one (.int .i64)))],[],upN 4 45,[]⟩) [] [] (.r' (.two (.two (.r' (.r' (.r' (.r' (.r' (.two (.two (.node [] none [] [(2,[2]),(6,[0]),(10,[0])] .leaf .leaf) .leaf) (.two (.node [] none [] [(1,[2]),(5,[0])] .leaf .leaf) .leaf))))))) .leaf) .leaf)) .leaf) .leaf)) .leaf)) [] (F:=∀p r (E:Pd) rm (m:Mem) Q,pO.body p r E rm m Q->Pd.Ok E->Mem.Wf m->∀j:Int,j=0->∃I:Nat->Int->Prop,(∃e,I e j)/\∀(e:Nat)(_gv:Nat->Value)(d:Int),I e d->split (decide (d<1024)) (E.n=m.S/\split (((E.on m).word p d)==0) (∀f:Int,f=(i64.wrap (d+1))->∃i,i<e/\I i f) ((0<=((E.on m).word p d)/\((E.on m).word p d)<4294967296)/\∀(t:Nat),split ((fF ((E.on m).word p d)) !=0) (Q ⟨vB false,none,[],[],[]⟩) (split ((bI ((E.on m).word p d)).bQ) ((0<=p/\p<((Pd.ax E).length:Int))/\E.n=m.S/\split (!((E.on m).of ((bI ((E.on m).word p d)).aV) 5 ((eG E p).owner))) (Q ⟨vB false,none,[],[],[]⟩) (∀f:Int,f=(i64.wrap (d+1))->∃i,i<e/\I i f)) (split (decide ((bI ((E.on m).word p d)).aV>=m.I)) (Q ⟨vB false,none,[],[],[]⟩) (∀f:Int,f=(i64.wrap (d+1))->∃i,i<e/\I i f))))) (Q ⟨vB true,none,[],[],[]⟩)) λp r E rm m Q h=>by
 obtain⟨C,G,h⟩:=h;exact λf1 f2=>allEq<| ⟨λe d=>(e=(1024 - d).toNat)/\(0<=d/\d<=1024)/\(fR ((E.on m).iz p) 0 d=true),⟨_,rfl,(by omega),(ez (Int.le_refl _))⟩,λe _ d ⟨hm,q,l⟩=>af (λo=>ak ‹_› λH=>aE (λu=>allEq<| ⟨_,(by(have k:=aa (x:=d+1) (by omega));omega),rfl,(by(have k:=aa (x:=d+1) (by omega));omega),(bS l (by(grind[DB.iz])) (aa (by omega)))⟩) λu=>ak (cB f2 p d) λJ=>λt=>aG (λv=>aW h (by rw[DB.km,cP q.1 o (by(grind[DB.iz]))])) λv=>ab (λy=>ak (by grind) λM=>ak ‹_› λN=>bo (λz=>aW h (by rw[DB.km,cP q.1 o (by(grind[DB.iz]))])) λz=>allEq<| ⟨_,(by(have k:=aa (x:=d+1) (by omega));omega),rfl,(by(have k:=aa (x:=d+1) (by omega));omega),(bS l (by(grind[DB.iz])) (aa (by omega)))⟩) λy=>af (λB=>aW h (by rw[DB.km,cP q.1 o (by(grind[DB.iz]))])) λB=>allEq<| ⟨_,(by(have k:=aa (x:=d+1) (by omega));omega),rfl,(by(have k:=aa (x:=d+1) (by omega));omega),(bS l (by(grind[DB.iz])) (aa (by omega)))⟩) λo=>aW h (by rw[DB.km,<-l,show d=1024 by omega])⟩
theorem gR(D:DB)(p:Int){n:Int}(h:0<=n):D.gi p (n+1)=D.gi p n+(if D.of n 4 (D.at_ p).owner then dH (D.eR p n) 1024 else 0):=by
 unfold DB.gi;rw[show(n+1).toNat=n.toNat+1 by omega,List.range_succ,List.map_append,List.sum_append];simp only[List.map_cons,List.map_nil,List.sum_cons,List.sum_nil,Int.add_zero,show((n.toNat:Nat):Int)=n by omega]
theorem iS(D:DB)(p:Int):∀n:Nat,0<=D.gi p (n:Int)/\D.gi p (n:Int)<=1024*(n:Int)
 |0=>by simp[DB.gi]
 | n+1=>by
  have h:=iS D p n;have d:=gR D p (n:=(n:Int)) (by omega);have e:=dV (f:=D.eR p (n:Int)) (n:=1024);have i:=fM (f:=D.eR p (n:Int)) (n:=1024) (by omega);rw[show((n+1:Nat):Int)=(n:Int)+1 by omega,d];split<;>omega
theorem px(D:DB){p q j:Int}(h:D.word q j=0):D.eR p q j=false:=by
 unfold DB.eR;rw[h,show(fF 0==0)=false by decide,Bool.false_and]
def pM:Ctr Un:=⟨[.one (.obj 0 0),.one (.int .i64)],[],[.ob 3 [(1,1,0)],.ob 2 []],[],λp r E rm m K=>E.n=m.S/\(E.on m).has p=true/\K ⟨vB ((E.on m).pY p),none,[],[],[]⟩⟩
theorem F0:LV Un Tryz.prog 101 pM:=dJ Tryz.func101 aj [(129,mi),(127,dQ),(131,eJ)] ⟨si,fu,jK,trivial⟩ [5,6,7] (.r' (.r' (.two (.r' (.two (.node [] (some ⟨[(5,(.one (.int .i64))),(6,(.one (.int .i64)))],[],upN 5 56,[]⟩) [] [] (.r' (.two (.two (.r' (.r' (.two (.node [] (some ⟨[(5,(.one (.int .i64))),(7,(.one (.int .i64)))],[],[5,7,8,9,10]++upN 32 29,[]⟩) [] [] (.r' (.two (.two (.r' (.r' (.r' (.two (.node [] (some ⟨[(58,(.one .bool))],[],upN 47 12,[]⟩) [] [] .leaf .leaf) .leaf)))) .leaf) .leaf)) .leaf) .leaf))) .leaf) .leaf)) .leaf) .leaf)) .leaf))) [] (F:=∀p r (E:Pd) rm (m:Mem) Q,pM.body p r E rm m Q->Pd.Ok E->Mem.Wf m->∀n:Int,n=0->∀q:Int,q=0->∃I:Nat->Int->Int->Prop,(∃l,I l n q)/\∀(l:Nat)(_gv:Nat->Value)(u d:Int),I l u d->split (decide (d<((Pd.ax E).length:Int))) ((0<=p/\p<((Pd.ax E).length:Int))/\E.n=m.S/\split (!((E.on m).of d 4 ((eG E p).owner))) (∀y:Int,y=(i64.wrap (d+1))->∃z,z<l/\I z u y) (∀j:Int,j=0->∃B:Nat->Int->Int->Prop,(∃k,B k u j)/\∀(k:Nat)(_gv1:Nat->Value)(n2 e:Int),B k n2 e->split (decide (e<1024)) (E.n=m.S/\split (((E.on m).word d e)==0) (∀o:Int,o=(i64.wrap (e+1))->∃t,t<k/\B t n2 o) ((0<=((E.on m).word d e)/\((E.on m).word d e)<4294967296)/\∀(W:Nat),∃J:Bool->Prop,(split ((fF ((E.on m).word d e))==0) (split ((bI ((E.on m).word d e)).bQ) (J ((bI ((E.on m).word d e)).aV==p)) (J false)) (J false))/\∀(_gv3:Nat->Value)(M:Bool),J M->split M (∀N:Int,N=(i64.wrap (n2+1))->∀o:Int,o=(i64.wrap (e+1))->∃t,t<k/\B t N o) (∀o:Int,o=(i64.wrap (e+1))->∃t,t<k/\B t n2 o))) (∀y:Int,y=(i64.wrap (d+1))->∃z,z<l/\I z n2 y))) (Q ⟨vB (u==1),none,[],[],[]⟩)) λp r E rm m Q h=>by
 obtain⟨an,az,h⟩:=h;exact λf1 f2=>allEq<| allEq<| ⟨λl u d=>(l=((E.n:Int) - d).toNat)/\(0<=d/\d<=(E.n:Int))/\(u=(E.on m).gi p d),⟨_,rfl,(by omega),(by rfl)⟩,λl _ u d ⟨hm,C,O⟩=>af (λY=>ak (by grind) λs3=>ak ‹_› λs4=>bo (λc2=>allEq<| ⟨_,(by(have i:=aa (x:=d+1) (by grind));grind),rfl,(by(have i:=aa (x:=d+1) (by grind));grind),(by(have i:=aa (x:=d+1) (by grind));have H:=gR (E.on m) p C.1;(grind))⟩) λc2=>allEq<| ⟨λk n2 e=>(k=(1024 - e).toNat)/\(0<=e/\e<=1024)/\(n2=(E.on m).gi p d+dH ((E.on m).eR p d) e),⟨_,rfl,(by omega),(by rw[O,wI,Int.add_zero])⟩,λk _ n2 e ⟨hm,v,hn⟩=>af (λc3=>ak ‹_› λs5=>aE (λc4=>allEq<| ⟨_,(by(have i:=aa (x:=e+1) (by omega));omega),rfl,(by(have i:=aa (x:=e+1) (by omega));omega),(by(have i:=aa (x:=e+1) (by omega));have H:=cz (f:=(E.on m).eR p d) v.1;have P:=fM (f:=(E.on m).eR p d) v.1;have R:=dV (f:=(E.on m).eR p d) (n:=e);have G:=iS (E.on m) p d.toNat;rw[Int.toNat_of_nonneg C.1]at G;have S:=f1.dD;have T:=aa (x:=n2+1) (by omega);have V:=px (E.on m) (p:=p) (q:=d) (j:=e);(grind))⟩) λc4=>ak (cB f2 d e) λs6=>λW=>bF ((((fF ((E.on m).word d e)):Int)==0) && (((bI ((E.on m).word d e)).bQ) && (((bI ((E.on m).word d e)).aV:Int)==p))) (ab (λc5=>ab (λc6=>(by grind)) λc6=>(by grind)) λc5=>(by grind))<| cJ (λc7=>allEq<| allEq<| ⟨_,(by(have i:=aa (x:=e+1) (by omega));omega),rfl,(by(have i:=aa (x:=e+1) (by omega));omega),(by(have i:=aa (x:=e+1) (by omega));have H:=cz (f:=(E.on m).eR p d) v.1;have P:=fM (f:=(E.on m).eR p d) v.1;have R:=dV (f:=(E.on m).eR p d) (n:=e);have G:=iS (E.on m) p d.toNat;rw[Int.toNat_of_nonneg C.1]at G;have S:=f1.dD;have T:=aa (x:=n2+1) (by omega);have V:=px (E.on m) (p:=p) (q:=d) (j:=e);(grind[DB.eR]))⟩) λc7=>allEq<| ⟨_,(by(have i:=aa (x:=e+1) (by omega));omega),rfl,(by(have i:=aa (x:=e+1) (by omega));omega),(by(have i:=aa (x:=e+1) (by omega));have H:=cz (f:=(E.on m).eR p d) v.1;have P:=fM (f:=(E.on m).eR p d) v.1;have R:=dV (f:=(E.on m).eR p d) (n:=e);have G:=iS (E.on m) p d.toNat;rw[Int.toNat_of_nonneg C.1]at G;have S:=f1.dD;have T:=aa (x:=n2+1) (by omega);have V:=px (E.on m) (p:=p) (q:=d) (j:=e);(grind[DB.eR]))⟩) λc3=>allEq<| ⟨_,(by(have i:=aa (x:=d+1) (by grind));grind),rfl,(by(have i:=aa (x:=d+1) (by grind));grind),(by(have i:=aa (x:=d+1) (by grind));have H:=gR (E.on m) p C.1;(grind))⟩⟩) λY=>aW h (by rw[DB.pY,O,show d=((E.on m).S:Int)by(grind[Pd.jn])])⟩
structure rD(D:DB)(p:Int)(l:List I64)(n:Int):Prop where
 len:l.length=D.S
 val:∀q:Int,0<=q->q<(D.S:Int)->(l.getD q.toNat (I64.mk 0)).v=D.named p n q
theorem iy(D:DB)(p q:Int){n:Int}(h:0<=n):D.named p (n+1) q=D.named p n q+(if D.word p n !=0 && aQ (D.word p n)==q then 1 else 0):=cz h
theorem rD.zero(D:DB)(p:Int)(n:Nat)(h:n=D.S):rD D p (List.replicate n (I64.mk 0)) 0:=
 ⟨by simp[h],λq d e=>by rw[List.getD_eq_getElem?_getD,List.getElem?_replicate,if_pos (by omega)];rfl⟩
theorem rD.skip {D:DB}{p n:Int}{l:List I64}(h:rD D p l n)(d:0<=n)(hw:D.word p n=0):rD D p l (n+1):=
 ⟨h.len,λq e f=>by rw[h.val q e f,iy D p q d,hw];simp⟩
theorem rD.put {D:DB}{p n:Int}{l:List I64}(h:rD D p l n)(d:0<=n/\n<256)(hw:¬D.word p n=0)(e:0<=aQ (D.word p n)/\aQ (D.word p n)<(D.S:Int)):
 rD D p (l.set (aQ (D.word p n)).toNat (I64.mk (i64.wrap ((l.getD (aQ (D.word p n)).toNat (I64.mk 0)).v+1)))) (n+1):=by
 refine⟨by simp[h.len],λq j k=>?_⟩;have t:=fM (f:=λi=>D.word p i !=0 && aQ (D.word p i)==aQ (D.word p n)) d.1;have u:=dV (f:=λi=>D.word p i !=0 && aQ (D.word p i)==aQ (D.word p n)) (n:=n);have o:=h.val _ e.1 e.2;rw[iy D p q d.1,List.getD_eq_getElem?_getD,List.getElem?_set];by_cases hq:aQ (D.word p n)=q
 ·subst hq;rw[if_pos rfl,if_pos (by rw[h.len];omega)];show i64.wrap _=_;rw[o];unfold DB.named at *;rw[aa (by omega)];simp[hw]
 ·rw[if_neg (by omega),<-List.getD_eq_getElem?_getD,h.val q j k];simp[hq]
def nA:Ctr Un:=⟨[.one (.obj 0 0),.one (.int .i64)],[],[.ob 3 [(1,1,0)],.ob 2 []],[],λp r E rm m K=>E.n=m.S/\(E.on m).has p=true/\K ⟨vB ((E.on m).fw p),none,[],[],[]⟩⟩
section
attribute [local grind=] DB.of DB.is
theorem Db:LV Un Tryz.prog 99 nA:=dJ Tryz.func99 aj [(92,gZ),(127,dQ),(130,gJ),(129,mi)] ⟨mh,fu,rl,si,trivial⟩ [7,11] (.r' (.r' (.r' (.r' (.two (.r' (.two (.node [] (some ⟨[(7,(.one (.int .i64)))],[(6,(.p (.sl 2 0)))],[4,7,8,9,10]++upN 30 30,[(2,(.lst 0))]⟩) [] [] (.r' (.two (.two (.r' (.r' (.r' (.two (.two (.node [] (some ⟨[(53,(.one .bool))],[],upN 45 9,[]⟩) [] [] .leaf .leaf) .leaf) .leaf)))) .leaf) .leaf)) .leaf) .leaf)) (.two (.r' (.two (.node [] (some ⟨[(11,(.one (.int .i64)))],[],[4,11]++upN 60 27,[]⟩) [] [] (.r' (.two (.two (.two (.node [] (some ⟨[(86,(.one .bool))],[],upN 69 18,[]⟩) [] [] .leaf .leaf) .leaf) .leaf) .leaf)) .leaf) .leaf)) .leaf)))))) [] (F:=∀p r (E:Pd) rm (m:Mem) Q,nA.body p r E rm m Q->Pd.Ok E->Mem.Wf m->E.n=m.S/\(0<=(256:Int)/\(1024:Int)<=1024)/\split (!((E.on m).zero p 256 1024)) (Q ⟨vB false,none,[],[],[]⟩) ((0<=p/\p<((Pd.ax E).length:Int))/\(((Pd.ax E).length:Int)=((Pd.ax E).length:Int)/\0<=((Pd.ax E).length:Int)/\8*((Pd.ax E).length:Int)<=281474976710656)/\∀(O:Nat),∀(l:List I64),l=(List.replicate (Int.toNat (((Pd.ax E).length:Nat):Int)) (I64.mk 0:I64))->∀i:Int,i=0->∃I:Nat->Int->Option Addr->Nat->List I64->Prop,(∃e,I e i (pvA O) (Int.toNat (((Pd.ax E).length:Nat):Int)) l)/\∀(e:Nat)(_gv1:Nat->Value)(i1:Int)(k:oA)(f:Nat)(l2:List I64),I e i1 k f l2->split (decide (i1<256)) (E.n=m.S/\split (((E.on m).word p i1)==0) (∀i2:Int,i2=(i64.wrap (i1+1))->∃o,o<e/\I o i2 k f l2) ((0<=((E.on m).word p i1)/\((E.on m).word p i1)<4294967296)/\∃J:Bool->Prop,(split ((il ((E.on m).word p i1)) !=0) (J true) (E.n=m.S/\J (!((E.on m).of (aQ ((E.on m).word p i1)) 4 ((eG E p).owner)))))/\∀(_gv2:Nat->Value)(P:Bool),J P->split P (Q ⟨vB false,none,[],[],[]⟩) ((0<=(aQ ((E.on m).word p i1))/\(aQ ((E.on m).word p i1))<(l2.length:Int))/\(0<=(aQ ((E.on m).word p i1))/\(aQ ((E.on m).word p i1))<(l2.length:Int))/\∀(v:List I64),v=(l2.set (Int.toNat (aQ ((E.on m).word p i1))) (I64.mk (i64.wrap (((l2.getD (Int.toNat (aQ ((E.on m).word p i1))) (I64.mk 0)).v)+1))))->∀i2:Int,i2=(i64.wrap (i1+1))->∃o,o<e/\I o i2 k f v))) (∀q:Int,q=0->∃y:Nat->Int->Prop,(∃j,y j q)/\∀(j:Nat)(_gv2:Nat->Value)(d:Int),y j d->split (decide (d<((Pd.ax E).length:Int))) (∃J:Bool->Prop,((0<=d/\d<(l2.length:Int))/\split (decide ((l2.getD d.toNat (I64.mk 0)).v>1)) (J true) (E.n=m.S/\split ((E.on m).of d 4 ((eG E p).owner)) ((0<=d/\d<(l2.length:Int))/\J ((l2.getD d.toNat (I64.mk 0)).v==0)) (J false)))/\∀(_gv3:Nat->Value)(R:Bool),J R->split R (Q ⟨vB false,none,[],[],[]⟩) (∀S:Int,S=(i64.wrap (d+1))->∃T,T<j/\y T S)) (Q ⟨vB true,none,[],[],[]⟩)))) λp r E rm m Q h=>by
 obtain⟨W,az,h⟩:=h;exact λf1 f2=>(by(have hw:=λa b=>aa (x:=(E.on m).word a b) (by have:=cB (E:=E) f2 a b;omega));exact ak ‹_› λs3=>ak (by omega) λs4=>bo (λB=>aW h (by rw[DB.fw,B];rfl)) λB=>ak (by grind) λs5=>ak (by grind) λs6=>λO=>λl Y=>allEq<| ⟨λe i1 k f l2=>(e=(256 - i1).toNat)/\(0<=i1/\i1<=256)/\(rD (E.on m) p l2 i1)/\(fR ((E.on m).fV p) 0 i1=true),⟨_,rfl,(by omega),(by rw[Y];exact rD.zero _ _ _ (by rw[Int.toNat_natCast,Pd.cO];exact W)),(ez (Int.le_refl _))⟩,λe _ i1 k f l2 ⟨hm,C,u,G⟩=>af (λf=>ak ‹_› λs7=>aE (λc3=>allEq<| ⟨_,(by(have t:=aa (x:=i1+1) (by omega));omega),rfl,(by(have t:=aa (x:=i1+1) (by omega));omega),(by rw[aa (x:=i1+1) (by omega)];exact u.skip C.1 ‹_›),(bS G (by(grind[DB.fV])) (aa (by omega)))⟩) λc3=>ak (cB f2 p i1) λs8=>bF ((((il ((E.on m).word p i1)):Int) !=0) || (!((E.on m).of (aQ ((E.on m).word p i1)) 4 ((eG E p).owner)))) (ab (λc4=>(by grind)) λc4=>ak ‹_› λs9=>(by grind))<| bm (λc5=>aW h (by(have H:(E.on m).fV p i1=false:=by(grind[DB.fV]));rw[DB.fw,cP C.1 f H];simp)) λc5=>ak (by(grind[Pd.jn,rD.len])) λaA=>ak (by(grind)) λaC=>λv an=>allEq<| ⟨_,(by(have t:=aa (x:=i1+1) (by omega));omega),rfl,(by(have t:=aa (x:=i1+1) (by omega));omega),(by rw[aa (x:=i1+1) (by omega)];(rw[an];exact u.put ⟨C.1,by omega⟩ ‹_› (by(grind[Pd.jn])))),(bS G (by(grind[DB.fV])) (aa (by omega)))⟩) λf=>allEq<| ⟨λj d=>(j=((E.n:Int) - d).toNat)/\(0<=d/\d<=(E.n:Int))/\(fR (λz=>!(decide ((E.on m).named p 256 z>1) || ((E.on m).of z 4 ((E.on m).at_ p).owner && (E.on m).named p 256 z==0))) 0 d=true),⟨_,rfl,(by omega),(ez (Int.le_refl _))⟩,λj _ d ⟨hm,M,V⟩=>af (λc6=>bF ((decide (((l2.getD d.toNat (I64.mk 0)).v:Int)>1)) || (((E.on m).of d 4 ((eG E p).owner)) && (((l2.getD d.toNat (I64.mk 0)).v:Int)==0))) (ak (by(grind[Pd.jn,rD.len])) λaN=>ab (λc7=>(by grind)) λc7=>ak ‹_› λa0=>ab (λc8=>ak (by(grind)) λa1=>(by grind)) λc8=>(by grind))<| bm (λc9=>aW h (by(have N:=u.val d M.1 (by(grind[Pd.jn])));rw[show i1=256 by omega]at N;(have H:fR (λz=>!(decide ((E.on m).named p 256 z>1) || ((E.on m).of z 4 ((E.on m).at_ p).owner && (E.on m).named p 256 z==0))) 0 ((E.on m).S:Int)=false:=cP M.1 (by(grind[Pd.jn])) (by grind));rw[DB.fw,H];simp)) λc9=>allEq<| ⟨_,(by(have t:=aa (x:=d+1) (by grind));grind),rfl,(by(have t:=aa (x:=d+1) (by grind));grind),(by(have N:=u.val d M.1 (by(grind[Pd.jn])));rw[show i1=256 by omega]at N;exact bS V (by grind) (aa (by grind)))⟩) λc6=>aW h (by rw[DB.fw,B,<-show i1=256 by omega,G,show((E.on m).S:Int)=d by(grind[Pd.jn]),show i1=256 by omega,V];rfl)⟩⟩)
end
def xh:Ctr Un:=⟨[.one (.sl 0)],[],[.lst 1 false 22],[],λA c l K=>((∀x∈l,0<=x.v/\x.v<4294967296))/\∀(d0 d1 d2 d3 d4 d5 d6 d7:Int)(d:oA)(e f:Nat)(dn:Int),K ⟨(.tuple #[(.agg #[O d0,O d1,O d2,O d3,O d4,O d5,O d6,O d7,(.slice d e f),J dn]),J (Dg.aF l)]),kn2,[],[],[]⟩⟩
theorem F5:LV Un Tryz.prog 128 xh:=by
 show ∀(A:oA)(c:Nat)(l:List U32),∀Q:Ou Un->Prop,(((∀x∈l,0<=x.v/\x.v<4294967296))/\∀(d0 d1 d2 d3 d4 d5 d6 d7:Int)(h:oA)(i j:Nat)(dn:Int),Q ⟨(.tuple #[(.agg #[O d0,O d1,O d2,O d3,O d4,O d5,O d6,O d7,(.slice h i j),J dn]),J (Dg.aF l)]),kn2,[],[],[]⟩)->∀(X:bP)(w:World),Sat (U:=Un) [(.lst 1 false 22 A c l)] X w->aH (U:=Un) [(.lst 1 false 22 A c l)] fr0 []->Calls Tryz.prog 128 #[(.slice A l.length c)] w (cS (U:=Un) [(.lst 1 false 22 A c l)] [] X w Q);intro A c l Q d X w f p;obtain⟨hw,d⟩:=d;have k:Rd w (X 0) A l.length c l:=f.res 0 _ rfl;refine(Jl k hw).mono ?_;rintro e w' ⟨u,rfl,q,A',t,v,rfl,o⟩;exact cS.pu f o.2.2 (d ..) (KnO.tup _ (by simp))
theorem zn(D:DB)(p lo:Int)(n:Nat):(D.some_ p lo n).length=n:=by simp[DB.some_]
theorem vI(D:DB)(p lo:Int){i:Int}(h:0<=i/\i<1024)(d:0<=lo/\lo<1024):D.some_ p lo i.toNat++ [uM (D.word p (i64.wrap (lo+i)))]=D.some_ p lo (i64.wrap (i+1)).toNat:=by
 rw[aa (x:=lo+i) (by omega),aa (x:=i+1) (by omega),show(i+1).toNat=i.toNat+1 by omega];simp only[DB.some_,List.range_succ,List.map_append,List.map_cons,List.map_nil,show((i.toNat:Nat):Int)=i by omega]
theorem nR {E:Pd}{m:Mem}(h:m.Wf)(p lo:Int)(n:Nat):∀x∈(E.on m).some_ p lo n,0<=x.v/\x.v<4294967296:=by
 intro x d;obtain⟨i,_,rfl⟩:=List.mem_map.1 d;exact cB h p _
def ny:Ctr Un:=⟨[.one (.obj 0 0),.one (.int .i64)],[],[.ob 3 [(1,1,0)],.ob 2 []],[],λp r E rm m K=>E.n=m.S/\(E.on m).has p=true/\K ⟨vB ((E.on m).mN p),none,[],[],[]⟩⟩
section
attribute [local grind=] DB.mN DB.DD
theorem Da:LV Un Tryz.prog 96 ny:=dJ Tryz.func96 aj [(92,gZ),(127,dQ),(128,xh)] ⟨mh,fu,F5,trivial⟩ [5,6,9,50,53] (.r' (.r' (.r' (.two (.r' (.two (.node [(.s 5,1,22)] (some ⟨[(6,(.one (.int .i64)))],[(5,(.p (.sl 2 0)))],[5,6]++upN 15 12,[(2,(.lst 1))]⟩) [] [] .leaf .leaf) .leaf)) (.r' (.two (.node [] (some ⟨[(9,(.one .bool))],[],[9]++upN 32 7,[]⟩) [] [] .leaf .leaf) (.r' (.r' (.two (.node [] (some ⟨[(4,(.one .bool))],[],[4,56,57,58,59],[]⟩) [] [] .leaf .leaf) .leaf))))))))) [] (F:=∀p r (E:Pd) rm (m:Mem) Q,ny.body p r E rm m Q->Pd.Ok E->Mem.Wf m->E.n=m.S/\(0<=(37:Int)/\(1024:Int)<=1024)/\split (!((E.on m).zero p 37 1024)) (Q ⟨vB false,none,[],[],[]⟩) (∀i:Int,i=0->∃I:Nat->Int->Option Addr->Nat->List U32->Prop,(∃d,I d i none 0 ([]:List U32))/\∀(d:Nat)(_gv:Nat->Value)(i1:Int)(j:oA)(f:Nat)(l2:List U32),I d i1 j f l2->split (decide (i1<26)) (E.n=m.S/\∀(k:Nat),∀(l:List U32),l=([uM ((E.on m).word p (i64.wrap (11+i1)))]:List U32)->((l2.length+l.length)*4<=140737488355328)/\∀(A:oA)(c:Nat),∀(o:List U32),o=(l2++l)->∀i2:Int,i2=(i64.wrap (i1+1))->∃t,t<d/\I t i2 A c o) (((∀x∈l2,0<=x.v/\x.v<4294967296))/\∀(d0 d1 d2 d3 d4 d5 d6 d7:Int)(C:oA)(G H:Nat)(dn:Int),∀(k:Nat),∃J:Bool->Prop,(split ((Dg.aF l2)==0) (E.n=m.S/\(0<=(3:Int)/\(11:Int)<=1024)/\∀init:Bool,init=((E.on m).zero p 3 11)->J init) (∀init:Bool,init=false->J init))/\∀(_gv2:Nat->Value)(init:Bool),J init->E.n=m.S/\(0<=(11:Int)/\(37:Int)<=1024)/\(0<=p/\p<((Pd.ax E).length:Int))/\∀u:Bool,u=(((eG E p).state:Int)==1)->split u (Q ⟨vB init,none,[],[],[]⟩) (∀v:Bool,v=(((eG E p).state:Int)==2)->split v (Q ⟨vB ((E.on m).zero p 11 37),none,[],[],[]⟩) (∃q:Bool->Prop,(split init (q true) (q ((E.on m).zero p 11 37)))/\∀(_gv3:Nat->Value)(y:Bool),q y->Q ⟨vB y,none,[],[],[]⟩))))) λp r E rm m Q h=>by
 obtain⟨W,Y,h⟩:=h;exact λf1 f2=>(by(have hw:=λa b=>aa (x:=(E.on m).word a b) (by have:=cB (E:=E) f2 a b;omega));exact ak ‹_› λs3=>ak (by omega) λs4=>bo (λM=>aW h (by grind)) λM=>allEq<| ⟨λd i1 j f l2=>(d=(26 - i1).toNat)/\(0<=i1/\i1<=26)/\(l2=(E.on m).some_ p 11 i1.toNat),⟨_,rfl,(by omega),(by rfl)⟩,λd _ i1 j f l2 ⟨hm,an,e⟩=>af (λf=>ak ‹_› λs5=>λk=>λl z=>ak (by(have N:=zn (E.on m) p 11 i1.toNat);rw[z,e,N];simp;omega) λs6=>λA c=>λo O=>allEq<| ⟨_,(by(have P:=aa (x:=i1+1) (by omega));omega),rfl,(by(have P:=aa (x:=i1+1) (by omega));omega),(by rw[O,z,e];exact vI _ _ _ (by omega) (by omega))⟩) λf=>ak (by rw[e];exact nR f2 _ _ _) λs7=>λd0 d1 d2 d3 d4 d5 d6 d7 C G H dn=>λk=>bF ((((Dg.aF l2):Int)==0) && ((E.on m).zero p 3 11)) (ab (λR=>ak ‹_› λs8=>ak (by omega) λs9=>allEq<| (by grind)) λR=>allEq<| (by grind))<| ak ‹_› λaz=>ak (by omega) λaA=>ak (by grind) λaC=>allEq<| aE (λS=>aW h (by(have B:l2=(E.on m).some_ p 11 26:=by rw[e,show i1=26 by omega];rfl);grind)) λS=>allEq<| aE (λT=>aW h (by(have B:l2=(E.on m).some_ p 11 26:=by rw[e,show i1=26 by omega];rfl);grind)) λT=>bF (((((Dg.aF l2):Int)==0) && ((E.on m).zero p 3 11)) || ((E.on m).zero p 11 37)) (ab (λV=>(by grind)) λV=>(by grind))<| aW h (by(have B:l2=(E.on m).some_ p 11 26:=by rw[e,show i1=26 by omega];rfl);grind)⟩)
end
def lD:Ctr Un:=⟨[.one (.obj 0 0),.one (.int .i64)],[],[.ob 3 [(1,1,0)],.ob 2 []],[],λp r E rm m K=>E.n=m.S/\(E.on m).has p=true/\K ⟨vB ((E.on m).jO p),none,[],[],[]⟩⟩
section
attribute [local grind=] DB.jO DB.is
theorem BH:LV Un Tryz.prog 102 lD:=dJ Tryz.func102 aj [(92,gZ),(127,dQ),(132,lH),(93,mj)] ⟨mh,fu,BM,sj,trivial⟩ [5,6] (.r' (.r' (.r' (.r' (.two (.r' (.two (.node [(.s 5,1,22)] (some ⟨[(6,(.one (.int .i64)))],[(5,(.p (.sl 2 0)))],[5,6]++upN 26 12,[(2,(.lst 1))]⟩) [] [] .leaf .leaf) .leaf)) (.r' (.r' (.two (.node [] (some ⟨[(4,(.one .bool))],[],[4]++upN 51 19,[]⟩) [] [] .leaf .leaf) .leaf)))))))) [] (F:=∀p r (E:Pd) rm (m:Mem) Q,lD.body p r E rm m Q->Pd.Ok E->Mem.Wf m->E.n=m.S/\(0<=(18:Int)/\(1024:Int)<=1024)/\split (!((E.on m).zero p 18 1024)) (Q ⟨vB false,none,[],[],[]⟩) ((0<=p/\p<((Pd.ax E).length:Int))/\split (!((eG E p).bw)) (E.n=m.S/\(0<=(1:Int)/\(18:Int)<=1024)/\Q ⟨vB ((E.on m).zero p 1 18),none,[],[],[]⟩) (∀i:Int,i=0->∃I:Nat->Int->Option Addr->Nat->List U32->Prop,(∃d,I d i none 0 ([]:List U32))/\∀(d:Nat)(_gv:Nat->Value)(i1:Int)(j:oA)(e:Nat)(l2:List U32),I d i1 j e l2->split (decide (i1<17)) (E.n=m.S/\∀(k:Nat),∀(l:List U32),l=([uM ((E.on m).word p (i64.wrap (1+i1)))]:List U32)->((l2.length+l.length)*4<=140737488355328)/\∀(A:oA)(c:Nat),∀(o:List U32),o=(l2++l)->∀i2:Int,i2=(i64.wrap (i1+1))->∃q,q<d/\I q i2 A c o) (((∀x∈l2,0<=x.v/\x.v<4294967296))/\∀(k:Nat),∀(s:Fl),s=Fl.zero->Fl.Ok s->True/\∀(s1:Fl),s1=(Fl.norm (File.unpack l2))->Fl.Ok s1->(0<=p/\p<((Pd.ax E).length:Int))/\∃J:Bool->Prop,(split ((File.de l2)==0) (E.n=m.S/\split ((E.on m).is ((eG E p).owner) 1) ((0<=(eG E p).owner/\(eG E p).owner<((Pd.ax E).length:Int))/\J (!(((Pd.ax E).getD (Int.toNat ((eG E p).owner)) Ent.free).state==1))) (J true)) (J false))/\∀(_gv2:Nat->Value)(t:Bool),J t->Q ⟨vB t,none,[],[],[]⟩)))) λp r E rm m Q h=>by
 obtain⟨M,N,h⟩:=h;exact λf1 f2=>(by(have hw:=λa b=>aa (x:=(E.on m).word a b) (by have:=cB (E:=E) f2 a b;omega));exact ak ‹_› λO=>ak (by omega) λP=>bo (λv=>aW h (by grind)) λv=>ak (by grind) λR=>bo (λe=>ak ‹_› λS=>ak (by omega) λT=>aW h (by grind)) λe=>allEq<| ⟨λd i1 j e l2=>(d=(17 - i1).toNat)/\(0<=i1/\i1<=17)/\(l2=(E.on m).some_ p 1 i1.toNat),⟨_,rfl,(by omega),(by rfl)⟩,λd _ i1 j e l2 ⟨hm,V,f⟩=>af (λy=>ak ‹_› λW=>λk=>λl u=>ak (by(have z:=zn (E.on m) p 1 i1.toNat);rw[u,f,z];simp;omega) λY=>λA c=>λo B=>allEq<| ⟨_,(by(have C:=aa (x:=i1+1) (by omega));omega),rfl,(by(have C:=aa (x:=i1+1) (by omega));omega),(by rw[B,u,f];exact vI _ _ _ (by omega) (by omega))⟩) λy=>ak (by rw[f];exact nR f2 _ _ _) λan=>λk=>λs az f11=>ak trivial λ_=>λs1 aA f13=>ak ‹_› λaC=>bF ((((File.de l2):Int)==0) && (!((E.on m).is ((eG E p).owner) 1) || (!((((Pd.ax E).getD (Int.toNat ((eG E p).owner)) Ent.free).state:Int)==1)))) (ab (λG=>ak ‹_› λaN=>ab (λH=>ak (by grind) λa0=>(by grind)) λH=>(by grind)) λG=>(by grind))<| aW h (by(have hl:l2=(E.on m).some_ p 1 17:=by rw[f,show i1=17 by omega];rfl);grind)⟩)
end
end Go.Proofs.YtoghdgcmhbanbaaGreatDoor
end
section
namespace Go.Proofs.YtoghdgcmhbanbaaGreatDoor
open Go Go.RowKit V
open Go.IntKind (i64 u32 u64 wrap_i64 wrap_u32)
theorem DP(w:Int):0<=(bI w).aV/\(bI w).aV<64:=by
 unfold bI;split
 ·rename_i h;have h:=h.2;unfold tf Mp.err at h;simp only[decide_eq_true_eq]at h;have h:=h.1;split at h
  ·assumption
  ·omega
 ·exact⟨by decide,by decide⟩
theorem rH {w:Int}(hw:0<=w):0<=aQ w/\aQ w<64:=by
 unfold aQ;split
 ·rename_i h;unfold qV at h;simp only[decide_eq_true_eq]at h;omega
 ·omega
theorem eqF(a b:Bool)(x y:Int):bk #[.bool a,.int .i64 x] #[.bool b,.int .i64 y]=((a==b) && (x==y)):=by
 simp[bk,eqL,jt]
theorem Fv {f:Int->Bool}{a b:Int}(h:a<=b):dH f a<=dH f b:=by
 by_cases d:a<0
 ·have e:dH f a=0:=by unfold dH;rw[show a.toNat=0 by omega];rfl
  rw[e];exact dV
 obtain⟨k,rfl⟩:∃k:Nat,b=a+k:=⟨(b - a).toNat,by omega⟩;clear h
 induction k with
 |zero=>simp
 | succ k i=>
  have:=cz (f:=f) (n:=a+(k:Int)) (by omega);rw[show a+((k+1:Nat):Int)=a+k+1 by omega,this];split<;>omega
theorem wJ {f:Int->Bool}{n:Int}(h:∀x,0<=x->x<n->f x=false):dH f n=0:=by
 unfold dH;have:(List.range n.toNat).countP (fun(i:Nat)=>f (i:Int))=0:=by
  rw[List.countP_eq_zero];intro i hi;have:=List.mem_range.1 hi;rw[h _ (by omega) (by omega)];simp
 omega
theorem AL {f g:Int->Bool}{q:Int}:∀ {n:Nat},0<=q->f q=false->g q=true->(∀x,0<=x->x<(n:Int)->x≠q->g x=f x)->dH g n=dH f n+(if q<(n:Int)then 1 else 0)
 |0,d,_,_,_=>by rw[if_neg (by omega)];rfl
 | n+1,d,i,j,h=>by
  have l:=AL (n:=n) d i j λx a b c=>h x a (by omega) c;have o:=cz (f:=f) (n:=(n:Int)) (by omega);have p:=cz (f:=g) (n:=(n:Int)) (by omega);rw[show((n+1:Nat):Int)=(n:Int)+1 by omega,o,p,l];by_cases hq:q=(n:Int)
  ·subst hq;have a:¬(n:Int)<n:=by omega
   have b:(n:Int)<n+1:=by omega
   simp[i,j,b]
  ·rw[h _ (by omega) (by omega) (λe=>hq e.symm)];by_cases k:q<(n:Int)
   ·rw[if_pos k,if_pos (show q<(n:Int)+1 by omega)];omega
   ·rw[if_neg k,if_neg (show ¬q<(n:Int)+1 by omega)];omega
theorem EL {E:Pd}{i:Int}(h:0<=i/\i<(E.n:Int)):E.ax.take i.toNat++ [E.ent i.toNat]=E.ax.take (i+1).toNat:=by
 rw[show(i+1).toNat=i.toNat+1 by omega,List.take_add_one,Pd.tN (by omega)];rfl
structure mD(D:DB)(p lo:Int)(n:Nat)(x:Int)(l:List U32):Prop where
 len:l.length=n
 val:∀i:Nat,(i:Int)<x->i<n->l[i]? =some ⟨D.word p (lo+(i:Int))⟩
theorem mD.init(D:DB)(p lo:Int)(n:Nat):mD D p lo n 0 (List.replicate n (uM 0)):=⟨by simp,λi h=>by omega⟩
theorem mD.next {D:DB}{p lo x:Int}{n:Nat}{l:List U32}(h:mD D p lo n x l)(f:0<=x)(j:x<(n:Int))(k:0<=lo/\lo<1024/\n<1024):mD D p lo n (i64.wrap (x+1)) (l.set x.toNat ⟨D.word p (i64.wrap (lo+x))⟩):=by
 rw[aa (by omega),aa (by omega)];refine⟨by simp[h.len],λi hi e=>?_⟩;rw[List.getElem?_set];by_cases d:x.toNat=i
 ·rw[if_pos d,if_pos (by rw[h.len];omega),show(i:Int)=x by omega]
 ·rw[if_neg d];exact h.val i (by omega) e
theorem mD.done {D:DB}{p lo x:Int}{n:Nat}{l:List U32}(h:mD D p lo n x l)(d:(n:Int)<=x):D.some_ p lo n=l:=by
 apply List.ext_getElem?;intro i;by_cases hi:i<n
 ·rw[h.val i (by omega) hi];simp[DB.some_,hi]
 ·rw[List.getElem?_eq_none (by simp[DB.some_];omega),List.getElem?_eq_none (by rw[h.len];omega)]
namespace DB
def cl(D:DB)(p:Int):Int:=if D.is (D.at_ p).owner 1 then(D.at_ p).owner else -1
def pgs(D:DB)(t o:Int)(n:Nat):List I64:=((List.range n).filter fun(q:Nat)=>(D.at_ (q:Int)).typ==t && (D.at_ (q:Int)).owner==o).map fun(q:Nat)=>⟨(q:Int)⟩
theorem zL(D:DB)(t o:Int){i:Int}(h:0<=i/\i<9000000000000000000):D.pgs t o (i64.wrap (i+1)).toNat=if((D.at_ i).typ==t && (D.at_ i).owner==o)=true then D.pgs t o i.toNat++ [⟨i⟩]else D.pgs t o i.toNat:=by
 rw[aa (by omega),show(i+1).toNat=i.toNat+1 by omega];unfold pgs;rw[List.range_succ,List.filter_append,List.map_append];have e:((i.toNat:Nat):Int)=i:=by omega
 split<;>rename_i d<;>simp[e,d]
theorem jW(D:DB)(t o:Int)(n:Nat):(D.pgs t o n).length<=n:=by
 unfold pgs;rw[List.length_map];have:=List.length_filter_le (fun(q:Nat)=>(D.at_ (q:Int)).typ==t && (D.at_ (q:Int)).owner==o) (List.range n)
 rwa[List.length_range]at this
theorem Cn {D:DB}{t o:Int}{x:I64}:x∈D.pgs t o D.S↔D.of x.v t o=true:=by
 unfold pgs of is has;rw[List.mem_map];constructor
 ·rintro⟨q,hq,rfl⟩;rw[List.mem_filter,List.mem_range]at hq;have d:=hq.2;simp only[Bool.and_eq_true]at d ⊢;exact⟨⟨by simp;exact hq.1,d.1⟩,d.2⟩
 ·intro h;simp only[Bool.and_eq_true,decide_eq_true_eq]at h;refine⟨x.v.toNat,?_,?_⟩
  ·rw[List.mem_filter,List.mem_range,show((x.v.toNat:Nat):Int)=x.v by omega];exact⟨by omega,by rw[Bool.and_eq_true];exact⟨h.1.2,h.2⟩⟩
  ·rw[show((x.v.toNat:Nat):Int)=x.v by omega]
theorem xK(D:DB)(t o:Int):((D.pgs t o D.S).length:Int)=dH (λq=>D.of q t o) D.S:=by
 unfold pgs dH;rw[List.length_map,<-List.countP_eq_length_filter,Int.toNat_natCast];congr 1;apply List.countP_congr;intro q hq;have:=List.mem_range.1 hq;simp only[of,is,has];rw[show decide (0<=(q:Int)/\(q:Int)<(D.S:Int))=true by simp;omega,Bool.true_and]
theorem Jm {D:DB}{t o:Int}(h:((D.pgs t o D.S).length:Int)=1)(x:Int):D.of x t o=(x==((D.pgs t o D.S).getD (Int.toNat 0) (I64.mk 0)).v):=by
 have d:=Cn (D:=D) (t:=t) (o:=o) (x:=⟨x⟩);obtain⟨y,e⟩:=List.length_eq_one_iff.1 (show(D.pgs t o D.S).length=1 by omega);rw[e]at d ⊢;rw[List.mem_singleton]at d;rw[Bool.eq_iff_iff,<-d,beq_iff_eq];show I64.mk x=y↔x=y.v;cases y;simp
theorem first_eq {D:DB}{p:Int}(i:D.S<=64):(((((D.pgs 3 p D.S).length:Nat):Int)==1) && (D.word p 0==u32.wrap ((D.pgs 3 p D.S).getD (Int.toNat 0) (I64.mk 0)).v))=(dH (λq=>D.of q 3 p) D.S==1 && D.of (D.word p 0) 3 p):=by
 rw[xK];by_cases h:dH (λq=>D.of q 3 p) D.S=1
 ·have f:((D.pgs 3 p D.S).length:Int)=1:=by rw[xK];exact h
  have e:=Jm f;have d:=e ((D.pgs 3 p D.S).getD (Int.toNat 0) (I64.mk 0)).v;rw[beq_self_eq_true]at d;unfold of is has at d;simp only[Bool.and_eq_true,decide_eq_true_eq]at d;rw[e,bT (by omega)]
 ·rw[show(dH (λq=>D.of q 3 p) D.S==1)=false by simpa using h];rfl
theorem Jt {D:DB}{t o q:Int}{l:List I64}(d:l=D.pgs t o D.S)(h:∀j:Nat,(j:Int)<(l.length:Int)->¬(l.getD j (I64.mk 0)).v=q):D.of q t o=false:=by
 cases e:D.of q t o
 ·rfl
 ·exfalso;have hm:=Cn (x:=⟨q⟩).2 e;rw[<-d]at hm;obtain⟨j,f,he⟩:=List.mem_iff_getElem.1 hm;exact h j (by omega) (by rw[List.getD_eq_getElem?_getD,List.getElem?_eq_getElem f,he];rfl)
theorem LA {D:DB}{t o q x:Int}{l:List I64}(d:l=D.pgs t o D.S)(f:0<=x/\x<(l.length:Int))(h:(l.getD x.toNat (I64.mk 0)).v=q):D.of q t o=true:=by
 have hi:x.toNat<l.length:=by omega
 rw[List.getD_eq_getElem?_getD,List.getElem?_eq_getElem hi]at h;have hm:l[x.toNat]∈l:=List.getElem_mem hi;have e:l[x.toNat]∈D.pgs t o D.S:=d▸hm;rw[<-h];exact Cn.1 e
theorem HT(D:DB)(p:Int):D.clause 1 p=((D.at_ p).typ !=1 || (D.at_ p).owner==p):=rfl
theorem HS(D:DB)(p:Int):D.clause 2 p=((D.at_ p).typ !=0 || D.zero p 0 1024):=rfl
theorem HR(D:DB)(p:Int):D.clause 3 p=((D.at_ p).typ==1 || ((D.at_ p).typ==0 || D.is (D.at_ p).owner 1)):=rfl
theorem HQ(D:DB)(p:Int):D.clause 4 p=((D.at_ p).typ !=1 || (D.at_ p).refs==((D.eO p D.S).length:Int)):=rfl
theorem tS(D:DB)(p:Int):D.clause 5 p=((D.at_ p).typ !=1 || D.fx p):=rfl
theorem HP(D:DB)(p:Int):D.clause 6 p=((D.at_ p).typ !=1 || D.mN p):=rfl
theorem HO(D:DB)(p:Int):D.clause 7 p=((D.at_ p).typ !=1 || D.mO p):=rfl
theorem lv(D:DB)(p:Int):D.clause 8 p=((D.at_ p).typ !=3 || (!D.alive p || D.fw p)):=rfl
theorem ov(D:DB)(p:Int):D.clause 9 p=((D.at_ p).typ !=4 || (!D.alive p || D.km p)):=rfl
theorem wK(D:DB)(p:Int):D.clause 10 p=((D.at_ p).typ !=5 || (!D.alive p || D.pY p)):=rfl
theorem Fx(D:DB)(p:Int):D.clause 11 p=((D.at_ p).typ !=2 || D.jO p):=rfl
theorem Fw(D:DB)(p:Int):D.clause 12 p=((D.at_ p).typ !=6 || D.zero p 0 1024):=rfl
structure Nms(D:DB)(p x count:Int)(l:List Bl):Prop where
 len:l.length=64
 ok:fR (D.fV p) 0 x=true
 once:∀q:Int,0<=q->q<64->D.named p x q<=1/\(l.getD q.toNat (Bl.mk false)).v=(D.named p x q==1)
 cnt:count=dH (λq=>D.named p x q==1) D.S
theorem Nms.init(D:DB)(p:Int):Nms D p 0 0 (List.replicate (Int.toNat 64) (Bl.mk false)):=by
 refine⟨by simp,ez (Int.le_refl _),λq d e=>⟨by show(0:Int)<=1;omega,?_⟩,?_⟩
 ·rw[List.getD_eq_getElem?_getD,List.getElem?_replicate,if_pos (by omega)];rfl
 ·exact(wJ (f:=λq=>D.named p 0 q==1) λx _ _=>rfl).symm
theorem zV {D:DB}{p x q:Int}(d:0<=x)(hw:D.word p x=0):D.named p (x+1) q=D.named p x q:=by
 rw[iy D p q d,hw];simp
theorem Nms.skip {D:DB}{p x c:Int}{l:List Bl}(h:Nms D p x c l)(d:0<=x)(hw:D.word p x=0):Nms D p (x+1) c l:=by
 refine⟨h.len,bS h.ok (by unfold fV;rw[hw];rfl) rfl,λq e f=>by rw[zV d hw];exact h.once q e f,?_⟩;rw[h.cnt];exact CK λq _ _=>by rw[zV d hw]
theorem Nms.put {D:DB}{p x c:Int}{l:List Bl}(h:Nms D p x c l)(t:0<=x)(u:0<=D.word p x)(hw:¬D.word p x=0)(he:il (D.word p x)=0)(v:(l.getD (aQ (D.word p x)).toNat (Bl.mk false)).v=false)(d:D.of (aQ (D.word p x)) 4 (D.at_ p).owner=true):
 Nms D p (x+1) (c+1) (l.set (aQ (D.word p x)).toNat (Bl.mk true)):=by
 have j:=rH u;have k:0<=aQ (D.word p x)/\aQ (D.word p x)<(D.S:Int):=by
  unfold of is has at d;simp only[Bool.and_eq_true,decide_eq_true_eq]at d;exact d.1.1
 have step:∀q,D.named p (x+1) q=D.named p x q+(if aQ (D.word p x)=q then 1 else 0):=λq=>by
  rw[iy D p q t];by_cases hq:aQ (D.word p x)=q<;>simp[hq,hw]
 have o:=h.once _ j.1 j.2;rw[v]at o;have i:D.named p x (aQ (D.word p x))=0:=by
  have C:0<=D.named p x (aQ (D.word p x)):=dV;have z:=o.2;have:¬D.named p x (aQ (D.word p x))=1:=by simpa using z.symm
  omega
 refine⟨by simp[h.len],bS h.ok (by unfold fV;rw[he,d];simp) rfl,λq a b=>?_,?_⟩
 ·rw[step,List.getD_eq_getElem?_getD,List.getElem?_set];by_cases hq:aQ (D.word p x)=q
  ·subst hq;rw[if_pos rfl,if_pos rfl,if_pos (by rw[h.len];omega),i];exact⟨by omega,rfl⟩
  ·rw[if_neg hq,if_neg (by omega),<-List.getD_eq_getElem?_getD,Int.add_zero];exact h.once q a b
 ·rw[AL (f:=λq=>D.named p x q==1) (q:=aQ (D.word p x)) k.1 (by rw[i];rfl) (by rw[step,i,if_pos rfl];rfl) (λy _ _ B=>by rw[step,if_neg (λe=>B e.symm),Int.add_zero]),if_pos k.2,<-h.cnt]
theorem Nms.bad {D:DB}{p x c:Int}{l:List Bl}(h:Nms D p x c l)(j:0<=x/\x<256)(o:0<=D.word p x)(hw:¬D.word p x=0)(t:il (D.word p x)=0->D.of (aQ (D.word p x)) 4 (D.at_ p).owner=true->(l.getD (aQ (D.word p x)).toNat (Bl.mk false)).v=true):D.fw p=false:=by
 unfold fw;by_cases d:D.fV p x=true
 ·unfold fV at d;simp only[Bool.or_eq_true,beq_iff_eq,hw,false_or,Bool.and_eq_true]at d;have k:=rH o;have e:=h.once _ k.1 k.2;rw[t d.1 d.2]at e;have e:D.named p x (aQ (D.word p x))=1:=by simpa using e.2.symm
  have u:D.named p (x+1) (aQ (D.word p x))=2:=by
   rw[iy D p _ j.1,e];simp[hw]
  have v:D.named p (x+1) (aQ (D.word p x))<=D.named p 256 (aQ (D.word p x)):=Fv (by omega);have i:=d.2;unfold of is has at i;simp only[Bool.and_eq_true,decide_eq_true_eq]at i;rw[cP (f:=λq=>!(decide (D.named p 256 q>1) || (D.of q 4 (D.at_ p).owner && D.named p 256 q==0))) i.1.1.1 i.1.1.2 (by simp;omega)];simp
 ·rw[cP (f:=D.fV p) j.1 j.2 (by simpa using d)];simp
theorem Nms.done {D:DB}{p c:Int}{l:List Bl}(x:D.S<=64)(h:Nms D p 256 c l)(j:D.zero p 256 1024=true):D.fw p=(c==((D.pgs 4 (D.at_ p).owner D.S).length:Int)):=by
 have e:=AK (f:=λq=>D.named p 256 q==1) (g:=λq=>D.of q 4 (D.at_ p).owner) (n:=(D.S:Int)) (by omega) λq k y hq=>by
  have hq:D.named p 256 q=1:=by simpa using hq
  have:∃i,0<=i/\i<256/\(D.word p i !=0 && aQ (D.word p i)==q)=true:=by
   apply Classical.byContradiction;intro o;have:=wJ (f:=λi=>D.word p i !=0 && aQ (D.word p i)==q) (n:=256) λi a b=>by
    cases t:(D.word p i !=0 && aQ (D.word p i)==q)
    ·rfl
    ·exact absurd ⟨i,a,b,t⟩ o
   unfold named at hq;omega
  obtain⟨i,a,b,hi⟩:=this;have d:=dm.1 h.ok i a b;simp only[Bool.and_eq_true,bne_iff_ne,ne_eq,beq_iff_eq]at hi;unfold fV at d;simp only[Bool.or_eq_true,beq_iff_eq,hi.1,false_or,Bool.and_eq_true]at d;rw[<-hi.2];exact d.2
 unfold fw;rw[j,h.ok,Bool.true_and,Bool.true_and,xK,h.cnt,Bool.eq_iff_iff,dm,beq_iff_eq];constructor
 ·intro u;refine Int.le_antisymm e.1 ?_;refine(AK (by omega) λq a b hq=>?_).1;have:=u q a b;simp only[hq,Bool.true_and,Bool.not_eq_true',Bool.or_eq_false_iff,decide_eq_false_iff_not,beq_eq_false_iff_ne]at this;have z:0<=D.named p 256 q:=dV;simp only[beq_iff_eq];omega
 ·intro he q a b;have k:=(h.once q a (by omega)).1;cases v:D.of q 4 (D.at_ p).owner
  ·simp;omega
  ·have:=e.2 he q a b v;have:D.named p 256 q=1:=by simpa using this
   simp[this]
def jv(D:DB)(p:Int)(l:List I64)(x:Int):Int:=((l.take x.toNat).map λq=>dH (D.eR p q.v) 1024).sum
theorem sI {D:DB}{p:Int}{l:List I64}{x:Int}(h:0<=x/\x<(l.length:Int)):D.jv p l (x+1)=D.jv p l x+dH (D.eR p (l.getD x.toNat (I64.mk 0)).v) 1024:=by
 unfold jv;have d:x.toNat<l.length:=by omega
 rw[show(x+1).toNat=x.toNat+1 by omega,List.take_add_one,List.getElem?_eq_getElem d,List.map_append,List.sum_append,List.getD_eq_getElem?_getD,List.getElem?_eq_getElem d];simp
theorem vE {D:DB}{p:Int}{l:List I64}{x:Int}(i:0<=x):0<=D.jv p l x/\D.jv p l x<=1024*x:=by
 obtain⟨n,rfl⟩:=Int.eq_ofNat_of_zero_le i
 induction n with
 |zero=>simp[jv]
 | succ n d=>
  by_cases j:n<l.length
  ·have h:=sI (D:=D) (p:=p) (l:=l) (x:=(n:Int)) ⟨by omega,by omega⟩;have k:=d (by omega);have o:=dV (f:=D.eR p (l.getD n (I64.mk 0)).v) (n:=1024);have q:=fM (f:=D.eR p (l.getD n (I64.mk 0)).v) (n:=1024) (by omega);rw[Int.toNat_natCast]at h;rw[show((n+1:Nat):Int)=(n:Int)+1 by omega,h];omega
  ·have e:D.jv p l ((n+1:Nat):Int)=D.jv p l (n:Int):=by
    unfold jv;rw[List.take_of_length_le (by omega),List.take_of_length_le (by omega)]
   rw[e];have:=d (by omega);omega
theorem vF {D:DB}{p:Int}:∀ {n:Nat},n<=D.S->D.gi p (n:Int)=((D.pgs 4 (D.at_ p).owner n).map λq=>dH (D.eR p q.v) 1024).sum
 |0,_=>rfl
 | n+1,h=>by
  have d:=gR D p (n:=(n:Int)) (by omega);have e:D.pgs 4 (D.at_ p).owner (n+1)=if((D.at_ (n:Int)).typ==4 && (D.at_ (n:Int)).owner==(D.at_ p).owner)=true then D.pgs 4 (D.at_ p).owner n++ [⟨(n:Int)⟩]else D.pgs 4 (D.at_ p).owner n:=by
   unfold pgs;rw[List.range_succ,List.filter_append,List.map_append];split<;>rename_i f<;>simp[f]
  have i:D.of (n:Int) 4 (D.at_ p).owner=((D.at_ (n:Int)).typ==4 && (D.at_ (n:Int)).owner==(D.at_ p).owner):=by
   unfold of is has;rw[show decide (0<=(n:Int)/\(n:Int)<(D.S:Int))=true by simp;omega,Bool.true_and]
  rw[show((n+1:Nat):Int)=(n:Int)+1 by omega,d,vF (by omega),e,i];split
  ·simp
  ·simp
theorem once_eq {D:DB}{p n x:Int}(d:x=((D.pgs 4 (D.at_ p).owner D.S).length:Int))(h:n=D.jv p (D.pgs 4 (D.at_ p).owner D.S) x):D.pY p=(n==1):=by
 unfold pY;rw[vF (Nat.le_refl _),h,d];unfold jv;rw[Int.toNat_natCast,List.take_length]
end DB
end Go.Proofs.YtoghdgcmhbanbaaGreatDoor
end
section
namespace Go.Proofs.YtoghdgcmhbanbaaGreatDoor
open Go Go.RowKit V
open Go.IntKind (i64 u32 u64 wrap_i64 wrap_u32)
namespace V
section
variable {U:Uni}
theorem cS.more {rs:List (Res U)}{X:Nat->Nat->Prop}{w w':World}{Q:Ou U->Prop}{v:Value}{k:Option Kn}{Z:Nat->Prop}{r:Res U}(t:Sat rs X w)(q:Pu w w')(x:RS Z w' r)(u:∀k,Z k->w.heap.size<=k)(y:Q ⟨v,k,[],[r],[]⟩)(d:KnO (rs++ [r]) v k):cS rs [] X w Q (.returned v) w':=by
 refine⟨_,rs,λi=>if i=rs.length then Z else X i,jH d,y,rfl,⟨λi r' l=>?_,λi j hi z B k o e=>?_⟩,q.mono λk d=>d.elim,λi hi _=>if_neg (by omega),λi hi=>(by cases hi),λi p f k d=>?_,.inr d,λ_ k d=>by cases d⟩
 ·by_cases hi:i<rs.length
  ·rw[bp,if_pos hi]at l;simp only[if_neg (show ¬i=rs.length by omega)];exact(t.res i r' l).ch q λ_ _=>λh=>h
  ·have p:=aZ l;simp at p;obtain rfl:i=rs.length:=by omega
   rw[bp,if_neg (by omega),Nat.sub_self]at l;obtain rfl:r=r':=by simpa[nth]using l
   simpa using x
 ·simp at hi z;by_cases p:i=rs.length
  ·have f:¬j=rs.length:=by omega
   simp only[p,if_true,if_neg f]at o e;have:=t.lt (i:=j) (by omega) k e;have:=u k o;omega
  ·simp only[if_neg p]at o;by_cases f:j=rs.length
   ·simp only[f,if_true]at e;have:=t.lt (i:=i) (by omega) k o;have:=u k e;omega
   ·simp only[if_neg f]at e;exact t.dis i j (by omega) (by omega) B k o e
 ·simp at f;obtain rfl:i=rs.length:=by omega
  simp only[if_true]at d;exact u k d
theorem Ll {t:Nat}{T:TypeId}{A:Option Addr}{n c:Nat}{l:List (U.el t)}{Z:Nat->Prop}{w:World}(h:Own w Z T A n c l):RS (U:=U) (λk=>Z k/\k<w.heap.size) w (.lst t true T A c l):=by
 have d:=h.len;subst d;exact⟨h.within,λk e=>e.2⟩
end
end V
section
variable {r rm:Nat->Nat}{E:Pd}{m:Mem}{X:Nat->Nat->Prop}{w w':World}
theorem KD(d:Sat (U:=Un) [.ob 0 rm m] X w):∃L:fP,rm 0=L.g/\cH w L m/\∀k,L.X k↔X 0 k:=by
 obtain⟨L,e,f,h⟩:=(d.res 0 _ rfl:gC 0 rm m (X 0) w);exact⟨L,e,h,f⟩
theorem Lj(e:Sat (U:=Un) [.ob 1 r E,.ob 0 rm m] X w)(q:aH (U:=Un) [.ob 1 r E,.ob 0 rm m] fr0 [(.l 0 1,.p (.obj 1 0 0))])(t:E.n=m.S):
 ∃(a:Nat)(L:fP),rm 0=L.g/\r 1=L.g/\DBP w ⟨r 0,a,L⟩ (E.on m)/\(∀k,(k=r 0\/k=a)↔X 0 k)/\(∀k,L.X k↔X 1 k):=by
 obtain⟨a,f,h⟩:=(e.res 0 _ rfl:gC 1 r E (X 0) w);obtain⟨L,i,j,u⟩:=(e.res 1 _ rfl:gC 0 rm m (X 1) w);obtain⟨x,r',y,l,d⟩:=q _ _ (List.mem_singleton.2 rfl);simp only[nth,Option.some.injEq,Res.ob.injEq]at l;obtain⟨rfl,rfl,_⟩:=l;have d:some (Value.pointer (some ⟨rm 0,0,none⟩))=some (Value.pointer (some ⟨r 1,0,none⟩)):=d;simp only[Option.some.injEq,Value.pointer.injEq,Addr.mk.injEq]at d;have o:r 1=L.g:=by rw[<-i];exact d.1.symm
 rw[o]at h;have p:∀k,(k=r 0\/k=a)->¬L.X k:=λk d v=>e.dis 0 1 (by simp) (by simp) (by omega) k ((f k).1 d) ((j k).1 v);exact⟨a,L,i,o,h.db u t ⟨p _ (.inl rfl),p _ (.inr rfl)⟩,f,j⟩
theorem Mo(h:Sat (U:=Un) [.ob 3 r E,.ob 2 rm m] X w)(q:aH (U:=Un) [.ob 3 r E,.ob 2 rm m] fr0 [(.l 0 1,.p (.obj 1 0 0))])(t:E.n=m.S):
 ∃L:eU,eV w (r 0) ⟨r 0,r 2,r 3,L⟩ (E.on m):=by
 obtain⟨u,d⟩:=(h.res 0 _ rfl:gC 3 r E (X 0) w);obtain⟨L,v,i⟩:=(h.res 1 _ rfl:gC 2 rm m (X 1) w);obtain⟨z,r',B,j,e⟩:=q _ _ (List.mem_singleton.2 rfl);simp only[nth,Option.some.injEq,Res.ob.injEq]at j;obtain⟨rfl,rfl,_⟩:=j;have e:some (Value.pointer (some ⟨rm 0,0,none⟩))=some (Value.pointer (some ⟨r 1,0,none⟩)):=e;simp only[Option.some.injEq,Value.pointer.injEq,Addr.mk.injEq]at e;have x:r 1=L.g:=by rw[i.gq];exact e.1.symm
 have f:(E.on m).S=E.n:=t.symm;have l:∀k,(k=r 0\/k=r 2)->¬L.X k:=λk e y=>h.dis 0 1 (by simp) (by simp) (by omega) k ((u k).1 e) ((v k).1 y);refine⟨L,rfl,?_,?_,?_,⟨λp o=>?_,d.ok.aR⟩,by rw[f];exact d.pos,d.ne,l _ (.inl rfl),l _ (.inr rfl)⟩
 ·have:=d.hd;rw[x]at this;rw[f];exact this
 ·have:=d.es;unfold DB.ax;rw[f];exact this
 ·show bV w L.g L m;rw[i.gq];exact i
 ·rw[f]at o ⊢;exact d.ok.ent p o
end
end Go.Proofs.YtoghdgcmhbanbaaGreatDoor
end
section
set_option maxRecDepth 10000
set_option maxHeartbeats 1000000
namespace Go.Proofs.YtoghdgcmhbanbaaGreatDoor
open Go Go.RowKit V
open Go.IntKind (i64 u32 u64 wrap_i64 wrap_u32)
theorem JU {w:World}(aV:Int):
 Calls Tryz.prog 88 #[J aV] w λe w'=>∃v,e=.returned v/\v=.agg #[vB true,J aV]/\Pu w w':=by
 refine vv _ ?_;have d:=Ch.refl (λ_=>False) w;refine mkd λj p h=>?_;have l:=h.lo d;have f:=h.blk;refine bx f (by simp) λo i=>?_;have f:Blk o j #[vB true,J aV] _:=i.blk;refine⟨_,_,⟨f.at rfl,f.at rfl⟩,?_⟩;have d:=Ch.call (Ch.made d h) i.ch (by exact λk e=>.inr (e▸l));exact⟨rfl,d⟩
theorem yi {L:gE}{D:DB}{w:World}(h:DBP w L D):
 Calls Tryz.prog 73 #[(.pointer (some (Addr.mk L.g 0 none)))] w λe w'=>∃v,e=.returned v/\v=.int .i64 (D.S:Int)/\w'=w:=by
 refine oM (some (Addr.mk L.g 0 none)) ?_;obtain⟨_,d⟩:=h.hd;refine ah _ rfl ⟨_,_,_,d.at rfl,?_⟩;exact⟨congrArg (Value.int .i64) (by have:=h.S64;rw[aa (by rw[Int.tdiv_eq_ediv_of_nonneg (by omega)];unfold DB.S DB.n2 at *;omega)];rw[Int.tdiv_eq_ediv_of_nonneg (by omega)];unfold DB.S DB.n2;omega),rfl⟩
theorem yj {L:gE}{D:DB}{w:World}(h:DBP w L D):
 Calls Tryz.prog 47 #[(.pointer (some (Addr.mk L.g 0 none)))] w λe w'=>∃v,e=.returned v/\v=.pointer (some (Addr.mk L.M.g 0 none))/\w'=w:=by
 refine vw (some (Addr.mk L.g 0 none)) ?_;obtain⟨_,d⟩:=h.hd;refine ah _ rfl ⟨_,d.at rfl,?_⟩;exact⟨rfl,rfl⟩
theorem MQ {L:gE}{D:DB}{w:World}(h:DBP w L D)(aV:Int):
 Calls Tryz.prog 75 #[(.pointer (some (Addr.mk L.g 0 none))),J aV] w λe w'=>∃v,e=.returned v/\v=.bool (D.has aV)/\Pu w w':=by
 refine uS (some (Addr.mk L.g 0 none)) _ ?_;have d:=Ch.refl (λ_=>False) w;have k:=h.lt;refine⟨λx w'=>x=((decide ((aV:Int)>=0)) && (decide ((aV:Int)<(D.S:Int))))/\Pu w w',?_,?_⟩
 ·refine ab (λf=>?_) (λf=>?_)
  ·refine Calls.mono (yi h) ?_;rintro e l ⟨_,rfl,rfl,i⟩;obtain rfl:=i.symm;refine⟨_,rfl,?_⟩;exact⟨by simp only[f,Bool.true_and,Bool.and_true,Bool.false_and,Bool.and_false,Bool.true_or,Bool.or_true,Bool.false_or,Bool.or_false,Bool.not_true,Bool.not_false,if_true,if_false,Bool.false_eq_true],Ch.refl _ _⟩
  ·exact⟨by simp only[f,Bool.true_and,Bool.and_true,Bool.false_and,Bool.and_false,Bool.true_or,Bool.or_true,Bool.false_or,Bool.or_false,Bool.not_true,Bool.not_false,if_true,if_false,Bool.false_eq_true],Ch.refl _ _⟩
 rintro _ _ o ⟨rfl,j⟩;have d:=Ch.pu d j;exact⟨congrArg Value.bool (by rw[Bool.eq_iff_iff];simp[DB.has]),d⟩
theorem dAt {L:gE}{D:DB}{w:World}(h:DBP w L D)(aV:Int)(p:D.has aV=true):
 Calls Tryz.prog 142 #[.pointer (some (Addr.mk L.g 0 none)),.int .i64 aV] w λe w'=>∃v,e=.returned v/\v=.agg #[.int .i64 (D.at_ aV).typ,.int .i64 (D.at_ aV).owner,.int .i64 (D.at_ aV).refs,.int .i64 (D.at_ aV).state,.bool (D.at_ aV).bw]/\Pu w w':=by
 refine Gf _ _ ?_;refine mkd λB C m=>?_;have q:=h.pu m.pu;obtain⟨T,hd⟩:=q.hd;obtain⟨T2,cs,t,O,hw⟩:=q.ws;have l:=DB.fK p;have P:=DB.rO p;have Q:=h.S64;have u:i64.wrap (2*aV)=2*aV:=aa (by omega);have F:(2*aV).toNat=2*aV.toNat:=by omega
 have x:D.n2=2*D.S:=rfl;refine ah _ rfl ⟨_,_,_,hd.at rfl,by rw[u,x];omega,?_⟩;rintro _ rfl _ rfl _ rfl;rw[u,F,x];refine⟨by omega,ah (Addr.mk L.a (2*aV.toNat) none) (by rw[if_neg (by omega)];simp[Addr.add];omega) ?_⟩;refine⟨_,_,⟨by rw[bn];exact t.cell (hw _ l).1,by rw[bn];exact t.cell (hw _ l).2⟩,?_⟩;have j:=(h.ok.ent _ l).1;refine Calls.mono (El _ _ (Ent.zh j) (Ent.zg j)) ?_;rw[(Ent.Em j).1,(Ent.Em j).2];rintro e w1 ⟨_,rfl,rfl,k⟩;refine⟨_,_,_,_,_,_,rfl,?_⟩;refine mkd λG w2 d=>?_;have H:=d.blk;have I:=d.old (k.blk m.blk);have ne:=d.ne (k.blk m.blk);refine bx H (by simp) λJ o=>?_;have f:Blk J G #[.int .i64 (D.at_ aV).typ,.int .i64 (D.at_ aV).owner,.int .i64 (D.at_ aV).refs,.int .i64 (D.at_ aV).state,.bool (D.at_ aV).bw] _:=o.blk;refine⟨_,_,_,_,_,⟨f.at rfl,f.at rfl,f.at rfl,f.at rfl,f.at rfl⟩,?_⟩;refine bx (o.old I ne) (by simp) λM y=>?_;have i:Blk M B #[.int .i64 (D.at_ aV).typ,.int .i64 (D.at_ aV).owner,.int .i64 (D.at_ aV).refs,.int .i64 (D.at_ aV).state,.bool (D.at_ aV).bw] _:=y.blk;refine⟨_,_,_,_,_,⟨i.at rfl,i.at rfl,i.at rfl,i.at rfl,i.at rfl⟩,?_⟩;have z:Pu w C:=m.pu;have N:Pu w w2:=(z.trans k).made d;exact⟨rfl,(N.stored o (.inr (d.lo (z.trans k)))).stored y (.inr (m.lo (Ch.refl (λ_=>False) w)))⟩
theorem LO {L:gE}{D:DB}{w:World}(h:DBP w L D)(aV:Int):
 Calls Tryz.prog 110 #[(.pointer (some (Addr.mk L.g 0 none))),J aV] w λe w'=>∃v,e=.returned v/\v=.tuple #[(.agg #[J (D.entry aV).typ,J (D.entry aV).owner,J (D.entry aV).refs,J (D.entry aV).state,vB ((D.entry aV).bw)]),J (D.lr aV)]/\Pu w w':=by
 refine zb (some (Addr.mk L.g 0 none)) _ ?_;have f:=Ch.refl (λ_=>False) w;have z:=h.lt;refine mkd λo B i=>?_;have p:=i.lo f;have d:=i.blk;have h:=h.pu i.pu;refine Calls.mono (MQ h _) ?_;rintro e C ⟨_,rfl,rfl,j⟩;refine⟨_,rfl,?_⟩;refine bo (λl=>?_) (λl=>?_)
 ·have d:=Pu.blk j d;refine bx d (by simp) λq t=>?_;have d:Blk q o #[J 0,J 0,J 0,J 0,vB false] _:=t.blk;refine⟨_,_,_,_,_,⟨d.at rfl,d.at rfl,d.at rfl,d.at rfl,d.at rfl⟩,?_⟩;have f:=Ch.call (Ch.pu (Ch.made f i) j) t.ch (by exact λk e=>.inr (e▸p));exact⟨by(simp[DB.entry,DB.lr,l];done),f⟩
 ·have h:=h.pu j;refine Calls.mono (dAt h _ ‹_›) ?_;rintro e q ⟨_,rfl,rfl,u⟩;have d:=Pu.blk u (Pu.blk j d);refine⟨_,_,_,_,_,rfl,bx d (by simp) λy x=>?_⟩;have d:Blk y o #[J (D.at_ aV).typ,J (D.at_ aV).owner,J (D.at_ aV).refs,J (D.at_ aV).state,vB ((D.at_ aV).bw)] _:=x.blk;refine⟨_,_,_,_,_,⟨d.at rfl,d.at rfl,d.at rfl,d.at rfl,d.at rfl⟩,?_⟩;have f:=Ch.call (Ch.pu (Ch.pu (Ch.made f i) j) u) x.ch (by exact λk e=>.inr (e▸p));exact⟨by(simp[DB.entry,DB.lr,l];done),f⟩
theorem HH {L:gE}{D:DB}{w:World}(h:DBP w L D)(aV:Int):
 Calls Tryz.prog 144 #[(.pointer (some (Addr.mk L.g 0 none))),J aV] w λe w'=>∃v,e=.returned v/\v=.bool (D.iT aV)/\Pu w w':=by
 refine uR (some (Addr.mk L.g 0 none)) _ ?_;have f:=Ch.refl (λ_=>False) w;have l:=h.lt;refine⟨λx w'=>x=((D.has aV) && ((((D.at_ aV).typ):Int)==1))/\Pu w w',?_,?_⟩
 ·refine Calls.mono (MQ h _) ?_;rintro e j ⟨_,rfl,rfl,d⟩;refine⟨_,rfl,?_⟩;refine ab (λi=>?_) (λi=>?_)
  ·have h:=h.pu d;refine Calls.mono (dAt h _ ‹_›) ?_;rintro e o ⟨_,rfl,rfl,k⟩;refine⟨_,_,_,_,_,rfl,?_⟩;exact⟨by simp only[i,Bool.true_and,Bool.and_true,Bool.false_and,Bool.and_false,Bool.true_or,Bool.or_true,Bool.false_or,Bool.or_false,Bool.not_true,Bool.not_false,if_true,if_false,Bool.false_eq_true],(Ch.pu d k)⟩
  ·exact⟨by simp only[i,Bool.true_and,Bool.and_true,Bool.false_and,Bool.and_false,Bool.true_or,Bool.or_true,Bool.false_or,Bool.or_false,Bool.not_true,Bool.not_false,if_true,if_false,Bool.false_eq_true],d⟩
 rintro _ _ j ⟨rfl,d⟩;have f:=Ch.pu f d;exact⟨congrArg Value.bool (by(simp[DB.iT];done)),f⟩
end Go.Proofs.YtoghdgcmhbanbaaGreatDoor
end
section
set_option maxRecDepth 10000
set_option maxHeartbeats 1000000
namespace Go.Proofs.YtoghdgcmhbanbaaGreatDoor
open Go Go.RowKit V
open Go.IntKind (i64 u32 u64 wrap_i64 wrap_u32)
end Go.Proofs.YtoghdgcmhbanbaaGreatDoor
end
section
set_option maxRecDepth 100000
namespace Go.Proofs.YtoghdgcmhbanbaaGreatDoor
open Go Go.RowKit V
open Go.IntKind (i64 u32 u64 wrap_i64 wrap_u32)
open Go.Proofs (Tryz.prog)
theorem Dw(m:oA){R:aK}{w:World}(h:split m.isNone (R (.pointer none) w) (Calls Tryz.prog 72 #[(.pointer m)] w λe B=>∃o:Int,e=.returned (J o)/\∃I:Nat->Int->World->Prop,(∃f,I f 0 B)/\∀(f:Nat)(_gv:Nat->Value)(i:Int),∀j,I f i j->split (decide ((i:Int)<o)) (Calls Tryz.prog 88 #[J i] j λe k=>∃p:Bool,∃q:Int,e=.returned (.agg #[vB p,J q])/\Calls Tryz.prog 87 #[(.pointer m),(.agg #[vB p,J q])] k λe d=>∃C:Int,e=.returned (J C)/\∃t,t<f/\I t (i64.wrap (i+1)) d) (Calls Tryz.prog 72 #[(.pointer m)] j λe k=>∃l:Int,e=.returned (J l)/\∃u:oA,∃v x:Nat,∃d,(Instr.makeSlice 26 (J (i64.wrap (2*l))) (J (i64.wrap (2*l))):Sem Value).run Tryz.prog k=.ok (.slice u v x) d/\∀(y:Nat)(z:World),y=d.heap.size->z=d.alloc (.cells #[(.pointer m),J 0,(.slice u v x)] 96)->R (.pointer (pvA y)) z))):Calls Tryz.prog 71 #[(.pointer m)] w (aT R):=rvc [] (aq (aq (.node none (aq (.node none (.node (some ⟨[(8,.one (.int .i64))],[3,8,9,10,11,12,13,14,15]⟩) .leaf .leaf) .leaf)) .leaf))) Tryz.func71 h
theorem y9(d:oA){R:aK}{w:World}(h:ai d λF=>∃G:oA,∃l H:Nat,w.cell? (F.add 2)=some (.slice G l H)/\∃e:oA,∃f j:Nat,∃o,(Instr.makeSlice 26 (J (i64.wrap (1+((l:Nat):Int)))) (J (i64.wrap (1+((l:Nat):Int)))):Sem Value).run Tryz.prog w=.ok (.slice e f j) o/\ai d λI=>∃t:Int,o.cell? (I.add 1)=some (J t)/\(0<=(0:Int)/\(0:Int)<((f:Nat):Int))/\ai e λM=>ao o (M.add (Int.toNat 0*1)) [O (u32.wrap t)] λp=>∃b:bP,(0<=(1:Int)/\(1:Int)<=((f:Nat):Int))/\∀u:oA,u=(if j=(Int.toNat 1)then e else(e:oA).map (·.add ((Int.toNat 1)*1)))->∀v:Nat,v=f - (Int.toNat 1)->∀x:Nat,x=j - (Int.toNat 1)->ai d λy=>b 5 ((y.add 2).block)/\∃z:oA,∃B C:Nat,p.drew.cell? (y.add 2)=some (.slice z B C)/\∃N:Int,∃q,(Builtin.copy_ #[26,26] 3 #[(.slice u v x),(.slice z B C)]:Sem Value).run Tryz.prog p.drew=.ok (J N) q/\Kept (aX b [2]) p.drew q/\∃P:bP,(∀i k,b i k->P i k)/\R (.slice e f j) q):Calls Tryz.prog 21 #[(.pointer d)] w (aT R):=rvc [] (.leaf) Tryz.func21 h
theorem uy(d:oA){R:aK}{w:World}(h:ai d λp8=>∃t:Int,w.cell? (p8.add 2)=some (J t)/\∀(u:Nat)(v:World),u=w.heap.size->v=w.alloc (.cells #[O (u32.wrap t)] 22)->∀p:Int,p=0->∃I:Nat->Option Addr->Nat->Nat->Int->World->Prop,(∃m,I m (pvA u) 1 1 p v)/\∀(m:Nat)(_gv1:Nat->Value)(l:oA)(o q:Nat)(f:Int),∀i,I m l o q f i->ai d λaC=>∃aN:oA,∃x a0:Nat,i.cell? (aC.add 1)=some (.slice aN x a0)/\split (decide ((f:Int)<((x:Nat):Int))) (ai d λa1=>∃y:oA,∃z a2:Nat,i.cell? (a1.add 1)=some (.slice y z a2)/\(0<=(f:Int)/\(f:Int)<((z:Nat):Int))/\ai y λa3=>∃B C F G:Int,∃H:Bool,ar i (a3.add (Int.toNat f*5)) 0 [J B,J C,J F,J G,vB H]/\Calls Tryz.prog 42 #[(.agg #[J B,J C,J F,J G,vB H])] i λe M=>∃N P a4:Int,e=.returned (.tuple #[(.agg #[O N,O P]),J a4])/\∀(j:Nat)(Q:World),j=M.heap.size->Q=M.alloc (.cells (#[O 0,O 0]) 97)->ao Q (vA j) [O N,O P] λk=>(0<=(0:Int)/\(0:Int)<((2:Nat):Int))/\∃S:Int,k.cell? ((vA j).add (Int.toNat 0*1))=some (O S)/\(0<=(1:Int)/\(1:Int)<((2:Nat):Int))/\∃T:Int,k.cell? ((vA j).add (Int.toNat 1*1))=some (O T)/\∀(V:Nat)(W:World),V=k.heap.size->W=k.alloc (.cells #[O S,O T] 22)->∃Y:oA,∃an az:Nat,∃aA,(Builtin.append_ #[26,26] 26 #[(.slice l o q),(.slice (pvA V) 2 2)]:Sem Value).run Tryz.prog W=.ok (.slice Y an az) aA/\∀p2:Int,p2=(i64.wrap (f+1))->∃m1,m1<m/\I m1 Y an az p2 aA) (R (.slice l o q) i)):Calls Tryz.prog 22 #[(.pointer d)] w (aT R):=rvc [3,4] (aq (aq (.node none (aq (.node none (.node (some ⟨[(3,.one (.slice)),(4,.one (.int .i64))],[3,4,5,6,13,14,15,16,17,18,19,20,21,22,23,24,25,26,27,28,29,30,31,32,33,34,35,36,37,38,39]⟩) .leaf .leaf) .leaf)) .leaf))) Tryz.func22 h
end Go.Proofs.YtoghdgcmhbanbaaGreatDoor
end
section
set_option maxRecDepth 10000
set_option maxHeartbeats 1000000
namespace Go.Proofs.YtoghdgcmhbanbaaGreatDoor
open Go Go.RowKit V
open Go.IntKind (i64 u32 u64 wrap_i64 wrap_u32)
theorem NA {L:fP}{m:Mem}{w:World}(h:cH w L m)(C:1<=m.S):
 Calls Tryz.prog 71 #[(.pointer (some (Addr.mk L.g 0 none)))] w λe w'=>∃v,e=.returned v/\∃g a:Nat,v=.pointer (pvA g)/\cH w' L (m.fv m.S)/\DBP w' ⟨g,a,L⟩ (DB.new m)/\(w.heap.size<=g/\w.heap.size<=a)/\Ch L.X w w':=by
 refine Dw (some (Addr.mk L.g 0 none)) ?_;have hm:=h.dD;have d:=Ch.refl L.X w;have P:=h.lt;refine bG ?_;refine Calls.mono (rK h) ?_;rintro e F ⟨_,rfl,rfl,o⟩;obtain rfl:=o.symm;refine⟨_,rfl,?_⟩;refine⟨λG f W=>G=(m.S - f).toNat/\(0<=f/\f<=m.S)/\Ch L.X w W/\cH W L (m.fv f.toNat),⟨_,rfl,(by omega),d,by exact h⟩,?_⟩;rintro _ _ f t ⟨rfl,Q,d,h⟩;refine af (λH=>?_) (λH=>?_)
 ·refine Calls.mono (JU _) ?_;rintro e R ⟨_,rfl,rfl,u⟩;refine⟨_,_,rfl,?_⟩;have h:=h.pu u;refine Calls.mono (MA h _ _) ?_;rintro e I ⟨_,rfl,rfl,h,J⟩;refine⟨_,rfl,?_⟩;have d:=Ch.call (Ch.pu d u) J (by exact λk M=>.inl M);exact⟨_,by rw[wrap_i64];omega,rfl,by rw[wrap_i64];omega,d,by rw[Mem.B4 _ (by omega)];exact h⟩
 ·have x:=h.lt;have N:=d;have y:f.toNat=m.S:=by omega
  have S:=h.dD.1;have l:Int.toNat (i64.wrap (2*(((m.fv f.toNat).S:Nat):Int)))=2*m.S:=by rw[Mem.nJ,aa (by omega)];omega
  refine Calls.mono (rK h) ?_;rintro e F ⟨_,rfl,rfl,o⟩;obtain rfl:=o.symm;refine⟨_,rfl,?_⟩;refine Ae sW ((⟨0⟩:U32)) (by rfl) (n:=(i64.wrap (2*((m.fv f.toNat).S)))) (by rw[aa (by omega)];omega) (by rw[aa (by omega)];omega) (by rw[aa (by omega)];omega) λz I i T=>?_;have V:=i.lo d;refine mkd λB Y j=>?_;have O:=j.blk;have h:=(h.pu i.pu).pu j.pu;have d:=Ch.made (Ch.made d i) j;exact⟨B,z,rfl,by rw[show(m.fv m.S)=(m.fv f.toNat)from by rw[y]];exact h,⟨⟨_,Blk.cast O (by rw[l];show _=_;simp only[DB.n2,DB.new,Mem.nJ])⟩,⟨_,_,Made.old j i.blk,by rw[Array.size_replicate,l];show _=2*(m.fv m.S).S;rw[Mem.nJ],λp d=>by have an:p<m.S:=(by rwa[DB.Ky]at d);exact⟨DJ (by rw[l];omega),DJ (by rw[l];omega)⟩⟩,by show cH _ _ (m.fv m.S);rw[<-y];exact h,DB.xP m C,by have:=j.num;have:=i.lt;simp only[];omega,λq=>absurd (show B<t.heap.size from x _ q) (by have:=j.num;have:=i.kept.size;omega),λq=>absurd (show z<t.heap.size from x _ q) (by have:=i.num;omega)⟩,by have h1:=j.num;have h2:=i.num;have h3:=i.kept.size;have h4:=N.size;omega,d⟩
theorem HG {L:gE}{D:DB}{w:World}(h:DBP w L D):
 Calls Tryz.prog 21 #[(.pointer (some (Addr.mk L.g 0 none)))] w λe w'=>∃v,e=.returned v/\∃g n:Nat,v=.slice (pvA g) n n/\Own w' (λk=>k=g) 22 (pvA g) n n (D.words.map uM)/\w.heap.size<=g/\Pu w w':=by
 refine y9 (some (Addr.mk L.g 0 none)) ?_;have H:=h.S64;have I:=h.ok.aR;have t:Int.toNat (i64.wrap (1+((D.n2:Nat):Int)))=1+2*D.S:=by have:D.n2=2*D.S:=rfl;rw[aa (by omega)];omega
 have p:=Ch.refl (λ_=>False) w;have z:=h.lt;obtain⟨_,d⟩:=h.hd;refine ah _ rfl ⟨_,_,_,d.at rfl,?_⟩;refine j3 sW (n:=(i64.wrap (1+((D.n2:Nat):Int)))) (by have:D.n2=2*D.S:=rfl;rw[aa (by omega)];omega) (by have:D.n2=2*D.S:=rfl;rw[aa (by omega)];omega) (by have:D.n2=2*D.S:=rfl;rw[aa (by omega)];omega) λB C j=>?_;have l:=j.lo p;have f:Blk C B (bD (List.replicate (Int.toNat (i64.wrap (1+((D.n2:Nat):Int)))) 0)) 22:=j.blk.cast (jz _ _);have d:=Made.old j d;refine ah _ rfl ⟨_,d.at rfl,by omega,ah _ rfl (B9 (i:=0) f (by simp only[List.length_replicate,t];omega) λF q=>?_)⟩;have f:=q.blk;refine⟨bXU [] [5] F.drew (λ_=>False),?_⟩;refine⟨by omega,?_⟩;rintro _ rfl _ rfl _ rfl;have d:=Blk.drew (Ch.blk q.ch d (λe=>absurd (z _ (by exact .inl rfl)) (Nat.not_lt.2 (by rw[e];exact l))));refine ah _ rfl ⟨.inl (by decide),_,_,_,d.at rfl,?_⟩;have f:=Blk.drew f;have h:=((h.pu j.pu).ch q.ch (λk u e=>(λu=>absurd (z _ u) (Nat.not_lt.2 l)) (e▸u))).pu (Pu.aw _);refine AI sW f (o:=1) HJ (by(simp;omega)) (h).ints (by(have:D.n2=2*D.S:=rfl;simp only[List.length_set,List.length_replicate];omega)) λJ x=>?_;have f:=x.blk;refine bXU.D4 x.ch (by decide) ?_;have p:=Ch.call (Ch.drew (Ch.call (Ch.made p j) q.ch (by exact λk e=>.inr (e▸l)))) x.ch (by exact λk e=>.inr (e▸l));exact⟨B,_,by rfl,by have hw:=DB.lay (D:=D) t;have G:u32.wrap D.aR=D.aR:=bT (by omega);have y:=f;rw[G]at y;have e:(min D.n2 (Int.toNat (i64.wrap (1+((D.n2:Nat):Int))) - Int.toNat 1))=min (2*D.S) (Int.toNat (i64.wrap (1+((D.n2:Nat):Int))) - 1):=rfl;rw[e,hw]at y;exact Own.ofRow y (by rw[D.lK,t]) (by omega),l,p⟩
theorem zE {gd:Nat}{L:jJ}{D:DB}{w:World}(h:eV w gd L D):
 Calls Tryz.prog 22 #[(.pointer (pvA gd))] w λe w'=>∃v,e=.returned v/\∃J:Nat->Prop,∃A':oA,∃M N:Nat,v=.slice A' M N/\Own w' J 22 A' M N (D.words.map uM)/\(∀k,J k->w.heap.size<=k)/\Pu w w':=by
 refine uy (pvA gd) ?_;have a3:=h.S64;have hb:=h.ok.aR;have T:∀p:Int,0<=p->p<D.S->(D.at_ p).ok=true:=λp V q=>(h.ok.ent p.toNat (by omega)).1;have f:=Ch.refl (λ_=>False) w;have an:=h.lt;obtain⟨_,o⟩:=h.hd';refine ah _ rfl ⟨_,o.at rfl,?_⟩;refine mkd λgv wv x=>?_;have G:=x.blk;rintro _ rfl;have G:Blk wv gv (bD [u32.wrap D.aR]) _:=G.cast (by rfl);have f:=Ch.made f x;have h:=h.pu x.pu;refine⟨λmz O P Q d W=>∃l2:List U32,mz=(D.S - d).toNat/\(0<=d/\d<=D.S)/\(l2=(D.aR::(List.range d.toNat).flatMap λp=>[(D.ent p).w0,(D.ent p).w1]).map uM)/\(l2.length<=1+2*d.toNat)/\Own W (λk=>w.heap.size<=k) 22 O P Q l2/\Ch (λ_=>False) w W/\eV W gd L D,⟨_,(List.map uM [u32.wrap D.aR]),rfl,(by omega),(by rw[bT (by omega)];rfl),(by simp),(Own.ofRow G rfl (by simp)).to (by intro k q h2;exact q▸(by have:=x.num;omega)),f,h⟩,?_⟩;rintro _ _ O P Q d a4 ⟨l2,rfl,V,R,a5,j,f,h⟩;obtain⟨_,o⟩:=h.hd';refine ah _ rfl ⟨_,_,_,o.at rfl,?_⟩;refine af (λc1=>?_) (λc1=>?_)
 ·refine ah _ rfl ⟨_,_,_,o.at rfl,?_⟩;obtain⟨p2,az,t⟩:=h.ldE (i:=d) (by omega) (by omega);refine⟨⟨by omega,by omega⟩,ah p2 az ⟨_,_,_,_,_,⟨t 0 (by decide),t 1 (by decide),t 2 (by decide),t 3 (by decide),t 4 (by decide)⟩,?_⟩⟩;refine Calls.mono (E0 _ _ _ _ _) ?_;rintro e a6 ⟨_,rfl,rfl,y⟩;refine⟨_,_,_,rfl,?_⟩;have f:=Ch.pu f y;have o:=Pu.blk y o;have h:=h.pu y;have j:=j.pu y;have j:=j.narrow;refine mkd λaA a7 l=>?_;have aC:=l.lo f;have a8:=l.ne o;have aN:=l.off h.lt;have z:=l.blk;refine bx z (by simp) λa0 B=>?_;have z:Blk a0 aA #[_,_] _:=B.blk;refine⟨by decide,_,z.at rfl,by decide,_,z.at rfl,?_⟩;refine mkd λa1 a2 C=>?_;have H:=C.blk;have j:=((j.pu l.pu).ch B.ch (λk u e=>absurd u.2 (by rw[e,l.num];exact Nat.lt_irrefl _))).pu C.pu;have j:=j.to (Y:=(λk=>w.heap.size<=k)) (λk q _=>q.1);have f:=Ch.made (Ch.call (Ch.made f l) B.ch (by exact λk e=>.inr (e▸aC))) C;have H:Blk a2 a1 (bD [if(Ent.mk ((D.at_ d).typ) ((D.at_ d).owner) ((D.at_ d).refs) ((D.at_ d).state) ((D.at_ d).bw)).ok then(Ent.mk ((D.at_ d).typ) ((D.at_ d).owner) ((D.at_ d).refs) ((D.at_ d).state) ((D.at_ d).bw)).w0 else 0,if(Ent.mk ((D.at_ d).typ) ((D.at_ d).owner) ((D.at_ d).refs) ((D.at_ d).state) ((D.at_ d).bw)).ok then(Ent.mk ((D.at_ d).typ) ((D.at_ d).owner) ((D.at_ d).refs) ((D.at_ d).state) ((D.at_ d).bw)).w1 else 0]) _:=H.cast (by rfl);refine Own.apps j sL (Own.ofRow (n:=2) H rfl (by simp)).rd (by have:=j.len;omega) (by have:=j.len;omega) (by have:=f.size;simpa using this) (λa9 ba bb j S=>?_) (λF=>absurd F (by decide));rintro _ rfl;have f:=Ch.call f S (by intro k I;exact .inr I);have h:=(((h.pu l.pu).ch B.ch (λk u e=>(aN) (e▸u))).pu C.pu).ch S (λk u hy=>by have q:=an k u;omega);exact⟨_,by rw[wrap_i64];omega,(l2++List.map uM [if(Ent.mk ((D.at_ d).typ) ((D.at_ d).owner) ((D.at_ d).refs) ((D.at_ d).state) ((D.at_ d).bw)).ok then(Ent.mk ((D.at_ d).typ) ((D.at_ d).owner) ((D.at_ d).refs) ((D.at_ d).state) ((D.at_ d).bw)).w0 else 0,if(Ent.mk ((D.at_ d).typ) ((D.at_ d).owner) ((D.at_ d).refs) ((D.at_ d).state) ((D.at_ d).bw)).ok then(Ent.mk ((D.at_ d).typ) ((D.at_ d).owner) ((D.at_ d).refs) ((D.at_ d).state) ((D.at_ d).bw)).w1 else 0]),rfl,by rw[wrap_i64];omega,DB.B7 R (by omega) (T d (by omega) (by omega)) rfl rfl,(by rw[aa (by omega),List.length_append];simp;omega),j,f,h⟩
 ·exact⟨(λk=>w.heap.size<=k),_,_,_,by rfl,by have e:d.toNat=D.S:=(by omega);have F:=j;rw[R,e]at F;exact F,λk I=>I,f⟩
theorem K4:S1 Tryz.prog 165 3 (J 0) 8:=S1.of (by kernel_rfl) (by kernel_rfl) rfl
theorem KX:SN Tryz.prog 165 3 (J 0) 1 8:=K4.sn
end Go.Proofs.YtoghdgcmhbanbaaGreatDoor
end
section
set_option maxRecDepth 100000
namespace Go.Proofs.YtoghdgcmhbanbaaGreatDoor
open Go Go.RowKit V
open Go.IntKind (i64 u32 u64 wrap_i64 wrap_u32)
open Go.Proofs (Tryz.prog)
theorem uT(d:oA){R:aK}{w:World}(h:∀(e:Nat)(f:World),e=w.heap.size->f=w.alloc (.cells #[(.pointer d)] 61)->R (.func (.func 171) #[] #[(.pointer (pvA e))]) f):Calls Tryz.prog 145 #[(.pointer d)] w (aT R):=rvc [] (.leaf) Tryz.func145 h
theorem pT(yield:Value)(i:Addr){R:aK}{w:World}(h:∃j:oA,w.cell? i=some (.pointer j)/\Calls Tryz.prog 73 #[(.pointer j)] w λe z=>∃k:Int,e=.returned (J k)/\∃I:Nat->Int->World->Prop,(∃m,I m 0 z)/\∀(m:Nat)(_gv:Nat->Value)(d:Int),∀f,I m d f->split (decide ((d:Int)<k)) (∃l:oA,f.cell? i=some (.pointer l)/\Calls Tryz.prog 142 #[(.pointer l),J d] f λe B=>∃o p q t:Int,∃u:Bool,e=.returned (.agg #[J o,J p,J q,J t,vB u])/\HV Tryz.prog rW true yield #[J d,(.agg #[J o,J p,J q,J t,vB u])] B λe v=>∃x:Bool,e=.returned (vB x)/\split (!x) (R (.tuple #[]) v) (∃y,y<m/\I y (i64.wrap (d+1)) v)) (R (.tuple #[]) f)):Calls Tryz.prog 171 #[yield,(.pointer (some i))] w (aT R):=rvc [] (aq (.node none (.node (some ⟨[(6,.one (.int .i64))],[3,6,7,8,9,10,11,12,13,14,15,16]⟩) .leaf .leaf) .leaf)) Tryz.func171 h
theorem za(d:oA)(space:Int){R:aK}{w:World}(h:∀(t:Nat)(z:World),t=w.heap.size->z=w.alloc (.cells #[J space] 3)->∃H:Int,z.cell? (vA t)=some (J H)/\Calls Tryz.prog 144 #[(.pointer d),J H] z λe B=>∃I:Bool,e=.returned (vB I)/\split (!I) (R (.slice none 0 0) B) (∀(u:Nat)(M:World),u=B.heap.size->M=B.alloc (.cells (#[(.slice none 0 0)]) 165)->Calls Tryz.prog 145 #[(.pointer d)] M λe p=>∃N:Value,e=.returned N/\∃(C:Nat)(cap:Array Value),N=.func (.func C) #[] cap/\rW.elem C=true/\∀(l dl:Nat)(q:World),dl=p.heap.size->l=p.heap.size+1->Kept (λk=>k<p.heap.size) p q->l<q.heap.size->q.heap[dl]? =some (.deferred (some []))->∃(xs:Ys)(X:Nat->Prop)(D j O:Nat->World->Prop)(Je:Nat->Nat->World->Prop),Iter Tryz.prog C cap xs X D/\(∀k,X k->k<p.heap.size)/\(∀i x A,xs.is i x A->Ay [.one (.int .i64),.agg [.int .i64,.int .i64,.int .i64,.int .i64,.bool]] λvs=>x=vs)/\(Bz X l j/\Bz X l O/\∀id,Bz X l (Je id))/\D 0 q/\j 0 q/\(∀(i:Nat)(A:World),j i A->D i A->∀(F P Q S T:Int)(V:Bool),xs.is i [J F,(.agg #[J P,J Q,J S,J T,vB V])] A->∀(v:Nat)(Y:World),v=A.heap.size->Y=A.alloc (.cells (#[J 0,J 0,J 0,J 0,vB false]) 137)->ao Y (vA v) [J P,J Q,J S,J T,vB V] λG=>Kept (λk=>X k\/k=l) A G/\∀f,Kept (λk=>k<G.heap.size/\k≠l) G f->∃y:Bool->World->Prop,(∃an:Int,f.cell? (vA t)=some (J an)/\split ((F:Int) !=an) (∃az:Int,f.cell? ((vA v).add 0)=some (J az)/\split ((az:Int) !=0) (∃aA:Int,f.cell? ((vA v).add 1)=some (J aA)/\∃aC:Int,f.cell? (vA t)=some (J aC)/\y ((aA:Int)==aC) f) (y false f)) (y false f))/\∀(_gv3:Nat->Value)(aN:Bool),∀o,y aN o->split aN (∃a0:oA,∃a1 a2:Nat,o.cell? (vA u)=some (.slice a0 a1 a2)/\∀(a3:Nat)(a4:World),a3=o.heap.size->a4=o.alloc (.cells #[J F] 3)->∃a5:oA,∃a6 a7:Nat,∃a8,(Builtin.append_ #[165,165] 165 #[(.slice a0 a1 a2),(.slice (pvA a3) 1 1)]:Sem Value).run Tryz.prog a4=.ok (.slice a5 a6 a7) a8/\ao a8 (vA u) [(.slice a5 a6 a7)] λa9=>Kept (λk=>X k\/k=l) f a9/\j (i+1) a9) (Kept (λk=>X k\/k=l) f o/\j (i+1) o))/\(∀W,j xs.n W->D xs.n W->∃ba:oA,∃bb bc:Nat,W.cell? (vA u)=some (.slice ba bb bc)/\W.heap[dl]? =some (.deferred (some []))/\R (.slice ba bb bc) (W.putObj dl (.deferred none)))/\(∀i W,O i W->D i W->W.heap[dl]? =some (.deferred (some []))/\R (.slice none 0 0) (W.putObj dl (.deferred none)))/\True)):Calls Tryz.prog 118 #[(.pointer d),J space] w (aT R):=rvc [] (aq (aq (aq (.node none (aq (.node none (.node (some ⟨[(14,.one (.int .i64)),(15,.agg [.int .i64,.int .i64,.int .i64,.int .i64,.bool])],[]⟩) .leaf (.node none (.node none (.node (some ⟨[(29,.one (.bool))],(rgN 16 14)⟩) .leaf .leaf) .leaf) .leaf)) .leaf)) .leaf)))) Tryz.func118 h
end Go.Proofs.YtoghdgcmhbanbaaGreatDoor
end
section
set_option maxRecDepth 10000
set_option maxHeartbeats 1000000
namespace Go.Proofs.YtoghdgcmhbanbaaGreatDoor
open Go Go.RowKit V
open Go.IntKind (i64 u32 u64 wrap_i64 wrap_u32)
def DB.row(D:DB)(p:Nat):List Value:= [.int .i64 (p:Int),.agg #[.int .i64 (D.ent p).typ,.int .i64 (D.ent p).owner,.int .i64 (D.ent p).refs,.int .i64 (D.ent p).state,.bool (D.ent p).bw]]
def DB.rows(D:DB):List (List Value):=(List.range D.S).map D.row
theorem DB.ta(D:DB):D.rows.length=D.S:=by simp[DB.rows]
theorem DB.zu {D:DB}{i:Nat}(h:i<D.S):D.rows[i]? =some (D.row i):=by simp[DB.rows,h]
theorem DB.I9 {D:DB}{i:Nat}{x:List Value}(h:D.rows[i]? =some x):i<D.S/\x=D.row i:=by
 have:=(List.getElem?_eq_some_iff.1 h).1;rw[DB.ta]at this;rw[DB.zu this]at h;exact⟨this,(Option.some.inj h).symm⟩
def gE.XI(L:gE)(g:Nat):Nat->Prop:=λk=>L.X k\/k=g
theorem DBP.it {L:gE}{D:DB}{w A:World}{g:Nat}(h:DBP w L D)(k:Kept (L.XI g) w A):DBP A L D:=h.ch (Ch.Js k) λ_ d e=>e (.inl d)
theorem HI {L:gE}{D:DB}{w:World}(h:DBP w L D):
 Calls Tryz.prog 145 #[.pointer (some (Addr.mk L.g 0 none))] w λe w'=>∃v,e=.returned v/\∃g T,v=.func (.func 171) #[] #[.pointer (pvA g)]/\Blk w' g #[.pointer (some (Addr.mk L.g 0 none))] T/\w.heap.size<=g/\Pu w w':=by
 refine uT _ ?_;refine mkd λd f m=>?_;exact⟨d,_,rfl,m.blk,m.lo (Ch.refl (λ_=>False) w),m.pu⟩
theorem MO {L:gE}{D:DB}{w:World}{g:Nat}{T:TypeId}(h:DBP w L D)(t:Blk w g #[.pointer (some (Addr.mk L.g 0 none))] T):
 Iter Tryz.prog 171 #[.pointer (pvA g)] (Ys.of D.rows) (L.XI g) (λ_ A=>Kept (L.XI g) w A):=by
 have u:∀k,L.XI g k->k<w.heap.size:=λk f=>f.elim (h.lt k) (λe=>e▸t.lt);have Y:=h.S64;refine Ff u λl J F W G an H d0 I=>?_;rw[show(Ys.of D.rows).n=D.S from D.ta];have M:∀ {i A B},J i A->Pu A B->J i B:=λa q=>G _ _ _ a (q.mono λ_ h=>h.elim);have jo:∀ {A B},Kept (L.XI g) w A->Pu A B->Kept (L.XI g) w B:=λa q=>a.trans (q.jo λk f=>Nat.lt_of_lt_of_le (u k f) a.size);have ld:∀ {A},Kept (L.XI g) w A->A.cell? (vA g)=some (.pointer (some (Addr.mk L.g 0 none))):=λa=>by rw[a.cell (p:=Addr.mk g 0 none) (.inr rfl)];exact t.at0 rfl
 refine Calls.mono (P:=Tryz.prog) (pT (.func (.yield l) #[] #[]) (vA g) (R:=λ_ B=>(J D.S B/\Kept (L.XI g) w B)\/∃i,F i B/\Kept (L.XI g) w B) ?_) (λe B N=>by obtain⟨v,O,Q⟩:=N;exact⟨⟨v,O⟩,Q⟩);refine⟨_,ld d0,Calls.mono (yi (h.it d0)) ?_⟩;rintro e _ ⟨_,rfl,rfl,rfl⟩;refine⟨_,rfl,?_⟩;refine⟨λy x A=>0<=x/\x<=D.S/\y=((D.S:Int) - x).toNat/\J x.toNat A/\Kept (L.XI g) w A,⟨_,by omega,by omega,rfl,H,d0⟩,?_⟩;rintro y _ x A ⟨az,aA,rfl,z,hd⟩;refine af (λS=>?_) (λS=>?_)
 ·refine⟨_,ld hd,Calls.mono (dAt (h.it hd) _ (by simp[DB.has];omega)) ?_⟩;rintro e V ⟨_,rfl,rfl,d⟩;refine⟨_,_,_,_,_,rfl,?_⟩;have C:=I x.toNat _ V (DB.zu (by omega)) (M z d) (jo hd d);simp only[DB.row,show((x.toNat:Nat):Int)=x by omega]at C;refine xq C ?_;rintro e B (⟨rfl,j,o⟩|⟨rfl,j,o⟩)
  ·refine⟨_,rfl,bG ?_⟩;refine⟨_,?_,by rw[wrap_i64];omega,by rw[wrap_i64];omega,rfl,?_,(jo hd d).trans o⟩
   ·rw[wrap_i64];omega
   ·rw[aa (by omega),show(x+1).toNat=x.toNat+1 by omega];exact j
  ·exact⟨_,rfl,aU (.inr ⟨_,j,(jo hd d).trans o⟩)⟩
 ·exact .inl ⟨by rw[show D.S=x.toNat by omega];exact z,hd⟩
theorem LN {L:gE}{D:DB}{w:World}(h:DBP w L D)(space:Int):
 Calls Tryz.prog 118 #[.pointer (some (Addr.mk L.g 0 none)),.int .i64 space] w λe w'=>∃v,e=.returned v/\∃Z':Nat->Prop,∃A':oA,∃N' C':Nat,v=.slice A' N' C'/\Own w' Z' 3 A' N' C' (if D.iT space then D.eO space D.S else [])/\(∀k,Z' k->w.heap.size<=k)/\Pu w w':=by
 refine za _ _ ?_;have b3:=h.S64;refine mkd λgv wv m=>?_;refine⟨_,m.blk.at0 rfl,Calls.mono (HH (h.pu m.pu) _) ?_⟩;rintro e a0 ⟨_,rfl,rfl,S⟩;refine⟨_,rfl,?_⟩;have o:=S.blk m.blk;have lg:=m.lo (Ch.refl (λ_=>False) w);have p1:Pu w a0:=Ch.pu m.pu S;refine bo (λy=>?_) (λy=>?_)
 ·exact⟨λ_=>False,_,_,_,rfl,by rw[if_neg (by simp[y])];exact Own.nil,λk f=>f.elim,p1⟩
 refine mkd λz a7 u=>?_;have o:=u.old o;have ne:=u.ne (S.blk m.blk);have p2:Pu w a7:=Ch.pu p1 u.pu;have b4:=u.lo p1;refine Calls.mono (HI (h.pu p2)) ?_;rintro e an ⟨_,rfl,g,T,rfl,bg,b5,V⟩;refine⟨_,rfl,_,_,rfl,by kernel_rfl,?_⟩;intro l dl j b6 hl M b7 a8
 have o:=V.blk o;have b1:=V.blk u.blk;have Y:Pu an j:=⟨M.mono λ_ h=>h.1⟩;have p3:Pu w an:=Ch.pu p2 V;have N:Pu w j:=Ch.pu p3 Y;have h4:=h.pu N;have a9:=Y.blk bg;have ba:=bg.lt;have b8:=(V.blk u.blk).lt;have b9:=o.lt;have C:∀k,L.XI g k->k<an.heap.size:=λk f=>f.elim ((h.pu p3).lt k) (λe=>e▸ba);have bb:¬L.XI g gv:=λd=>d.elim (λd=>absurd (h.lt _ d) (by omega)) (λe=>by have:=u.old (S.blk m.blk) |>.lt;omega);have aN:¬L.XI g z:=λd=>d.elim (λd=>absurd (h.lt _ d) (by omega)) (λe=>by have:=u.lt;omega);have ca:=p3.size;let Zn:Nat->Prop:=λk=>j.heap.size<=k;let J:Nat->World->Prop:=λi A=>Ch (L.XI g) w A/\Blk A gv #[.int .i64 space] 3/\(∃ad n c T,Blk A z #[.slice ad n c] T/\Own A Zn 3 ad n c (D.eO space i))/\A.heap[dl]? =some (.deferred (some []))/\j.heap.size<=A.heap.size;have sJ:Bz (L.XI g) l J:=IX λi A B hj q=>by
  obtain⟨O,a2,⟨ad,n,c,T2,P,F⟩,Q,a6⟩:=hj;refine⟨O.call q λk f=>f.elim .inl (λe=>.inr (by omega)),q.blk a2 (λd=>d.elim bb (by omega)),⟨ad,n,c,T2,q.blk P (λd=>d.elim aN (by omega)),F.ch q λk f d=>?_⟩,q.obj Q (λd=>d.elim (λd=>absurd (C _ d) (by omega)) (by omega)),Nat.le_trans a6 q.size⟩;have f:j.heap.size<=k:=f;exact d.elim (λd=>absurd (C _ d) (by have:=M.size;omega)) (by omega)
 refine⟨Ys.of D.rows,L.XI g,_,J,λ_ _=>False,λ_ _ _=>False,MO h4 a9,C,?_,⟨sJ,λ_ _ _ h _=>h,λ_ _ _ _ h _=>h⟩,Kept.refl _ _,?_,?_,?_,λ_ _ h _=>h.elim,trivial⟩
 ·intro i x A d;obtain⟨i,hi,rfl⟩:=List.mem_map.1 (List.mem_of_getElem? d);exact⟨_,_,_,_,_,_,rfl⟩
 ·exact⟨N.mono λ_ h=>h.elim,Y.blk o,⟨_,_,_,_,Y.blk b1,by exact Own.nil⟩,a8,Nat.le_refl _⟩
 ·rintro i A ⟨O,a2,⟨ad,n,c,T2,P,F⟩,Q,a6⟩ hd cb xa xb xc xd xe d;obtain⟨hi,d⟩:=DB.I9 d;simp only[DB.row,List.cons.injEq,Value.int.injEq,Value.agg.injEq,Value.bool.injEq,Array.mk.injEq,and_true,true_and]at d;obtain⟨rfl,rfl,rfl,rfl,rfl,rfl⟩:=d;refine mkd λbc bd m6=>?_;refine bx m6.blk (by simp) λaz s7=>?_;have q6:Pu A az:=(show Pu A bd from m6.pu).stored s7 (.inr (m6.lo (Ch.refl (λ_=>False) A)));have bl:∀k,L.XI g k\/k=l->k<A.heap.size:=λk f=>f.elim (λd=>by have:=C _ d;have:=M.size;omega) (by omega);refine⟨q6.jo bl,λaA k5=>?_⟩;have b2:Blk az bc #[.int .i64 (D.ent i).typ,.int .i64 (D.ent i).owner,.int .i64 (D.ent i).refs,.int .i64 (D.ent i).state,.bool (D.ent i).bw] _:=s7.blk;have q5:Ch (λk=>k=l) az aA:=⟨k5⟩;have n2:=m6.num;have b2:=q5.blk b2 (by omega);have G:Ch (λk=>k=l) A aA:=(q6.mono λ_ h=>h.elim).trans q5;have o:=G.blk a2 (by omega);refine⟨λb B=>b=D.fH space i/\B=aA,?_,?_⟩
  ·refine⟨_,o.at0 rfl,aG (λH=>?_) (λH=>⟨by simp[DB.fH,H],rfl⟩)⟩;refine⟨_,b2.at rfl,aG (λt=>?_) (λt=>⟨by simp[DB.fH,t],rfl⟩)⟩;exact⟨_,b2.at rfl,_,o.at0 rfl,by simp[DB.fH,H,t],rfl⟩
  rintro _ b B ⟨rfl,rfl⟩;have e1:D.eO space (i+1)=if D.fH space i then D.eO space i++ [I64.mk i]else D.eO space i:=by
   have:=D.kW space (p:=(i:Int)) (by omega)
   rwa[aa (by omega),show((i:Int)+1).toNat=i+1 by omega,show((i:Nat):Int).toNat=i by omega]at this
  have bs:Ch (L.XI g) w B/\Blk B gv #[.int .i64 space] 3/\(∃T,Blk B z #[.slice ad n c] T)/\Own B Zn 3 ad n c (D.eO space i)/\B.heap[dl]? =some (.deferred (some []))/\j.heap.size<=B.heap.size:=
   ⟨O.call G λk e=>.inr (by omega),o,⟨_,G.blk P (by omega)⟩,F.ch G (λk (f:j.heap.size<=k) e=>by omega),G.obj Q (by omega),Nat.le_trans a6 G.size⟩
  obtain⟨y,H,⟨T3,t⟩,c4,c5,c6⟩:=bs;cases hb:D.fH space i
  ·refine bG ⟨Kept.refl _ _,y,H,⟨_,_,_,_,t,by rw[e1,hb];exact c4⟩,c5,c6⟩
  ·refine aU ?_;refine⟨_,_,_,t.at0 rfl,?_⟩;refine mkd λcc bA I=>?_;have hlen:=(c4.pu I.pu).len;have cf:=D.tj space i;refine(c4.pu I.pu).app KX I.blk (x:=I64.mk i) (by rfl) (by omega) (by omega) (by exact Nat.le_trans c6 I.pu.size) (λA9 c9 cg o9 q9=>?_);have t:=q9.blk (I.old t) (λd=>absurd t.lt (by have d:j.heap.size<=z:=d;omega));refine bx t (by simp) λbC aC=>?_;have bN:∀k,Zn k->k≠z:=λk (f:j.heap.size<=k) e=>by omega
   have R:Ch (λk=>j.heap.size<=k\/k=z) B bC:=((show Ch _ B bA from I.pu.mono λ_ h=>h.elim).call q9 λk f=>.inl (.inl f)).call aC.ch λk e=>.inl (.inr e);refine⟨R.kept.mono λk f=>⟨f.elim (λd=>by have:=C _ d;have:=M.size;omega) (by omega),λh=>f.elim (λd=>h.elim (λh=>absurd (C _ d) (by have:=M.size;omega)) (λe=>aN (e▸d))) (λe=>h.elim (by omega) (by omega))⟩,?_⟩;refine⟨y.call R λk f=>.inr (f.elim (λh=>Nat.le_trans N.size h) (λe=>by omega)),R.blk H (λh=>h.elim (by omega) (λe=>ne e)),⟨_,_,_,_,aC.blk,by rw[e1,hb];exact o9.ch aC.ch λk f e=>bN k f e⟩,R.obj c5 (λh=>h.elim (by omega) (by omega)),Nat.le_trans c6 R.size⟩
 ·rintro W ⟨O,a2,⟨ad,n,c,T2,P,F⟩,Q,a6⟩ hd;refine⟨_,_,_,P.at0 rfl,Q,Zn,_,_,_,rfl,?_,λk (f:j.heap.size<=k)=>Nat.le_trans N.size f,?_⟩
  ·rw[if_pos y];rw[show(Ys.of D.rows).n=D.S from D.ta]at F;exact F.ch (Pu.put W dl _ (λk=>k=dl) rfl) λk (f:j.heap.size<=k) e=>by omega
  ·exact(Pu.join N hd O).call (Pu.put W dl _ (λk=>k=dl) rfl) λk e=>.inr (by omega)
end Go.Proofs.YtoghdgcmhbanbaaGreatDoor
end
section
set_option maxRecDepth 100000
set_option maxHeartbeats 1000000
namespace Go.Proofs.YtoghdgcmhbanbaaGreatDoor
open Go Go.RowKit V
open Go.IntKind (i64 u32 u64 wrap_i64 wrap_u32)
open Go.Proofs (Tryz.prog)
attribute [local irreducible] Vc2 VcD
attribute [local grind=] Pd.cO Pd.dj Pd.kZ Pd.k8 Pd.qn Pd.kY Pd.kX Pd.iP Pd.qe
attribute [local grind .] Pd.Ok.ent
attribute [local grind→] Pd.Ok.dD
def Ds:Ctr Un:=⟨[.one (.obj 0 0),.agg [.bool,.int .i64]],[],[.ob 0 []],[],λd e rm m K=>K ⟨vB (m.has d e),none,[],[],[]⟩⟩
theorem Mb:LV Un Tryz.prog 153 Ds:=by
 show ∀(d:Bool)(f:Int)(rm:Nat->Nat)(m:Mem),∀Q:Ou Un->Prop,(Q ⟨vB (m.has d f),none,[],[],[]⟩)->∀(X:bP)(w:World),Sat (U:=Un) [(.ob 0 rm m)] X w->aH (U:=Un) [(.ob 0 rm m)] fr0 []->Calls Tryz.prog 153 #[(.pointer (pvA (rm 0))),(.agg #[vB d,J f])] w (cS (U:=Un) [(.ob 0 rm m)] [] X w Q);intro d f rm m Q i X w h l;obtain⟨L,j,k,o⟩:=KD h;rw[j];refine(Nr k d f).mono ?_;rintro e w' ⟨u,rfl,rfl,q⟩;exact cS.pu h q i trivial
def yW:Ctr Un:=⟨[.one (.obj 0 0),.agg [.bool,.int .i64],.one (.int .i64)],[],[.ob 0 []],[],λd e off rm m K=>K ⟨O (m.gp d e off),none,[],[],[]⟩⟩
theorem Kr:LV Un Tryz.prog 83 yW:=by
 show ∀(d:Bool)(f off:Int)(rm:Nat->Nat)(m:Mem),∀Q:Ou Un->Prop,(Q ⟨O (m.gp d f off),none,[],[],[]⟩)->∀(X:bP)(w:World),Sat (U:=Un) [(.ob 0 rm m)] X w->aH (U:=Un) [(.ob 0 rm m)] fr0 []->Calls Tryz.prog 83 #[(.pointer (pvA (rm 0))),(.agg #[vB d,J f]),J off] w (cS (U:=Un) [(.ob 0 rm m)] [] X w Q);intro d f off rm m Q i X w h l;obtain⟨L,j,k,o⟩:=KD h;rw[j];refine(KE k d f off).mono ?_;rintro e w' ⟨u,rfl,rfl,q⟩;exact cS.pu h q i trivial
theorem Li {r rm:Nat->Nat}{E:Pd}{m:Mem}(f:aH (U:=Un) [.ob 1 r E,.ob 0 rm m] fr0 [(.l 0 1,.p (.obj 1 0 0))]):r 1=rm 0:=by
 obtain⟨h,r',i,e,d⟩:=f _ _ (List.mem_singleton.2 rfl);simp only[nth,Option.some.injEq,Res.ob.injEq]at e;obtain⟨rfl,rfl,_⟩:=e;have d:some (Value.pointer (some ⟨rm 0,0,none⟩))=some (Value.pointer (some ⟨r 1,0,none⟩)):=d;simp only[Option.some.injEq,Value.pointer.injEq,Addr.mk.injEq]at d;exact d.1.symm
def uQ:Ctr Un:=⟨[.one (.obj 0 0)],[],[.ob 1 [(1,1,0)],.ob 0 []],[],λr E rm m K=>K ⟨(.pointer (pvA (r 1))),(some (.p (.obj 1 0 0))),[],[],[]⟩⟩
theorem Dx:LV Un Tryz.prog 47 uQ:=dJ Tryz.func47 aj [] trivial [] .leaf [] (F:=∀r (E:Pd) rm (m:Mem) Q,uQ.body r E rm m Q->Pd.Ok E->Mem.Wf m->Q ⟨(.pointer (pvA (r 1))),(some (.p (.obj 1 0 0))),[],[],[]⟩) λr E rm m Q h=>λf1 f2=>h
def jM:Ctr Un:=⟨[.one (.obj 0 0)],[],[.ob 1 [(1,1,0)],.ob 0 []],[],λr E rm m K=>K ⟨(.pointer (pvA (rm 0))),(some (.p (.obj 1 0 0))),[],[],[]⟩⟩
theorem xl:LV Un Tryz.prog 47 jM:=by
 show ∀(r:Nat->Nat)(E:Pd)(rm:Nat->Nat)(m:Mem),∀Q:Ou Un->Prop,(Q ⟨(.pointer (pvA (rm 0))),(some (.p (.obj 1 0 0))),[],[],[]⟩)->∀(X:bP)(w:World),Sat (U:=Un) [(.ob 1 r E),(.ob 0 rm m)] X w->aH (U:=Un) [(.ob 1 r E),(.ob 0 rm m)] fr0 [(.l 0 1,.p (.obj 1 0 0))]->Calls Tryz.prog 47 #[(.pointer (pvA (r 0)))] w (cS (U:=Un) [(.ob 1 r E),(.ob 0 rm m)] [] X w Q);intro r E rm m Q e X w f d;exact Dx r E rm m Q (show Q ⟨.pointer (pvA (r 1)),some (.p (.obj 1 0 0)),[],[],[]⟩from(by rw[Li d];exact e)) X w f d
def mm:Ctr Un:=⟨[.one (.obj 0 0)],[],[.ob 1 []],[],λr E K=>K ⟨J E.aR,none,[],[],[]⟩⟩
theorem Ge:LV Un Tryz.prog 146 mm:=dJ Tryz.func146 aj [] trivial [] .leaf [] (F:=∀r (E:Pd) Q,mm.body r E Q->Pd.Ok E->Q ⟨J (Pd.aR E),none,[],[],[]⟩) λr E Q h=>λf1=>fm h (by omega)
def BX:Ctr Un:=⟨[.one (.obj 0 0)],[],[.ob 1 [(1,1,0)],.ob 0 []],[],λr E rm m K=>E.n=m.S/\K ⟨J ((E.on m).S:Int),none,[],[],[]⟩⟩
theorem IE:LV Un Tryz.prog 73 BX:=by
 show ∀(r:Nat->Nat)(E:Pd)(rm:Nat->Nat)(m:Mem),∀Q:Ou Un->Prop,(E.n=m.S/\Q ⟨J ((E.on m).S:Int),none,[],[],[]⟩)->∀(X:bP)(w:World),Sat (U:=Un) [(.ob 1 r E),(.ob 0 rm m)] X w->aH (U:=Un) [(.ob 1 r E),(.ob 0 rm m)] fr0 [(.l 0 1,.p (.obj 1 0 0))]->Calls Tryz.prog 73 #[(.pointer (pvA (r 0)))] w (cS (U:=Un) [(.ob 1 r E),(.ob 0 rm m)] [] X w Q);intro r E rm m Q d X w f h;obtain⟨i,d⟩:=d;obtain⟨a,L,k,l,j,o,p⟩:=Lj f h i;refine(yi j).mono ?_;rintro e w' ⟨u,rfl,rfl,rfl⟩;exact cS.pu f (Ch.refl _ _) d trivial
def BZ:Ctr Un:=⟨[.one (.obj 0 0),.one (.int .i64)],[],[.ob 1 [(1,1,0)],.ob 0 []],[],λp r E rm m K=>E.n=m.S/\K ⟨(.tuple #[(.agg #[J ((E.on m).entry p).typ,J ((E.on m).entry p).owner,J ((E.on m).entry p).refs,J ((E.on m).entry p).state,vB (((E.on m).entry p).bw)]),J ((E.on m).lr p)]),kn2,[],[],[]⟩⟩
theorem IG:LV Un Tryz.prog 110 BZ:=by
 show ∀(p:Int)(r:Nat->Nat)(E:Pd)(rm:Nat->Nat)(m:Mem),∀Q:Ou Un->Prop,(E.n=m.S/\Q ⟨(.tuple #[(.agg #[J ((E.on m).entry p).typ,J ((E.on m).entry p).owner,J ((E.on m).entry p).refs,J ((E.on m).entry p).state,vB (((E.on m).entry p).bw)]),J ((E.on m).lr p)]),kn2,[],[],[]⟩)->∀(X:bP)(w:World),Sat (U:=Un) [(.ob 1 r E),(.ob 0 rm m)] X w->aH (U:=Un) [(.ob 1 r E),(.ob 0 rm m)] fr0 [(.l 0 1,.p (.obj 1 0 0))]->Calls Tryz.prog 110 #[(.pointer (pvA (r 0))),J p] w (cS (U:=Un) [(.ob 1 r E),(.ob 0 rm m)] [] X w Q);intro p r E rm m Q d X w f h;obtain⟨i,d⟩:=d;obtain⟨a,L,k,l,j,o,t⟩:=Lj f h i;refine(LO j p).mono ?_;rintro e w' ⟨u,rfl,rfl,q⟩;exact cS.pu f q d (KnO.tup _ (by simp))
def uP:Ctr Un:=⟨[.one (.obj 0 0),.one (.int .i64)],[],[.ob 1 [(1,1,0)],.ob 0 []],[],λs r E rm m K=>E.n=m.S/\∀(A:oA)(c:Nat),K ⟨(.slice A ((own (E.on m) s).length) c),(some (.p (.sl 2 0))),[],[(.lst 0 true 3 A c (own (E.on m) s))],[]⟩⟩
theorem IF:LV Un Tryz.prog 118 uP:=by
 show ∀(s:Int)(r:Nat->Nat)(E:Pd)(rm:Nat->Nat)(m:Mem),∀Q:Ou Un->Prop,(E.n=m.S/\∀(A:oA)(c:Nat),Q ⟨(.slice A ((own (E.on m) s).length) c),(some (.p (.sl 2 0))),[],[(.lst 0 true 3 A c (own (E.on m) s))],[]⟩)->∀(X:bP)(w:World),Sat (U:=Un) [(.ob 1 r E),(.ob 0 rm m)] X w->aH (U:=Un) [(.ob 1 r E),(.ob 0 rm m)] fr0 [(.l 0 1,.p (.obj 1 0 0))]->Calls Tryz.prog 118 #[(.pointer (pvA (r 0))),J s] w (cS (U:=Un) [(.ob 1 r E),(.ob 0 rm m)] [] X w Q);intro s r E rm m Q d X w f i;obtain⟨j,d⟩:=d;obtain⟨a,L,x,y,l,z,B⟩:=Lj f i j;refine(LN l s).mono ?_;rintro e w' ⟨u,rfl,C,A',F,G,rfl,h,o,q⟩;have p:=h.len;subst p;exact cS.more f q (Ll (U:=Un) (t:=0) h) (λk v=>o k v.1) (d _ _) rfl
def yH:Ctr Un:=⟨[.one (.sl 0)],[],[.lst 1 false 22],[],λA c l K=>((∀x∈l,0<=x.v/\x.v<4294967296))/\∀(d:Value),K ⟨(.tuple #[d,J (Dg.aF l)]),kn2,[],[],[]⟩⟩
theorem Ko:LV Un Tryz.prog 147 yH:=by
 show ∀(A:oA)(c:Nat)(l:List U32),∀Q:Ou Un->Prop,(((∀x∈l,0<=x.v/\x.v<4294967296))/\∀(h:Value),Q ⟨(.tuple #[h,J (Dg.aF l)]),kn2,[],[],[]⟩)->∀(X:bP)(w:World),Sat (U:=Un) [(.lst 1 false 22 A c l)] X w->aH (U:=Un) [(.lst 1 false 22 A c l)] fr0 []->Calls Tryz.prog 147 #[(.slice A l.length c)] w (cS (U:=Un) [(.lst 1 false 22 A c l)] [] X w Q);intro A c l Q d X w f j;obtain⟨hw,d⟩:=d;have i:Rd w (X 0) A l.length c l:=f.res 0 _ rfl;refine(Mm i hw).mono ?_;rintro e w' ⟨u,rfl,p,rfl,_,q⟩;exact cS.pu f q (d _) (KnO.tup _ (by simp))
end Go.Proofs.YtoghdgcmhbanbaaGreatDoor
end
section
set_option maxRecDepth 100000
set_option maxHeartbeats 1000000
namespace Go.Proofs.YtoghdgcmhbanbaaGreatDoor
open Go Go.RowKit V
open Go.IntKind (i64 u32 u64 wrap_i64 wrap_u32)
open Go.Proofs (Tryz.prog)
attribute [local irreducible] Vc2 VcD
attribute [local grind=] Pd.cO Pd.dj Pd.kZ Pd.k8 Pd.qn Pd.kY Pd.kX Pd.iP Pd.qe Pd.jn
attribute [local grind .] Pd.Ok.ent
attribute [local grind→] Pd.Ok.dD
def rX:Ctr Un:=⟨[.one (.obj 0 0)],[],[.ob 1 [(1,1,0)],.ob 0 []],[],λr E rm m K=>E.n=m.S/\∀(g:Nat)(A:oA)(c:Nat),K ⟨(.pointer (pvA g)),(some (.p (.loc 2 0))),[],[(.blk g [(.pointer (pvA (r 0))),(.slice A E.ax.length c)] 163),(.lst 4 true 137 A c E.ax)],[(.c 2 0,.p (.obj 0 0 0)),(.c 2 1,.p (.sl 3 0))]⟩⟩
theorem Ki:LV Un Tryz.prog 90 rX:=dJ Tryz.func90 aj [(73,BX),(110,BZ)] ⟨IE,IG,trivial⟩ [] (.r' (.r' (.two (.r' (.two (.node [(.c 2 1,4,137)] (some ⟨[(12,(.one (.int .i64)))],[],[4,5,6]++upN 12 20,[(2,(.blk [(.k (.obj 0 0 0)),(.k (.sl 3 0))])),(3,(.lst 4))]⟩) [] [] (.r' (.r' (.two (.two (.r' (.r' (.node [] none [] [(4,[2]),(5,[4])] .leaf .leaf))) .leaf) .leaf))) .leaf) .leaf)) .leaf))) [2,3] (F:=∀r (E:Pd) rm (m:Mem) Q,rX.body r E rm m Q->Pd.Ok E->Mem.Wf m->(some (.pointer (pvA (r 0))):Option Value)=some (.pointer (pvA (r 0)))/\∀(k:Nat),E.n=m.S/\∃I:Nat->Int->Option Addr->Nat->List Ent->Prop,(∃f,I f 0 none 0 ([]:List Ent))/\∀(f:Nat)(_gv1:Nat->Value)(d:Int)(i:oA)(j:Nat)(e:List Ent),I f d i j e->split (decide (d<(E.on m).S)) (E.n=m.S/\∀(u:Nat),∀(v:Nat),∀(l:List Ent),l=([Ent.mk (((E.on m).entry d).typ) (((E.on m).entry d).owner) (((E.on m).entry d).refs) (((E.on m).entry d).state) (((E.on m).entry d).bw)]:List Ent)->((e.length+l.length)*40<=140737488355328)/\∀(A:oA)(c:Nat),∀(o:List Ent),o=(e++l)->∃q,q<f/\I q (i64.wrap (d+1)) A c o) (Q ⟨(.pointer (pvA k)),(some (.p (.loc 2 0))),[],[(.blk k [(.pointer (pvA (r 0))),(.slice i e.length j)] 163),(.lst 4 true 137 i j e)],[(.c 2 0,.p (.obj 0 0 0)),(.c 2 1,.p (.sl 3 0))]⟩)) λr E rm m Q h=>by
 obtain⟨G,h⟩:=h;exact λf1 f2=>ak (by rfl) λH=>λk=>ak ‹_› λJ=>⟨λf d i j e=>(f=((E.n:Int) - d).toNat)/\(0<=d/\d<=(E.n:Int))/\(e=E.ax.take d.toNat),⟨_,rfl,(by omega),(by rfl)⟩,λf _ d i j e ⟨hm,hi,p⟩=>af (λy=>ak ‹_› λM=>λu=>λv=>λl t=>ak (by(have N:e.length<=E.n:=by rw[p,List.length_take,Pd.cO];omega);rw[t];simp;grind) λO=>λA c=>λo z=>⟨_,(by(have B:=aa (x:=d+1) (by grind));grind),rfl,(by(have B:=aa (x:=d+1) (by grind));grind),(by rw[z,t,p,aa (x:=d+1) (by grind),<-EL (E:=E) (by grind)];(have C:(E.on m).entry d=E.ent d.toNat:=by(grind[DB.entry]));rw[C])⟩) λy=>(by(have P:E.ax=e:=by rw[p,List.take_of_length_le];grind);exact bj (h k i j) rfl rfl (aB (congrArg (λl=>Res.blk (U:=Un) _ l _) (aB rfl (aB (by grind) rfl))) (aB (congrArg (Res.lst (U:=Un) 4 true 137 _ _) ‹_›) rfl)))⟩
def cE:Ctr Un:=⟨[.one (.ptr 0),.one (.int .i64),.one (.int .i64)],[],[.blk [.obj 1 0,.sl 3] 163,.ob 1 [(1,2,0)],.ob 0 [],.lst 4 false 137],[],λp t g r E rm m A c l K=>E.n=m.S/\l=E.ax/\(E.on m).has p=true/\K ⟨vB ((E.on m).is p t),none,[],[],[]⟩⟩
def M4(p t:Int)(g:Nat)(r:Nat->Nat)(E:Pd)(rm:Nat->Nat)(m:Mem)(A:oA)(c:Nat)(l:List Ent)(Q:Ou Un->Prop):Prop:=Pd.Ok E->Mem.Wf m->(0<=p/\p<(l.length:Int))/\Q ⟨vB ((l.getD p.toNat Ent.free).typ==t),none,[],[],[]⟩
theorem M5:Vc2 Un Tryz.prog (dU []) [] Tryz.f112 .leaf [] cE=(∀p t g r (E:Pd) rm (m:Mem) A c (l:List Ent),∀Q,(E.n=m.S/\l=E.ax/\(E.on m).has p=true/\Q ⟨vB ((E.on m).is p t),none,[],[],[]⟩)->M4 p t g r E rm m A c l Q):=by kernel_rfl
section
attribute [local grind=] DB.is
theorem iY:LV Un Tryz.prog 112 cE:=verify Tryz.func112 aj (tb:= []) trivial (by kernel_rfl) (M5.mpr λp t g r E rm m A c l Q h=>by
 obtain⟨e,d,f,h⟩:=h;subst d;exact λf1 f2=>ak (by grind) λi=>aW h (by grind))
end
def gB:Ctr Un:=⟨[.one (.ptr 0),.one (.int .i64)],[],[.blk [.obj 1 0,.sl 3] 163,.ob 1 [(1,2,0)],.ob 0 [],.lst 4 false 137],[],λp g r E rm m A c l K=>E.n=m.S/\l=E.ax/\(E.on m).has p=true/\K ⟨J ((E.on m).cl p),none,[],[],[]⟩⟩
def Ik(p:Int)(g:Nat)(r:Nat->Nat)(E:Pd)(rm:Nat->Nat)(m:Mem)(A:oA)(c:Nat)(l:List Ent)(Q:Ou Un->Prop):Prop:=Pd.Ok E->Mem.Wf m->(0<=p/\p<(l.length:Int))/\∃d:Bool->Prop,(split (decide ((l.getD p.toNat Ent.free).owner<0)) (d true) (split (decide ((l.getD p.toNat Ent.free).owner>=(l.length:Int))) (d true) (E.n=m.S/\l=E.ax/\(E.on m).has ((l.getD p.toNat Ent.free).owner)=true/\d (!((E.on m).is ((l.getD p.toNat Ent.free).owner) 1)))))/\∀(_gv:Nat->Value)(e:Bool),d e->split e (Q ⟨J (-1),none,[],[],[]⟩) (Q ⟨J (l.getD p.toNat Ent.free).owner,none,[],[],[]⟩)
theorem Il:Vc2 Un Tryz.prog (dU [(112,cE)]) [] Tryz.f116 (.r' (.r' (.two (.two (.node [] (some ⟨[(30,(.one .bool))],[],upN 14 17,[]⟩) [] [] .leaf .leaf) .leaf) .leaf))) [] gB=(∀p g r (E:Pd) rm (m:Mem) A c (l:List Ent),∀Q,(E.n=m.S/\l=E.ax/\(E.on m).has p=true/\Q ⟨J ((E.on m).cl p),none,[],[],[]⟩)->Ik p g r E rm m A c l Q):=by kernel_rfl
section
attribute [local grind=] DB.cl DB.is
theorem uk:LV Un Tryz.prog 116 gB:=verify Tryz.func116 aj (tb:= [(112,cE)]) ⟨iY,trivial⟩ (by kernel_rfl) (Il.mpr λp g r E rm m A c l Q h=>by
 obtain⟨j,d,k,h⟩:=h;subst d;exact λf1 f2=>ak (by grind) λo=>bF ((decide (((E.ax.getD p.toNat Ent.free).owner:Int)<0)) || ((decide (((E.ax.getD p.toNat Ent.free).owner:Int)>=((E.ax.length:Nat):Int))) || (!((E.on m).is ((E.ax.getD p.toNat Ent.free).owner) 1)))) (ab (λe=>(by grind)) λe=>ab (λf=>(by grind)) λf=>ak ‹_› λq=>ak (by rfl) λt=>ak (by grind) λu=>(by grind))<| bm (λi=>fm h (by grind)) λi=>fm h (by grind))
end
def eT:Ctr Un:=⟨[.one (.ptr 0),.one (.int .i64)],[],[.blk [.obj 1 0,.sl 3] 163,.ob 1 [(1,2,0)],.ob 0 [],.lst 4 false 137],[],λp g r E rm m A c l K=>E.n=m.S/\l=E.ax/\(E.on m).has p=true/\K ⟨vB (if(E.on m).is p 1 then((E.on m).at_ p).state !=3 else(E.on m).alive p),none,[],[],[]⟩⟩
def Iv(p:Int)(g:Nat)(r:Nat->Nat)(E:Pd)(rm:Nat->Nat)(m:Mem)(A:oA)(c:Nat)(l:List Ent)(Q:Ou Un->Prop):Prop:=Pd.Ok E->Mem.Wf m->E.n=m.S/\l=E.ax/\(E.on m).has p=true/\split (!((E.on m).is p 1)) (E.n=m.S/\l=E.ax/\(E.on m).has p=true/\∃J:Bool->Prop,(split (decide (((E.on m).cl p)>=0)) ((0<=((E.on m).cl p)/\((E.on m).cl p)<(l.length:Int))/\J ((l.getD (Int.toNat ((E.on m).cl p)) Ent.free).state !=3)) (J false))/\∀(_gv:Nat->Value)(d:Bool),J d->Q ⟨vB d,none,[],[],[]⟩) (∃J:Bool->Prop,(split (decide (p>=0)) ((0<=p/\p<(l.length:Int))/\J ((l.getD p.toNat Ent.free).state !=3)) (J false))/\∀(_gv:Nat->Value)(d:Bool),J d->Q ⟨vB d,none,[],[],[]⟩)
theorem Iw:Vc2 Un Tryz.prog (dU [(112,cE),(116,gB)]) [] Tryz.f149 (.r' (.r' (.r' (.two (.node [] (some ⟨[(4,(.one .bool))],[],[4]++upN 14 13,[]⟩) [] [] .leaf .leaf) .leaf)))) [] eT=(∀p g r (E:Pd) rm (m:Mem) A c (l:List Ent),∀Q,(E.n=m.S/\l=E.ax/\(E.on m).has p=true/\Q ⟨vB (if(E.on m).is p 1 then((E.on m).at_ p).state !=3 else(E.on m).alive p),none,[],[],[]⟩)->Iv p g r E rm m A c l Q):=by kernel_rfl
section
attribute [local grind=] DB.cl DB.is DB.alive
theorem oH:LV Un Tryz.prog 149 eT:=verify Tryz.func149 aj (tb:= [(112,cE),(116,gB)]) ⟨iY,uk,trivial⟩ (by kernel_rfl) (Iw.mpr λp g r E rm m A c l Q h=>by
 obtain⟨j,d,k,h⟩:=h;subst d;exact λf1 f2=>ak ‹_› λo=>ak (by rfl) λq=>ak ‹_› λt=>bo (λe=>ak ‹_› λu=>ak (by rfl) λv=>ak ‹_› λx=>bF ((decide ((((E.on m).cl p):Int)>=0)) && (((E.ax.getD (Int.toNat ((E.on m).cl p)) Ent.free).state:Int) !=3)) (ab (λf=>ak (by grind) λy=>(by grind)) λf=>(by grind))<| aW h (by grind)) λe=>bF ((decide ((p:Int)>=0)) && (((E.ax.getD p.toNat Ent.free).state:Int) !=3)) (ab (λi=>ak (by grind) λz=>(by grind)) λi=>(by grind))<| aW h (by grind))
end
def cZ:Ctr Un:=⟨[.one (.ptr 0),.one (.int .i64),.one (.int .i64)],[],[.blk [.obj 1 0,.sl 3] 163,.ob 1 [(1,2,0)],.ob 0 [],.lst 4 false 137],[],λp o g r E rm m A c l K=>E.n=m.S/\l=E.ax/\K ⟨O ((E.on m).word p o),none,[],[],[]⟩⟩
def Ke(p o:Int)(g:Nat)(r:Nat->Nat)(E:Pd)(rm:Nat->Nat)(m:Mem)(A:oA)(c:Nat)(l:List Ent)(Q:Ou Un->Prop):Prop:=Pd.Ok E->Mem.Wf m->Q ⟨O (m.gp true p o),none,[],[],[]⟩
theorem Kf:Vc2 Un Tryz.prog (dU [(47,jM),(83,yW)]) [] Tryz.f143 .leaf [] cZ=(∀p o g r (E:Pd) rm (m:Mem) A c (l:List Ent),∀Q,(E.n=m.S/\l=E.ax/\Q ⟨O ((E.on m).word p o),none,[],[],[]⟩)->Ke p o g r E rm m A c l Q):=by kernel_rfl
section
attribute [local grind=] DB.word
theorem kh:LV Un Tryz.prog 143 cZ:=verify Tryz.func143 aj (tb:= [(47,jM),(83,yW)]) ⟨xl,Kr,trivial⟩ (by kernel_rfl) (Kf.mpr λp o g r E rm m A c l Q h=>by
 obtain⟨e,d,h⟩:=h;subst d;exact λf1 f2=>fm h (by grind))
end
def fc:Ctr Un:=⟨[.one (.ptr 0),.one (.int .i64),.one (.int .i64),.one (.int .i64)],[],[.blk [.obj 1 0,.sl 3] 163,.ob 1 [(1,2,0)],.ob 0 [],.lst 4 false 137],[],λp lo hi g r E rm m A c l K=>E.n=m.S/\l=E.ax/\(0<=(lo:Int)/\(hi:Int)<=1024)/\K ⟨vB ((E.on m).zero p lo hi),none,[],[],[]⟩⟩
def Kc(p lo hi:Int)(g:Nat)(r:Nat->Nat)(E:Pd)(rm:Nat->Nat)(m:Mem)(A:oA)(c:Nat)(l:List Ent)(Q:Ou Un->Prop):Prop:=Pd.Ok E->Mem.Wf m->∀off:Int,off=lo->∃I:Nat->Int->Prop,(∃d,I d off)/\∀(d:Nat)(_gv:Nat->Value)(e:Int),I d e->split (decide (e<hi)) (E.n=m.S/\l=E.ax/\split (((E.on m).word p e) !=0) (Q ⟨vB false,none,[],[],[]⟩) (∀f:Int,f=(i64.wrap (e+1))->∃h,h<d/\I h f)) (Q ⟨vB true,none,[],[],[]⟩)
theorem Kd:Vc2 Un Tryz.prog (dU [(143,cZ)]) [9] Tryz.f114 (.r' (.two (.r' (.two (.node [] (some ⟨[(9,(.one (.int .i64)))],[],[8,9]++upN 11 10,[]⟩) [] [] .leaf .leaf) .leaf)) .leaf)) [] fc=(∀p lo hi g r (E:Pd) rm (m:Mem) A c (l:List Ent),∀Q,(E.n=m.S/\l=E.ax/\(0<=(lo:Int)/\(hi:Int)<=1024)/\Q ⟨vB ((E.on m).zero p lo hi),none,[],[],[]⟩)->Kc p lo hi g r E rm m A c l Q):=by kernel_rfl
section
attribute [local grind=] DB.zero
theorem oD:LV Un Tryz.prog 114 fc:=verify Tryz.func114 aj (tb:= [(143,cZ)]) ⟨kh,trivial⟩ (by kernel_rfl) (Kd.mpr λp lo hi g r E rm m A c l Q h=>by
 obtain⟨q,i,t,h⟩:=h;subst i;exact λf1 f2=>allEq<| ⟨λe d=>(e=(hi - d).toNat)/\(lo<=d)/\(fR (λx=>(E.on m).word p x==0) lo d=true),⟨_,rfl,(by omega),(ez (Int.le_refl _))⟩,λe _ d ⟨hm,u,f⟩=>af (λj=>ak ‹_› λv=>ak (by rfl) λy=>aG (λk=>aW h (by grind[cP])) λk=>allEq<| ⟨_,(by(have o:=aa (x:=d+1) (by omega));omega),rfl,(by have o:=aa (x:=d+1) (by omega);omega),(bS f (by grind) (aa (by omega)))⟩) λj=>aW h (dm.2 λx a b=>dm.1 f x a (by omega))⟩)
end
def l5:Ctr Un:=⟨[.one (.ptr 0),.one (.int .i64),.one (.int .i64),.one (.int .i64)],[],[.blk [.obj 1 0,.sl 3] 163,.ob 1 [(1,2,0)],.ob 0 [],.lst 4 false 137],[],λp lo n g r E rm m A c l K=>E.n=m.S/\l=E.ax/\(0<=(lo:Int)/\(lo:Int)<1024/\0<=(n:Int)/\(n:Int)<1024)/\∀(d:oA)(e:Nat),K ⟨(.slice d (((E.on m).some_ p lo n.toNat).length) e),(some (.p (.sl 4 0))),[],[(.lst 1 true 22 d e ((E.on m).some_ p lo n.toNat))],[]⟩⟩
def Kg(p lo n:Int)(g:Nat)(r:Nat->Nat)(E:Pd)(rm:Nat->Nat)(m:Mem)(A:oA)(c:Nat)(l:List Ent)(Q:Ou Un->Prop):Prop:=Pd.Ok E->Mem.Wf m->(n=n/\0<=n/\4*n<=281474976710656)/\∀(o:Nat),∀(j:List U32),j=(List.replicate n.toNat (uM 0:U32))->∃I:Nat->Int->Option Addr->Nat->List U32->Prop,(∃f,I f 0 (pvA o) n.toNat j)/\∀(f:Nat)(_gv1:Nat->Value)(d:Int)(h:oA)(i:Nat)(e:List U32),I f d h i e->split (decide (d<((List.replicate n.toNat (uM 0:U32)).length:Int))) (E.n=m.S/\l=E.ax/\(0<=d/\d<(e.length:Int))/\∀(l2:List U32),l2=(e.set d.toNat (uM ((E.on m).word p (i64.wrap (lo+d)))))->∃k,k<f/\I k (i64.wrap (d+1)) h i l2) (Q ⟨(.slice h e.length i),(some (.p (.sl 4 0))),[],[(.lst 1 true 22 h i e)],[]⟩)
theorem Kh:Vc2 Un Tryz.prog (dU [(143,cZ)]) [] Tryz.f148 (.r' (.r' (.two (.r' (.two (.node [] (some ⟨[(15,(.one (.int .i64)))],[(9,(.p (.sl 4 0)))],[10]++upN 15 13,[(4,(.lst 1))]⟩) [] [] .leaf .leaf) .leaf)) .leaf))) [4] l5=(∀p lo n g r (E:Pd) rm (m:Mem) A c (l:List Ent),∀Q,(E.n=m.S/\l=E.ax/\(0<=(lo:Int)/\(lo:Int)<1024/\0<=(n:Int)/\(n:Int)<1024)/\∀(d:oA)(e:Nat),Q ⟨(.slice d (((E.on m).some_ p lo n.toNat).length) e),(some (.p (.sl 4 0))),[],[(.lst 1 true 22 d e ((E.on m).some_ p lo n.toNat))],[]⟩)->Kg p lo n g r E rm m A c l Q):=by kernel_rfl
theorem EA:LV Un Tryz.prog 148 l5:=verify Tryz.func148 aj (tb:= [(143,cZ)]) ⟨kh,trivial⟩ (by kernel_rfl) (Kh.mpr λp lo n g r E rm m A c l Q h=>by
 obtain⟨z,q,B,h⟩:=h;subst q;exact λf1 f2=>ak (by omega) λC=>λF=>λG t=>⟨λi d j k f=>(i=(n - d).toNat)/\(0<=d/\d<=n)/\(mD (E.on m) p lo n.toNat d f),⟨_,rfl,(by omega),(by rw[t];exact mD.init _ _ _ _)⟩,λi _ d j k f ⟨hm,u,o⟩=>af (λe=>ak ‹_› λH=>ak (by rfl) λI=>ak (by(grind[mD.len])) λJ=>λl2 v=>⟨_,(by(have y:=aa (x:=d+1) (by grind));simp at e;omega),rfl,(by(have y:=aa (x:=d+1) (by grind));simp at e;omega),(by rw[v];exact o.next u.1 (by simp at e;omega) (by omega))⟩) λe=>(by(have M:(E.on m).some_ p lo n.toNat=f:=o.done (by simp at e;omega));exact bj (h j k) (by grind) rfl (aB (congrArg (Res.lst (U:=Un) 1 true 22 _ _) ‹_›) rfl))⟩)
def qM:Ctr Un:=⟨[.one (.ptr 0),.one (.int .i64),.one (.int .i64)],[],[.blk [.obj 1 0,.sl 3] 163,.ob 1 [(1,2,0)],.ob 0 [],.lst 4 false 137],[],λt o g r E rm m A c l K=>E.n=m.S/\l=E.ax/\∀(d:oA)(e:Nat),K ⟨(.slice d (((E.on m).pgs t o (E.on m).S).length) e),(some (.p (.sl 4 0))),[],[(.lst 0 true 3 d e ((E.on m).pgs t o (E.on m).S))],[]⟩⟩
def M1(t o:Int)(g:Nat)(r:Nat->Nat)(E:Pd)(rm:Nat->Nat)(m:Mem)(A:oA)(c:Nat)(l:List Ent)(Q:Ou Un->Prop):Prop:=Pd.Ok E->Mem.Wf m->∃I:Nat->Int->Option Addr->Nat->List I64->Prop,(∃f,I f 0 none 0 ([]:List I64))/\∀(f:Nat)(_gv:Nat->Value)(d:Int)(i:oA)(j:Nat)(e:List I64),I f d i j e->split (decide (d<(l.length:Int))) ((0<=d/\d<(l.length:Int))/\∀(v:Nat),∃J:Bool->Prop,(split ((l.getD d.toNat Ent.free).typ==t) (J ((l.getD d.toNat Ent.free).owner==o)) (J false))/\∀(_gv2:Nat->Value)(p:Bool),J p->split p (∀(x:Nat),∀(k:List I64),k=([I64.mk d]:List I64)->((e.length+k.length)*8<=140737488355328)/\∀(q:oA)(u:Nat),∀(l2:List I64),l2=(e++k)->∃h,h<f/\I h (i64.wrap (d+1)) q u l2) (∃h,h<f/\I h (i64.wrap (d+1)) i j e)) (Q ⟨(.slice i e.length j),(some (.p (.sl 4 0))),[],[(.lst 0 true 3 i j e)],[]⟩)
theorem M3:Vc2 Un Tryz.prog (dU []) [7] Tryz.f150 (.r' (.r' (.two (.r' (.two (.node [(.s 7,0,3)] (some ⟨[(15,(.one (.int .i64)))],[(7,(.p (.sl 4 0)))],[7,8,9]++upN 15 20,[(4,(.lst 0))]⟩) [] [] (.r' (.r' (.two (.two (.r' (.two (.node [] (some ⟨[(29,(.one .bool))],[],upN 20 10,[]⟩) [] [] .leaf .leaf) .leaf)) .leaf) .leaf))) .leaf) .leaf)) .leaf))) [4] qM=(∀t o g r (E:Pd) rm (m:Mem) A c (l:List Ent),∀Q,(E.n=m.S/\l=E.ax/\∀(d:oA)(e:Nat),Q ⟨(.slice d (((E.on m).pgs t o (E.on m).S).length) e),(some (.p (.sl 4 0))),[],[(.lst 0 true 3 d e ((E.on m).pgs t o (E.on m).S))],[]⟩)->M1 t o g r E rm m A c l Q):=by kernel_rfl
theorem Im:LV Un Tryz.prog 150 qM:=verify Tryz.func150 aj (tb:= []) trivial (by kernel_rfl) (M3.mpr λt o g r E rm m A c l Q h=>by
 obtain⟨B,u,h⟩:=h;subst u;exact λf1 f2=>⟨λj d k p e=>(j=((E.n:Int) - d).toNat)/\(0<=d/\d<=(E.n:Int))/\(e=(E.on m).pgs t o d.toNat),⟨_,rfl,(by omega),(by rfl)⟩,λj _ d k p e ⟨hm,C,f⟩=>af (λq=>ak (by omega) λF=>λG=>bF ((((E.ax.getD d.toNat Ent.free).typ:Int)==t) && (((E.ax.getD d.toNat Ent.free).owner:Int)==o)) (ab (λv=>(by grind)) λv=>(by grind))<| cJ (λy=>λH=>λI z=>ak (by(have J:=DB.jW (E.on m) t o d.toNat);rw[z,f];simp;grind) λM=>λN q=>λl2 O=>⟨_,(by(have i:=aa (x:=d+1) (by grind));grind),rfl,(by(have i:=aa (x:=d+1) (by grind));grind),(by rw[DB.zL _ _ _ (by grind)];(rw[if_pos (by grind)];grind))⟩) λy=>⟨_,(by(have i:=aa (x:=d+1) (by grind));grind),rfl,(by(have i:=aa (x:=d+1) (by grind));grind),(by rw[DB.zL _ _ _ (by grind)];(rw[if_neg (by grind)];exact f))⟩) λq=>(by(have P:(E.on m).pgs t o (E.on m).S=e:=by rw[f,show d.toNat=(E.on m).S by grind]);exact bj (h k p) (by grind) rfl (aB (congrArg (Res.lst (U:=Un) 0 true 3 _ _) ‹_›) rfl))⟩)
def mf:Ctr Un:=⟨[.one (.ptr 0),.one (.int .i64)],[],[.blk [.obj 1 0,.sl 3] 163,.ob 1 [(1,2,0)],.ob 0 [],.lst 4 false 137],[],λp g r E rm m A c l K=>E.n=m.S/\l=E.ax/\(E.on m).has p=true/\K ⟨vB ((E.on m).clause 5 p),none,[],[],[]⟩⟩
def FX(p:Int)(g:Nat)(r:Nat->Nat)(E:Pd)(rm:Nat->Nat)(m:Mem)(A:oA)(c:Nat)(l:List Ent)(Q:Ou Un->Prop):Prop:=Pd.Ok E->Mem.Wf m->E.n=m.S/\l=E.ax/\(E.on m).has p=true/\split (!((E.on m).is p 1)) (Q ⟨vB true,none,[],[],[]⟩) (E.n=m.S/\l=E.ax/\∃J:Bool->Prop,(split (decide ((u64.wrap ((E.on m).word p 1))>=(u64.wrap E.aR))) (J true) (E.n=m.S/\l=E.ax/\J (decide (((E.on m).word p 2)>4096))))/\∀(_gv:Nat->Value)(h:Bool),J h->split h (Q ⟨vB false,none,[],[],[]⟩) (∃I:Nat->Int->Prop,(∃e,I e 0)/\∀(e:Nat)(_gv1:Nat->Value)(d:Int),I e d->split (decide (d<p)) (∃f:Bool->Prop,(E.n=m.S/\l=E.ax/\(E.on m).has d=true/\split ((E.on m).is d 1) (E.n=m.S/\l=E.ax/\f (((E.on m).word d 1)==((E.on m).word p 1))) (f false))/\∀(_gv2:Nat->Value)(i:Bool),f i->split i (Q ⟨vB false,none,[],[],[]⟩) (∃j,j<e/\I j (i64.wrap (d+1)))) (Q ⟨vB true,none,[],[],[]⟩)))
theorem FY:Vc2 Un Tryz.prog (dU [(112,cE),(143,cZ),(146,mm)]) [] Tryz.f119 (.r' (.r' (.r' (.two (.two (.node [] (some ⟨[(28,(.one .bool))],[],upN 14 15,[]⟩) [] [] .leaf .leaf) .leaf) (.two (.r' (.two (.node [] (some ⟨[(30,(.one (.int .i64)))],[],[4,6]++upN 30 14,[]⟩) [] [] (.r' (.r' (.two (.two (.r' (.two (.node [] (some ⟨[(42,(.one .bool))],[],upN 33 10,[]⟩) [] [] .leaf .leaf) .leaf)) .leaf) .leaf))) .leaf) .leaf)) .leaf))))) [] mf=(∀p g r (E:Pd) rm (m:Mem) A c (l:List Ent),∀Q,(E.n=m.S/\l=E.ax/\(E.on m).has p=true/\Q ⟨vB ((E.on m).clause 5 p),none,[],[],[]⟩)->FX p g r E rm m A c l Q):=by kernel_rfl
section
attribute [local grind=] DB.tS DB.fx DB.is Pd.vZ
theorem FW:LV Un Tryz.prog 119 mf:=verify Tryz.func119 aj (tb:= [(112,cE),(143,cZ),(146,mm)]) ⟨iY,kh,Ge,trivial⟩ (by kernel_rfl) (FY.mpr λp g r E rm m A c l Q h=>by
 obtain⟨C,k,F,h⟩:=h;subst k;exact λf1 f2=>(by(have hw:=λa b=>cB (E:=E) f2 a b);(have G:=λa b=>aa (x:=(E.on m).word a b) (by have:=hw a b;omega));(have H:=λa b=>dz (x:=(E.on m).word a b) (by have:=hw a b;omega));(have I:=dz (x:=E.aR) (by have:=f1.aR;omega));exact ak ‹_› λJ=>ak (by rfl) λM=>ak ‹_› λN=>bo (λo=>aW h (by grind)) λo=>ak ‹_› λO=>ak (by rfl) λP=>bF ((decide ((u64.wrap ((E.on m).word p 1):Int)>=(u64.wrap E.aR))) || (decide ((((E.on m).word p 2):Int)>4096))) (ab (λq=>(by grind)) λq=>ak ‹_› λR=>ak (by rfl) λS=>(by grind))<| bm (λt=>aW h (by grind)) λt=>⟨λe d=>(e=(p - d).toNat)/\(0<=d/\d<=p)/\(fR (λz=>!(((E.on m).at_ z).typ==1 && (E.on m).word z 1==(E.on m).word p 1)) 0 d=true),⟨_,rfl,(by grind),(ez (Int.le_refl _))⟩,λe _ d ⟨hm,u,f⟩=>af (λi=>bF (((E.on m).is d 1) && ((((E.on m).word d 1):Int)==((E.on m).word p 1))) (ak ‹_› λT=>ak (by rfl) λV=>ak (by grind) λW=>ab (λv=>ak ‹_› λY=>ak (by rfl) λan=>(by grind)) λv=>(by grind))<| cJ (λj=>aW h (by rw[DB.tS,DB.fx,cP u.1 i (by grind)];grind)) λj=>⟨_,(by(have y:=aa (x:=d+1) (by grind));grind),rfl,(by(have y:=aa (x:=d+1) (by grind));grind),(by exact bS f (by have B:(E.on m).has d=true:=(by grind);rw[DB.is,B]at j;grind) (aa (by grind)))⟩) λi=>aW h (by(have hq:d=p:=by omega);subst hq;rw[DB.tS,DB.fx,f];grind)⟩))
end
def oE:Ctr Un:=⟨[.one (.ptr 0),.one (.int .i64)],[],[.blk [.obj 1 0,.sl 3] 163,.ob 1 [(1,2,0)],.ob 0 [],.lst 4 false 137],[],λp g r E rm m A c l K=>E.n=m.S/\l=E.ax/\(E.on m).has p=true/\K ⟨vB ((E.on m).clause 6 p),none,[],[],[]⟩⟩
def Ii(p:Int)(g:Nat)(r:Nat->Nat)(E:Pd)(rm:Nat->Nat)(m:Mem)(A:oA)(c:Nat)(l:List Ent)(Q:Ou Un->Prop):Prop:=Pd.Ok E->Mem.Wf m->E.n=m.S/\l=E.ax/\(E.on m).has p=true/\split (!((E.on m).is p 1)) (Q ⟨vB true,none,[],[],[]⟩) (E.n=m.S/\l=E.ax/\(0<=(37:Int)/\(1024:Int)<=1024)/\split (!((E.on m).zero p 37 1024)) (Q ⟨vB false,none,[],[],[]⟩) (E.n=m.S/\l=E.ax/\(0<=(11:Int)/\(11:Int)<1024/\0<=(26:Int)/\(26:Int)<1024)/\∀(j:oA)(k:Nat),∀(d:List U32),d=(E.on m).some_ p 11 (Int.toNat 26)->((∀x∈d,0<=x.v/\x.v<4294967296))/\∀(o:Value),∃J:Bool->Prop,(split ((Dg.aF d)==0) (E.n=m.S/\l=E.ax/\(0<=(3:Int)/\(11:Int)<=1024)/\∀init:Bool,init=((E.on m).zero p 3 11)->J init) (∀init:Bool,init=false->J init))/\∀(_gv:Nat->Value)(init:Bool),J init->E.n=m.S/\l=E.ax/\(0<=(11:Int)/\(37:Int)<=1024)/\(0<=p/\p<(l.length:Int))/\∀f:Bool,f=(((l.getD p.toNat Ent.free).state:Int)==1)->split f (Q ⟨vB init,none,[],[],[]⟩) (∀h:Bool,h=(((l.getD p.toNat Ent.free).state:Int)==2)->split h (Q ⟨vB ((E.on m).zero p 11 37),none,[],[],[]⟩) (∃e:Bool->Prop,(split init (e true) (e ((E.on m).zero p 11 37)))/\∀(_gv1:Nat->Value)(i:Bool),e i->Q ⟨vB i,none,[],[],[]⟩))))
theorem Ij:Vc2 Un Tryz.prog (dU [(112,cE),(114,fc),(148,l5),(147,yH)]) [7,42,45] Tryz.f120 (.r' (.r' (.r' (.r' (.two (.node [] (some ⟨[(7,(.one .bool))],[],[7]++upN 24 7,[]⟩) [] [] .leaf .leaf) (.r' (.r' (.two (.node [] (some ⟨[(4,(.one .bool))],[],[4,48,49,50,51],[]⟩) [] [] .leaf .leaf) .leaf)))))))) [] oE=(∀p g r (E:Pd) rm (m:Mem) A c (l:List Ent),∀Q,(E.n=m.S/\l=E.ax/\(E.on m).has p=true/\Q ⟨vB ((E.on m).clause 6 p),none,[],[],[]⟩)->Ii p g r E rm m A c l Q):=by kernel_rfl
section
attribute [local grind=] DB.HP DB.mN DB.DD DB.is
theorem Ih:LV Un Tryz.prog 120 oE:=verify Tryz.func120 aj (tb:= [(112,cE),(114,fc),(148,l5),(147,yH)]) ⟨iY,oD,EA,Ko,trivial⟩ (by kernel_rfl) (Ij.mpr λp g r E rm m A c l Q h=>by
 obtain⟨u,f,v,h⟩:=h;subst f;exact λf1 f2=>(by(have hw:=λa b=>cB (E:=E) f2 a b);(have y:=λa b=>aa (x:=(E.on m).word a b) (by have:=hw a b;omega));(have z:=λa b=>dz (x:=(E.on m).word a b) (by have:=hw a b;omega));exact ak ‹_› λB=>ak (by rfl) λC=>ak ‹_› λF=>bo (λd=>aW h (by grind)) λd=>ak ‹_› λG=>ak (by rfl) λH=>ak (by omega) λI=>bo (λi=>aW h (by grind)) λi=>ak ‹_› λJ=>ak (by rfl) λM=>ak (by omega) λN=>λO d=>λe j=>ak (by rw[j];exact nR f2 _ _ _) λP=>λR=>bF ((((Dg.aF e):Int)==0) && ((E.on m).zero p 3 11)) (ab (λk=>ak ‹_› λS=>ak (by rfl) λT=>ak (by omega) λV=>allEq<| (by grind)) λk=>allEq<| (by grind))<| ak ‹_› λW=>ak (by rfl) λY=>ak (by omega) λan=>ak (by grind) λaz=>allEq<| aE (λo=>aW h (by grind)) λo=>allEq<| aE (λq=>aW h (by grind)) λq=>bF (((((Dg.aF e):Int)==0) && ((E.on m).zero p 3 11)) || ((E.on m).zero p 11 37)) (ab (λt=>(by grind)) λt=>(by grind))<| aW h (by grind)))
end
def oG:Ctr Un:=⟨[.one (.ptr 0),.one (.int .i64)],[],[.blk [.obj 1 0,.sl 3] 163,.ob 1 [(1,2,0)],.ob 0 [],.lst 4 false 137],[],λp g r E rm m A c l K=>E.n=m.S/\l=E.ax/\(E.on m).has p=true/\K ⟨vB ((E.on m).clause 7 p),none,[],[],[]⟩⟩
def It(p:Int)(g:Nat)(r:Nat->Nat)(E:Pd)(rm:Nat->Nat)(m:Mem)(A:oA)(c:Nat)(l:List Ent)(Q:Ou Un->Prop):Prop:=Pd.Ok E->Mem.Wf m->∃J:Bool->Prop,(E.n=m.S/\l=E.ax/\(E.on m).has p=true/\split (!((E.on m).is p 1)) (J true) (E.n=m.S/\l=E.ax/\(E.on m).has p=true/\J (!(if(E.on m).is p 1 then((E.on m).at_ p).state !=3 else(E.on m).alive p))))/\∀(_gv:Nat->Value)(f:Bool),J f->split f (Q ⟨vB true,none,[],[],[]⟩) (E.n=m.S/\l=E.ax/\∀(i:oA)(j:Nat),∀(d:List I64),d=(E.on m).pgs 3 p (E.on m).S->∃e:Bool->Prop,(split (((((E.on m).pgs 3 p (E.on m).S).length):Int)==1) ((0<=(0:Int)/\(0:Int)<(d.length:Int))/\E.n=m.S/\l=E.ax/\e (((E.on m).word p 0)==(u32.wrap ((d.getD (Int.toNat 0) (I64.mk 0)).v)))) (e false))/\∀(_gv1:Nat->Value)(h:Bool),e h->Q ⟨vB h,none,[],[],[]⟩)
theorem Iu:Vc2 Un Tryz.prog (dU [(112,cE),(149,eT),(150,qM),(143,cZ)]) [] Tryz.f121 (.r' (.two (.two (.node [] (some ⟨[(15,(.one .bool))],[],upN 6 10,[]⟩) [] [] .leaf .leaf) .leaf) (.r' (.two (.node [] (some ⟨[(4,(.one .bool))],[],[4]++upN 19 13,[]⟩) [] [(9,[4])] .leaf .leaf) .leaf)))) [] oG=(∀p g r (E:Pd) rm (m:Mem) A c (l:List Ent),∀Q,(E.n=m.S/\l=E.ax/\(E.on m).has p=true/\Q ⟨vB ((E.on m).clause 7 p),none,[],[],[]⟩)->It p g r E rm m A c l Q):=by kernel_rfl
section
attribute [local grind=] DB.HO DB.mO DB.is
theorem Is:LV Un Tryz.prog 121 oG:=verify Tryz.func121 aj (tb:= [(112,cE),(149,eT),(150,qM),(143,cZ)]) ⟨iY,oH,Im,kh,trivial⟩ (by kernel_rfl) (Iu.mpr λp g r E rm m A c l Q h=>by
 obtain⟨o,e,q,h⟩:=h;subst e;exact λf1 f2=>bF ((!((E.on m).is p 1)) || (!(if(E.on m).is p 1 then((E.on m).at_ p).state !=3 else(E.on m).alive p))) (ak ‹_› λt=>ak (by rfl) λu=>ak ‹_› λv=>ab (λd=>(by grind)) λd=>ak ‹_› λx=>ak (by rfl) λy=>ak ‹_› λz=>(by grind))<| bm (λf=>aW h (by grind)) λf=>ak ‹_› λB=>ak (by rfl) λC=>λF d=>λi j=>bF ((((((((E.on m).pgs 3 p (E.on m).S).length):Nat):Int):Int)==1) && ((((E.on m).word p 0):Int)==(u32.wrap ((i.getD (Int.toNat 0) (I64.mk 0)).v)))) (ab (λk=>ak (by grind) λG=>ak ‹_› λH=>ak (by rfl) λI=>(by grind)) λk=>(by grind))<| aW h (by rw[j,DB.first_eq (by grind)];grind))
end
def lZ:Ctr Un:=⟨[.one (.ptr 0),.one (.int .i64)],[],[.blk [.obj 1 0,.sl 3] 163,.ob 1 [(1,2,0)],.ob 0 [],.lst 4 false 137],[],λp g r E rm m A c l K=>E.n=m.S/\l=E.ax/\(E.on m).has p=true/\K ⟨vB ((E.on m).clause 11 p),none,[],[],[]⟩⟩
def FJ(p:Int)(g:Nat)(r:Nat->Nat)(E:Pd)(rm:Nat->Nat)(m:Mem)(A:oA)(c:Nat)(l:List Ent)(Q:Ou Un->Prop):Prop:=Pd.Ok E->Mem.Wf m->E.n=m.S/\l=E.ax/\(E.on m).has p=true/\split (!((E.on m).is p 2)) (Q ⟨vB true,none,[],[],[]⟩) (E.n=m.S/\l=E.ax/\(0<=(18:Int)/\(1024:Int)<=1024)/\split (!((E.on m).zero p 18 1024)) (Q ⟨vB false,none,[],[],[]⟩) ((0<=p/\p<(l.length:Int))/\split (!((l.getD p.toNat Ent.free).bw)) (E.n=m.S/\l=E.ax/\(0<=(1:Int)/\(18:Int)<=1024)/\Q ⟨vB ((E.on m).zero p 1 18),none,[],[],[]⟩) (E.n=m.S/\l=E.ax/\(0<=(1:Int)/\(1:Int)<1024/\0<=(17:Int)/\(17:Int)<1024)/\∀(f:oA)(h:Nat),∀(d:List U32),d=(E.on m).some_ p 1 (Int.toNat 17)->((∀x∈d,0<=x.v/\x.v<4294967296))/\∀(i:Nat),∀(s:Fl),s=Fl.zero->Fl.Ok s->True/\∀(s1:Fl),s1=(Fl.norm (File.unpack d))->Fl.Ok s1->E.n=m.S/\l=E.ax/\(E.on m).has p=true/\∃J:Bool->Prop,(split ((File.de d)==0) (split (decide (((E.on m).cl p)<0)) (J true) ((0<=((E.on m).cl p)/\((E.on m).cl p)<(l.length:Int))/\J ((l.getD (Int.toNat ((E.on m).cl p)) Ent.free).state !=1))) (J false))/\∀(_gv1:Nat->Value)(e:Bool),J e->Q ⟨vB e,none,[],[],[]⟩)))
theorem FK:Vc2 Un Tryz.prog (dU [(112,cE),(114,fc),(148,l5),(154,ml),(116,gB)]) [] Tryz.f125 (.r' (.r' (.r' (.r' (.r' (.r' (.two (.node [] (some ⟨[(4,(.one .bool))],[],[4]++upN 38 17,[]⟩) [] [] .leaf .leaf) .leaf))))))) [] lZ=(∀p g r (E:Pd) rm (m:Mem) A c (l:List Ent),∀Q,(E.n=m.S/\l=E.ax/\(E.on m).has p=true/\Q ⟨vB ((E.on m).clause 11 p),none,[],[],[]⟩)->FJ p g r E rm m A c l Q):=by kernel_rfl
section
attribute [local grind=] DB.Fx DB.jO DB.is DB.cl
theorem FI:LV Un Tryz.prog 125 lZ:=verify Tryz.func125 aj (tb:= [(112,cE),(114,fc),(148,l5),(154,ml),(116,gB)]) ⟨iY,oD,EA,F9,uk,trivial⟩ (by kernel_rfl) (FK.mpr λp g r E rm m A c l Q h=>by
 obtain⟨t,e,u,h⟩:=h;subst e;exact λf1 f2=>(by(have hw:=λa b=>cB (E:=E) f2 a b);(have v:=λa b=>aa (x:=(E.on m).word a b) (by have:=hw a b;omega));(have y:=λa b=>dz (x:=(E.on m).word a b) (by have:=hw a b;omega));exact ak ‹_› λz=>ak (by rfl) λB=>ak ‹_› λC=>bo (λd=>aW h (by grind)) λd=>ak ‹_› λF=>ak (by rfl) λG=>ak (by omega) λH=>bo (λf=>aW h (by grind)) λf=>ak (by grind) λI=>bo (λi=>ak ‹_› λJ=>ak (by rfl) λM=>ak (by omega) λN=>aW h (by grind)) λi=>ak ‹_› λO=>ak (by rfl) λP=>ak (by omega) λR=>λS d=>λj k=>ak (by rw[k];exact nR f2 _ _ _) λT=>λV=>λs W f17=>ak trivial λ_=>λs1 Y f19=>ak ‹_› λan=>ak (by rfl) λaz=>ak ‹_› λaA=>bF ((((File.de j):Int)==0) && ((decide ((((E.on m).cl p):Int)<0)) || (((E.ax.getD (Int.toNat ((E.on m).cl p)) Ent.free).state:Int) !=1))) (ab (λo=>ab (λq=>(by grind)) λq=>ak (by grind) λaC=>(by grind)) λo=>(by grind))<| aW h (by grind)))
end
end Go.Proofs.YtoghdgcmhbanbaaGreatDoor
end
section
set_option maxRecDepth 100000
set_option maxHeartbeats 1000000
namespace Go.Proofs.YtoghdgcmhbanbaaGreatDoor
open Go Go.RowKit V
open Go.IntKind (i64 u32 u64 wrap_i64 wrap_u32)
open Go.Proofs (Tryz.prog)
attribute [local irreducible] Vc2 VcD
attribute [local grind=] Pd.cO Pd.dj Pd.kZ Pd.k8 Pd.qn Pd.kY Pd.kX Pd.iP Pd.qe Pd.jn
attribute [local grind .] Pd.Ok.ent
attribute [local grind→] Pd.Ok.dD
def oF:Ctr Un:=⟨[.one (.ptr 0),.one (.int .i64)],[],[.blk [.obj 1 0,.sl 3] 163,.ob 1 [(1,2,0)],.ob 0 [],.lst 4 false 137],[],λp g r E rm m A c l K=>E.n=m.S/\l=E.ax/\(E.on m).has p=true/\K ⟨vB ((E.on m).clause 8 p),none,[],[],[]⟩⟩
def Iq(p:Int)(g:Nat)(r:Nat->Nat)(E:Pd)(rm:Nat->Nat)(m:Mem)(A:oA)(c:Nat)(l:List Ent)(Q:Ou Un->Prop):Prop:=Pd.Ok E->Mem.Wf m->∃J:Bool->Prop,(E.n=m.S/\l=E.ax/\(E.on m).has p=true/\split (!((E.on m).is p 3)) (J true) (E.n=m.S/\l=E.ax/\(E.on m).has p=true/\J (!(if(E.on m).is p 1 then((E.on m).at_ p).state !=3 else(E.on m).alive p))))/\∀(_gv:Nat->Value)(B:Bool),J B->split B (Q ⟨vB true,none,[],[],[]⟩) (E.n=m.S/\l=E.ax/\(0<=(256:Int)/\(1024:Int)<=1024)/\split (!((E.on m).zero p 256 1024)) (Q ⟨vB false,none,[],[],[]⟩) (((64:Int)=64/\0<=(64:Int)/\1*(64:Int)<=281474976710656)/\∀(N:Nat),∀(C:List Bl),C=(List.replicate (Int.toNat 64) (Bl.mk false:Bl))->∀count:Int,count=0->(0<=p/\p<(l.length:Int))/\E.n=m.S/\l=E.ax/\∀(O:oA)(P:Nat),∀(l2:List I64),l2=(E.on m).pgs 4 ((l.getD p.toNat Ent.free).owner) (E.on m).S->∃I:Nat->Int->Int->Option Addr->Nat->List Bl->Prop,(∃f,I f count 0 (pvA N) (Int.toNat 64) C)/\∀(f:Nat)(_gv2:Nat->Value)(j d:Int)(q:oA)(t:Nat)(h:List Bl),I f j d q t h->split (decide (d<256)) (E.n=m.S/\l=E.ax/\split (((E.on m).word p d)==0) (∃i,i<f/\I i j (i64.wrap (d+1)) q t h) ((0<=((E.on m).word p d)/\((E.on m).word p d)<4294967296)/\∃u:Bool->Prop,(split ((il ((E.on m).word p d)) !=0) (u true) ((0<=(aQ ((E.on m).word p d))/\(aQ ((E.on m).word p d))<(h.length:Int))/\u ((h.getD (Int.toNat (aQ ((E.on m).word p d))) (Bl.mk false)).v)))/\∀(_gv3:Nat->Value)(F:Bool),u F->split F (Q ⟨vB false,none,[],[],[]⟩) (∃v:Nat->Int->Int->Option Addr->Nat->List Bl->Prop,(∃k,v k j 0 q t h)/\∀(k:Nat)(_gv4:Nat->Value)(x e:Int)(y:oA)(z:Nat)(o:List Bl),v k x e y z o->split (decide (e<((((E.on m).pgs 4 ((l.getD p.toNat Ent.free).owner) (E.on m).S).length):Int))) ((0<=e/\e<(l2.length:Int))/\split ((l2.getD e.toNat (I64.mk 0)).v==(aQ ((E.on m).word p d))) ((0<=(aQ ((E.on m).word p d))/\(aQ ((E.on m).word p d))<(o.length:Int))/\∀(G:List Bl),G=(o.set (Int.toNat (aQ ((E.on m).word p d))) (Bl.mk true))->∀H:Int,H=(i64.wrap (x+1))->∃i,i<f/\I i H (i64.wrap (d+1)) y z G) (∃M,M<k/\v M x (i64.wrap (e+1)) y z o)) (Q ⟨vB false,none,[],[],[]⟩)))) (Q ⟨vB (j==((((E.on m).pgs 4 ((l.getD p.toNat Ent.free).owner) (E.on m).S).length):Int)),none,[],[],[]⟩)))
theorem Ir:Vc2 Un Tryz.prog (dU [(112,cE),(149,eT),(114,fc),(150,qM),(143,cZ),(151,gl)]) [6] Tryz.f122 (.r' (.two (.two (.two (.node [] (some ⟨[(23,(.one .bool))],[],upN 14 10,[]⟩) [] [] .leaf .leaf) .leaf) (.r' (.r' (.r' (.r' (.two (.r' (.two (.node [] (some ⟨[(6,(.one (.int .i64))),(39,(.one (.int .i64)))],[(5,(.p (.sl 4 0)))],[4,6,8,9,10,11,13]++upN 39 38,[(4,(.lst 3))]⟩) [] [] (.r' (.r' (.two (.two (.r' (.r' (.r' (.r' (.two (.two (.node [] (some ⟨[(60,(.one .bool))],[],upN 53 8,[]⟩) [] [] .leaf .leaf) .leaf) (.two (.r' (.two (.node [] (some ⟨[(6,(.one (.int .i64))),(63,(.one (.int .i64)))],[(5,(.p (.sl 4 0)))],[6,13]++upN 63 13,[(4,(.lst 3))]⟩) [] [] .leaf .leaf) .leaf)) .leaf)))))) .leaf) .leaf))) .leaf) .leaf)) .leaf)))))) .leaf)) [] oF=(∀p g r (E:Pd) rm (m:Mem) A c (l:List Ent),∀Q,(E.n=m.S/\l=E.ax/\(E.on m).has p=true/\Q ⟨vB ((E.on m).clause 8 p),none,[],[],[]⟩)->Iq p g r E rm m A c l Q):=by kernel_rfl
section
attribute [local grind=] DB.lv DB.is
theorem Ip:LV Un Tryz.prog 122 oF:=verify Tryz.func122 aj (tb:= [(112,cE),(149,eT),(114,fc),(150,qM),(143,cZ),(151,gl)]) ⟨iY,oH,oD,Im,kh,va,trivial⟩ (by kernel_rfl) (Ir.mpr λp g r E rm m A c l Q h=>by
 obtain⟨I,aC,a5,h⟩:=h;subst aC;exact λf1 f2=>(by(have hw:=λa b=>cB (E:=E) f2 a b);(have S:E.ax.getD p.toNat Ent.free=(E.on m).at_ p:=by rw[Pd.dj (by grind),Pd.k8]);exact bF ((!((E.on m).is p 3)) || (!(if(E.on m).is p 1 then((E.on m).at_ p).state !=3 else(E.on m).alive p))) (ak ‹_› λs3=>ak (by rfl) λs4=>ak ‹_› λs5=>ab (λT=>(by grind)) λT=>ak ‹_› λs6=>ak (by rfl) λs7=>ak ‹_› λs8=>(by grind))<| bm (λc2=>aW h (by grind)) λc2=>(by(have C:((E.on m).at_ p).typ=3/\(E.on m).alive p=true:=by grind);exact ak ‹_› λs9=>ak (by rfl) λa6=>ak (by omega) λa7=>bo (λJ=>aW h (by rw[DB.lv,DB.fw,J];simp[C])) λJ=>ak (by omega) λa8=>λa9=>λl1 aN=>allEq<| ak (by grind) λba=>ak ‹_› λbb=>ak (by rfl) λbc=>λA1 T=>λl2 k=>⟨λV t d A4 v F=>(V=(256 - d).toNat)/\(0<=d/\d<=256)/\(DB.Nms (E.on m) p d t F),⟨_,rfl,(by omega),(by rw[aN];exact DB.Nms.init _ _)⟩,λV _ t d A4 v F ⟨hm,G,i⟩=>(by(have M:l2=(E.on m).pgs 4 ((E.on m).at_ p).owner (E.on m).S:=by rw[k,S]);(have bd:(l2.length:Int)<=64:=by rw[M];(have y:=DB.jW (E.on m) 4 ((E.on m).at_ p).owner (E.on m).S);have u:=f1.dD;(rw[Pd.jn _ _ I]at y ⊢);omega);(have bg:0<=t/\t<=64:=by rw[i.cnt];(have u:=fM (f:=λq=>(E.on m).named p d q==1) (n:=((E.on m).S:Int)) (by omega));(have h6:=dV (f:=λq=>(E.on m).named p d q==1) (n:=((E.on m).S:Int)));have h5:=f1.dD;(rw[Pd.jn _ _ I]at u h6 ⊢);omega);exact af (λv=>ak ‹_› λbl=>ak (by rfl) λbs=>aE (λz=>⟨_,(by rw[aa (x:=d+1) (by omega)];omega),rfl,(by rw[aa (x:=d+1) (by omega)];omega),(by rw[aa (x:=d+1) (by omega)];exact i.skip G.1 z)⟩) λz=>ak (hw p d) λbA=>bF ((((il ((E.on m).word p d)):Int) !=0) || ((F.getD (Int.toNat (aQ ((E.on m).word p d))) (Bl.mk false)).v)) (ab (λc6=>(by grind)) λc6=>ak (by(have y:=rH (hw p d).1);(have u:=i.len);(rw[u];exact y)) λbC=>(by grind))<| bm (λH=>aW h (by(have N:=i.bad ⟨G.1,v⟩ (hw p d).1 z (λhe O=>by rcases H with h|h;(simp[he]at h);exact h));rw[DB.lv,N];simp[C])) λH=>⟨λW Y e a0 a1 an=>(W=((l2.length:Int) - e).toNat)/\(0<=e/\e<=(l2.length:Int))/\(Y=t)/\(an=F)/\(∀j:Nat,(j:Int)<e->¬(l2.getD j (I64.mk 0)).v=aQ ((E.on m).word p d)),⟨_,rfl,(by omega),(by rfl),(by rfl),(by intro j hj;omega)⟩,λW _ Y e a0 a1 an ⟨hm,hy,az,P,aA⟩=>(by have bN:e<(l2.length:Int)\/¬e<(l2.length:Int):=Classical.em _;exact af (λo=>ak (by rw[k];exact⟨hy.1,o⟩) λb0=>aE (λR=>ak (by(have y:=rH (hw p d).1);(have u:=i.len);(rw[P,u];exact y)) λb1=>λl3 a2=>allEq<| ⟨_,(by rw[aa (x:=d+1) (by omega)];omega),rfl,(by rw[aa (x:=d+1) (by omega)];omega),(by rw[aa (x:=d+1) (by omega)];(rw[a2,P,az,aa (x:=t+1) (by omega)];exact i.put G.1 (hw p d).1 z (by simpa using H.1) H.2 (DB.LA M ⟨hy.1,by rw[k];exact o⟩ R)))⟩) λR=>⟨_,(by have B:=o;rw[<-k]at B;rw[aa (x:=e+1) (by omega)];omega),rfl,(by have B:=o;rw[<-k]at B;rw[aa (x:=e+1) (by omega)];omega),(az),(P),(by have B:=o;rw[<-k]at B;rw[aa (x:=e+1) (by omega)];intro j hj;by_cases b2:(j:Int)=e;(have a3:j=e.toNat:=by omega);subst a3;exact R;exact aA j (by omega))⟩) λo=>aW h (by(have N:=i.bad ⟨G.1,v⟩ (hw p d).1 z (λ_ O=>by rw[DB.Jt M (λj hj=>aA j (by rw[<-k]at o;omega))]at O;cases O));rw[DB.lv,N];simp[C]))⟩) λv=>aW h (by(have a4:d=256:=by omega);subst a4;rw[DB.lv,i.done (by rw[Pd.jn _ _ I];exact f1.dD) J,S];simp[C]))⟩)))
end
def rY:Ctr Un:=⟨[.one (.ptr 0),.one (.int .i64)],[],[.blk [.obj 1 0,.sl 3] 163,.ob 1 [(1,2,0)],.ob 0 [],.lst 4 false 137],[],λp g r E rm m A c l K=>E.n=m.S/\l=E.ax/\(E.on m).has p=true/\K ⟨vB ((E.on m).clause 9 p),none,[],[],[]⟩⟩
def Kk(p:Int)(g:Nat)(r:Nat->Nat)(E:Pd)(rm:Nat->Nat)(m:Mem)(A:oA)(c:Nat)(l:List Ent)(Q:Ou Un->Prop):Prop:=Pd.Ok E->Mem.Wf m->∃J:Bool->Prop,(E.n=m.S/\l=E.ax/\(E.on m).has p=true/\split (!((E.on m).is p 4)) (J true) (E.n=m.S/\l=E.ax/\(E.on m).has p=true/\J (!(if(E.on m).is p 1 then((E.on m).at_ p).state !=3 else(E.on m).alive p))))/\∀(_gv:Nat->Value)(j:Bool),J j->split j (Q ⟨vB true,none,[],[],[]⟩) (∃I:Nat->Int->Prop,(∃e,I e 0)/\∀(e:Nat)(_gv1:Nat->Value)(d:Int),I e d->split (decide (d<1024)) (E.n=m.S/\l=E.ax/\split (((E.on m).word p d)==0) (∃f,f<e/\I f (i64.wrap (d+1))) ((0<=((E.on m).word p d)/\((E.on m).word p d)<4294967296)/\∀(q:Nat),∃i:Bool->Prop,(split ((fF ((E.on m).word p d)) !=0) (i true) (i (!(m.has ((bI ((E.on m).word p d)).bQ) ((bI ((E.on m).word p d)).aV)))))/\∀(_gv3:Nat->Value)(k:Bool),i k->split k (Q ⟨vB false,none,[],[],[]⟩) (∃h:Bool->Prop,(split ((bI ((E.on m).word p d)).bQ) (E.n=m.S/\l=E.ax/\(E.on m).has ((bI ((E.on m).word p d)).aV)=true/\split (!((E.on m).is ((bI ((E.on m).word p d)).aV) 5)) (h true) ((0<=(bI ((E.on m).word p d)).aV/\(bI ((E.on m).word p d)).aV<(l.length:Int))/\(0<=p/\p<(l.length:Int))/\h ((l.getD (Int.toNat ((bI ((E.on m).word p d)).aV)) Ent.free).owner !=((l.getD p.toNat Ent.free).owner)))) (h false))/\∀(_gv4:Nat->Value)(o:Bool),h o->split o (Q ⟨vB false,none,[],[],[]⟩) (∃f,f<e/\I f (i64.wrap (d+1)))))) (Q ⟨vB true,none,[],[],[]⟩))
theorem Kl:Vc2 Un Tryz.prog (dU [(112,cE),(149,eT),(143,cZ),(152,dq),(47,jM),(153,Ds)]) [] Tryz.f123 (.r' (.two (.two (.node [] (some ⟨[(18,(.one .bool))],[],upN 9 10,[]⟩) [] [] .leaf .leaf) .leaf) (.two (.r' (.two (.node [] (some ⟨[(19,(.one (.int .i64)))],[],upN 4 5++upN 19 60,[]⟩) [] [] (.r' (.r' (.two (.two (.r' (.r' (.r' (.r' (.two (.two (.node [] (some ⟨[(45,(.one .bool))],[],upN 33 13,[]⟩) [] [(6,[0]),(9,[4])] .leaf .leaf) .leaf) (.two (.node [] (some ⟨[(77,(.one .bool))],[],upN 46 32,[]⟩) [] [(2,[4]),(7,[4]),(14,[0]),(17,[4]),(20,[3]),(24,[0]),(28,[3])] .leaf .leaf) .leaf)))))) .leaf) .leaf))) .leaf) .leaf)) .leaf))) [] rY=(∀p g r (E:Pd) rm (m:Mem) A c (l:List Ent),∀Q,(E.n=m.S/\l=E.ax/\(E.on m).has p=true/\Q ⟨vB ((E.on m).clause 9 p),none,[],[],[]⟩)->Kk p g r E rm m A c l Q):=by kernel_rfl
section
attribute [local grind=] DB.ov DB.is
theorem Kj:LV Un Tryz.prog 123 rY:=verify Tryz.func123 aj (tb:= [(112,cE),(149,eT),(143,cZ),(152,dq),(47,jM),(153,Ds)]) ⟨iY,oH,kh,lB,xl,Mb,trivial⟩ (by kernel_rfl) (Kl.mpr λp g r E rm m A c l Q h=>by
 obtain⟨H,t,I,h⟩:=h;subst t;exact λf1 f2=>(by(have hw:=λa b=>cB (E:=E) f2 a b);(have J:=λa b=>aa (x:=(E.on m).word a b) (by have:=hw a b;omega));(have M:=λa b=>dz (x:=(E.on m).word a b) (by have:=hw a b;omega));(have N:E.ax.getD p.toNat Ent.free=(E.on m).at_ p:=by rw[Pd.dj (by grind),Pd.k8]);(have O:∀q,m.has true q=(E.on m).has q:=λq=>rfl);(have P:∀q,m.has false q=decide (0<=q/\q<(m.I:Int)):=λq=>rfl);(have R:=λw=>DP w);exact bF ((!((E.on m).is p 4)) || (!(if(E.on m).is p 1 then((E.on m).at_ p).state !=3 else(E.on m).alive p))) (ak ‹_› λS=>ak (by rfl) λT=>ak ‹_› λV=>ab (λu=>(by grind)) λu=>ak ‹_› λW=>ak (by rfl) λY=>ak ‹_› λs8=>(by grind))<| bm (λv=>aW h (by grind)) λv=>⟨λk d=>(k=(1024 - d).toNat)/\(0<=d/\d<=1024)/\(fR ((E.on m).iz p) 0 d=true),⟨_,rfl,(by omega),(ez (Int.le_refl _))⟩,λk _ d ⟨hm,o,e⟩=>af (λf=>ak ‹_› λs9=>ak (by rfl) λan=>aE (λy=>⟨_,(by(have i:=aa (x:=d+1) (by grind));omega),rfl,(by(have i:=aa (x:=d+1) (by grind));omega),(bS e (by(grind[DB.iz,DB.of])) (aa (by omega)))⟩) λy=>ak (hw p d) λaz=>λaA=>bF ((((fF ((E.on m).word p d)):Int) !=0) || (!(m.has ((bI ((E.on m).word p d)).bQ) ((bI ((E.on m).word p d)).aV)))) (ab (λz=>(by grind)) λz=>(by grind))<| bm (λB=>aW h (by(have j:(E.on m).iz p d=false:=by(grind[DB.iz,DB.of]));rw[DB.ov,DB.km,cP o.1 f j];grind)) λB=>bF (((bI ((E.on m).word p d)).bQ) && ((!((E.on m).is ((bI ((E.on m).word p d)).aV) 5)) || (((E.ax.getD (Int.toNat ((bI ((E.on m).word p d)).aV)) Ent.free).owner:Int) !=((E.ax.getD p.toNat Ent.free).owner)))) (ab (λC=>ak ‹_› λaC=>ak (by rfl) λaN=>ak (by grind) λa0=>ab (λF=>(by grind)) λF=>ak (by grind) λa1=>ak (by grind) λa2=>(by grind)) λC=>(by grind))<| cJ (λG=>aW h (by(have j:(E.on m).iz p d=false:=by(grind[DB.iz,DB.of]));rw[DB.ov,DB.km,cP o.1 f j];grind)) λG=>⟨_,(by(have i:=aa (x:=d+1) (by grind));omega),rfl,(by(have i:=aa (x:=d+1) (by grind));omega),(bS e (by(grind[DB.iz,DB.of])) (aa (by omega)))⟩) λf=>aW h (by rw[DB.ov,DB.km,<-show d=1024 by omega,e];simp)⟩))
end
def l6:Ctr Un:=⟨[.one (.ptr 0),.one (.int .i64)],[],[.blk [.obj 1 0,.sl 3] 163,.ob 1 [(1,2,0)],.ob 0 [],.lst 4 false 137],[],λp g r E rm m A c l K=>E.n=m.S/\l=E.ax/\(E.on m).has p=true/\K ⟨vB ((E.on m).clause 10 p),none,[],[],[]⟩⟩
def FM(p:Int)(g:Nat)(r:Nat->Nat)(E:Pd)(rm:Nat->Nat)(m:Mem)(A:oA)(c:Nat)(l:List Ent)(Q:Ou Un->Prop):Prop:=Pd.Ok E->Mem.Wf m->∃o:Bool->Prop,(E.n=m.S/\l=E.ax/\(E.on m).has p=true/\split (!((E.on m).is p 5)) (o true) (E.n=m.S/\l=E.ax/\(E.on m).has p=true/\o (!(if(E.on m).is p 1 then((E.on m).at_ p).state !=3 else(E.on m).alive p))))/\∀(_gv:Nat->Value)(u:Bool),o u->split u (Q ⟨vB true,none,[],[],[]⟩) (∀n:Int,n=0->(0<=p/\p<(l.length:Int))/\E.n=m.S/\l=E.ax/\∀(z:oA)(B:Nat),∀(f:List I64),f=(E.on m).pgs 4 ((l.getD p.toNat Ent.free).owner) (E.on m).S->∃I:Nat->Int->Int->Prop,(∃j,I j n 0)/\∀(j:Nat)(_gv1:Nat->Value)(q d:Int),I j q d->split (decide (d<((((E.on m).pgs 4 ((l.getD p.toNat Ent.free).owner) (E.on m).S).length):Int))) ((0<=d/\d<(f.length:Int))/\∃k:Nat->Int->Int->Prop,(∃h,k h q 0)/\∀(h:Nat)(_gv2:Nat->Value)(n2 e:Int),k h n2 e->split (decide (e<1024)) (E.n=m.S/\l=E.ax/\(0<=((E.on m).word ((f.getD d.toNat (I64.mk 0)).v) e)/\((E.on m).word ((f.getD d.toNat (I64.mk 0)).v) e)<4294967296)/\∀(C:Nat),∃t:Bool->Prop,(split ((fF ((E.on m).word ((f.getD d.toNat (I64.mk 0)).v) e))==0) (t (bk #[vB ((bI ((E.on m).word ((f.getD d.toNat (I64.mk 0)).v) e)).bQ),J (bI ((E.on m).word ((f.getD d.toNat (I64.mk 0)).v) e)).aV] #[vB true,J p])) (t false))/\∀(_gv4:Nat->Value)(v:Bool),t v->split v (∀x:Int,x=(i64.wrap (n2+1))->∃i,i<h/\k i x (i64.wrap (e+1))) (∃i,i<h/\k i n2 (i64.wrap (e+1)))) (∃y,y<j/\I y n2 (i64.wrap (d+1)))) (Q ⟨vB (q==1),none,[],[],[]⟩))
theorem FN:Vc2 Un Tryz.prog (dU [(112,cE),(149,eT),(150,qM),(143,cZ),(152,dq)]) [5] Tryz.f124 (.r' (.two (.two (.node [] (some ⟨[(20,(.one .bool))],[],upN 11 10,[]⟩) [] [] .leaf .leaf) .leaf) (.r' (.two (.r' (.two (.node [] (some ⟨[(5,(.one (.int .i64))),(32,(.one (.int .i64)))],[],[5,7,8,9,10]++upN 32 28,[]⟩) [] [] (.r' (.r' (.two (.two (.r' (.r' (.two (.node [] (some ⟨[(5,(.one (.int .i64))),(36,(.one (.int .i64)))],[],[5,8,9,10]++upN 36 23,[]⟩) [] [] (.r' (.r' (.two (.two (.r' (.r' (.two (.node [] (some ⟨[(55,(.one .bool))],[],upN 47 9,[]⟩) [] [] .leaf .leaf) .leaf))) .leaf) .leaf))) .leaf) .leaf))) .leaf) .leaf))) .leaf) .leaf)) .leaf)))) [] l6=(∀p g r (E:Pd) rm (m:Mem) A c (l:List Ent),∀Q,(E.n=m.S/\l=E.ax/\(E.on m).has p=true/\Q ⟨vB ((E.on m).clause 10 p),none,[],[],[]⟩)->FM p g r E rm m A c l Q):=by kernel_rfl
section
attribute [local grind=] DB.wK DB.is
theorem FL:LV Un Tryz.prog 124 l6:=verify Tryz.func124 aj (tb:= [(112,cE),(149,eT),(150,qM),(143,cZ),(152,dq)]) ⟨iY,oH,Im,kh,lB,trivial⟩ (by kernel_rfl) (FN.mpr λp g r E rm m A c l Q h=>by
 obtain⟨an,F,az,h⟩:=h;subst F;exact λf1 f2=>(by(have hw:=λa b=>cB (E:=E) f2 a b);(have aA:=λa b=>aa (x:=(E.on m).word a b) (by have:=hw a b;omega));(have aC:=λa b=>dz (x:=(E.on m).word a b) (by have:=hw a b;omega));(have G:E.ax.getD p.toNat Ent.free=(E.on m).at_ p:=by rw[Pd.dj (by grind),Pd.k8]);(have aN:∀q,m.has true q=(E.on m).has q:=λq=>rfl);(have a0:∀q,m.has false q=decide (0<=q/\q<(m.I:Int)):=λq=>rfl);(have a1:=λw=>DP w);exact bF ((!((E.on m).is p 5)) || (!(if(E.on m).is p 1 then((E.on m).at_ p).state !=3 else(E.on m).alive p))) (ak ‹_› λs3=>ak (by rfl) λs4=>ak ‹_› λs5=>ab (λy=>(by grind)) λy=>ak ‹_› λs6=>ak (by rfl) λs7=>ak ‹_› λs8=>(by grind))<| bm (λH=>aW h (by grind)) λH=>allEq<| ak (by grind) λs9=>ak ‹_› λa2=>ak (by rfl) λa3=>λA1 y=>λi I=>⟨λz u d=>(z=((i.length:Int) - d).toNat)/\(0<=d/\d<=(i.length:Int))/\(u=(E.on m).jv p i d),⟨_,rfl,(by constructor<;>omega),(by rfl)⟩,λz _ u d ⟨hm,v,B⟩=>(by(have k:i=(E.on m).pgs 4 ((E.on m).at_ p).owner (E.on m).S:=by rw[I,G]);exact af (λM=>ak (by grind) λa4=>⟨λC n2 e=>(C=(1024 - e).toNat)/\(0<=e/\e<=1024)/\(n2=(E.on m).jv p i d+dH ((E.on m).eR p (i.getD d.toNat (I64.mk 0)).v) e),⟨_,rfl,(by omega),(by rw[wI,Int.add_zero];exact B)⟩,λC _ n2 e ⟨hm,t,N⟩=>af (λO=>ak ‹_› λa5=>ak (by rfl) λa6=>ak (hw _ e) λa7=>λa8=>bF ((((fF ((E.on m).word ((i.getD d.toNat (I64.mk 0)).v) e)):Int)==0) && (bk #[vB ((bI ((E.on m).word ((i.getD d.toNat (I64.mk 0)).v) e)).bQ),J (bI ((E.on m).word ((i.getD d.toNat (I64.mk 0)).v) e)).aV] #[vB true,J p])) (ab (λP=>(by grind)) λP=>(by grind))<| cJ (λR=>allEq<| ⟨_,(by(have o:=aa (x:=e+1) (by grind));omega),rfl,(by(have o:=aa (x:=e+1) (by grind));omega),(by have j:=DB.jW (E.on m) 4 ((E.on m).at_ p).owner (E.on m).S;rw[<-k]at j;have o:=aa (x:=e+1) (by omega);have S:=cz (f:=(E.on m).eR p (i.getD d.toNat (I64.mk 0)).v) t.1;have T:=fM (f:=(E.on m).eR p (i.getD d.toNat (I64.mk 0)).v) t.1;have V:=dV (f:=(E.on m).eR p (i.getD d.toNat (I64.mk 0)).v) (n:=e);have W:=DB.vE (D:=E.on m) (p:=p) (l:=i) v.1;have Y:=aa (x:=n2+1) (by grind);(grind[DB.eR,eqF]))⟩) λR=>⟨_,(by(have o:=aa (x:=e+1) (by grind));omega),rfl,(by(have o:=aa (x:=e+1) (by grind));omega),(by have j:=DB.jW (E.on m) 4 ((E.on m).at_ p).owner (E.on m).S;rw[<-k]at j;have o:=aa (x:=e+1) (by omega);have S:=cz (f:=(E.on m).eR p (i.getD d.toNat (I64.mk 0)).v) t.1;have T:=fM (f:=(E.on m).eR p (i.getD d.toNat (I64.mk 0)).v) t.1;have V:=dV (f:=(E.on m).eR p (i.getD d.toNat (I64.mk 0)).v) (n:=e);have W:=DB.vE (D:=E.on m) (p:=p) (l:=i) v.1;have Y:=aa (x:=n2+1) (by grind);(grind[DB.eR,eqF]))⟩) λO=>⟨_,(by have j:=DB.jW (E.on m) 4 ((E.on m).at_ p).owner (E.on m).S;rw[<-k]at j;rw[aa (x:=d+1) (by grind)];grind),rfl,(by have j:=DB.jW (E.on m) 4 ((E.on m).at_ p).owner (E.on m).S;rw[<-k]at j;rw[aa (x:=d+1) (by grind)];grind),(by have j:=DB.jW (E.on m) 4 ((E.on m).at_ p).owner (E.on m).S;rw[<-k]at j;rw[aa (x:=d+1) (by grind),DB.sI ⟨v.1,by grind⟩,N,show e=1024 by omega])⟩⟩) λM=>aW h (by(have hb:=DB.once_eq (D:=E.on m) (p:=p) (n:=u) (x:=d) (by rw[<-k];grind) (by rw[<-k];exact B));rw[DB.wK,hb];grind))⟩))
end
end Go.Proofs.YtoghdgcmhbanbaaGreatDoor
end
section
set_option maxRecDepth 100000
set_option maxHeartbeats 1000000
namespace Go.Proofs.YtoghdgcmhbanbaaGreatDoor
open Go Go.RowKit V
open Go.IntKind (i64 u32 u64 wrap_i64 wrap_u32)
open Go.Proofs (Tryz.prog)
attribute [local irreducible] Vc2 VcD
attribute [local grind=] Pd.cO Pd.dj Pd.kZ Pd.k8 Pd.qn Pd.kY Pd.kX Pd.iP Pd.qe
attribute [local grind .] Pd.Ok.ent
attribute [local grind→] Pd.Ok.dD
def yO:Ctr Un:=⟨[.one (.obj 0 0),.one (.int .i64),.one (.int .i64)],[],[.ob 3 [(1,1,0)],.ob 2 []],[],λc p r E rm m K=>E.n=m.S/\(E.on m).has p=true/\K ⟨vB ((E.on m).clause c p),none,[],[],[]⟩⟩
section
attribute [local grind=] DB.clause own DB.iT
theorem Kq:LV Un Tryz.prog 80 yO:=dJ Tryz.func80 aj [(92,gZ),(93,mj),(94,nE),(95,lE),(96,ny),(97,nC),(98,nD),(99,nA),(100,pO),(101,pM),(102,lD)] ⟨mh,sj,Df,BJ,Da,Dd,De,Db,F1,F0,BH,trivial⟩ [8,20,30,40,54,67,76,85,94,110,126,142] (.r' (.r' (.r' (.two (.r' (.two (.r' (.two (.two (.node [] (some ⟨[(6,(.one .bool))],[],[6]++upN 22 8,[]⟩) [] [] .leaf .leaf) .leaf) (.r' (.two (.two (.node [] (some ⟨[(6,(.one .bool))],[],[6]++upN 32 8,[]⟩) [] [] .leaf .leaf) .leaf) (.r' (.two (.two (.node [] (some ⟨[(6,(.one .bool))],[],[6]++upN 42 12,[]⟩) [] [] .leaf .leaf) .leaf) (.r' (.two (.two (.node [] (some ⟨[(6,(.one .bool))],[],[6]++upN 56 11,[]⟩) [] [(4,[2])] .leaf .leaf) .leaf) (.r' (.two (.two (.node [] (some ⟨[(6,(.one .bool))],[],[6]++upN 69 7,[]⟩) [] [] .leaf .leaf) .leaf) (.r' (.two (.two (.node [] (some ⟨[(6,(.one .bool))],[],[6]++upN 78 7,[]⟩) [] [] .leaf .leaf) .leaf) (.r' (.two (.two (.node [] (some ⟨[(6,(.one .bool))],[],[6]++upN 87 7,[]⟩) [] [] .leaf .leaf) .leaf) (.r' (.two (.two (.node [] (some ⟨[(6,(.one .bool))],[],[6]++upN 96 14,[]⟩) [] [] .leaf .leaf) .leaf) (.r' (.two (.two (.node [] (some ⟨[(6,(.one .bool))],[],[6]++upN 112 14,[]⟩) [] [] .leaf .leaf) .leaf) (.r' (.two (.two (.node [] (some ⟨[(6,(.one .bool))],[],[6]++upN 128 14,[]⟩) [] [] .leaf .leaf) .leaf) (.r' (.two (.two (.node [] (some ⟨[(6,(.one .bool))],[],[6]++upN 144 8,[]⟩) [] [] .leaf .leaf) .leaf) .leaf)))))))))))))))))))))) .leaf)) (.two (.node [] (some ⟨[(6,(.one .bool))],[],[6]++upN 152 8,[]⟩) [] [] .leaf .leaf) .leaf))))) [] (F:=∀c p r (E:Pd) rm (m:Mem) Q,yO.body c p r E rm m Q->Pd.Ok E->Mem.Wf m->(0<=p/\p<((Pd.ax E).length:Int))/\∀(z:Nat),∀space:Bool,space=(((eG E p).typ:Int)==1)->∀f:Bool,f=((c:Int)==1)->split f (∃J:Bool->Prop,(split (!space) (J true) (J ((eG E p).owner==p)))/\∀(_gv1:Nat->Value)(d:Bool),J d->Q ⟨vB d,none,[],[],[]⟩) (∀i:Bool,i=((c:Int)==2)->split i (∃J:Bool->Prop,(split ((eG E p).typ !=0) (J true) (E.n=m.S/\(0<=(0:Int)/\(1024:Int)<=1024)/\J ((E.on m).zero p 0 1024)))/\∀(_gv1:Nat->Value)(d:Bool),J d->Q ⟨vB d,none,[],[],[]⟩) (∀j:Bool,j=((c:Int)==3)->split j (∃J:Bool->Prop,(split space (J true) (split ((eG E p).typ==0) (J true) (E.n=m.S/\J ((E.on m).is ((eG E p).owner) 1))))/\∀(_gv1:Nat->Value)(d:Bool),J d->Q ⟨vB d,none,[],[],[]⟩) (∀k:Bool,k=((c:Int)==4)->split k (∃J:Bool->Prop,(split (!space) (J true) (E.n=m.S/\∀(A:oA)(e:Nat),∀(l:List I64),l=(own (E.on m) p)->J ((eG E p).refs==(((own (E.on m) p).length):Int))))/\∀(_gv1:Nat->Value)(d:Bool),J d->Q ⟨vB d,none,[],[],[]⟩) (∀o:Bool,o=((c:Int)==5)->split o (∃J:Bool->Prop,(split (!space) (J true) (E.n=m.S/\(E.on m).has p=true/\J ((E.on m).fx p)))/\∀(_gv1:Nat->Value)(d:Bool),J d->Q ⟨vB d,none,[],[],[]⟩) (∀q:Bool,q=((c:Int)==6)->split q (∃J:Bool->Prop,(split (!space) (J true) (E.n=m.S/\(E.on m).has p=true/\J ((E.on m).mN p)))/\∀(_gv1:Nat->Value)(d:Bool),J d->Q ⟨vB d,none,[],[],[]⟩) (∀t:Bool,t=((c:Int)==7)->split t (∃J:Bool->Prop,(split (!space) (J true) (E.n=m.S/\(E.on m).has p=true/\J ((E.on m).mO p)))/\∀(_gv1:Nat->Value)(d:Bool),J d->Q ⟨vB d,none,[],[],[]⟩) (∀u:Bool,u=((c:Int)==8)->split u (∃J:Bool->Prop,(split ((eG E p).typ !=3) (J true) (E.n=m.S/\(E.on m).has p=true/\split (!((E.on m).alive p)) (J true) (E.n=m.S/\(E.on m).has p=true/\J ((E.on m).fw p))))/\∀(_gv1:Nat->Value)(d:Bool),J d->Q ⟨vB d,none,[],[],[]⟩) (∀v:Bool,v=((c:Int)==9)->split v (∃J:Bool->Prop,(split ((eG E p).typ !=4) (J true) (E.n=m.S/\(E.on m).has p=true/\split (!((E.on m).alive p)) (J true) (E.n=m.S/\(E.on m).has p=true/\J ((E.on m).km p))))/\∀(_gv1:Nat->Value)(d:Bool),J d->Q ⟨vB d,none,[],[],[]⟩) (∀x:Bool,x=((c:Int)==10)->split x (∃J:Bool->Prop,(split ((eG E p).typ !=5) (J true) (E.n=m.S/\(E.on m).has p=true/\split (!((E.on m).alive p)) (J true) (E.n=m.S/\(E.on m).has p=true/\J ((E.on m).pY p))))/\∀(_gv1:Nat->Value)(d:Bool),J d->Q ⟨vB d,none,[],[],[]⟩) (∀y:Bool,y=((c:Int)==11)->split y (∃J:Bool->Prop,(split ((eG E p).typ !=2) (J true) (E.n=m.S/\(E.on m).has p=true/\J ((E.on m).jO p)))/\∀(_gv1:Nat->Value)(d:Bool),J d->Q ⟨vB d,none,[],[],[]⟩) (∃J:Bool->Prop,(split ((eG E p).typ !=6) (J true) (E.n=m.S/\(0<=(0:Int)/\(1024:Int)<=1024)/\J ((E.on m).zero p 0 1024)))/\∀(_gv1:Nat->Value)(d:Bool),J d->Q ⟨vB d,none,[],[],[]⟩)))))))))))) λc p r E rm m Q h=>by
 obtain⟨a6,a7,h⟩:=h;exact λf1 f2=>ak (by grind) λs3=>λz=>allEq<| allEq<| aE (λe=>bF ((!(((eG E p).typ:Int)==1)) || (((eG E p).owner:Int)==p)) (ab (λB=>(by grind)) λB=>(by grind))<| aW h (by grind)) λe=>allEq<| aE (λC=>bF ((((eG E p).typ:Int) !=0) || ((E.on m).zero p 0 1024)) (ab (λG=>(by grind)) λG=>ak ‹_› λs4=>ak (by omega) λs5=>(by grind))<| aW h (by grind)) λC=>allEq<| aE (λH=>bF ((((eG E p).typ:Int)==1) || ((((eG E p).typ:Int)==0) || ((E.on m).is ((eG E p).owner) 1))) (ab (λI=>(by grind)) λI=>ab (λM=>(by grind)) λM=>ak ‹_› λs6=>(by grind))<| aW h (by grind)) λH=>allEq<| aE (λN=>bF ((!(((eG E p).typ:Int)==1)) || (((eG E p).refs:Int)==((((own (E.on m) p).length):Nat):Int))) (ab (λO=>(by grind)) λO=>ak ‹_› λs7=>λA e=>λl a8=>(by grind))<| aW h (by grind)) λN=>allEq<| aE (λP=>bF ((!(((eG E p).typ:Int)==1)) || ((E.on m).fx p)) (ab (λR=>(by grind)) λR=>ak ‹_› λs8=>ak ‹_› λs9=>(by grind))<| aW h (by grind)) λP=>allEq<| aE (λS=>bF ((!(((eG E p).typ:Int)==1)) || ((E.on m).mN p)) (ab (λT=>(by grind)) λT=>ak ‹_› λa9=>ak ‹_› λba=>(by grind))<| aW h (by grind)) λS=>allEq<| aE (λV=>bF ((!(((eG E p).typ:Int)==1)) || ((E.on m).mO p)) (ab (λW=>(by grind)) λW=>ak ‹_› λbb=>ak ‹_› λbc=>(by grind))<| aW h (by grind)) λV=>allEq<| aE (λY=>bF ((((eG E p).typ:Int) !=3) || ((!((E.on m).alive p)) || ((E.on m).fw p))) (ab (λan=>(by grind)) λan=>ak ‹_› λbd=>ak ‹_› λbg=>ab (λaz=>(by grind)) λaz=>ak ‹_› λbl=>ak ‹_› λbs=>(by grind))<| aW h (by grind)) λY=>allEq<| aE (λaA=>bF ((((eG E p).typ:Int) !=4) || ((!((E.on m).alive p)) || ((E.on m).km p))) (ab (λaC=>(by grind)) λaC=>ak ‹_› λbA=>ak ‹_› λbC=>ab (λaN=>(by grind)) λaN=>ak ‹_› λbN=>ak ‹_› λb0=>(by grind))<| aW h (by grind)) λaA=>allEq<| aE (λa0=>bF ((((eG E p).typ:Int) !=5) || ((!((E.on m).alive p)) || ((E.on m).pY p))) (ab (λa1=>(by grind)) λa1=>ak ‹_› λb1=>ak ‹_› λb2=>ab (λa2=>(by grind)) λa2=>ak ‹_› λb3=>ak ‹_› λb4=>(by grind))<| aW h (by grind)) λa0=>allEq<| aE (λa3=>bF ((((eG E p).typ:Int) !=2) || ((E.on m).jO p)) (ab (λa4=>(by grind)) λa4=>ak ‹_› λb5=>ak ‹_› λb6=>(by grind))<| aW h (by grind)) λa3=>bF ((((eG E p).typ:Int) !=6) || ((E.on m).zero p 0 1024)) (ab (λa5=>(by grind)) λa5=>ak ‹_› λb7=>ak (by omega) λb8=>(by grind))<| aW h (by grind)
end
theorem DB.ka {D:DB}{c p:Int}(i:1<=c/\c<=12)(f:D.gj (13 - c).toNat c=D.broken)(h:fR (D.clause c) 0 p=true)(e:D.clause c p=false)(d:0<=p/\p<(D.S:Int)):D.broken=(c,p):=by
 rw[<-f,show(13 - c).toNat=(12 - c).toNat+1 by omega,gj,CD,cP d.1 d.2 e,leastN_eq h e d.1 (by omega)];rfl
theorem DB.qH {D:DB}{c:Int}(h:1<=c/\c<=12)(d:D.gj (13 - c).toNat c=D.broken){p:Int}(e:p=(D.S:Int))(f:fR (D.clause c) 0 p=true):D.gj (13 - (c+1)).toNat (c+1)=D.broken:=by
 subst e;rw[<-d,show(13 - c).toNat=(13 - (c+1)).toNat+1 by omega,gj,CD,f];rfl
theorem DB.iX {D:DB}{c:Int}(e:¬c<=12)(f:c<=13)(d:D.gj (13 - c).toNat c=D.broken):D.broken=(0,0):=by
 rw[<-d,show(13 - c).toNat=0 by omega];rfl
def qP:Ctr Un:=⟨[.one (.obj 0 0)],[],[.ob 3 [(1,1,0)],.ob 2 []],[],λr E rm m K=>E.n=m.S/\K ⟨(.tuple #[J (E.on m).broken.1,J (E.on m).broken.2]),kn2,[],[],[]⟩⟩
theorem BI:LV Un Tryz.prog 57 qP:=dJ Tryz.func57 aj [(80,yO)] ⟨Kq,trivial⟩ [4,5] (.r' (.two (.r' (.two (.node [] (some ⟨[(4,(.one (.int .i64)))],[],upN 2 24,[]⟩) [] [] (.r' (.two (.two (.r' (.two (.node [] (some ⟨[(5,(.one (.int .i64)))],[],[2,3,5]++upN 10 16,[]⟩) [] [] .leaf .leaf) .leaf)) .leaf) .leaf)) .leaf) .leaf)) .leaf)) [] (F:=∀r (E:Pd) rm (m:Mem) Q,qP.body r E rm m Q->Pd.Ok E->Mem.Wf m->∀c:Int,c=1->∃I:Nat->Int->Prop,(∃f,I f c)/\∀(f:Nat)(_gv:Nat->Value)(d:Int),I f d->split (decide (d<=12)) (∀p:Int,p=0->∃o:Nat->Int->Prop,(∃i,o i p)/\∀(i:Nat)(_gv1:Nat->Value)(e:Int),o i e->split (decide (e<((Pd.ax E).length:Int))) (E.n=m.S/\(E.on m).has e=true/\split (!((E.on m).clause d e)) (Q ⟨(.tuple #[J d,J e]),kn2,[],[],[]⟩) (∀u:Int,u=(i64.wrap (e+1))->∃v,v<i/\o v u)) (∀y:Int,y=(i64.wrap (d+1))->∃z,z<f/\I z y)) (Q ⟨(.tuple #[J 0,J 0]),kn2,[],[],[]⟩)) λr E rm m Q h=>by
 obtain⟨M,h⟩:=h;exact λf1 f2=>allEq<| ⟨λf d=>(f=(13 - d).toNat)/\(1<=d/\d<=13)/\((E.on m).gj (13 - d).toNat d=(E.on m).broken),⟨_,rfl,(by omega),(by rfl)⟩,λf _ d ⟨hm,j,k⟩=>af (λC=>allEq<| ⟨λi e=>(i=((E.n:Int) - e).toNat)/\(0<=e/\e<=(E.n:Int))/\(fR ((E.on m).clause d) 0 e=true),⟨_,rfl,(by omega),(ez (Int.le_refl _))⟩,λi _ e ⟨hm,B,l⟩=>af (λG=>ak ‹_› λN=>ak (by grind) λO=>bo (λq=>bj h (fy (aB (cx (by rw[DB.ka ⟨j.1,by omega⟩ k l q ⟨B.1,by(grind[Pd.jn])⟩])) (aB (cx (by rw[DB.ka ⟨j.1,by omega⟩ k l q ⟨B.1,by(grind[Pd.jn])⟩])) rfl))) rfl rfl) λq=>allEq<| ⟨_,(by(have H:=aa (x:=e+1) (by grind));grind),rfl,(by(have H:=aa (x:=e+1) (by grind));grind),(bS l (by grind) (aa (by grind)))⟩) λG=>allEq<| ⟨_,(by(have t:=aa (x:=d+1) (by omega));omega),rfl,(by(have t:=aa (x:=d+1) (by omega));omega),(by(have t:=aa (x:=d+1) (by omega));rw[t];exact DB.qH ⟨j.1,by omega⟩ k (show e=((E.on m).S:Int)by(grind[Pd.jn])) l)⟩⟩) λC=>bj h (fy (aB (cx (by rw[DB.iX (by omega) j.2 k])) (aB (cx (by rw[DB.iX (by omega) j.2 k])) rfl))) rfl rfl⟩
end Go.Proofs.YtoghdgcmhbanbaaGreatDoor
end
section
set_option maxRecDepth 100000
set_option maxHeartbeats 1000000
namespace Go.Proofs.YtoghdgcmhbanbaaGreatDoor
open Go Go.RowKit V
open Go.IntKind (i64 u32 u64 wrap_i64 wrap_u32)
open Go.Proofs (Tryz.prog)
attribute [local irreducible] Vc2 VcD
attribute [local grind=] Pd.cO Pd.dj Pd.kZ Pd.k8 Pd.qn Pd.kY Pd.kX Pd.iP Pd.qe Pd.jn
attribute [local grind .] Pd.Ok.ent
attribute [local grind→] Pd.Ok.dD
def jd:Ctr Un:=⟨[.one (.int .i64),.one (.ptr 0)],[],[.blk [.ptr 1] 158,.blk [.obj 2 0,.sl 4] 163,.ob 1 [(1,3,0)],.ob 0 [],.lst 4 false 137],[],λp d g r E rm m A c l K=>E.n=m.S/\l=E.ax/\(E.on m).has p=true/\K ⟨vB ((E.on m).clause 1 p),none,[],[],[]⟩⟩
def Bx(p:Int)(e g:Nat)(r:Nat->Nat)(E:Pd)(rm:Nat->Nat)(m:Mem)(A:oA)(c:Nat)(l:List Ent)(Q:Ou Un->Prop):Prop:=Pd.Ok E->Mem.Wf m->∃J:Bool->Prop,(E.n=m.S/\l=E.ax/\(E.on m).has p=true/\split (!((E.on m).is p 1)) (J true) ((0<=p/\p<(l.length:Int))/\J ((l.getD p.toNat Ent.free).owner==p)))/\∀(_gv:Nat->Value)(d:Bool),J d->Q ⟨vB d,none,[],[],[]⟩
theorem By:Vc2 Un Tryz.prog (dU [(112,cE)]) [] Tryz.f111 (.r' (.two (.node [] (some ⟨[(3,(.one .bool))],[],upN 3 17,[]⟩) [] [] .leaf .leaf) .leaf)) [] jd=(∀p d g r (E:Pd) rm (m:Mem) A c (l:List Ent),∀Q,(E.n=m.S/\l=E.ax/\(E.on m).has p=true/\Q ⟨vB ((E.on m).clause 1 p),none,[],[],[]⟩)->Bx p d g r E rm m A c l Q):=by kernel_rfl
section
attribute [local grind=] DB.HT DB.is
theorem Bw:LV Un Tryz.prog 111 jd:=verify Tryz.func111 aj (tb:= [(112,cE)]) ⟨iY,trivial⟩ (by kernel_rfl) (By.mpr λp f g r E rm m A c l Q h=>by
 obtain⟨i,d,j,h⟩:=h;subst d;exact λf1 f2=>bF ((!((E.on m).is p 1)) || (((E.ax.getD p.toNat Ent.free).owner:Int)==p)) (ak ‹_› λk=>ak (by rfl) λo=>ak ‹_› λq=>ab (λe=>(by grind)) λe=>ak (by grind) λt=>(by grind))<| aW h (by grind))
end
def jc:Ctr Un:=⟨[.one (.int .i64),.one (.ptr 0)],[],[.blk [.ptr 1] 158,.blk [.obj 2 0,.sl 4] 163,.ob 1 [(1,3,0)],.ob 0 [],.lst 4 false 137],[],λp d g r E rm m A c l K=>E.n=m.S/\l=E.ax/\(E.on m).has p=true/\K ⟨vB ((E.on m).clause 2 p),none,[],[],[]⟩⟩
def Bu(p:Int)(e g:Nat)(r:Nat->Nat)(E:Pd)(rm:Nat->Nat)(m:Mem)(A:oA)(c:Nat)(l:List Ent)(Q:Ou Un->Prop):Prop:=Pd.Ok E->Mem.Wf m->∃J:Bool->Prop,(E.n=m.S/\l=E.ax/\(E.on m).has p=true/\split (!((E.on m).is p 0)) (J true) (E.n=m.S/\l=E.ax/\(0<=(0:Int)/\(1024:Int)<=1024)/\J ((E.on m).zero p 0 1024)))/\∀(_gv:Nat->Value)(d:Bool),J d->Q ⟨vB d,none,[],[],[]⟩
theorem Bv:Vc2 Un Tryz.prog (dU [(112,cE),(114,fc)]) [] Tryz.f113 (.r' (.two (.node [] (some ⟨[(3,(.one .bool))],[],upN 3 10,[]⟩) [] [] .leaf .leaf) .leaf)) [] jc=(∀p d g r (E:Pd) rm (m:Mem) A c (l:List Ent),∀Q,(E.n=m.S/\l=E.ax/\(E.on m).has p=true/\Q ⟨vB ((E.on m).clause 2 p),none,[],[],[]⟩)->Bu p d g r E rm m A c l Q):=by kernel_rfl
section
attribute [local grind=] DB.HS DB.is
theorem Bs:LV Un Tryz.prog 113 jc:=verify Tryz.func113 aj (tb:= [(112,cE),(114,fc)]) ⟨iY,oD,trivial⟩ (by kernel_rfl) (Bv.mpr λp f g r E rm m A c l Q h=>by
 obtain⟨i,d,j,h⟩:=h;subst d;exact λf1 f2=>bF ((!((E.on m).is p 0)) || ((E.on m).zero p 0 1024)) (ak ‹_› λk=>ak (by rfl) λo=>ak ‹_› λq=>ab (λe=>(by grind)) λe=>ak ‹_› λt=>ak (by rfl) λu=>ak (by omega) λv=>(by grind))<| aW h (by grind))
end
def jb:Ctr Un:=⟨[.one (.int .i64),.one (.ptr 0)],[],[.blk [.ptr 1] 158,.blk [.obj 2 0,.sl 4] 163,.ob 1 [(1,3,0)],.ob 0 [],.lst 4 false 137],[],λp d g r E rm m A c l K=>E.n=m.S/\l=E.ax/\(E.on m).has p=true/\K ⟨vB ((E.on m).clause 3 p),none,[],[],[]⟩⟩
def Bq(p:Int)(e g:Nat)(r:Nat->Nat)(E:Pd)(rm:Nat->Nat)(m:Mem)(A:oA)(c:Nat)(l:List Ent)(Q:Ou Un->Prop):Prop:=Pd.Ok E->Mem.Wf m->∃J:Bool->Prop,(E.n=m.S/\l=E.ax/\(E.on m).has p=true/\split ((E.on m).is p 0) (J true) (E.n=m.S/\l=E.ax/\(E.on m).has p=true/\split ((E.on m).is p 1) (J true) (E.n=m.S/\l=E.ax/\(E.on m).has p=true/\J (decide (((E.on m).cl p)>=0)))))/\∀(_gv:Nat->Value)(d:Bool),J d->Q ⟨vB d,none,[],[],[]⟩
theorem Br:Vc2 Un Tryz.prog (dU [(112,cE),(116,gB)]) [] Tryz.f115 (.r' (.two (.node [] (some ⟨[(3,(.one .bool))],[],upN 3 15,[]⟩) [] [] .leaf .leaf) .leaf)) [] jb=(∀p d g r (E:Pd) rm (m:Mem) A c (l:List Ent),∀Q,(E.n=m.S/\l=E.ax/\(E.on m).has p=true/\Q ⟨vB ((E.on m).clause 3 p),none,[],[],[]⟩)->Bq p d g r E rm m A c l Q):=by kernel_rfl
section
attribute [local grind=] DB.HR DB.is DB.cl
theorem Bp:LV Un Tryz.prog 115 jb:=verify Tryz.func115 aj (tb:= [(112,cE),(116,gB)]) ⟨iY,uk,trivial⟩ (by kernel_rfl) (Br.mpr λp i g r E rm m A c l Q h=>by
 obtain⟨j,d,k,h⟩:=h;subst d;exact λf1 f2=>bF (((E.on m).is p 0) || (((E.on m).is p 1) || (decide ((((E.on m).cl p):Int)>=0)))) (ak ‹_› λo=>ak (by rfl) λq=>ak ‹_› λt=>ab (λe=>(by grind)) λe=>ak ‹_› λu=>ak (by rfl) λv=>ak ‹_› λx=>ab (λf=>(by grind)) λf=>ak ‹_› λy=>ak (by rfl) λz=>ak ‹_› λB=>(by grind))<| aW h (by grind))
end
def ja:Ctr Un:=⟨[.one (.int .i64),.one (.ptr 0)],[],[.blk [.ptr 1] 158,.blk [.obj 2 0,.sl 4] 163,.ob 1 [(1,3,0)],.ob 0 [],.lst 4 false 137],[],λp d g r E rm m A c l K=>E.n=m.S/\l=E.ax/\(E.on m).has p=true/\K ⟨vB ((E.on m).clause 4 p),none,[],[],[]⟩⟩
def Bm(p:Int)(f g:Nat)(r:Nat->Nat)(E:Pd)(rm:Nat->Nat)(m:Mem)(A:oA)(c:Nat)(l:List Ent)(Q:Ou Un->Prop):Prop:=Pd.Ok E->Mem.Wf m->∃J:Bool->Prop,(E.n=m.S/\l=E.ax/\(E.on m).has p=true/\split (!((E.on m).is p 1)) (J true) ((0<=p/\p<(l.length:Int))/\E.n=m.S/\∀(h:oA)(i:Nat),∀(e:List I64),e=own (E.on m) p->J ((l.getD p.toNat Ent.free).refs==(((own (E.on m) p).length):Int))))/\∀(_gv:Nat->Value)(d:Bool),J d->Q ⟨vB d,none,[],[],[]⟩
theorem Bn:Vc2 Un Tryz.prog (dU [(112,cE),(118,uP)]) [] Tryz.f117 (.r' (.two (.node [] (some ⟨[(3,(.one .bool))],[],upN 3 23,[]⟩) [] [(0,[0]),(5,[0]),(8,[1]),(12,[4]),(13,[0]),(16,[1])] .leaf .leaf) .leaf)) [] ja=(∀p d g r (E:Pd) rm (m:Mem) A c (l:List Ent),∀Q,(E.n=m.S/\l=E.ax/\(E.on m).has p=true/\Q ⟨vB ((E.on m).clause 4 p),none,[],[],[]⟩)->Bm p d g r E rm m A c l Q):=by kernel_rfl
section
attribute [local grind=] DB.HQ DB.is own DB.iT
theorem Bk:LV Un Tryz.prog 117 ja:=verify Tryz.func117 aj (tb:= [(112,cE),(118,uP)]) ⟨iY,IF,trivial⟩ (by kernel_rfl) (Bn.mpr λp f g r E rm m A c l Q h=>by
 obtain⟨i,e,j,h⟩:=h;subst e;exact λf1 f2=>bF ((!((E.on m).is p 1)) || (((E.ax.getD p.toNat Ent.free).refs:Int)==((((own (E.on m) p).length):Nat):Int))) (ak ‹_› λk=>ak (by rfl) λo=>ak ‹_› λq=>ab (λd=>(by grind)) λd=>ak (by grind) λt=>ak ‹_› λu=>λv d=>λx y=>(by grind))<| aW h (by grind))
end
def iZ:Ctr Un:=⟨[.one (.int .i64),.one (.ptr 0)],[],[.blk [.ptr 1] 158,.blk [.obj 2 0,.sl 4] 163,.ob 1 [(1,3,0)],.ob 0 [],.lst 4 false 137],[],λp d g r E rm m A c l K=>E.n=m.S/\l=E.ax/\(E.on m).has p=true/\K ⟨vB ((E.on m).clause 12 p),none,[],[],[]⟩⟩
def Bi(p:Int)(e g:Nat)(r:Nat->Nat)(E:Pd)(rm:Nat->Nat)(m:Mem)(A:oA)(c:Nat)(l:List Ent)(Q:Ou Un->Prop):Prop:=Pd.Ok E->Mem.Wf m->∃J:Bool->Prop,(E.n=m.S/\l=E.ax/\(E.on m).has p=true/\split (!((E.on m).is p 6)) (J true) (E.n=m.S/\l=E.ax/\(0<=(0:Int)/\(1024:Int)<=1024)/\J ((E.on m).zero p 0 1024)))/\∀(_gv:Nat->Value)(d:Bool),J d->Q ⟨vB d,none,[],[],[]⟩
theorem Bj:Vc2 Un Tryz.prog (dU [(112,cE),(114,fc)]) [] Tryz.f126 (.r' (.two (.node [] (some ⟨[(3,(.one .bool))],[],upN 3 10,[]⟩) [] [] .leaf .leaf) .leaf)) [] iZ=(∀p d g r (E:Pd) rm (m:Mem) A c (l:List Ent),∀Q,(E.n=m.S/\l=E.ax/\(E.on m).has p=true/\Q ⟨vB ((E.on m).clause 12 p),none,[],[],[]⟩)->Bi p d g r E rm m A c l Q):=by kernel_rfl
section
attribute [local grind=] DB.Fw DB.is
theorem Bh:LV Un Tryz.prog 126 iZ:=verify Tryz.func126 aj (tb:= [(112,cE),(114,fc)]) ⟨iY,oD,trivial⟩ (by kernel_rfl) (Bj.mpr λp f g r E rm m A c l Q h=>by
 obtain⟨i,d,j,h⟩:=h;subst d;exact λf1 f2=>bF ((!((E.on m).is p 6)) || ((E.on m).zero p 0 1024)) (ak ‹_› λk=>ak (by rfl) λo=>ak ‹_› λq=>ab (λe=>(by grind)) λe=>ak ‹_› λt=>ak (by rfl) λu=>ak (by omega) λv=>(by grind))<| aW h (by grind))
end
def cY(g d:Nat)(n:Int):Value:=
 if n=1 then .func (.func 111) #[] #[.pointer (some ⟨d,0,none⟩)]
 else if n=2 then .func (.func 113) #[] #[.pointer (some ⟨d,0,none⟩)]
 else if n=3 then .func (.func 115) #[] #[.pointer (some ⟨d,0,none⟩)]
 else if n=4 then .func (.func 117) #[] #[.pointer (some ⟨d,0,none⟩)]
 else if n=5 then .func (.func 119) #[.pointer (some ⟨g,0,none⟩)] #[]
 else if n=6 then .func (.func 120) #[.pointer (some ⟨g,0,none⟩)] #[]
 else if n=7 then .func (.func 121) #[.pointer (some ⟨g,0,none⟩)] #[]
 else if n=8 then .func (.func 122) #[.pointer (some ⟨g,0,none⟩)] #[]
 else if n=9 then .func (.func 123) #[.pointer (some ⟨g,0,none⟩)] #[]
 else if n=10 then .func (.func 124) #[.pointer (some ⟨g,0,none⟩)] #[]
 else if n=11 then .func (.func 125) #[.pointer (some ⟨g,0,none⟩)] #[]
 else .func (.func 126) #[] #[.pointer (some ⟨d,0,none⟩)]
def l7:Ctr Un:=⟨[.one (.ptr 0),.one (.int .i64)],[],[.blk [.obj 1 0,.sl 3] 163,.ob 1 [(1,2,0)],.ob 0 [],.lst 4 false 137],[],λn g r E rm m A c l K=>E.n=m.S/\l=E.ax/\∀(d:Nat)(v:Value),v=cY g d n->K ⟨v,none,[],[(.blk d [(.pointer (pvA g))] 158)],[(.c 4 0,.p (.loc 0 0))]⟩⟩
def FP(n:Int)(g:Nat)(r:Nat->Nat)(E:Pd)(rm:Nat->Nat)(m:Mem)(A:oA)(c:Nat)(l:List Ent)(Q:Ou Un->Prop):Prop:=Pd.Ok E->Mem.Wf m->∀(e:Nat),∀f:Bool,f=((n:Int)==1)->split f (∃J:Value->Prop,(J (.func (.func 111) #[] #[(.pointer (pvA e))]))/\∀(_gv1:Nat->Value)(d:Value),J d->Q ⟨d,none,[],[(.blk e [(.pointer (pvA g))] 158)],[(.c 4 0,.p (.loc 0 0))]⟩) (∀h:Bool,h=((n:Int)==2)->split h (∃J:Value->Prop,(J (.func (.func 113) #[] #[(.pointer (pvA e))]))/\∀(_gv1:Nat->Value)(d:Value),J d->Q ⟨d,none,[],[(.blk e [(.pointer (pvA g))] 158)],[(.c 4 0,.p (.loc 0 0))]⟩) (∀i:Bool,i=((n:Int)==3)->split i (∃J:Value->Prop,(J (.func (.func 115) #[] #[(.pointer (pvA e))]))/\∀(_gv1:Nat->Value)(d:Value),J d->Q ⟨d,none,[],[(.blk e [(.pointer (pvA g))] 158)],[(.c 4 0,.p (.loc 0 0))]⟩) (∀j:Bool,j=((n:Int)==4)->split j (∃J:Value->Prop,(J (.func (.func 117) #[] #[(.pointer (pvA e))]))/\∀(_gv1:Nat->Value)(d:Value),J d->Q ⟨d,none,[],[(.blk e [(.pointer (pvA g))] 158)],[(.c 4 0,.p (.loc 0 0))]⟩) (∀k:Bool,k=((n:Int)==5)->split k (∃J:Value->Prop,(J (.func (.func 119) #[(.pointer (pvA g))] #[]))/\∀(_gv1:Nat->Value)(d:Value),J d->Q ⟨d,none,[],[(.blk e [(.pointer (pvA g))] 158)],[(.c 4 0,.p (.loc 0 0))]⟩) (∀o:Bool,o=((n:Int)==6)->split o (∃J:Value->Prop,(J (.func (.func 120) #[(.pointer (pvA g))] #[]))/\∀(_gv1:Nat->Value)(d:Value),J d->Q ⟨d,none,[],[(.blk e [(.pointer (pvA g))] 158)],[(.c 4 0,.p (.loc 0 0))]⟩) (∀p:Bool,p=((n:Int)==7)->split p (∃J:Value->Prop,(J (.func (.func 121) #[(.pointer (pvA g))] #[]))/\∀(_gv1:Nat->Value)(d:Value),J d->Q ⟨d,none,[],[(.blk e [(.pointer (pvA g))] 158)],[(.c 4 0,.p (.loc 0 0))]⟩) (∀q:Bool,q=((n:Int)==8)->split q (∃J:Value->Prop,(J (.func (.func 122) #[(.pointer (pvA g))] #[]))/\∀(_gv1:Nat->Value)(d:Value),J d->Q ⟨d,none,[],[(.blk e [(.pointer (pvA g))] 158)],[(.c 4 0,.p (.loc 0 0))]⟩) (∀t:Bool,t=((n:Int)==9)->split t (∃J:Value->Prop,(J (.func (.func 123) #[(.pointer (pvA g))] #[]))/\∀(_gv1:Nat->Value)(d:Value),J d->Q ⟨d,none,[],[(.blk e [(.pointer (pvA g))] 158)],[(.c 4 0,.p (.loc 0 0))]⟩) (∀u:Bool,u=((n:Int)==10)->split u (∃J:Value->Prop,(J (.func (.func 124) #[(.pointer (pvA g))] #[]))/\∀(_gv1:Nat->Value)(d:Value),J d->Q ⟨d,none,[],[(.blk e [(.pointer (pvA g))] 158)],[(.c 4 0,.p (.loc 0 0))]⟩) (∀v:Bool,v=((n:Int)==11)->split v (∃J:Value->Prop,(J (.func (.func 125) #[(.pointer (pvA g))] #[]))/\∀(_gv1:Nat->Value)(d:Value),J d->Q ⟨d,none,[],[(.blk e [(.pointer (pvA g))] 158)],[(.c 4 0,.p (.loc 0 0))]⟩) (∃J:Value->Prop,(J (.func (.func 126) #[] #[(.pointer (pvA e))]))/\∀(_gv1:Nat->Value)(d:Value),J d->Q ⟨d,none,[],[(.blk e [(.pointer (pvA g))] 158)],[(.c 4 0,.p (.loc 0 0))]⟩)))))))))))
theorem FQ:Vc2 Un Tryz.prog (dU []) [6,9,12,15,18,22,26,30,34,38,42] Tryz.f91 (.r' (.two (.r' (.two (.r' (.two (.two (.node [] (some ⟨[(4,(.one .val))],[],[4,8],[]⟩) [] [] .leaf .leaf) .leaf) (.r' (.two (.two (.node [] (some ⟨[(4,(.one .val))],[],[4,11],[]⟩) [] [] .leaf .leaf) .leaf) (.r' (.two (.two (.node [] (some ⟨[(4,(.one .val))],[],[4,14],[]⟩) [] [] .leaf .leaf) .leaf) (.r' (.two (.two (.node [] (some ⟨[(4,(.one .val))],[],[4,17],[]⟩) [] [] .leaf .leaf) .leaf) (.r' (.two (.two (.node [] (some ⟨[(4,(.one .val))],[],[4,20,21],[]⟩) [] [] .leaf .leaf) .leaf) (.r' (.two (.two (.node [] (some ⟨[(4,(.one .val))],[],[4,24,25],[]⟩) [] [] .leaf .leaf) .leaf) (.r' (.two (.two (.node [] (some ⟨[(4,(.one .val))],[],[4,28,29],[]⟩) [] [] .leaf .leaf) .leaf) (.r' (.two (.two (.node [] (some ⟨[(4,(.one .val))],[],[4,32,33],[]⟩) [] [] .leaf .leaf) .leaf) (.r' (.two (.two (.node [] (some ⟨[(4,(.one .val))],[],[4,36,37],[]⟩) [] [] .leaf .leaf) .leaf) (.r' (.two (.two (.node [] (some ⟨[(4,(.one .val))],[],[4,40,41],[]⟩) [] [] .leaf .leaf) .leaf) (.r' (.two (.two (.node [] (some ⟨[(4,(.one .val))],[],[4,44,45],[]⟩) [] [] .leaf .leaf) .leaf) .leaf)))))))))))))))))))))) .leaf)) (.two (.node [] (some ⟨[(4,(.one .val))],[],[4,46],[]⟩) [] [] .leaf .leaf) .leaf))) [4] l7=(∀n g r (E:Pd) rm (m:Mem) A c (l:List Ent),∀Q,(E.n=m.S/\l=E.ax/\∀(d:Nat)(v:Value),v=cY g d n->Q ⟨v,none,[],[(.blk d [(.pointer (pvA g))] 158)],[(.c 4 0,.p (.loc 0 0))]⟩)->FP n g r E rm m A c l Q):=by kernel_rfl
theorem FO:LV Un Tryz.prog 91 l7:=verify Tryz.func91 aj (tb:= []) trivial (by kernel_rfl) (FQ.mpr λn g r E rm m A c l Q h=>by
 obtain⟨y,x,h⟩:=h;subst x;exact λf1 f2=>λd=>allEq<| aE (λe=>qY<| bj (h d (.func (.func 111) #[] #[(.pointer (pvA d))]) (by simp[cY,e])) rfl rfl (aB (congrArg (λl=>Res.blk (U:=Un) _ l _) rfl) rfl)) λe=>allEq<| aE (λf=>qY<| bj (h d (.func (.func 113) #[] #[(.pointer (pvA d))]) (by simp[cY,e,f])) rfl rfl (aB (congrArg (λl=>Res.blk (U:=Un) _ l _) rfl) rfl)) λf=>allEq<| aE (λi=>qY<| bj (h d (.func (.func 115) #[] #[(.pointer (pvA d))]) (by simp[cY,e,f,i])) rfl rfl (aB (congrArg (λl=>Res.blk (U:=Un) _ l _) rfl) rfl)) λi=>allEq<| aE (λj=>qY<| bj (h d (.func (.func 117) #[] #[(.pointer (pvA d))]) (by simp[cY,e,f,i,j])) rfl rfl (aB (congrArg (λl=>Res.blk (U:=Un) _ l _) rfl) rfl)) λj=>allEq<| aE (λk=>qY<| bj (h d (.func (.func 119) #[(.pointer (pvA g))] #[]) (by simp[cY,e,f,i,j,k])) rfl rfl (aB (congrArg (λl=>Res.blk (U:=Un) _ l _) rfl) rfl)) λk=>allEq<| aE (λo=>qY<| bj (h d (.func (.func 120) #[(.pointer (pvA g))] #[]) (by simp[cY,e,f,i,j,k,o])) rfl rfl (aB (congrArg (λl=>Res.blk (U:=Un) _ l _) rfl) rfl)) λo=>allEq<| aE (λp=>qY<| bj (h d (.func (.func 121) #[(.pointer (pvA g))] #[]) (by simp[cY,e,f,i,j,k,o,p])) rfl rfl (aB (congrArg (λl=>Res.blk (U:=Un) _ l _) rfl) rfl)) λp=>allEq<| aE (λq=>qY<| bj (h d (.func (.func 122) #[(.pointer (pvA g))] #[]) (by simp[cY,e,f,i,j,k,o,p,q])) rfl rfl (aB (congrArg (λl=>Res.blk (U:=Un) _ l _) rfl) rfl)) λq=>allEq<| aE (λt=>qY<| bj (h d (.func (.func 123) #[(.pointer (pvA g))] #[]) (by simp[cY,e,f,i,j,k,o,p,q,t])) rfl rfl (aB (congrArg (λl=>Res.blk (U:=Un) _ l _) rfl) rfl)) λt=>allEq<| aE (λu=>qY<| bj (h d (.func (.func 124) #[(.pointer (pvA g))] #[]) (by simp[cY,e,f,i,j,k,o,p,q,t,u])) rfl rfl (aB (congrArg (λl=>Res.blk (U:=Un) _ l _) rfl) rfl)) λu=>allEq<| aE (λv=>qY<| bj (h d (.func (.func 125) #[(.pointer (pvA g))] #[]) (by simp[cY,e,f,i,j,k,o,p,q,t,u,v])) rfl rfl (aB (congrArg (λl=>Res.blk (U:=Un) _ l _) rfl) rfl)) λv=>qY<| bj (h d (.func (.func 126) #[] #[(.pointer (pvA d))]) (by simp[cY,e,f,i,j,k,o,p,q,t,u,v])) rfl rfl (aB (congrArg (λl=>Res.blk (U:=Un) _ l _) rfl) rfl))
def pH:Ctr Un:=⟨[.one (.obj 0 0)],[],[.ob 1 [(1,1,0)],.ob 0 []],[],λr E rm m K=>E.n=m.S/\K ⟨(.tuple #[J (E.on m).broken.1,J (E.on m).broken.2]),kn2,[],[],[]⟩⟩
def FT(r:Nat->Nat)(E:Pd)(rm:Nat->Nat)(m:Mem)(Q:Ou Un->Prop):Prop:=Pd.Ok E->Mem.Wf m->E.n=m.S/\∀(e:Nat)(A:oA)(c:Nat),∀(l:List Ent),l=E.ax->∃I:Nat->Int->Int->Int->Prop,(∃i,I i 0 0 0)/\∀(i:Nat)(_gv1:Nat->Value)(number aV h:Int),I i number aV h->split (decide (h<12)) (E.n=m.S/\l=E.ax/\∀(f:Nat)(v:Value),v=cY e f (i64.wrap (h+1))->∃k:Nat->Int->Int->Int->Prop,(∃j,k j number aV 0)/\∀(j:Nat)(_gv2:Nat->Value)(o p d:Int),k j o p d->split (decide (d<(E.ax.length:Int))) (∃b:Bool,((v=(.func (.func 111) #[] #[(.pointer (pvA f))])/\E.n=m.S/\l=E.ax/\(E.on m).has d=true/\((vB ((E.on m).clause 1 d)):Value)=(vB b))\/(v=(.func (.func 113) #[] #[(.pointer (pvA f))])/\E.n=m.S/\l=E.ax/\(E.on m).has d=true/\((vB ((E.on m).clause 2 d)):Value)=(vB b))\/(v=(.func (.func 115) #[] #[(.pointer (pvA f))])/\E.n=m.S/\l=E.ax/\(E.on m).has d=true/\((vB ((E.on m).clause 3 d)):Value)=(vB b))\/(v=(.func (.func 117) #[] #[(.pointer (pvA f))])/\E.n=m.S/\l=E.ax/\(E.on m).has d=true/\((vB ((E.on m).clause 4 d)):Value)=(vB b))\/(v=(.func (.func 119) #[(.pointer (pvA e))] #[])/\E.n=m.S/\l=E.ax/\(E.on m).has d=true/\((vB ((E.on m).clause 5 d)):Value)=(vB b))\/(v=(.func (.func 120) #[(.pointer (pvA e))] #[])/\E.n=m.S/\l=E.ax/\(E.on m).has d=true/\((vB ((E.on m).clause 6 d)):Value)=(vB b))\/(v=(.func (.func 121) #[(.pointer (pvA e))] #[])/\E.n=m.S/\l=E.ax/\(E.on m).has d=true/\((vB ((E.on m).clause 7 d)):Value)=(vB b))\/(v=(.func (.func 122) #[(.pointer (pvA e))] #[])/\E.n=m.S/\l=E.ax/\(E.on m).has d=true/\((vB ((E.on m).clause 8 d)):Value)=(vB b))\/(v=(.func (.func 123) #[(.pointer (pvA e))] #[])/\E.n=m.S/\l=E.ax/\(E.on m).has d=true/\((vB ((E.on m).clause 9 d)):Value)=(vB b))\/(v=(.func (.func 124) #[(.pointer (pvA e))] #[])/\E.n=m.S/\l=E.ax/\(E.on m).has d=true/\((vB ((E.on m).clause 10 d)):Value)=(vB b))\/(v=(.func (.func 125) #[(.pointer (pvA e))] #[])/\E.n=m.S/\l=E.ax/\(E.on m).has d=true/\((vB ((E.on m).clause 11 d)):Value)=(vB b))\/(v=(.func (.func 126) #[] #[(.pointer (pvA f))])/\E.n=m.S/\l=E.ax/\(E.on m).has d=true/\((vB ((E.on m).clause 12 d)):Value)=(vB b)))/\split (!b) (Q ⟨(.tuple #[J (i64.wrap (h+1)),J d]),kn2,[],[],[]⟩) (∃q,q<j/\k q o p (i64.wrap (d+1)))) (∃t,t<i/\I t o p (i64.wrap (h+1)))) (Q ⟨(.tuple #[J number,J aV]),kn2,[],[],[]⟩)
theorem FU:Vc2 Un Tryz.prog ⟨EJ [(90,rX),(91,l7),(111,jd),(113,jc),(115,jb),(117,ja),(119,mf),(120,oE),(121,oG),(122,oF),(123,rY),(124,l6),(125,lZ),(126,iZ)],.bool,[(111,[],[(.loc 4 0)]),(113,[],[(.loc 4 0)]),(115,[],[(.loc 4 0)]),(117,[],[(.loc 4 0)]),(119,[(.loc 2 0)],[]),(120,[(.loc 2 0)],[]),(121,[(.loc 2 0)],[]),(122,[(.loc 2 0)],[]),(123,[(.loc 2 0)],[]),(124,[(.loc 2 0)],[]),(125,[(.loc 2 0)],[]),(126,[],[(.loc 4 0)])]⟩ [] Tryz.f78 (.r' (.two (.r' (.r' (.two (.r' (.two (.node [] (some ⟨[(2,(.one (.int .i64))),(3,(.one (.int .i64))),(10,(.one (.int .i64)))],[],[2,3,5,6,7]++upN 10 24,[]⟩) [] [] (.r' (.r' (.two (.two (.r' (.r' (.r' (.two (.node [] (some ⟨[(2,(.one (.int .i64))),(3,(.one (.int .i64))),(22,(.one (.int .i64)))],[],[2,3,7]++upN 22 11,[]⟩) [] [] .leaf .leaf) .leaf)))) .leaf) .leaf))) .leaf) .leaf)) .leaf))) .leaf)) [] pH=(∀r (E:Pd) rm (m:Mem),∀Q,(pH.body r E rm m Q)->FT r E rm m Q):=by kernel_rfl
theorem FR:LV Un Tryz.prog 78 pH:=verify Tryz.func78 aj (tb:= [(90,rX),(91,l7),(111,jd),(113,jc),(115,jb),(117,ja),(119,mf),(120,oE),(121,oG),(122,oF),(123,rY),(124,l6),(125,lZ),(126,iZ)]) ⟨Ki,FO,Bw,Bs,Bp,Bk,FW,Ih,Is,Ip,Kj,FL,FI,Bh,trivial⟩ (by kernel_rfl) (FU.mpr λr E rm m Q h=>by
 obtain⟨i,h⟩:=h;exact λf1 f2=>ak ‹_› λO=>λF A c=>λl j=>⟨λu number aV e=>(u=(12 - e).toNat)/\(number=0/\aV=0)/\(0<=e/\e<=12)/\((E.on m).gj (13 - (e+1)).toNat (e+1)=(E.on m).broken),⟨_,rfl,(by omega),(by omega),(by rfl)⟩,λu _ number aV e ⟨hm,P,R,p⟩=>af (λG=>ak ‹_› λS=>ak ‹_› λT=>λH v f6=>(by(have f:=(by assumption:v=cY F H (i64.wrap (e+1))));(rw[aa (x:=e+1) (by omega)]at f);exact⟨λy z B o=>(y=((E.n:Int) - o).toNat)/\(z=0/\B=0)/\(0<=o/\o<=(E.n:Int))/\(fR ((E.on m).clause (e+1)) 0 o=true),⟨_,rfl,‹_›,(by omega),(ez (Int.le_refl _))⟩,λy _ z B o ⟨hm,I,C,q⟩=>af (λJ=>(by(have k:(E.on m).has o=true:=by grind);exact⟨((E.on m).clause (e+1) o),(by rcases(show e+1=1\/e+1=2\/e+1=3\/e+1=4\/e+1=5\/e+1=6\/e+1=7\/e+1=8\/e+1=9\/e+1=10\/e+1=11\/e+1=12 from by omega)with d|d|d|d|d|d|d|d|d|d|d|d<;>first|exact .inl ⟨by rw[f,d];rfl,i,j,k,by rw[d]⟩|exact .inr (.inl ⟨by rw[f,d];rfl,i,j,k,by rw[d]⟩)|exact .inr (.inr (.inl ⟨by rw[f,d];rfl,i,j,k,by rw[d]⟩))|exact .inr (.inr (.inr (.inl ⟨by rw[f,d];rfl,i,j,k,by rw[d]⟩)))|exact .inr (.inr (.inr (.inr (.inl ⟨by rw[f,d];rfl,i,j,k,by rw[d]⟩))))|exact .inr (.inr (.inr (.inr (.inr (.inl ⟨by rw[f,d];rfl,i,j,k,by rw[d]⟩)))))|exact .inr (.inr (.inr (.inr (.inr (.inr (.inl ⟨by rw[f,d];rfl,i,j,k,by rw[d]⟩))))))|exact .inr (.inr (.inr (.inr (.inr (.inr (.inr (.inl ⟨by rw[f,d];rfl,i,j,k,by rw[d]⟩)))))))|exact .inr (.inr (.inr (.inr (.inr (.inr (.inr (.inr (.inl ⟨by rw[f,d];rfl,i,j,k,by rw[d]⟩))))))))|exact .inr (.inr (.inr (.inr (.inr (.inr (.inr (.inr (.inr (.inl ⟨by rw[f,d];rfl,i,j,k,by rw[d]⟩)))))))))|exact .inr (.inr (.inr (.inr (.inr (.inr (.inr (.inr (.inr (.inr (.inl ⟨by rw[f,d];rfl,i,j,k,by rw[d]⟩))))))))))|exact .inr (.inr (.inr (.inr (.inr (.inr (.inr (.inr (.inr (.inr (.inr (⟨by rw[f,d];rfl,i,j,k,by rw[d]⟩)))))))))))),bo (λt=>bj h (fy (aB (cx (by(rw[aa (x:=e+1) (by omega),DB.ka ⟨by omega,by omega⟩ p q t ⟨C.1,by grind⟩]))) (aB (cx (by(rw[DB.ka ⟨by omega,by omega⟩ p q t ⟨C.1,by grind⟩]))) rfl))) rfl rfl) λt=>⟨_,(by(have M:=aa (x:=o+1) (by grind));grind),rfl,‹_›,(by(have M:=aa (x:=o+1) (by grind));grind),(bS q (by grind) (aa (by grind)))⟩⟩)) λJ=>⟨_,(by(have N:=aa (x:=e+1) (by omega));omega),rfl,(I),(by(have N:=aa (x:=e+1) (by omega));omega),(by rw[aa (x:=e+1) (by omega)];exact DB.qH ⟨by omega,by omega⟩ p (show o=((E.on m).S:Int)by grind) q)⟩⟩)) λG=>bj h (fy (aB (cx (by rw[DB.iX (by omega) (by omega) p];omega)) (aB (cx (by rw[DB.iX (by omega) (by omega) p];omega)) rfl))) rfl rfl⟩)
end Go.Proofs.YtoghdgcmhbanbaaGreatDoor
end
section
set_option maxRecDepth 100000
namespace Go.Proofs.YtoghdgcmhbanbaaGreatDoor
open Go Go.RowKit V
open Go.IntKind (i64 u32 u64 wrap_i64 wrap_u32)
open Go.Proofs (Tryz.prog)
theorem BY(m o:oA)(au x:Nat){R:aK}{w:World}(h:∃u:Bool->World->Prop,(split m.isNone (u true w) (Calls Tryz.prog 72 #[(.pointer m)] w λe d=>∃P:Int,e=.returned (J P)/\split ((((au:Nat):Int):Int) !=(i64.wrap (1+(i64.wrap (2*P))))) (u true d) ((0<=(0:Int)/\(0:Int)<((au:Nat):Int))/\ai o λbN=>∃Q:Int,d.cell? (bN.add (Int.toNat 0*1))=some (O Q)/\u (decide ((Q:Int)>64)) d)))/\∀(_gv:Nat->Value)(S:Bool),∀d,u S d->split S (R (.tuple #[(.pointer none),J 110]) d) (∃b:bP,(0<=(0:Int)/\(0:Int)<((au:Nat):Int))/\ai o λT=>b 3 ((T.add (Int.toNat 0*1)).block)/\∃V:Int,d.drew.cell? (T.add (Int.toNat 0*1))=some (O V)/\∃W:oA,∃Y an:Nat,∃p,(Instr.makeSlice 26 (J (i64.wrap (((au:Nat):Int) - 1))) (J (i64.wrap (((au:Nat):Int) - 1))):Sem Value).run Tryz.prog d.drew=.ok (.slice W Y an) p/\Kept (aX b [0,1,2,3,4]) d.drew p/\∃y:bP,(∀i k,b i k->y i k)/\∀(j:Nat)(q:World),j=p.heap.size->q=p.alloc (.cells #[(.pointer m),J (i64.wrap V),(.slice W Y an)] 96)->Kept (aX y [1,2,5,6]) p q/\∃b2:bP,(∀i k,y i k->b2 i k)/\∃z:bP,z 3 (((vA j).add 2).block)/\∃az:oA,∃aA aC:Nat,q.drew.cell? ((vA j).add 2)=some (.slice az aA aC)/\(0<=(1:Int)/\(1:Int)<=((au:Nat):Int))/\∀aN:oA,aN=(if x=(Int.toNat 1)then o else(o:oA).map (·.add ((Int.toNat 1)*1)))->∀a0:Nat,a0=au - (Int.toNat 1)->∀a1:Nat,a1=x - (Int.toNat 1)->∃b0:Int,∃B,(Builtin.copy_ #[26,26] 3 #[(.slice az aA aC),(.slice aN a0 a1)]:Sem Value).run Tryz.prog q.drew=.ok (J b0) B/\Kept (aX z [0]) q.drew B/\∃b4:bP,(∀i k,z i k->b4 i k)/\Calls Tryz.prog 73 #[(.pointer (pvA j))] B λe b5=>∃a2:Int,e=.returned (J a2)/\∃I:Nat->Int->World->Prop,(∃v,I v 0 b5)/\∀(v:Nat)(_gv2:Nat->Value)(f:Int),∀l,I v f l->split (decide ((f:Int)<a2)) (∃C:oA,∃F G:Nat,l.cell? ((vA j).add 2)=some (.slice C F G)/\(0<=(i64.wrap (2*f):Int)/\(i64.wrap (2*f):Int)<=((F:Nat):Int))/\∀a3:oA,a3=(if G=(Int.toNat (i64.wrap (2*f)))then C else(C:oA).map (·.add ((Int.toNat (i64.wrap (2*f)))*1)))->∀a4:Nat,a4=F - (Int.toNat (i64.wrap (2*f)))->∀b6:Nat,b6=G - (Int.toNat (i64.wrap (2*f)))->2<=a4/\ai a3 λa5=>∃a6 a7:Int,(l.cell? (a5.add 0)=some (O a6)/\l.cell? (a5.add 1)=some (O a7))/\Calls Tryz.prog 74 #[(.agg #[O a6,O a7])] l λe a8=>∃a9 ba bb bc:Int,∃bd:Bool,∃bg:Int,e=.returned (.tuple #[(.agg #[J a9,J ba,J bb,J bc,vB bd]),J bg])/\∀(H:Nat)(bl:World),H=a8.heap.size->bl=a8.alloc (.cells (#[J 0,J 0,J 0,J 0,vB false]) 137)->ao bl (vA H) [J a9,J ba,J bb,J bc,vB bd] λM=>∃N:Bool->World->Prop,(split ((bg:Int) !=0) (N true M) (∃bs:Int,M.cell? ((vA H).add 1)=some (J bs)/\Calls Tryz.prog 75 #[(.pointer (pvA j)),J bs] M λe t=>∃bA:Bool,e=.returned (vB bA)/\N (!bA) t))/\∀(_gv4:Nat->Value)(bC:Bool),∀t,N bC t->split bC (R (.tuple #[(.pointer none),J 110]) t) (∃m2,m2<v/\I m2 (i64.wrap (f+1)) t)) (R (.tuple #[(.pointer (pvA j)),J 0]) l))):Calls Tryz.prog 48 #[(.pointer m),(.slice o au x)] w (aT R):=rvc [] (aq (.node none (.node none (.node (some ⟨[(26,.one (.bool))],(rgN 10 17)⟩) .leaf .leaf) .leaf) (aq (aq (.node none (aq (.node none (.node (some ⟨[(47,.one (.int .i64))],[4,5,7,8,9,47,48,49,50,51,52,53,54,55,56,57,58,59,60,61,62,63,64,65,66,67,68,69,70,71,72]⟩) (aq (aq (.node none (.node none (aq (aq (.node none (.node (some ⟨[(71,.one (.bool))],(rgN 63 9)⟩) .leaf .leaf) .leaf))) .leaf) .leaf))) .leaf) .leaf)) .leaf))))) Tryz.func48 h
end Go.Proofs.YtoghdgcmhbanbaaGreatDoor
end
section
set_option maxRecDepth 10000
set_option maxHeartbeats 1000000
namespace Go.Proofs.YtoghdgcmhbanbaaGreatDoor
open Go Go.RowKit V
open Go.IntKind (i64 u32 u64 wrap_i64 wrap_u32)
theorem Eo {g n c:Nat}{mp A:Option Addr}{b:Int}{T:TypeId}{w:World}(d:Blk w g #[.pointer mp,.int .i64 b,.slice A (2*n) c] T)(f:n<=64):
 Calls Tryz.prog 73 #[(.pointer (pvA g))] w λe w'=>∃v,e=.returned v/\v=.int .i64 (n:Int)/\w'=w:=by
 refine oM (pvA g) ?_;refine ah _ rfl ⟨_,_,_,d.at rfl,?_⟩;exact⟨congrArg (Value.int .i64) (by rw[aa (by rw[Int.tdiv_eq_ediv_of_nonneg (by omega)];omega)];rw[Int.tdiv_eq_ediv_of_nonneg (by omega)];omega),rfl⟩
theorem MP {g n c:Nat}{mp A:Option Addr}{b:Int}{T:TypeId}{w:World}(f:Blk w g #[.pointer mp,.int .i64 b,.slice A (2*n) c] T)(h:n<=64)(aV:Int):
 Calls Tryz.prog 75 #[(.pointer (pvA g)),J aV] w λe w'=>∃v,e=.returned v/\v=.bool (decide (0<=aV/\aV<(n:Int)))/\Pu w w':=by
 refine uS (pvA g) _ ?_;refine⟨λx w'=>x=((decide ((aV:Int)>=0)) && (decide ((aV:Int)<(n:Int))))/\Pu w w',?_,?_⟩
 ·refine ab (λd=>?_) (λd=>?_)
  ·refine Calls.mono (Eo f h) ?_;rintro e k ⟨_,rfl,rfl,i⟩;obtain rfl:=i.symm;exact⟨_,rfl,by simp only[d,Bool.true_and],Ch.refl _ _⟩
  ·exact⟨by simp only[d,Bool.false_and],Ch.refl _ _⟩
 rintro _ _ l ⟨rfl,j⟩;exact⟨congrArg Value.bool (by rw[Bool.eq_iff_iff];simp),j⟩
theorem DB.qp {m:Mem}{l:List U32}(h:¬l.length=1+2*m.S):DB.aF m l=110:=by unfold DB.aF;rw[if_pos h]
theorem DB.wk {m:Mem}{l:List U32}(h:l.length=1+2*m.S)(d:DB.wd l 0>64):DB.aF m l=110:=by unfold DB.aF;rw[if_neg (by simpa using h),if_pos d]
theorem DB.wj {m:Mem}{l:List U32}(h:l.length=1+2*m.S)(d:¬DB.wd l 0>64):DB.aF m l=if(List.range m.S).all (DB.fq m l)then 0 else 110:=by unfold DB.aF;rw[if_neg (by simpa using h),if_neg d]
theorem DB.cw {m:Mem}{l:List U32}(h:l.length=1+2*m.S)(d:¬DB.wd l 0>64){p:Nat}(e:p<m.S)(he:DB.fq m l p=false):DB.aF m l=110:=by
 rw[wj h d,if_neg];intro f;have:=List.all_eq_true.1 f p (List.mem_range.2 e);rw[he]at this;cases this
theorem DB.qq {m:Mem}{l:List U32}(h:l.length=1+2*m.S)(d:¬DB.wd l 0>64)(e:∀p,p<m.S->DB.fq m l p=true):DB.aF m l=0:=by
 rw[wj h d,if_pos (List.all_eq_true.2 λp h=>e p (List.mem_range.1 h))]
theorem DB.rE {l:List U32}{i:Nat}:((l.drop 1).map U32.v).getD i 0=DB.wd l (1+i):=by
 unfold DB.wd;rw[List.getD_eq_getElem?_getD,List.getD_eq_getElem?_getD,List.getElem?_map,List.getElem?_drop];cases l[1+i]? <;>rfl
theorem DB.xw {l:List U32}(hw:∀x∈l,0<=x.v/\x.v<4294967296)(i:Nat):0<=DB.wd l i/\DB.wd l i<4294967296:=by
 unfold DB.wd;rw[List.getD_eq_getElem?_getD];by_cases hi:i<l.length
 ·rw[List.getElem?_eq_getElem hi];exact hw _ (List.getElem_mem hi)
 ·rw[List.getElem?_eq_none (by omega)];show(0:Int)<=0/\(0:Int)<_;omega
theorem MN {L:fP}{m:Mem}{Z:Nat->Prop}{M:Option Addr}{au N:Nat}{l:List U32}{w:World}(h:cH w L m)(z:Rd w Z M au N l)(hw:∀x∈l,0<=x.v/\x.v<4294967296):
 Calls Tryz.prog 48 #[(.pointer (some (Addr.mk L.g 0 none))),(.slice M au N)] w λe w'=>∃v,e=.returned v/\∃p:oA,v=.tuple #[.pointer p,.int .i64 (DB.aF m l)]/\
  (DB.aF m l=0->∃g a,p=some (vA g)/\DBP w' ⟨g,a,L⟩ (DB.load m l)/\w.heap.size<=g/\w.heap.size<=a)/\(DB.aF m l≠0->p=none)/\Pu w w':=by
 have hm:=h.dD;have hl:=z.len;have a9:=z.cap;have bb:=z.lt;have an:i64.wrap (1+i64.wrap (2*(m.S:Int)))=1+2*(m.S:Int):=by rw[aa (x:=2*(m.S:Int)) (by omega),aa (by omega)]
 refine BY (some (Addr.mk L.g 0 none)) M au N ?_;refine⟨λb w'=>b=(decide (¬l.length=1+2*m.S) || decide (DB.wd l 0>64))/\Pu w w',?_,?_⟩
 ·refine bG ?_;refine Calls.mono (rK h) ?_;rintro e w1 ⟨_,rfl,rfl,rfl⟩;refine⟨_,rfl,?_⟩;refine aG (λf=>?_) (λf=>?_)
  ·rw[an]at f;exact⟨by rw[show decide (¬l.length=1+2*m.S)=true by simp;omega];rfl,Ch.refl _ _⟩
  ·rw[an]at f;refine⟨by omega,?_⟩;obtain⟨p,P,hZ,Q⟩:=z.u32 (by omega);refine ah p P ⟨_,Q 0 (by omega),?_,Ch.refl _ _⟩;rw[show decide (¬l.length=1+2*m.S)=false by simp;omega,Bool.false_or];rfl
 rintro _ _ wv ⟨rfl,q⟩;refine bm (λf=>?_) (λf=>?_)
 ·have he:DB.aF m l=110:=by
   simp only[decide_eq_true_eq]at f;by_cases R:l.length=1+2*m.S
   ·rcases f with f|f
    ·exact absurd R f
    ·exact DB.wk R f
   ·exact DB.qp R
  exact⟨none,by rw[he],by rw[he];intro S;omega,λ_=>rfl,q⟩
 simp only[decide_eq_false_iff_not,Classical.not_not]at f;obtain⟨hlen,hb⟩:=f;have T:=(z.pu q).pu (Pu.aw _);obtain⟨p,P,hZ,Q⟩:=T.u32 (by omega);refine⟨bXU [3] [] wv.drew (λ_=>False),by omega,ah p P ⟨.inr ⟨by decide,bX.lt (T.lt _ hZ) (λh=>h)⟩,_,Q 0 (by omega),?_⟩⟩;have en:i64.wrap (((au:Nat):Int) - 1)=2*(m.S:Int):=by rw[aa (by omega)];omega
 rw[en];refine j3 sW (n:=2*(m.S:Int)) (by omega) (by omega) (by omega) λi a2 t=>?_;refine bXU.cV t.pu (by decide) ?_;refine mkd λC V j=>?_;refine bXU.cV j.pu (by decide) ?_;have q0:Pu w wv.drew:=q.drew;have Y:=t.lo q0;have q1:Pu w a2:=q0.made t;have az:=j.lo q1;have q2:Pu w V:=q1.made j;have d:Blk V.drew i (bD (List.replicate (2*(m.S:Int)).toNat 0)) _:=(j.old (t.blk.cast (jz _ _))).drew;have bv:=j.blk.drew;have aA:=j.ne t.blk;have a3:=((T.pu t.pu).pu j.pu).pu (Pu.aw _);refine⟨bXU [] [3] V.drew (λ_=>False),.inl (by decide),_,_,_,bv.at rfl,by omega,?_⟩;rintro xA e1 xN e2 xC e3;have r:=Rd.from_ (lo:=Int.toNat 1) a3 e1 e2 e3 (by omega) (by omega);refine wH sW d rfl r.ints (by simp;omega) λa4 F=>?_;refine bXU.D4 F.ch (by decide) ?_;have a5:oT (List.replicate (2*(m.S:Int)).toNat 0) 0 (((l.drop (Int.toNat 1)).map U32.v).take (min xN (2*(m.S:Int)).toNat))=(l.drop 1).map U32.v:=by
  rw[List.take_of_length_le (by rw[e2];simp;omega)];exact sS _ _ (by simp;omega)
 have d:=F.blk;rw[a5]at d;have bv:=F.old bv (λe=>aA e.symm);have q3:Pu w a4:=(q2.drew).stored F (.inr Y);have a6:(2*(m.S:Int)).toNat=2*m.S:=by omega
 rw[a6]at bv;refine Calls.mono (Eo bv hm.1) ?_;rintro e w4 ⟨_,rfl,rfl,rfl⟩;refine⟨_,rfl,?_⟩;refine⟨λmz x W=>mz=((m.S:Int) - x).toNat/\(0<=x/\x<=(m.S:Int))/\Pu w W/\Blk W C #[.pointer (some (Addr.mk L.g 0 none)),.int .i64 (i64.wrap (DB.wd l 0)),.slice (pvA i) (2*m.S) (2*m.S)] 96/\Blk W i (bD ((l.drop 1).map U32.v)) 22/\∀q,q<x.toNat->DB.fq m l q=true,
  ⟨_,rfl,⟨by omega,by omega⟩,q3,bv,d,λq hq=>by omega⟩,?_⟩
 rintro _ _ x w5 ⟨rfl,G,H,bv,d,aC⟩;have B:((l.drop 1).map U32.v).length=2*m.S:=by simp;omega
 refine af (λc2=>?_) (λc2=>?_)
 ·have ex:i64.wrap (2*x)=2*x:=aa (by omega);have ext:(2*x).toNat=2*x.toNat:=by omega
  refine⟨_,_,_,bv.at rfl,by rw[ex];omega,?_⟩;rintro _ rfl _ rfl _ rfl;rw[ex,ext];refine⟨by omega,ah (Addr.mk i (2*x.toNat) none) (by rw[if_neg (by omega)];simp[Addr.add];omega) ?_⟩;refine⟨_,_,⟨by rw[bn];exact d.cell (fE (by rw[B];omega)),by rw[bn];exact d.cell (fE (by rw[B];omega))⟩,?_⟩;have ea:((l.drop 1).map U32.v).getD (2*x.toNat+0) 0=DB.wd l (1+2*x.toNat):=DB.rE;have eb:((l.drop 1).map U32.v).getD (2*x.toNat+1) 0=DB.wd l (2+2*x.toNat):=by rw[DB.rE];congr 1;omega
  rw[ea,eb];refine Calls.mono (El _ _ (DB.xw hw _) (DB.xw hw _)) ?_;rintro e w6 ⟨_,rfl,rfl,u⟩;refine⟨_,_,_,_,_,_,rfl,?_⟩;refine mkd λge w7 o=>?_;have be:=o.blk;refine bx be (by simp) λw8 I=>?_;have be:Blk w8 ge #[.int .i64 (Ent.dec (DB.wd l (1+2*x.toNat)) (DB.wd l (2+2*x.toNat))).typ,.int .i64 (Ent.dec (DB.wd l (1+2*x.toNat)) (DB.wd l (2+2*x.toNat))).owner,.int .i64 (Ent.dec (DB.wd l (1+2*x.toNat)) (DB.wd l (2+2*x.toNat))).refs,.int .i64 (Ent.dec (DB.wd l (1+2*x.toNat)) (DB.wd l (2+2*x.toNat))).state,.bool (Ent.dec (DB.wd l (1+2*x.toNat)) (DB.wd l (2+2*x.toNat))).bw] _:=I.blk;have q7:Pu w w7:=(H.pu u).made o;have q8:Pu w w8:=q7.stored I (.inr (o.lo (H.pu u)));have nv:=o.ne (u.blk bv);have na:=o.ne (u.blk d);have bv:=I.old (o.old (u.blk bv)) nv;have d:=I.old (o.old (u.blk d)) na;have a7:0<=(Ent.dec (DB.wd l (1+2*x.toNat)) (DB.wd l (2+2*x.toNat))).owner\/Ent.cF (DB.wd l (1+2*x.toNat)) (DB.wd l (2+2*x.toNat))≠0:=by
   by_cases hd:Ent.cF (DB.wd l (1+2*x.toNat)) (DB.wd l (2+2*x.toNat))=0
   ·exact .inl (Ent.iu (Ent.fW hd).1).2.2.1
   ·exact .inr hd
  refine⟨λb W=>b= !(DB.fq m l x.toNat)/\Pu w W/\Blk W C #[.pointer (some (Addr.mk L.g 0 none)),.int .i64 (i64.wrap (DB.wd l 0)),.slice (pvA i) (2*m.S) (2*m.S)] 96/\Blk W i (bD ((l.drop 1).map U32.v)) 22,?_,?_⟩
  ·refine aG (λc3=>?_) (λc3=>?_)
   ·exact⟨by unfold DB.fq;simp[c3],q8,bv,d⟩
   ·refine⟨_,be.at rfl,?_⟩;refine Calls.mono (MP bv hm.1 _) ?_;rintro e w9 ⟨_,rfl,rfl,y⟩;refine⟨_,rfl,?_,q8.pu y,y.blk bv,y.blk d⟩;unfold DB.fq;have aN:Ent.cF (DB.wd l (1+2*x.toNat)) (DB.wd l (2+2*x.toNat))=0:=by simpa using c3
    have h0:=a7.resolve_right (λh=>h aN);rw[aN];simp[h0]
  rintro _ _ w9 ⟨rfl,y,bv,d⟩;refine bo (λc4=>?_) (λc4=>?_)
  ·have he:=DB.cw hlen hb (p:=x.toNat) (by omega) c4;exact⟨none,by rw[he],by rw[he];intro S;omega,λ_=>rfl,y⟩
  ·have e9:i64.wrap (x+1)=x+1:=aa (by omega);refine⟨_,?_,rfl,?_,y,bv,d,λq hq=>?_⟩
   ·rw[e9];omega
   ·rw[e9];omega
   ·rw[e9]at hq;by_cases a8:q=x.toNat
    ·subst a8;exact c4
    ·exact aC q (by omega)
 ·have a0:∀p,p<m.S->DB.fq m l p=true:=λp J=>aC p (by omega);have he:=DB.qq hlen hb a0;refine⟨some (vA C),by rw[he],λ_=>⟨C,i,rfl,?_,az,Y⟩,λS=>absurd he S,H⟩;have a1:∀k,L.X k->k<w.heap.size:=h.lt;refine⟨⟨96,?_⟩,⟨_,_,d,by rw[eF,B];rfl,λp J=>?_⟩,h.pu H,DB.xV hw he,λe=>aA e,λG=>absurd (a1 _ G) (Nat.not_lt.2 az),λG=>absurd (a1 _ G) (Nat.not_lt.2 Y)⟩
  ·have bc:=DB.xw hw 0;rw[aa (by omega)]at bv;exact bv
  ·have J:p<m.S:=J;have ho:=a0 p J;unfold DB.fq at ho;simp only[Bool.and_eq_true,beq_iff_eq]at ho;have hd:=Ent.fW ho.1;refine⟨?_,?_⟩
   ·rw[fE (by rw[B];omega),DB.rE];show _=some (O (Ent.dec _ _).w0);rw[hd.2.1]
   ·rw[fE (by rw[B];omega),DB.rE];show _=some (O (Ent.dec _ _).w1);rw[hd.2.2];congr 3;omega
end Go.Proofs.YtoghdgcmhbanbaaGreatDoor
end
section
set_option maxRecDepth 100000
set_option maxHeartbeats 1000000
namespace Go.Proofs.YtoghdgcmhbanbaaGreatDoor
open Go Go.RowKit V
open Go.IntKind (i64 u32 u64 wrap_i64 wrap_u32)
open Go.Proofs (Tryz.prog)
attribute [local irreducible] Vc2 VcD
attribute [local grind=] Pd.cO Pd.dj Pd.kZ Pd.k8 Pd.qn Pd.kY Pd.kX Pd.iP Pd.qe Pd.jn
attribute [local grind .] Pd.Ok.ent
attribute [local grind→] Pd.Ok.dD
def lI:Ctr Un:=⟨[.one (.obj 0 0)],[],[.ob 2 []],[],λrm m K=>K ⟨J (m.S:Int),none,[],[],[]⟩⟩
theorem BP:LV Un Tryz.prog 54 lI:=by
 show ∀(rm:Nat->Nat)(m:Mem),∀Q:Ou Un->Prop,(Q ⟨J (m.S:Int),none,[],[],[]⟩)->∀(X:bP)(w:World),Sat (U:=Un) [(.ob 2 rm m)] X w->aH (U:=Un) [(.ob 2 rm m)] fr0 []->Calls Tryz.prog 54 #[(.pointer (pvA (rm 0)))] w (cS (U:=Un) [(.ob 2 rm m)] [] X w Q);intro rm m Q f X w d i;obtain⟨L,j,h⟩:=(d.res 0 _ rfl:gC 2 rm m (X 0) w);refine(vL h).mono ?_;rintro e w' ⟨u,rfl,rfl,q⟩;subst q;exact cS.pu d (Ch.refl _ _) f trivial
theorem wy {m:Mem}{l:List U32}{p:Nat}(h:(Ent.cF (DB.wd l (1+2*p)) (DB.wd l (2+2*p)) !=0)=true\/decide ((Ent.dec (DB.wd l (1+2*p)) (DB.wd l (2+2*p))).owner>=(m.S:Int))=true):DB.fq m l p=false:=by
 unfold DB.fq;rcases h with h|h
 ·simp at h;simp[h]
 ·simp at h;simp;omega
theorem tO {m:Mem}{l:List U32}{p:Nat}(i:∀q,q<p->DB.fq m l q=true)(h:(Ent.cF (DB.wd l (1+2*p)) (DB.wd l (2+2*p)) !=0)=false/\decide ((Ent.dec (DB.wd l (1+2*p)) (DB.wd l (2+2*p))).owner>=(m.S:Int))=false):∀q,q<p+1->DB.fq m l q=true:=by
 intro q hq;by_cases e:q=p
 ·subst e;unfold DB.fq;have d:=h.1;have f:=h.2;simp at d f;simp[d,f]
 ·exact i q (by omega)
def uz:Ctr Un:=⟨[.one (.obj 0 0),.one (.sl 1)],[],[.ob 2 [],.lst 1 false 22],[],λrm m A c l K=>((∀x∈l,0<=x.v/\x.v<4294967296))/\split (decide (DB.aF m l=0)) (∀(g:Nat)(d:oA)(e:Nat),K ⟨(.tuple #[(.pointer (pvA g)),J 0]),(some (.t [(some (.loc 2 0)),none])),[],[(.blk g [(.pointer (pvA (rm 0))),(.slice d (((DB.load m l).ax).length) e),J (DB.wd l 0)] 90),(.lst 4 true 101 d e ((DB.load m l).ax))],[(.c 2 0,.p (.obj 0 0 0)),(.c 2 1,.p (.sl 3 0))]⟩) (K ⟨(.tuple #[(.pointer none),J 110]),kn2,[],[],[]⟩)⟩
def Di(rm:Nat->Nat)(m:Mem)(A:oA)(c:Nat)(l:List U32)(Q:Ou Un->Prop):Prop:=Mem.Wf m->∃t:Bool->Prop,(split ((l.length:Int) !=(i64.wrap (1+(i64.wrap (2*m.S))))) (t true) ((0<=(0:Int)/\(0:Int)<(l.length:Int))/\t (decide ((l.getD (Int.toNat 0) (uM 0)).v>64))))/\∀(_gv:Nat->Value)(z:Bool),t z->split z (Q ⟨(.tuple #[(.pointer none),J 110]),kn2,[],[],[]⟩) ((0<=(0:Int)/\(0:Int)<(l.length:Int))/\(some (.pointer (pvA (rm 0))):Option Value)=some (.pointer (pvA (rm 0)))/\∀(B:Nat),∀p:Int,p=0->∃I:Nat->Int->Int->Option Addr->Nat->List Ent->Prop,(∃i,I i p (i64.wrap ((l.getD (Int.toNat 0) (uM 0)).v)) none 0 ([]:List Ent))/\∀(i:Nat)(_gv2:Nat->Value)(d q:Int)(u:oA)(v:Nat)(e:List Ent),I i d q u v e->split (decide (d<m.S)) ((0<=(i64.wrap (1+(i64.wrap (2*d))))/\(i64.wrap (1+(i64.wrap (2*d))))<(l.length:Int))/\(0<=(i64.wrap (2+(i64.wrap (2*d))))/\(i64.wrap (2+(i64.wrap (2*d))))<(l.length:Int))/\(((0<=((l.getD (Int.toNat (i64.wrap (1+(i64.wrap (2*d))))) (uM 0)).v)/\((l.getD (Int.toNat (i64.wrap (1+(i64.wrap (2*d))))) (uM 0)).v)<4294967296)/\(0<=((l.getD (Int.toNat (i64.wrap (2+(i64.wrap (2*d))))) (uM 0)).v)/\((l.getD (Int.toNat (i64.wrap (2+(i64.wrap (2*d))))) (uM 0)).v)<4294967296))/\∀(C:Nat),∃f:Bool->Prop,(split ((Ent.cF ((l.getD (Int.toNat (i64.wrap (1+(i64.wrap (2*d))))) (uM 0)).v) ((l.getD (Int.toNat (i64.wrap (2+(i64.wrap (2*d))))) (uM 0)).v)) !=0) (f true) (f (decide ((Ent.dec ((l.getD (Int.toNat (i64.wrap (1+(i64.wrap (2*d))))) (uM 0)).v) ((l.getD (Int.toNat (i64.wrap (2+(i64.wrap (2*d))))) (uM 0)).v)).owner>=m.S))))/\∀(_gv4:Nat->Value)(j:Bool),f j->split j (Q ⟨(.tuple #[(.pointer none),J 110]),kn2,[],[],[]⟩) (∀(F:Nat),∀(h:List Ent),h=([Ent.mk ((Ent.dec ((l.getD (Int.toNat (i64.wrap (1+(i64.wrap (2*d))))) (uM 0)).v) ((l.getD (Int.toNat (i64.wrap (2+(i64.wrap (2*d))))) (uM 0)).v)).typ) ((Ent.dec ((l.getD (Int.toNat (i64.wrap (1+(i64.wrap (2*d))))) (uM 0)).v) ((l.getD (Int.toNat (i64.wrap (2+(i64.wrap (2*d))))) (uM 0)).v)).owner) ((Ent.dec ((l.getD (Int.toNat (i64.wrap (1+(i64.wrap (2*d))))) (uM 0)).v) ((l.getD (Int.toNat (i64.wrap (2+(i64.wrap (2*d))))) (uM 0)).v)).refs) ((Ent.dec ((l.getD (Int.toNat (i64.wrap (1+(i64.wrap (2*d))))) (uM 0)).v) ((l.getD (Int.toNat (i64.wrap (2+(i64.wrap (2*d))))) (uM 0)).v)).state) ((Ent.dec ((l.getD (Int.toNat (i64.wrap (1+(i64.wrap (2*d))))) (uM 0)).v) ((l.getD (Int.toNat (i64.wrap (2+(i64.wrap (2*d))))) (uM 0)).v)).bw)]:List Ent)->((e.length+h.length)*40<=140737488355328)/\∀(x:oA)(y:Nat),∀(l2:List Ent),l2=(e++h)->∀k:Int,k=(i64.wrap (d+1))->∃o,o<i/\I o k q x y l2))/\(∀(C:Nat),((0<=((l.getD (Int.toNat (i64.wrap (1+(i64.wrap (2*d))))) (uM 0)).v)/\((l.getD (Int.toNat (i64.wrap (1+(i64.wrap (2*d))))) (uM 0)).v)<4294967296)/\(0<=((l.getD (Int.toNat (i64.wrap (2+(i64.wrap (2*d))))) (uM 0)).v)/\((l.getD (Int.toNat (i64.wrap (2+(i64.wrap (2*d))))) (uM 0)).v)<4294967296))/\∃f:Bool->Prop,(split ((Ent.cF ((l.getD (Int.toNat (i64.wrap (1+(i64.wrap (2*d))))) (uM 0)).v) ((l.getD (Int.toNat (i64.wrap (2+(i64.wrap (2*d))))) (uM 0)).v)) !=0) (f true) (f (decide ((Ent.dec ((l.getD (Int.toNat (i64.wrap (1+(i64.wrap (2*d))))) (uM 0)).v) ((l.getD (Int.toNat (i64.wrap (2+(i64.wrap (2*d))))) (uM 0)).v)).owner>=m.S))))/\∀(_gv4:Nat->Value)(j:Bool),f j->split j (Q ⟨(.tuple #[(.pointer none),J 110]),kn2,[],[],[]⟩) (∀(F:Nat),∀(h:List Ent),h=([Ent.mk ((Ent.dec ((l.getD (Int.toNat (i64.wrap (1+(i64.wrap (2*d))))) (uM 0)).v) ((l.getD (Int.toNat (i64.wrap (2+(i64.wrap (2*d))))) (uM 0)).v)).typ) ((Ent.dec ((l.getD (Int.toNat (i64.wrap (1+(i64.wrap (2*d))))) (uM 0)).v) ((l.getD (Int.toNat (i64.wrap (2+(i64.wrap (2*d))))) (uM 0)).v)).owner) ((Ent.dec ((l.getD (Int.toNat (i64.wrap (1+(i64.wrap (2*d))))) (uM 0)).v) ((l.getD (Int.toNat (i64.wrap (2+(i64.wrap (2*d))))) (uM 0)).v)).refs) ((Ent.dec ((l.getD (Int.toNat (i64.wrap (1+(i64.wrap (2*d))))) (uM 0)).v) ((l.getD (Int.toNat (i64.wrap (2+(i64.wrap (2*d))))) (uM 0)).v)).state) ((Ent.dec ((l.getD (Int.toNat (i64.wrap (1+(i64.wrap (2*d))))) (uM 0)).v) ((l.getD (Int.toNat (i64.wrap (2+(i64.wrap (2*d))))) (uM 0)).v)).bw)]:List Ent)->((e.length+h.length)*40<=140737488355328)/\∀(x:oA)(y:Nat),∀(l2:List Ent),l2=(e++h)->∀k:Int,k=(i64.wrap (d+1))->∃o,o<i/\I o k q x y l2))) (Q ⟨(.tuple #[(.pointer (pvA B)),J 0]),(some (.t [(some (.loc 2 0)),none])),[],[(.blk B [(.pointer (pvA (rm 0))),(.slice u e.length v),J q] 90),(.lst 4 true 101 u v e)],[(.c 2 0,.p (.obj 0 0 0)),(.c 2 1,.p (.sl 3 0))]⟩))
theorem Dj:Vc2 Un Tryz.prog (dU [(54,lI),(55,je)]) [7] Tryz.f36 (.r' (.two (.two (.node [] (some ⟨[(26,(.one .bool))],[],upN 10 17,[]⟩) [] [] .leaf .leaf) .leaf) (.r' (.two (.r' (.two (.node [(.c 2 1,4,101)] (some ⟨[(7,(.one (.int .i64)))],[],[4,5,7,8,9]++upN 34 42,[(2,(.blk [(.k (.obj 0 0 0)),(.k (.sl 3 0)),(.v (.int .i64))])),(3,(.lst 4))]⟩) [] [] (.r' (.two (.two (.two (.node [] none [] [(5,[1]),(11,[1])] .leaf .leaf) (.two (.two (.node [] (some ⟨[(65,(.one .bool))],[],upN 57 9,[]⟩) [] [(4,[4])] .leaf .leaf) .leaf) (.node [] none [] [(4,[2]),(5,[4])] .leaf .leaf))) .leaf) .leaf)) .leaf) .leaf)) .leaf)))) [1000000,2,3] uz=(∀rm (m:Mem) A c (l:List U32),∀Q,(((∀x∈l,0<=x.v/\x.v<4294967296))/\split (decide (DB.aF m l=0)) (∀(g:Nat)(d:oA)(e:Nat),Q ⟨(.tuple #[(.pointer (pvA g)),J 0]),(some (.t [(some (.loc 2 0)),none])),[],[(.blk g [(.pointer (pvA (rm 0))),(.slice d (((DB.load m l).ax).length) e),J (DB.wd l 0)] 90),(.lst 4 true 101 d e ((DB.load m l).ax))],[(.c 2 0,.p (.obj 0 0 0)),(.c 2 1,.p (.sl 3 0))]⟩) (Q ⟨(.tuple #[(.pointer none),J 110]),kn2,[],[],[]⟩))->Di rm m A c l Q):=by kernel_rfl
theorem Dh:LV Un Tryz.prog 36 uz:=verify Tryz.func36 aj (tb:= [(54,lI),(55,je)]) ⟨BP,BK,trivial⟩ (by kernel_rfl) (Dj.mpr λrm m A c l Q h=>by
 try skip
 obtain⟨P,h⟩:=h;exact λf1=>(by have hS:=f1.2.1;(have v:i64.wrap (1+i64.wrap (2*(m.S:Int)))=1+2*(m.S:Int):=by rw[aa (x:=2*(m.S:Int)) (by omega),aa (by omega)]);have j:=DB.xw P;exact bF (((((l.length:Nat):Int):Int) !=(i64.wrap (1+(i64.wrap (2*(m.S:Int)))))) || (decide (((l.getD (Int.toNat 0) (uM 0)).v:Int)>64))) (ab (λy=>(by grind)) λy=>ak (by((rw[v]at y;simp at y;omega))) λs2=>(by grind))<| bm (λe=>(jw h (by(by_cases H:l.length=1+2*m.S;(rw[DB.wk H (by rw[v]at e;rcases e with e|e;(simp at e;omega);(simpa[DB.wd]using e))];rfl);(rw[DB.qp H];rfl))))) λe=>(by rw[v]at e;(have hlen:l.length=1+2*m.S:=by have:=e.1;simp at this;omega);(have z:¬DB.wd l 0>64:=by have:=e.2;simpa[DB.wd]using this);exact ak (by(omega)) λs3=>ak (by rfl) λs4=>λR=>allEq<| ⟨λI d J M N B=>(I=((m.S:Int) - d).toNat)/\(0<=d/\d<=(m.S:Int))/\(J=DB.wd l 0)/\(B=(List.range d.toNat).map (DB.load m l).ent)/\(∀q,q<d.toNat->DB.fq m l q=true),⟨_,rfl,(by omega),(by have:=j 0;exact aa (x:=DB.wd l 0) (by omega)),(by rfl),(by intro q hq;omega)⟩,λI _ d J M N B ⟨hm,hi,O,k,C⟩=>(by(have f:d<(m.S:Int)->(l.getD (Int.toNat (i64.wrap (1+i64.wrap (2*d)))) (uM 0)).v=DB.wd l (1+2*d.toNat):=λS=>by rw[aa (x:=2*d) (by omega),aa (by omega),show(1+2*d).toNat=1+2*d.toNat by omega];rfl);(have i:d<(m.S:Int)->(l.getD (Int.toNat (i64.wrap (2+i64.wrap (2*d)))) (uM 0)).v=DB.wd l (2+2*d.toNat):=λS=>by rw[aa (x:=2*d) (by omega),aa (by omega),show(2+2*d).toNat=2+2*d.toNat by omega];rfl);exact af (λF=>(by replace f:=f F;replace i:=i F;exact ak (by rw[aa (x:=2*d) (by omega),aa (by omega)];omega) λs5=>ak (by rw[aa (x:=2*d) (by omega),aa (by omega)];omega) λs6=>⟨ak (by rw[f,i];exact⟨j _,j _⟩) λs7=>λT=>bF ((((Ent.cF ((l.getD (Int.toNat (i64.wrap (1+(i64.wrap (2*d))))) (uM 0)).v) ((l.getD (Int.toNat (i64.wrap (2+(i64.wrap (2*d))))) (uM 0)).v)):Int) !=0) || (decide (((Ent.dec ((l.getD (Int.toNat (i64.wrap (1+(i64.wrap (2*d))))) (uM 0)).v) ((l.getD (Int.toNat (i64.wrap (2+(i64.wrap (2*d))))) (uM 0)).v)).owner:Int)>=(m.S:Int)))) (ab (λV=>(by grind)) λV=>(by grind))<| bm (λo=>(jw h (by(rw[f,i]at o;rw[DB.cw hlen z (p:=d.toNat) (by omega) (wy o)];rfl)))) λo=>λW=>λY t=>ak (by rw[t,k];simp;omega) λs8=>λA1 c1=>λl2 G=>allEq<| ⟨_,(by rw[aa (x:=d+1) (by omega)];omega),rfl,(by rw[aa (x:=d+1) (by omega)];omega),(O),(by rw[G,t,k,f,i,aa (x:=d+1) (by omega),show(d+1).toNat=d.toNat+1 by omega,List.range_succ,List.map_append];rfl),(by rw[aa (x:=d+1) (by omega),show(d+1).toNat=d.toNat+1 by omega];(rw[f,i]at o;exact tO C o))⟩,λT=>ak (by rw[f,i];exact⟨j _,j _⟩) λs9=>bF ((((Ent.cF ((l.getD (Int.toNat (i64.wrap (1+(i64.wrap (2*d))))) (uM 0)).v) ((l.getD (Int.toNat (i64.wrap (2+(i64.wrap (2*d))))) (uM 0)).v)):Int) !=0) || (decide (((Ent.dec ((l.getD (Int.toNat (i64.wrap (1+(i64.wrap (2*d))))) (uM 0)).v) ((l.getD (Int.toNat (i64.wrap (2+(i64.wrap (2*d))))) (uM 0)).v)).owner:Int)>=(m.S:Int)))) (ab (λk6=>(by grind)) λk6=>(by grind))<| bm (λu=>(jw h (by(rw[f,i]at u;rw[DB.cw hlen z (p:=d.toNat) (by omega) (wy u)];rfl)))) λu=>λW=>λY t=>ak (by rw[t,k];simp;omega) λan=>λA1 c1=>λl2 G=>allEq<| ⟨_,(by rw[aa (x:=d+1) (by omega)];omega),rfl,(by rw[aa (x:=d+1) (by omega)];omega),(O),(by rw[G,t,k,f,i,aa (x:=d+1) (by omega),show(d+1).toNat=d.toNat+1 by omega,List.range_succ,List.map_append];rfl),(by rw[aa (x:=d+1) (by omega),show(d+1).toNat=d.toNat+1 by omega];(rw[f,i]at u;exact tO C u))⟩⟩)) λF=>(by(have az:(DB.load m l).ax=B:=by rw[k,show d.toNat=m.S by omega];rfl);exact bj ((oR h (by(rw[DB.qq hlen z (λq hq=>C q (by omega))];rfl))) R M N) rfl rfl (aB (congrArg (λl=>Res.blk (U:=Un) _ l _) (aB rfl (aB (by grind) (aB (cx (by omega)) rfl)))) (aB (congrArg (Res.lst (U:=Un) 4 true 101 _ _) ‹_›) rfl))))⟩)))
end Go.Proofs.YtoghdgcmhbanbaaGreatDoor
end
section
namespace Go.Proofs.YtoghdgcmhbanbaaGreatDoor
open Go Go.RowKit V
open Go.IntKind (i64 u32 u64 wrap_i64 wrap_u32)
namespace V
section
variable {U:Uni}
theorem AT {rs rs':List (Res U)}{M:List Nat}{us:List (Upd U)}(h:bH rs M us=some rs'):rs'.length=rs.length:=(ft h).1
theorem mH.pack {rs rs':List (Res U)}{bB:List Nat}{X o:Nat->Nat->Prop}{w w':World}{v:Value}{k k':Option Kn}{us:List (Upd U)}{a b c:Res U}{kc kc':List (Key×Kn)}(h:mH rs bB X w ⟨v,k,us,[a,b],kc⟩ w' rs' o)(z:rs'.length=rs.length){Z:Nat->Prop}(B:RS Z w' c)(t:∀k,Z k->o rs.length k\/o (rs.length+1) k)
 (f:KnO (rs'++ [c]) v k')(C:∀key k,(key,k)∈kc'->fN (rs'++ [c]) fr0 key k):mH rs bB X w ⟨v,k',us,[c],kc'⟩ w' rs' (λi=>if i=rs.length then Z else o i):=by
 refine⟨⟨λi r p=>?_,λi j hi u F k q l=>?_⟩,h.ch,λi hi hm=>?_,λi hi k f=>?_,λi e d k f=>?_,.inr f,λkey k hm _=>C key k hm⟩
 ·by_cases hi:i<rs'.length
  ·rw[bp,if_pos hi]at p;simp only[if_neg (show ¬i=rs.length by omega)];exact h.sat.res i r (by rw[bp,if_pos hi];exact p)
  ·have e:=aZ p;simp at e;obtain rfl:i=rs'.length:=by omega
   rw[bp,if_neg (by omega),Nat.sub_self]at p;obtain rfl:c=r:=by simpa[nth]using p
   simpa[z]using B
 ·simp at hi u;have x:∀j,j<rs'.length->Z k->¬o j k:=λj u G y=>by
   rcases t k G with e|e
   ·exact h.sat.dis rs.length j (by simp;omega) (by simp;omega) (by omega) k e y
   ·exact h.sat.dis (rs.length+1) j (by simp;omega) (by simp;omega) (by omega) k e y
  by_cases e:i=rs.length
  ·have d:¬j=rs.length:=by omega
   simp only[e,if_true,if_neg d]at q l;exact x j (by omega) q l
  ·simp only[if_neg e]at q;by_cases d:j=rs.length
   ·simp only[d,if_true]at l;exact x i (by omega) l q
   ·simp only[if_neg d]at l;exact h.sat.dis i j (by simp;omega) (by simp;omega) F k q l
 ·simp only[if_neg (show ¬i=rs.length by omega)];exact h.same i hi hm
 ·by_cases e:i=rs.length
  ·simp only[e,if_true]at f;rcases t k f with d|d
   ·exact .inr (h.new rs.length (by omega) (by simp) k d)
   ·exact .inr (h.new (rs.length+1) (by omega) (by simp) k d)
  ·simp only[if_neg e]at f;exact h.grow i hi k f
 ·simp at d;obtain rfl:i=rs.length:=by omega
  simp only[if_true]at f;rcases t k f with d|d
  ·exact h.new rs.length (by omega) (by simp) k d
  ·exact h.new (rs.length+1) (by omega) (by simp) k d
theorem cS.pack {rs rs':List (Res U)}{bB:List Nat}{X d:Nat->Nat->Prop}{w w':World}{Q:Ou U->Prop}{v:Value}{k k':Option Kn}{us:List (Upd U)}{a b c:Res U}{kc kc':List (Key×Kn)}(e:bH rs bB us=some rs')(h:mH rs bB X w ⟨v,k,us,[a,b],kc⟩ w' rs' d){Z:Nat->Prop}(i:RS Z w' c)(j:∀k,Z k->d rs.length k\/d (rs.length+1) k)
 (l:Q ⟨v,k',us,[c],kc'⟩)(f:KnO (rs'++ [c]) v k')(o:∀key k,(key,k)∈kc'->fN (rs'++ [c]) fr0 key k):cS rs bB X w Q (.returned v) w':=
 ⟨_,rs',_,jH f,l,e,h.pack (AT e) i j f o⟩
theorem KnO.pair {rs:List (Res U)}{a b:Value}{p:PK}(h:den U rs p=some a):KnO rs (.tuple #[a,b]) (some (.t [some p,none])):=
 ⟨_,rfl,λj k d=>by
  match j,d with
  |0,d=>simp only[nth,Option.some.injEq]at d;subst d;exact⟨a,rfl,h⟩
  |1,d=>simp[nth]at d
  |j+2,d=>simp[nth]at d⟩
theorem Lz {rs:List (Res U)}{fr:Fr}{key:Key}{k:Kn}(h:fN rs fr key k):∀d k',(d,k')∈ [(key,k)]->fN rs fr d k':=λd k' hm=>by
 simp only[List.mem_singleton,Prod.mk.injEq]at hm;obtain⟨rfl,rfl⟩:=hm;exact h
theorem cS.LH {a a':Res U}{rest:List (Res U)}{u:Upd U}{X:Nat->Nat->Prop}{w w':World}{Q:Ou U->Prop}{v:Value}{k:Option Kn}{Z:Nat->Prop}(o:Sat (a::rest) X w)(q:Ch (X 0) w w')(hu:dI a u=some a')(C:RS Z w' a')(y:∀k,Z k->X 0 k\/w.heap.size<=k)(F:Q ⟨v,k,[u],[],[]⟩)(d:KnO (a'::rest) v k):cS (a::rest) [0] X w Q (.returned v) w':=by
 refine⟨_,a'::rest,λi=>if i=0 then Z else X i,jH d,F,by simp[bH,hu,nth,bK],⟨λi r p=>?_,λi j hi f G k t l=>?_⟩,q.mono λk d=>⟨0,by simp,d⟩,λi hi hm=>?_,λi hi k d=>?_,λi x e=>by simp at x e;omega,.inr (by simpa using d),λ_ k d=>by cases d⟩
 ·rw[List.append_nil]at p
  match i with
  |0=>simp only[nth,Option.some.injEq]at p;subst p;exact C
  |i+1=>exact(o.res (i+1) r p).ch q λk d z=>o.dis 0 (i+1) (by simp) (aZ p) (by omega) k z d
 ·simp at hi f;have key:∀j,j<rest.length+1->j≠0->Z k->X j k->False:=λj f z H B=>by
   rcases y k H with h|h
   ·exact o.dis 0 j (by simp) (by simpa using f) (by omega) k h B
   ·have:=o.lt (i:=j) (by simpa using f) k B;omega
  by_cases x:i=0
  ·have e:¬j=0:=by omega
   simp only[x,if_true,if_neg e]at t l;exact key j f e t l
  ·simp only[if_neg x]at t;by_cases e:j=0
   ·simp only[e,if_true]at l;exact key i hi x l t
   ·simp only[if_neg e]at l;exact o.dis i j (by simpa using hi) (by simpa using f) G k t l
 ·simp at hm;simp only[if_neg hm]
 ·simp at hi;subst hi;exact y k d
theorem cS.first {t:Nat}{r:Nat->Nat}{s d:U.ty t}{rest:List (Res U)}{X:Nat->Nat->Prop}{w w':World}{Q:Ou U->Prop}{v:Value}{k:Option Kn}{Z:Nat->Prop}(e:Sat (.ob t r s::rest) X w)(q:Ch (X 0) w w')(f:U.pred t r d Z w')(h:∀k,Z k->X 0 k\/w.heap.size<=k)(i:Q ⟨v,k,[.ob t d],[],[]⟩)(j:KnO (.ob t r d::rest) v k):cS (.ob t r s::rest) [0] X w Q (.returned v) w':=
 cS.LH (a':=.ob t r d) e q (by simp[dI]) f h i j
end
end V
theorem K5 {g c mg:Nat}{A:Option Addr}{E:Pd}{Y Z:Nat->Prop}{w:World}(d:RS (U:=Un) Y w (.blk g [.pointer (pvA mg),.slice A E.ax.length c,.int .i64 E.aR] 90))(p:RS (U:=Un) Z w (.lst 4 true 101 A c E.ax))(hd:∀k,Y k->¬Z k)(l:1<=E.n)(ok:E.Ok):
 ∃e,RS (U:=Un) (λk=>k=g\/k=e) w (.ob 3 (λi=>if i=0 then g else if i=1 then mg else if i=2 then e else c) E)/\Z e:=by
 obtain⟨q,t,d⟩:=d;obtain⟨f,_⟩: @Own Ent _ w Z 101 A E.ax.length c E.ax/\∀k,Z k->k<w.heap.size:=p;rw[Pd.cO]at f d;obtain⟨e,rfl,o,u⟩:=f.lt l;have he:e≠g:=λh=>hd g q (h▸o);refine⟨e,(⟨λk=>Iff.rfl,⟨_,d⟩,?_,ok,he,l⟩:gC 3 (λi=>if i=0 then g else if i=1 then mg else if i=2 then e else c) E (λk=>k=g\/k=e) w),o⟩;exact⟨⟨f.own.1,λa j=>by injection j with j;rw[<-j]⟩,f.len⟩
end Go.Proofs.YtoghdgcmhbanbaaGreatDoor
end
section
set_option maxRecDepth 100000
set_option maxHeartbeats 1000000
namespace Go.Proofs.YtoghdgcmhbanbaaGreatDoor
open Go Go.RowKit V
open Go.IntKind (i64 u32 u64 wrap_i64 wrap_u32)
open Go.Proofs (Tryz.prog)
attribute [local irreducible] Vc2 VcD
theorem DB.JA {m:Mem}{l:List U32}(hw:∀x∈l,0<=x.v/\x.v<4294967296)(h:DB.aF m l=0)(d:m.S<=64):(DB.load m l).pd.Ok:=⟨(DB.xV hw h).ent,(DB.xV hw h).aR,d⟩
def F3:Ctr Un:=⟨[.one (.obj 0 0),.one (.sl 1)],[],[.ob 2 [],.lst 1 false 22],[],λrm m A c l K=>((∀x∈l,0<=x.v/\x.v<4294967296))/\1<=m.S/\split (decide (DB.aF m l=0)) (∀(d:Nat->Nat),K ⟨(.tuple #[(.pointer (pvA (d 0))),J 0]),(some (.t [(some (.obj 2 0 0)),none])),[],[(.ob 3 d ((DB.load m l).pd))],[(.l 2 1,.p (.obj 0 0 0))]⟩) (K ⟨(.tuple #[(.pointer none),J 110]),kn2,[],[],[]⟩)⟩
theorem F2:LV Un Tryz.prog 36 F3:=by
 show ∀(rm:Nat->Nat)(m:Mem)(A:oA)(c:Nat)(l:List U32),∀Q:Ou Un->Prop,(((∀x∈l,0<=x.v/\x.v<4294967296))/\1<=m.S/\split (decide (DB.aF m l=0)) (∀(u:Nat->Nat),Q ⟨(.tuple #[(.pointer (pvA (u 0))),J 0]),(some (.t [(some (.obj 2 0 0)),none])),[],[(.ob 3 u ((DB.load m l).pd))],[(.l 2 1,.p (.obj 0 0 0))]⟩) (Q ⟨(.tuple #[(.pointer none),J 110]),kn2,[],[],[]⟩))->∀(X:bP)(w:World),Sat (U:=Un) [(.ob 2 rm m),(.lst 1 false 22 A c l)] X w->aH (U:=Un) [(.ob 2 rm m),(.lst 1 false 22 A c l)] fr0 []->Calls Tryz.prog 36 #[(.pointer (pvA (rm 0))),(.slice A l.length c)] w (cS (U:=Un) [(.ob 2 rm m),(.lst 1 false 22 A c l)] [] X w Q);intro rm m A c l Q p X w v B;obtain⟨hw,C,p⟩:=p;have F:Mem.Wf m:=L7 (t:=2) (r:=rm) (s:=m) (v.res 0 _ rfl);have G:=Dh rm m A c l (λo=>(DB.aF m l=0/\∃(g:Nat)(f:oA)(d:Nat),o=⟨(.tuple #[(.pointer (pvA g)),J 0]),(some (.t [(some (.loc 2 0)),none])),[],[(.blk g [(.pointer (pvA (rm 0))),(.slice f (((DB.load m l).ax).length) d),J (DB.wd l 0)] 90),(.lst 4 true 101 f d ((DB.load m l).ax))],[(.c 2 0,.p (.obj 0 0 0)),(.c 2 1,.p (.sl 3 0))]⟩)\/(DB.aF m l≠0/\o=⟨(.tuple #[(.pointer none),J 110]),kn2,[],[],[]⟩)) ⟨hw,ab (λh g f d=>.inl ⟨of_decide_eq_true h,g,f,d,rfl⟩) (λh=>.inr ⟨of_decide_eq_false h,rfl⟩)⟩ X w v B;refine G.mono ?_;rintro e w' ⟨out,rs',y,rfl,⟨he,g,f,d,rfl⟩|⟨he,rfl⟩,q,j⟩
 ·change bH [Res.ob (U:=Un) 2 rm m,.lst 1 false 22 A c l] [] []=some rs' at q;have H: [Res.ob (U:=Un) 2 rm m,.lst 1 false 22 A c l]=rs':=by simpa[bH]using q
  subst H;have z:RS (U:=Un) (y 2) w' (.blk g [.pointer (pvA (rm 0)),.slice f (DB.load m l).pd.ax.length d,.int .i64 (DB.load m l).pd.aR] 90):=j.sat.res 2 _ rfl;have I:RS (U:=Un) (y 3) w' (.lst 4 true 101 f d (DB.load m l).pd.ax):=j.sat.res 3 _ rfl;obtain⟨e,M,N⟩:=K5 (E:=(DB.load m l).pd) z I (j.sat.dis 2 3 (by simp) (by simp) (by omega)) C (DB.JA hw he F.2.1);exact cS.pack (k':=some (.t [some (.obj 2 0 0),none])) (kc':= [(.l 2 1,.p (.obj 0 0 0))]) q j M (λk O=>O.elim (λe=>.inl (e▸z.1)) (λe=>.inr (e▸N))) (oR p (decide_eq_true he) (λi=>if i=0 then g else if i=1 then rm 0 else if i=2 then e else d)) (KnO.pair rfl) (Lz ⟨_,_,_,rfl,rfl⟩)
 ·exact⟨_,_,_,rfl,jw p (decide_eq_false he),q,j⟩
end Go.Proofs.YtoghdgcmhbanbaaGreatDoor
end
section
set_option maxRecDepth 100000
namespace Go.Proofs.YtoghdgcmhbanbaaGreatDoor
open Go Go.RowKit V
open Go.IntKind (i64 u32 u64 wrap_i64 wrap_u32)
open Enc (enc)
attribute [local irreducible] DB.broken
section
variable {w:World}
theorem yk {X:Nat->Nat->Prop}{w w':World}(h:Ch (λk=>∃j,j∈([]:List Nat)/\X j k) w w'):Pu w w':=h.mono λk d=>by obtain⟨j,e,_⟩:=d;cases e
abbrev rP(g m:Nat):Nat->Nat:=λi=>if i=0 then g else m
abbrev rR(g m e c:Nat):Nat->Nat:=λi=>if i=0 then g else if i=1 then m else if i=2 then e else c
theorem K0 {r0 r1:Res Un}{l o:Nat->Prop}(p:RS l w r0)(q:RS o w r1)(hd:∀k,l k->¬o k):Sat [r0,r1] (λi k=>if i=0 then l k else o k) w:=by
 refine⟨λi r d=>?_,λi j hi t u k f h=>?_⟩
 ·match i,d with
  |0,d=>simp only[nth,Option.some.injEq]at d;subst d;exact p
  |1,d=>simp only[nth,Option.some.injEq]at d;subst d;exact q
  |i+2,d=>simp[nth]at d
 ·simp only[List.length_cons,List.length_nil]at hi t;by_cases e:i=0
  ·subst e;simp only[if_true]at f;rw[if_neg (by omega)]at h;exact hd k f h
  ·rw[if_neg e]at f;have:j=0:=by omega
   subst this;simp only[if_true]at h;exact hd k h f
theorem IT {L:gE}{D:DB}(h:DBP w L D):
 Calls Tryz.prog 78 #[.pointer (some (Addr.mk L.g 0 none))] w λe w'=>∃v,e=.returned v/\v=.tuple #[.int .i64 D.broken.1,.int .i64 D.broken.2]/\Pu w w':=by
 have f:RS (U:=Un) (λk=>k=L.g\/k=L.a) w (.ob 1 (rP L.g L.M.g) D.pd):=(show gC 1 (rP L.g L.M.g) D.pd (λk=>k=L.g\/k=L.a) w from⟨L.a,λ_=>Iff.rfl,h.pd⟩);have i:RS (U:=Un) L.M.X w (.ob 0 (λ_=>L.M.g) D.mem):=(show gC 0 (λ_=>L.M.g) D.mem L.M.X w from⟨L.M,rfl,λ_=>Iff.rfl,h.mem⟩);have j:=K0 f i (λk d=>by rcases d with rfl|rfl;exact h.dis.2.1;exact h.dis.2.2);have l:aH (U:=Un) [.ob 1 (rP L.g L.M.g) D.pd,.ob 0 (λ_=>L.M.g) D.mem] fr0 [(.l 0 1,.p (.obj 1 0 0))]:=λkey k d=>by
  rw[List.mem_singleton]at d;injection d with p q
  subst p;subst q;exact⟨_,_,_,rfl,rfl⟩
 refine(FR _ D.pd _ D.mem (λo=>o=_) ⟨rfl,rfl⟩ _ w j l).mono ?_;rintro e w' ⟨out,rs',u,rfl,rfl,x,t⟩;exact⟨_,rfl,rfl,yk t.ch⟩
theorem eV.pd {g:Nat}{L:jJ}{D:DB}(h:eV w g L D):nu w g L.M.g L.e L.c D.pd:=⟨h.hd',h.es,⟨h.ok.ent,h.ok.aR,h.mem.dD.1⟩,by rw[<-h.gq];exact h.dis.1,h.pos⟩
theorem Jk {g:Nat}{L:jJ}{D:DB}(h:eV w g L D):
 Calls Tryz.prog 57 #[.pointer (pvA g)] w λe w'=>∃v,e=.returned v/\v=.tuple #[.int .i64 D.broken.1,.int .i64 D.broken.2]/\Pu w w':=by
 have f:RS (U:=Un) (λk=>k=g\/k=L.e) w (.ob 3 (rR g L.M.g L.e L.c) D.pd):=(show gC 3 (rR g L.M.g L.e L.c) D.pd (λk=>k=g\/k=L.e) w from⟨λ_=>Iff.rfl,h.pd⟩);have i:RS (U:=Un) L.M.X w (.ob 2 (λ_=>L.M.g) D.mem):=(show gC 2 (λ_=>L.M.g) D.mem L.M.X w from⟨L.M,λ_=>Iff.rfl,h.mem⟩);have j:=K0 f i (λk d=>by rcases d with rfl|rfl;rw[<-h.gq];exact h.dis.2.1;exact h.dis.2.2);have l:aH (U:=Un) [.ob 3 (rR g L.M.g L.e L.c) D.pd,.ob 2 (λ_=>L.M.g) D.mem] fr0 [(.l 0 1,.p (.obj 1 0 0))]:=λkey k d=>by
  rw[List.mem_singleton]at d;injection d with p q
  subst p;subst q;exact⟨_,_,_,rfl,rfl⟩
 refine(BI _ D.pd _ D.mem (λo=>o=⟨.tuple #[.int .i64 D.broken.1,.int .i64 D.broken.2],some (.t [none,none]),[],[],[]⟩) ⟨rfl,rfl⟩ _ w j l).mono ?_;rintro e w' ⟨out,rs',u,rfl,rfl,x,t⟩;exact⟨_,rfl,rfl,yk t.ch⟩
theorem Mu {g:Nat}{L:eU}{m:Mem}{Z:Nat->Prop}{A:Option Addr}{n c:Nat}{l:List U32}(h:bV w g L m)(F:Rd w Z A n c l)(hd:∀k,L.X k->¬Z k)(hw:∀x∈l,0<=x.v/\x.v<4294967296)(I:1<=m.S):
 Calls Tryz.prog 36 #[.pointer (pvA g),.slice A n c] w λe w'=>∃v,e=.returned v/\∃p:oA,v=.tuple #[.pointer p,.int .i64 (DB.aF m l)]/\
  (DB.aF m l=0->∃gd J,p=some (vA gd)/\eV w' gd J (DB.load m l))/\(DB.aF m l≠0->p=none)/\Pu w w':=by
 have B:=F.len;subst B;have y:RS (U:=Un) L.X w (.ob 2 (λ_=>g) m):=(show gC 2 (λ_=>g) m L.X w from⟨L,λ_=>Iff.rfl,h⟩);have M:=K0 y (show RS (U:=Un) Z w (.lst 1 false 22 A c l)from F) hd;refine(F2 _ m A c l (λo=>(DB.aF m l=0/\∃f:Nat->Nat,o=⟨.tuple #[.pointer (pvA (f 0)),.int .i64 0],some (.t [some (.obj 2 0 0),none]),[],[.ob 3 f (DB.load m l).pd],[(.l 2 1,.p (.obj 0 0 0))]⟩)\/(DB.aF m l≠0/\o=⟨.tuple #[.pointer none,.int .i64 110],some (.t [none,none]),[],[],[]⟩))
  ⟨hw,I,ab (λhe f=>.inl ⟨of_decide_eq_true he,f,rfl⟩) (λhe=>.inr ⟨of_decide_eq_false he,rfl⟩)⟩ _ w M (λ_ _ h=>by cases h)).mono ?_
 rintro e w' ⟨out,rs',z,rfl,⟨he,f,rfl⟩|⟨he,rfl⟩,G,q⟩
 ·change bH [Res.ob (U:=Un) 2 (λ_=>g) m,.lst 1 false 22 A c l] [] []=some rs' at G;have N: [Res.ob (U:=Un) 2 (λ_=>g) m,.lst 1 false 22 A c l]=rs':=by simpa[bH]using G
  subst N;refine⟨_,rfl,_,by rw[he],λ_=>?_,λB=>absurd he B,yk q.ch⟩;have C:=(q.sat.res 2 _ rfl:gC 3 f (DB.load m l).pd (z 2) w');have y:=(q.sat.res 0 _ rfl:gC 2 (λ_=>g) m (z 0) w');have u:=q.kc _ _ (List.mem_singleton.2 rfl) (λi=>by simp);obtain⟨Y,O⟩:=Mo (r:=f) (rm:=λ_=>g) (E:=(DB.load m l).pd) (m:=m) (X:=λi=>if i=0 then z 2 else z 0) (w:=w') ⟨λi r d=>by
   match i,d with
   |0,d=>simp only[nth,Option.some.injEq]at d;subst d;exact C
   |1,d=>simp only[nth,Option.some.injEq]at d;subst d;exact y
   |i+2,d=>simp[nth]at d,λi j hi P an k u t=>by
   simp only[List.length_cons,List.length_nil]at hi P;by_cases e:i=0
   ·subst e;simp only[if_true]at u;rw[if_neg (by omega)]at t;exact q.sat.dis 2 0 (by simp) (by simp) (by omega) k u t
   ·rw[if_neg e]at u;have:j=0:=by omega
    subst this;simp only[if_true]at t;exact q.sat.dis 2 0 (by simp) (by simp) (by omega) k t u⟩ (λkey k t=>by
   rw[List.mem_singleton]at t;injection t with Q R
   subst Q;subst R;obtain⟨t',r',s',H,S⟩:=u;simp only[List.cons_append,List.nil_append,nth,Option.some.injEq,Res.ob.injEq]at H;obtain⟨rfl,rfl,_⟩:=H;exact⟨_,_,_,rfl,S⟩) rfl
  exact⟨_,_,rfl,O⟩
 ·refine⟨_,rfl,none,?_,λy=>absurd y he,λ_=>rfl,yk q.ch⟩;have T:DB.aF m l=110:=by unfold DB.aF at he ⊢;split;rfl;split;rfl;split;(rename_i V C W;rw[if_neg V,if_neg C,if_pos W]at he;exact absurd rfl he);rfl
  rw[T]
end
end Go.Proofs.YtoghdgcmhbanbaaGreatDoor
end
section
namespace Go.Proofs.YtoghdgcmhbanbaaGreatDoor
open Go Go.RowKit V
open Go.IntKind (i64 u32 u64 wrap_i64 wrap_u32)
theorem GX {f:Nat->Int}{cs:Array Value}(d:cs.size=1024)(h:∀o,o<1024->cs[o]? =some (O (f o))):cs=bD ((List.range 1024).map f):=by
 apply Array.ext_getElem?;intro i;by_cases hi:i<1024
 ·rw[h i hi,fE (by simpa using hi),List.getD_eq_getElem?_getD,List.getElem?_map,List.getElem?_range hi];rfl
 ·rw[Array.getElem?_eq_none (by omega),Array.getElem?_eq_none (by simp;omega)]
structure EB(w:World)(a n:Nat)(pg:Nat->Nat)(f:Nat->Nat->Int):Prop where
 row:∃T cs,Blk w a cs T/\∀i,i<n->cs[i]? =some (ptr (pg i))
 pgs:∀i,i<n->iI w (pg i) (f i)
theorem EB.pu {w w':World}{a n:Nat}{pg:Nat->Nat}{f:Nat->Nat->Int}(h:EB w a n pg f)(q:Pu w w'):EB w' a n pg f:=by
 obtain⟨⟨T,cs,d,e⟩,j⟩:=h;exact⟨⟨T,cs,q.blk d,e⟩,λi hi=>(j i hi).pu q⟩
theorem cH.NC {w:World}{L:fP}{m:Mem}(h:cH w L m)(s:Bool):EB w (L.row s) (m.cnt s) (L.pg s) (m.pg s):=⟨h.rows s,h.pgs s⟩
def Ia(n n':Nat)(f g:Nat->Nat->Int):Bool:=decide (n=n') && (List.range n).all λi=>(List.range 1024).all λo=>f i o==g i o
def Mem.same(m o:Mem):Bool:=Ia m.S o.S (m.pg true) (o.pg true) && Ia m.I o.I (m.pg false) (o.pg false)
end Go.Proofs.YtoghdgcmhbanbaaGreatDoor
end
section
set_option maxRecDepth 100000
set_option maxHeartbeats 2000000
namespace Go.Proofs.YtoghdgcmhbanbaaGreatDoor
open Go Go.RowKit V Pk
open Go.IntKind (i64 u32 u64 wrap_i64 wrap_u32)
def Mem.Lx(m:Mem)(s:Bool)(p:Nat)(l:List Int):Mem:=m.fill s p λo=>l.getD o 0
theorem Hf {l:List Int}(h:l.length=1024)(o:Nat)(d:o<1024):(bD l)[o]? =some (O (l.getD o 0)):=by
 unfold bD;rw[List.getElem?_toArray,List.getElem?_map,List.getD_eq_getElem?_getD,List.getElem?_eq_getElem (by omega)];rfl
theorem Nq {w:World}{L:fP}{m:Mem}{s:Bool}{p:Int}{Z:Nat->Prop}{A:Option Addr}{n c:Nat}{l:List Int}(h:cH w L m)(q:m.has s p=true)(t:aD w Z .u32 A n c l)(M:n=1024)(hw:Wd l)(hd:∀k,L.X k->¬Z k):
 Calls Tryz.prog 50 #[ptr L.g,fr s p,.slice A n c] w λe w'=>∃v,e=.returned v/\v=.int .i64 0/\cH w' L (m.Lx s p.toNat l)/\Ch L.X w w':=by
 have N:=t.len;refine Dq _ s p _ _ _ (mkd λO w1 f=>⟨_,_,⟨f.blk.at rfl,f.blk.at rfl⟩,(mAt (h.pu f.pu) s p).mono ?_⟩);rintro e w2 ⟨_,rfl,rfl,d⟩;have d:Pu w w2:=(show Pu w w1 from f.pu).trans d;rw[if_pos q];refine⟨_,rfl,bG (aG (λy=>absurd (by omega) y) λ_=>?_)⟩;have u:=h.pu d;obtain⟨T,hdr⟩:=u.hd;refine ah _ rfl ⟨_,hdr.at rfl,ah _ rfl (aL hdr (by show 2+1<=3;omega) λz i=>?_)⟩;have x:=u.KB i;have hi:=Mem.fK q;obtain⟨P,cs,B,C,F⟩:=x.pgs s p.toNat hi;have G:cs=bD ((List.range 1024).map (m.pg s p.toNat)):=GX C F;subst G;refine ah _ rfl ?_;rintro Q H R rfl S rfl;have hlen:((List.range 1024).map (m.pg s p.toNat)).length=1024:=by simp
 have I:aD z Z .u32 A n c l:=(t.pu d).ch i.ch λk J e=>hd k (.inl e) J;refine wH vJ B (by rw[H];rfl) I (by rw[hlen];omega) λV j=>?_;rw[show min n 1024=1024 by omega,List.take_of_length_le (by omega),sS _ _ (by omega)]at j;refine⟨rfl,?_,((d.mono (λ_ h=>h.elim):Ch L.X w w2).stored i (.inl (.inl rfl))).stored j (.inl (h.inX hi))⟩;exact x.aV hi j (by rw[eF];omega) (Hf (by omega)) (λo=>bJ hw o)
theorem Lf {w:World}{g:Nat}{L:eU}{m:Mem}{s:Bool}{p:Int}{Z:Nat->Prop}{A:Option Addr}{n c:Nat}{l:List Int}(h:bV w g L m)(I:m.has s p=true)(J:aD w Z .u32 A n c l)(W:n=1024)(hw:Wd l)(hd:∀k,L.X k->¬Z k):
 Calls Tryz.prog 35 #[ptr g,fr s p,.slice A n c] w λe w'=>∃u,e=.returned u/\∃M,u=.int .i64 0/\bV w' g M (m.Lx s p.toNat l)/\Mc L M w/\Ch L.X w w':=by
 have aC:=J.len;refine yR _ s p _ _ _ ?_;refine mkd λg1 w1 y=>?_;refine⟨_,_,⟨y.blk.at rfl,y.blk.at rfl⟩,(zF (h.pu y.pu) s p).mono ?_⟩;rintro e w2 ⟨_,rfl,rfl,j⟩;have j:Pu w w2:=(show Pu w w1 from y.pu).trans j;have Y:Ch L.X w w2:=j.mono λ_ h=>h.elim;have F:=h.pu j;have hg:=F.gq;subst hg;have z:=Mem.fK I;have aN:=vR I;have ei:(m.place s p).toNat=m.idx s p.toNat:=by omega
 refine⟨_,rfl,af (λN=>by exfalso;omega) λ_=>aG (λz=>absurd (by omega) z) λ_=>?_⟩;obtain⟨T,hdr⟩:=F.hd;refine ah _ rfl ⟨_,hdr.at rfl,ah _ rfl (aL hdr (by show 2+1<=3;omega) λd B=>?_)⟩;have h3:bV d L.g L (m.tick 1024):=F.tick B;have an:aD d Z .u32 A n c l:=(J.pu j).ch B.ch λk i e=>hd k (.inl e) i;have G:=h3.pu (Pu.aw d);obtain⟨T',hd'⟩:=G.hd;refine⟨λ_ k=>k<d.heap.size,ah _ rfl ⟨by show L.g<_;exact hd'.lt,_,_,_,hd'.at rfl,?_⟩⟩;refine cu (t:=26) (Z:=up d.drew) oQ OI.nil (Nat.le_refl _) an.drew (by omega) (by omega) λA5 C w5 P q=>?_;have q:Pu d.drew w5:=Ch.fresh q;rw[Nat.zero_add]at P ⊢;refine⟨aY (λk i=>i) q,_,λ_ _ h=>h,?_⟩;have Q:=G.pu q;obtain⟨T2,cs,R,a0,hi,hc⟩:=Q.slot (s:=s) (p:=p.toNat) (by simpa using z);have a1:m.idx s p.toNat<L.n:=hi;refine⟨⟨by omega,by omega⟩,ah _ rfl ?_⟩;rw[Nat.mul_one,ei];obtain⟨b,cur,hA,x,N,a2,S⟩:=cG.blk P (by omega);have ev:Value.slice A5 n C=GR (some (b,C)):=by rw[hA,W];rfl
 rw[ev];refine aL R (by show m.idx s p.toNat+1<=_;omega) λw6 V=>?_;have az:¬L.X b:=λhx=>by have:=G.lt b hx;have x:d.drew.heap.size<=b:=x;omega
 have h6:=Q.lay (s:=s) (p:=p.toNat) (v:=some (b,C)) (f:=λo=>l.getD o 0) (by simpa using z) (λo=>bJ hw o) (λe=>by cases e) (λb' c' e=>by
  injection e with e
  injection e with H e2
  subst H;refine⟨⟨_,cur,N,by omega,λo ho=>?_⟩,az⟩;have:((l.map (Value.int .u32)))[o]? =some (O (l.getD o 0)):=by rw[List.getElem?_map,List.getD_eq_getElem?_getD,List.getElem?_eq_getElem (by omega)];rfl
  rw[List.nil_append]at S;rw[<-S,List.getElem?_take]at this;split at this
  ·simpa using this
  ·cases this) R V
 refine⟨_,λ_ _ h=>h,L.put (m.idx s p.toNat) (some (b,C)),rfl,h6,λk i=>?_,((Y.stored B (.inl (.inl rfl))).drew.pu q).stored V (.inl (.inr (.inl rfl)))⟩;rcases eU.M0 i with i|⟨c',e⟩
 ·exact .inl i
 ·injection e with e
  injection e with H e2
  subst H;have x:d.drew.heap.size<=b:=x;have aA:=B.ch.size;have:=j.size;exact .inr (Nat.le_trans this (Nat.le_trans aA x))
end Go.Proofs.YtoghdgcmhbanbaaGreatDoor
end
section
set_option maxRecDepth 100000
set_option maxHeartbeats 2000000
namespace Go.Proofs.YtoghdgcmhbanbaaGreatDoor
open Go Go.RowKit V Pk
open Go.IntKind (i64 u32 u64 wrap_i64 wrap_u32)
attribute [local irreducible] DB.broken
structure Rg where
 r0:Int
 r1:Int
 r2:Int
 r3:Int
 r4:Int
 r5:Int
 r6:Int
 r7:Int
 r8:Int
 r9:Int
 r10:Int
 r11:Int
 r12:Int
 r13:Int
 r14:Int
@[reducible] def rgC(r:Rg):Array Value:= #[.int .u32 r.r0,.int .u32 r.r1,.int .u32 r.r2,.int .u32 r.r3,.int .u32 r.r4,.int .u32 r.r5,.int .u32 r.r6,.int .u32 r.r7,.int .u32 r.r8,.int .u32 r.r9,.int .u32 r.r10,.int .u32 r.r11,.int .u32 r.r12,.int .u32 r.r13,.int .u32 r.r14]
@[reducible] def moC(a b:Int)(s:S8)(A:oA)(n c:Nat)(k:S8)(g:Nat)(r:Rg):Array Value:= #[.int .i64 a,.int .i64 b,.int .u32 s.a,.int .u32 s.b,.int .u32 s.c,.int .u32 s.d,.int .u32 s.e,.int .u32 s.f,.int .u32 s.g,.int .u32 s.h,.slice A n c,.int .u32 k.a,.int .u32 k.b,.int .u32 k.c,.int .u32 k.d,.int .u32 k.e,.int .u32 k.f,.int .u32 k.g,.int .u32 k.h,.pointer (pvA g),.int .u32 r.r0,.int .u32 r.r1,.int .u32 r.r2,.int .u32 r.r3,.int .u32 r.r4,.int .u32 r.r5,.int .u32 r.r6,.int .u32 r.r7,.int .u32 r.r8,.int .u32 r.r9,.int .u32 r.r10,.int .u32 r.r11,.int .u32 r.r12,.int .u32 r.r13,.int .u32 r.r14]
@[reducible] def rmC(a b:Int)(s:S8)(A:oA)(n c:Nat)(k:S8)(g:Nat)(r:Rg):Array Value:= #[.int .i64 a,.int .i64 b,.int .u32 s.a,.int .u32 s.b,.int .u32 s.c,.int .u32 s.d,.int .u32 s.e,.int .u32 s.f,.int .u32 s.g,.int .u32 s.h,.slice A n c,.pointer (pvA g),.int .u32 k.a,.int .u32 k.b,.int .u32 k.c,.int .u32 k.d,.int .u32 k.e,.int .u32 k.f,.int .u32 k.g,.int .u32 k.h,.int .u32 r.r0,.int .u32 r.r1,.int .u32 r.r2,.int .u32 r.r3,.int .u32 r.r4,.int .u32 r.r5,.int .u32 r.r6,.int .u32 r.r7,.int .u32 r.r8,.int .u32 r.r9,.int .u32 r.r10,.int .u32 r.r11,.int .u32 r.r12,.int .u32 r.r13,.int .u32 r.r14]
structure nH(w:World)(g:Nat)(a b:Int)(s:S8)(ss:List (List Int))(L:gE)(D:DB)(r:Rg):Prop where
 hd:∃A n c k T Z,Blk w g (moC a b s A n c k L.g r) T/\NL w Z A n c ss
 db:DBP w L D
structure xf(w:World)(g:Nat)(a b:Int)(s:S8)(ss:List (List Int))(gd:Nat)(L:jJ)(D:DB)(r:Rg):Prop where
 hd:∃A n c k T Z,Blk w g (rmC a b s A n c k gd r) T/\NL w Z A n c ss
 db:eV w gd L D
section
variable {w w':World}{g gd:Nat}{a b:Int}{s:S8}{ss:List (List Int)}{L:gE}{LR:jJ}{D:DB}{r:Rg}{K:List Int}{A:Option Addr}{n c:Nat}{Z:Nat->Prop}
theorem nH.pu(h:nH w g a b s ss L D r)(q:Pu w w'):nH w' g a b s ss L D r:=by
 obtain⟨A,n,c,k,T,Z,d,e⟩:=h.hd;exact⟨⟨A,n,c,k,T,Z,Pu.blk q d,e.pu q⟩,h.db.pu q⟩
theorem xf.pu(h:xf w g a b s ss gd LR D r)(q:Pu w w'):xf w' g a b s ss gd LR D r:=by
 obtain⟨A,n,c,k,T,Z,d,e⟩:=h.hd;exact⟨⟨A,n,c,k,T,Z,Pu.blk q d,e.pu q⟩,h.db.pu q⟩
theorem Jy(h:nH w g a b s ss L D r):Calls Tryz.prog 20 #[.pointer (pvA g)] w λe w'=>∃v,e=.returned v/\v=.pointer (some (Addr.mk L.g 0 none))/\w'=w:=by
 obtain⟨A,n,c,k,T,Z,hd,_⟩:=h.hd;exact Dn _ (ah _ rfl ⟨_,hd.at rfl,rfl,rfl⟩)
theorem qo(h:nH w g a b s ss L D r):Calls Tryz.prog 19 #[.pointer (pvA g)] w λe w'=>∃v,e=.returned v/\v=.agg (rgC r)/\Pu w w':=by
 obtain⟨A,n,c,k,T,Z,hd,_⟩:=h.hd;refine oL _ ?_;refine mkd λi w1 m=>?_;have d:=m.old hd;refine ah _ rfl ?_;refine⟨_,_,_,_,_,_,_,_,_,_,_,_,_,_,_,⟨d.at2 rfl,d.at2 rfl,d.at2 rfl,d.at2 rfl,d.at2 rfl,d.at2 rfl,d.at2 rfl,d.at2 rfl,d.at2 rfl,d.at2 rfl,d.at2 rfl,d.at2 rfl,d.at2 rfl,d.at2 rfl,d.at2 rfl⟩,?_⟩;refine aI m.blk rfl λw2 s2=>?_;have f:=s2.blk;exact⟨_,_,_,_,_,_,_,_,_,_,_,_,_,_,_,⟨f.at rfl,f.at rfl,f.at rfl,f.at rfl,f.at rfl,f.at rfl,f.at rfl,f.at rfl,f.at rfl,f.at rfl,f.at rfl,f.at rfl,f.at rfl,f.at rfl,f.at rfl⟩,rfl,(show Pu w w1 from m.pu).stored s2 (.inr (by have:=m.num;omega))⟩
theorem zW(h:nH w g a b s ss L D r)(hm:mu a b ss):Calls Tryz.prog 82 #[.pointer (pvA g)] w λe w'=>∃v,e=.returned v/\∃A n c,v=.agg (kt a b s A n c)/\NL w' (up w) A n c ss/\Pu w w':=by
 obtain⟨A,n,c,k,T,Z,hd,j⟩:=h.hd;have p:=j.len;have t:=hm.2.2.2.2.1;refine uI _ ?_;refine mkd λu w1 m=>?_;have d:=m.old hd;refine ah _ rfl ⟨_,_,_,_,_,_,_,_,_,_,_,_,_,⟨d.at2 rfl,d.at2 rfl,d.at2 rfl,d.at2 rfl,d.at2 rfl,d.at2 rfl,d.at2 rfl,d.at2 rfl,d.at2 rfl,d.at2 rfl,d.at2 rfl⟩,?_⟩;refine(tu (j.pu m.pu) (by omega) hm.2.2.2.2.2).mono ?_;rintro e w2 ⟨_,rfl,x,y,rfl,o,l⟩;have num:=m.num;refine⟨_,_,_,_,_,_,_,_,_,_,_,_,_,rfl,aI (Pu.blk l m.blk) rfl λz i=>?_⟩;have f:=i.blk;refine⟨_,_,_,_,_,_,_,_,_,_,_,_,_,⟨f.at rfl,f.at rfl,f.at rfl,f.at rfl,f.at rfl,f.at rfl,f.at rfl,f.at rfl,f.at rfl,f.at rfl,f.at rfl⟩,?_⟩;exact⟨_,_,_,rfl,(o.ch i.ch λq hq e=>by have hq:w1.heap.size<=q:=hq;have:=m.size;omega).mono λq hq=>Nat.le_trans (show Pu w w1 from m.pu).size hq,((show Pu w w1 from m.pu).trans l).stored i (.inr (by omega))⟩
theorem My(f:cR w 1 K)(h:NL w Z A n c ss)(N:n<=1000000):
 Calls Tryz.prog 46 #[.agg (kt a b s A n c)] w λe w'=>∃v,e=.returned v/\Pu w w'/\((¬mu a b ss/\v=.tuple #[.pointer none,.int .i64 210])\/
  (mu a b ss/\∃g L,v=.tuple #[.pointer (pvA g),.int .i64 0]/\nH w' g a b s ss L (DB.new (Mem.fresh a.toNat b.toNat)) ⟨0,0,0,0,0,0,0,0,0,0,0,0,0,0,0⟩/\∀k,L.X k->w.heap.size<=k)):=by
 refine BR _ _ _ _ _ _ _ _ _ _ _ _ _ ?_;refine mkd λgv w1 m=>?_;have i:=m.blk;refine⟨_,_,_,_,_,_,_,_,_,_,_,_,_,⟨i.at rfl,i.at rfl,i.at rfl,i.at rfl,i.at rfl,i.at rfl,i.at rfl,i.at rfl,i.at rfl,i.at rfl,i.at rfl⟩,?_⟩;refine(KA (h.pu m.pu) N).mono ?_;rintro e w2 ⟨_,rfl,⟨x,rfl,p⟩,G⟩;have t:Pu w w2:=(show Pu w w1 from m.pu).trans G;refine⟨_,rfl,bo (λu=>⟨t,.inl ⟨λhm=>(by have:=p.2 hm;rw[u]at this;cases this),rfl⟩⟩) (λu=>?_)⟩;have hm:=p.1 u;have y:=Pu.blk G i;refine⟨_,y.at rfl,_,y.at rfl,(Np a b ⟨hm.1,hm.2.1⟩ ⟨hm.2.2.1,hm.2.2.2.1⟩).mono ?_⟩;rintro e j ⟨_,rfl,L,rfl,H,O,I⟩;have z:Pu w j:=t.trans I;have d:=(Pu.blk I y).drew;refine⟨_,_,rfl,λ_ k=>k<j.heap.size,d.lt,_,_,_,_,_,_,_,_,_,_,_,_,_,⟨d.at rfl,d.at rfl,d.at rfl,d.at rfl,d.at rfl,d.at rfl,d.at rfl,d.at rfl,d.at rfl,d.at rfl,d.at rfl⟩,by rw[block_add];exact d.lt,
  _,_,_,_,_,_,_,_,⟨d.at2 rfl,d.at2 rfl,d.at2 rfl,d.at2 rfl,d.at2 rfl,d.at2 rfl,d.at2 rfl,d.at2 rfl⟩,?_⟩
 have hl:=h.len;refine(tu (h.pu z.drew) (by omega) hm.2.2.2.2.2).mono ?_;rintro e w4 ⟨_,rfl,A4,c4,rfl,P,l⟩;refine⟨_,_,_,_,_,_,_,_,_,_,_,_,_,rfl,aY (λk f=>f) l,_,λ_ _ h=>h,(MZ ((f.pu z.drew).pu l) s).mono ?_⟩;rintro e B ⟨_,rfl,rfl,q⟩;generalize yc K s=R;refine⟨_,_,_,_,_,_,_,_,rfl,aY (λk f=>Nat.lt_of_lt_of_le f l.size) q,_,λ_ _ h=>h,?_⟩;have Q:cH B L _:=((H.pu (Pu.aw j)).pu l).pu q;refine(NA Q (by show 1<=a.toNat;have:=hm.1;omega)).mono ?_;rintro e S ⟨_,rfl,g,T,rfl,an,V,⟨W,Y⟩,C⟩;have J:Pu j B:=((Pu.aw j).trans l).trans q;have F:Pu w B:=z.trans J;have M:∀k,L.X k->w.heap.size<=k:=λk f=>Nat.le_trans t.size (O k f);have p6:Pu w S:=F.call C λk f=>.inr (M k f);refine⟨_,rfl,_,λ_ _ h=>h,mkd λgm w7 o=>⟨aY (λk f=>Nat.lt_of_lt_of_le f (Nat.le_trans J.size C.size)) o.pu,_,λ_ _ h=>h,p6.made o,.inr ⟨hm,gm,⟨g,T,L⟩,rfl,⟨⟨_,_,_,_,_,_,o.blk,((P.pu q).ch C λk f p=>?_).pu o.pu⟩,V.pu o.pu⟩,?_⟩⟩⟩
 ·have h1:=H.lt k p;have h2:j.drew.heap.size<=k:=f;exact absurd h1 (Nat.not_lt.2 h2)
 ·rintro k (rfl|rfl|f)
  ·exact Nat.le_trans F.size W
  ·exact Nat.le_trans F.size Y
  ·exact M k f
end
end Go.Proofs.YtoghdgcmhbanbaaGreatDoor
end
section
set_option maxRecDepth 100000
set_option maxHeartbeats 2000000
namespace Go.Proofs.YtoghdgcmhbanbaaGreatDoor
open Go Go.RowKit V Pk
open Go.IntKind (i64 u32 u64 wrap_i64 wrap_u32)
attribute [local irreducible] DB.broken
section
variable {w w':World}{a b:Int}{s:S8}{ss:List (List Int)}{D:DB}{K:List Int}{A:Option Addr}{n c:Nat}{Z:Nat->Prop}
theorem wh {L:fP}{m:Mem}(h:cH w L m):Calls Tryz.prog 77 #[ptr L.g] w λe w'=>∃v,e=.returned v/\v=.int .i64 m.I/\w'=w:=by
 obtain⟨T,hd⟩:=h.hd;refine ru _ ?_;exact ah _ rfl ⟨_,_,_,hd.at rfl,rfl,rfl⟩
theorem Lq {L:gE}(r:Rg)(f:cR w 1 K)(h:NL w Z A n c ss)(hm:mu a b ss)(hd:DBP w L D)(S:(D.S:Int)=a)(T:(D.mem.I:Int)=b):
 Calls Tryz.prog 51 #[.agg (kt a b s A n c),.pointer (some (Addr.mk L.g 0 none)),.agg (rgC r)] w λe w'=>∃v,e=.returned v/\Pu w w'/\((D.broken.1≠0/\v=.tuple #[.pointer none,.int .i64 211])\/(D.broken.1=0/\∃g,v=.tuple #[.pointer (pvA g),.int .i64 0]/\∀ {X:Nat->Prop}{w2:World},Ch X w' w2->(∀k,X k->k<w.heap.size/\¬L.X k)->nH w2 g a b s ss L D r)):=by
 have hl:=h.len;have az:=hm.2.2.2.2.1;refine yU _ _ _ _ _ _ _ _ _ _ _ _ _ _ _ _ _ _ _ _ _ _ _ _ _ _ _ _ _ ?_;refine mkd λgv w1 m=>mkd λaA w2 H=>?_;have z:Pu w w2:=(show Pu w w1 from m.pu).made H;have t:=H.old m.blk;have V:=H.blk;have j:=t.drew;refine⟨λx w'=>x=false/\Pu w2 w',?_,?_⟩
 ·refine⟨λ_ k=>k<w2.heap.size,t.lt,_,_,_,_,_,_,_,_,_,_,_,_,_,⟨j.at rfl,j.at rfl,j.at rfl,j.at rfl,j.at rfl,j.at rfl,j.at rfl,j.at rfl,j.at rfl,j.at rfl,j.at rfl⟩,?_⟩;refine(KA (h.pu z.drew) (by omega)).mono ?_;rintro e G ⟨_,rfl,⟨x,rfl,B⟩,C⟩;obtain rfl:x=true:=B.2 hm;have p:Pu w2 G:=(Pu.aw w2).trans C;have P:=Pu.blk p t;refine⟨_,rfl,_,λ_ _ h=>h,bG (bG ⟨by rw[block_add];exact t.lt,_,P.at rfl,(yi (hd.pu (z.trans p))).mono ?_⟩)⟩;rintro e u ⟨_,rfl,rfl,W⟩;have l:Pu G u:=W▸Ch.refl _ _;have d:=Pu.blk l P;refine⟨_,rfl,aY (λk f=>Nat.lt_of_lt_of_le f p.size) l,_,λ_ _ h=>h,aG (λY=>absurd S Y) λ_=>⟨by rw[block_add];exact t.lt,_,d.at rfl,(yj (hd.pu ((z.trans p).trans l))).mono ?_⟩⟩;rintro e I ⟨_,rfl,rfl,e5⟩;have o:Pu u I:=e5▸Ch.refl _ _;refine⟨_,rfl,aY (λk f=>Nat.lt_of_lt_of_le f (p.trans l).size) o,_,λ_ _ h=>h,(wh ((hd.pu (((z.trans p).trans l).trans o)).mem)).mono ?_⟩;rintro e J ⟨_,rfl,rfl,e6⟩;have q:Pu I J:=e6▸Ch.refl _ _;exact⟨_,rfl,aY (λk f=>Nat.lt_of_lt_of_le f ((p.trans l).trans o).size) q,_,λ_ _ h=>h,by simp[T],((p.trans l).trans o).trans q⟩
 ·rintro _ _ G ⟨rfl,C⟩;have Q:Pu w G:=z.trans C;refine bG ((IT (hd.pu Q)).mono ?_);rintro e u ⟨_,rfl,rfl,l⟩;have F:Pu w u:=Q.trans l;refine⟨_,_,rfl,aG (λM=>⟨F,.inl ⟨M,rfl⟩⟩) (λM=>?_)⟩;have d:=(Pu.blk l (Pu.blk C t)).drew;have i:=(Pu.blk l (Pu.blk C V)).drew;refine⟨λ_ k=>k<u.heap.size,d.lt,_,_,_,_,_,_,_,_,_,_,_,_,_,⟨d.at rfl,d.at rfl,d.at rfl,d.at rfl,d.at rfl,d.at rfl,d.at rfl,d.at rfl,d.at rfl,d.at rfl,d.at rfl⟩,by rw[block_add];exact d.lt,
   _,_,_,_,_,_,_,_,⟨d.at2 rfl,d.at2 rfl,d.at2 rfl,d.at2 rfl,d.at2 rfl,d.at2 rfl,d.at2 rfl,d.at2 rfl⟩,i.lt,
   _,_,_,_,_,_,_,_,_,_,_,_,_,_,_,⟨i.at rfl,i.at rfl,i.at rfl,i.at rfl,i.at rfl,i.at rfl,i.at rfl,i.at rfl,i.at rfl,i.at rfl,i.at rfl,i.at rfl,i.at rfl,i.at rfl,i.at rfl⟩,?_⟩
  refine(tu (h.pu F.drew) (by omega) hm.2.2.2.2.2).mono ?_;rintro e I ⟨_,rfl,A5,c5,rfl,an,o⟩;refine⟨_,_,_,_,_,_,_,_,_,_,_,_,_,rfl,aY (λk f=>f) o,_,λ_ _ h=>h,(MZ ((f.pu F.drew).pu o) s).mono ?_⟩;rintro e J ⟨_,rfl,rfl,q⟩;generalize yc K s=R;have N:Pu w J:=(F.drew.trans o).trans q;refine⟨_,_,_,_,_,_,_,_,rfl,aY (λk f=>Nat.lt_of_lt_of_le f o.size) q,_,λ_ _ h=>h,mkd λgm w7 y=>⟨aY (λk f=>Nat.lt_of_lt_of_le f (o.trans q).size) y.pu,_,λ_ _ h=>h,N.made y,.inr ⟨M,gm,rfl,λc B=>⟨⟨_,_,_,_,_,_,c.blk y.blk λf=>by have h1:=(B _ f).1;have h2:=y.num;have h3:=N.size;omega,((an.pu q).pu y.pu).ch c λk f O=>by have h1:=(B _ O).1;have h2:u.drew.heap.size<=k:=f;have h3:=F.drew.size;omega⟩,(hd.pu (N.made y)).ch c λk f O=>(B _ O).2 f⟩⟩⟩⟩
theorem Mt {gd:Nat}{L:jJ}(r:Rg)(j:cR w 2 K)(S:s.ok)(h:NL w Z A n c ss)(hm:mu a b ss)(hd:eV w gd L D)(V:(D.S:Int)=a)(W:(D.mem.I:Int)=b):
 Calls Tryz.prog 37 #[.agg (kt a b s A n c),.pointer (pvA gd),.agg (rgC r)] w λe w'=>∃v,e=.returned v/\Pu w w'/\((D.broken.1≠0/\v=.tuple #[.pointer none,.int .i64 211])\/(D.broken.1=0/\∃g,v=.tuple #[.pointer (pvA g),.int .i64 0]/\xf w' g a b s ss gd L D r)):=by
 have hl:=h.len;have az:=hm.2.2.2.2.1;refine vk _ _ _ _ _ _ _ _ _ _ _ _ _ _ _ _ _ _ _ _ _ _ _ _ _ _ _ _ _ ?_;refine mkd λgv w1 m=>mkd λaA w2 H=>?_;have I:Pu w w2:=(show Pu w w1 from m.pu).made H;have i:=H.old m.blk;have Y:=H.blk;refine⟨_,_,_,_,_,_,_,_,_,_,_,_,_,⟨i.at rfl,i.at rfl,i.at rfl,i.at rfl,i.at rfl,i.at rfl,i.at rfl,i.at rfl,i.at rfl,i.at rfl,i.at rfl⟩,?_⟩;refine(GO (h.pu I) (by omega)).mono ?_;rintro e o ⟨_,rfl,⟨x,rfl,hx⟩,u⟩;obtain rfl:x=true:=hx.2 hm;refine⟨_,rfl,λx w'=>x=false/\Pu o w',?_,?_⟩
 ·have y:=(hd.pu (I.trans u)).pu (Pu.aw o);have z:=(Pu.blk u i).drew;obtain⟨T,B⟩:=y.hd';refine⟨λ_ k=>k<o.heap.size,bG (bG (ah _ rfl ⟨by rw[block_add];exact B.lt,_,B.at rfl,by rw[block_add];exact z.lt,_,z.at rfl,(EZ y).mono ?_⟩))⟩;rintro e J ⟨_,rfl,rfl,e4⟩;have l:Pu o.drew J:=e4▸Ch.refl _ _;have N:=y.pu l;obtain⟨T,B⟩:=N.hd';have d:=Pu.blk l z;refine⟨_,rfl,aY (λk j=>j) l,_,λ_ _ h=>h,aG (λhn=>absurd V hn) λ_=>ah _ rfl ⟨by rw[block_add];show gd<o.heap.size;obtain⟨T,hq⟩:=y.hd';exact hq.lt,_,B.at rfl,by rw[block_add];exact z.lt,_,d.at rfl,(zB N).mono ?_⟩⟩;rintro e C ⟨_,rfl,rfl,p⟩;exact⟨_,rfl,aY (λk j=>Nat.lt_of_lt_of_le j l.size) p,_,λ_ _ h=>h,by simp[W],((Pu.aw o).trans l).trans p⟩
 ·rintro _ _ J ⟨rfl,l⟩;have O:Pu w J:=(I.trans u).trans l;refine bG ((Jk (hd.pu O)).mono ?_);rintro e C ⟨_,rfl,rfl,p⟩;have F:Pu w C:=O.trans p;have P:Pu w2 C:=(u.trans l).trans p;refine⟨_,_,rfl,aG (λM=>⟨F,.inl ⟨M,rfl⟩⟩) (λM=>?_)⟩;have d:=(Pu.blk P i).drew;have f:=(Pu.blk P Y).drew;refine⟨λ_ k=>k<C.heap.size,d.lt,_,_,_,_,_,_,_,_,_,_,_,_,_,⟨d.at rfl,d.at rfl,d.at rfl,d.at rfl,d.at rfl,d.at rfl,d.at rfl,d.at rfl,d.at rfl,d.at rfl,d.at rfl⟩,by rw[block_add];exact d.lt,
   _,_,_,_,_,_,_,_,⟨d.at2 rfl,d.at2 rfl,d.at2 rfl,d.at2 rfl,d.at2 rfl,d.at2 rfl,d.at2 rfl,d.at2 rfl⟩,f.lt,
   _,_,_,_,_,_,_,_,_,_,_,_,_,_,_,⟨f.at rfl,f.at rfl,f.at rfl,f.at rfl,f.at rfl,f.at rfl,f.at rfl,f.at rfl,f.at rfl,f.at rfl,f.at rfl,f.at rfl,f.at rfl,f.at rfl,f.at rfl⟩,?_⟩
  refine(Jj (h.pu F.drew) (by omega) hm.2.2.2.2.2).mono ?_;rintro e w6 ⟨_,rfl,A5,c5,rfl,an,q⟩;refine⟨_,_,_,_,_,_,_,_,_,_,_,_,_,rfl,aY (λk j=>j) q,_,λ_ _ h=>h,(Nl ((j.pu F.drew).pu q) S).mono ?_⟩;rintro e w7 ⟨_,rfl,rfl,G⟩;generalize yc K s=R;have Q:Pu w w7:=(F.drew.trans q).trans G;refine⟨_,_,_,_,_,_,_,_,rfl,aY (λk j=>Nat.lt_of_lt_of_le j q.size) G,_,λ_ _ h=>h,mkd λgm w8 t=>⟨aY (λk j=>Nat.lt_of_lt_of_le j (q.trans G).size) t.pu,_,λ_ _ h=>h,Q.made t,.inr ⟨M,gm,rfl,⟨_,_,_,_,_,_,t.blk,(an.pu G).pu t.pu⟩,hd.pu (Q.made t)⟩⟩⟩
end
end Go.Proofs.YtoghdgcmhbanbaaGreatDoor
end
section
set_option maxRecDepth 100000
set_option maxHeartbeats 2000000
namespace Go.Proofs.YtoghdgcmhbanbaaGreatDoor
open Go Go.RowKit V Pk
open Go.IntKind (i64 u32 u64 wrap_i64 wrap_u32)
open Enc (enc)
structure Fm where
 s:Bool
 p:Int
instance:Enc Fm:=⟨λx=>[.bool x.s,.int .i64 x.p],2,λ_=>rfl,by simp[Value.oneCell'],by omega⟩
theorem stF:SN Tryz.prog 109 111 (.agg #[.bool false,.int .i64 0]) 2 16:=SN.of (by kernel_rfl) (by kernel_rfl) (by rfl) (by omega)
def fmL(s:Bool)(n:Nat):List Fm:=(List.range n).map λp:Nat=>⟨s,(p:Int)⟩
theorem Aq(s:Bool)(n:Nat):fmL s (n+1)=fmL s n++ [⟨s,(n:Int)⟩]:=by unfold fmL;rw[List.range_succ,List.map_append];rfl
theorem om(s:Bool)(n:Nat):(fmL s n).length=n:=by unfold fmL;simp
theorem Ap(i s:Nat)(hi:i<=64)(G:s<=64)(w:World):
 Calls Tryz.prog 49 #[.int .i64 i,.int .i64 s] w λe w'=>∃v,e=.returned v/\∃A c,v=.slice A (i+s) c/\Rd w' (λk=>w.heap.size<=k/\k<w'.heap.size) A (i+s) c (fmL false i++fmL true s)/\Pu w w':=by
 refine uu _ _ ?_;refine⟨λm A n c x w'=>∃j:Nat,x=(j:Int)/\j<=i/\m=i - j/\n=j/\Own w' (up w) 111 A n c (fmL false j)/\Pu w w',⟨_,0,rfl,Nat.zero_le _,rfl,rfl,Own.nil,Ch.refl _ _⟩,?_⟩;rintro m _ A n c _ w1 ⟨j,rfl,t,rfl,rfl,d,l⟩;refine af (λo=>?_) (λo=>?_)
 ·refine mkd λg w2 f=>?_;refine(d.pu f.pu).app (x:=(⟨false,(n:Int)⟩:Fm)) stF f.blk rfl (by omega) (by omega) (Nat.le_trans l.size (show Pu w1 w2 from f.pu).size) λA' c' q u y=>?_;exact⟨i - (n+1),by omega,n+1,by rw[aa (by omega)];omega,by omega,rfl,rfl,by rw[Aq];exact u,(l.made f).up y⟩
 ·obtain rfl:n=i:=by omega
  refine⟨λm A k c x w'=>∃j:Nat,x=(j:Int)/\j<=s/\m=s - j/\k=n+j/\Own w' (up w) 111 A k c (fmL false n++fmL true j)/\Pu w w',⟨_,0,rfl,Nat.zero_le _,rfl,rfl,by simpa[fmL]using d,l⟩,?_⟩;rintro m _ z k B _ w2 ⟨j,rfl,t,rfl,rfl,d,p⟩;refine af (λo=>?_) (λo=>?_)
  ·refine mkd λg q h=>?_;refine(d.pu h.pu).app (x:=(⟨true,(j:Int)⟩:Fm)) stF h.blk rfl (by omega) (by omega) (Nat.le_trans p.size (show Pu w2 q from h.pu).size) λA' c' H C F=>?_;exact⟨s - (j+1),by omega,j+1,by rw[aa (by omega)];omega,by omega,rfl,by omega,by rw[Aq,<-List.append_assoc];exact C,(p.made h).up F⟩
  ·obtain rfl:j=s:=by omega
   exact⟨z,B,rfl,d.rd,p⟩
def gu(m:Mem)(f:Fm):List Int:=(List.range 1024).map λo:Nat=>m.gp f.s f.p (o:Int)
def qm(m:Mem)(f:Fm)(k:Nat):List Int:=(List.range k).map λo:Nat=>m.gp f.s f.p (o:Int)
theorem tg(m:Mem)(f:Fm)(k:Nat):qm m f (k+1)=qm m f k++ [m.gp f.s f.p (k:Int)]:=by unfold qm;rw[List.range_succ,List.map_append];rfl
theorem ph(m:Mem)(f:Fm)(k:Nat):(qm m f k).length=k:=by unfold qm;simp
theorem GU {m:Mem}(h:∀s i o,0<=m.pg s i o/\m.pg s i o<4294967296)(s:Bool)(p o:Int):0<=m.gp s p o/\m.gp s p o<4294967296:=by
 unfold Mem.gp;split
 ·exact h _ _ _
 ·omega
theorem pf {m:Mem}(h:∀s i o,0<=m.pg s i o/\m.pg s i o<4294967296)(f:Fm):eD (gu m f):=by
 refine⟨λx d=>?_,by unfold gu;simp⟩;unfold gu at d;obtain⟨o,_,rfl⟩:=List.mem_map.1 d;exact GU h _ _ _
def nW(m:Mem)(f:Fm)(k:Nat):List Int:=qm m f k++List.replicate (1024 - k) 0
theorem vV {m:Mem}{f:Fm}{k:Nat}(h:k<=1024):(nW m f k).length=1024:=by unfold nW;rw[List.length_append,ph,List.length_replicate];omega
theorem Cs {m:Mem}{f:Fm}{k:Nat}(h:k<1024):(nW m f k).set k (m.gp f.s f.p (k:Int))=nW m f (k+1):=by
 unfold nW;rw[List.set_append_right _ _ (by rw[ph];omega),ph,Nat.sub_self,show 1024 - k=(1024 - (k+1))+1 by omega,List.replicate_succ,List.set_cons_zero,tg,List.append_assoc];rfl
theorem Cr(m:Mem)(f:Fm):nW m f 0=List.replicate 1024 0:=List.nil_append _
theorem vW(m:Mem)(f:Fm):nW m f 1024=gu m f:=by unfold nW;simp[qm,gu]
theorem GD {w:World}{g:Nat}{T:TypeId}{l:List Int}(h:Blk w g (bD l) T)(d:l.length=1024):aD w (λk=>k=g) .u32 (pvA g) 1024 1024 l:=
 aD.blk (Z:=λk=>k=g) (m:=0) h rfl (Nat.le_refl _) d λj x e=>by
  rw[Nat.zero_add];unfold bD;rw[List.getElem?_toArray,List.getElem?_map,e];rfl
theorem Jn {w:World}{g:Nat}{a b:Int}{s:S8}{ss:List (List Int)}{L:gE}{D:DB}{r:Rg}(h:nH w g a b s ss L D r):
 Calls Tryz.prog 63 #[.pointer (pvA g)] w λe w'=>∃v,e=.returned v/\∃A c,v=.slice A (D.mem.I+D.mem.S) c/\NL w' (up w) A (D.mem.I+D.mem.S) c ((fmL false D.mem.I++fmL true D.mem.S).map (gu D.mem))/\Pu w w':=by
 refine vb _ ((Jy h).mono ?_);rintro e w ⟨_,rfl,rfl,rfl⟩;have hd:=h.db;have O:=hd.mem.dD;refine⟨_,rfl,(yj hd).mono ?_⟩;rintro e w ⟨_,rfl,rfl,rfl⟩;refine⟨_,rfl,(wh hd.mem).mono ?_⟩;rintro e w ⟨_,rfl,rfl,rfl⟩;refine⟨_,rfl,(rK hd.mem).mono ?_⟩;rintro e w ⟨_,rfl,rfl,rfl⟩;refine⟨_,rfl,(Ap D.mem.I D.mem.S O.2 O.1 w).mono ?_⟩;rintro e w1 ⟨_,rfl,fA,fC,rfl,u,B⟩;have P:=u.len;refine⟨_,_,_,rfl,?_⟩;generalize hF:fmL false D.mem.I++fmL true D.mem.S=F at u P ⊢;generalize hN:D.mem.I+D.mem.S=N at u P ⊢;refine⟨λl A n c x w'=>∃j:Nat,x=(j:Int)/\j<=N/\l=N - j/\n=j/\ONL w1 w' A n c ((F.take j).map (gu D.mem))/\Pu w1 w',⟨_,0,rfl,Nat.zero_le _,rfl,rfl,ONL.nil,Ch.refl _ _⟩,?_⟩;rintro l _ A n c _ w2 ⟨j,rfl,hj,rfl,rfl,y,d⟩;refine af (λY=>?_) (λY=>?_)
 ·obtain⟨p,f,hp,Q,_,C⟩:=(u.pu d).ld (i:=(n:Int)) (by omega) (by omega);rw[Int.toNat_natCast]at Q C;refine⟨⟨by omega,by omega⟩,ah p hp ⟨f.s,f.p,⟨C 0 (by decide),C 1 (by decide)⟩,mkd λg6 R o=>aI o.blk rfl λw7 G=>?_⟩⟩;have num:=o.num;have S:Pu w2 w7:=(show Pu w2 R from o.pu).stored G (.inr (by omega));refine j3 vJ (by omega) (by omega) (by omega) λT w8 q=>?_;rw[show(1024:Int).toNat=1024 from rfl]at q ⊢;have q8:Pu w2 w8:=S.made q;have b8:=q.old G.blk;have n8:=q.num;have z7:=S.size;refine⟨λl x w'=>∃k:Nat,x=(k:Int)/\k<=1024/\l=1024 - k/\Blk w' g6 #[.bool f.s,.int .i64 f.p] _/\Blk w' T (bD (nW D.mem f k)) _/\Pu w2 w',⟨_,0,rfl,by omega,rfl,b8,q.blk.cast (by rw[Cr,jz]),q8⟩,?_⟩;rintro l _ _ w9 ⟨k,rfl,z,rfl,H,I,t⟩;refine af (λan=>?_) (λan=>?_)
  ·refine⟨_,_,⟨H.at rfl,H.at rfl⟩,(KE ((hd.mem.pu B).pu (d.trans t)) f.s f.p (k:Int)).mono ?_⟩;rintro e wa ⟨_,rfl,rfl,J⟩;refine⟨_,rfl,⟨by omega,by omega⟩,ah _ rfl ?_⟩;rw[Int.toNat_natCast,Nat.mul_one];refine aL (Pu.blk J I) (by rw[eF,vV (by omega)];show k+1<=_;omega) λwb M=>?_;have V:=M.blk;rw[nT,Cs (by omega)]at V;exact⟨1024 - (k+1),by omega,k+1,by rw[aa (by omega)];omega,by omega,rfl,M.old (Pu.blk J H) (by have:=(show Pu w2 R from o.pu).size;have:=o.size;have:=G.ch.size;omega),V,(t.trans J).stored M (.inr (by omega))⟩
  ·obtain rfl:k=1024:=by omega
   rw[vW]at I;have hi:=GD I (by rw[<-vW,vV (by omega)]);refine mkd λgh wa W=>?_;refine(y.pu t).app (Nat.le_trans d.size t.size) (y.fresh d.size (hi.mono λk z=>by rw[z];show w2.heap.size<=T;omega)) W (by omega) λA3 c3 wb az _ aA=>?_;refine⟨N - (n+1),by omega,n+1,by rw[aa (by omega)];omega,by omega,rfl,rfl,?_,((d.trans t).made W).up aA⟩;rw[List.take_succ_eq_append_getElem (by omega),List.map_append];have aC:F[n]'(by omega)=f:=by have:=List.getElem?_eq_some_iff.1 Q;exact this.2
   rw[List.map_cons,aC];exact az
 ·obtain rfl:n=N:=by omega
  rw[List.take_of_length_le (by omega)]at y;exact⟨A,c,rfl,y.nl.mono λk z=>Nat.le_trans B.size z.1,B.trans d⟩
theorem DI {w:World}{g:Nat}{L:eU}{m:Mem}(h:bV w g L m)(s:Bool)(p:Int):
 Calls Tryz.prog 41 #[.pointer (pvA g),fr s p] w λe w'=>∃v,e=.returned v/\∃A c,v=.slice A 1024 c/\OI w' (up w) 22 .u32 A 1024 c (gu m ⟨s,p⟩)/\Pu w w':=by
 refine vg _ _ _ (mkd λF w1 f=>?_);rintro G rfl;refine⟨λo A n c x w'=>∃k:Nat,x=(k:Int)/\k<=1024/\o=1024 - k/\n=k/\OI w' (up w1) 22 .u32 A n c (qm m ⟨s,p⟩ k)/\Pu w1 w',⟨_,0,rfl,by omega,rfl,rfl,OI.nil,Ch.refl _ _⟩,?_⟩;rintro o _ A n c _ w2 ⟨k,rfl,i,rfl,rfl,j,d⟩;refine af (λy=>?_) (λy=>?_)
 ·have q:=Pu.blk d f.blk;have t:Pu w w2:=(show Pu w w1 from f.pu).trans d;refine⟨_,_,⟨q.at rfl,q.at rfl⟩,(DL (h.pu t) s p (n:Int)).mono ?_⟩;rintro e z ⟨_,rfl,rfl,l⟩;have j:=j.pu l;have H:Pu w z:=t.trans l;refine⟨_,rfl,mkd λI J u=>?_⟩;refine dW (m:=1) (k:=.u32) oQ j (λk i=>Nat.le_trans (d.trans l).size i) [m.gp s p (n:Int)] rfl u (by omega) (by omega) λM N O B _ C=>?_;rintro P rfl;refine⟨1024 - (n+1),by omega,n+1,by rw[aa (by omega)];omega,by omega,rfl,rfl,by rw[tg];exact B,((d.trans l).made u).up C⟩
 ·obtain rfl:n=1024:=by omega
  exact⟨A,c,rfl,j.mono λk i=>Nat.le_trans (show Pu w w1 from f.pu).size i,(show Pu w w1 from f.pu).trans d⟩
end Go.Proofs.YtoghdgcmhbanbaaGreatDoor
end
section
set_option maxRecDepth 100000
set_option maxHeartbeats 2000000
namespace Go.Proofs.YtoghdgcmhbanbaaGreatDoor
open Go Go.RowKit V Pk
open Go.IntKind (i64 u32 u64 wrap_i64 wrap_u32)
open Enc (enc)
def s8I(s:S8):List Int:= [s.a,s.b,s.c,s.d,s.e,s.f,s.g,s.h]
def rgI(r:Rg):List Int:= [r.r0,r.r1,r.r2,r.r3,r.r4,r.r5,r.r6,r.r7,r.r8,r.r9,r.r10,r.r11,r.r12,r.r13,r.r14]
def eo(a b:Int)(n:Nat)(s:S8)(r:Rg):List Int:= [u32.wrap a,u32.wrap b,u32.wrap ((n:Nat):Int)]++s8I s++rgI r
def oZ(m:Mem):List (List Int):=(fmL false m.I++fmL true m.S).map (gu m)
def gM(a b:Int)(s:S8)(ss:List (List Int))(D:DB)(r:Rg):Nat->List (List Int)
 |0=>[eo a b ss.length s r]
 |1=>ss
 |2=>[D.words]
 |_=>oZ D.mem
def fO(p:List Int):Prop:=Wd p/\p.length<=4096
theorem KK {p:List Int}(h:fO p):(Fr p).length<=24584:=by
 have:=kV (⟨h.1,by have:=h.2;omega⟩:eD p);have:=h.2;rw[yZ];omega
theorem oo:∀ {l:List (List Int)},(∀p∈l,fO p)->(l.flatMap Fr).length<=24584*l.length
 | [],_=>by simp
 | p::l,h=>by
  have:=KK (h p (List.mem_cons_self ..));have:=oo (l:=l) λq hq=>h q (List.mem_cons_of_mem _ hq);rw[List.flatMap_cons,List.length_append,List.length_cons];omega
theorem fO.l {p:List Int}(h:fO p):eD p:=⟨h.1,by have:=h.2;omega⟩
def L8(r:Rg):Prop:=Wd (rgI r)
theorem wrap_u32(x:Int):0<=u32.wrap x/\u32.wrap x<4294967296:=by rw[Pk.u32_eq];omega
theorem wx {a b:Int}{n:Nat}{s:S8}{r:Rg}(e:s.ok)(f:L8 r):fO (eo a b n s r):=by
 refine⟨λx d=>?_,by simp[eo,s8I,rgI]⟩;unfold eo at d;rw[List.mem_append,List.mem_append]at d;rcases d with(d|d)|d
 ·simp only[List.mem_cons,List.not_mem_nil,or_false]at d;rcases d with rfl|rfl|rfl<;>exact wrap_u32 _
 ·have:=rG e ⟨x⟩ (by unfold s8I at d;unfold s8L;simpa using d);exact this
 ·exact f x d
theorem mI {D:DB}(h:D.Ok)(f:D.S<=64):fO D.words:=by
 refine⟨λx d=>?_,by rw[D.lK];omega⟩;unfold DB.words at d;rcases List.mem_cons.1 d with rfl|d
 ·have:=h.aR;omega
 ·obtain⟨p,e,d⟩:=List.mem_flatMap.1 d;have e:=List.mem_range.1 e;simp only[List.mem_cons,List.not_mem_nil,or_false]at d;rcases d with rfl|rfl
  ·exact Ent.zh (h.ent p e).1
  ·exact Ent.zg (h.ent p e).1
theorem Cq {m:Mem}(h:∀s i o,0<=m.pg s i o/\m.pg s i o<4294967296):∀p∈oZ m,fO p:=λp d=>by
 obtain⟨f,_,rfl⟩:=List.mem_map.1 d;exact⟨(pf h f).1,by unfold gu;simp⟩
section
variable {w:World}{g:Nat}{a b:Int}{s:S8}{ss:List (List Int)}{L:gE}{D:DB}{r:Rg}
theorem G4 {w1:World}{B:Option Addr}{m d:Nat}{p:List Int}{T:TypeId}{Z:Nat->Prop}{g:Nat}(f:Made w g #[.slice B m d] T w1)(hi:aD w Z .u32 B m d p)(h:Z g):NL w1 Z (pvA g) 1 1 [p]:=
 ⟨rfl,Nat.le_refl _,λj q e=>by
  cases j with
  | zero=>
   simp at e;subst e;exact⟨_,⟨B,m,d⟩,rfl,h,f.blk.at rfl,hi.pu f.pu⟩
  |succ j=>simp at e⟩
theorem Eb {X:Nat->Prop}{w1 w2:World}{l:List Nat}(q:Ch X w1 w2):Kept (aX (λ_ _=>False) l) w1 w2:=q.kept.mono λk d=>(iE (Z:=λ_=>False) d).elim
theorem LB(h:nH w g a b s ss L D r)(hm:mu a b ss):
 Calls Tryz.prog 60 #[.pointer (pvA g)] w λe w'=>∃v,e=.returned v/\∃A n c,v=.slice A n c/\NL w' (up w) A n c [eo a b ss.length s r]/\Pu w w':=by
 refine yF _ ((zW h hm).mono ?_);rintro e w1 ⟨_,rfl,A1,O,c1,rfl,P,G⟩;have Q:=P.len;refine⟨_,_,_,_,_,_,_,_,_,_,_,_,_,rfl,(qo (h.pu G)).mono ?_⟩;rintro e w2 ⟨_,rfl,rfl,R⟩;have C:Pu w w2:=G.trans R;refine⟨_,_,_,_,_,_,_,_,_,_,_,_,_,_,_,rfl,mkd λS w3 j=>mkd λT V l=>aI (l.old j.blk) rfl λw5 p=>aI (p.old l.blk (by have:=j.size;have:=j.num;have:=l.num;omega)) rfl λd q=>?_⟩;have nv:=j.num;have nw:=l.num;have z3:=j.size;have z4:=l.size;have u:=q.old p.blk (by omega);have W:=q.blk;have x:Pu w d:=(((C.made j).made l).stored p (.inr (by have:=C.size;omega))).stored q (.inr (by have:=C.size;omega));refine⟨_,u.at rfl,_,u.at rfl,_,_,_,u.at rfl,mkd λF f y=>⟨λ_ _=>False,?_⟩⟩;rintro Y an N8 rfl C8 rfl A9 az N9 rfl C9 rfl;have p7:Pu w f.drew:=(x.made y).drew;have z:Pu d f.drew:=(show Pu d f from y.pu).drew;have aA:aD f.drew (λk=>k=S) .u32 Y (8 - 0) (8 - 0) (s8I s):=aD.pre (m:=8) (o:=2) (Pu.blk z u) rfl an (Nat.le_refl _) rfl rfl;have aC:aD f.drew (λk=>k=T) .u32 A9 (15 - 0) (15 - 0) (rgI r):=aD.pre (m:=15) (o:=0) (Pu.blk z W) rfl (by rw[az];rfl) (Nat.le_refl _) rfl rfl;have n7:=y.num;have a0:V.heap.size<=d.heap.size:=Nat.le_trans p.ch.size q.ch.size;have o7:OI f.drew (up d) 22 .u32 (pvA F) 3 3 [u32.wrap a,u32.wrap b,u32.wrap ((O:Nat):Int)]:=⟨⟨rfl,.inr ⟨F,3,_,rfl,Nat.zero_le _,Pu.blk (Pu.aw f) y.blk,Nat.le_refl _,by decide,rfl,rfl⟩⟩,λa i=>by injection i with i;rw[<-i];show d.heap.size<=F;omega⟩;have aN:d.heap.size<=f.drew.heap.size:=z.size;refine cu (t:=26) oQ o7 aN aA (by omega) (by omega) λAa ca wa oa i=>?_;have H:Pu d wa:=z.up i;refine⟨Eb i,_,λ_ _ h=>h,?_⟩;refine cu (t:=26) oQ oa (show d.heap.size<=_ from H.size) (aC.ch i λk I h=>by have h:d.heap.size<=k:=h;omega) (by omega) (by omega) λAb cb J ob hb=>?_;have M:Pu d J:=H.up hb;refine⟨_,λ_ _ h=>h,mkd λgc wc B=>⟨Eb (show Pu J wc from B.pu),_,λ_ _ h=>h,_,_,_,rfl,?_,(x.trans M).made B⟩⟩;have N:=G4 B (ob.ints.mono (λk I=>(Nat.le_trans x.size I:up w k))) (show w.heap.size<=gc by have:=B.num;have:=x.size;have:=M.size;omega);rw[<-Q]at N;exact N
theorem EM(h:nH w g a b s ss L D r)(hm:mu a b ss):
 Calls Tryz.prog 61 #[.pointer (pvA g)] w λe w'=>∃v,e=.returned v/\∃A n c,v=.slice A n c/\NL w' (up w) A n c ss/\Pu w w':=by
 refine qZ _ ((zW h hm).mono ?_);rintro e w1 ⟨_,rfl,i,j,k,rfl,d,f⟩;exact⟨_,_,_,_,_,_,_,_,_,_,_,_,_,rfl,_,_,_,rfl,d,f⟩
theorem CJ(h:nH w g a b s ss L D r):
 Calls Tryz.prog 62 #[.pointer (pvA g)] w λe w'=>∃v,e=.returned v/\∃A n c,v=.slice A n c/\NL w' (up w) A n c [D.words]/\Pu w w':=by
 refine pK _ ((Jy h).mono ?_);rintro e w ⟨_,rfl,rfl,rfl⟩;refine⟨_,rfl,(HG h.db).mono ?_⟩;rintro e w1 ⟨_,rfl,gd,n,rfl,i,j,f⟩;have hi:=i.rd.ints;rw[List.map_map,show(U32.v ∘ uM)=id from rfl,List.map_id]at hi;refine⟨_,_,_,rfl,mkd λl w2 d=>⟨_,_,_,rfl,G4 d (hi.mono λk o=>(by rw[o.1];exact j:up w k)) (show w.heap.size<=l by have:=d.num;have:=f.size;omega),f.made d⟩⟩
theorem Lk(h:nH w g a b s ss L D r)(hm:mu a b ss)(j:Nat)(l:j<4):
 Calls Tryz.prog 38 #[.pointer (pvA g),.int .i64 (j:Int)] w λe w'=>∃v,e=.returned v/\∃A n c,v=.slice A n c/\NL w' (up w) A n c (gM a b s ss D r j)/\Pu w w':=by
 refine yB _ _ ?_;rintro _ rfl;refine aE (λf=>?_) (λf=>?_)
 ·obtain rfl:j=0:=by omega
  refine(LB h hm).mono ?_;rintro e w1 ⟨_,rfl,A,n,c,rfl,d,q⟩;exact⟨_,_,_,rfl,_,_,_,rfl,d,q⟩
 rintro _ rfl;refine aE (λi=>?_) (λi=>?_)
 ·obtain rfl:j=1:=by omega
  refine(EM h hm).mono ?_;rintro e w1 ⟨_,rfl,A,n,c,rfl,d,q⟩;exact⟨_,_,_,rfl,_,_,_,rfl,d,q⟩
 rintro _ rfl;refine aE (λk=>?_) (λk=>?_)
 ·obtain rfl:j=2:=by omega
  refine(CJ h).mono ?_;rintro e w1 ⟨_,rfl,A,n,c,rfl,d,q⟩;exact⟨_,_,_,rfl,_,_,_,rfl,d,q⟩
 ·obtain rfl:j=3:=by omega
  refine(Jn h).mono ?_;rintro e w1 ⟨_,rfl,A,c,rfl,d,q⟩;exact⟨_,_,_,rfl,_,_,_,rfl,d,q⟩
end
end Go.Proofs.YtoghdgcmhbanbaaGreatDoor
end
