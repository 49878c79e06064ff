/- EnterRefuses returns true for every input: which calls of a thread are taken, and why the others are not, by the entries alone; each argument reads behind the call as it read before; what the listed variables read as is tied to the program's text. -/
import Derived.Test.YtjiflmkpbkeocaaGreatDoorX4
import Derived.KernelRfl
import Derived.Laws.MakeOwn
import Derived.Maps.Own
set_option linter.unusedVariables false
set_option linter.unusedSimpArgs false
set_option maxRecDepth 100000
set_option maxHeartbeats 1000000
namespace Go.Proofs.YtjiflmkpbkeocaaGreatDoor
open Go.Proofs.Tryz (prog)
open Go Go.RowKit V
open Go.IntKind (i64 u32 u64 wrap_i64 wrap_u32)
namespace Mem
def oe(m:Mem)(l1 i:Int):Int:=if m.err true l1 i≠0 then m.err true l1 i else if kP (m.aI true l1 i)=0/\m.has true (dX (m.aI true l1 i))=false then 90 else kP (m.aI true l1 i)
def tbP(m:Mem)(l1 i:Int):Int:=if m.oe l1 i=0 then dX (m.aI true l1 i)else 0
def uD(m:Mem)(l2 j:Int):Int:=if m.err true l2 j≠0 then m.err true l2 j else if iV (m.aI true l2 j)=0/\m.has (dm (m.aI true l2 j)).cD (dm (m.aI true l2 j)).aH=false then 90 else iV (m.aI true l2 j)
def pcM(m:Mem)(l2 j:Int):Mp:=if m.uD l2 j=0 then dm (m.aI true l2 j)else Mp.nil
def rZ(m:Mem)(l1 va:Int):Int:=if iw va≠0 then iw va else if m.oe l1 (vaI va)≠0 then m.oe l1 (vaI va)else m.uD (m.tbP l1 (vaI va)) (vaJ va)
def wkM(m:Mem)(l1 va:Int):Mp:=if iw va=0/\m.oe l1 (vaI va)=0 then m.pcM (m.tbP l1 (vaI va)) (vaJ va)else Mp.nil
def dR(m:Mem)(l1 va a:Int):Int:=if m.rZ l1 va≠0 then m.rZ l1 va else if a=0\/(a=1/\(m.wkM l1 va).write=true)\/(a=2/\(m.wkM l1 va).exec=true)then 0 else 93
def trS(m:Mem)(l1 va a:Int):Bool:=m.dR l1 va a==0 && (m.wkM l1 va).cD
def trP(m:Mem)(l1 va a:Int):Int:=if m.dR l1 va a=0 then(m.wkM l1 va).aH else 0
def trO(m:Mem)(l1 va a:Int):Int:=if m.dR l1 va a=0 then vaO va else 0
end Mem
theorem CT {w:Int}(h:¬kP w=0):dX w=0:=by unfold kP at h;unfold dX;split at h<;>first|(subst_vars;rfl)|(split at h<;>grind)
theorem lE {w:Int}(h:¬iV w=0):dm w=Mp.nil:=by
 unfold iV at h;unfold dm;grind
section
attribute [local irreducible] Vc2 VcD
def lU:Ctr Un:=⟨[.one (.int .i64)],[],[],[],λp K=>K ⟨(.agg #[vB true,J p]),none,[],[],[]⟩⟩
theorem vw:LV Un prog 168 lU:=bR Tryz.func168 ak [] trivial [] .leaf [] (F:=∀p Q,lU.body p Q->∀(a:Nat),Q ⟨(.agg #[vB true,J p]),none,[],[],[]⟩) λp Q h a=>h
def vu:Ctr Un:=⟨[.one (.obj 0 0),.one (.int .i64),.one (.int .i64)],[],[.ob 0 []],[0],λl1 i a m K=>K ⟨(.tuple #[J (m.tbP l1 i),J (m.oe l1 i)]),kn2,[.ob 0 m],[],[]⟩⟩
section
attribute [local grind=] Mem.oe Mem.tbP
theorem Ko:LV Un prog 146 vu:=bR Tryz.func146 ak [(168,lU),(39,eP),(145,iQ),(169,zD)] ⟨vw,fW,ox,Ec,trivial⟩ [] (.r' (.r' (.r' (.r' (.two (.two (.node [] (some ⟨[(35,(.one .bool))],[],upN 27 9,[]⟩) [] [] .leaf .leaf) .leaf) .leaf))))) [] (F:=∀l1 i b (m:Mem) Q,vu.body l1 i b m Q->Mem.Wf m->∀(m1:Mem),m1=m->Mem.Wf m1->split ((m.err true l1 i) !=0) (Q ⟨(.tuple #[J 0,J (m.err true l1 i)]),kn2,[.ob 0 m1],[],[]⟩) ((0<=(m.aI true l1 i)/\(m.aI true l1 i)<4294967296)/\∃a:Bool->Prop,(split ((kP (m.aI true l1 i))==0) (a (!(m1.has true (dX (m.aI true l1 i))))) (a false))/\∀(l:Nat->Value)(c:Bool),a c->split c (Q ⟨(.tuple #[J 0,J 90]),kn2,[.ob 0 m1],[],[]⟩) (Q ⟨(.tuple #[J (dX (m.aI true l1 i)),J (kP (m.aI true l1 i))]),kn2,[.ob 0 m1],[],[]⟩))) λl1 i b m Q h f1 m1 o f2=>ax (λe=>aw h (bJ (ai (aJ (by(grind))) (ai (aJ (by(grind))) rfl))) (ai (uO0 (by(grind))) rfl) rfl) λe=>aj (cO ‹_› _ _ _) λs3=>eS ((((kP (m.aI true l1 i)):Int)==0) && (!(m1.has true (dX (m.aI true l1 i))))) (ao (λj=>(by grind)) λj=>(by grind))<| cT (λk=>aw h (bJ (ai (aJ (by(grind))) (ai (aJ (by(grind))) rfl))) (ai (uO0 (by(grind))) rfl) rfl) λk=>aw h (bJ (ai (aJ (by(grind[CT]))) (ai (aJ (by(grind))) rfl))) (ai (uO0 (by(grind))) rfl) rfl
end
def vz:Ctr Un:=⟨[.one (.obj 0 0),.one (.int .i64),.one (.int .i64)],[],[.ob 0 []],[0],λl2 j a m K=>K ⟨(.tuple #[(.agg #[vB ((m.pcM l2 j).cD),J (m.pcM l2 j).aH,vB ((m.pcM l2 j).write),vB ((m.pcM l2 j).exec)]),J (m.uD l2 j)]),kn2,[.ob 0 m],[],[]⟩⟩
section
attribute [local grind=] Mem.uD Mem.pcM Mp.nil
theorem Kq:LV Un prog 147 vz:=bR Tryz.func147 ak [(168,lU),(39,eP),(170,ik),(169,zD)] ⟨vw,fW,nf,Ec,trivial⟩ [] (.r' (.r' (.r' (.r' (.two (.two (.node [] (some ⟨[(36,(.one .bool))],[],upN 28 9,[]⟩) [] [] .leaf .leaf) .leaf) .leaf))))) [] (F:=∀l2 j b (m:Mem) Q,vz.body l2 j b m Q->Mem.Wf m->∀(e:Nat),∀(m1:Mem),m1=m->Mem.Wf m1->split ((m.err true l2 j) !=0) (Q ⟨(.tuple #[(.agg #[vB false,J 0,vB false,vB false]),J (m.err true l2 j)]),kn2,[.ob 0 m1],[],[]⟩) ((0<=(m.aI true l2 j)/\(m.aI true l2 j)<4294967296)/\∀(k:Nat),∃a:Bool->Prop,(split ((iV (m.aI true l2 j))==0) (a (!(m1.has ((dm (m.aI true l2 j)).cD) ((dm (m.aI true l2 j)).aH)))) (a false))/\∀(q:Nat->Value)(c:Bool),a c->split c (Q ⟨(.tuple #[(.agg #[vB false,J 0,vB false,vB false]),J 90]),kn2,[.ob 0 m1],[],[]⟩) (Q ⟨(.tuple #[(.agg #[vB ((dm (m.aI true l2 j)).cD),J (dm (m.aI true l2 j)).aH,vB ((dm (m.aI true l2 j)).write),vB ((dm (m.aI true l2 j)).exec)]),J (iV (m.aI true l2 j))]),kn2,[.ob 0 m1],[],[]⟩))) λl2 j b m Q h f1 e m1 u f2=>ax (λl=>aw h (bJ (ai (fB (ai (eQb (by(grind))) (ai (aJ (by(grind))) (ai (eQb (by(grind))) (ai (eQb (by(grind))) rfl))))) (ai (aJ (by(grind))) rfl))) (ai (uO0 (by(grind))) rfl) rfl) λl=>aj (cO ‹_› _ _ _) λs3 k=>eS ((((iV (m.aI true l2 j)):Int)==0) && (!(m1.has ((dm (m.aI true l2 j)).cD) ((dm (m.aI true l2 j)).aH)))) (ao (λo=>(by grind)) λo=>(by grind))<| cT (λp=>aw h (bJ (ai (fB (ai (eQb (by(grind))) (ai (aJ (by(grind))) (ai (eQb (by(grind))) (ai (eQb (by(grind))) rfl))))) (ai (aJ (by(grind))) rfl))) (ai (uO0 (by(grind))) rfl) rfl) λp=>aw h (bJ (ai (fB (ai (eQb (by(grind[lE]))) (ai (aJ (by(grind[lE]))) (ai (eQb (by(grind[lE]))) (ai (eQb (by(grind[lE]))) rfl))))) (ai (aJ (by(grind))) rfl))) (ai (uO0 (by(grind))) rfl) rfl
end
def zn:Ctr Un:=⟨[.one (.obj 0 0),.one (.int .i64),.one (.int .u32)],[],[.ob 0 []],[0],λl1 va a m K=>(0<=(va:Int)/\(va:Int)<4294967296)/\K ⟨(.tuple #[(.agg #[vB ((m.wkM l1 va).cD),J (m.wkM l1 va).aH,vB ((m.wkM l1 va).write),vB ((m.wkM l1 va).exec)]),J (m.rZ l1 va)]),kn2,[.ob 0 m],[],[]⟩⟩
section
attribute [local grind=] Mem.rZ Mem.wkM Mp.nil Mem.pcM
theorem My:LV Un prog 124 zn:=bR Tryz.func124 ak [(122,nd),(146,vu),(147,vz)] ⟨vv,Ko,Kq,trivial⟩ [] .leaf [] (F:=∀l1 va a (m:Mem) Q,zn.body l1 va a m Q->Mem.Wf m->∀(b:Nat),(0<=va/\va<4294967296)/\split ((iw va) !=0) (Q ⟨(.tuple #[(.agg #[vB false,J 0,vB false,vB false]),J (iw va)]),kn2,[.ob 0 m],[],[]⟩) (∀(m1:Mem),m1=m->Mem.Wf m1->split ((m.oe l1 (vaI va)) !=0) (Q ⟨(.tuple #[(.agg #[vB false,J 0,vB false,vB false]),J (m.oe l1 (vaI va))]),kn2,[.ob 0 m1],[],[]⟩) (∀(m2:Mem),m2=m1->Mem.Wf m2->Q ⟨(.tuple #[(.agg #[vB ((m1.pcM (m.tbP l1 (vaI va)) (vaJ va)).cD),J (m1.pcM (m.tbP l1 (vaI va)) (vaJ va)).aH,vB ((m1.pcM (m.tbP l1 (vaI va)) (vaJ va)).write),vB ((m1.pcM (m.tbP l1 (vaI va)) (vaJ va)).exec)]),J (m1.uD (m.tbP l1 (vaI va)) (vaJ va))]),kn2,[.ob 0 m2],[],[]⟩))) λl1 va a m Q h=>by
 obtain⟨j,h⟩:=h;exact λf1 b=>aj ‹_› λs2=>ax (λc=>aw h (bJ (ai (fB (ai (eQb (by grind)) (ai (aJ (by grind)) (ai (eQb (by grind)) (ai (eQb (by grind)) rfl))))) (ai (aJ (by grind)) rfl))) rfl rfl) λc m1 k f3=>ax (λe=>aw h (bJ (ai (fB (ai (eQb (by grind)) (ai (aJ (by grind)) (ai (eQb (by grind)) (ai (eQb (by grind)) rfl))))) (ai (aJ (by grind)) rfl))) (ai (uO0 (by grind)) rfl) rfl) λe m2 l f4=>aw h (bJ (ai (fB (ai (eQb (by grind)) (ai (aJ (by grind)) (ai (eQb (by grind)) (ai (eQb (by grind)) rfl))))) (ai (aJ (by grind)) rfl))) (ai (uO0 (by grind)) rfl) rfl
end
def jA:Ctr Un:=⟨[.one (.obj 0 0),.one (.int .i64),.one (.int .u32),.one (.int .i64)],[],[.ob 0 []],[0],λl1 va a b m K=>(0<=(va:Int)/\(va:Int)<4294967296)/\K ⟨(.tuple #[(.agg #[vB (m.trS l1 va a),J (m.trP l1 va a)]),J (m.trO l1 va a),J (m.dR l1 va a)]),(some (.t [none,none,none])),[.ob 0 m],[],[]⟩⟩
section
attribute [local grind=] Mem.dR Mem.trS Mem.trP Mem.trO
theorem lT:LV Un prog 116 jA:=bR Tryz.func116 ak [(124,zn),(122,nd)] ⟨My,vv,trivial⟩ [] (.r' (.r' (.r' (.two (.two (.node [] (some ⟨[(47,(.one .bool))],[],upN 28 20,[]⟩) [] [] .leaf .leaf) .leaf) .leaf)))) [] (F:=∀l1 va a c (m:Mem) Q,jA.body l1 va a c m Q->Mem.Wf m->∀(j:Nat),(0<=va/\va<4294967296)/\∀(m1:Mem),m1=m->Mem.Wf m1->∀(k:Nat),split ((m.rZ l1 va) !=0) (Q ⟨(.tuple #[(.agg #[vB false,J 0]),J 0,J (m.rZ l1 va)]),(some (.t [none,none,none])),[.ob 0 m1],[],[]⟩) (∃b:Bool->Prop,(split (a !=0) (split (a !=1) (split (a !=2) (b true) (b (!((m.wkM l1 va).exec)))) (split (!((m.wkM l1 va).write)) (split (a !=2) (b true) (b (!((m.wkM l1 va).exec)))) (b false))) (b false))/\∀(z:Nat->Value)(e:Bool),b e->split e (Q ⟨(.tuple #[(.agg #[vB false,J 0]),J 0,J 93]),(some (.t [none,none,none])),[.ob 0 m1],[],[]⟩) ((0<=va/\va<4294967296)/\Q ⟨(.tuple #[(.agg #[vB ((m.wkM l1 va).cD),J (m.wkM l1 va).aH]),J (vaO va),J 0]),(some (.t [none,none,none])),[.ob 0 m1],[],[]⟩))) λl1 va a c m Q h=>by
 obtain⟨A,h⟩:=h;exact λf1 j=>aj ‹_› λs2 m1 B f3 k=>ax (λl=>aw h (bJ (ai (fB (ai (eQb (by grind)) (ai (aJ (by grind)) rfl))) (ai (aJ (by grind)) (ai (aJ (by grind)) rfl)))) (ai (uO0 (by grind)) rfl) rfl) λl=>eS (((a:Int) !=0) && (if((a:Int) !=1)=true then(((a:Int) !=2) || (!((m.wkM l1 va).exec)))else((!((m.wkM l1 va).write)) && (((a:Int) !=2) || (!((m.wkM l1 va).exec)))))) (ao (λo=>ao (λp=>ao (λq=>(by grind)) λq=>(by grind)) λp=>ao (λu=>ao (λv=>(by grind)) λv=>(by grind)) λu=>(by grind)) λo=>(by grind))<| cT (λy=>aw h (bJ (ai (fB (ai (eQb (by grind)) (ai (aJ (by grind)) rfl))) (ai (aJ (by grind)) (ai (aJ (by grind)) rfl)))) (ai (uO0 (by grind)) rfl) rfl) λy=>aj ‹_› λC=>aw h (bJ (ai (fB (ai (eQb (by grind)) (ai (aJ (by grind)) rfl))) (ai (aJ (by grind)) (ai (aJ (by grind)) rfl)))) (ai (uO0 (by grind)) rfl) rfl
end
end
open Enc (enc)
section
structure Fd where
 v:Int
 lo:Int
 hi:Int
 p:Int
 n:Int
instance:Enc Fd:=⟨λx=>[.int .i64 x.v,.int .i64 x.lo,.int .i64 x.hi,.int .i64 x.p,.int .i64 x.n],5,λ_=>rfl,by simp[Value.oneCell'],by omega⟩
theorem snF:SN prog 264 268 (.agg #[.int .i64 0,.int .i64 0,.int .i64 0,.int .i64 0,.int .i64 0]) 5 40:=SN.of (by kernel_rfl) (by kernel_rfl) rfl (by decide)
namespace Ins
def fd(i:Ins)(c:Nat):Fd:=if c=97 then⟨i.a,0,14,22,4⟩else if c=98 then⟨i.b,0,14,18,4⟩else if c=99 then⟨i.c,0,14,14,4⟩else if c=107 then⟨i.cond,0,6,22,3⟩else if c=117 then⟨i64.wrap i.imm,0,65535,0,16⟩else⟨i64.wrap i.imm,-32768,32767,0,16⟩
def clr(i:Ins)(c:Nat):Ins:=if c=97 then {i with a:=0}else if c=98 then {i with b:=0}else if c=99 then {i with c:=0}else if c=107 then {i with cond:=0}else {i with imm:=0}
def fds(i:Ins):List Fd:=(shL i.op).map i.fd
def rest(i:Ins):Ins:=(shL i.op).foldl clr {i with op:=0}
def upd(e:Int)(i:Ins)(c:Nat):Ins:=if c=97 then {i with a:=i64.wrap (uY e 22 4)}else if c=98 then {i with b:=i64.wrap (uY e 18 4)}else if c=99 then {i with c:=i64.wrap (uY e 14 4)}else if c=107 then {i with cond:=i64.wrap (uY e 22 3)}else if c=117 then {i with imm:=IntKind.i32.wrap (uY e 0 16)}else {i with imm:=Ng e}
end Ins
def Fd.ok(f:Fd):Bool:= !decide (f.v<f.lo) && !decide (f.v>f.hi)
open Classical in
noncomputable def Ins.chk (i:Ins):Int:=if 1<=i.op/\i.op<25 then(if i.fds.all Fd.ok=true/\i.rest=Ins.zero then 0 else 51)else 50
def Ins.L8(i:Ins):Int:=i.fds.foldl (λw f=>tg w f.p f.n (u32.wrap f.v)) (u32.wrap ((u32.wrap i.op:Int)*2 ^ 26))
def gi(a:Int):Ins:=(shL (i64.wrap (uY a 26 6))).foldl (Ins.upd a) ⟨i64.wrap (uY a 26 6),0,0,0,0,0⟩
open Classical in
noncomputable def lP (a:Int):Int:=if(gi a).chk=0/\(gi a).L8=a then 0 else 50
open Classical in
noncomputable def dec (a:Int):Ins:=if lP a=0 then gi a else Ins.zero
theorem jU {α:Type}{l:List α}{p:Nat}{d:α}(h:p<l.length):l.take (p+1)=l.take p++ [l.getD p d]:=by
 rw[List.take_add_one,List.getD_eq_getElem?_getD,List.getElem?_eq_getElem h];rfl
theorem Fj {w:World}(hG:GkP w)(i:Ins):Calls prog 151 #[.agg i.arr] w λe B=>∃v,e=.returned v/\(∃A n c,v=.tuple #[.slice A n c,.agg i.rest.arr]/\Own B (up w) 268 A n c i.fds)/\Pu w B:=by
 refine wN _ _ _ _ _ _ ?_;refine mkd λg w1 m1=>mkd λq w2 m2=>?_;have b1:=m2.old m1.blk;have q2:Pu w w2:=m1.pu.trans m2.pu;refine⟨_,_,_,_,_,_,⟨b1.at rfl,b1.at rfl,b1.at rfl,b1.at rfl,b1.at rfl,b1.at rfl⟩,?_⟩;have J:g≠q:=m2.ne m1.blk;have l1:w.heap.size<=g:=m1.lo (Ch.refl (λ_=>False) w);have l2:w.heap.size<=q:=m2.lo m1.pu;refine bz m2.blk (Nat.le_refl 6) λw3 s3=>?_;refine bB (i:=0) s3.blk (show 0+1<=6 by decide) λT K=>?_;have b1:=K.old (s3.old b1 J) J;have b2:Blk T q ({i with op:=0}:Ins).arr _:=K.blk;have L:Pu w T:=(q2.stored s3 (.inr l2)).stored K (.inr l2);refine⟨_,b1.at rfl,?_⟩;refine(Jl (hG.pu L) i.op).mono ?_;rintro e w5 ⟨_,rfl,rfl,rfl⟩;refine⟨_,rfl,?_⟩;intro g3 w6 V ab;obtain⟨i6,M⟩:=Jf V ab;have ae:g≠g3:=by have:=b1.lt;omega
 have W:q≠g3:=by have:=b2.lt;omega
 have l3:w.heap.size<=g3:=by rw[V];exact L.size
 obtain⟨Sa,Y⟩:=H7 i.op;have h3:=CL i.op;refine⟨λm A n c B=>∃p,p<=(shL i.op).length/\m=(shL i.op).length - p/\B.heap[g3]? =some (.stringIter (shB i.op) p)/\Blk B g i.arr 214/\Blk B q (((shL i.op).take p).foldl Ins.clr {i with op:=0}).arr 214/\Own B (λk=>up w k/\k≠g/\k≠q/\k≠g3) 268 A n c (((shL i.op).take p).map i.fd)/\Pu w B,
  ⟨_,0,Nat.zero_le _,rfl,i6,M.blk b1,M.blk b2,Own.nil,L.trans M⟩,?_⟩
 rintro m _ A n c Z ⟨p,hp,rfl,i7,y,b,F,q7⟩;refine⟨_,_,i7,av (λO=>?_) λUa=>?_⟩
 ·rintro w8 aa;rw[Y p O]at aa;obtain⟨i8,C⟩:=Jd i7 aa;rw[Y p O];have Q:p<(shL i.op).length:=Sa▸O;have y:=C.blk y ae;have b:=C.blk b W;have F:=F.ch C λk u e=>u.2.2.2 e;have C:Pu w w8:=q7.call C λk u=>.inr (u▸l3);have af:=F.len;rw[List.length_map,List.length_take]at af;generalize ah:(shL i.op).getD p 0=l;have R:=jU (d:=0) Q;rw[ah]at R;have fin:∀ {x:Fd}{o:World}{z j:Nat}{v:Value}(a:Made w8 z ⟨enc x⟩ 268 o),i.fd l=x->(((((shL i.op).take p).foldl Ins.clr {i with op:=0}).clr l).arr=((((shL i.op).take p).foldl Ins.clr {i with op:=0}).arr).setIfInBounds j v)->j<6->
   ∃(A':oA)(n' c':Nat)(S:World),(Builtin.append_ #[264,264] 264 #[.slice A n c,.slice (pvA z) 1 1]:Sem Value).run prog o=.ok (.slice A' n' c') S/\
    aB S ((vA q).add j) [v] λG=>∃m1,m1<(shL i.op).length - p/\∃p,p<=(shL i.op).length/\m1=(shL i.op).length - p/\G.heap[g3]? =some (.stringIter (shB i.op) p)/\Blk G g i.arr 214/\Blk G q (((shL i.op).take p).foldl Ins.clr {i with op:=0}).arr 214/\Own G (λk=>up w k/\k≠g/\k≠q/\k≠g3) 268 A' n' c' (((shL i.op).take p).map i.fd)/\Pu w G:=by
   intro x o z j v a hx VO hj;have lg:g<o.heap.size:=(a.old y).lt;have aA:q<o.heap.size:=(a.old b).lt;have aC:g3<o.heap.size:=Nat.lt_of_lt_of_le (Array.getElem?_eq_some_iff.1 i8).1 a.pu.size;refine(F.pu a.pu).app snF a.blk rfl (by omega) (by omega) ⟨Nat.le_trans C.size a.pu.size,by omega,by omega,by omega⟩ λA' c' S an I=>?_;have d1:=I.blk (a.old y) λh=>h.2.1 rfl;have d2:=I.blk (a.old b) λh=>h.2.2.1 rfl;have i9:=Fh (Fh i8 a.pu (λh=>h)) I λh=>h.2.2.2 rfl;refine bB (i:=j) d2 (by show j+1<=6;omega) λG H=>⟨_,Nat.sub_lt_sub_left Q (Nat.lt_succ_self p),p+1,Q,rfl,?_,H.old d1 J,?_,?_,?_⟩
   ·exact Fh i9 H.ch λe=>W e.symm
   ·rw[R,List.foldl_append,List.foldl_cons,List.foldl_nil,VO];exact H.blk
   ·rw[R,List.map_append,List.map_cons,List.map_nil,hx];exact an.ch H.ch λk u e=>u.2.2.1 e
   ·exact((C.trans a.pu).call I λk u=>.inr u.1).stored H (.inr l2)
  rintro UM rfl;refine ar (λh=>?_) λn1=>?_
  ·refine⟨_,y.at rfl,mkd λz o a=>?_⟩;have e:l=97:=by omega
   exact fin (x:=⟨i.a,0,14,22,4⟩) a (by rw[e];rfl) (by rw[e];rfl) (by decide)
  rintro VT rfl;refine ar (λh=>?_) λn2=>?_
  ·refine⟨_,y.at rfl,mkd λz o a=>?_⟩;have e:l=98:=by omega
   exact fin (x:=⟨i.b,0,14,18,4⟩) a (by rw[e];rfl) (by rw[e];rfl) (by decide)
  rintro UJ rfl;refine ar (λh=>?_) λn3=>?_
  ·refine⟨_,y.at rfl,mkd λz o a=>?_⟩;have e:l=99:=by omega
   exact fin (x:=⟨i.c,0,14,14,4⟩) a (by rw[e];rfl) (by rw[e];rfl) (by decide)
  rintro WJ rfl;refine ar (λh=>?_) λn4=>?_
  ·refine⟨_,y.at rfl,mkd λz o a=>?_⟩;have e:l=107:=by omega
   exact fin (x:=⟨i.cond,0,6,22,3⟩) a (by rw[e];rfl) (by rw[e];rfl) (by decide)
  rintro aN rfl;refine ar (λh=>?_) λn5=>?_
  ·refine⟨_,y.at rfl,mkd λz o a=>?_⟩;have e:l=117:=by omega
   exact fin (x:=⟨i64.wrap i.imm,0,65535,0,16⟩) a (by rw[e];rfl) (by rw[e];rfl) (by decide)
  ·refine⟨_,y.at rfl,mkd λz o a=>?_⟩;have e:l≠97/\l≠98/\l≠99/\l≠107/\l≠117:=by omega
   exact fin (x:=⟨i64.wrap i.imm,-32768,32767,0,16⟩) a (by unfold Ins.fd;rw[if_neg e.1,if_neg e.2.1,if_neg e.2.2.1,if_neg e.2.2.2.1,if_neg e.2.2.2.2]) (by unfold Ins.clr;rw[if_neg e.1,if_neg e.2.1,if_neg e.2.2.1,if_neg e.2.2.2.1];rfl) (by decide)
 ·have az:p=(shL i.op).length:=by omega
  subst az;rw[List.take_length]at b F;refine⟨λ_ _=>True,trivial,_,_,_,_,_,_,⟨b.at rfl,b.at rfl,b.at rfl,b.at rfl,b.at rfl,b.at rfl⟩,?_⟩;refine bz (w:=Z.drew) b (by show 6<=6;decide) λw8 s8=>?_;have b8:Blk w8 q ((shL i.op).foldl Ins.clr {i with op:=0}).arr _:=s8.blk;refine⟨λ_ _=>True,λ_ _ _=>trivial,_,_,_,_,_,_,⟨b8.at rfl,b8.at rfl,b8.at rfl,b8.at rfl,b8.at rfl,b8.at rfl⟩,?_,(q7.drew).stored s8 (.inr l2)⟩;exact⟨_,_,_,rfl,((F.pu (Pu.aU Z)).ch s8.ch λk u e=>u.2.2.1 e).mono λk u=>u.1⟩
end
theorem ins_eq(i:Ins):bG i.arr #[.int .i64 0,.int .i64 0,.int .i64 0,.int .i64 0,.int .i64 0,.int .i32 0]=true↔i=Ins.zero:=by
 obtain⟨o,k,a,b,c,m⟩:=i;simp[bG,eqL,kG,Ins.zero,Ins.mk.injEq]
theorem Kf {l:List Fd}{k:Nat}{f:Fd}(h:l[k]? =some f)(a:(l.take k).all Fd.ok=true):(l.take (k+1)).all Fd.ok=f.ok:=by
 rw[List.take_add_one,h,List.all_append,a];simp
theorem Mu {l:List Fd}{k:Nat}{f:Fd}(h:l[k]? =some f)(hb:f.ok=false):¬l.all Fd.ok=true:=λa=>by
 have:=List.all_eq_true.1 a f (List.mem_of_getElem? h);rw[hb]at this;cases this
theorem Ov {w:World}(M:GkP w)(i:Ins):Calls prog 150 #[.agg i.arr] w λe j=>∃v,e=.returned v/\v=.int .i64 i.chk/\Pu w j:=by
 refine zM _ _ _ _ _ _ ?_;refine mkd λg w1 m1=>⟨_,m1.blk.at rfl,?_⟩;refine(iIs w1 i.op).mono ?_;rintro e w2 ⟨_,rfl,rfl,rfl⟩;refine⟨_,rfl,ud (λh=>⟨by unfold Ins.chk;rw[if_neg h],m1.pu⟩) λh=>?_⟩;have b1:=m1.blk;refine⟨_,_,_,_,_,_,⟨b1.at rfl,b1.at rfl,b1.at rfl,b1.at rfl,b1.at rfl,b1.at rfl⟩,?_⟩;refine(Fj (M.pu m1.pu) i).mono ?_;rintro e O ⟨_,rfl,⟨A,n,c,rfl,Q⟩,R⟩;refine⟨_,_,_,_,_,_,_,_,_,rfl,?_⟩;refine mkd λS W l=>bz l.blk (Nat.le_refl 6) λq u=>?_;have b5:Blk q S i.rest.arr _:=u.blk;have G:Pu w O:=m1.pu.trans R;have y:Pu w q:=(G.made l).stored u (.inr (l.lo G));have H:=(Q.rd.pu l.pu).ch u.ch λk Y e=>by have:=l.num;omega
 have hlen:=H.len;refine⟨λm x j=>0<=x/\x<=(n:Int)/\m=n - x.toNat/\(i.fds.take x.toNat).all Fd.ok=true/\Pu q j,⟨_,by omega,by omega,rfl,rfl,Ch.refl _ _⟩,?_⟩;rintro m _ x Z ⟨I,hx,rfl,z,a⟩;refine av (λJ=>?_) λUa=>?_
 ·obtain⟨p,f,T,K,_,o⟩:=(H.pu a).ld I J;refine⟨⟨I,J⟩,au p T ⟨_,_,_,_,_,⟨o 0 (by decide),o 1 (by decide),o 2 (by decide),o 3 (by decide),o 4 (by decide)⟩,?_⟩⟩;refine mkd λg3 w7 B=>bz B.blk (Nat.le_refl 5) λw8 s8=>?_;have b8:Blk w8 g3 #[.int .i64 f.v,.int .i64 f.lo,.int .i64 f.hi,.int .i64 f.p,.int .i64 f.n] _:=s8.blk;have L:Pu q w8:=(a.made B).stored s8 (.inr (B.lo a));refine⟨λb j=>b= !f.ok/\j=w8,?_,?_⟩
  ·refine⟨_,b8.at rfl,_,b8.at rfl,av (λC=>⟨by unfold Fd.ok;simp[C],rfl⟩) λC=>⟨_,b8.at rfl,_,b8.at rfl,?_,rfl⟩⟩;unfold Fd.ok;rw[decide_eq_false C];simp
  ·rintro _ b w9 ⟨rfl,rfl⟩;refine dj (λhb=>?_) λhb=>?_
   ·refine⟨?_,y.trans L⟩;unfold Ins.chk;rw[if_pos h,if_neg λF=>Mu K hb F.1]
   ·refine⟨n - x.toNat - 1,by omega,?_⟩;rw[ay (by have:=CL i.op;have:i.fds.length=_:=List.length_map ..;omega)];refine⟨by omega,by omega,by omega,?_,L⟩;rw[show(x+1).toNat=x.toNat+1 by omega,Kf K z,hb]
 ·have b6:=a.blk b5;refine⟨_,_,_,_,_,_,⟨b6.at rfl,b6.at rfl,b6.at rfl,b6.at rfl,b6.at rfl,b6.at rfl⟩,?_⟩;have V:i.fds.all Fd.ok=true:=by rw[List.take_of_length_le (by omega)]at z;exact z
  refine dj (λhe=>⟨?_,y.trans a⟩) λhe=>⟨?_,y.trans a⟩
  ·unfold Ins.chk;rw[if_pos h,if_neg λF=>by rw[(ins_eq i.rest).2 F.2]at he;cases he]
  ·unfold Ins.chk;rw[if_pos h,if_pos ⟨V,(ins_eq i.rest).1 he⟩]
noncomputable def Ins.enc (i:Ins):Int:=if i.chk=0 then i.L8 else 0
theorem Dh {l:List Fd}{k:Nat}{f:Fd}{F:Int->Fd->Int}{x:Int}(h:l[k]? =some f):(l.take (k+1)).foldl F x=F ((l.take k).foldl F x) f:=by
 rw[List.take_add_one,h,List.foldl_append];rfl
theorem LP {w:World}(B:GkP w)(i:Ins):Calls prog 128 #[.agg i.arr] w λe o=>∃v,e=.returned v/\v=.tuple #[.int .u32 i.enc,.int .i64 i.chk]/\Pu w o:=by
 refine wO _ _ _ _ _ _ ?_;refine mkd λg w1 m1=>?_;have b1:=m1.blk;refine⟨_,_,_,_,_,_,⟨b1.at rfl,b1.at rfl,b1.at rfl,b1.at rfl,b1.at rfl,b1.at rfl⟩,?_⟩;refine(Ov (B.pu m1.pu) i).mono ?_;rintro e w2 ⟨_,rfl,rfl,a⟩;have b1:=a.blk b1;have a:Pu w w2:=m1.pu.trans a;refine⟨_,rfl,ax (λh=>⟨by unfold Ins.enc;rw[if_neg h],a⟩) λh=>⟨_,b1.at rfl,?_⟩⟩;rintro J K;refine⟨_,_,_,_,_,_,⟨b1.at rfl,b1.at rfl,b1.at rfl,b1.at rfl,b1.at rfl,b1.at rfl⟩,?_⟩;refine(Fj (B.pu a) i).mono ?_;rintro e L ⟨_,rfl,⟨A,n,c,rfl,M⟩,O⟩;refine⟨_,_,_,_,_,_,_,_,_,rfl,?_⟩;refine mkd λV W b=>bz b.blk (Nat.le_refl 6) λq C=>?_;have F:Pu w L:=a.trans O;have Q:Pu w q:=(F.made b).stored C (.inr (b.lo F));have G:=(M.rd.pu b.pu).ch C.ch λk Y e=>by have:=b.num;omega
 have hlen:=G.len;refine⟨λm y x o=>0<=x/\x<=(n:Int)/\m=n - x.toNat/\y=(i.fds.take x.toNat).foldl (λw f=>tg w f.p f.n (u32.wrap f.v)) J/\Pu q o,⟨_,by omega,by omega,rfl,rfl,Ch.refl _ _⟩,?_⟩;rintro m _ y x Z ⟨H,hx,rfl,u,l⟩;refine av (λI=>?_) λUa=>?_
 ·obtain⟨p,f,R,S,_,j⟩:=(G.pu l).ld H I;refine⟨⟨H,I⟩,au p R ⟨_,_,_,_,_,⟨j 0 (by decide),j 1 (by decide),j 2 (by decide),j 3 (by decide),j 4 (by decide)⟩,?_⟩⟩;refine mkd λg3 w7 z=>bz z.blk (Nat.le_refl 5) λw8 s8=>?_;have b8:Blk w8 g3 #[.int .i64 f.v,.int .i64 f.lo,.int .i64 f.hi,.int .i64 f.p,.int .i64 f.n] _:=s8.blk;have T:Pu q w8:=(l.made z).stored s8 (.inr (z.lo l));refine⟨_,b8.at rfl,_,b8.at rfl,_,b8.at rfl,?_⟩;refine(tU w8 y f.p f.n _).mono ?_;rintro e w9 ⟨_,rfl,rfl,rfl⟩;refine⟨_,rfl,?_⟩;rintro y2 rfl;refine⟨n - x.toNat - 1,by omega,?_⟩;rw[ay (by have:=CL i.op;have:i.fds.length=_:=List.length_map ..;omega)];refine⟨by omega,by omega,by omega,?_,T⟩;rw[show(x+1).toNat=x.toNat+1 by omega,Dh S,<-u]
 ·rw[List.take_of_length_le (by omega)]at u;refine⟨?_,Q.trans l⟩;unfold Ins.enc;rw[if_pos h,u,K,h];rfl
theorem LQ {w:World}(O:GkP w)(a:Int):Calls prog 117 #[.int .u32 a] w λe z=>∃v,e=.returned v/\v=.tuple #[.agg (dec a).arr,.int .i64 (lP a)]/\Pu w z:=by
 refine wP _ ?_;refine mkd λg w1 m1=>?_;refine(nA w1 a 26 6).mono ?_;rintro e w2 ⟨_,rfl,rfl,rfl⟩;refine⟨_,rfl,mkd λA w3 F=>bz F.blk (Nat.le_refl 6) λQ G=>?_⟩;generalize aa:i64.wrap (uY a 26 6)=op at *;have R:g≠A:=F.ne m1.blk;have l1:w.heap.size<=g:=m1.lo (Ch.refl (λ_=>False) w);have l2:w.heap.size<=A:=F.lo m1.pu;have b1:=G.old (F.old m1.blk) R;have b2:Blk Q A (⟨op,0,0,0,0,0⟩:Ins).arr _:=G.blk;have H:Pu w Q:=(m1.pu.made F).stored G (.inr l2);refine⟨_,b2.at rfl,?_⟩;refine(Jl (O.pu H) op).mono ?_;rintro e w5 ⟨_,rfl,rfl,rfl⟩;refine⟨_,rfl,?_⟩;intro g3 w6 S ab;obtain⟨i6,I⟩:=Jf S ab;have ae:g≠g3:=by have:=b1.lt;omega
 have T:A≠g3:=by have:=b2.lt;omega
 have l3:w.heap.size<=g3:=by rw[S];exact H.size
 obtain⟨Sa,V⟩:=H7 op;refine⟨λm z=>∃p,p<=(shL op).length/\m=(shL op).length - p/\z.heap[g3]? =some (.stringIter (shB op) p)/\Blk z g Ins.zero.arr 214/\Blk z A (((shL op).take p).foldl (Ins.upd a) ⟨op,0,0,0,0,0⟩).arr 214/\Pu w z,
  ⟨_,0,Nat.zero_le _,rfl,i6,I.blk b1,I.blk b2,H.trans I⟩,?_⟩
 rintro m _ w7 ⟨p,hp,rfl,i7,B,c,J⟩;refine⟨_,_,i7,av (λK=>?_) λUa=>?_⟩
 ·rintro w8 W;rw[V p K]at W;obtain⟨i8,l⟩:=Jd i7 W;rw[V p K];have L:p<(shL op).length:=Sa▸K;have B:=l.blk B ae;have c:=l.blk c T;have l:Pu w w8:=J.call l λk hk=>.inr (hk▸l3);generalize af:(shL op).getD p 0=o;have Y:=jU (d:=0) L;rw[af]at Y;have fin:∀ {j:Nat}{v:Value},((Ins.upd a (((shL op).take p).foldl (Ins.upd a) ⟨op,0,0,0,0,0⟩) o).arr=((((shL op).take p).foldl (Ins.upd a) ⟨op,0,0,0,0,0⟩).arr).setIfInBounds j v)->j<6->
   aB w8 ((vA A).add j) [v] λu=>∃m1,m1<(shL op).length - p/\∃p,p<=(shL op).length/\m1=(shL op).length - p/\u.heap[g3]? =some (.stringIter (shB op) p)/\Blk u g Ins.zero.arr 214/\Blk u A (((shL op).take p).foldl (Ins.upd a) ⟨op,0,0,0,0,0⟩).arr 214/\Pu w u:=by
   intro j v VO hj;refine bB (i:=j) c (by show j+1<=6;omega) λu q=>⟨_,Nat.sub_lt_sub_left L (Nat.lt_succ_self p),p+1,L,rfl,Fh i8 q.ch λe=>T e.symm,q.old B R,?_,l.stored q (.inr l2)⟩;rw[Y,List.foldl_append,List.foldl_cons,List.foldl_nil,VO];exact q.blk
  rintro UM rfl;refine ar (λh=>?_) λn1=>?_
  ·refine(nA w8 a 22 4).mono ?_;rintro e C ⟨_,rfl,rfl,rfl⟩;have e:o=97:=by omega
   exact⟨_,rfl,fin (by rw[e];rfl) (by decide)⟩
  rintro VT rfl;refine ar (λh=>?_) λn2=>?_
  ·refine(nA w8 a 18 4).mono ?_;rintro e C ⟨_,rfl,rfl,rfl⟩;have e:o=98:=by omega
   exact⟨_,rfl,fin (by rw[e];rfl) (by decide)⟩
  rintro UJ rfl;refine ar (λh=>?_) λn3=>?_
  ·refine(nA w8 a 14 4).mono ?_;rintro e C ⟨_,rfl,rfl,rfl⟩;have e:o=99:=by omega
   exact⟨_,rfl,fin (by rw[e];rfl) (by decide)⟩
  rintro WJ rfl;refine ar (λh=>?_) λn4=>?_
  ·refine(nA w8 a 22 3).mono ?_;rintro e C ⟨_,rfl,rfl,rfl⟩;have e:o=107:=by omega
   exact⟨_,rfl,fin (by rw[e];rfl) (by decide)⟩
  rintro az rfl;refine ar (λh=>?_) λn5=>?_
  ·refine(nA w8 a 0 16).mono ?_;rintro e C ⟨_,rfl,rfl,rfl⟩;have e:o=117:=by omega
   exact⟨_,rfl,fin (by rw[e];rfl) (by decide)⟩
  ·refine(HJ w8 a).mono ?_;rintro e C ⟨_,rfl,rfl,rfl⟩;have e:o≠97/\o≠98/\o≠99/\o≠107/\o≠117:=by omega
   exact⟨_,rfl,fin (by unfold Ins.upd;rw[if_neg e.1,if_neg e.2.1,if_neg e.2.2.1,if_neg e.2.2.2.1,if_neg e.2.2.2.2];rfl) (by decide)⟩
 ·have ah:p=(shL op).length:=by omega
  subst ah;rw[List.take_length]at c;have an:(shL op).foldl (Ins.upd a) ⟨op,0,0,0,0,0⟩=gi a:=by unfold gi;rw[aa]
  rw[an]at c;refine⟨_,_,_,_,_,_,⟨c.at rfl,c.at rfl,c.at rfl,c.at rfl,c.at rfl,c.at rfl⟩,?_⟩;refine(LP (O.pu J) (gi a)).mono ?_;rintro e w8 ⟨_,rfl,rfl,l⟩;have B:=l.blk B;have c:=l.blk c;have l:Pu w w8:=J.trans l;refine⟨_,_,rfl,λb z=>(b=true↔¬lP a=0)/\z=w8,?_,?_⟩
  ·refine ax (λh=>⟨⟨λ_=>by unfold lP;rw[if_neg λM=>h M.1];decide,λ_=>rfl⟩,rfl⟩) λh=>⟨?_,rfl⟩;unfold lP;rw[show(gi a).enc=(gi a).L8 from by unfold Ins.enc;rw[if_pos h]];by_cases he:(gi a).L8=a
   ·rw[if_pos ⟨h,he⟩,he];simp
   ·rw[if_neg λM=>he M.2];simp[he]
  ·rintro _ b C ⟨hb,rfl⟩;refine ao (λht=>?_) λZ=>?_
   ·have y:=hb.1 ht;refine bz B (Nat.le_refl 6) λu q=>?_;have b10:Blk u g Ins.zero.arr _:=q.blk;refine⟨_,_,_,_,_,_,⟨b10.at rfl,b10.at rfl,b10.at rfl,b10.at rfl,b10.at rfl,b10.at rfl⟩,?_,l.stored q (.inr l1)⟩;rw[show dec a=Ins.zero from if_neg y,show lP a=50 from by unfold lP at y ⊢;split at y<;>simp_all]
   ·have y:lP a=0:=by
     by_cases y:lP a=0
     ·exact y
     ·rw[hb.2 y]at Z;cases Z
    refine⟨_,_,_,_,_,_,⟨c.at rfl,c.at rfl,c.at rfl,c.at rfl,c.at rfl,c.at rfl⟩,?_⟩;refine bz B (Nat.le_refl 6) λu q=>?_;have b10:Blk u g (gi a).arr _:=q.blk;refine⟨_,_,_,_,_,_,⟨b10.at rfl,b10.at rfl,b10.at rfl,b10.at rfl,b10.at rfl,b10.at rfl⟩,?_,l.stored q (.inr l1)⟩;rw[show dec a=gi a from if_pos y,y]
section
namespace Fl
def reg(f:Fl)(i:Int):Int:=(f.rs.getD i.toNat (uM 0)).v
def ly(f:Fl)(i x:Int):Fl:=f.gZ i.toNat (uM x)
def cmp(f:Fl)(a b:Int):Fl:= {f with z:=(a==b),n:=decide ((IntKind.i32.wrap a:Int)<IntKind.i32.wrap b),l:=decide (a<b)}
def holds(f:Fl)(c:Int):Bool:=if c=0 then true else if c=1 then f.z else if c=2 then !f.z else if c=3 then f.n else if c=4 then !f.n else if c=5 then f.l else if c=6 then !f.l else false
end Fl
def Ab(op b c:Int):Int:=
 if op=4 then u32.wrap (b+c)else if op=5 then u32.wrap (b - c)else if op=6 then u32.wrap (b*c)else if op=7 then wA b c
 else if op=8 then u32.wrap (BitVec.ofInt u32.bits b &&& BitVec.ofInt u32.bits c).toNat else if op=9 then u32.wrap (BitVec.ofInt u32.bits b ||| BitVec.ofInt u32.bits c).toNat
 else if op=10 then u32.wrap (BitVec.ofInt u32.bits b ^^^ BitVec.ofInt u32.bits c).toNat else if op=11 then AN b c else if op=12 then uy b c else vk b c
def P7(x m:Int):Int:=u32.wrap (x+u32.wrap (4*u32.wrap m))
namespace Ins
def move(i:Ins)(f:Fl):Fl:=if i.op=1 then f.ly i.a (u32.wrap i.imm)else if i.op=2 then f.ly i.a (tg (f.reg i.a) 16 16 (u32.wrap i.imm))else if i.op=3 then f.ly i.a (f.reg i.b)else f.ly i.a (u32.wrap (f.reg i.b+u32.wrap i.imm))
def jump(i:Ins)(f:Fl):Fl:=if i.op=21 then(if f.holds i.cond=true then {f with pc:=P7 f.pc i.imm}else f)else if i.op=22 then {f.ly 14 f.pc with pc:=P7 f.pc i.imm}else {f with pc:=f.reg i.a}
def acc(i:Ins):Int:=if i.op=16\/i.op=18 then 1 else 0
def va(i:Ins)(f:Fl):Int:=if i.op=15\/i.op=16 then u32.wrap (f.reg i.b+u32.wrap i.imm)else u32.wrap (f.reg i.b+f.reg i.c)
def pJ(i:Ins)(m:Mem)(tb:Int)(f:Fl):Int:=m.dR tb (i.va f) i.acc
def tF(i:Ins)(m:Mem)(tb:Int)(f:Fl):Fl:=if i.pJ m tb f=0/\i.acc=0 then f.ly i.a (m.aI (m.trS tb (i.va f) i.acc) (m.trP tb (i.va f) i.acc) (m.trO tb (i.va f) i.acc))else f
def tM(i:Ins)(m:Mem)(tb:Int)(f:Fl):Mem:=if i.pJ m tb f=0/\i.acc=1 then m.write (m.trS tb (i.va f) i.acc) (m.trP tb (i.va f) i.acc) (m.trO tb (i.va f) i.acc) (f.reg i.a)else m
def evK(i:Ins)(m:Mem)(tb:Int)(f:Fl):Int:=if grp i.op=3 then(if i.pJ m tb f=0 then 0 else 4)else if grp i.op=6 then 1 else 0
def evA(i:Ins)(m:Mem)(tb:Int)(f:Fl):Int:=if grp i.op=3 then(if i.pJ m tb f=0 then 0 else i.va f)else if grp i.op=6 then u32.wrap i.imm else 0
def doF(i:Ins)(m:Mem)(tb:Int)(f:Fl):Fl:=if grp i.op=1 then i.move f else if grp i.op=2 then f.ly i.a (Ab i.op (f.reg i.b) (f.reg i.c))else if grp i.op=3 then i.tF m tb f else if grp i.op=4 then(if i.op=19 then f.cmp (f.reg i.a) (f.reg i.b)else f.cmp (f.reg i.a) (u32.wrap i.imm))else if grp i.op=5 then i.jump f else f
def doM(i:Ins)(m:Mem)(tb:Int)(f:Fl):Mem:=if grp i.op=3 then i.tM m tb f else m
theorem Cw {i:Ins}{f:Fl}:0<=i.va f/\i.va f<4294967296:=by unfold va;split<;>exact dA _
section
variable {i:Ins}{m:Mem}{tb:Int}{f:Fl}
theorem HW(h:¬i.pJ m tb f=0):i.tF m tb f=f:=if_neg λa=>h a.1
theorem HV(h:¬i.pJ m tb f=0):i.tM m tb f=m:=if_neg λa=>h a.1
theorem MU(h:i.acc=1):i.tF m tb f=f:=if_neg λa=>by have:=a.2;omega
theorem MR(h:i.pJ m tb f=0)(a:i.acc=1):i.tM m tb f=m.write (m.trS tb (i.va f) i.acc) (m.trP tb (i.va f) i.acc) (m.trO tb (i.va f) i.acc) (f.reg i.a):=if_pos ⟨h,a⟩
theorem Mv(h:¬i.acc=1):i.acc=0:=by unfold acc at *;split at h;exact absurd rfl h;rw[if_neg ‹_›]
theorem MV(h:i.pJ m tb f=0)(a:¬i.acc=1):i.tF m tb f=f.ly i.a (m.aI (m.trS tb (i.va f) i.acc) (m.trP tb (i.va f) i.acc) (m.trO tb (i.va f) i.acc)):=if_pos ⟨h,Mv a⟩
theorem MT(a:¬i.acc=1):i.tM m tb f=m:=if_neg λb=>a b.2
end
structure Ok(i:Ins):Prop where
 op:1<=i.op/\i.op<25
 a:0<=i.a/\i.a<15
 b:0<=i.b/\i.b<15
 c:0<=i.c/\i.c<15
end Ins
theorem JV {i:Ins}{c:Nat}(h:i.chk=0):(c∈shL i.op->(i.fd c).ok=true)/\i.rest=Ins.zero:=by
 unfold Ins.chk at h;split at h
 ·split at h
  ·rename_i a;exact⟨λb=>List.all_eq_true.1 a.1 _ (List.mem_map.2 ⟨c,b,rfl⟩),a.2⟩
  ·cases h
 ·cases h
theorem Mi(l:List Nat):∀i:Ins,(97 ∉ l->(l.foldl Ins.clr i).a=i.a)/\(98 ∉ l->(l.foldl Ins.clr i).b=i.b)/\(99 ∉ l->(l.foldl Ins.clr i).c=i.c):=by
 induction l with
 |nil=>exact λi=>⟨λ_=>rfl,λ_=>rfl,λ_=>rfl⟩
 | cons x l a=>
  intro i;obtain⟨b,c,e⟩:=a (i.clr x);simp only[List.mem_cons,not_or,List.foldl_cons];refine⟨λh=>(b h.2).trans ?_,λh=>(c h.2).trans ?_,λh=>(e h.2).trans ?_⟩<;>(unfold Ins.clr;grind)
theorem jn {w:Int}(h:lP w=0):(dec w).Ok:=by
 unfold dec;rw[if_pos h];unfold lP at h;split at h
 ·rename_i b;have l:1<=(gi w).op/\(gi w).op<25:=by
   by_cases e:1<=(gi w).op/\(gi w).op<25
   ·exact e
   ·have a:=b.1;unfold Ins.chk at a;rw[if_neg e]at a;cases a
  have key:∀c,_:=λc=>JV (c:=c) b.1;have o:=(key 0).2;obtain⟨j,k,g3⟩:=Mi (shL (gi w).op) {gi w with op:=0};rw[show(shL (gi w).op).foldl Ins.clr {gi w with op:=0}=(gi w).rest from rfl,o]at j k g3;have fo:∀ {f:Fd},f.ok=true->f.lo<=f.v/\f.v<=f.hi:=λ{f} h=>by unfold Fd.ok at h;simp at h;omega
  refine⟨l,?_,?_,?_⟩
  ·by_cases hm:97∈shL (gi w).op
   ·have:=fo ((key 97).1 hm);exact⟨this.1,by have:=this.2;show(gi w).a<15;have:(gi w).a<=14:=this;omega⟩
   ·have:(0:Int)=(gi w).a:=j hm;omega
  ·by_cases hm:98∈shL (gi w).op
   ·have:=fo ((key 98).1 hm);exact⟨this.1,by have:=this.2;show(gi w).b<15;have:(gi w).b<=14:=this;omega⟩
   ·have:(0:Int)=(gi w).b:=k hm;omega
  ·by_cases hm:99∈shL (gi w).op
   ·have:=fo ((key 99).1 hm);exact⟨this.1,by have:=this.2;show(gi w).c<15;have:(gi w).c<=14:=this;omega⟩
   ·have:(0:Int)=(gi w).c:=g3 hm;omega
 ·cases h
namespace Mem
noncomputable def stI (m:Mem)(tb:Int)(f:Fl):Ins:=dec (m.aI (m.trS tb f.pc 2) (m.trP tb f.pc 2) (m.trO tb f.pc 2))
noncomputable def stE (m:Mem)(tb:Int)(f:Fl):Int:=lP (m.aI (m.trS tb f.pc 2) (m.trP tb f.pc 2) (m.trO tb f.pc 2))
def nx(f:Fl):Fl:= {f with pc:=u32.wrap (f.pc+4)}
noncomputable def stK (m:Mem)(tb:Int)(f:Fl):Int:=if m.dR tb f.pc 2≠0 then 3 else if m.stE tb f≠0 then 2 else(m.stI tb f).evK m tb (nx f)
noncomputable def stA (m:Mem)(tb:Int)(f:Fl):Int:=if m.dR tb f.pc 2≠0 then f.pc else if m.stE tb f≠0 then m.aI (m.trS tb f.pc 2) (m.trP tb f.pc 2) (m.trO tb f.pc 2)else(m.stI tb f).evA m tb (nx f)
noncomputable def stF (m:Mem)(tb:Int)(f:Fl):Fl:=if m.dR tb f.pc 2≠0 then f else if m.stE tb f≠0 then f else if(m.stI tb f).evK m tb (nx f)=4 then f else(m.stI tb f).doF m tb (nx f)
noncomputable def stM (m:Mem)(tb:Int)(f:Fl):Mem:=if m.dR tb f.pc 2≠0 then m else if m.stE tb f≠0 then m else(m.stI tb f).doM m tb (nx f)
end Mem
structure Rn where
 f:Fl
 m:Mem
 k:Int
 a:Int
 n:Int
noncomputable def runN (tb:Int):Nat->Mem->Fl->Rn
 |0,m,f=>⟨f,m,5,0,0⟩
 |n+1,m,f=>if m.stK tb f≠0 then⟨m.stF tb f,m.stM tb f,m.stK tb f,m.stA tb f,1⟩else {runN tb n (m.stM tb f) (m.stF tb f)with n:=(runN tb n (m.stM tb f) (m.stF tb f)).n+1}
end
abbrev Fl.arr(f:Fl):Array Value:= #[.int .u32 (f.rs.getD 0 (uM 0)).v,.int .u32 (f.rs.getD 1 (uM 0)).v,.int .u32 (f.rs.getD 2 (uM 0)).v,.int .u32 (f.rs.getD 3 (uM 0)).v,.int .u32 (f.rs.getD 4 (uM 0)).v,.int .u32 (f.rs.getD 5 (uM 0)).v,.int .u32 (f.rs.getD 6 (uM 0)).v,.int .u32 (f.rs.getD 7 (uM 0)).v,.int .u32 (f.rs.getD 8 (uM 0)).v,.int .u32 (f.rs.getD 9 (uM 0)).v,.int .u32 (f.rs.getD 10 (uM 0)).v,.int .u32 (f.rs.getD 11 (uM 0)).v,.int .u32 (f.rs.getD 12 (uM 0)).v,.int .u32 (f.rs.getD 13 (uM 0)).v,.int .u32 (f.rs.getD 14 (uM 0)).v,.int .u32 f.pc,.bool f.z,.bool f.n,.bool f.l]
def mj(g:Nat)(c:Int):Value:=if c=0 then .func (.func 176) #[] #[]else if c=1 then .func (.func 177) #[] #[.pointer (some ⟨g,0,none⟩)]else if c=2 then .func (.func 178) #[] #[.pointer (some ⟨g,0,none⟩)]
 else if c=3 then .func (.func 179) #[] #[.pointer (some ⟨g,0,none⟩)]else if c=4 then .func (.func 180) #[] #[.pointer (some ⟨g,0,none⟩)]else if c=5 then .func (.func 181) #[] #[.pointer (some ⟨g,0,none⟩)]
 else if c=6 then .func (.func 182) #[] #[.pointer (some ⟨g,0,none⟩)]else .func (.func 183) #[] #[]
theorem Qd(w:World)(f:Fl)(c:Int):Calls prog 171 #[.agg f.arr,.int .i64 c] w λe l=>∃v,e=.returned v/\(∃g T,v=mj g c/\Blk l g f.arr T)/\Pu w l:=by
 refine Ci _ _ _ _ _ _ _ _ _ _ _ _ _ _ _ _ _ _ _ _ ?_;refine mkd λg w1 m1=>?_;rintro _ rfl;refine ar (λh=>⟨⟨g,_,by unfold mj;rw[if_pos h],m1.blk⟩,m1.pu⟩) λa=>?_;rintro _ rfl;refine ar (λh=>⟨⟨g,_,by unfold mj;rw[if_neg a,if_pos h],m1.blk⟩,m1.pu⟩) λb=>?_;rintro _ rfl;refine ar (λh=>⟨⟨g,_,by unfold mj;rw[if_neg a,if_neg b,if_pos h],m1.blk⟩,m1.pu⟩) λn2=>?_;rintro _ rfl;refine ar (λh=>⟨⟨g,_,by unfold mj;rw[if_neg a,if_neg b,if_neg n2,if_pos h],m1.blk⟩,m1.pu⟩) λj=>?_;rintro _ rfl;refine ar (λh=>⟨⟨g,_,by unfold mj;rw[if_neg a,if_neg b,if_neg n2,if_neg j,if_pos h],m1.blk⟩,m1.pu⟩) λk=>?_;rintro _ rfl;refine ar (λh=>⟨⟨g,_,by unfold mj;rw[if_neg a,if_neg b,if_neg n2,if_neg j,if_neg k,if_pos h],m1.blk⟩,m1.pu⟩) λo=>?_;rintro _ rfl;refine ar (λh=>⟨⟨g,_,by unfold mj;rw[if_neg a,if_neg b,if_neg n2,if_neg j,if_neg k,if_neg o,if_pos h],m1.blk⟩,m1.pu⟩) λp=>⟨⟨g,_,by unfold mj;rw[if_neg a,if_neg b,if_neg n2,if_neg j,if_neg k,if_neg o,if_neg p],m1.blk⟩,m1.pu⟩
theorem OD(w:World)(f:Fl)(c:Int):Calls prog 157 #[.agg f.arr,.int .i64 c] w λe y=>∃v,e=.returned v/\v=.bool (f.holds c)/\Pu w y:=by
 refine zP _ _ _ _ _ _ _ _ _ _ _ _ _ _ _ _ _ _ _ _ ?_;refine mkd λg w1 m1=>?_;have hb:=m1.blk;refine⟨_,_,_,_,_,_,_,_,_,_,_,_,_,_,_,_,_,_,_,⟨hb.at rfl,hb.at rfl,hb.at rfl,hb.at rfl,hb.at rfl,hb.at rfl,hb.at rfl,hb.at rfl,hb.at rfl,hb.at rfl,hb.at rfl,hb.at rfl,hb.at rfl,hb.at rfl,hb.at rfl,hb.at rfl,hb.at rfl,hb.at rfl,hb.at rfl⟩,?_⟩;refine(Qd w1 f c).mono ?_;rintro e w2 ⟨_,rfl,⟨A,T,rfl,b2⟩,z⟩;refine⟨_,rfl,?_⟩;have z:Pu w w2:=m1.pu.trans z;have go:∀ {k:FuncId}{q:Array Value}{b:Bool},(qu).elem k=true->mj A c=.func (.func k) #[] q->f.holds c=b->Calls prog k q w2 (λe y=>∃v,e=.returned v/\v=.bool b/\y=w2)->
  Bq prog qu true (mj A c) #[] w2 λe C=>∃B:Bool,e=.returned (vB B)/\(Value.bool B=.bool (f.holds c)/\Pu w C):=by
  intro k q b F e hb h;rw[e];unfold Bq;simp only[F];have G:(#[]++ #[]++q:Array Value)=q:=by simp
  rw[G];refine h.mono ?_;rintro e H ⟨_,rfl,rfl,rfl⟩;exact⟨_,rfl,by rw[hb],z⟩
 by_cases a:c=0
 ·exact go (by decide) (if_pos a) (if_pos a) (wZ ⟨rfl,rfl⟩)
 by_cases j:c=1
 ·exact go (by decide) (by unfold mj;rw[if_neg a,if_pos j]) (by unfold Fl.holds;rw[if_neg a,if_pos j]) (wY _ ⟨_,b2.at rfl,rfl,rfl⟩)
 by_cases n2:c=2
 ·exact go (by decide) (by unfold mj;rw[if_neg a,if_neg j,if_pos n2]) (by unfold Fl.holds;rw[if_neg a,if_neg j,if_pos n2]) (wX _ ⟨_,b2.at rfl,rfl,rfl⟩)
 by_cases l:c=3
 ·exact go (by decide) (by unfold mj;rw[if_neg a,if_neg j,if_neg n2,if_pos l]) (by unfold Fl.holds;rw[if_neg a,if_neg j,if_neg n2,if_pos l]) (wW _ ⟨_,b2.at rfl,rfl,rfl⟩)
 by_cases o:c=4
 ·exact go (by decide) (by unfold mj;rw[if_neg a,if_neg j,if_neg n2,if_neg l,if_pos o]) (by unfold Fl.holds;rw[if_neg a,if_neg j,if_neg n2,if_neg l,if_pos o]) (wV _ ⟨_,b2.at rfl,rfl,rfl⟩)
 by_cases p:c=5
 ·exact go (by decide) (by unfold mj;rw[if_neg a,if_neg j,if_neg n2,if_neg l,if_neg o,if_pos p]) (by unfold Fl.holds;rw[if_neg a,if_neg j,if_neg n2,if_neg l,if_neg o,if_pos p]) (wU _ ⟨_,b2.at rfl,rfl,rfl⟩)
 by_cases u:c=6
 ·exact go (by decide) (by unfold mj;rw[if_neg a,if_neg j,if_neg n2,if_neg l,if_neg o,if_neg p,if_pos u]) (by unfold Fl.holds;rw[if_neg a,if_neg j,if_neg n2,if_neg l,if_neg o,if_neg p,if_pos u]) (wT _ ⟨_,b2.at rfl,rfl,rfl⟩)
 ·exact go (by decide) (by unfold mj;rw[if_neg a,if_neg j,if_neg n2,if_neg l,if_neg o,if_neg p,if_neg u]) (by unfold Fl.holds;rw[if_neg a,if_neg j,if_neg n2,if_neg l,if_neg o,if_neg p,if_neg u]) (wS ⟨rfl,rfl⟩)
section
attribute [local irreducible] Vc2 VcD
def qA:Ctr Un:=⟨[.one (.int .u32),.one (.int .i64),.one (.int .i64),.one (.int .u32)],[],[],[],λa lo n v K=>K ⟨O (tg a lo n v),none,[],[],[]⟩⟩
theorem zk:LV Un prog 152 qA:=by
 show ∀(a lo n v:Int),∀Q:Ou Un->Prop,(Q ⟨O (tg a lo n v),none,[],[],[]⟩)->∀(X:bP)(w:World),Sat (U:=Un) [] X w->aG (U:=Un) [] fr0 []->Calls prog 152 #[O a,J lo,J n,O v] w (aR (U:=Un) [] [] X w Q);intro a lo n v Q b X w hs c;refine(tU w a lo n v).mono ?_;rintro e h ⟨u,rfl,rfl,rfl⟩;exact aR.pu hs (Ch.refl _ _) b trivial
def FH:Ctr Un:=⟨[.one (.int .u32),.one (.int .u32)],[],[],[],λa b K=>K ⟨O (wA a b),none,[],[],[]⟩⟩
theorem Mx:LV Un prog 153 FH:=by
 show ∀(a b:Int),∀Q:Ou Un->Prop,(Q ⟨O (wA a b),none,[],[],[]⟩)->∀(X:bP)(w:World),Sat (U:=Un) [] X w->aG (U:=Un) [] fr0 []->Calls prog 153 #[O a,O b] w (aR (U:=Un) [] [] X w Q);intro a b Q c X w hs h;refine(Pr w a b).mono ?_;rintro e j ⟨u,rfl,rfl,rfl⟩;exact aR.pu hs (Ch.refl _ _) c trivial
def BI:Ctr Un:=⟨[.one (.int .u32),.one (.int .u32)],[],[],[],λa b K=>(0<=(b:Int)/\(b:Int)<4294967296)/\K ⟨O (AN a b),none,[],[],[]⟩⟩
theorem Km:LV Un prog 154 BI:=by
 show ∀(a b:Int),∀Q:Ou Un->Prop,((0<=(b:Int)/\(b:Int)<4294967296)/\Q ⟨O (AN a b),none,[],[],[]⟩)->∀(X:bP)(w:World),Sat (U:=Un) [] X w->aG (U:=Un) [] fr0 []->Calls prog 154 #[O a,O b] w (aR (U:=Un) [] [] X w Q);intro a b Q c X w hs h;obtain⟨hb,c⟩:=c;refine(Ns w hb.1).mono ?_;rintro e j ⟨u,rfl,rfl,rfl⟩;exact aR.pu hs (Ch.refl _ _) c trivial
def yc:Ctr Un:=⟨[.one (.int .u32),.one (.int .u32)],[],[],[],λa b K=>(0<=(b:Int)/\(b:Int)<4294967296)/\K ⟨O (uy a b),none,[],[],[]⟩⟩
theorem G0:LV Un prog 155 yc:=by
 show ∀(a b:Int),∀Q:Ou Un->Prop,((0<=(b:Int)/\(b:Int)<4294967296)/\Q ⟨O (uy a b),none,[],[],[]⟩)->∀(X:bP)(w:World),Sat (U:=Un) [] X w->aG (U:=Un) [] fr0 []->Calls prog 155 #[O a,O b] w (aR (U:=Un) [] [] X w Q);intro a b Q c X w hs h;obtain⟨hb,c⟩:=c;refine(K2 w hb.1).mono ?_;rintro e j ⟨u,rfl,rfl,rfl⟩;exact aR.pu hs (Ch.refl _ _) c trivial
def yd:Ctr Un:=⟨[.one (.int .u32),.one (.int .u32)],[],[],[],λa b K=>(0<=(b:Int)/\(b:Int)<4294967296)/\K ⟨O (vk a b),none,[],[],[]⟩⟩
theorem G1:LV Un prog 156 yd:=by
 show ∀(a b:Int),∀Q:Ou Un->Prop,((0<=(b:Int)/\(b:Int)<4294967296)/\Q ⟨O (vk a b),none,[],[],[]⟩)->∀(X:bP)(w:World),Sat (U:=Un) [] X w->aG (U:=Un) [] fr0 []->Calls prog 156 #[O a,O b] w (aR (U:=Un) [] [] X w Q);intro a b Q c X w hs h;obtain⟨hb,c⟩:=c;refine(K4 w hb.1).mono ?_;rintro e j ⟨u,rfl,rfl,rfl⟩;exact aR.pu hs (Ch.refl _ _) c trivial
def yj:Ctr Un:=⟨[.one (.int .u32)],[(0,17)],[.ob 17 []],[],λa rg b K=>K ⟨(.tuple #[(.agg #[J (dec a).op,J (dec a).cond,J (dec a).a,J (dec a).b,J (dec a).c,(.int .i32 ((dec a).imm))]),J (lP a)]),kn2,[],[],[]⟩⟩
theorem Hj:LV Un prog 117 yj:=by
 show ∀(a:Int)(rg:Nat->Nat)(b:Unit),∀Q:Ou Un->Prop,(Q ⟨(.tuple #[(.agg #[J (dec a).op,J (dec a).cond,J (dec a).a,J (dec a).b,J (dec a).c,(.int .i32 ((dec a).imm))]),J (lP a)]),kn2,[],[],[]⟩)->∀(X:bP)(w:World),Sat (U:=Un) [(.ob 17 rg b)] X w->aG (U:=Un) [(.ob 17 rg b)] fr0 []->Calls prog 117 #[O a] w (aR (U:=Un) [(.ob 17 rg b)] [] X w Q);intro a rg b Q c X w hs j;obtain⟨k,h⟩:=(show bO 17 rg b (X 0) w from hs.res 0 _ rfl);refine(LQ h a).mono ?_;rintro e l ⟨u,rfl,rfl,q⟩;exact aR.pu hs q c (KnO.tup _ (by simp))
def ow:Ctr Un:=⟨[.one (.any),.one (.int .i64),.one (.int .u32),.one (.int .i64)],[(0,0)],[.ob 0 []],[0],λb l1 va a c m K=>b=Value.pointer (pvA (c 0))/\(0<=(va:Int)/\(va:Int)<4294967296)/\K ⟨(.tuple #[(.agg #[vB (m.trS l1 va a),J (m.trP l1 va a)]),J (m.trO l1 va a),J (m.dR l1 va a)]),(some (.t [none,none,none])),[.ob 0 m],[],[]⟩⟩
theorem wH:LV Un prog 116 ow:=by
 show ∀(c:Value)(l1 va a:Int)(b:Nat->Nat)(m:Mem),∀Q:Ou Un->Prop,(c=Value.pointer (pvA (b 0))/\(0<=(va:Int)/\(va:Int)<4294967296)/\Q ⟨(.tuple #[(.agg #[vB (m.trS l1 va a),J (m.trP l1 va a)]),J (m.trO l1 va a),J (m.dR l1 va a)]),(some (.t [none,none,none])),[.ob 0 m],[],[]⟩)->∀(X:bP)(w:World),Sat (U:=Un) [(.ob 0 b m)] X w->aG (U:=Un) [(.ob 0 b m)] fr0 []->Calls prog 116 #[c,J l1,O va,J a] w (aR (U:=Un) [(.ob 0 b m)] [0] X w Q);intro c l1 va a b m Q e X w hs h;obtain⟨j,k,e⟩:=e;subst j;exact lT l1 va a b m Q ⟨k,e⟩ X w hs h
def B4:Ctr Un:=⟨[.one (.any),.agg [.bool,.int .i64],.one (.int .i64)],[(0,0)],[.ob 0 []],[0],λc a b off e m K=>c=Value.pointer (pvA (e 0))/\K ⟨(.tuple #[O (m.aI a b off),J (m.err a b off)]),kn2,[.ob 0 m],[],[]⟩⟩
theorem KE:LV Un prog 39 B4:=by
 show ∀(e:Value)(b:Bool)(c off:Int)(a:Nat->Nat)(m:Mem),∀Q:Ou Un->Prop,(e=Value.pointer (pvA (a 0))/\Q ⟨(.tuple #[O (m.aI b c off),J (m.err b c off)]),kn2,[.ob 0 m],[],[]⟩)->∀(X:bP)(w:World),Sat (U:=Un) [(.ob 0 a m)] X w->aG (U:=Un) [(.ob 0 a m)] fr0 []->Calls prog 39 #[e,(.agg #[vB b,J c]),J off] w (aR (U:=Un) [(.ob 0 a m)] [0] X w Q);intro e b c off a m Q h X w hs j;obtain⟨k,h⟩:=h;subst k;exact fW b c off a m Q h X w hs j
def yg:Ctr Un:=⟨[.one (.any),.agg [.bool,.int .i64],.one (.int .i64),.one (.int .u32)],[(0,0)],[.ob 0 []],[0],λc a b off v e m K=>c=Value.pointer (pvA (e 0))/\(0<=(v:Int)/\(v:Int)<4294967296)/\K ⟨J (m.err a b off),none,[.ob 0 (m.write a b off v)],[],[]⟩⟩
theorem Hc:LV Un prog 36 yg:=by
 show ∀(e:Value)(b:Bool)(c off v:Int)(a:Nat->Nat)(m:Mem),∀Q:Ou Un->Prop,(e=Value.pointer (pvA (a 0))/\(0<=(v:Int)/\(v:Int)<4294967296)/\Q ⟨J (m.err b c off),none,[.ob 0 (m.write b c off v)],[],[]⟩)->∀(X:bP)(w:World),Sat (U:=Un) [(.ob 0 a m)] X w->aG (U:=Un) [(.ob 0 a m)] fr0 []->Calls prog 36 #[e,(.agg #[vB b,J c]),J off,O v] w (aR (U:=Un) [(.ob 0 a m)] [0] X w Q);intro e b c off v a m Q h X w hs j;obtain⟨k,l,h⟩:=h;subst k;exact jY b c off v a m Q ⟨l,h⟩ X w hs j
def Cf:Ctr Un:=⟨[.enc 6,.one (.int .i64)],[],[],[],λf c K=>K ⟨vB (Fl.holds f c),none,[],[],[]⟩⟩
theorem KH:LV Un prog 157 Cf:=by
 show ∀(f:Fl)(c:Int),∀Q:Ou Un->Prop,(Q ⟨vB (Fl.holds f c),none,[],[],[]⟩)->∀(X:bP)(w:World),Sat (U:=Un) [] X w->aG (U:=Un) [] fr0 []->Calls prog 157 #[(.agg ⟨Fl.cells f⟩),J c] w (aR (U:=Un) [] [] X w Q);intro f c Q a X w hs b;refine(OD w f c).mono ?_;rintro e h ⟨u,rfl,rfl,q⟩;exact aR.pu hs q a trivial
def vX:Ctr Un:=⟨[.enc 6,.one (.int .u32),.one (.int .u32)],[],[],[],λf a b K=>Fl.Ok f/\K ⟨(.agg ⟨Fl.cells (Fl.cmp f a b)⟩),none,[],[],[]⟩⟩
theorem Eh:LV Un prog 132 vX:=bR Tryz.func132 ak [] trivial [] .leaf [] (F:=∀(f:Fl) a b Q,vX.body f a b Q->∀(k:Nat),∀(s:Fl),s=(Fl.norm f)->Fl.Ok s->∀(o:Nat),∀(s1:Fl),s1=Fl.zero->Fl.Ok s1->True/\∀(s2:Fl),s2=({s with z:=((a:Int)==b)}:Fl)->Fl.Ok s2->True/\∀(s3:Fl),s3=({s2 with n:=decide ((IntKind.i32.wrap a:Int)<(IntKind.i32.wrap b))}:Fl)->Fl.Ok s3->True/\∀(c:Fl),c=({s3 with l:=decide ((a:Int)<b)}:Fl)->Fl.Ok c->True/\True/\∀(e:Fl),e=(Fl.norm c)->Fl.Ok e->True/\Q ⟨(.agg ⟨Fl.cells e⟩),none,[],[],[]⟩) λf a b Q h=>by
 obtain⟨j,h⟩:=h;exact λk s p f1 o s1 q f2=>aj trivial λ_ s2 u f4=>aj trivial λ_ s3 v f6=>aj trivial λ_ c y f8=>aj trivial λ_=>aj trivial λ_ e A f11=>aj trivial λ_=>aw h (flE (by subst_vars;simp only[Fl.norm_eq j];exact(Fl.norm_eq (s:=Fl.cmp f a b) j).symm)) rfl rfl
def KQ:Ctr Un:=⟨[.one (.int .i64),.one (.int .u32),.one (.int .u32)],[],[],[],λop b c K=>(0<=(c:Int)/\(c:Int)<4294967296)/\K ⟨O (Ab op b c),none,[],[],[]⟩⟩
section
attribute [local grind=] Ab
theorem Pk:LV Un prog 130 KQ:=bR Tryz.func130 ak [(153,FH),(154,BI),(155,yc),(156,yd)] ⟨Mx,Km,G0,G1,trivial⟩ [8,13,18,23,28,33,38,43,48] .leaf [] (F:=∀op b c Q,KQ.body op b c Q->∀a:Bool,a=((op:Int)==4)->split a (Q ⟨O (u32.wrap (b+c)),none,[],[],[]⟩) (∀e:Bool,e=((op:Int)==5)->split e (Q ⟨O (u32.wrap (b - c)),none,[],[],[]⟩) (∀j:Bool,j=((op:Int)==6)->split j (Q ⟨O (u32.wrap (b*c)),none,[],[],[]⟩) (∀k:Bool,k=((op:Int)==7)->split k (Q ⟨O (wA b c),none,[],[],[]⟩) (∀l:Bool,l=((op:Int)==8)->split l (Q ⟨O (u32.wrap (BitVec.ofInt u32.bits b &&& BitVec.ofInt u32.bits c).toNat),none,[],[],[]⟩) (∀o:Bool,o=((op:Int)==9)->split o (Q ⟨O (u32.wrap (BitVec.ofInt u32.bits b ||| BitVec.ofInt u32.bits c).toNat),none,[],[],[]⟩) (∀p:Bool,p=((op:Int)==10)->split p (Q ⟨O (u32.wrap (BitVec.ofInt u32.bits b ^^^ BitVec.ofInt u32.bits c).toNat),none,[],[],[]⟩) (∀q:Bool,q=((op:Int)==11)->split q ((0<=c/\c<4294967296)/\Q ⟨O (AN b c),none,[],[],[]⟩) (∀u:Bool,u=((op:Int)==12)->split u ((0<=c/\c<4294967296)/\Q ⟨O (uy b c),none,[],[],[]⟩) ((0<=c/\c<4294967296)/\Q ⟨O (vk b c),none,[],[],[]⟩)))))))))) λop b c Q h=>by
 obtain⟨J,h⟩:=h;exact allEq<| ar (λv=>cv h (by grind)) λv=>allEq<| ar (λy=>cv h (by grind)) λy=>allEq<| ar (λz=>cv h (by grind)) λz=>allEq<| ar (λA=>cv h (by grind)) λA=>allEq<| ar (λB=>cv h (by grind)) λB=>allEq<| ar (λC=>cv h (by grind)) λC=>allEq<| ar (λG=>cv h (by grind)) λG=>allEq<| ar (λH=>aj ‹_› λs1=>cv h (by grind)) λH=>allEq<| ar (λI=>aj ‹_› λs2=>cv h (by grind)) λI=>aj ‹_› λs3=>cv h (by grind)
end
def FN:Ctr Un:=⟨[.one (.obj 0 0),.enc 9],[],[.ob 16 []],[0],λi r s K=>Ins.Ok i/\K ⟨(.tuple #[]),(some (.t [])),[.ob 16 ({s with f:=i.move (Mc.f s)}:Mc)],[],[]⟩⟩
theorem ML:LV Un prog 129 FN:=bR Tryz.func129 ak [(152,qA)] ⟨zk,trivial⟩ [25,37,58] (.r' (.r' (.two (.r' (.two (.node [] none [] [(2,[1]),(4,[1])] .leaf .leaf) (.r' (.two (.node [] none [] [(2,[1]),(5,[1]),(10,[0]),(12,[1])] .leaf .leaf) (.r' (.two (.node [] none [] [(2,[1]),(5,[1]),(10,[0])] .leaf .leaf) (.node [] none [] [(2,[1]),(5,[1]),(10,[0]),(12,[1])] .leaf .leaf))))))) .leaf))) [] (F:=∀(i:Ins) r (s:Mc) Q,FN.body i r s Q->Fl.Ok (Mc.f s)->∀(v:Nat),∀p:Bool,p=((i.op:Int)==1)->split p (((0<=i.a/\i.a<((Fl.rs (Mc.f s)).length:Int))/\i.a<(15:Int))/\True/\∀(s1:Mc),s1=(Mc.gZ s (Int.toNat i.a) (uM (u32.wrap i.imm)))->Fl.Ok (Mc.f s1)->Q ⟨(.tuple #[]),(some (.t [])),[.ob 16 s1],[],[]⟩) (∀q:Bool,q=((i.op:Int)==2)->split q (((0<=i.a/\i.a<((Fl.rs (Mc.f s)).length:Int))/\i.a<(15:Int))/\((0<=i.a/\i.a<((Fl.rs (Mc.f s)).length:Int))/\i.a<(15:Int))/\True/\∀(s1:Mc),s1=(Mc.gZ s (Int.toNat i.a) (uM (tg (((Fl.rs (Mc.f s)).getD (Int.toNat i.a) (uM 0)).v) 16 16 (u32.wrap i.imm))))->Fl.Ok (Mc.f s1)->Q ⟨(.tuple #[]),(some (.t [])),[.ob 16 s1],[],[]⟩) (∀u:Bool,u=((i.op:Int)==3)->split u (((0<=i.b/\i.b<((Fl.rs (Mc.f s)).length:Int))/\i.b<(15:Int))/\((0<=i.a/\i.a<((Fl.rs (Mc.f s)).length:Int))/\i.a<(15:Int))/\True/\∀(s1:Mc),s1=(Mc.gZ s (Int.toNat i.a) (uM (((Fl.rs (Mc.f s)).getD (Int.toNat i.b) (uM 0)).v)))->Fl.Ok (Mc.f s1)->Q ⟨(.tuple #[]),(some (.t [])),[.ob 16 s1],[],[]⟩) (((0<=i.b/\i.b<((Fl.rs (Mc.f s)).length:Int))/\i.b<(15:Int))/\((0<=i.a/\i.a<((Fl.rs (Mc.f s)).length:Int))/\i.a<(15:Int))/\True/\∀(s1:Mc),s1=(Mc.gZ s (Int.toNat i.a) (uM (u32.wrap ((((Fl.rs (Mc.f s)).getD (Int.toNat i.b) (uM 0)).v)+(u32.wrap i.imm)))))->Fl.Ok (Mc.f s1)->Q ⟨(.tuple #[]),(some (.t [])),[.ob 16 s1],[],[]⟩)))) λi r s Q h=>by
 obtain⟨a,h⟩:=h;exact λf1 v=>allEq<| ar (λk=>aj (by have c:(Mc.f s).rs.length=15:=f1;have e:=a.a;have hb:=a.b;have j:=a.c;omega) λs2=>aj trivial λ_ s1 b f4=>aw h rfl (ai (pH (by rw[b];unfold Ins.move;rw[if_pos k];rfl)) rfl) rfl) λk=>allEq<| ar (λl=>aj (by have c:(Mc.f s).rs.length=15:=f1;have e:=a.a;have hb:=a.b;have j:=a.c;omega) λy=>aj (by have c:(Mc.f s).rs.length=15:=f1;have e:=a.a;have hb:=a.b;have j:=a.c;omega) λz=>aj trivial λ_ s1 b f8=>aw h rfl (ai (pH (by rw[b];unfold Ins.move;rw[if_neg k,if_pos l];rfl)) rfl) rfl) λl=>allEq<| ar (λo=>aj (by have c:(Mc.f s).rs.length=15:=f1;have e:=a.a;have hb:=a.b;have j:=a.c;omega) λA=>aj (by have c:(Mc.f s).rs.length=15:=f1;have e:=a.a;have hb:=a.b;have j:=a.c;omega) λB=>aj trivial λ_ s1 b f12=>aw h rfl (ai (pH (by rw[b];unfold Ins.move;rw[if_neg k,if_neg l,if_pos o];rfl)) rfl) rfl) λo=>aj (by have c:(Mc.f s).rs.length=15:=f1;have e:=a.a;have hb:=a.b;have j:=a.c;omega) λC=>aj (by have c:(Mc.f s).rs.length=15:=f1;have e:=a.a;have hb:=a.b;have j:=a.c;omega) λG=>aj trivial λ_ s1 b f16=>aw h rfl (ai (pH (by rw[b];unfold Ins.move;rw[if_neg k,if_neg l,if_neg o];rfl)) rfl) rfl
def FO:Ctr Un:=⟨[.one (.obj 0 0),.enc 9],[],[.ob 16 []],[0],λi r s K=>Ins.Ok i/\K ⟨(.tuple #[]),(some (.t [])),[.ob 16 ({s with f:=i.jump (Mc.f s)}:Mc)],[],[]⟩⟩
theorem MM:LV Un prog 133 FO:=bR Tryz.func133 ak [(157,Cf)] ⟨KH,trivial⟩ [18,40] (.r' (.r' (.two (.r' (.two (.two (.node [] none [] [(3,[0]),(5,[1])] .leaf .leaf) (.two (.node [] none [] [(4,[0]),(6,[1])] .leaf .leaf) .leaf)) (.r' (.two (.two (.node [] none [] [(5,[0])] .leaf .leaf) (.node [] none [] [(4,[0]),(6,[1])] .leaf .leaf)) (.node [] none [] [(3,[1]),(8,[0])] .leaf .leaf))))) .leaf))) [] (F:=∀(i:Ins) r (s:Mc) Q,FO.body i r s Q->Fl.Ok (Mc.f s)->∀(o:Nat),∀k:Bool,k=((i.op:Int)==21)->split k (True/\split (Fl.holds (Fl.norm (Mc.f s)) i.cond) (True/\∀(s1:Mc),s1=({s with f:= {Mc.f s with pc:=u32.wrap (((Mc.f s).pc)+(u32.wrap (4*(u32.wrap i.imm))))}}:Mc)->Fl.Ok (Mc.f s1)->Q ⟨(.tuple #[]),(some (.t [])),[.ob 16 s1],[],[]⟩) (Q ⟨(.tuple #[]),(some (.t [])),[.ob 16 s],[],[]⟩)) (∀l:Bool,l=((i.op:Int)==22)->split l (((0<=(14:Int)/\(14:Int)<((Fl.rs (Mc.f s)).length:Int))/\(14:Int)<(15:Int))/\True/\∀(s1:Mc),s1=(Mc.gZ s (Int.toNat 14) (uM ((Mc.f s).pc)))->Fl.Ok (Mc.f s1)->True/\∀(s2:Mc),s2=({s1 with f:= {Mc.f s1 with pc:=u32.wrap (((Mc.f s1).pc)+(u32.wrap (4*(u32.wrap i.imm))))}}:Mc)->Fl.Ok (Mc.f s2)->Q ⟨(.tuple #[]),(some (.t [])),[.ob 16 s2],[],[]⟩) (((0<=i.a/\i.a<((Fl.rs (Mc.f s)).length:Int))/\i.a<(15:Int))/\True/\∀(s1:Mc),s1=({s with f:= {Mc.f s with pc:=((Fl.rs (Mc.f s)).getD (Int.toNat i.a) (uM 0)).v}}:Mc)->Fl.Ok (Mc.f s1)->Q ⟨(.tuple #[]),(some (.t [])),[.ob 16 s1],[],[]⟩))) λi r s Q h=>by
 obtain⟨a,h⟩:=h;exact λf1 o=>allEq<| ar (λb=>aj trivial λ_=>ao (λc=>(by rw[Fl.norm_eq f1]at c;exact aj trivial λ_ s1 e f4=>aw h rfl (ai (pH (by rw[e];unfold Ins.jump;rw[if_pos b,if_pos c];rfl)) rfl) rfl)) λc=>(by rw[Fl.norm_eq f1]at c;exact aw h rfl (ai (pH (by unfold Ins.jump;rw[if_pos b,if_neg (by rw[c];decide)])) rfl) rfl)) λb=>allEq<| ar (λj=>aj (by have p:(Mc.f s).rs.length=15:=f1;have q:=a.a;have hb:=a.b;have u:=a.c;omega) λy=>aj trivial λ_ s1 e f7=>aj trivial λ_ s2 v f9=>aw h rfl (ai (pH (by rw[v,e];unfold Ins.jump;rw[if_neg b,if_pos j];rfl)) rfl) rfl) λj=>aj (by have p:(Mc.f s).rs.length=15:=f1;have q:=a.a;have hb:=a.b;have u:=a.c;omega) λz=>aj trivial λ_ s1 e f12=>aw h rfl (ai (pH (by rw[e];unfold Ins.jump;rw[if_neg b,if_neg j];rfl)) rfl) rfl
def Cq:Ctr Un:=⟨[.one (.obj 0 0),.enc 9],[],[.ob 16 [],.ob 0 []],[0,1],λi r s a m K=>Ins.Ok i/\Mc.mp s=some (vA (a 0))/\(∀j,0<=((Mc.f s).rs.getD j (uM 0)).v/\((Mc.f s).rs.getD j (uM 0)).v<4294967296)/\K ⟨(.agg #[J (if i.pJ m (Mc.l1 s) (Mc.f s)=0 then 0 else 4),O (if i.pJ m (Mc.l1 s) (Mc.f s)=0 then 0 else i.va (Mc.f s))]),none,[.ob 16 ({s with f:=i.tF m (Mc.l1 s) (Mc.f s)}:Mc),.ob 0 (i.tM m (Mc.l1 s) (Mc.f s))],[],[]⟩⟩
theorem KP:LV Un prog 131 Cq:=bR Tryz.func131 ak [(116,ow),(36,yg),(39,B4)] ⟨wH,Hc,KE,trivial⟩ [5,20,22,24] (.r' (.r' (.two (.r' (.node [] (some ⟨[(5,(.one (.int .u32))),(6,(.one (.int .i64)))],[],[5,6]++upN 20 21,[]⟩) [] [] .leaf .leaf)) (.two (.node [] none [] [(3,[0]),(7,[0])] .leaf .leaf) (.r' (.two (.r' (.two (.node [] none [] [(3,[0]),(4,[4]),(8,[2]),(13,[0])] .leaf .leaf) (.node [] none [] [(2,[2]),(6,[0]),(7,[4])] .leaf .leaf))) .leaf)))))) [] (F:=∀(i:Ins) r (s:Mc) k (m:Mem) Q,Cq.body i r s k m Q->Fl.Ok (Mc.f s)->Mem.Wf m->∀(M:Nat),∀(R:Nat),((0<=i.b/\i.b<((Fl.rs (Mc.f s)).length:Int))/\i.b<(15:Int))/\∀va:Int,va=(((Fl.rs (Mc.f s)).getD (Int.toNat i.b) (uM 0)).v)->∃z:Int->Int->Prop,(∀H:Bool,H=((i.op:Int)==16)->split H (∀a:Int,a=(u32.wrap (va+(u32.wrap i.imm)))->z a 1) (∀I:Bool,I=((i.op:Int)==15)->split I (∀a:Int,a=(u32.wrap (va+(u32.wrap i.imm)))->z a 0) (∀K:Bool,K=((i.op:Int)==18)->split K (((0<=i.c/\i.c<((Fl.rs (Mc.f s)).length:Int))/\i.c<(15:Int))/\∀a:Int,a=(u32.wrap (va+(((Fl.rs (Mc.f s)).getD (Int.toNat i.c) (uM 0)).v)))->z a 1) (((0<=i.c/\i.c<((Fl.rs (Mc.f s)).length:Int))/\i.c<(15:Int))/\∀a:Int,a=(u32.wrap (va+(((Fl.rs (Mc.f s)).getD (Int.toNat i.c) (uM 0)).v)))->z a 0))))/\∀(W:Nat->Value) a access,z a access->((.pointer (Mc.mp s))=Value.pointer (pvA (k 0))/\(0<=a/\a<4294967296)/\∀(m1:Mem),m1=m->Mem.Wf m1->∀(C:Nat),split ((m.dR (Mc.l1 s) a access) !=0) (Q ⟨(.agg #[J 4,O a]),none,[.ob 16 s,.ob 0 m1],[],[]⟩) (split (access==1) (((0<=i.a/\i.a<((Fl.rs (Mc.f s)).length:Int))/\i.a<(15:Int))/\(.pointer (Mc.mp s))=Value.pointer (pvA (k 0))/\(0<=(((Fl.rs (Mc.f s)).getD (Int.toNat i.a) (uM 0)).v)/\(((Fl.rs (Mc.f s)).getD (Int.toNat i.a) (uM 0)).v)<4294967296)/\∀(m2:Mem),m2=(m1.write (m.trS (Mc.l1 s) a access) (m.trP (Mc.l1 s) a access) (m.trO (Mc.l1 s) a access) (((Fl.rs (Mc.f s)).getD (Int.toNat i.a) (uM 0)).v))->Mem.Wf m2->Q ⟨(.agg #[J 0,O 0]),none,[.ob 16 s,.ob 0 m2],[],[]⟩) ((.pointer (Mc.mp s))=Value.pointer (pvA (k 0))/\∀(m2:Mem),m2=m1->Mem.Wf m2->((0<=i.a/\i.a<((Fl.rs (Mc.f s)).length:Int))/\i.a<(15:Int))/\True/\∀(s1:Mc),s1=(Mc.gZ s (Int.toNat i.a) (uM (m1.aI (m.trS (Mc.l1 s) a access) (m.trP (Mc.l1 s) a access) (m.trO (Mc.l1 s) a access))))->Fl.Ok (Mc.f s1)->Q ⟨(.agg #[J 0,O 0]),none,[.ob 16 s1,.ob 0 m2],[],[]⟩)))/\(∀(C:Nat),(.pointer (Mc.mp s))=Value.pointer (pvA (k 0))/\(0<=a/\a<4294967296)/\∀(m1:Mem),m1=m->Mem.Wf m1->split ((m.dR (Mc.l1 s) a access) !=0) (Q ⟨(.agg #[J 4,O a]),none,[.ob 16 s,.ob 0 m1],[],[]⟩) (split (access==1) (((0<=i.a/\i.a<((Fl.rs (Mc.f s)).length:Int))/\i.a<(15:Int))/\(.pointer (Mc.mp s))=Value.pointer (pvA (k 0))/\(0<=(((Fl.rs (Mc.f s)).getD (Int.toNat i.a) (uM 0)).v)/\(((Fl.rs (Mc.f s)).getD (Int.toNat i.a) (uM 0)).v)<4294967296)/\∀(m2:Mem),m2=(m1.write (m.trS (Mc.l1 s) a access) (m.trP (Mc.l1 s) a access) (m.trO (Mc.l1 s) a access) (((Fl.rs (Mc.f s)).getD (Int.toNat i.a) (uM 0)).v))->Mem.Wf m2->Q ⟨(.agg #[J 0,O 0]),none,[.ob 16 s,.ob 0 m2],[],[]⟩) ((.pointer (Mc.mp s))=Value.pointer (pvA (k 0))/\∀(m2:Mem),m2=m1->Mem.Wf m2->((0<=i.a/\i.a<((Fl.rs (Mc.f s)).length:Int))/\i.a<(15:Int))/\True/\∀(s1:Mc),s1=(Mc.gZ s (Int.toNat i.a) (uM (m1.aI (m.trS (Mc.l1 s) a access) (m.trP (Mc.l1 s) a access) (m.trO (Mc.l1 s) a access))))->Fl.Ok (Mc.f s1)->Q ⟨(.agg #[J 0,O 0]),none,[.ob 16 s1,.ob 0 m2],[],[]⟩)))) λi r s k m Q h=>by
 obtain⟨b,p,L,h⟩:=h;exact λf1 f2 M R=>aj (by have q:(Mc.f s).rs.length=15:=f1;have u:=b.a;have hb:=b.b;have v:=b.c;omega) λs3=>allEq<| ⟨λa access=>(a=i.va (Mc.f s))/\(access=i.acc),allEq<| ar (λS=>allEq<| ⟨(by subst_vars;(grind[Ins.va,Ins.acc,Fl.reg])),(by subst_vars;(grind[Ins.va,Ins.acc,Fl.reg]))⟩) λS=>allEq<| ar (λT=>allEq<| ⟨(by subst_vars;(grind[Ins.va,Ins.acc,Fl.reg])),(by subst_vars;(grind[Ins.va,Ins.acc,Fl.reg]))⟩) λT=>allEq<| ar (λV=>aj (by have q:(Mc.f s).rs.length=15:=f1;have u:=b.a;have hb:=b.b;have v:=b.c;omega) λY=>allEq<| ⟨(by subst_vars;(grind[Ins.va,Ins.acc,Fl.reg])),(by subst_vars;(grind[Ins.va,Ins.acc,Fl.reg]))⟩) λV=>aj (by have q:(Mc.f s).rs.length=15:=f1;have u:=b.a;have hb:=b.b;have v:=b.c;omega) λZ=>allEq<| ⟨(by subst_vars;(grind[Ins.va,Ins.acc,Fl.reg])),(by subst_vars;(grind[Ins.va,Ins.acc,Fl.reg]))⟩,λ_ a access ⟨l,y⟩=>⟨aj (congrArg Value.pointer p) λs6=>aj (by rw[l];exact Ins.Cw) λs7 m1 j f8 C=>ax (λc=>(by subst l;subst y;exact aw h (fB (ai (aJ (if_neg c)) (ai (aE (if_neg c)) rfl))) (ai (pH (by(rw[Ins.HW c]))) (ai (uO0 (by(rw[Ins.HV c];exact j.symm))) rfl)) rfl)) λc=>ar (λA=>aj (by have q:(Mc.f s).rs.length=15:=f1;have u:=b.a;have hb:=b.b;have v:=b.c;omega) λs9=>aj (congrArg Value.pointer p) λTV=>aj (L _) λRC m2 o f12=>(by subst l;subst y;exact aw h (fB (ai (aJ (if_pos c)) (ai (aE (if_pos c)) rfl))) (ai (pH (by(rw[Ins.MU A]))) (ai (uO0 (by(rw[Ins.MR c A,o,j];rfl))) rfl)) rfl)) λA=>aj (congrArg Value.pointer p) λVr m2 o f14=>aj (by have q:(Mc.f s).rs.length=15:=f1;have u:=b.a;have hb:=b.b;have v:=b.c;omega) λXO=>aj trivial λ_ s1 G f17=>(by subst l;subst y;exact aw h (fB (ai (aJ (if_pos c)) (ai (aE (if_pos c)) rfl))) (ai (pH (by(rw[Ins.MV c A,G,j];rfl))) (ai (uO0 (by(rw[Ins.MT A,o,j]))) rfl)) rfl),λC=>aj (congrArg Value.pointer p) λaa=>aj (by rw[l];exact Ins.Cw) λab m1 j f20=>ax (λe=>(by subst l;subst y;exact aw h (fB (ai (aJ (if_neg e)) (ai (aE (if_neg e)) rfl))) (ai (pH (by(rw[Ins.HW e]))) (ai (uO0 (by(rw[Ins.HV e];exact j.symm))) rfl)) rfl)) λe=>ar (λB=>aj (by have q:(Mc.f s).rs.length=15:=f1;have u:=b.a;have hb:=b.b;have v:=b.c;omega) λR2=>aj (congrArg Value.pointer p) λae=>aj (L _) λaf m2 o f24=>(by subst l;subst y;exact aw h (fB (ai (aJ (if_pos e)) (ai (aE (if_pos e)) rfl))) (ai (pH (by(rw[Ins.MU B]))) (ai (uO0 (by(rw[Ins.MR e B,o,j];rfl))) rfl)) rfl)) λB=>aj (congrArg Value.pointer p) λah m2 o f26=>aj (by have q:(Mc.f s).rs.length=15:=f1;have u:=b.a;have hb:=b.b;have v:=b.c;omega) λan=>aj trivial λ_ s1 G f29=>(by subst l;subst y;exact aw h (fB (ai (aJ (if_pos e)) (ai (aE (if_pos e)) rfl))) (ai (pH (by(rw[Ins.MV e B,G,j];rfl))) (ai (uO0 (by(rw[Ins.MT B,o,j]))) rfl)) rfl)⟩⟩
end
section
section
variable {w:World}{g:Nat}{s:Mc}
theorem McP.rd(h:McP w g s){i:Int}(b:0<=i/\i<15):w.cell? ((((vA g).add 2).add 0).add (i.toNat *1))=some (O (s.f.reg i)):=by
 obtain⟨T,hb⟩:=h.blk;have c:s.f.rs.length=15:=h.len;rw[aY,aY,aY,Nat.mul_one,Nat.zero_add,Nat.add_zero];refine hb.cell ?_;rw[Nat.add_comm];have a:s.f.rs[i.toNat]? =some (s.f.rs.getD i.toNat (uM 0)):=by rw[List.getD_eq_getElem?_getD,List.getElem?_eq_getElem (by omega)];rfl
 simpa[Mc.cells,Fl.reg]using Fl.rA h.len a
theorem McP.wr(h:McP w g s){i v:Int}(c:0<=i/\i<15){K:World->Prop}(b:∀a,McP a g {s with f:=s.f.ly i v}->Ch (λk=>k=g) w a->K a):aB w ((((vA g).add 2).add 0).add (i.toNat *1)) [.int .u32 v] K:=by
 rw[aY,aY,aY,Nat.mul_one,Nat.zero_add,Nat.add_zero];refine McP.st h (i:=2+i.toNat) (s':= {s with f:=s.f.ly i v}) (by omega) ?_ ?_ b
 ·show(List.set s.f.rs i.toNat _).length=15;rw[List.length_set];exact h.len
 ·show _::_::(s.f.gZ i.toNat (uM v)).cells=_;rw[Fl.rz h.len (by omega),Nat.add_comm];rfl
theorem McP.kept(h:McP w g s){a:World}{X:Nat->Prop}(q:Ch X w a)(b:¬X g):McP a g s:=by
 obtain⟨T,hb⟩:=h.blk;exact⟨h.len,T,q.blk hb b⟩
theorem McP.lt(h:McP w g s):g<w.heap.size:=by
 obtain⟨T,hb⟩:=h.blk;exact hb.lt
end
section
variable {U:Uni}
theorem PF {a b:Res U}{X:Nat->Nat->Prop}{w:World}(p:RS (X 0) w a)(q:RS (X 1) w b)(hd:∀k,X 0 k->¬X 1 k):Sat [a,b] X w:=
 ⟨λi r c=>by
  match i with
  |0=>simp only[nth,Option.some.injEq]at c;subst c;exact p
  |1=>simp only[nth,Option.some.injEq]at c;subst c;exact q
  |i+2=>simp[nth]at c,λi j hi e u _ k l o=>by
  simp at hi e
  match i,j,hi,e,u with
  |0,1,_,_,_=>exact hd k l o
  |1,0,_,_,_=>exact hd k o l
  |0,0,_,_,h=>exact h rfl
  |1,1,_,_,h=>exact h rfl⟩
theorem PG {a:Res U}{X:Nat->Nat->Prop}{w:World}(c:RS (X 0) w a):Sat [a] X w:=
 ⟨λi r b=>by
  match i with
  |0=>simp only[nth,Option.some.injEq]at b;subst b;exact c
  |i+1=>simp[nth]at b,λi j hi e h _ k l o=>by simp at hi e;omega⟩
theorem NN {X:Nat->Nat->Prop}{w:World}:Sat ([]:List (Res U)) X w:=⟨λi r a=>by simp[nth]at a,λi j hi=>absurd hi (Nat.not_lt_zero _)⟩
end
theorem kn0 {rs:List (Res Un)}:aG (U:=Un) rs fr0 []:=λ_ _ h=>by cases h
section
variable {w:World}{g:Nat}{s:Mc}{i:Ins}
theorem Qt(h:McP w g s)(hi:i.Ok):Calls prog 129 #[.pointer (some ⟨g,0,none⟩),.agg i.arr] w λe a=>e=.returned (.tuple #[])/\McP a g {s with f:=i.move s.f}/\Ch (λk=>k=g) w a:=by
 refine(ML i (λ_=>g) s (λout=>out=⟨.tuple #[],some (.t []),[.ob 16 ({s with f:=i.move s.f}:Mc)],[],[]⟩) ⟨hi,rfl⟩ (λ_ k=>k=g) w (PG (show bO 16 (λ_=>g) s _ w from⟨λ_=>Iff.rfl,h⟩)) kn0).mono ?_;rintro e a ⟨out,rs',b,he,rfl,c,hp⟩;obtain rfl:=(Option.some.inj c).symm;exact⟨he,(hp.sat.res 0 _ rfl:bO 16 (λ_=>g) _ (b 0) a).2,hp.ch.mono λk ⟨j,l,e⟩=>e⟩
theorem Qu(h:McP w g s)(hi:i.Ok):Calls prog 133 #[.pointer (some ⟨g,0,none⟩),.agg i.arr] w λe a=>e=.returned (.tuple #[])/\McP a g {s with f:=i.jump s.f}/\Ch (λk=>k=g) w a:=by
 refine(MM i (λ_=>g) s (λout=>out=⟨.tuple #[],some (.t []),[.ob 16 ({s with f:=i.jump s.f}:Mc)],[],[]⟩) ⟨hi,rfl⟩ (λ_ k=>k=g) w (PG (show bO 16 (λ_=>g) s _ w from⟨λ_=>Iff.rfl,h⟩)) kn0).mono ?_;rintro e a ⟨out,rs',b,he,rfl,c,hp⟩;obtain rfl:=(Option.some.inj c).symm;exact⟨he,(hp.sat.res 0 _ rfl:bO 16 (λ_=>g) _ (b 0) a).2,hp.ch.mono λk ⟨j,l,e⟩=>e⟩
theorem Rb(w:World){op b c:Int}(h:0<=c/\c<4294967296):Calls prog 130 #[.int .i64 op,.int .u32 b,.int .u32 c] w λe a=>e=.returned (O (Ab op b c))/\Pu w a:=by
 refine(Pk op b c (λout=>out=⟨.int .u32 (Ab op b c),none,[],[],[]⟩) ⟨h,rfl⟩ (λ_ _=>False) w NN kn0).mono ?_;rintro e a ⟨out,rs',o,he,rfl,p,hp⟩;exact⟨he,hp.ch.mono λk ⟨j,l,e⟩=>by cases l⟩
theorem Bt(w:World){f:Fl}{a b:Int}(h:f.Ok):Calls prog 132 #[.agg f.arr,.int .u32 a,.int .u32 b] w λe c=>e=.returned (.agg (f.cmp a b).arr)/\Pu w c:=by
 refine(Eh f a b (λout=>out=⟨.agg ⟨Fl.cells (f.cmp a b)⟩,none,[],[],[]⟩) ⟨h,rfl⟩ (λ_ _=>False) w NN kn0).mono ?_;rintro e c ⟨out,rs',o,he,rfl,p,hp⟩;exact⟨he,hp.ch.mono λk ⟨j,l,e⟩=>by cases l⟩
theorem OZ {b:Nat->Nat}{m:Mem}{Z:Nat->Prop}(h:McP w g s)(hm:bO 0 b m Z w)(hd:¬Z g)(hi:i.Ok)(v:s.mp=some (vA (b 0)))(y:∀j,0<=(s.f.rs.getD j (uM 0)).v/\(s.f.rs.getD j (uM 0)).v<4294967296):
 Calls prog 131 #[.pointer (some ⟨g,0,none⟩),.agg i.arr] w λe a=>e=.returned (.agg #[.int .i64 (if i.pJ m s.l1 s.f=0 then 0 else 4),.int .u32 (if i.pJ m s.l1 s.f=0 then 0 else i.va s.f)])/\McP a g {s with f:=i.tF m s.l1 s.f}/\(∃c,bO 0 b (i.tM m s.l1 s.f) c a/\(∀k,c k->Z k\/w.heap.size<=k)/\¬c g)/\Ch (λk=>k=g\/Z k) w a:=by
 refine(KP i (λ_=>g) s b m (λout=>out=⟨.agg #[.int .i64 (if i.pJ m s.l1 s.f=0 then 0 else 4),.int .u32 (if i.pJ m s.l1 s.f=0 then 0 else i.va s.f)],none,[.ob 16 ({s with f:=i.tF m s.l1 s.f}:Mc),.ob 0 (i.tM m s.l1 s.f)],[],[]⟩) ⟨hi,v,y,rfl⟩ (λj k=>if j=0 then k=g else Z k) w (PF (show bO 16 (λ_=>g) s _ w from⟨λ_=>Iff.rfl,h⟩) hm λk l o=>hd (l▸o)) kn0).mono ?_;rintro e a ⟨out,rs',p,he,rfl,z,hp⟩;obtain rfl:=(Option.some.inj z).symm;have q:bO 16 (λ_=>g) _ (p 0) a:=hp.sat.res 0 _ rfl;refine⟨he,q.2,⟨p 1,hp.sat.res 1 _ rfl,λk l=>hp.grow 1 (show(1:Nat)∈([0,1]:List Nat)by decide) k l,λo=>hp.sat.dis 0 1 (show 0<2 by decide) (show 1<2 by decide) (by decide) g ((q.1 g).1 rfl) o⟩,hp.ch.mono λk ⟨j,A,e⟩=>?_⟩;by_cases u:j=0
 ·rw[if_pos u]at e;exact .inl e
 ·rw[if_neg u]at e;exact .inr e
end
section
variable {w:World}{g:Nat}{s:Mc}
theorem McP.d(h:McP w g s):McP w.drew g s:=⟨h.len,h.blk.imp λT b=>b.drew⟩
theorem McP.ltA(h:McP w g s)(n:Nat):((((vA g).add 2).add 0).add n).block<w.heap.size:=by rw[aY,aY,aY];exact h.lt
theorem McP.Nj(h:McP w g s){K:Int->Int->Int->Int->Int->Int->Int->Int->Int->Int->Int->Int->Int->Int->Int->Int->Bool->Bool->Bool->Prop}(y:K (s.f.rs.getD 0 (uM 0)).v (s.f.rs.getD 1 (uM 0)).v (s.f.rs.getD 2 (uM 0)).v (s.f.rs.getD 3 (uM 0)).v (s.f.rs.getD 4 (uM 0)).v (s.f.rs.getD 5 (uM 0)).v (s.f.rs.getD 6 (uM 0)).v (s.f.rs.getD 7 (uM 0)).v (s.f.rs.getD 8 (uM 0)).v (s.f.rs.getD 9 (uM 0)).v (s.f.rs.getD 10 (uM 0)).v (s.f.rs.getD 11 (uM 0)).v (s.f.rs.getD 12 (uM 0)).v (s.f.rs.getD 13 (uM 0)).v (s.f.rs.getD 14 (uM 0)).v s.f.pc s.f.z s.f.n s.f.l):
 ∃a b c d e f' u v i j k l m n o p q r t,(w.cell? (((vA g).add 2).add 0)=some (O a)/\w.cell? (((vA g).add 2).add 1)=some (O b)/\w.cell? (((vA g).add 2).add 2)=some (O c)/\w.cell? (((vA g).add 2).add 3)=some (O d)/\w.cell? (((vA g).add 2).add 4)=some (O e)/\w.cell? (((vA g).add 2).add 5)=some (O f')/\w.cell? (((vA g).add 2).add 6)=some (O u)/\w.cell? (((vA g).add 2).add 7)=some (O v)/\w.cell? (((vA g).add 2).add 8)=some (O i)/\w.cell? (((vA g).add 2).add 9)=some (O j)/\w.cell? (((vA g).add 2).add 10)=some (O k)/\w.cell? (((vA g).add 2).add 11)=some (O l)/\w.cell? (((vA g).add 2).add 12)=some (O m)/\w.cell? (((vA g).add 2).add 13)=some (O n)/\w.cell? (((vA g).add 2).add 14)=some (O o)/\w.cell? (((vA g).add 2).add 15)=some (O p)/\w.cell? (((vA g).add 2).add 16)=some (vB q)/\w.cell? (((vA g).add 2).add 17)=some (vB r)/\w.cell? (((vA g).add 2).add 18)=some (vB t))/\K a b c d e f' u v i j k l m n o p q r t:=by
 obtain⟨T,hb⟩:=h.blk;exact⟨_,_,_,_,_,_,_,_,_,_,_,_,_,_,_,_,_,_,_,⟨hb.at2 rfl,hb.at2 rfl,hb.at2 rfl,hb.at2 rfl,hb.at2 rfl,hb.at2 rfl,hb.at2 rfl,hb.at2 rfl,hb.at2 rfl,hb.at2 rfl,hb.at2 rfl,hb.at2 rfl,hb.at2 rfl,hb.at2 rfl,hb.at2 rfl,hb.at2 rfl,hb.at2 rfl,hb.at2 rfl,hb.at2 rfl⟩,y⟩
theorem McP.QA(h:McP w g s){f':Fl}(b:f'.Ok){K:World->Prop}(c:∀a,McP a g {s with f:=f'}->Ch (λk=>k=g) w a->K a):aB w ((vA g).add 2) f'.arr.toList K:=McP.all h b c
end
theorem qy {w a:World}{l:List Nat}{b:Nat->Nat->Prop}(q:Pu w a)(hb:∀i k,b i k->k<w.heap.size):Kept (bY b l) w a:=q.ij λk c=>by
 have:∀l:List Nat,bY b l k->k<w.heap.size:=by
  intro l
  induction l with
  |nil=>exact λh=>h.elim
  | cons x l e=>
   cases l with
   |nil=>exact λh=>hb _ _ h
   |cons y l=>exact λh=>h.elim (hb _ _) e
 exact this l c
theorem any_none {w a:World}{X:Nat->Prop}{n:Nat}{b:Nat->Nat->Prop}(q:Ch X w a)(hb:∀k,¬b n k):Kept (bY b [n]) w a:=q.ij λk c=>(hb k c).elim
theorem cDo {w:World}{g:Nat}{s:Mc}{i:Ins}{L:Nat->Nat}{m:Mem}{Z:Nat->Prop}(hG:GkP w)(h:McP w g s)(hm:bO 0 L m Z w)(hd:¬Z g)(hi:i.Ok)(ab:s.mp=some (vA (L 0)))(hr:∀j,0<=(s.f.rs.getD j (uM 0)).v/\(s.f.rs.getD j (uM 0)).v<4294967296):
 Calls prog 118 #[.pointer (some ⟨g,0,none⟩),.agg i.arr] w λe w'=>∃v,e=.returned v/\v=.agg #[.int .i64 (i.evK m s.l1 s.f),.int .u32 (i.evA m s.l1 s.f)]/\McP w' g {s with f:=i.doF m s.l1 s.f}/\(∃o,bO 0 L (i.doM m s.l1 s.f) o w'/\(∀k,o k->Z k\/w.heap.size<=k)/\¬o g)/\Ch (λk=>k=g\/Z k) w w':=by
 refine Hq _ _ _ _ _ _ _ ?_;refine mkd λg1 w1 m1=>mkd λy w2 m2=>?_;have b1:=m2.old m1.blk;have b2:=m2.blk;have R:Pu w w2:=m1.pu.trans m2.pu;have c:McP w2 g s:=h.kept R λe=>e;have VD:bO 0 L m Z w2:=(UK 0).ch hm R λ_ _ e=>e;have l1:w.heap.size<=g1:=m1.lo (Ch.refl (λ_=>False) w);have l2:w.heap.size<=y:=m2.lo m1.pu;have aN:=h.lt;have n1:g1≠g:=by omega
 have n2:y≠g:=by omega
 have ae:w2.cell? ((vA 0).add (Int.toNat i.op*1))=some (J (grp i.op)):=by
  obtain⟨cs,T,hb,hc⟩:=(hG.pu R).grp;exact hb.at (hc i.op (by have:=hi.op;omega) hi.op.2)
 have fin:∀ {A:World}{cs:Array Value}{T:TypeId}{a b:Int}{Y o:Nat->Prop}{m':Mem}{f':Fl},Blk A y cs T->cs.size=2->McP A g {s with f:=f'}->bO 0 L m' o A->(∀k,o k->Z k\/w2.heap.size<=k)->¬o g->Ch (λk=>k=g\/Z k) w A->a=i.evK m s.l1 s.f->b=i.evA m s.l1 s.f->f'=i.doF m s.l1 s.f->m'=i.doM m s.l1 s.f->
  aB A (vA y) [.int .i64 a,.int .u32 b] λC=>∃W Sg:Int,(C.cell? ((vA y).add 0)=some (J W)/\C.cell? ((vA y).add 1)=some (O Sg))/\(Value.agg #[.int .i64 W,.int .u32 Sg]=.agg #[.int .i64 (i.evK m s.l1 s.f),.int .u32 (i.evA m s.l1 s.f)]/\McP C g {s with f:=i.doF m s.l1 s.f}/\(∃o,bO 0 L (i.doM m s.l1 s.f) o C/\(∀k,o k->Z k\/w.heap.size<=k)/\¬o g)/\Ch (λk=>k=g\/Z k) w C):=by
  intro A cs T a b Y o m' f' hb Ts hM hU hz af hq ha UR hf ah;subst ha UR hf ah;refine di hb (by simp[Ts]) λz s3=>?_;have b3:Blk z y #[.int .i64 (i.evK m s.l1 s.f),.int .u32 (i.evA m s.l1 s.f)] T:=s3.blk;have an:¬o y:=λe=>by
   rcases hz _ e with e|e
   ·have:y<w2.heap.size:=m2.lt;have:=(UK 0).lt hm y e;omega
   ·have:y<w2.heap.size:=m2.lt;omega
  refine⟨_,_,⟨b3.at rfl,b3.at rfl⟩,rfl,hM.kept s3.ch λe=>n2 e.symm,⟨o,(UK 0).ch hU s3.ch λk H e=>an (e▸H),λk H=>(hz k H).imp id λe=>Nat.le_trans R.size e,af⟩,hq.stored s3 (.inr l2)⟩
 have S:∀ {A:World},Ch (λk=>k=g) w2 A->Ch (λk=>k=g\/Z k) w A:=λq=>(R.mono (Y:=λk=>k=g\/Z k) λ_ e=>e.elim).call q λk H=>.inl (.inl H);have same:∀ {A:World}{X:Nat->Prop},Ch (λk=>k=g) w2 A->bO 0 L m Z A:=λq=>(UK 0).ch VD q λk H e=>hd (e▸H);have V:∀k,Z k->Z k\/w2.heap.size<=k:=λk H=>.inl H;refine⟨_,b1.at rfl,⟨by have:=hi.op;omega,by have:=hi.op;omega⟩,_,ae,?_⟩;rintro x9 rfl;refine ar (λB=>?_) λB=>?_
 ·refine⟨_,_,_,_,_,_,⟨b1.at rfl,b1.at rfl,b1.at rfl,b1.at rfl,b1.at rfl,b1.at rfl⟩,?_⟩;refine(Qt c hi).mono ?_;rintro e z ⟨rfl,h3,l⟩;exact⟨rfl,fin (Y:=λ_=>False) (l.blk b2 n2) rfl h3 (same (X:=λ_=>False) l) V hd (S l) (by unfold Ins.evK;rw[B];rfl) (by unfold Ins.evA;rw[B];rfl) (by unfold Ins.doF;rw[if_pos B]) (by unfold Ins.doM;rw[B];rfl)⟩
 rintro RN rfl;refine ar (λF=>?_) λF=>?_
 ·refine⟨λi k=>i≠22/\k<w2.heap.size,⟨by decide,b1.lt⟩,_,b1.drew.at rfl,⟨by decide,b1.lt⟩,_,b1.drew.at rfl,⟨by decide,b1.lt⟩,_,b1.drew.at rfl,au _ rfl ⟨hi.b,⟨by decide,c.ltA _⟩,_,c.d.rd hi.b,⟨by decide,b1.lt⟩,_,b1.drew.at rfl,au _ rfl ⟨hi.c,⟨by decide,c.ltA _⟩,_,c.d.rd hi.c,au _ rfl ?_⟩⟩⟩;refine(Rb w2.drew (hr _)).mono ?_;rintro e z ⟨rfl,M⟩;have l:Pu w2 z:=(Pu.aU w2).trans M;refine⟨_,rfl,qy (w:=w2.drew) (b:=λi k=>i≠22/\k<w2.heap.size) M (λ_ _ e=>e.2),λi k=>i≠22/\k<w2.heap.size,λ_ _ e=>e,hi.a,?_⟩;refine(c.kept l λe=>e).wr hi.a λI Q p=>⟨any_none p λk e=>e.1 rfl,λi k=>True,λ_ _ _=>trivial,?_⟩;have p:Ch (λk=>k=g) w2 I:=(l.mono (Y:=λk=>k=g) λ_ e=>e.elim).trans p;exact fin (Y:=λ_=>False) (p.blk b2 n2) rfl Q (same (X:=λ_=>False) p) V hd (S p) (by unfold Ins.evK;rw[F];rfl) (by unfold Ins.evA;rw[F];rfl) (by unfold Ins.doF;rw[if_neg B,if_pos F];rfl) (by unfold Ins.doM;rw[F];rfl)
 rintro UJ rfl;refine ar (λu=>?_) λu=>?_
 ·refine⟨_,_,_,_,_,_,⟨b1.at rfl,b1.at rfl,b1.at rfl,b1.at rfl,b1.at rfl,b1.at rfl⟩,?_⟩;refine(OZ c VD hd hi ab hr).mono ?_;rintro e z ⟨rfl,h3,⟨o,hZ,az,aA⟩,l⟩;have aC:Ch (λk=>k=g\/Z k) w z:=(R.mono (Y:=λk=>k=g\/Z k) λ_ e=>e.elim).trans l;refine⟨_,_,rfl,fin (Y:=λ_=>False) (l.blk b2 λe=>e.elim n2 λe=>?_) rfl h3 hZ az aA aC (by unfold Ins.evK;rw[if_pos u]) (by unfold Ins.evA;rw[if_pos u]) (by unfold Ins.doF;rw[if_neg B,if_neg F,if_pos u]) (by unfold Ins.doM;rw[if_pos u])⟩;have:=(UK 0).lt hm y e;omega
 rintro a0 rfl;refine ar (λK=>?_) λK=>?_
 ·have cmp:∀ {z I:World}{f':Fl},Pu w2 z->McP I g {s with f:=f'}->Ch (λk=>k=g) z I->f'=i.doF m s.l1 s.f->aB I (vA y) [.int .i64 0,.int .u32 0] λC=>∃W Sg:Int,(C.cell? ((vA y).add 0)=some (J W)/\C.cell? ((vA y).add 1)=some (O Sg))/\(Value.agg #[.int .i64 W,.int .u32 Sg]=.agg #[.int .i64 (i.evK m s.l1 s.f),.int .u32 (i.evA m s.l1 s.f)]/\McP C g {s with f:=i.doF m s.l1 s.f}/\(∃o,bO 0 L (i.doM m s.l1 s.f) o C/\(∀k,o k->Z k\/w.heap.size<=k)/\¬o g)/\Ch (λk=>k=g\/Z k) w C):=by
   intro z I f' l Q p hf;have p:Ch (λk=>k=g) w2 I:=(l.mono (Y:=λk=>k=g) λ_ e=>e.elim).trans p;exact fin (Y:=λ_=>False) (p.blk b2 n2) rfl Q (same (X:=λ_=>False) p) V hd (S p) (by unfold Ins.evK;rw[K];rfl) (by unfold Ins.evA;rw[K];rfl) hf (by unfold Ins.doM;rw[K];rfl)
  refine⟨_,b1.at rfl,ar (λG=>?_) λG=>?_⟩
  ·refine⟨λi k=>k<w2.heap.size,au _ rfl ⟨c.lt,?_⟩⟩;refine c.d.Nj ⟨b1.lt,_,b1.drew.at rfl,au _ rfl ⟨hi.a,c.ltA _,_,c.d.rd hi.a,b1.lt,_,b1.drew.at rfl,au _ rfl ⟨hi.b,c.ltA _,_,c.d.rd hi.b,?_⟩⟩⟩;refine(Bt w2.drew (f:=s.f) h.len).mono ?_;rintro e z ⟨rfl,M⟩;have l:Pu w2 z:=(Pu.aU w2).trans M;refine⟨_,_,_,_,_,_,_,_,_,_,_,_,_,_,_,_,_,_,_,rfl,qy (w:=w2.drew) (b:=λi k=>k<w2.heap.size) M (λ_ _ e=>e),λi k=>True,λ_ _ _=>trivial,au _ rfl ?_⟩;refine(c.kept l λe=>e).QA (f':=s.f.cmp _ _) h.len λI Q p=>⟨λi k=>True,λ_ _ _=>trivial,?_⟩;exact cmp l Q p (by unfold Ins.doF;rw[if_neg B,if_neg F,if_neg u,if_pos K,if_pos G])
  ·refine⟨λi k=>k<w2.heap.size,au _ rfl ⟨c.lt,?_⟩⟩;refine c.d.Nj ⟨b1.lt,_,b1.drew.at rfl,au _ rfl ⟨hi.a,c.ltA _,_,c.d.rd hi.a,b1.lt,_,b1.drew.at rfl,?_⟩⟩;refine(Bt w2.drew (f:=s.f) h.len).mono ?_;rintro e z ⟨rfl,M⟩;have l:Pu w2 z:=(Pu.aU w2).trans M;refine⟨_,_,_,_,_,_,_,_,_,_,_,_,_,_,_,_,_,_,_,rfl,qy (w:=w2.drew) (b:=λi k=>k<w2.heap.size) M (λ_ _ e=>e),λi k=>True,λ_ _ _=>trivial,au _ rfl ?_⟩;refine(c.kept l λe=>e).QA (f':=s.f.cmp _ _) h.len λI Q p=>⟨λi k=>True,λ_ _ _=>trivial,?_⟩;exact cmp l Q p (by unfold Ins.doF;rw[if_neg B,if_neg F,if_neg u,if_pos K,if_neg G])
 rintro a1 rfl;refine ar (λG=>?_) λG=>?_
 ·refine⟨_,_,_,_,_,_,⟨b1.at rfl,b1.at rfl,b1.at rfl,b1.at rfl,b1.at rfl,b1.at rfl⟩,?_⟩;refine(Qu c hi).mono ?_;rintro e z ⟨rfl,h3,l⟩;exact⟨rfl,fin (Y:=λ_=>False) (l.blk b2 n2) rfl h3 (same (X:=λ_=>False) l) V hd (S l) (by unfold Ins.evK;rw[G];rfl) (by unfold Ins.evA;rw[G];rfl) (by unfold Ins.doF;rw[if_neg B,if_neg F,if_neg u,if_neg K,if_pos G]) (by unfold Ins.doM;rw[G];rfl)⟩
 have aa:Ch (λk=>k=g) w2 w2:=Ch.refl _ _;rintro a2 rfl;refine ar (λc6=>?_) λc6=>?_
 ·exact⟨_,b1.at rfl,fin (Y:=λ_=>False) b2 rfl c VD V hd (S aa) (by unfold Ins.evK;rw[if_neg u,if_pos c6]) (by unfold Ins.evA;rw[if_neg u,if_pos c6]) (by unfold Ins.doF;rw[if_neg B,if_neg F,if_neg u,if_neg K,if_neg G]) (by unfold Ins.doM;rw[if_neg u])⟩
 ·exact fin (Y:=λ_=>False) b2 rfl c VD V hd (S aa) (by unfold Ins.evK;rw[if_neg u,if_neg c6]) (by unfold Ins.evA;rw[if_neg u,if_neg c6]) (by unfold Ins.doF;rw[if_neg B,if_neg F,if_neg u,if_neg K,if_neg G]) (by unfold Ins.doM;rw[if_neg u])
end
theorem wF(l:oA)(cm F:Nat){R:aV}{w:World}(h:∃o:oA,∃p q:Nat,∃u,(Instr.makeSlice 294 (J 0) (J (i64.wrap (4*((cm:Nat):Int)))):Sem Value).run prog w=.ok (.slice o p q) u/\∃I:Nat->Option Addr->Nat->Nat->Int->World->Prop,(∃m,I m o p q 0 u)/\∀(m:Nat)(H:Nat->Value)(e:oA)(j k:Nat)(a:Int),∀b,I m e j k a b->split (decide ((a:Int)<((cm:Nat):Int))) ((0<=(a:Int)/\(a:Int)<((cm:Nat):Int))/\aF l λG=>∃c:Int,b.cell? (G.add (Int.toNat a*1))=some (O c)/\∀(v:Nat)(y:World),v=b.heap.size->y=b.alloc (.cells #[vY (IntKind.u8.wrap ((c:Int).fdiv (2 ^ 24))),vY (IntKind.u8.wrap ((c:Int).fdiv (2 ^ 16))),vY (IntKind.u8.wrap ((c:Int).fdiv (2 ^ 8))),vY (IntKind.u8.wrap ((c:Int).fdiv (2 ^ 0)))] 5)->∃z:oA,∃A B:Nat,∃C,(Builtin.append_ #[294,294] 294 #[(.slice e j k),(.slice (pvA v) 4 4)]:Sem Value).run prog y=.ok (.slice z A B) C/\∃m1,m1<m/\I m1 z A B (i64.wrap (a+1)) C) (R (.slice e j k) b)):Calls prog 190 #[(.slice l cm F)] w (bI R):=rvc [3] (aq (aq (.node none (aq (.node none (.node (some ⟨[(3,.one (.slice)),(12,.one (.int .i64))],[3,4,5,12,13,14,15,16,17,18,19,20,21,22,23,24,25,26,27,28,29,30,31,32,33,34]⟩) .leaf .leaf) .leaf)) .leaf))) Tryz.func190 h
theorem wC(p:oA)(c q:Nat){R:aV}{w:World}(h:split (decide ((((c:Nat):Int):Int)>1048576)) (R (.tuple #[(.slice none 0 0),J 2]) w) (split (((((c:Nat):Int):Int).tmod 4:Int) !=0) (R (.tuple #[(.slice none 0 0),J 11]) w) (∃u:oA,∃o v:Nat,∃y,(Instr.makeSlice 22 (J (i64.wrap ((((c:Nat):Int):Int).tdiv 4))) (J (i64.wrap ((((c:Nat):Int):Int).tdiv 4))):Sem Value).run prog w=.ok (.slice u o v) y/\∃I:Nat->Int->World->Prop,(∃m,I m 0 y)/\∀(m:Nat)(S:Nat->Value)(a:Int),∀e,I m a e->split (decide ((a:Int)<((o:Nat):Int))) ((0<=(i64.wrap (4*a):Int)/\(i64.wrap (4*a):Int)<=((c:Nat):Int))/\∀j:oA,j=(if q=(Int.toNat (i64.wrap (4*a)))then p else(p:oA).map (·.add ((Int.toNat (i64.wrap (4*a)))*1)))->∀l:Nat,l=c - (Int.toNat (i64.wrap (4*a)))->∀L:Nat,L=q - (Int.toNat (i64.wrap (4*a)))->∃b:bP,(0<=(0:Int)/\(0:Int)<((l:Nat):Int))/\aF j λz=>b 4 ((z.add (Int.toNat 0*1)).block)/\∃A:Int,e.drew.cell? (z.add (Int.toNat 0*1))=some (vY A)/\(0<=(1:Int)/\(1:Int)<((l:Nat):Int))/\aF j λB=>b 9 ((B.add (Int.toNat 1*1)).block)/\∃C:Int,e.drew.cell? (B.add (Int.toNat 1*1))=some (vY C)/\(0<=(2:Int)/\(2:Int)<((l:Nat):Int))/\aF j λF=>b 15 ((F.add (Int.toNat 2*1)).block)/\∃G:Int,e.drew.cell? (F.add (Int.toNat 2*1))=some (vY G)/\(0<=(3:Int)/\(3:Int)<((l:Nat):Int))/\aF j λH=>b 21 ((H.add (Int.toNat 3*1)).block)/\∃K:Int,e.drew.cell? (H.add (Int.toNat 3*1))=some (vY K)/\(0<=(a:Int)/\(a:Int)<((o:Nat):Int))/\aF u λM=>aB e.drew (M.add (Int.toNat a*1)) [O (u32.wrap (BitVec.ofInt u32.bits (u32.wrap (BitVec.ofInt u32.bits (u32.wrap (BitVec.ofInt u32.bits (u32.wrap ((u32.wrap A:Int)*2 ^ 24)) ||| BitVec.ofInt u32.bits (u32.wrap ((u32.wrap C:Int)*2 ^ 16))).toNat) ||| BitVec.ofInt u32.bits (u32.wrap ((u32.wrap G:Int)*2 ^ 8))).toNat) ||| BitVec.ofInt u32.bits (u32.wrap ((u32.wrap K:Int)*2 ^ 0))).toNat)] λQ=>∃b1:bP,(∀i k,b i k->b1 i k)/\∃m1,m1<m/\I m1 (i64.wrap (a+1)) Q) (R (.tuple #[(.slice u o v),J 0]) e)))):Calls prog 191 #[(.slice p c q)] w (bI R):=rvc [] (aq (aq (aq (aq (.node none (aq (.node none (.node (some ⟨[(20,.one (.int .i64))],[5,6,20,21,22,23,24,25,26,27,28,29,30,31,32,33,34,35,36,37,38,39,40,41,42,43,44,45,46,47,48,49,50,51,52,53]⟩) .leaf .leaf) .leaf)) .leaf))))) Tryz.func191 h
theorem wR(u:oA)(o v:Nat)(pad:Int){R:aV}{w:World}(h:∃y:Option Addr->Nat->Nat->World->Prop,(split (decide ((((o:Nat):Int):Int)>64)) (Calls prog 193 #[(.slice u o v)] w λe j=>∃A B C F G H K L:Int,e=.returned (.agg (q8a A B C F G H K L))/\∀(p:Nat)(k:World),p=j.heap.size->k=j.alloc (.cells (z8a) 26)->aB k (vA p) (q8l A B C F G H K L) λq=>∀M:oA,M=(some (if 8=0 then Addr.mk p 0 none else(vA p).add (0*1)))->∀O:Nat,O=8 - 0->∀Q:Nat,Q=8 - 0->Calls prog 190 #[(.slice M O Q)] q λe b=>∃S:oA,∃T V:Nat,e=.returned (.slice S T V)/\y S T V b) (y u o v w))/\∀(Uo:Nat->Value)(W:oA)(Y Z:Nat),∀j,y W Y Z j->∃l:oA,∃c z:Nat,∃k,(Instr.makeSlice 294 (J 64) (J 64):Sem Value).run prog j=.ok (.slice l c z) k/\∃SW:Int,∃q,(Builtin.copy_ #[294,294] 3 #[(.slice l c z),(.slice W Y Z)]:Sem Value).run prog k=.ok (J SW) q/\∃I:Nat->Int->World->Prop,(∃m,I m 0 q)/\∀(m:Nat)(S3:Nat->Value)(a:Int),∀b,I m a b->split (decide ((a:Int)<((c:Nat):Int))) ((0<=(a:Int)/\(a:Int)<((c:Nat):Int))/\aF l λVI=>∃Vp:Int,b.cell? (VI.add (Int.toNat a*1))=some (vY Vp)/\(0<=(a:Int)/\(a:Int)<((c:Nat):Int))/\aF l λaa=>aB b (aa.add (Int.toNat a*1)) [vY (IntKind.u8.wrap (BitVec.ofInt IntKind.u8.bits Vp ^^^ BitVec.ofInt IntKind.u8.bits pad).toNat)] λRE=>∃m1,m1<m/\I m1 (i64.wrap (a+1)) RE) (R (.slice l c z) b)):Calls prog 192 #[(.slice u o v),vY pad] w (bI R):=rvc [] (aq (.node none (aq (.node (some ⟨[(0,.one (.slice))],[0,5,11,12,13,14]⟩) .leaf .leaf)) (aq (aq (.node none (aq (.node none (.node (some ⟨[(21,.one (.int .i64))],[7,21,22,23,24,25,26,27,28,29,30,31]⟩) .leaf .leaf) .leaf)) .leaf))))) Tryz.func192 h
theorem zO(b:oA)(c j:Nat)(pad:Int){R:aV}{w:World}(h:Calls prog 91 #[] w λe v=>∃a:oA,e=.returned (.pointer a)/\Calls prog 192 #[(.slice b c j),vY pad] v λe y=>∃k:oA,∃l o:Nat,e=.returned (.slice k l o)/\Calls prog 191 #[(.slice k l o)] y λe z=>∃p:oA,∃q u:Nat,∃A:Int,e=.returned (.tuple #[(.slice p q u),J A])/\Calls prog 112 #[(.pointer a),(.slice p q u)] z λe B=>e=.returned (.tuple #[])/\R (.pointer a) B):Calls prog 187 #[(.slice b c j),vY pad] w (bI R):=rvc [] (.leaf) Tryz.func187 h
theorem zN(o:oA)(j p:Nat){R:aV}{w:World}(h:split (decide ((((j:Nat):Int):Int)>16)) (Calls prog 189 #[(.slice o j p)] w λe k=>∃q u v y z A B C:Int,e=.returned (.agg (q8a q u v y z A B C))/\∀(l:Nat)(F:World),l=k.heap.size->F=k.alloc (.cells (z8a) 26)->aB F (vA l) (q8l q u v y z A B C) λJ=>∀G:oA,G=(some (if 8=0 then Addr.mk l 0 none else(vA l).add (0*1)))->∀H:Nat,H=8 - 0->∀I:Nat,I=8 - 0->Calls prog 190 #[(.slice G H I)] J λe K=>∃a:oA,∃b c:Nat,e=.returned (.slice a b c)/\R (.slice a b c) K) (Calls prog 190 #[(.slice o j p)] w λe k=>∃a:oA,∃b c:Nat,e=.returned (.slice a b c)/\R (.slice a b c) k)):Calls prog 186 #[(.slice o j p)] w (bI R):=rvc [] (.leaf) Tryz.func186 h
theorem Ef(j:oA)(k l:Nat){R:aV}{w:World}(h:Calls prog 186 #[(.slice j k l)] w λe y=>∃a:oA,∃b c:Nat,e=.returned (.slice a b c)/\Calls prog 187 #[(.slice a b c),vY 54] y λe z=>∃o:oA,e=.returned (.pointer o)/\Calls prog 187 #[(.slice a b c),vY 92] z λe p=>∃q:oA,e=.returned (.pointer q)/\∀(u:Nat)(v:World),u=p.heap.size->v=p.alloc (.cells #[(.pointer o),(.pointer q)] 293)->R (.pointer (pvA u)) v):Calls prog 184 #[(.slice j k l)] w (bI R):=rvc [] (.leaf) Tryz.func184 h
theorem wQ(m:oA){R:aV}{w:World}(h:∀(b:Nat)(c:World),b=w.heap.size->c=w.alloc (.cells (z8a) 26)->aF m λp6=>∃k:oA,c.cell? (p6.add 0)=some (.pointer k)/\Calls prog 103 #[(.pointer k)] c λe l=>∃o p q u v y z A:Int,e=.returned (.agg (q8a o p q u v y z A))/\∀(a:Nat)(B:World),a=l.heap.size->B=l.alloc (.cells (z8a) 26)->aB B (vA a) (q8l o p q u v y z A) λC=>aF m λaa=>∃F:oA,C.cell? (aa.add 1)=some (.pointer F)/\Calls prog 188 #[(.pointer F)] C λe RE=>∃j:oA,e=.returned (.pointer j)/\∀G:oA,G=(some (if 8=0 then Addr.mk a 0 none else(vA a).add (0*1)))->∀H:Nat,H=8 - 0->∀I:Nat,I=8 - 0->Calls prog 112 #[(.pointer j),(.slice G H I)] RE λe R0=>e=.returned (.tuple #[])/\Calls prog 103 #[(.pointer j)] R0 λe Sb=>∃J K L M Q S T V:Int,e=.returned (.agg (q8a J K L M Q S T V))/\aB Sb (vA b) (q8l J K L M Q S T V) λW=>∃Y Z TB TA Tz Uf Vb Va:Int,aO W (vA b) 0 [O Y,O Z,O TB,O TA,O Tz,O Uf,O Vb,O Va]/\R (.agg (q8a Y Z TB TA Tz Uf Vb Va)) W):Calls prog 185 #[(.pointer m)] w (bI R):=rvc [] (.leaf) Tryz.func185 h
theorem Cc(c:oA)(j k:Nat)(l:oA)(o p:Nat){R:aV}{w:World}(h:∀(a:Nat)(q:World),a=w.heap.size->q=w.alloc (.cells (z8a) 26)->Calls prog 184 #[(.slice c j k)] q λe u=>∃b:oA,e=.returned (.pointer b)/\aF b λW=>∃v:oA,u.cell? (W.add 0)=some (.pointer v)/\Calls prog 112 #[(.pointer v),(.slice l o p)] u λe Y=>e=.returned (.tuple #[])/\Calls prog 185 #[(.pointer b)] Y λe Z=>∃y z A B C F G H:Int,e=.returned (.agg (q8a y z A B C F G H))/\aB Z (vA a) (q8l y z A B C F G H) λI=>∃J K L M Q S T V:Int,aO I (vA a) 0 [O J,O K,O L,O M,O Q,O S,O T,O V]/\R (.agg (q8a J K L M Q S T V)) I):Calls prog 172 #[(.slice c j k),(.slice l o p)] w (bI R):=rvc [] (.leaf) Tryz.func172 h
theorem BQ(d:oA){R:aV}{w:World}(h:aF d λL=>∃b c e j k l o p q:Int,∃u:oA,∃v y:Nat,aO w L 0 [O b,O c,O e,O j,O k,O l,O o,O p,J q,.slice u v y]/\∀(a:Nat)(z:World),a=w.heap.size->z=w.alloc (.cells (#[O 0,O 0,O 0,O 0,O 0,O 0,O 0,O 0,J 0,(.slice none 0 0)]) 195)->aB z (vA a) [O b,O c,O e,O j,O k,O l,O o,O p,J q,(.slice u v y)] λA=>aF d λM=>∃B:oA,∃C F:Nat,A.cell? (M.add 9)=some (.slice B C F)/\∃G:oA,∃H I:Nat,∃K,(Builtin.append_ #[22,22] 22 #[(.slice none 0 0),(.slice B C F)]:Sem Value).run prog A=.ok (.slice G H I) K/\aB K ((vA a).add 9) [(.slice G H I)] λQ=>R (.pointer (pvA a)) Q):Calls prog 188 #[(.pointer d)] w (bI R):=rvc [] (.leaf) Tryz.func188 h
theorem Ex(y z A B C F G H I J K L M Q S T V W Y Z aa ab ae af:Int){R:aV}{w:World}(h:∀(a:Nat)(c:World),a=w.heap.size->c=w.alloc (.cells (q8a y z A B C F G H) 26)->∀(j:Nat)(l:World),j=c.heap.size->l=c.alloc (.cells (q8a I J K L M Q S T) 26)->∀(o:Nat)(p:World),o=l.heap.size->p=l.alloc (.cells (q8a V W Y Z aa ab ae af) 26)->∀(q:Nat)(u:World),q=p.heap.size->u=p.alloc (.cells (z8a) 26)->∃b:bP,∀ZT:oA,ZT=(some (if 8=0 then Addr.mk a 0 none else(vA a).add (0*1)))->∀XN:Nat,XN=8 - 0->∀ZS:Nat,ZS=8 - 0->(0<=(8:Int)/\(8:Int)<=((8:Nat):Int))/\(0<=(8:Int)/\(8:Int)<=((Int.toNat 8:Nat):Int))/\∀X8:oA,X8=(some (if(Int.toNat 8)=0 then Addr.mk j 0 none else(vA j).add (0*1)))->∀X6:Nat,X6=(Int.toNat 8) - 0->∀X7:Nat,X7=(Int.toNat 8) - 0->∀WR:oA,WR=(some (if 8=0 then Addr.mk o 0 none else(vA o).add (0*1)))->∀WI:Nat,WI=8 - 0->∀Xu:Nat,Xu=8 - 0->∃U9:oA,∃U7 VB:Nat,∃v,(Builtin.append_ #[22,22] 22 #[(.slice X8 X6 X7),(.slice WR WI Xu)]:Sem Value).run prog u.drew=.ok (.slice U9 U7 VB) v/\Kept (bY b [0]) u.drew v/\∃b1:bP,(∀i k,b i k->b1 i k)/\Calls prog 172 #[(.slice ZT XN ZS),(.slice U9 U7 VB)] v λe R0=>∃Wu WU ah an az aA aC aN:Int,e=.returned (.agg (q8a Wu WU ah an az aA aC aN))/\∃b2:bP,(∀i k,b1 i k->b2 i k)/\aB R0 (vA q) (q8l Wu WU ah an az aA aC aN) λSb=>∃b3:bP,(∀i k,b2 i k->b3 i k)/\∃Si Sg TB TA Tz Uf Vb Va:Int,aO Sb (vA q) 0 [O Si,O Sg,O TB,O TA,O Tz,O Uf,O Vb,O Va]/\R (.agg (q8a Si Sg TB TA Tz Uf Vb Va)) Sb):Calls prog 158 #[(.agg (q8a y z A B C F G H)),(.agg (q8a I J K L M Q S T)),(.agg (q8a V W Y Z aa ab ae af))] w (bI R):=rvc [] (.leaf) Tryz.func158 h
theorem xl(v y z A B C F G H I K L M Q S T V W Y Z aa ab ae af ah an az aA aC aN a0 a1:Int){R:aV}{w:World}(h:∀(c:Nat)(j:World),c=w.heap.size->j=w.alloc (.cells (q8a v y z A B C F G) 26)->∀(l:Nat)(o:World),l=j.heap.size->o=j.alloc (.cells (q8a H I K L M Q S T) 26)->∀(p:Nat)(q:World),p=o.heap.size->q=o.alloc (.cells (q8a V W Y Z aa ab ae af) 26)->∀(u:Nat)(a:World),u=q.heap.size->a=q.alloc (.cells (q8a ah an az aA aC aN a0 a1) 26)->∃b:bP,b 0 ((vA c).block)/\∃Tk Te U5 U4 U3 U2 Zo Zn:Int,aO a.drew (vA c) 0 [O Tk,O Te,O U5,O U4,O U3,O U2,O Zo,O Zn]/\b 1 ((vA l).block)/\∃Tj Td Ws Wr Wq Zl Zk Zj:Int,aO a.drew (vA l) 0 [O Tj,O Td,O Ws,O Wr,O Wq,O Zl,O Zk,O Zj]/\b 2 ((vA p).block)/\∃SM SL TJ TI TH Wp Wo Wn:Int,aO a.drew (vA p) 0 [O SM,O SL,O TJ,O TI,O TH,O Wp,O Wo,O Wn]/\b 4 ((vA u).block)/\∃Y0 YZ a2 a3 a4 a5 a6 a7:Int,aO a.drew (vA u) 0 [O Y0,O YZ,O a2,O a3,O a4,O a5,O a6,O a7]/\Calls prog 158 #[(.agg (q8a Tk Te U5 U4 U3 U2 Zo Zn)),(.agg (q8a Tj Td Ws Wr Wq Zl Zk Zj)),(.agg (q8a SM SL TJ TI TH Wp Wo Wn))] a.drew λe RE=>∃Wk Vy Y7 Y6 Y5 Y4 Y3 Y1:Int,e=.returned (.agg (q8a Wk Vy Y7 Y6 Y5 Y4 Y3 Y1))/\Kept (bY b [4]) a.drew RE/\∃b1:bP,(∀i k,b i k->b1 i k)/\Calls prog 173 #[(.agg (q8a Wk Vy Y7 Y6 Y5 Y4 Y3 Y1)),(.agg (q8a Y0 YZ a2 a3 a4 a5 a6 a7))] RE λe R0=>∃YX:Bool,∃Xw:Int,e=.returned (.tuple #[vB YX,J Xw])/\∃b2:bP,(∀i k,b1 i k->b2 i k)/\R (vB YX) R0):Calls prog 159 #[(.agg (q8a v y z A B C F G)),(.agg (q8a H I K L M Q S T)),(.agg (q8a V W Y Z aa ab ae af)),(.agg (q8a ah an az aA aC aN a0 a1))] w (bI R):=rvc [] (.leaf) Tryz.func159 h
theorem Cd(j k ac ad l o ag p q u v y be z bg A:Int){R:aV}{w:World}(h:∀(B:Nat)(c:World),B=w.heap.size->c=w.alloc (.cells (q8a j k ac ad l o ag p) 26)->∀(C:Nat)(F:World),C=c.heap.size->F=c.alloc (.cells (q8a q u v y be z bg A) 26)->∀apart:Int,apart=0->∃I:Nat->Int->Int->Int->World->Prop,(∃m,I m 0 apart 0 F)/\∀(m:Nat)(L:Nat->Value)(looks e a:Int),∀b,I m looks e a b->split (decide ((a:Int)<8)) ((0<=(a:Int)/\(a:Int)<((8:Nat):Int))/\∃G:Int,b.drew.cell? ((vA B).add (Int.toNat a*1))=some (O G)/\(0<=(a:Int)/\(a:Int)<((8:Nat):Int))/\∃H:Int,b.drew.cell? ((vA C).add (Int.toNat a*1))=some (O H)/\∀K:Int,K=(u32.wrap (BitVec.ofInt u32.bits e ||| BitVec.ofInt u32.bits (u32.wrap (BitVec.ofInt u32.bits G ^^^ BitVec.ofInt u32.bits H).toNat)).toNat)->∃m1,m1<m/\I m1 (i64.wrap (looks+1)) K (i64.wrap (a+1)) b.drew) (R (.tuple #[vB ((e:Int)==0),J looks]) b)):Calls prog 173 #[(.agg (q8a j k ac ad l o ag p)),(.agg (q8a q u v y be z bg A))] w (bI R):=rvc [6] (aq (aq (.node none (aq (.node none (.node (some ⟨[(5,.one (.int .i64)),(6,.one (.int .u32)),(8,.one (.int .i64))],(rgN 5 18)⟩) .leaf .leaf) .leaf)) .leaf))) Tryz.func173 h
theorem DO(d:oA)(last F:Int){R:aV}{w:World}(h:∀(G:Nat)(a:World),G=w.heap.size->a=w.alloc (.cells (z8a) 26)->∃b:bP,aF d λS=>b 3 ((S.add 9).block)/\∃H:oA,∃VA T:Nat,a.drew.cell? (S.add 9)=some (.slice H VA T)/\aF d λp14=>b 7 ((p14.add 9).block)/\∃Vx:oA,∃y Vw:Nat,a.drew.cell? (p14.add 9)=some (.slice Vx y Vw)/\aF d λV=>b 12 ((V.add 9).block)/\∃bh:oA,∃j bk:Nat,a.drew.cell? (V.add 9)=some (.slice bh j bk)/\(0<=(((j:Nat):Int):Int)/\(((j:Nat):Int):Int)<=((T:Nat):Int))/\(0<=(((y:Nat):Int):Int)/\(((y:Nat):Int):Int)<=((Int.toNat ((j:Nat):Int):Nat):Int))/\∀W:oA,W=(if(Int.toNat ((j:Nat):Int))=0 then H else(H:oA).map (·.add (0*1)))->∀Y:Nat,Y=(Int.toNat ((y:Nat):Int)) - 0->∀Z:Nat,Z=(Int.toNat ((j:Nat):Int)) - 0->∀(Ru:Nat)(z:World),Ru=a.drew.heap.size->z=a.drew.alloc (.cells #[O last] 23)->Kept (bY b [0,1,2,3,4,5,6,7,8,9,10,11,12,13,14]) a.drew z/\∃b1:bP,(∀i k,b i k->b1 i k)/\∃Wg:oA,∃We aa:Nat,∃J,(Builtin.append_ #[22,22] 22 #[(.slice W Y Z),(.slice (pvA Ru) 1 1)]:Sem Value).run prog z=.ok (.slice Wg We aa) J/\Kept (bY b1 [0,1,4,5,6,9,10,11]) z J/\∃b2:bP,(∀i k,b1 i k->b2 i k)/\∃I:Nat->Option Addr->Nat->Nat->World->Prop,(∃m,I m Wg We aa J)/\∀(m:Nat)(SQ:Nat->Value)(K:oA)(A L:Nat),∀p,I m K A L p->split (((((A:Nat):Int):Int).tmod 16:Int) !=14) (∀(q:Nat)(u:World),q=p.heap.size->u=p.alloc (.cells #[O 0] 23)->∃YK:oA,∃YI YJ:Nat,∃c,(Builtin.append_ #[22,22] 22 #[(.slice K A L),(.slice (pvA q) 1 1)]:Sem Value).run prog u=.ok (.slice YK YI YJ) c/\∃m1,m1<m/\I m1 YK YI YJ c) (∀(q:Nat)(u:World),q=p.heap.size->u=p.alloc (.cells #[O (u32.wrap ((F:Int).fdiv (2 ^ 32))),O (u32.wrap F)] 23)->∃ab:oA,∃ae af:Nat,∃c,(Builtin.append_ #[22,22] 22 #[(.slice K A L),(.slice (pvA q) 2 2)]:Sem Value).run prog u=.ok (.slice ab ae af) c/\aF d λbl=>∃YC YB YA Yz Yy Yx ah an:Int,aO c (bl.add 0) 0 [O YC,O YB,O YA,O Yz,O Yy,O Yx,O ah,O an]/\∀(l:Nat)(Sb:World),l=c.heap.size->Sb=c.alloc (.cells (z8a) 26)->aB Sb (vA l) (q8l YC YB YA Yz Yy Yx ah an) λRY=>∃M:Nat->Option Addr->Nat->Nat->World->Prop,(∃m2,M m2 ab ae af RY)/\∀(m2:Nat)(XM:Nat->Value)(B:oA)(v Q:Nat),∀o,M m2 B v Q o->split (decide ((((v:Nat):Int):Int)>0)) (∃b3:bP,b3 0 ((vA l).block)/\∃Yu Yt Yr Yq Yp Yo Yn Ym:Int,aO o.drew (vA l) 0 [O Yu,O Yt,O Yr,O Yq,O Yp,O Yo,O Yn,O Ym]/\16<=v/\aF B λaz=>b3 3 (az.block)/\∃aA aC aN a0 a1 a2 a3 a4 a5 a6 a7 a8 a9 ba bb bc:Int,aO o.drew az 0 [O aA,O aC,O aN,O a0,O a1,O a2,O a3,O a4,O a5,O a6,O a7,O a8,O a9,O ba,O bb,O bc]/\Calls prog 121 #[(.agg (q8a Yu Yt Yr Yq Yp Yo Yn Ym)),(.agg (uC aA aC aN a0 a1 a2 a3 a4 a5 a6 a7 a8 a9 ba bb bc))] o.drew λe C=>∃Yl Yk Yj Yi Yh Yg bd bf:Int,e=.returned (.agg (q8a Yl Yk Yj Yi Yh Yg bd bf))/\∃b4:bP,(∀i k,b3 i k->b4 i k)/\aB C (vA l) (q8l Yl Yk Yj Yi Yh Yg bd bf) λR8=>∃b5:bP,(∀i k,b4 i k->b5 i k)/\(0<=(16:Int)/\(16:Int)<=((v:Nat):Int))/\∀VS:oA,VS=(if Q=(Int.toNat 16)then B else(B:oA).map (·.add ((Int.toNat 16)*1)))->∀Ud:Nat,Ud=v - (Int.toNat 16)->∀Wa:Nat,Wa=Q - (Int.toNat 16)->∃m3,m3<m2/\M m3 VS Ud Wa R8) (∃UT US Yf Ye Yd Yc Yb Ya:Int,aO o (vA l) 0 [O UT,O US,O Yf,O Ye,O Yd,O Yc,O Yb,O Ya]/\aB o (vA G) (q8l UT US Yf Ye Yd Yc Yb Ya) λC=>∃Si Sg TB TA Tz Uf Vb Va:Int,aO C (vA G) 0 [O Si,O Sg,O TB,O TA,O Tz,O Uf,O Vb,O Va]/\R (.agg (q8a Si Sg TB TA Tz Uf Vb Va)) C))):Calls prog 115 #[(.pointer d),O last,(.int .u64 F)] w (bI R):=rvc [7] (aq (aq (.node none (.node none (.node (some ⟨[(7,.one (.slice))],[7,27,28,29,30,31,32,33]⟩) .leaf .leaf) .leaf) (aq (aq (.node none (.node none (.node (some ⟨[(7,.one (.slice))],[7,46,47,48,49,50,51,52,53,54,55]⟩) .leaf .leaf) .leaf) .leaf)))))) Tryz.func115 h
theorem rJ(d:oA){R:aV}{w:World}(h:∀(a:Nat)(b:World),a=w.heap.size->b=w.alloc (.cells (z8a) 26)->aF d λK=>∃c:Int,b.cell? (K.add 8)=some (J c)/\Calls prog 115 #[(.pointer d),O 2147483648,(.int .u64 (u64.wrap (32*(u64.wrap c))))] b λe L=>∃j k l o p q u v:Int,e=.returned (.agg (q8a j k l o p q u v))/\aB L (vA a) (q8l j k l o p q u v) λy=>∃z A B C F G H I:Int,aO y (vA a) 0 [O z,O A,O B,O C,O F,O G,O H,O I]/\R (.agg (q8a z A B C F G H I)) y):Calls prog 103 #[(.pointer d)] w (bI R):=rvc [] (.leaf) Tryz.func103 h
section
namespace V
theorem Rd.Qy {α:Type} [Enc α]{P:Program}{w:World}{Z Y:Nat->Prop}{t ty e:TypeId}{z:Value}{bytes:Nat}{A:Option Addr}{n:Nat}{l l2:List α}{b:Addr}{m d:Nat}(c:SN P t e z (Enc.size α) bytes)(p:Rd w Z A n n l)(q:Rd w Y (some b) m d l2)(hm:0<m)(B:n+m<=9223372036854775807)(v:(n+m)*bytes<=140737488355328)
 {K:Option Addr->Nat->Nat->World->Prop}(y:∀A' c' w2,Own w2 (λk=>w.heap.size<=k) e A' (n+m) c' (l++l2)->Pu w w2->K A' (n+m) c' w2):
 ∃(A':oA)(n' c':Nat)(w2:World),(Builtin.append_ #[t,t] ty #[.slice A n n,.slice (some b) m d]:Sem Value).run P w=.ok (.slice A' n' c') w2/\K A' n' c' w2:=by
 obtain⟨i,hi,C,F,hb⟩:=c.info;cases A with
 | none=>
  obtain⟨G,H⟩:=p.Od;subst G H;exact Own.apps (Own.nil (w:=w) (Z:=λk=>w.heap.size<=k)) c q B v (Nat.le_refl _) (λA' c' w2 j I=>y A' c' w2 j I.fresh) (λh=>absurd h (by omega))
 | some a=>
  obtain⟨R,w2,J,j,o⟩:=run_append_arg_grows (P:=P) w t ty e i z (Enc.size α) bytes c.und hi C F hb c.cells c.pos a n n (l.flatMap enc) (by rw[ek,p.len]) (p.flat rfl) b m d (l2.flatMap enc) (by rw[ek,q.len]) (q.flat rfl) (by omega) (by simp only[maxLen];omega) v;rw[<-List.flatMap_append]at j;rcases j.2 with⟨_,S⟩|⟨g,cap,cur,L,M,O,rest⟩
  ·omega
  ·subst L;exact⟨_,_,_,_,J,y _ _ _ ⟨⟨⟨j.1,.inr ⟨g,cap,cur,rfl,Nat.zero_le _,O,rest⟩⟩,λa u=>by injection u with u;rw[<-u];exact M⟩,by rw[List.length_append,p.len,q.len]⟩ ⟨⟨o.os,o.tape,o.output,o.size,λk Q=>o.block k Q.1 (by simp)⟩⟩⟩
end V
def tN(l:List U32):List U32:=l++List.replicate ((30 - l.length % 16) % 16) (uM 0)
theorem FP {l:List U32}(h:¬l.length % 16=14):tN (l++ [uM 0])=tN l:=by
 have e:(30 - l.length % 16) % 16=(30 - (l++ [uM 0]).length % 16) % 16+1:=by rw[List.length_append,List.length_singleton];omega
 unfold tN;rw[e,List.append_assoc,List.replicate_succ];rfl
theorem FQ {l:List U32}(h:l.length % 16=14):tN l=l:=by unfold tN;rw[h];simp
theorem Ez(l:List U32):l.length<=(tN l).length/\(tN l).length<=l.length+15:=by unfold tN;rw[List.length_append,List.length_replicate];omega
def Dg.fin(K:List Int)(d:Dg)(x hi lo:Int):S8:=(dN K d.st (tN (d.waits++ [uM x])++ [uM hi,uM lo])).1
def Dg.sum(K:List Int)(d:Dg):S8:=d.fin K 2147483648 (u32.wrap ((u64.wrap (32*(u64.wrap d.n)):Int).fdiv (2 ^ 32))) (u32.wrap (u64.wrap (32*(u64.wrap d.n))))
def s8C(s:S8):Array Value:= #[.int .u32 s.a,.int .u32 s.b,.int .u32 s.c,.int .u32 s.d,.int .u32 s.e,.int .u32 s.f,.int .u32 s.g,.int .u32 s.h]
theorem EN(o p q u v y z A a b c e h j k l:Value):setAt #[o,p,q,u,v,y,z,A] 0 [a,b,c,e,h,j,k,l]= #[a,b,c,e,h,j,k,l]:=by kernel_rfl
theorem NK:SN prog 22 23 (O 0) 1 4:=mw.sn
theorem Lm {w:World}{g:Nat}{x:Int}{T:TypeId}(b:Blk w g #[.int .u32 x] T):Rd w (λk=>k=g) (pvA g) 1 1 [uM x]:=
 ⟨rfl,Nat.le_refl _,λk e=>by rw[e];exact b.lt,λi z a=>⟨_,rfl,rfl,λj c=>by
  have c:j=0:=by have:Enc.size U32=1:=rfl;omega
  subst c
  match i,a with
  |0,a=>injection a with a;subst a;exact b.at2 (i:=0) (j:=0) rfl
  |i+1,a=>simp at a⟩⟩
theorem Ll {w:World}{g:Nat}{x y:Int}{T:TypeId}(b:Blk w g #[.int .u32 x,.int .u32 y] T):Rd w (λk=>k=g) (pvA g) 2 2 [uM x,uM y]:=
 ⟨rfl,Nat.le_refl _,λk e=>by rw[e];exact b.lt,λi z a=>⟨_,rfl,rfl,λj c=>by
  have c:j=0:=by have:Enc.size U32=1:=rfl;omega
  subst c
  match i,a with
  |0,a=>injection a with a;subst a;exact b.at2 (i:=0) (j:=0) rfl
  |1,a=>injection a with a;subst a;exact b.at2 (i:=1) (j:=0) rfl
  |i+2,a=>simp at a⟩⟩
attribute [local irreducible] dN oa
theorem QP {g:Nat}{L:DgL}{D:Dg}{K:List Int}{w:World}(h:kD w g L D)(y:jB w 1 K)(hl:D.waits.length<16)(last j:Int):
 Calls prog 115 #[.pointer (pvA g),.int .u32 last,.int .u64 j] w λe l=>∃v,e=.returned v/\v=.agg (s8C (D.fin K last (u32.wrap ((j:Int).fdiv (2 ^ 32))) (u32.wrap j)))/\Pu w l:=by
 obtain⟨⟨T,hb⟩,J,Vf⟩:=h;have hlen:=J.len;have a7:=J.cap;refine DO _ _ _ ?_;refine mkd λgv w1 m1=>?_;have M:Pu w w1.drew:=m1.pu.trans (Pu.aU w1);have b1:=M.blk hb;refine⟨bXU [3,7,12] [] w1.drew (λ_=>False),au _ rfl ⟨.inr ⟨rfl,bX.ld b1 (λh=>h) 9⟩,_,_,_,b1.at rfl,au _ rfl ⟨.inr ⟨rfl,bX.ld b1 (λh=>h) 9⟩,_,_,_,b1.at rfl,au _ rfl ⟨.inr ⟨rfl,bX.ld b1 (λh=>h) 9⟩,_,_,_,b1.at rfl,⟨by omega,by omega⟩,⟨by omega,by omega⟩,?_⟩⟩⟩⟩;rintro A1 ae N1 O C1 Q;have O:N1=L.n:=by simpa using O
 have Q:C1=L.n:=by simpa using Q
 subst O;subst Q;have r1:Rd w1.drew L.Y A1 L.n L.n D.waits:=by
  have:=(J.pu M).cut (lo:=0) (hi:=L.n) (m:=L.n) (A':=A1) (n':=L.n) (c':=L.n) (by rw[Int.toNat_natCast]at ae;exact ae) (by omega) (by omega) (by omega) (by omega) (by omega)
  rwa[List.drop_zero,Nat.sub_zero,List.take_of_length_le (by omega)]at this
 refine mkd λg2 w2 m2=>bXU.iX m2.pu rfl ?_;have Sd:Pu w w2:=M.trans m2.pu;refine Rd.Qy NK (r1.pu m2.pu) (Lm m2.blk) (by omega) (by omega) (by omega) λA3 c3 w3 o3 R=>bXU.iX R rfl ?_;have hz:=Ez (D.waits++ [uM last]);rw[List.length_append,List.length_singleton]at hz;refine⟨λm A N C l=>∃c:List U32,Own l (λk=>w2.heap.size<=k) 23 A N C c/\tN c=tN (D.waits++ [uM last])/\m=(30 - c.length % 16) % 16/\Pu w2 l,⟨_,_,o3,rfl,rfl,R⟩,?_⟩;rintro m _ A4 V C4 w4 ⟨c,W,F,rfl,Y⟩;have s4:w2.heap.size<=w4.heap.size:=Y.size;have a8:=W.len;have an:=Ez c;rw[F]at an;have et:((V:Nat):Int).tmod 16=((V % 16:Nat):Int):=by rw[Int.tmod_eq_emod_of_nonneg (by omega)];omega
 refine ax (λZ=>?_) (λheq=>?_)
 ·have Z:¬c.length % 16=14:=by rw[et]at Z;omega
  refine mkd λg5 w5 o=>?_;refine Own.app (x:=uM 0) (W.pu o.pu) NK o.blk rfl (by omega) (by omega) (Nat.le_trans s4 o.pu.size) λA6 c6 u o6 q6=>?_;exact⟨_,by rw[List.length_append,List.length_singleton];omega,c++ [uM 0],o6,(FP Z).trans F,rfl,(Y.trans o.pu).call q6 λk y=>.inr y⟩
 ·have heq:c.length % 16=14:=by rw[et]at heq;omega
  rw[FQ heq]at F;refine mkd λg5 w5 o=>?_;refine Own.apps (W.pu o.pu) NK (Ll o.blk) (by omega) (by omega) (Nat.le_trans s4 o.pu.size) (λA6 c6 u o6 q6=>?_) (λh=>absurd h (by omega));have VI:Pu w2 u:=(Y.trans o.pu).call q6 λk y=>.inr y;have p6:Pu w u:=Sd.trans VI;have b6:=p6.blk hb;refine au _ rfl ⟨_,_,_,_,_,_,_,_,⟨b6.at2 rfl,b6.at2 rfl,b6.at2 rfl,b6.at2 rfl,b6.at2 rfl,b6.at2 rfl,b6.at2 rfl,b6.at2 rfl⟩,mkd λg7 w7 G=>bz G.blk (by simp) λw8 s8=>?_⟩;have aa:Pu u w8:=G.pu.stored s8 (.inr (by rw[G.num];exact Nat.le_refl _));have r8:Rd w8 (λk=>w2.heap.size<=k/\k<u.heap.size) A6 (V+2) c6 (c++ [uM (u32.wrap ((j:Int).fdiv (2 ^ 32))),uM (u32.wrap j)]):=o6.rd.pu aa;have az:Blk w8 gv #[.int .u32 0,.int .u32 0,.int .u32 0,.int .u32 0,.int .u32 0,.int .u32 0,.int .u32 0,.int .u32 0] 26:=by
   have q:Pu w1 w2:=(Pu.aU w1).trans m2.pu;exact Pu.blk ((q.trans VI).trans aa) m1.blk
  have aA:u.heap.size=g7:=G.num.symm;obtain⟨z,ab⟩:∃z,z=c++ [uM (u32.wrap ((j:Int).fdiv (2 ^ 32))),uM (u32.wrap j)]:=⟨_,rfl⟩;have aC:z.length % 16=0:=by rw[ab,List.length_append];simp;omega
  rw[<-ab]at r8;have i8:Blk w8 g7 (s8C D.st) 26:=by have B:=s8.blk;rw[EN]at B;exact B
  refine⟨λm A N C l=>∃(S:S8)(b:List U32),Rd l (λk=>w2.heap.size<=k/\k<u.heap.size) A N C b/\dN K S b=dN K D.st z/\b.length % 16=0/\m=b.length/\Blk l g7 (s8C S) 26/\Blk l gv #[.int .u32 0,.int .u32 0,.int .u32 0,.int .u32 0,.int .u32 0,.int .u32 0,.int .u32 0,.int .u32 0] 26/\Pu w l,⟨z.length,D.st,z,r8,rfl,aC,rfl,i8,az,p6.trans aa⟩,?_⟩;rintro m _ A9 N9 C9 w9 ⟨⟨sa,sb,sc,sd,se,sf,sg,sh⟩,b,H,e9,a9,rfl,b9,af,p9⟩;have ba:=H.len;have bb:=H.cap;refine av (λbc=>?_) (λh0=>?_)
  ·have ah:16<=b.length:=by omega
   have pd:=Pu.aU w9;have b10:=pd.blk b9;obtain⟨p,rfl,hp,a⟩:=(H.pu pd).u32 (by omega);refine⟨λ_ _=>True,trivial,_,_,_,_,_,_,_,_,⟨b10.at rfl,b10.at rfl,b10.at rfl,b10.at rfl,b10.at rfl,b10.at rfl,b10.at rfl,b10.at rfl⟩,by omega,au _ rfl ⟨trivial,_,_,_,_,_,_,_,_,_,_,_,_,_,_,_,_,⟨a 0 (by omega),a 1 (by omega),a 2 (by omega),a 3 (by omega),a 4 (by omega),a 5 (by omega),a 6 (by omega),a 7 (by omega),a 8 (by omega),a 9 (by omega),a 10 (by omega),a 11 (by omega),a 12 (by omega),a 13 (by omega),a 14 (by omega),a 15 (by omega)⟩,?_⟩⟩;refine(Ij (y.pu (p9.trans pd)) _ _ _ _ _ _ _ _ _ _ _ _ _ _ _ _ _ _ _ _ _ _ _ _).mono ?_;rintro e aN ⟨_,rfl,rfl,a0⟩;have pp:Pu w9 aN:=pd.trans a0;refine⟨_,_,_,_,_,_,_,_,rfl,_,λ_ _ h=>h,bz (pp.blk b9) (by simp[s8C]) λa1 I=>⟨_,λ_ _ h=>h,⟨by omega,by omega⟩,?_⟩⟩;rintro bd a2 bf a3 bh a4;have a5:Rd a1 (λk=>w2.heap.size<=k/\k<u.heap.size) (some p) N9 C9 b:=(H.pu pp).ch I.ch λk y e=>by omega
   refine⟨b.length - 16,by omega,oa K ⟨sa,sb,sc,sd,se,sf,sg,sh⟩ ((b.take 16).map U32.v),b.drop 16,a5.from_ (m:=C9) (lo:=16) a2 a3 a4 (by omega) (by omega),by rw[<-jd ah];exact e9,by rw[List.length_drop];omega,by rw[List.length_drop],?_,I.old (pp.blk af) (λe=>by have:=m1.blk.lt;have:=((Pu.aU w1).trans m2.pu).size;have:=R.size;omega),p9.trans pp |>.stored I (.inr ?_)⟩
   ·have B:=I.blk;unfold s8C at B ⊢;rw[EN]at B;rw[lv ah];exact B
   ·rw[<-aA];exact p6.size
  ·have a6:b= []:=List.eq_nil_of_length_eq_zero (by omega);subst a6;rw[gV (by simp)]at e9;refine⟨_,_,_,_,_,_,_,_,⟨b9.at rfl,b9.at rfl,b9.at rfl,b9.at rfl,b9.at rfl,b9.at rfl,b9.at rfl,b9.at rfl⟩,bz af (by simp) λWz TV=>?_⟩;have b10:=TV.blk;rw[EN]at b10;refine⟨_,_,_,_,_,_,_,_,⟨b10.at rfl,b10.at rfl,b10.at rfl,b10.at rfl,b10.at rfl,b10.at rfl,b10.at rfl,b10.at rfl⟩,?_,p9.stored TV (.inr (by rw[m1.num];exact Nat.le_refl _))⟩;have e:D.fin K last (u32.wrap ((j:Int).fdiv (2 ^ 32))) (u32.wrap j)=⟨sa,sb,sc,sd,se,sf,sg,sh⟩:=by
    unfold Dg.fin;rw[<-F,<-ab,<-e9]
   rw[e];rfl
theorem NO {g:Nat}{L:DgL}{D:Dg}{K:List Int}{w:World}(h:kD w g L D)(c:jB w 1 K)(j:D.waits.length<16):
 Calls prog 103 #[.pointer (pvA g)] w λe k=>∃v,e=.returned v/\v=.agg (s8C (D.sum K))/\Pu w k:=by
 refine rJ _ ?_;refine mkd λl w1 m1=>?_;have a:=h.pu m1.pu;obtain⟨T,hb⟩:=a.blk;refine au _ rfl ⟨_,hb.at rfl,(QP a (c.pu m1.pu) j _ _).mono ?_⟩;rintro e w2 ⟨_,rfl,rfl,b⟩;have e:D.sum K=D.fin K 2147483648 (u32.wrap ((u64.wrap (32*(u64.wrap D.n)):Int).fdiv (2 ^ 32))) (u32.wrap (u64.wrap (32*(u64.wrap D.n)))):=rfl;rw[e];generalize D.fin K 2147483648 _ _=S;obtain⟨o,p,sc,q,u,y,z,sh⟩:=S;refine⟨_,_,_,_,_,_,_,_,rfl,bz (b.blk m1.blk) (by simp) λA s3=>?_⟩;have b3:=s3.blk;unfold s8C at *;rw[EN]at b3;exact⟨_,_,_,_,_,_,_,_,⟨b3.at rfl,b3.at rfl,b3.at rfl,b3.at rfl,b3.at rfl,b3.at rfl,b3.at rfl,b3.at rfl⟩,rfl,(m1.pu.trans b).stored s3 (.inr (by rw[m1.num];exact Nat.le_refl _))⟩
end
section
theorem sB8:S1 prog 294 5 (vY 0) 1:=S1.of (by kernel_rfl) (by kernel_rfl) rfl
theorem rdB {α:Type} [Enc α]{w:World}{g:Nat}{cs:Array Value}{T:TypeId}{l:List α}(b:Blk w g cs T)(h:cs.toList=l.flatMap enc){n c:Nat}(o:l.length=n)(p:n<=c):Rd w (λk=>k=g) (pvA g) n c l:=
 ⟨o,p,λk q=>q▸b.lt,λi x u=>⟨_,rfl,rfl,λj a=>by
  have v:=flat_get l i j x u a;have e:(enc x)[j]? =some ((enc x)[j]'(by rw[cE];exact a)):=List.getElem?_eq_getElem _;rw[e];exact b.at2 (by rw[<-Array.getElem?_toList,h,v,e])⟩⟩
theorem Gw {α:Type} [Enc α]{P:Program}{w:World}{t e:TypeId}{z:Value}{bytes:Nat}(h:S1 P t e z bytes)(hs:Enc.size α=1){n:Int}(F:0<=n)(G:(bytes:Int)*n<=281474976710656)(H:n<=9223372036854775807){K:Option Addr->Nat->Nat->World->Prop}
 (o:∀A C w2,Own w2 (λk=>w.heap.size<=k) e A 0 C ([]:List α)->Pu w w2->K A 0 C w2):
 ∃(A:oA)(N C:Nat)(w2:World),(Instr.makeSlice t (J 0) (J n):Sem Value).run P w=.ok (.slice A N C) w2/\K A N C w2:=by
 obtain⟨i,hi,p,q,hb⟩:=h.info;have en:n=((n.toNat:Nat):Int):=by omega
 have I:((bytes*n.toNat:Nat):Int)=(bytes:Int)*n:=by rw[Int.natCast_mul,<-en]
 obtain⟨w2,l,u,b⟩:=run_make_own (P:=P) w w.heap.size t e i z 1 h.und hi p q .i64 .i64 n.toNat (by rw[hb];omega) (by simp only[maxLen];omega) (Nat.le_refl _);rw[<-en]at l;refine⟨_,_,_,_,l,o _ _ _ ⟨⟨?_,λa c=>?_⟩,rfl⟩ ⟨⟨b.os,b.tape,b.output,b.size,λk v=>b.block k v.1 (by simp)⟩⟩⟩
 ·rw[hs];rcases u with⟨y,j⟩
  refine⟨y,?_⟩;rcases j with j|⟨g,cap,cur,B,L,rest⟩
  ·exact .inl j
  ·exact .inr ⟨g,cap,cur,B,Nat.zero_le _,rest⟩
 ·injection c with c;rw[<-c];exact Nat.le_refl _
def byW(x:Int)(k:Nat):U8:=⟨IntKind.u8.wrap (x.fdiv (2 ^ k))⟩
def Dv(x:U32):List U8:= [byW x.v 24,byW x.v 16,byW x.v 8,byW x.v 0]
def jq(l:List U32):List U8:=l.flatMap Dv
theorem Bu {l:List U32}{k:Nat}{x:U32}(h:l[k]? =some x):jq (l.take (k+1))=jq (l.take k)++Dv x:=by
 unfold jq;rw[List.take_add_one,h,List.flatMap_append];simp
theorem K3 {w:World}{Y:Nat->Prop}{A:Option Addr}{n c:Nat}{l:List U32}(h:Rd w Y A n c l)(L:n<=1099511627776):
 Calls prog 190 #[.slice A n c] w λe b=>∃v,e=.returned v/\∃A' c',v=.slice A' (4*n) c'/\Own b (λk=>w.heap.size<=k) 5 A' (4*n) c' (jq l)/\Pu w b:=by
 have M:=h.len;refine wF _ _ _ ?_;refine Gw (α:=U8) sB8 rfl (by rw[ay (by omega)];omega) (by rw[ay (by omega)];omega) (by rw[ay (by omega)];omega) λO Q w0 B C=>?_;refine⟨λm A' F o i b=>∃k:Nat,i=(k:Int)/\k<=n/\m=n - k/\F=4*k/\Own b (λa=>w.heap.size<=a) 5 A' (4*k) o (jq (l.take k))/\Pu w b,⟨n,0,rfl,Nat.zero_le _,rfl,rfl,B,C⟩,?_⟩;rintro m _ A' _ o _ w1 ⟨k,rfl,R,rfl,rfl,u,q⟩;refine av (λhb=>?_) (λhb=>?_)
 ·refine⟨by omega,?_⟩;obtain⟨p,x,G,y,S,z⟩:=(h.pu q).ld (i:=(k:Int)) (by omega) (by omega);rw[Int.toNat_natCast]at y z;refine au p G ⟨x.v,by rw[Int.toNat_natCast];have:=z 0 (by decide);exact this,?_⟩;intro T w2 H hw;have j:=made H hw;refine Own.apps (l2:=Dv x) (m:=4) (d:=4) (u.pu j.pu) sB8.sn (rdB j.blk rfl rfl (Nat.le_refl _)) (by omega) (by omega) (by have:=j.pu.size;have:=q.size;omega) (λV W Z I J=>?_) (λh=>absurd h (by omega));refine⟨n - (k+1),by omega,k+1,by rw[ay (by omega)];omega,by omega,rfl,by omega,?_,(q.trans j.pu).call J λa K=>.inr K⟩;rw[Bu y];exact I
 ·obtain rfl:k=n:=by omega
  refine⟨_,_,rfl,?_,q⟩
  rwa[List.take_of_length_le (by omega)]at u
def be(a b c d:Int):Int:=u32.wrap (BitVec.ofInt u32.bits (u32.wrap (BitVec.ofInt u32.bits (u32.wrap (BitVec.ofInt u32.bits (u32.wrap ((u32.wrap a:Int)*2 ^ 24)) ||| BitVec.ofInt u32.bits (u32.wrap ((u32.wrap b:Int)*2 ^ 16))).toNat) ||| BitVec.ofInt u32.bits (u32.wrap ((u32.wrap c:Int)*2 ^ 8))).toNat) ||| BitVec.ofInt u32.bits (u32.wrap ((u32.wrap d:Int)*2 ^ 0))).toNat
theorem O4(a b c d:Int):0<=be a b c d/\be a b c d<4294967296:=gH _
def yr(l:List U8)(i:Nat):U32:=⟨be (l.getD (4*i) ⟨0⟩).v (l.getD (4*i+1) ⟨0⟩).v (l.getD (4*i+2) ⟨0⟩).v (l.getD (4*i+3) ⟨0⟩).v⟩
def oB(l:List U8):List U32:=(List.range (l.length / 4)).map (yr l)
theorem Cv(l:List U8):(oB l).length=l.length / 4:=by unfold oB;rw[List.length_map,List.length_range]
theorem Cu {l:List U8}:∀x∈oB l,0<=x.v/\x.v<4294967296:=by
 intro x a;obtain⟨i,_,rfl⟩:=List.mem_map.1 a;exact O4 _ _ _ _
def cm(l:List U8)(k:Nat):List U32:=(List.range k).map (yr l)++List.replicate (l.length / 4 - k) ⟨0⟩
theorem z6 {l:List U8}{k:Nat}(a:k<l.length / 4):(cm l k).set k (yr l k)=cm l (k+1):=by
 unfold cm;rw[List.set_append_right _ _ (by simp),List.range_succ,List.map_append,List.append_assoc];congr 1;rw[show l.length / 4 - k=(l.length / 4 - (k+1))+1 by omega,List.replicate_succ];simp
theorem PO {w:World}{Z:Nat->Prop}{A:Option Addr}{n c:Nat}{l:List U8}(h:Rd w Z A n c l)(o:0<n):∃p,A=some p/\∀i,i<n->w.cell? (p.add i)=some (vY (l.getD i ⟨0⟩).v):=by
 obtain⟨p,x,a,q,u,v⟩:=h.ld (i:=0) (by omega) (by omega);refine⟨p,a,λi hi=>?_⟩;obtain⟨y,z,b,j,_,k⟩:=h.ld (i:=(i:Int)) (by omega) (by omega);rw[a]at b;injection b with e
 subst e;rw[Int.toNat_natCast]at j k;have:=k 0 (by decide);rw[List.getD_eq_getElem?_getD,j];rw[show(p.add (i*Enc.size U8)).add 0=p.add i by rw[add_add,Nat.add_zero,show i*Enc.size U8=i from Nat.mul_one i]]at this;exact this
theorem K1 {w:World}{Y:Nat->Prop}{A:Option Addr}{n c:Nat}{l:List U8}(h:Rd w Y A n c l)(Z:n<=1048576)(h4:n % 4=0):
 Calls prog 191 #[.slice A n c] w λe b=>∃v,e=.returned v/\∃A' c',v=.tuple #[.slice A' (n / 4) c',.int .i64 0]/\Own b (λk=>w.heap.size<=k) 23 A' (n / 4) c' (oB l)/\Pu w b:=by
 have B:=h.len;have J:=h.cap;have K:(n:Int).tmod 4=0:=by rw[Int.tmod_eq_emod_of_nonneg (by omega)];omega
 have ed:i64.wrap ((n:Int).tdiv 4)=((n / 4:Nat):Int):=by
  have:(n:Int).tdiv 4=(n:Int) / 4:=Int.tdiv_eq_ediv_of_nonneg (by omega);rw[this,ay (by omega)];omega
 refine wC _ _ _ ?_;refine av (λhb=>by omega) (λhb=>?_);refine ax (λhb=>absurd K hb) (λ_=>?_);refine AH mw (⟨0⟩:U32) rfl (by omega) (by omega) (by omega) λg w0 C F=>?_;have L:(i64.wrap ((n:Int).tdiv 4)).toNat=n / 4:=by omega
 rw[L]at F ⊢;have M:Pu w w0:=C.pu;have hg:w.heap.size<=g:=by rw[C.num];exact Nat.le_refl _
 refine⟨λm i b=>∃k:Nat,i=(k:Int)/\k<=n / 4/\m=n / 4 - k/\Own b (λa=>a=g) 23 (pvA g) (n / 4) (n / 4) (cm l k)/\Pu w b,⟨n / 4,0,rfl,Nat.zero_le _,rfl,by unfold cm;rw[B];exact F,M⟩,?_⟩;rintro m _ _ w1 ⟨k,rfl,hk,rfl,u,q⟩;refine av (λhb=>?_) (λhb=>?_)
 ·have O:i64.wrap (4*(k:Int))=((4*k:Nat):Int):=by rw[ay (by omega)];omega
  rw[O];refine⟨by omega,?_⟩;rintro Q G R H S I;rw[Int.toNat_natCast]at G H I;have T:Rd w1 Y Q R S (l.drop (4*k)):=(h.pu q).from_ (m:=c) (lo:=4*k) G H I (by omega) J;obtain⟨p,rfl,o⟩:=PO T (by omega);have hd:∀j,(l.drop (4*k)).getD j ⟨0⟩=l.getD (4*k+j) ⟨0⟩:=λj=>by rw[List.getD_eq_getElem?_getD,List.getElem?_drop,List.getD_eq_getElem?_getD]
  refine⟨λ_ _=>True,by omega,au p rfl ⟨trivial,_,o 0 (by omega),by omega,au p rfl ⟨trivial,_,o 1 (by omega),by omega,au p rfl ⟨trivial,_,o 2 (by omega),by omega,au p rfl ⟨trivial,_,o 3 (by omega),by omega,au _ rfl ?_⟩⟩⟩⟩⟩;rw[Int.toNat_natCast];have hw:(cm l k)[k]? =some ⟨0⟩:=by
   unfold cm;rw[List.getElem?_append_right (by simp),List.getElem?_replicate,if_pos (by simp;omega)]
  refine(u.pu (Pu.aU w1)).st0 rfl (i:=k) (by omega) hw (y:=yr l k) (by simp only[hd];rfl) λw2 V W=>?_;refine⟨_,λ_ _ h=>h,n / 4 - (k+1),by omega,k+1,by rw[ay (by omega)];omega,by omega,rfl,?_,(q.trans (Pu.aU w1)).call W λa z=>.inr (by have:a=g:=z;omega)⟩;rw[<-z6 (by omega)];exact V
 ·obtain rfl:k=n / 4:=by omega
  refine⟨_,_,rfl,?_,q⟩;have e:cm l (n / 4)=oB l:=by unfold cm oB;rw[B,Nat.sub_self];simp
  rw[e]at u;exact u.mono λa z=>by have:a=g:=z;omega
def Nn(x p:Int):Int:=IntKind.u8.wrap (BitVec.ofInt IntKind.u8.bits x ^^^ BitVec.ofInt IntKind.u8.bits p).toNat
def full(l:List U8):List U8:=l++List.replicate (64 - l.length) ⟨0⟩
def CV(l:List U8)(p:Int):List U8:=(full l).map λx=>⟨Nn x.v p⟩
theorem mT {l:List U8}(h:l.length<=64):(full l).length=64:=by unfold full;rw[List.length_append,List.length_replicate];omega
theorem iW {l:List U8}(h:l.length<=64)(p:Int):(CV l p).length=64:=by unfold CV;rw[List.length_map,mT h]
def tl(l:List U8)(p:Int)(k:Nat):List U8:=(CV l p).take k++(full l).drop k
theorem Iz {l:List U8}{p:Int}(h:l.length<=64){k:Nat}(a:k<=64):(tl l p k).length=64:=by unfold tl;rw[List.length_append,List.length_take,List.length_drop,iW h,mT h];omega
theorem IA {l:List U8}{p:Int}(h:l.length<=64){k:Nat}(a:k<64):(tl l p k)[k]? =some ((full l).getD k ⟨0⟩):=by
 unfold tl;rw[List.getElem?_append_right (by rw[List.length_take,iW h];omega),List.length_take,iW h,List.getElem?_drop,show k+(k - min k 64)=k by omega,List.getD_eq_getElem?_getD,List.getElem?_eq_getElem (by rw[mT h];exact a)];rfl
theorem Gk {l:List U8}{p:Int}(h:l.length<=64){k:Nat}(c:k<64):(tl l p k).set k ⟨Nn ((full l).getD k ⟨0⟩).v p⟩=tl l p (k+1):=by
 have e:=mT h;unfold tl;have a:(full l)[k]? =some ((full l).getD k ⟨0⟩):=by rw[List.getD_eq_getElem?_getD,List.getElem?_eq_getElem (by omega)];rfl
 have hp:(CV l p)[k]? =some ⟨Nn ((full l).getD k ⟨0⟩).v p⟩:=by unfold CV;rw[List.getElem?_map,a];rfl
 rw[List.take_add_one,hp,List.set_append_right _ _ (by rw[List.length_take,iW h];omega),List.length_take,iW h,show k - min k 64=0 by omega,List.append_assoc];congr 1;have b:k<(full l).length:=by omega
 rw[List.drop_eq_getElem_cons b];rfl
theorem OY(l:List U8):(l.map λx:U8=>Value.int .u8 x.v)=l.flatMap enc:=by
 induction l with
 |nil=>rfl
 |cons x r a=>rw[List.map_cons,List.flatMap_cons,a];rfl
theorem Iv {w:World}{Z:Nat->Prop}{A:Option Addr}{n c:Nat}{l:List U8}(h:Rd w Z A n c l):dz w Z .u8 A n c (l.map U8.v):=
 ⟨by rw[List.length_map];exact h.len,h.cap,λj x a=>by
  rw[List.getElem?_map]at a;obtain⟨y,b,rfl⟩:=Option.map_eq_some_iff.1 a;obtain⟨p,e,k,o⟩:=h.cell j y b;have:=o 0 (by decide);rw[show(p.add (j*Enc.size U8)).add 0=p.add j by rw[add_add,Nat.add_zero,show j*Enc.size U8=j from Nat.mul_one j]]at this;exact⟨p,e,k,this⟩⟩
theorem H9 {l:List U8}(h:l.length<=64):(setAt (Array.replicate 64 (vY 0)) 0 (((l.map U8.v).take (min l.length 64)).map (Value.int .u8))).toList=(full l).map λx:U8=>Value.int .u8 x.v:=by
 apply List.ext_getElem?;intro i;rw[Array.getElem?_toList,eW _ _ _ _ (by simp;omega)];unfold full;simp only[List.length_map,List.length_take,List.getElem?_map,List.getElem?_append,List.getElem?_replicate,List.getElem?_take,Array.getElem?_replicate];rw[show min l.length 64=l.length by omega,Nat.min_self];by_cases hi:i<l.length
 ·rw[if_pos ⟨by omega,by omega⟩,if_pos hi,if_pos (by omega)];simp[List.getElem?_eq_getElem hi]
 ·rw[if_neg (by omega),if_neg hi];by_cases a:i<64
  ·rw[if_pos a,if_pos (by omega)];rfl
  ·rw[if_neg a,if_neg (by omega)];rfl
theorem LU {w:World}{Y:Nat->Prop}{A:Option Addr}{n c:Nat}{l:List U8}(h:Rd w Y A n c l)(I:n<=64)(pad:Int):
 Calls prog 192 #[.slice A n c,.int .u8 pad] w λe a=>∃v,e=.returned v/\∃g,v=.slice (pvA g) 64 64/\Rd a (λk=>k=g) (pvA g) 64 64 (CV l pad)/\w.heap.size<=g/\Pu w a:=by
 have B:=h.len;have b:l.length<=64:=by omega
 refine wR _ _ _ _ ?_;refine⟨λA' n' c' a=>a=w/\A'=A/\n'=n/\c'=c,av (λhb=>by omega) (λ_=>⟨rfl,rfl,rfl,rfl⟩),?_⟩;rintro _ _ _ _ j ⟨rfl,rfl,rfl,rfl⟩;refine j7 sB8 (n:=64) (by decide) (by decide) (by decide) λg w1 m1=>?_;have q:j.heap.size<=g:=by rw[m1.num];exact Nat.le_refl _
 refine nN sB8 (o:=0) m1.blk ((Iv h).pu m1.pu) (by simp;omega) λw2 s2=>?_;have b2:Blk w2 g ((tl l pad 0).map λx:U8=>Value.int .u8 x.v).toArray 5:=by
  refine s2.blk.cast ?_;apply Array.ext';rw[<-B];have:=H9 b;unfold tl;rw[List.take_zero,List.nil_append,List.drop_zero];exact this.symm
 have C:Pu j w2:=m1.pu.stored s2 (.inr q);refine⟨λm i a=>∃k:Nat,i=(k:Int)/\k<=64/\m=64 - k/\Blk a g ((tl l pad k).map λx:U8=>Value.int .u8 x.v).toArray 5/\Pu j a,⟨64,0,rfl,by omega,rfl,b2,C⟩,?_⟩;rintro m _ _ J ⟨k,rfl,F,rfl,b3,u⟩;refine av (λhb=>?_) (λhb=>?_)
 ·have y:k<64:=by have hb:(k:Int)<((64:Nat):Int):=hb;omega
  have G:=IA (p:=pad) b y;have H:((tl l pad k).map λx:U8=>Value.int .u8 x.v).toArray[k*1]? =some (vY ((full l).getD k ⟨0⟩).v):=by
   rw[Nat.mul_one,List.getElem?_toArray,List.getElem?_map,G];rfl
  refine⟨⟨by omega,by show(k:Int)<((64:Nat):Int);omega⟩,au _ rfl ⟨_,by rw[Int.toNat_natCast];exact b3.at H,⟨by omega,by show(k:Int)<((64:Nat):Int);omega⟩,au _ rfl ?_⟩⟩;rw[Int.toNat_natCast];refine bB b3 (by simp[Iz b F];omega) λK z=>?_;refine⟨64 - (k+1),by omega,k+1,by rw[ay (by omega)];omega,by omega,rfl,?_,u.stored z (.inr q)⟩;refine z.blk.cast ?_;rw[kK,Nat.mul_one];apply Array.ext';rw[Array.toList_setIfInBounds,<-Gk b y,List.map_set];rfl
 ·obtain rfl:k=64:=by have hb:¬(k:Int)<((64:Nat):Int):=hb;omega
  refine⟨g,rfl,rdB b3 ?_ (iW b pad) (Nat.le_refl _),q,u⟩;rw[<-OY];unfold tl;rw[List.take_of_length_le (by rw[iW b];exact Nat.le_refl _),List.drop_of_length_le (by rw[mT b];exact Nat.le_refl _),List.append_nil]
attribute [local irreducible] dN oa
theorem uc(K:List Int){d:Dg}(h:d.Ok):(d.sum K).ok:=yb _ _ _ h.st
theorem Dg.Ok.lt {d:Dg}(h:d.Ok):d.waits.length<16:=by have:=h.len;have:=h.n;omega
def s8L(s:S8):List U32:= [⟨s.a⟩,⟨s.b⟩,⟨s.c⟩,⟨s.d⟩,⟨s.e⟩,⟨s.f⟩,⟨s.g⟩,⟨s.h⟩]
theorem PL {w:World}{g:Nat}{L:DgL}{D:Dg}(h:kD w g L D)(C:D.Ok):
 Calls prog 188 #[.pointer (pvA g)] w λe q=>∃v,e=.returned v/\∃(l:Nat)(u:DgL),v=.pointer (pvA l)/\kD q l u D/\(∀k,u.X l k->w.heap.size<=k)/\Pu w q:=by
 obtain⟨⟨T,b⟩,y,I⟩:=h;have hlen:=y.len;have hw:=C.lt;refine BQ _ ?_;refine au _ rfl ⟨_,_,_,_,_,_,_,_,_,_,_,_,⟨b.at rfl,b.at rfl,b.at rfl,b.at rfl,b.at rfl,b.at rfl,b.at rfl,b.at rfl,b.at rfl,b.at rfl⟩,mkd λc w1 m1=>di m1.blk rfl λw2 s2=>?_⟩;have z:w.heap.size<=c:=by rw[m1.num];exact Nat.le_refl _
 have j:Pu w w2:=m1.pu.stored s2 (.inr z);have b2:=j.blk b;refine au _ rfl ⟨_,_,_,b2.at rfl,?_⟩;refine qw mw.sn (y.pu j) (by omega) (by omega) λsA sC o F A=>?_;have G:Pu w o:=j.trans A;have b3:=A.blk s2.blk;refine bB b3 (by simp) λH B=>?_;have p:Ch (λk=>k=c) o H:=B.ch;have J:c<w2.heap.size:=s2.blk.lt;refine⟨c,⟨λk=>w2.heap.size<=k/\k<o.heap.size,sA,L.n,sC⟩,rfl,⟨⟨_,B.blk⟩,?_,λe=>by have:=e.1;omega⟩,?_,G.call p λk a=>.inr (by have:k=c:=a;omega)⟩
 ·have:=F.rd;exact(this.ch p λk a e=>by have:k=c:=e;have:=a.1;omega).mono (λk a=>a.1) λk a=>by have:=a.2;have:=p.size;omega
 ·rintro k (rfl|a)
  ·exact z
  ·have:=a.1;have:=j.size;omega
def AI(K:List Int)(a:List U8)(pad:Int):Dg:=Dg.new.add K (oB (CV a pad))
theorem qd(K:List Int)(a:List U8)(pad:Int):(AI K a pad).Ok:=Dg.kz Dg.lG Cu
def IZ(K:List Int)(key msg:List U32):S8:=((AI K (jq key) 92).add K (s8L (((AI K (jq key) 54).add K msg).sum K))).sum K
theorem Jo {w:World}{Y:Nat->Prop}{A:Option Addr}{n c:Nat}{l:List U8}{K:List Int}(h:Rd w Y A n c l)(a:jB w 1 K)(y:n<=64)(pad:Int):
 Calls prog 187 #[.slice A n c,.int .u8 pad] w λe p=>∃v,e=.returned v/\∃(g:Nat)(L:DgL),v=.pointer (pvA g)/\kD p g L (AI K l pad)/\(∀k,L.X g k->w.heap.size<=k)/\Pu w p:=by
 have O:=h.len;refine zO _ _ _ _ ?_;refine PI.mono ?_;rintro e w1 ⟨_,rfl,g,L,rfl,q,o,b⟩;refine⟨_,rfl,(LU (h.pu b) y pad).mono ?_⟩;rintro e w2 ⟨_,rfl,Q,rfl,z,R,u⟩;refine⟨_,_,_,rfl,(K1 z (by omega) (by decide)).mono ?_⟩;rintro e B ⟨_,rfl,S,T,rfl,C,F⟩;have G:=iW (l:=l) (by omega) pad;have j:Pu w1 B:=u.trans F;have V:=o g (.inl rfl);have W:=q.lt g (.inl rfl);have Z:=a.lt _ rfl;have WN:=u.size;refine⟨_,_,_,_,rfl,(Lf (q.pu j) C.rd (a.pu (b.trans j)) Dg.lG (by rw[Cv,G];decide) (λe=>by have:=e.1;omega) (by omega)).mono ?_⟩;rintro e w4 ⟨_,rfl,H,rfl,I,J,M⟩;exact⟨rfl,g,H,rfl,I,λk a=>(J k a).elim (o k) λh9=>by have:=j.size;have:=b.size;omega,(b.trans j).call M λk a=>.inr (o k a)⟩
theorem Ox {w:World}{Y:Nat->Prop}{A:Option Addr}{n c:Nat}{l:List U32}(h:Rd w Y A n c l)(j:n<=16):
 Calls prog 186 #[.slice A n c] w λe a=>∃v,e=.returned v/\∃A' c',v=.slice A' (4*n) c'/\Own a (λk=>w.heap.size<=k) 5 A' (4*n) c' (jq l)/\Pu w a:=by
 refine zN _ _ _ (av (λhb=>by omega) λ_=>?_);refine(K3 h (by omega)).mono ?_;rintro e w1 ⟨_,rfl,A',c',rfl,b,p⟩;exact⟨_,_,_,rfl,_,_,rfl,b,p⟩
structure QI(w:World)(g:Nat)(X:Nat->Prop)(D1 D2:Dg):Prop where
 ex:∃(T:TypeId)(g1 g2:Nat)(L1 L2:DgL),Blk w g #[.pointer (pvA g1),.pointer (pvA g2)] T/\kD w g1 L1 D1/\kD w g2 L2 D2/\(∀k,L1.X g1 k->X k)/\(∀k,L2.X g2 k->X k)/\(∀k,L1.X g1 k->¬L2.X g2 k)/\¬L1.X g1 g/\¬L2.X g2 g
theorem Q6 {w:World}{Y:Nat->Prop}{A:Option Addr}{n c:Nat}{l:List U32}{K:List Int}(h:Rd w Y A n c l)(a:jB w 1 K)(B:n<=16):
 Calls prog 184 #[.slice A n c] w λe q=>∃v,e=.returned v/\∃(g:Nat),v=.pointer (pvA g)/\QI q g (λk=>w.heap.size<=k) (AI K (jq l) 54) (AI K (jq l) 92)/\w.heap.size<=g/\Pu w q:=by
 refine Ef _ _ _ ?_;refine(Ox h B).mono ?_;rintro e w1 ⟨_,rfl,M,O,rfl,u,j⟩;refine⟨_,_,_,rfl,(Jo u.rd (a.pu j) (by omega) 54).mono ?_⟩;rintro e w2 ⟨_,rfl,C,F,rfl,d2,G,o⟩;refine⟨_,rfl,(Jo (u.pu o).rd (a.pu (j.trans o)) (by omega) 92).mono ?_⟩;rintro e Q ⟨_,rfl,g3,H,rfl,d3,y,p⟩;refine⟨_,rfl,mkd λI R b=>?_⟩;have s1:=j.size;have s2:=o.size;have s3:=p.size;have z:=d2.lt;have J:=d3.lt;have S:=b.num;refine⟨I,rfl,⟨_,C,g3,F,H,b.blk,d2.pu (p.trans b.pu),d3.pu b.pu,λk a=>?_,λk a=>?_,λk a L=>?_,λa=>?_,λa=>?_⟩,by omega,(j.trans o).trans (p.trans b.pu)⟩
 ·have:=G k a;omega
 ·have:=y k a;omega
 ·have:=z k a;have:=y k L;omega
 ·have:=z _ a;omega
 ·have:=J _ a;omega
theorem LS {w:World}{g:Nat}{X:Nat->Prop}{D1 D2:Dg}{K:List Int}(h:QI w g X D1 D2)(a:jB w 1 K)(z:D1.Ok)(o:D2.Ok):
 Calls prog 185 #[.pointer (pvA g)] w λe H=>∃v,e=.returned v/\v=.agg (s8C ((D2.add K (s8L (D1.sum K))).sum K))/\Pu w H:=by
 obtain⟨T,g1,g2,L1,L2,hb,d1,d2,_⟩:=h;refine wQ _ ?_;refine mkd λI w1 m1=>au _ rfl ⟨_,(m1.pu.blk hb).at rfl,(NO (d1.pu m1.pu) (a.pu m1.pu) z.lt).mono ?_⟩;rintro e w2 ⟨_,rfl,rfl,p⟩;obtain⟨S,hS⟩:∃S,S=D1.sum K:=⟨_,rfl⟩;rw[<-hS];refine⟨_,_,_,_,_,_,_,_,rfl,mkd λgs w3 q=>di q.blk rfl λA u=>?_⟩;have B:Pu w w2:=m1.pu.trans p;have J:w2.heap.size<=gs:=by rw[q.num];exact Nat.le_refl _
 have y:Pu w2 A:=q.pu.stored u (.inr J);have b:Pu w A:=B.trans y;refine au _ rfl ⟨_,(b.blk hb).at rfl,(PL (d2.pu b) o).mono ?_⟩;rintro e L ⟨_,rfl,g5,L5,rfl,d5,c,j⟩;refine⟨_,rfl,?_⟩;rintro M O Q V W Y;have b5:=j.blk u.blk;have Z:Rd L (λk=>k=gs) M Q W (s8L S):=by
  subst O V Y;exact rdB (l:=s8L S) b5 rfl rfl (Nat.le_refl _)
 have ae:=a.lt _ rfl;have af:=u.blk.lt;have VH:=B.size;have ah:=y.size;refine(Lf d5 Z (a.pu (b.trans j)) o (show 8<=1099511627776 by decide) (λe=>by have:=c g5 (.inl rfl);have:g5=gs:=e;omega) (by have:=c g5 (.inl rfl);omega)).mono ?_;rintro e w6 ⟨_,rfl,L6,rfl,d6,an,C⟩;have aa:Pu w w6:=(b.trans j).call C λk a=>.inr (by have:=c k a;omega);have hr:∀x∈s8L S,0<=x.v/\x.v<4294967296:=by
  have:=uc K z;rw[<-hS]at this;obtain⟨a1,a2,a3,a4,a5,a6,a7,a8⟩:=this;intro x F;simp only[s8L,List.mem_cons,List.not_mem_nil,or_false]at F;rcases F with rfl|rfl|rfl|rfl|rfl|rfl|rfl|rfl<;>assumption
 refine⟨rfl,(NO d6 (a.pu aa) (Dg.kz o hr).lt).mono ?_⟩;rintro e w7 ⟨_,rfl,rfl,p7⟩;generalize Dg.sum K (Dg.add K D2 (s8L S))=R;have ab:w.heap.size<=I:=by rw[m1.num];exact Nat.le_refl _
 have G:Pu w1 w7:=((p.trans y).trans j).call C (λk a=>.inr (by have:=c k a;have:=p.size;omega)) |>.trans p7
 refine⟨_,_,_,_,_,_,_,_,rfl,di (Pu.blk G m1.blk) rfl λw8 s8=>?_⟩;have b8:=s8.blk;exact⟨_,_,_,_,_,_,_,_,⟨b8.at rfl,b8.at rfl,b8.at rfl,b8.at rfl,b8.at rfl,b8.at rfl,b8.at rfl,b8.at rfl⟩,rfl,(m1.pu.trans G).stored s8 (.inr ab)⟩
theorem P9 {w:World}{Y Z:Nat->Prop}{q u:Option Addr}{kn kc c y:Nat}{key msg:List U32}{K:List Int}(I:Rd w Y q kn kc key)(j:Rd w Z u c y msg)(a:jB w 1 K)(J:kn<=16)(L:c<=1099511627776)(M:∀x∈msg,0<=x.v/\x.v<4294967296):
 Calls prog 172 #[.slice q kn kc,.slice u c y] w λe O=>∃v,e=.returned v/\v=.agg (s8C (IZ K key msg))/\Pu w O:=by
 refine Cc _ _ _ _ _ _ ?_;refine mkd λQ w1 m1=>?_;refine(Q6 (I.pu m1.pu) (a.pu m1.pu) J).mono ?_;rintro e w2 ⟨_,rfl,g,rfl,⟨T,z,S,L1,V,hb,d1,d2,l,x2,ne,A,n2⟩,hg,B⟩;have o:=m1.pu.trans B;have W:=j.pu o;have hz:=j.lt;have ab:=a.lt _ rfl;have e1:=l z (.inl rfl);have sz:=m1.size;refine⟨_,rfl,au _ rfl ⟨_,hb.at rfl,(Lf d1 W (a.pu o) (qd ..) (by rw[j.len];exact L) (λhh=>by have:=hz _ hh;omega) (by omega)).mono ?_⟩⟩;rintro e w3 ⟨_,rfl,L3,rfl,d3,C,b⟩;have XI:=hb.lt;refine⟨rfl,(LS (X:=λ_=>True) ⟨T,z,S,L3,V,b.blk hb A,d3,d2.ch b (λk a p=>ne k p a),λ_ _=>trivial,λ_ _=>trivial,λk a F=>(C k a).elim (λh=>ne k h F) (λh=>by have:=d2.lt k F;omega),λh=>(C g h).elim A (λh=>by omega),n2⟩ ((a.pu o).ch b λk a p=>?_) (Dg.kz (qd ..) M) (qd ..)).mono ?_⟩
 ·have:=l k p;omega
 rintro e w4 ⟨_,rfl,rfl,p4⟩;have eq:((AI K (jq key) 92).add K (s8L (((AI K (jq key) 54).add K msg).sum K))).sum K=IZ K key msg:=rfl;rw[eq];generalize IZ K key msg=R;have aa:w.heap.size<=Q:=by rw[m1.num];exact Nat.le_refl _
 have G:Pu w1 w4:=(B.call b λk a=>.inr (l k a)).trans p4;refine⟨_,_,_,_,_,_,_,_,rfl,di (Pu.blk G m1.blk) rfl λw5 H=>?_⟩;have b5:=H.blk;exact⟨_,_,_,_,_,_,_,_,⟨b5.at rfl,b5.at rfl,b5.at rfl,b5.at rfl,b5.at rfl,b5.at rfl,b5.at rfl,b5.at rfl⟩,rfl,(m1.pu.trans G).stored H (.inr aa)⟩
theorem lz {s:S8}(h:s.ok):∀x∈s8L s,0<=x.v/\x.v<4294967296:=by
 obtain⟨b,c,e,j,k,l,o,p⟩:=h;intro x a;simp only[s8L,List.mem_cons,List.not_mem_nil,or_false]at a;rcases a with rfl|rfl|rfl|rfl|rfl|rfl|rfl|rfl<;>assumption
def eI(K:List Int)(k m d:S8):S8:=IZ K (s8L k) (s8L m++s8L d)
theorem EG(K:List Int)(k:S8){m d:S8}(hm:m.ok)(hd:d.ok):(eI K k m d).ok:=by
 refine uc K (Dg.kz (qd ..) (lz (uc K (Dg.kz (qd ..) ?_))));intro x a;rcases List.mem_append.1 a with h|h
 ·exact lz hm x h
 ·exact lz hd x h
theorem QB {w:World}{K:List Int}(M:jB w 1 K){k m d:S8}(hm:m.ok)(hd:d.ok):
 Calls prog 158 #[.agg (s8C k),.agg (s8C m),.agg (s8C d)] w λe O=>∃v,e=.returned v/\v=.agg (s8C (eI K k m d))/\Pu w O:=by
 have Q:∀x∈s8L m++s8L d,0<=x.v/\x.v<4294967296:=λx S=>(List.mem_append.1 S).elim (lz hm x) (lz hd x);refine Ex _ _ _ _ _ _ _ _ _ _ _ _ _ _ _ _ _ _ _ _ _ _ _ _ ?_;refine mkd λT w1 m1=>mkd λV w2 m2=>mkd λgd w3 p=>mkd λW a b=>?_;have q:Pu w2 a:=p.pu.trans b.pu;have p14:Pu w1 a:=m2.pu.trans q;have pd:=Pu.aU a;refine⟨λ_ _=>False,?_⟩;rintro Y Z u y C7 aa;refine⟨by decide,by decide,?_⟩;rintro A8 ab z A B C F c G H C9 ae;have rk:Rd a.drew (λj=>j=T) Y u C7 (s8L k):=by subst Z y aa;exact rdB (l:=s8L k) (Pu.blk (p14.trans pd) m1.blk) rfl rfl (Nat.le_refl _)
 have rm:Rd a.drew (λj=>j=V) A8 z B (s8L m):=by subst ab A C;exact rdB (l:=s8L m) (Pu.blk (q.trans pd) m2.blk) rfl rfl (Nat.le_refl _)
 have rd:Rd a.drew (λj=>j=gd) F G C9 (s8L d):=by subst c H ae;exact rdB (l:=s8L d) (Pu.blk (b.pu.trans pd) p.blk) rfl rfl (Nat.le_refl _)
 obtain rfl:B=8:=C;obtain rfl:z=8:=A;obtain rfl:G=8:=H;have c:F=some (vA gd):=c;subst c;refine Rd.Qy mw.sn rm rd (by omega) (by omega) (by omega) λA3 c3 w5 o5 o=>?_;refine⟨o.ij λj hj=>by simp[bY]at hj,λ_ _=>False,λ_ _ h=>h,?_⟩;have I:Pu w a:=m1.pu.trans p14;obtain rfl:u=8:=y;refine(P9 (rk.pu o) o5.rd (M.pu ((I.trans pd).trans o)) (by omega) (by omega) Q).mono ?_;rintro e w6 ⟨_,rfl,rfl,p6⟩;have eq:IZ K (s8L k) (s8L m++s8L d)=eI K k m d:=rfl;rw[eq];generalize eI K k m d=R;have J:Pu a w6:=(pd.trans o).trans p6;have af:w.heap.size<=W:=by rw[b.num];exact(m1.pu.trans (m2.pu.trans p.pu)).size
 refine⟨_,_,_,_,_,_,_,_,rfl,λ_ _=>False,λ_ _ h=>h,di (Pu.blk J b.blk) rfl λw7 L=>⟨λ_ _=>False,λ_ _ h=>h,?_⟩⟩;have b7:=L.blk;exact⟨_,_,_,_,_,_,_,_,⟨b7.at rfl,b7.at rfl,b7.at rfl,b7.at rfl,b7.at rfl,b7.at rfl,b7.at rfl,b7.at rfl⟩,rfl,(I.trans J).stored L (.inr af)⟩
theorem Ly {x y:Int}(a:0<=x)(b:0<=y):nor x y=0↔x=0/\y=0:=by
 unfold nor;rw[show((x.toNat ||| y.toNat:Nat):Int)=0↔x.toNat ||| y.toNat=0 by omega,Nat.or_eq_zero_iff];omega
theorem KX {a b:Nat}:a ^^^ b=0↔a=b:=
 ⟨λh=>by have:=congrArg (· ^^^ b) h;simpa[Nat.xor_assoc]using this,λh=>by rw[h,Nat.xor_self]⟩
theorem IL {x y:Int}(a:0<=x)(b:0<=y):Gp x y=0↔x=y:=by
 unfold Gp;rw[show((x.toNat ^^^ y.toNat:Nat):Int)=0↔x.toNat ^^^ y.toNat=0 by omega,KX];omega
theorem Lg {a b:S8}(h:∀j,j<8->(s8L a).getD j ⟨0⟩=(s8L b).getD j ⟨0⟩):a=b:=by
 have e:∀j,j<8->((s8L a).getD j ⟨0⟩).v=((s8L b).getD j ⟨0⟩).v:=λj c=>by rw[h j c]
 exact S8.ext (e 0 (by omega)) (e 1 (by omega)) (e 2 (by omega)) (e 3 (by omega)) (e 4 (by omega)) (e 5 (by omega)) (e 6 (by omega)) (e 7 (by omega))
theorem Qa {w:World}{a b:S8}(I:a.ok)(hb:b.ok):
 Calls prog 173 #[.agg (s8C a),.agg (s8C b)] w λe u=>∃v,e=.returned v/\v=.tuple #[.bool (decide (a=b)),.int .i64 8]/\Pu w u:=by
 refine Cd _ _ _ _ _ _ _ _ _ _ _ _ _ _ _ _ ?_;refine mkd λS w1 m1=>mkd λT w2 m2=>?_;rintro _ rfl;refine⟨λm i x j u=>∃k:Nat,j=(k:Int)/\i=(k:Int)/\k<=8/\m=8 - k/\(0<=x/\x<4294967296)/\(x=0↔∀n,n<k->(s8L a).getD n ⟨0⟩=(s8L b).getD n ⟨0⟩)/\Pu w2 u,⟨8,0,rfl,rfl,by omega,rfl,by omega,⟨λ_ n F=>by omega,λ_=>rfl⟩,Ch.refl _ _⟩,?_⟩;rintro m _ _ x _ J ⟨k,rfl,rfl,V,rfl,y,G,p⟩;refine av (λW=>?_) (λY=>?_)
 ·have Z:k<8:=by omega
  have pd:=p.trans (Pu.aU J);have K:=rdB (l:=s8L a) (Pu.blk (m2.pu.trans pd) m1.blk) rfl rfl (Nat.le_refl _);have L:=rdB (l:=s8L b) (Pu.blk pd m2.blk) rfl rfl (Nat.le_refl _);obtain⟨pa,o,z,A,_,M⟩:=K.ld (i:=(k:Int)) (by omega) (by show(k:Int)<8;omega);obtain⟨pb,q,B,C,_,O⟩:=L.ld (i:=(k:Int)) (by omega) (by show(k:Int)<8;omega);injection z with z
  injection B with B
  subst z B;rw[Int.toNat_natCast]at A C;have va:=lz I o (List.mem_of_getElem? A);have c:=lz hb q (List.mem_of_getElem? C);have H:(s8L a).getD k ⟨0⟩=o:=by rw[List.getD_eq_getElem?_getD,A];rfl
  have db:(s8L b).getD k ⟨0⟩=q:=by rw[List.getD_eq_getElem?_getD,C];rfl
  refine⟨by omega,o.v,by have:=M 0 (by decide);exact this,by omega,q.v,by have:=O 0 (by decide);exact this,?_⟩;rintro _ rfl;rw[KW va c,oR y (oS va c)];refine⟨8 - (k+1),by omega,k+1,by rw[ay (by omega)];omega,by rw[ay (by omega)];omega,by omega,rfl,Gq y (oS va c),?_,pd⟩;rw[Ly y.1 (oS va c).1,IL va.1 c.1,G];constructor
  ·rintro⟨Q,R⟩ n F;rcases Nat.lt_or_ge n k with h|h
   ·exact Q n h
   ·obtain rfl:n=k:=by omega
    rw[H,db];cases o;cases q;exact congrArg uM R
  ·intro h;refine⟨λn F=>h n (by omega),?_⟩;have:=h k (by omega);rw[H,db]at this;rw[this]
 ·obtain rfl:k=8:=by omega
  refine⟨?_,m1.pu.trans (m2.pu.trans p)⟩;have e:(x==0)=decide (a=b):=by
   rw[Bool.eq_iff_iff,beq_iff_eq,decide_eq_true_iff,G];exact⟨Lg,λh n _=>by rw[h]⟩
  rw[e];rfl
theorem Mw {w:World}{K:List Int}(z:jB w 1 K){k m d t:S8}(hm:m.ok)(hd:d.ok)(A:t.ok):
 Calls prog 159 #[.agg (s8C k),.agg (s8C m),.agg (s8C d),.agg (s8C t)] w λe B=>∃v,e=.returned v/\v=.bool (decide (eI K k m d=t))/\Pu w B:=by
 refine xl _ _ _ _ _ _ _ _ _ _ _ _ _ _ _ _ _ _ _ _ _ _ _ _ _ _ _ _ _ _ _ _ ?_;refine mkd λG w1 m1=>mkd λH w2 m2=>mkd λgd I o=>mkd λgt h l=>?_;have p:Pu w2 h:=o.pu.trans l.pu;have p14:Pu w1 h:=m2.pu.trans p;have pd:=Pu.aU h;have a:=Pu.blk (p14.trans pd) m1.blk;have b:=Pu.blk (p.trans pd) m2.blk;have c:=Pu.blk (l.pu.trans pd) o.blk;have bt:=Pu.blk pd l.blk;refine⟨λ_ j=>j<h.heap.size,a.lt,_,_,_,_,_,_,_,_,⟨a.at rfl,a.at rfl,a.at rfl,a.at rfl,a.at rfl,a.at rfl,a.at rfl,a.at rfl⟩,b.lt,_,_,_,_,_,_,_,_,⟨b.at rfl,b.at rfl,b.at rfl,b.at rfl,b.at rfl,b.at rfl,b.at rfl,b.at rfl⟩,c.lt,_,_,_,_,_,_,_,_,⟨c.at rfl,c.at rfl,c.at rfl,c.at rfl,c.at rfl,c.at rfl,c.at rfl,c.at rfl⟩,bt.lt,_,_,_,_,_,_,_,_,⟨bt.at rfl,bt.at rfl,bt.at rfl,bt.at rfl,bt.at rfl,bt.at rfl,bt.at rfl,bt.at rfl⟩,?_⟩;have q:Pu w h.drew:=(m1.pu.trans p14).trans pd;refine(QB (k:=k) (z.pu q) hm hd).mono ?_;rintro e J ⟨_,rfl,rfl,u⟩;have y:=EG K k hm hd;generalize eI K k m d=R at y ⊢;refine⟨_,_,_,_,_,_,_,_,rfl,u.ij λj C=>by simpa[bY]using C,λ_ _=>True,λ_ _ _=>trivial,(Qa y A).mono ?_⟩;rintro e L ⟨_,rfl,rfl,F⟩;exact⟨_,_,rfl,λ_ _=>True,λ_ _ _=>trivial,rfl,q.trans (u.trans F)⟩
end
theorem Q8(a:Mp)(p:Int)(x y:Bool):bG #[.bool a.cD,.int .i64 a.aH,.bool a.write,.bool a.exec] #[.bool true,.int .i64 p,.bool x,.bool y]=decide (a=⟨true,p,x,y⟩):=by
 obtain⟨s,q,u,v⟩:=a;rw[Bool.eq_iff_iff];simp[bG,eqL,kG]
namespace DB
theorem NY(D:DB):D.pd.n=D.mem.S:=rfl
def uK(d:DB)(w:Int):Int:=if iV w≠0 then iV w else if d.mem.has (dm w).cD (dm w).aH then 0 else 90
def mpd(d:DB)(w:Int):Mp:=if d.uK w=0 then dm w else Mp.nil
def ou(d:DB)(s va:Int):Int:=if d.dZ s va≠0 then d.dZ s va else d.uK (d.word (d.plP s va) (vaJ va))
def atM(d:DB)(s va:Int):Mp:=if d.dZ s va≠0 then Mp.nil else d.mpd (d.word (d.plP s va) (vaJ va))
def Dr(d:DB)(s va:Int):Int:=if d.dZ s va≠0 then d.dZ s va else if d.word (d.plP s va) (vaJ va)=0 then 92 else 0
def cut(d:DB)(s va:Int):DB:=if d.Dr s va=0 then d.bH (·.write true (d.plP s va) (vaJ va) 0)else d
def cH(d:DB)(s t r:Int):Int:=if r<(d.S:Int)/\(d.entry r).typ=t/\(d.entry r).owner=s then r else -1
def Gv(d:DB)(s r w:Int):Int:=
 if d.cH s 6 r<0 then 18 else if mK w≠0 then 6 else if d.cy s (bK w)=0 then 0 else if d.cy s (bK w)=140 then 7 else 21
def Da(d:DB)(s r w:Int):DB:=if d.Gv s r w=0 then(d.iz (d.cH s 6 r) 5).put s (bK w) ⟨true,d.cH s 6 r,paW w,paX w⟩else d
def F1(d:DB)(s r w:Int):Int:=
 if d.cH s 5 r<0 then 19 else if mK w≠0 then 6 else if d.ou s (bK w)=141 then 21 else if d.ou s (bK w)=0/\d.atM s (bK w)=⟨true,d.cH s 5 r,paW w,paX w⟩then 0 else 7
def Cz(d:DB)(s r w:Int):DB:=if d.F1 s r w=0 then(d.cut s (bK w)).iz (d.cH s 5 r) 6 else d
end DB
theorem wK {R:aV}{w:World}(h:∃a:Option Nat,∃b,(Instr.makeMap 228 none:Sem Value).run prog w=.ok (.map a) b/\∃c:World,(Instr.mapUpdate 228 (.map a) (O 1) (.func (.func 134) #[] #[]):Sem Unit).run prog b=.ok () c/\∃e:World,(Instr.mapUpdate 228 (.map a) (O 2) (.func (.func 135) #[] #[]):Sem Unit).run prog c=.ok () e/\∃j:World,(Instr.mapUpdate 228 (.map a) (O 3) (.func (.func 136) #[] #[]):Sem Unit).run prog e=.ok () j/\∃k:World,(Instr.mapUpdate 228 (.map a) (O 4) (.func (.func 137) #[] #[]):Sem Unit).run prog j=.ok () k/\∃l:World,(Instr.mapUpdate 228 (.map a) (O 5) (.func (.func 138) #[] #[]):Sem Unit).run prog k=.ok () l/\∃o:World,(Instr.mapUpdate 228 (.map a) (O 6) (.func (.func 139) #[] #[]):Sem Unit).run prog l=.ok () o/\∃p:World,(Instr.mapUpdate 228 (.map a) (O 7) (.func (.func 140) #[] #[]):Sem Unit).run prog o=.ok () p/\R (.map a) p):Calls prog 119 #[] w (bI R):=rvc [] (.leaf) Tryz.func119 h
def Fl.r0(f:Fl)(x:Int):Fl:=⟨uM x::aK (λj=>uM (f.rs.getD (j+1) (uM 0)).v) (upN 0 14),f.pc,f.z,f.n,f.l⟩
def Fl.start(pc a b c:Int):Fl:=⟨[uM a,uM b,uM c,uM 0,uM 0,uM 0,uM 0,uM 0,uM 0,uM 0,uM 0,uM 0,uM 0,uM 0,uM 0],pc,false,false,false⟩
theorem Lc(w:World):Calls prog 119 #[] w λe c=>∃v,e=.returned v/\∃g,v=.map (some g)/\pz c g clL/\w.heap.size<=g/\Pu w c:=by
 refine wK ?_;have a:prog.underlying 228=some (.map 23 226):=by kernel_rfl
 have b:prog.underlying 23=some (.int .u32):=by kernel_rfl
 have h:=pz.made w;obtain⟨w1,r1,j,l⟩:=jP (v:=.func (.func 134) #[] #[]) a b h (i:=1) rfl;obtain⟨w2,o,p,u⟩:=jP (v:=.func (.func 135) #[] #[]) a b j (i:=2) rfl;obtain⟨y,z,A,B⟩:=jP (v:=.func (.func 136) #[] #[]) a b p (i:=3) rfl;obtain⟨C,F,G,H⟩:=jP (v:=.func (.func 137) #[] #[]) a b A (i:=4) rfl;obtain⟨I,J,K,L⟩:=jP (v:=.func (.func 138) #[] #[]) a b G (i:=5) rfl;obtain⟨M,O,Q,R⟩:=jP (v:=.func (.func 139) #[] #[]) a b K (i:=6) rfl;obtain⟨S,T,V,W⟩:=jP (v:=.func (.func 140) #[] #[]) a b Q (i:=7) rfl;refine⟨some w.heap.size,_,run_makeMap ..,w1,r1,w2,o,y,z,C,F,I,J,M,O,S,T,w.heap.size,rfl,V,Nat.le_refl _,?_⟩;have Y:Pu w (w.alloc (.map #[] 0)):=⟨⟨rfl,rfl,rfl,(by show _<=(w.heap.push _).size;rw[Array.size_push];omega),λk Z=>(MapKept.heap_alloc w _).2 k Z.1⟩⟩;have q:∀k,k=w.heap.size->False\/w.heap.size<=k:=λk e=>.inr (by omega);exact((((((Y.call l q).call u q).call B q).call H q).call L q).call R q).call W q
def Nst.draw(s:Nst)(a taken:Int):Int:=
 if a<0\/(s.hs.length:Int)<=a\/taken<0\/((s.l a.toNat).length:Int)<=taken then 0 else((s.l a.toNat).getD taken.toNat (uM 0)).v
def Mem.drawn(m:Mem)(sp:Int):Mem:=if m.aI true sp 2<4096 then m.write true sp 2 (u32.wrap (m.aI true sp 2+1))else m
section
def mh(f:Nat->Int)(n k:Nat):List U32:=(List.range k).map (λi=>uM (f i))++List.replicate (n - k) (uM 0)
theorem qj {f:Nat->Int}{n k:Nat}(a:k<=n):(mh f n k).length=n:=by unfold mh;simp;omega
theorem nM {f:Nat->Int}{n:Nat}{i:Int}{l:List U32}(a:l=mh f n i.toNat)(hi:0<=i/\i<(n:Int))(c:n<1000000){x:Int}(b:x=f i.toNat):l.set i.toNat (uM x)=mh f n (i64.wrap (i+1)).toNat:=by
 subst a b;obtain⟨k,rfl⟩:∃k:Nat,i=(k:Int):=⟨i.toNat,by omega⟩;rw[ay (by omega),show((k:Int)+1).toNat=k+1 by omega,Int.toNat_natCast];unfold mh;rw[List.set_append_right _ _ (by simp),List.range_succ,List.map_append,List.append_assoc];congr 1;rw[show n - k=(n - (k+1))+1 by omega,List.replicate_succ];simp
theorem Ba {f:Nat->Int}{n k i:Nat}(hi:i<k):((mh f n k).getD i (uM 0)).v=f i:=by
 unfold mh;rw[List.getD_eq_getElem?_getD,List.getElem?_append_left (by simp;omega),List.getElem?_map,List.getElem?_range hi];rfl
theorem Jt {f:Nat->Int}{n k:Nat}(h:∀i,0<=f i/\f i<4294967296)(j:Nat):0<=((mh f n k).getD j (uM 0)).v/\((mh f n k).getD j (uM 0)).v<4294967296:=by
 rw[List.getD_eq_getElem?_getD];cases b:(mh f n k)[j]? with
 |none=>exact⟨by decide,by decide⟩
 | some x=>
  rcases List.mem_append.1 (List.mem_of_getElem? b)with a|a
  ·obtain⟨i,_,rfl⟩:=List.mem_map.1 a;exact h i
  ·rw[List.eq_of_mem_replicate a];exact⟨by decide,by decide⟩
namespace Mem
def bj(m:Mem)(s:Int):S8:=⟨m.aI true s 3,m.aI true s 4,m.aI true s 5,m.aI true s 6,m.aI true s 7,m.aI true s 8,m.aI true s 9,m.aI true s 10⟩
theorem yS {m:Mem}(h:m.Wf)(s:Int):(m.bj s).ok:=⟨cO h _ _ _,cO h _ _ _,cO h _ _ _,cO h _ _ _,cO h _ _ _,cO h _ _ _,cO h _ _ _,cO h _ _ _⟩
def vA(va i:Int):Int:=u32.wrap (va+u32.wrap (4*u32.wrap i))
def NB(m:Mem)(tb va i:Int):Int:=m.dR tb (vA va i) 0
def vW(m:Mem)(tb va i:Int):Int:=m.aI (m.trS tb (vA va i) 0) (m.trP tb (vA va i) 0) (m.trO tb (vA va i) 0)
def vOk(m:Mem)(tb va:Int):Bool:=(List.range 24).all λi=>m.NB tb va (i:Int)==0
def vS(m:Mem)(tb va k:Int):S8:=⟨m.vW tb va k,m.vW tb va (k+1),m.vW tb va (k+2),m.vW tb va (k+3),m.vW tb va (k+4),m.vW tb va (k+5),m.vW tb va (k+6),m.vW tb va (k+7)⟩
def vF(m:Mem)(tb va:Int)(k:Nat):List U32:=mh (λi=>m.vW tb va (i:Int)) 24 k
theorem pF {m:Mem}{tb va:Int}:m.vOk tb va=true↔∀i,i<24->m.NB tb va (i:Nat)=0:=by
 unfold vOk;rw[List.all_eq_true];simp only[List.mem_range,beq_iff_eq]
def vR(kk:List Int)(key:S8)(m:Mem)(tb va:Int):Int:=if m.vOk tb va=true then(if eI kk key (m.vS tb va 0) (m.vS tb va 8)=m.vS tb va 16 then 1 else 0)else va
theorem Cx {kk:List Int}{key:S8}{m:Mem}{tb va:Int}(h:m.vOk tb va=false):m.vR kk key tb va=va:=by unfold vR;rw[h];rfl
theorem Ny {kk:List Int}{key:S8}{m:Mem}{tb va:Int}(h:m.vOk tb va=true)(a:eI kk key (m.vS tb va 0) (m.vS tb va 8)=m.vS tb va 16):m.vR kk key tb va=1:=by unfold vR;rw[if_pos h,if_pos a]
theorem Pw {kk:List Int}{key:S8}{m:Mem}{tb va:Int}(h:m.vOk tb va=true)(a:¬eI kk key (m.vS tb va 0) (m.vS tb va 8)=m.vS tb va 16):m.vR kk key tb va=0:=by unfold vR;rw[if_pos h,if_neg a]
end Mem
def Fl.s8(f:Fl):S8:=⟨(f.rs.getD 1 (uM 0)).v,(f.rs.getD 2 (uM 0)).v,(f.rs.getD 3 (uM 0)).v,(f.rs.getD 4 (uM 0)).v,(f.rs.getD 5 (uM 0)).v,(f.rs.getD 6 (uM 0)).v,(f.rs.getD 7 (uM 0)).v,(f.rs.getD 8 (uM 0)).v⟩
def Fl.lay(f:Fl)(s:S8):Fl:=⟨[uM (f.rs.getD 0 (uM 0)).v,uM s.a,uM s.b,uM s.c,uM s.d,uM s.e,uM s.f,uM s.g,uM s.h,uM (f.rs.getD 9 (uM 0)).v,uM (f.rs.getD 10 (uM 0)).v,uM (f.rs.getD 11 (uM 0)).v,uM (f.rs.getD 12 (uM 0)).v,uM (f.rs.getD 13 (uM 0)).v,uM (f.rs.getD 14 (uM 0)).v],f.pc,f.z,f.n,f.l⟩
def Fl.r1(f:Fl)(x:Int):Fl:=⟨uM (f.rs.getD 0 (uM 0)).v::uM x::aK (λj=>uM (f.rs.getD (j+2) (uM 0)).v) (upN 0 13),f.pc,f.z,f.n,f.l⟩
def Fl.Rg(f:Fl):Prop:=∀j,0<=(f.rs.getD j (uM 0)).v/\(f.rs.getD j (uM 0)).v<4294967296
theorem Fl.Rg.s8 {f:Fl}(h:f.Rg):f.s8.ok:=⟨h _,h _,h _,h _,h _,h _,h _,h _⟩
theorem Fl.Rg.norm {f:Fl}(h:f.Rg):(Fl.norm f).Rg:=by
 intro j;have e:(Fl.norm f).rs=aK (λi=>uM (f.rs.getD i (uM 0)).v) (upN 0 15):=rfl;rw[e,List.getD_eq_getElem?_getD];cases a:(aK (λi=>uM (f.rs.getD i (uM 0)).v) (upN 0 15))[j]? with
 |none=>exact⟨by decide,by decide⟩
 | some x=>
  rw[<-aM,bx]at a;cases b:nth (upN 0 15) j with
  |none=>rw[b]at a;cases a
  |some i=>rw[b]at a;injection a with a;rw[<-a];exact h i
namespace DB
def F2(d:DB)(s tb r i:Int):Int:=if d.cH s 6 r<0 then 18 else if i>255 then 16 else if d.word tb i≠0 then 7 else 0
def CB(d:DB)(s tb r i:Int):DB:=if d.F2 s tb r i=0 then(d.iz (d.cH s 6 r) 4).add s i (d.cH s 6 r)else d
def oH(d:DB)(tb s n r w:Int):Int:=if n=1\/n=6\/n=7 then 0 else if n=2 then(if d.mem.vOk tb r=true then 0 else 20)else if n=3 then d.Gv s r w else if n=4 then d.F1 s r w else if n=5 then d.F2 s tb r w else 15
def Aa(d:DB)(kk:List Int)(key:S8)(ns:Nst)(tb s n:Int)(f:Fl):Fl:=
 if n=1 then f.lay (eI kk key (d.mem.bj s) f.s8)
 else if n=2 then f.r1 (d.mem.vR kk key tb (f.rs.getD 1 (uM 0)).v)
 else if n=6 then f.r1 (ns.draw (d.mem.aI true s 1) (d.mem.aI true s 2))
 else if n=7 then f.lay (d.mem.bj s)else f
def CD(d:DB)(tb s n r w:Int):DB:=if n=3 then d.Da s r w else if n=4 then d.Cz s r w else if n=5 then d.CB s tb r w else if n=6 then d.bH (·.drawn s)else d
abbrev nZ(d:DB)(t:Int):Int:=(d.entry t).owner
def cq(d:DB)(t:Int):Int:=if d.bo t=0/\(d.entry t).typ=2/\d.bo (d.nZ t)=0/\(d.entry (d.nZ t)).typ=1/\(d.entry (d.nZ t)).state=2/\d.fu (d.nZ t)=0 then 0 else 124
def dB(d:DB)(t n:Int):Bool:=d.cq t==0 && n==0
def fY(d:DB)(t n:Int)(f:Fl):Int:=if d.cq t=0/\n=0 then(f.rs.getD 0 (uM 0)).v else 0
def svF(d:DB)(kk:List Int)(key:S8)(ns:Nst)(t n:Int)(f:Fl):Fl:=
 if d.cq t=0 then(if n=0 then Fl.norm f else(d.Aa kk key ns (d.tbl (d.nZ t)) (d.nZ t) n f).r0 (d.oH (d.tbl (d.nZ t)) (d.nZ t) n (f.rs.getD 1 (uM 0)).v (f.rs.getD 2 (uM 0)).v))else Fl.zero
def svN(d:DB)(t n:Int)(f:Fl):DB:=if d.cq t=0 then d.CD (d.tbl (d.nZ t)) (d.nZ t) n (f.rs.getD 1 (uM 0)).v (f.rs.getD 2 (uM 0)).v else d
section
variable {d:DB}{kk:List Int}{key:S8}{ns:Nst}{t n tb s r w:Int}{f:Fl}
theorem yx(h:d.cq t=124):d.svF kk key ns t n f=Fl.zero:=by unfold svF;rw[h];rfl
theorem HZ(h:d.cq t=0)(a:n=0):d.svF kk key ns t n f=Fl.norm f:=by unfold svF;rw[if_pos h,if_pos a]
theorem mq(h:d.cq t=0)(a:¬n=0):d.svF kk key ns t n f=(d.Aa kk key ns (d.tbl (d.nZ t)) (d.nZ t) n f).r0 (d.oH (d.tbl (d.nZ t)) (d.nZ t) n (f.rs.getD 1 (uM 0)).v (f.rs.getD 2 (uM 0)).v):=by unfold svF;rw[if_pos h,if_neg a]
theorem nC(h:d.cq t=124):d.svN t n f=d:=by unfold svN;rw[h];rfl
theorem fv(h:d.cq t=0):d.svN t n f=d.CD (d.tbl (d.nZ t)) (d.nZ t) n (f.rs.getD 1 (uM 0)).v (f.rs.getD 2 (uM 0)).v:=by unfold svN;rw[if_pos h]
theorem fZ(h:¬n=3/\¬n=4/\¬n=5/\¬n=6):d.CD tb s n r w=d:=by unfold CD;rw[if_neg h.1,if_neg h.2.1,if_neg h.2.2.1,if_neg h.2.2.2]
theorem ub {E:Pd}{m:Mem}(h:E.n=m.S):((E.on m).CD tb s 6 r w).pd=E/\((E.on m).CD tb s 6 r w).mem=m.drawn s:=by
 have e:(m.drawn s).S=m.S:=by unfold Mem.drawn;split<;>first|rfl|exact Mem.dD ..
 exact⟨(Pd.pZ E m _▸Pd.bT E (m.drawn s) (h.trans e.symm):((E.on m).bH (·.drawn s)).pd=E),rfl⟩
theorem NG:(d.svF kk key ns t n f).Ok:=by unfold svF;split;split;rfl;rfl;rfl
theorem yw:Fl.norm (d.svF kk key ns t n f)=d.svF kk key ns t n f:=Fl.norm_eq NG
theorem CF(h:∀k:Int,1<=k->k<=7->¬n=k):d.oH tb s n r w=15:=by
 unfold oH;rw[if_neg (by have:=h 1;have:=h 6;have:=h 7;omega),if_neg (h 2 (by omega) (by omega)),if_neg (h 3 (by omega) (by omega)),if_neg (h 4 (by omega) (by omega)),if_neg (h 5 (by omega) (by omega))]
theorem F3(h:∀k:Int,1<=k->k<=7->¬n=k):d.Aa kk key ns tb s n f=f:=by
 unfold Aa;rw[if_neg (h 1 (by omega) (by omega)),if_neg (h 2 (by omega) (by omega)),if_neg (h 6 (by omega) (by omega)),if_neg (h 7 (by omega) (by omega))]
end
end DB
end
section
structure Fl.Gd(f:Fl):Prop where
 ok:f.Ok
 rg:f.Rg
 pc:0<=f.pc/\f.pc<4294967296
section
variable {f:Fl}{i:Ins}{m:Mem}{tb:Int}
theorem Fl.Gd.ly(h:f.Gd){k x:Int}(b:0<=x/\x<4294967296):(f.ly k x).Gd:=by
 refine⟨?_,λj=>?_,h.pc⟩
 ·show(List.set f.rs k.toNat _).length=15;rw[List.length_set];exact h.ok
 ·show 0<=((List.set f.rs k.toNat (uM x)).getD j (uM 0)).v/\((List.set f.rs k.toNat (uM x)).getD j (uM 0)).v<4294967296;have a:=h.rg j;rw[List.getD_eq_getElem?_getD]at a ⊢;rw[List.getElem?_set];split
  ·split
   ·exact b
   ·exact⟨by decide,by decide⟩
  ·exact a
theorem Fl.Gd.HS(h:f.Gd){x:Int}(a:0<=x/\x<4294967296):({f with pc:=x}:Fl).Gd:=⟨h.ok,h.rg,a⟩
theorem Fl.Gd.cmp(h:f.Gd)(a b:Int):(f.cmp a b).Gd:=⟨h.ok,h.rg,h.pc⟩
theorem Fl.Gd.reg(h:f.Gd)(k:Int):0<=f.reg k/\f.reg k<4294967296:=h.rg _
theorem H0 {op b c:Int}(hb:0<=b/\b<4294967296):0<=Ab op b c/\Ab op b c<4294967296:=by
 unfold Ab;split;exact dA _;split;exact dA _;split;exact dA _;split;exact JG _ _;split;exact dA _;split;exact dA _;split;exact dA _;split;exact dA _;split;exact OH hb _;exact dA _
theorem Ins.JF(hm:m.Wf)(h:f.Gd):(i.doF m tb f).Gd:=by
 unfold Ins.doF;split
 ·unfold Ins.move;split;exact h.ly (dA _);split;exact h.ly (Ia (h.reg _) _ _ _);split;exact h.ly (h.reg _);exact h.ly (dA _)
 split
 ·exact h.ly (H0 (h.reg _))
 split
 ·unfold Ins.tF;split;exact h.ly (cO hm _ _ _);exact h
 split
 ·split<;>exact h.cmp _ _
 split
 ·unfold Ins.jump;split
  ·split;exact h.HS (dA _);exact h
  split
  ·exact(h.ly h.pc).HS (dA _)
  exact h.HS (h.reg _)
 exact h
theorem Mem.IM(h:f.Gd):(Mem.nx f).Gd:=h.HS (dA _)
theorem Mem.oJ(hm:m.Wf)(h:f.Gd):(m.stF tb f).Gd:=by
 unfold Mem.stF;split;exact h;split;exact h;split;exact h;exact Ins.JF hm (Mem.IM h)
end
namespace Mem
section
variable {f:Fl}{m:Mem}{tb:Int}
theorem EJ(h:¬m.dR tb f.pc 2=0):m.stF tb f=f/\m.stK tb f=3/\m.stA tb f=f.pc/\m.stM tb f=m:=⟨if_pos h,if_pos h,if_pos h,if_pos h⟩
theorem EI(h:m.dR tb f.pc 2=0)(a:¬lP (m.aI (m.trS tb f.pc 2) (m.trP tb f.pc 2) (m.trO tb f.pc 2))=0):m.stF tb f=f/\m.stK tb f=2/\m.stA tb f=m.aI (m.trS tb f.pc 2) (m.trP tb f.pc 2) (m.trO tb f.pc 2)/\m.stM tb f=m:=by
 unfold stF stK stA stM stE;simp only[h,a,ne_eq,not_true_eq_false,not_false_eq_true,if_true,if_false,and_self]
theorem MW(h:m.dR tb f.pc 2=0)(a:lP (m.aI (m.trS tb f.pc 2) (m.trP tb f.pc 2) (m.trO tb f.pc 2))=0):(m.stF tb f=if(m.stI tb f).evK m tb (nx f)=4 then f else(m.stI tb f).doF m tb (nx f))/\m.stK tb f=(m.stI tb f).evK m tb (nx f)/\m.stA tb f=(m.stI tb f).evA m tb (nx f)/\m.stM tb f=(m.stI tb f).doM m tb (nx f):=by
 unfold stF stK stA stM stE;simp only[h,a,ne_eq,not_true_eq_false,if_false,and_self]
end
end Mem
def Rn.plus(r:Rn)(n:Int):Rn:= {r with n:=r.n+n}
theorem mD {tb:Int}{n:Nat}{m:Mem}{f:Fl}(h:¬m.stK tb f=0):runN tb (n+1) m f=⟨m.stF tb f,m.stM tb f,m.stK tb f,m.stA tb f,1⟩:=by rw[runN,if_pos h]
theorem yB {tb:Int}{n:Nat}{m:Mem}{f:Fl}(h:m.stK tb f=0):runN tb (n+1) m f=(runN tb n (m.stM tb f) (m.stF tb f)).plus 1:=by rw[runN,if_neg (by rw[h];decide)];rfl
theorem Gh(r:Rn)(a b:Int):(r.plus a).plus b=r.plus (a+b):=by unfold Rn.plus;simp only[Rn.mk.injEq,true_and];omega
theorem aR.Pz {U:Uni}{a a' b b' c:Res U}{z A:Upd U}{X:Nat->Nat->Prop}{w y:World}{Q:Ou U->Prop}{v:Value}{k:Option Kn}{Z0 Z1:Nat->Prop}(hs:Sat [a,b,c] X w)(q:Ch (λk=>X 0 k\/X 1 k) w y)(B:cV a z=some a')(C:cV b A=some b')(L:RS Z0 y a')(M:RS Z1 y b')(G:∀k,Z0 k->X 0 k\/w.heap.size<=k)(H:∀k,Z1 k->X 1 k\/w.heap.size<=k)(hd:∀k,Z0 k->¬Z1 k)
 (O:Q ⟨v,k,[z,A],[],[]⟩)(e:KnO [a',b',c] v k)(R:rw1 a=true:=by rfl)(S:rw1 b=true:=by rfl):aR [a,b,c] [0,1] X w Q (.returned v) y:=by
 have T:br [a,b,c] [0,1] [z,A]=some [a',b',c]:=by simp[br,nth,cf,B,C]
 have V:=hs.res 2 c rfl;have I:=hs.lt (i:=2) (by simp);have J:=hs.gX 0 2 (by simp) (by simp) (by omega) (by rw[show rwB [a,b,c] 0=true from R,Bool.true_or]);have d12:=hs.gX 1 2 (by simp) (by simp) (by omega) (by rw[show rwB [a,b,c] 1=true from S,Bool.true_or]);have e0:∀k,Z0 k->¬X 2 k:=λk F u=>(G k F).elim (λh=>J k h u) λh=>by have:=I k u;omega
 have e1:∀k,Z1 k->¬X 2 k:=λk F u=>(H k F).elim (λh=>d12 k h u) λh=>by have:=I k u;omega
 refine⟨_,_,λi=>if i=0 then Z0 else if i=1 then Z1 else X i,fJ e,O,T,⟨λi r l=>?_,λi j hi K W _ k o p=>?_⟩,q.mono λk e=>e.elim (λh=>⟨0,by simp,h⟩) λh=>⟨1,by simp,h⟩,λi hi hm=>?_,λi hi k e=>?_,λi B C=>by simp at B C;omega,.inr (by simpa using e),λ_ k e=>by cases e⟩
 ·match i with
  |0=>simp only[List.append_nil,nth,Option.some.injEq]at l;subst l;exact L
  |1=>simp only[List.append_nil,nth,Option.some.injEq]at l;subst l;exact M
  | 2=>
   simp only[List.append_nil,nth,Option.some.injEq]at l;subst l;exact V.ch q λk e h=>h.elim (λh=>J k h e) λh=>d12 k h e
  |i+3=>simp[nth]at l
 ·simp at hi K
  match i,j,hi,K,W with
  |0,1,_,_,_=>exact hd k o p
  |1,0,_,_,_=>exact hd k p o
  |0,2,_,_,_=>exact e0 k o p
  |2,0,_,_,_=>exact e0 k p o
  |1,2,_,_,_=>exact e1 k o p
  |2,1,_,_,_=>exact e1 k p o
  |0,0,_,_,h=>exact h rfl
  |1,1,_,_,h=>exact h rfl
  |2,2,_,_,h=>exact h rfl
 ·simp at hm;rw[if_neg hm.1,if_neg hm.2]
 ·simp at hi;rcases hi with rfl|rfl
  ·exact G k e
  ·exact H k e
end
namespace V
section
def RDf(P:Program)(f:FuncId)(args:Array Value)(w:World)(E:Ending->World->Prop):Prop:=CallsDIn (WF none) 0 P f args .returning w λe u a=>u=.returning/\E e a
theorem RDf.mono {P:Program}{f:FuncId}{args:Array Value}{w:World}{E b:Ending->World->Prop}(h:RDf P f args w E)(k:∀e a,E e a->b e a):RDf P f args w b:=CallsDIn.mono h λe u a ⟨c,j⟩=>⟨c,k e a j⟩
section
variable {U:Uni}{P:Program}{tbl:Tb U}{N:List Nat}
theorem FT {f:Nat}{fn:Func}{u:An}{p:List Nat}{c:Ctr U}(C:P.funcs[f]? =some fn)(hm:P.follows .mixedOrders=true)(F:∀f c,tbl.c f=some c->LV U P f c/\bE P f=true)(G:gp (λi=>Nat.blt i c.res.length) c.aW=true)(h:Vc2 U P tbl N fn u p c):LVg U (RDf P f) c:=by
 have y:∀i,i∈c.aW->i<c.res.length:=λi hi=>by simpa[Nat.blt_eq]using cx.1 G i hi
 refine z8 (BP:=bodyPost P fn) (R:=RDf P f) (V:=λcode Q fr st=>jK U P tbl c.aW c.res.length fn.ntmps N code u (λe fr st=>match fr.ds,e with
  | [],.normal=>oQ U P c.res.length c.aW p Q fn fr st
  | [],.ret=>oQ U P c.res.length c.aW p Q fn fr st
  | [],.panic [⟨v,false,false⟩]=>A5 U c.res.length c.aW p Q v (some .pan) st
  |_,_=>False) fr st) C ?_ (λcode args w E hb H=>callsDIn_of_wp C hb trivial H) (λargs T rs kc Q h=>?_) h
 ·intro code Q W X w kn fr a z hI I J q h;refine wpIn_mono (cK F hm code u _ _ _ X _ w I hI J h) λe a' Y he=>?_;cases e
  case normal=>
   obtain⟨l,k,⟨st',A,j,o,g3,b⟩,_⟩:=he;have g3:l.ds= []:=g3.trans q;rw[g3]at b;exact⟨k.defers.trans g3,lO z y k j o b⟩
  case ret=>
   obtain⟨l,k,⟨st',A,j,o,g3,b⟩,_⟩:=he;have g3:l.ds= []:=g3.trans q;rw[g3]at b;exact⟨k.defers.trans g3,lO z y k j o b⟩
  case panic ch=>
   obtain⟨l,k,⟨st',A,j,o,g3,b⟩,_⟩:=he;have g3:l.ds= []:=g3.trans q;rw[g3]at b;rcases ch with _|⟨⟨v,_|_,_|_⟩,_|⟨Z,r⟩⟩<;>first|exact b.elim|skip
   obtain⟨out,rs',K,L,M,O,S⟩:=u6 b z ⟨j.inv,j.len,j.md,j.root⟩ o (.inl rfl) y;exact⟨k.defers.trans g3,out,rs',K,L,M,O,S⟩
  case outgrown=>exact he.elim
  all_goals
   obtain⟨l,k,⟨st',A,j,o,g3,b⟩,_⟩:=he;have g3:l.ds= []:=g3.trans q;rw[g3]at b;exact b.elim
 ·unfold Nt at h;split at h
  case h_2=>exact h.elim
  rename_i code hb B;simp only[Bool.and_eq_true]at B;exact⟨code,hb,B.1,B.2,h⟩
theorem HN {f:Nat}{fn:Func}{a:An}{b:List Nat}{c:Ctr U}{tb:List (Nat×Ctr U)}{sh:Sh}{al:List (Nat×List PK×List PK)}(e:P.funcs[f]? =some fn)(hm:P.follows .mixedOrders=true)(j:oG U P tb)(hb:(gp (λp=>bE P p.1) tb && gp (λi=>Nat.blt i c.res.length) c.aW)=true)(h:Vc2 U P ⟨wx tb,sh,al⟩ N fn a b c):LVg U (RDf P f) c:=by
 rw[Bool.and_eq_true]at hb;exact FT e hm (λf c k=>kJ k j hb.1) hb.2 h
end
def Fx(c:Nat):List Oper->Option (Nat×Nat×Nat)
 | [⟨some t,.makeFunc (.func f) a b,_,_,_,none⟩,⟨none,.defer ⟨.value (.tmp e),h,_⟩,_,_,_,none⟩]=>(match a.toList,b.toList,h.toList,Nat.beq f c && Nat.beq t e with
  | [],[.tmp x,.tmp y],[],true=>some (t,x,y)
  |_,_,_,_=>none)
 |_=>none
def ntS(t:Nat)(a:Key)(_:Kn):Bool:=match a with
 | .s i=>(match Nat.beq i t with
  |true=>false
  |false=>true)
 |_=>true
section
variable (U:Uni)(P:Program)(tbl:Tb U)(may:List Nat)(k0:Nat)
def OK(cd:Ctr U)(a x y:Nat)(b c:Value)(h:List Nat)(Q:Ou U->Prop)(fn:Func):QF2 U:=λe fr st=>match e with
 | .normal=>lk fr.g x fr.e=b/\lk fr.g y fr.e=c/\call2 U (iy [(a,cd)]) may k0 a [b,c] [cP (.s x) st.kn,cP (.s y) st.kn] st λ_ k st'=>match k with
  |some .pan=>False
  |_=>oQ U P k0 may h Q fn fr st'
 | .ret=>lk fr.g x fr.e=b/\lk fr.g y fr.e=c/\call2 U (iy [(a,cd)]) may k0 a [b,c] [cP (.s x) st.kn,cP (.s y) st.kn] st λ_ k st'=>match k with
  |some .pan=>False
  |_=>oQ U P k0 may h Q fn fr st'
 |_=>False
def Nu(cd:Ctr U)(h:Nat)(N:List Nat)(fn:Func)(j:An)(k:List Nat)(code:Code)(Q:Ou U->Prop)(fr0:Fr)(st0:St U):Prop:=
 match code with
 | .seq a (.seq b (.seq (.region _ ops false) c))=>jK U P tbl may k0 fn.ntmps N a .leaf (λe fr st=>match e with
  | .normal=>jK U P tbl may k0 fn.ntmps N b j.l (λe fr st=>match e with
   | .normal=>(match Fx h ops.toList with
    | some (t,x,y)=>(match Nat.blt t fn.ntmps with
     |true=>jK U P tbl may k0 fn.ntmps N c j.r (OK U P may k0 cd h x y (lk fr.g x fr.e) (lk fr.g y fr.e) k Q fn) ⟨(t,.func (.func h) #[] #[lk fr.g x fr.e,lk fr.g y fr.e])::fr.e,fr.g,[⟨.fn (.func h) #[lk fr.g x fr.e,lk fr.g y fr.e],#[]⟩]⟩ ⟨st.rs,dO (ntS t) st.kn,st.md⟩
     |false=>False)
    |none=>False)
   |_=>False) fr st
  |_=>False) fr0 st0
 |_=>False
def Pt(cd:Ctr U)(b:Nat)(N:List Nat)(fn:Func)(e:An)(h:List Nat)(args:List Value)(a:List (Option Kn))(rs:List (Res U))(kc:List (Key×Kn))(Q:Ou U->Prop):Prop:=
 match fn.body,Nat.ble args.length fn.ntmps && ot rs (qb 0 a++kc)with
 |some c,true=>Nu U P tbl may k0 cd b N fn e h c Q ⟨num 0 args,λ_=>undef,[]⟩ ⟨rs,qb 0 a++kc,[]⟩
 |_,_=>False
end
def VcE(U:Uni)(P:Program)(tbl:Tb U)(cd:Ctr U)(e:Nat)(N:List Nat)(fn:Func)(h:An)(j:List Nat)(c:Ctr U):Prop:=vo c.args c.body λB b=>vn c.res B λB a=>∀Q:Ou U->Prop,B Q->uV (dU a) (Pt U P tbl c.aW c.res.length cd e N fn h j (aK (qz (aK PR.j2 a)) b) (aK BH b) (dU a) (yJ 0 a++uS 0 a) Q)
section
variable {U:Uni}{P:Program}{tbl:Tb U}{may:List Nat}{k0:Nat}
variable {w0:World}{X0 X:Nat->Nat->Prop}{w:World}{fr:Fr}{st:St U}{n:Nat}{N:List Nat}
theorem Me {a:Act}{l:List Oper}{c t x y:Nat}(h:Fx c l=some (t,x,y)):∃e j,l= [e,j]/\e.guard=none/\e.dst=some t/\j.guard=none/\j.dst=none/\(∀w,(Oper.semAt none a.eval e).run P w=.ok (.value (.func (.func c) #[] #[a.eval (.tmp x),a.eval (.tmp y)])) w)/\
 ∀(b:Act)(w:World),b.eval (.tmp t)=.func (.func c) #[] #[a.eval (.tmp x),a.eval (.tmp y)]->(Oper.semAt none b.eval j).run P w=.ok (.defer ⟨.fn (.func c) #[a.eval (.tmp x),a.eval (.tmp y)],#[]⟩) w:=by
 unfold Fx at h;split at h
 ·rename_i t1 f o p ty pos I t2 cs J K L M;split at h
  ·rename_i q u v k;injection h with h
   injection h with z h
   injection h with A B
   subst z;subst A;subst B;rw[Bool.and_eq_true]at k;have e1:=Nat.eq_of_beq_eq_true k.1;have C:=Nat.eq_of_beq_eq_true k.2;subst e1;subst C;have F:o= #[]:=Array.ext' q;have G:p= #[.tmp _,.tmp _]:=Array.ext' u;have H:cs= #[]:=Array.ext' v;subst F;subst G;subst H;refine⟨_,_,rfl,rfl,rfl,rfl,rfl,λw=>?_,λb w hb=>?_⟩
   ·simp[Oper.semAt,execOp,Instr.makeFunc]
   ·simp[Oper.semAt,execOp,resolve,hb,Deferred.ofValue]
  ·cases h
 ·cases h
theorem OQ {ops:Array Oper}{id b t x y:Nat}{a:Act}{Q:Exit->Act->World->Prop}(h:Fx b ops.toList=some (t,x,y))(k:t<a.tmps.size)(l:Q .normal {a.put (some t) (.func (.func b) #[] #[a.eval (.tmp x),a.eval (.tmp y)])with defers:=⟨.fn (.func b) #[a.eval (.tmp x),a.eval (.tmp y)],#[]⟩::a.defers} w):(Code.region id ops false).wpIn (WF none) 0 P Q a w:=by
 obtain⟨c,e,j,o,hd1,p,q,u,v⟩:=Me (P:=P) (a:=a) h;have j:ops= #[c,e]:=Array.ext' j;subst j;refine wpIn_region_list ?_;simp only[wpListIn];rw[if_pos (by unfold Region.wanted;rw[o])];refine⟨λ_ _=>trivial,?_⟩;show c.uponIn (WF none) 0 P a _ _ ((Oper.semAt none a.eval c).run P w);rw[u w,Oper.uponIn_value,hd1];rw[if_pos (by unfold Region.wanted;rw[p])];refine⟨λ_ _=>trivial,?_⟩;have z:(a.put (some t) (.func (.func b) #[] #[a.eval (.tmp x),a.eval (.tmp y)])).eval (.tmp t)=.func (.func b) #[] #[a.eval (.tmp x),a.eval (.tmp y)]:=getD_put_eq a t _ k;show e.uponIn (WF none) 0 P _ _ _ ((Oper.semAt none (a.put (some t) (.func (.func b) #[] #[a.eval (.tmp x),a.eval (.tmp y)])).eval e).run P w);rw[v _ w z,Oper.uponIn_defer,q];exact l
theorem Jz {fn:Func}{z:List Nat}{Q:Ou U->Prop}{q:List (Res U)}{aW:List Nat}{kn0:List (Key×Kn)}{a':Act}{o:World}{st':St U}{H:Nat->Nat->Prop}{a:FuncId}{cd:Ctr U}{x y:Nat}{b l:Value}{e:Exit}(I:bE P a=true)(J:LVg U (RDf P a) cd)(K:q.length=k0)(L:∀i,i∈aW->i<k0)(O:Rep n fr a')(hs:Steps w k0 X aW ⟨q,kn0,[]⟩ X st' H o)(A:aG st'.rs fr st'.kn)
 (hd:a'.defers= [⟨.fn (.func a) #[b,l],#[]⟩])(h:OK U P aW k0 cd a x y b l z Q fn e fr st'):bodyPostM (WF none) 0 P fn (aR q aW X w Q) e a' o:=by
 have hinv:(invoke (.fn (.func a) #[b,l]) #[]).run P o=.ok (.enter a #[b,l]) o:=by
  have:=dL (P:=P) (C:= [a]) (f:=a) (by simp[eO,I]) (by simp) (#[]++ #[b,l]) o;simpa[invoke]using this
 have go:(lk fr.g x fr.e=b/\lk fr.g y fr.e=l/\call2 U (iy [(a,cd)]) aW k0 a [b,l] [cP (.s x) st'.kn,cP (.s y) st'.kn] st' λ_ k S=>match k with
  |some .pan=>False
  |_=>oQ U P k0 aW z Q fn fr S)->LeavesInM (WF none) 0 P fn a'.tmps (aR q aW X w Q) a'.defers .returning o:=by
  rintro⟨e1,T,V⟩;have W:=xQ (R:=RDf P a) (λh k=>h.mono k) (λc h=>by
   have h:wx [(a,cd)] a=some c:=h;simp[wx]at h;rw[<-h];exact J) hs.inv A (λj v k p u=>by
   match j with
   | 0=>
    simp only[nth,Option.some.injEq]at p u;subst p;subst u;rw[<-e1];exact A.kf (.tmp x)
   | 1=>
    simp only[nth,Option.some.injEq]at p u;subst p;subst u;rw[<-T];exact A.kf (.tmp y)
   |j+2=>simp[nth]at p) V
  rw[hd];refine⟨by simp,.inr ⟨λh=>(by cases h),_,_,a,_,rfl,hinv,λ_ _=>trivial,CallsDIn.mono W λe Z w2 h=>?_⟩⟩;obtain⟨hu,v,k,Y,X2,M,he,B,_,F⟩:=h;subst hu;have G:oQ U P k0 aW z Q fn fr Y/\e=.returned v:=by
   cases k with
   |none=>exact⟨B,he⟩
   |some k=>cases k<;>first|exact B.elim|exact⟨B,he⟩
  rw[G.2];exact lO K L O (hs.trans F.steps) F.kn G.1
 unfold OK at h;split at h
 ·exact go h
 ·exact go h
 ·exact h.elim
theorem HM {f:Nat}{fn:Func}{C:An}{J:List Nat}{c cd:Ctr U}{o:FuncId}(Z:bE P o=true)(aa:LVg U (RDf P o) cd)(hf:P.funcs[f]? =some fn)(hm:P.follows .mixedOrders=true)(F:∀f c,tbl.c f=some c->LV U P f c/\bE P f=true)(Sy:gp (λi=>Nat.blt i c.res.length) c.aW=true)(h:VcE U P tbl cd o N fn C J c):LV U P f c:=by
 have SZ:∀i,i∈c.aW->i<c.res.length:=λi hi=>by simpa[Nat.blt_eq]using cx.1 Sy i hi
 refine yu (V:=λcode Q fr st=>Nu U P tbl c.aW c.res.length cd o N fn C J code Q fr st) hf ?_ (λargs ks rs kc Q h=>?_) h
 ·intro code Q Tg X w kn fr a UO hI TS S0 TR h;unfold Nu at h;split at h
  case h_2=>exact h.elim
  rename_i ca cb i0 ops cc;refine wpIn_seq (wpIn_mono (cK F hm _ _ _ _ _ X _ w TS hI S0 h) λe a1 w1 he=>?_);cases e
  case outgrown=>exact he.elim
  case normal=>
   obtain⟨XL,K,⟨V5,L,G,M,g3,u⟩,_⟩:=he;dsimp only at u;refine wpIn_seq (wpIn_mono (cK F hm _ _ _ _ _ L _ w1 K G.inv M u) λe j w2 he=>?_);cases e
   case outgrown=>exact he.elim
   case normal=>
    obtain⟨b,p,⟨q,O,k1,R,z,k4⟩,_⟩:=he;dsimp only at k4;split at k4
    case h_2=>exact k4.elim
    rename_i t x y ht;split at k4
    case h_2=>exact k4.elim
    rename_i RV;have z:b.ds= []:=z.trans (g3.trans TR);have S:t<j.tmps.size:=by rw[p.size];simpa[Nat.blt_eq]using RV
    have hx:j.eval (.tmp x)=lk b.g x b.e:=by rw[p.eval];rfl
    have hy:j.eval (.tmp y)=lk b.g y b.e:=by rw[p.eval];rfl
    refine wpIn_seq (OQ ht S ?_);rw[hx,hy,p.defers,z];generalize lk b.g x b.e=A at k4 ⊢;generalize lk b.g y b.e=B at k4 ⊢;generalize hv:Value.func (.func o) #[] #[A,B]=v at k4 ⊢;have T:∀i,i≠t->lk b.g i ((t,v)::b.e)=lk b.g i b.e:=λi hi=>by
     rw[lk];cases hb:Nat.beq i t
     ·rfl
     ·exact absurd (Nat.eq_of_beq_eq_true hb) hi
    have ab:Rep fn.ntmps ⟨(t,v)::b.e,b.g,[⟨.fn (.func o) #[A,B],#[]⟩]⟩ {j.put (some t) v with defers:= [⟨.fn (.func o) #[A,B],#[]⟩]}:=by
     refine⟨by show(j.tmps.setIfInBounds t v).size=_;rw[Array.size_setIfInBounds];exact p.size,λi=>?_,rfl⟩;by_cases hi:i=t
     ·subst hi;show(j.put (some i) v).tmps.getD i undef=lk b.g i ((i,v)::b.e);rw[getD_put_eq j i v S,lk,Nat.beq_refl]
     ·show(j.put (some t) v).tmps.getD i undef=lk b.g i ((t,v)::b.e);rw[mS j t v i hi,T i hi];exact p.get i
    have ae:aG q.rs ⟨(t,v)::b.e,b.g,[⟨.fn (.func o) #[A,B],#[]⟩]⟩ (dO (ntS t) q.kn):=λkey k hm=>by
     obtain⟨h1,W⟩:=dK hm;have H:=R key k h1;cases key with
     | s i=>
      have hi:i≠t:=by rintro rfl;unfold ntS at W;simp at W
      show jD q.rs (lk b.g i ((t,v)::b.e)) k;rw[T i hi];exact H
     |c id off=>exact H
     |l id path=>exact H
    refine wpIn_mono (cK F hm cc C.r _ _ ⟨q.rs,dO (ntS t) q.kn,q.md⟩ O _ w2 ab k1.inv ae k4) λe a3 w3 he=>?_;cases e
    case outgrown=>exact he.elim
    all_goals
     obtain⟨af,Y,⟨ah,X4,l1,l2,l3,l4⟩,_⟩:=he;exact Jz Z aa UO SZ Y ((G.trans k1).trans ⟨l1.inv,l1.len,l1.md,l1.root⟩) l2 (Y.defers.trans l3) l4
   all_goals
    obtain⟨b,p,⟨q,O,k1,R,z,k4⟩,_⟩:=he;exact k4.elim
  all_goals
   obtain⟨XL,K,⟨V5,L,G,M,g3,u⟩,_⟩:=he;exact u.elim
 ·unfold Pt at h;split at h
  case h_2=>exact h.elim
  rename_i code hb I;simp only[Bool.and_eq_true]at I;exact⟨code,hb,I.1,I.2,h⟩
theorem K6 {f:Nat}{fn:Func}{b:An}{e:List Nat}{c cd:Ctr U}{tb:List (Nat×Ctr U)}{sh:Sh}{al:List (Nat×List PK×List PK)}{a:FuncId}(j:bE P a=true)(k:LVg U (RDf P a) cd)(l:P.funcs[f]? =some fn)(hm:P.follows .mixedOrders=true)(o:oG U P tb)(hb:(gp (λp=>bE P p.1) tb && gp (λi=>Nat.blt i c.res.length) c.aW)=true)(h:VcE U P ⟨wx tb,sh,al⟩ cd a N fn b e c):LV U P f c:=by
 rw[Bool.and_eq_true]at hb;exact HM j k l hm (λf c q=>kJ q o hb.1) hb.2 h
end
end
end V
def Fl.l15(f:Fl):List Int:= [(f.rs.getD 0 (uM 0)).v,(f.rs.getD 1 (uM 0)).v,(f.rs.getD 2 (uM 0)).v,(f.rs.getD 3 (uM 0)).v,(f.rs.getD 4 (uM 0)).v,(f.rs.getD 5 (uM 0)).v,(f.rs.getD 6 (uM 0)).v,(f.rs.getD 7 (uM 0)).v,(f.rs.getD 8 (uM 0)).v,(f.rs.getD 9 (uM 0)).v,(f.rs.getD 10 (uM 0)).v,(f.rs.getD 11 (uM 0)).v,(f.rs.getD 12 (uM 0)).v,(f.rs.getD 13 (uM 0)).v,(f.rs.getD 14 (uM 0)).v]
def Fl.pack(f:Fl):List Int:=f.l15++ [f.pc,File.flags f]
abbrev Fl.IB(f:Fl):Array Value:= #[.int .u32 (f.rs.getD 0 (uM 0)).v,.int .u32 (f.rs.getD 1 (uM 0)).v,.int .u32 (f.rs.getD 2 (uM 0)).v,.int .u32 (f.rs.getD 3 (uM 0)).v,.int .u32 (f.rs.getD 4 (uM 0)).v,.int .u32 (f.rs.getD 5 (uM 0)).v,.int .u32 (f.rs.getD 6 (uM 0)).v,.int .u32 (f.rs.getD 7 (uM 0)).v,.int .u32 (f.rs.getD 8 (uM 0)).v,.int .u32 (f.rs.getD 9 (uM 0)).v,.int .u32 (f.rs.getD 10 (uM 0)).v,.int .u32 (f.rs.getD 11 (uM 0)).v,.int .u32 (f.rs.getD 12 (uM 0)).v,.int .u32 (f.rs.getD 13 (uM 0)).v,.int .u32 (f.rs.getD 14 (uM 0)).v,.int .u32 f.pc,.int .u32 (File.flags f)]
theorem O0(w:World)(f:Fl):Calls prog 89 #[.agg f.arr] w λe a=>e=.returned (O (File.flags f))/\Pu w a:=by
 refine(Cg f (λout=>out=⟨.int .u32 (File.flags f),none,[],[],[]⟩) rfl (λ_ _=>False) w NN kn0).mono ?_;rintro e a ⟨out,rs',c,he,rfl,h,hp⟩;exact⟨he,hp.ch.mono λk ⟨j,b,e⟩=>by cases b⟩
theorem Qc(w:World)(f:Fl):Calls prog 82 #[.agg f.arr] w λe M=>∃v,e=.returned v/\v=.agg f.IB/\Pu w M:=by
 refine Ce _ _ _ _ _ _ _ _ _ _ _ _ _ _ _ _ _ _ _ ?_;refine mkd λg w1 m1=>mkd λA w2 m2=>mkd λq I y=>⟨λ_ _=>True,?_⟩;intro Q R S T V W Y gA yN gN yC gC;obtain rfl:Q=some (vA q):=R;obtain rfl:S=17:=T;obtain rfl:V=17:=W;obtain rfl:Y=some (vA g):=gA;obtain rfl:yN=15:=gN;obtain rfl:yC=15:=gC;have q3:Pu w I:=(m1.pu.trans m2.pu).trans y.pu;have J:=(y.old (m2.old m1.blk)).drew;have b1:=(y.old m2.blk).drew;have b2:=y.blk.drew;have B:A≠q:=y.ne m2.blk;have n2:g≠q:=y.ne (m2.old m1.blk);have l1:w.heap.size<=A:=m2.lo m1.pu;have l2:w.heap.size<=q:=y.lo (m1.pu.trans m2.pu);have hI:dz I.drew (λk=>k=g) .u32 (pvA g) 15 15 f.l15:=dz.blk (Z:=λk=>k=g) (n:=15) (c:=15) (l:=f.l15) J rfl (m:=0) (Nat.le_refl _) rfl λj x K=>by
  have RV:j<(f.l15.map (Value.int .u32)).length:=by rw[List.length_map];exact(List.getElem?_eq_some_iff.1 K).1
  have e:∀l:List Value,(⟨l⟩:Array Value)[0+j]? =l[j]? :=λl=>by simp
  refine(e (f.l15.map (Value.int .u32)++ [.int .u32 f.pc,.bool f.z,.bool f.n,.bool f.l])).trans ?_;rw[List.getElem?_append_left RV,List.getElem?_map,K];rfl
 have hS:S1 prog 22 23 (O 0) 4:=S1.of (by kernel_rfl) (by kernel_rfl) rfl;refine nN hS b2 (o:=0) (dn:=17) (dc:=17) hI (by decide) λu z=>?_;have c2:Blk u q ⟨f.l15.map (Value.int .u32)++ [.int .u32 0,.int .u32 0]⟩ _:=z.blk.cast (kL (pre:= []) (mid:=List.replicate 15 (O 0)) (post:= [.int .u32 0,.int .u32 0]) (vs:=f.l15.map (Value.int .u32)) rfl rfl).symm;have a:=z.old J n2;have c1:=z.old b1 B;have q4:Pu w u:=q3.drew.stored z (.inr l2);refine⟨λ_ _=>True,λ_ _ _=>trivial,λi k=>k<u.heap.size,a.lt,_,a.drew.at rfl,a.lt,?_⟩;refine⟨_,_,_,_,_,_,_,_,_,_,_,_,_,_,_,_,_,_,_,⟨a.drew.at rfl,a.drew.at rfl,a.drew.at rfl,a.drew.at rfl,a.drew.at rfl,a.drew.at rfl,a.drew.at rfl,a.drew.at rfl,a.drew.at rfl,a.drew.at rfl,a.drew.at rfl,a.drew.at rfl,a.drew.at rfl,a.drew.at rfl,a.drew.at rfl,a.drew.at rfl,a.drew.at rfl,a.drew.at rfl,a.drew.at rfl⟩,?_⟩;refine(O0 u.drew f).mono ?_;rintro e w5 ⟨rfl,L⟩;have C:Pu u w5:=(Pu.aU u).trans L;refine⟨_,rfl,qy (w:=u.drew) (b:=λi k=>k<u.heap.size) L (λ_ _ e=>e),λ_ _=>True,λ_ _ _=>trivial,⟨by decide,by decide⟩,?_⟩;have d1:=C.blk c1;refine bB (i:=Int.toNat 15*1) (C.blk c2) (show 15+1<=17 by decide) λw6 F=>?_;have c6:Blk w6 q ⟨f.l15.map (Value.int .u32)++ [.int .u32 f.pc,.int .u32 0]⟩ _:=F.blk.cast (kL (pre:=f.l15.map (Value.int .u32)) (mid:= [.int .u32 0]) (post:= [.int .u32 0]) (vs:= [.int .u32 f.pc]) rfl rfl).symm;refine⟨λ_ _=>True,λ_ _ _=>trivial,⟨by decide,by decide⟩,?_⟩;refine bB (i:=Int.toNat 16*1) c6 (show 16+1<=17 by decide) λG H=>?_;have c7:Blk G q ⟨(f.l15.map (Value.int .u32)++ [.int .u32 f.pc])++ [.int .u32 (File.flags f)]⟩ _:=H.blk.cast (kL (pre:=f.l15.map (Value.int .u32)++ [.int .u32 f.pc]) (mid:= [.int .u32 0]) (post:= []) (vs:= [.int .u32 (File.flags f)]) rfl rfl).symm;refine⟨λ_ _=>True,λ_ _ _=>trivial,?_⟩;have h:Blk G q f.IB _:=c7;have e1:=H.old (F.old d1 B) B;have q7:Pu w G:=((q4.trans C).stored F (.inr l2)).stored H (.inr l2);refine⟨_,_,_,_,_,_,_,_,_,_,_,_,_,_,_,_,_,⟨h.at rfl,h.at rfl,h.at rfl,h.at rfl,h.at rfl,h.at rfl,h.at rfl,h.at rfl,h.at rfl,h.at rfl,h.at rfl,h.at rfl,h.at rfl,h.at rfl,h.at rfl,h.at rfl,h.at rfl⟩,?_⟩;refine di e1 rfl λw8 s8=>?_;have p:Blk w8 A f.IB _:=s8.blk;exact⟨_,_,_,_,_,_,_,_,_,_,_,_,_,_,_,_,_,⟨p.at rfl,p.at rfl,p.at rfl,p.at rfl,p.at rfl,p.at rfl,p.at rfl,p.at rfl,p.at rfl,p.at rfl,p.at rfl,p.at rfl,p.at rfl,p.at rfl,p.at rfl,p.at rfl,p.at rfl⟩,rfl,q7.stored s8 (.inr l1)⟩
def svW(c:Int)(f:Fl):List Int:=if c=9 then f.pack else List.replicate 17 0
theorem pK(c:Int)(f:Fl):(svW c f).length=17:=by unfold svW;split<;>rfl
theorem IX(l:List Int)(i:Nat):((l.map uM).getD i (uM 0)).v=l.getD i 0:=by
 rw[List.getD_eq_getElem?_getD,List.getD_eq_getElem?_getD,List.getElem?_map];cases l[i]? <;>rfl
theorem GS {s:List U32}{l:List Int}(h:s=l.map uM){i:Nat}(hi:i<17):(#[.int .u32 (vG s 0),.int .u32 (vG s 1),.int .u32 (vG s 2),.int .u32 (vG s 3),.int .u32 (vG s 4),.int .u32 (vG s 5),.int .u32 (vG s 6),.int .u32 (vG s 7),.int .u32 (vG s 8),.int .u32 (vG s 9),.int .u32 (vG s 10),.int .u32 (vG s 11),.int .u32 (vG s 12),.int .u32 (vG s 13),.int .u32 (vG s 14),.int .u32 (vG s 15),.int .u32 (vG s 16)]:Array Value)[i*1]? =some (O (l.getD i 0)):=by
 have e:∀k:List Value,(⟨k⟩:Array Value)[i*1]? =k[i]? :=λk=>by simp
 refine(e (aK (λj=>Value.int .u32 (vG s j)) (upN 0 17))).trans ?_;rw[<-aM,bx];cases b:nth (upN 0 17) i with
 |none=>have a:=cj (l:=upN 0 17) (i:=i) (by rw[fT];exact hi);rw[b]at a;obtain⟨_,a⟩:=a;cases a
 | some j=>
  have c:j=i:=by have:=jv b;omega
  subst c;show some (O (s.getD j (uM 0)).v)=_;rw[h,IX]
theorem HD {m:Mem}{p:Int}{l:List Int}{i:Int}(hi:0<=i/\i<l.length)(h:l.length<=1000):m.wrs p 1 (l.take (i64.wrap (i+1)).toNat)=(m.wrs p 1 (l.take i.toNat)).write true p (i64.wrap (1+i)) (l.getD i.toNat 0):=by
 rw[ay (by omega),ay (by omega),show(i+1).toNat=i.toNat+1 by omega,jU (d:=0) (show i.toNat<l.length by omega),Mem.pA,List.length_take];congr 1;omega
theorem GG(f:Fl):0<=File.flags f/\File.flags f<4294967296:=by unfold File.flags;split;omega;split<;>split<;>omega
theorem EH {c:Int}{f:Fl}(h:f.Gd)(i:Nat):0<=(svW c f).getD i 0/\(svW c f).getD i 0<4294967296:=by
 have key:∀x∈svW c f,0<=x/\x<4294967296:=by
  intro x a;unfold svW at a;split at a
  ·unfold Fl.pack Fl.l15 at a;simp only[List.cons_append,List.nil_append,List.mem_cons,List.not_mem_nil,or_false]at a;rcases a with rfl|rfl|rfl|rfl|rfl|rfl|rfl|rfl|rfl|rfl|rfl|rfl|rfl|rfl|rfl|rfl|rfl
   all_goals first|exact h.rg _|exact h.pc|exact GG f
  ·rw[List.eq_of_mem_replicate a];omega
 rw[List.getD_eq_getElem?_getD];cases b:(svW c f)[i]? with
 |none=>exact⟨by decide,by decide⟩
 |some x=>exact key x (List.mem_of_getElem? b)
section
def K8.s8(k:K8):S8:=⟨k.a,k.b,k.c,k.d,k.e,k.f,k.g,k.h⟩
def cG(n:Int):Int:=if 1<=n/\n<=5 then 64 else 1
theorem iD(n:Int):1<=cG n/\cG n<=64:=by unfold cG;split<;>omega
structure Clr where
 done:Bool
 c:Int
 v:Int
 f:Fl
 left:Int
 D:DB
noncomputable def cw (kk:List Int)(key:S8)(ns:Nst)(D:DB)(t:Int)(f:Fl)(left n:Int):Clr:=
 if cG n>left+1 then⟨true,9,0,{f with pc:=u32.wrap (f.pc - 4)},left,D⟩
 else if D.cq t≠0 then⟨true,10,1,f,left+1 - cG n,D.svN t n f⟩
 else if D.dB t n=true then⟨true,0,D.fY t n f,f,left+1 - cG n,D.svN t n f⟩
 else⟨false,0,0,D.svF kk key ns t n f,left+1 - cG n,D.svN t n f⟩
section
variable {kk:List Int}{key:S8}{ns:Nst}{D:DB}{t left n:Int}{f:Fl}
theorem iF(h:cG n>left+1):cw kk key ns D t f left n=⟨true,9,0,{f with pc:=u32.wrap (f.pc - 4)},left,D⟩:=if_pos h
theorem xO(h:¬cG n>left+1)(a:¬D.cq t=0):cw kk key ns D t f left n=⟨true,10,1,f,left+1 - cG n,D.svN t n f⟩:=by unfold cw;rw[if_neg h,if_pos a]
theorem vg(h:¬cG n>left+1)(b:D.cq t=0)(a:D.dB t n=true):cw kk key ns D t f left n=⟨true,0,D.fY t n f,f,left+1 - cG n,D.svN t n f⟩:=by unfold cw;rw[if_neg h,if_neg (by omega),if_pos a]
theorem Br(h:¬cG n>left+1)(b:D.cq t=0)(a:D.dB t n=false):cw kk key ns D t f left n=⟨false,0,0,D.svF kk key ns t n f,left+1 - cG n,D.svN t n f⟩:=by unfold cw;rw[if_neg h,if_neg (by omega),if_neg (by rw[a];decide)]
end
structure Gr where
 c:Int
 v:Int
 f:Fl
 D:DB
noncomputable def goN (kk:List Int)(key:S8)(ns:Nst)(t tb:Int):Nat->DB->Fl->Int->Gr
 |0,D,f,_=>⟨9,0,f,D⟩
 | n+1,D,f,left=>
  let r:=runN tb left.toNat D.mem f
  if r.k=2 then⟨10,1,r.f,D.aT r.m⟩else if r.k=3 then⟨10,2,r.f,D.aT r.m⟩else if r.k=4 then⟨10,3,r.f,D.aT r.m⟩
  else if r.k=1 then(let c:=cw kk key ns (D.aT r.m) t r.f (left - r.n) r.a
   if c.done=true then⟨c.c,c.v,c.f,c.D⟩else goN kk key ns t tb n c.D c.f c.left)
  else⟨9,0,r.f,D.aT r.m⟩
noncomputable def goR (kk:List Int)(key:S8)(ns:Nst)(t tb:Int)(D:DB)(f:Fl)(left:Int):Gr:=goN kk key ns t tb (left.toNat+1) D f left
def Gr.save(g:Gr)(t:Int):DB:=(g.D.bH (λm=>m.wrs t 1 (svW g.c g.f))).aQ t (g.c==9)
namespace DB
def eD(d:DB)(t:Int)(b:Bool)(o:Int):Int:=if t>=(d.S:Int)then 1 else if(d.entry t).typ≠2 then 13 else if d.bo (d.entry t).owner≠0\/(d.entry (d.entry t).owner).state≠2 then 5 else if(d.entry t).bq≠b then o else 0
def bgT(d:DB)(t:Int):Int:=d.tbl (d.entry t).owner
end DB
end
section
namespace Mem
theorem iE(m:Mem)(s:Bool)(p o v:Int)(b:Bool):(m.write s p o v).cnt b=m.cnt b:=by unfold write;split<;>cases b<;>rfl
theorem JQ(m:Mem)(s:Bool)(p:Int)(b:Bool):(m.zero s p).cnt b=m.cnt b:=by unfold zero;split<;>cases b<;>rfl
theorem JS(m:Mem)(s:Bool)(p:Int)(s':Bool)(a:Int)(b:Bool):(m.copy s p s' a).cnt b=m.cnt b:=by unfold copy;split<;>cases b<;>rfl
theorem kg(p:Int)(b:Bool):∀(l:List Int)(m:Mem)(o:Int),(m.wrs p o l).cnt b=m.cnt b
 | [],_,_=>rfl
 |x::l,m,o=>by rw[wrs,kg p b l,iE]
theorem tA {m a:Mem}{b:Bool}(h:a.cnt b=m.cnt b)(p:Int):a.has b p=m.has b p:=by unfold has;rw[h]
theorem pX(m:Mem)(s s':Bool)(p o v q x:Int):(m.write s p o v).aI s' q x=if(s'=s/\q=p/\x=o)/\m.has s p=true/\eA o=true then v else m.aI s' q x:=by
 by_cases h:m.has s p && eA o
 ·have a:=dC (by simp at h;exact h.1:m.has s p=true);have l:=kQ (by simp at h;exact h.2:eA o=true);have hw:m.write s p o v=m.put s p.toNat o.toNat v:=by unfold write;rw[if_pos h];rfl
  rw[hw];have c:∀s' q,(m.put s p.toNat o.toNat v).has s' q=m.has s' q:=λs' q=>by unfold has;rw[Mh]
  unfold aI;rw[c];simp only[Bool.and_eq_true]at h;by_cases hq:m.has s' q && eA x
  ·rw[if_pos hq,if_pos hq];have u:=dC (by simp at hq;exact hq.1:m.has s' q=true);have y:=kQ (by simp at hq;exact hq.2:eA x=true);show(if s'=s/\q.toNat=p.toNat then(if x.toNat=o.toNat then v else m.pg s p.toNat x.toNat)else m.pg s' q.toNat x.toNat)=_;by_cases e:s'=s/\q=p
   ·obtain⟨rfl,rfl⟩:=e;by_cases b:x=o
    ·subst b;simp[h]
    ·rw[if_pos ⟨rfl,rfl⟩,if_neg (by omega),if_neg (λa=>b a.1.2.2)]
   ·rw[if_neg (λa=>e ⟨a.1,by omega⟩),if_neg (λa=>e ⟨a.1.1,a.1.2.1⟩)]
  ·rw[if_neg hq,if_neg hq];rw[if_neg];rintro⟨⟨rfl,rfl,rfl⟩,j,k⟩;exact hq (by simp[j,k])
 ·rw[if_neg (λa=>h (by simp[a.2]))];unfold write;rw[if_neg h]
theorem CQ(m:Mem){s s':Bool}{p o v q x:Int}(h:¬(s'=s/\q=p/\x=o)):(m.write s p o v).aI s' q x=m.aI s' q x:=by rw[pX,if_neg (λa=>h a.1)]
theorem EW(m:Mem){s s':Bool}{p q x:Int}(g:Nat->Int)(hp:m.has s p=true):(m.fill s p.toNat g).aI s' q x=if s'=s/\q=p then(if eA x then g x.toNat else 0)else m.aI s' q x:=by
 have c:=dC hp;unfold aI;rw[show(m.fill s p.toNat g).has s' q=m.has s' q by unfold has;rw[JR]];by_cases e:s'=s/\q=p
 ·obtain⟨rfl,rfl⟩:=e;rw[hp,Bool.true_and,if_pos (show s'=s'/\q=q from⟨rfl,rfl⟩)];by_cases a:eA x=true
  ·rw[if_pos a,if_pos a];show(if s'=s'/\q.toNat=q.toNat then g x.toNat else m.pg s' q.toNat x.toNat)=_;exact if_pos ⟨rfl,rfl⟩
  ·rw[if_neg a,if_neg a]
 ·rw[if_neg e];by_cases hq:(m.has s' q && eA x)=true
  ·rw[if_pos hq,if_pos hq];have h:=dC (by simp at hq;exact hq.1:m.has s' q=true);exact if_neg λb=>e ⟨b.1,by omega⟩
  ·rw[if_neg hq,if_neg hq]
theorem Lp(m:Mem)(s s':Bool)(p q x:Int):(m.zero s p).aI s' q x=if s'=s/\q=p then 0 else m.aI s' q x:=by
 by_cases h:m.has s p=true
 ·rw[show m.zero s p=m.fill s p.toNat λ_=>0 by unfold zero;rw[if_pos h];rfl,EW _ _ h];split
  ·split<;>rfl
  ·rfl
 ·rw[show m.zero s p=m by unfold zero;rw[if_neg h]];split
  ·rename_i e;obtain⟨rfl,rfl⟩:=e;unfold aI;rw[if_neg (by simp[h])]
  ·rfl
theorem yL(m:Mem){s s' b:Bool}{p a q x:Int}(h:m.has s p=true)(c:m.has s' a=true):(m.copy s p s' a).aI b q x=if b=s/\q=p then m.aI s' a x else m.aI b q x:=by
 rw[show m.copy s p s' a=m.fill s p.toNat (m.pg s' a.toNat)by unfold copy;rw[if_pos (by simp[h,c])];rfl,EW _ _ h];congr 1;unfold aI;rw[c];rfl
theorem mI {p:Int}{b:Bool}{q x:Int}:∀(l:List Int)(m:Mem)(o:Int),¬(b=true/\q=p/\o<=x/\x<o+l.length)->(m.wrs p o l).aI b q x=m.aI b q x
 | [],_,_,_=>rfl
 | y::l,m,o,h=>by
  simp only[List.length_cons]at h;rw[wrs,mI l _ (o+1) (λa=>h ⟨a.1,a.2.1,by omega,by omega⟩),CQ];rintro⟨c,e,j⟩;exact h ⟨c,e,by omega,by omega⟩
theorem nG {p:Int}:∀(l:List Int)(m:Mem)(o:Int),m.has true p=true->0<=o->o+l.length<=1024->∀x,(m.wrs p o l).aI true p x=if o<=x/\x<o+l.length then l.getD (x - o).toNat 0 else m.aI true p x
 | [],m,o,_,_,_,x=>by
  rw[if_neg (by simp only[List.length_nil];omega)];rfl
 | y::l,m,o,hp,h,b,x=>by
  simp only[List.length_cons]at b ⊢;rw[wrs,nG l (m.write true p o y) (o+1) (by rw[tA (iE ..)];exact hp) (by omega) (by omega),pX];by_cases e:x=o
  ·subst e;rw[if_neg (by omega),if_pos ⟨⟨rfl,rfl,rfl⟩,hp,by simp[eA];omega⟩,if_pos (by omega),show(x - x).toNat=0 by omega];rfl
  ·by_cases a:o+1<=x/\x<o+1+l.length
   ·rw[if_pos a,if_pos (by omega),show(x - o).toNat=(x - (o+1)).toNat+1 by omega];rfl
   ·rw[if_neg a,if_neg (λc=>e c.1.2.2),if_neg (by omega)]
theorem dg_eq {m a:Mem}{s:Int}(h:∀x,11<=x->x<37->a.aI true s x=m.aI true s x):a.dgW s=m.dgW s:=by
 unfold dgW;refine List.map_congr_left λi hi=>?_;have:=List.mem_range.1 hi;rw[h _ (by omega) (by omega)]
theorem K0 {m:Mem}{s s':Bool}{p c:Int}(h:m.Wf):(m.copy s p s' c).Wf:=by
 unfold copy;split
 ·refine⟨λb i a=>?_,h.2⟩;show 0<=(if b=s/\i=p.toNat then m.pg s' c.toNat a else m.pg b i a)/\(if b=s/\i=p.toNat then m.pg s' c.toNat a else m.pg b i a)<4294967296;split<;>exact h.1 _ _ _
 ·exact h
theorem KZ {m:Mem}{s:Bool}{p:Int}(h:m.Wf):(m.zero s p).Wf:=by
 unfold zero;split
 ·refine⟨λb i a=>?_,h.2⟩;show 0<=(if b=s/\i=p.toNat then 0 else m.pg b i a)/\(if b=s/\i=p.toNat then 0 else m.pg b i a)<4294967296;split
  ·omega
  ·exact h.1 _ _ _
 ·exact h
theorem tS {m:Mem}{s:Bool}{p o v:Int}(h:m.Wf)(b:0<=v/\v<4294967296):(m.write s p o v).Wf:=by
 unfold write;split
 ·refine⟨λs' i a=>?_,h.2⟩;show 0<=(if s'=s/\i=p.toNat then(if a=o.toNat then v else m.pg s p.toNat a)else m.pg s' i a)/\(if s'=s/\i=p.toNat then(if a=o.toNat then v else m.pg s p.toNat a)else m.pg s' i a)<4294967296;split
  ·split
   ·exact b
   ·exact h.1 _ _ _
  ·exact h.1 _ _ _
 ·exact h
theorem qQ {p:Int}:∀(l:List Int)(m:Mem)(o:Int),m.Wf->(∀x∈l,0<=x/\x<4294967296)->(m.wrs p o l).Wf
 | [],_,_,h,_=>h
 |x::l,m,o,h,a=>qQ l _ _ (tS h (a x (by simp))) λy b=>a y (by simp[b])
theorem LC {kk:List Int}{m:Mem}{s k a:Int}{l:List U32}(hw:m.Wf)(h:Dg.aL (m.dgW s)=0)(hp:m.has true s=true)(b:0<=a/\a<4294967296)(c:k=1\/k=2\/k=3\/k=4)(j:dy l):
 ∃ws:List Int,ws.length=26/\m.msd kk s k a l=m.wrs s 11 ws/\(∀x∈ws,0<=x/\x<4294967296)/\Dg.aL ((m.msd kk s k a l).dgW s)=0:=by
 have F:=Dg.vq (K:=kk) (l:=opW k a l) (Dg.eX (kd hw s) h) (CY b c j);refine⟨_,Dg.kM F.1,by unfold msd;rw[if_pos h],Dg.oM F.1,?_⟩;have e:(m.msd kk s k a l).dgW s=((Dg.load (m.dgW s)).add kk (opW k a l)).save.map uM:=by
  unfold msd;rw[if_pos h];have o:=Dg.kM F.1;generalize ((Dg.load (m.dgW s)).add kk (opW k a l)).save=ws at o ⊢;unfold dgW;apply List.ext_getElem?;intro i;by_cases hi:i<26
  ·rw[List.getElem?_map,List.getElem?_range hi,List.getElem?_map];show some (uM ((m.wrs s 11 _).aI true s (11+(i:Int))))=_;rw[nG _ m 11 hp (by omega) (by omega),if_pos (by omega),show(11+(i:Int) - 11).toNat=i by omega,List.getD_eq_getElem?_getD,List.getElem?_eq_getElem (by omega)];rfl
  ·rw[List.getElem?_eq_none (by simp;omega),List.getElem?_eq_none (by simp;omega)]
 rw[e];exact(Dg.xp F).1
def fil(m:Mem)(p:Int)(l:List U32)(n:Nat):Mem:=(List.range n).foldl (fun(m:Mem)(i:Nat)=>m.write false p (i:Int) (l.getD i (uM 0)).v) (m.zero false p)
theorem qk(m:Mem)(p:Int)(l:List U32)(n:Nat):m.fil p l (n+1)=(m.fil p l n).write false p n (l.getD n (uM 0)).v:=by
 unfold fil;rw[List.range_succ,List.foldl_append];rfl
theorem gB(m:Mem)(p:Int)(l:List U32)(b:Bool):∀n,(m.fil p l n).cnt b=m.cnt b
 |0=>JQ ..
 |n+1=>by rw[qk,iE,gB m p l b n]
theorem HH {m:Mem}{p:Int}{l:List U32}(h:m.Wf)(a:dy l):∀n,(m.fil p l n).Wf
 |0=>KZ h
 | n+1=>by
  rw[qk];refine tS (HH h a n) ?_;rw[List.getD_eq_getElem?_getD];cases e:l[n]? with
  |none=>exact⟨by decide,by decide⟩
  |some y=>exact a y (List.mem_of_getElem? e)
theorem yK(m:Mem)(p:Int)(l:List U32)(hp:m.has false p=true)(b:Bool)(q x:Int):∀n,n<=1024->(m.fil p l n).aI b q x=if b=false/\q=p then(if 0<=x/\x<n then(l.getD x.toNat (uM 0)).v else 0)else m.aI b q x
 | 0,_=>by
  show(m.zero false p).aI b q x=_;rw[Lp];split
  ·rw[if_neg (by omega)]
  ·rfl
 | n+1,j=>by
  rw[qk,pX,yK m p l hp b q x n (by omega)];by_cases e:b=false/\q=p
  ·obtain⟨rfl,rfl⟩:=e;simp only[true_and,and_self,if_true];by_cases c:x=n
   ·subst c;rw[if_pos ⟨rfl,by rw[tA (gB ..)];exact hp,by simp[eA];omega⟩,if_pos (by omega),Int.toNat_natCast]
   ·rw[if_neg (λa=>c a.1)];by_cases h:0<=x/\x<n
    ·rw[if_pos h,if_pos (by omega)]
    ·rw[if_neg h,if_neg (by omega)]
  ·rw[if_neg e,if_neg e,if_neg (λa=>e ⟨a.1.1,a.1.2.1⟩)]
end Mem
def uE(E:Int->Ent)(p:Int)(x:Ent)(q:Int):Ent:=if q=p then x else E q
def Ent.up(e:Ent):Ent:= {e with refs:=e.refs+1}
def Ent.fin(e:Ent):Ent:= {e with state:=2}
def uW(f:Int->Int->Int)(p o v q x:Int):Int:=if q=p/\x=o then v else f q x
def uP(f:Int->Int->Int)(p:Int)(h:Int->Int)(q x:Int):Int:=if q=p then h x else f q x
namespace DB
structure Bd(d:DB)(n:Int)(E:Int->Ent)(f g:Int->Int->Int):Prop where
 S:d.mem.S=14
 I:d.mem.I=4
 wf:d.mem.Wf
 b:d.bn=n
 e:∀p,0<=p->p<14->d.at_ p=E p
 w:∀p o,0<=p->p<14->0<=o->o<1024->(p=0\/p=10->o<3)->d.mem.aI true p o=f p o
 x:∀p o,0<=p->p<4->0<=o->o<1024->d.mem.aI false p o=g p o
 dg:∀s,s=0\/s=10->(E s).typ=1->(E s).state=1->Dg.aL (d.mem.dgW s)=0
section
variable {d:DB}{n:Int}{E:Int->Ent}{f g:Int->Int->Int}
theorem Bd.hs(h:Bd d n E f g)(p:Int):d.has p=decide (0<=p/\p<14):=by unfold DB.has DB.S;rw[h.S];rfl
theorem Bd.hS(h:Bd d n E f g)(p:Int):d.mem.has true p=decide (0<=p/\p<14):=h.hs p
theorem Bd.hI(h:Bd d n E f g)(p:Int):d.mem.has false p=decide (0<=p/\p<4):=by unfold Mem.has Mem.cnt;rw[h.I];rfl
theorem Bd.hp(h:Bd d n E f g){p:Int}(hp:0<=p/\p<14):d.has p=true:=by rw[h.hs];simpa using hp
theorem Bd.pgE(h:Bd d n E f g){p:Int}(hp:0<=p/\p<14):d.cW p=0:=by unfold cW;rw[h.hp hp];rfl
theorem Bd.usE(h:Bd d n E f g){p:Int}(hp:0<=p/\p<14)(hE:(E p).typ=0):d.dE p=0:=by unfold dE entry;rw[h.hp hp,if_pos rfl,h.e p hp.1 hp.2,if_pos hE]
theorem Bd.bdE(h:Bd d n E f g){s:Int}(hp:0<=s/\s<14)(a:(E s).typ=1)(b:(E s).state=1):d.gl s=0:=by unfold gl;rw[h.hp hp,h.e s hp.1 hp.2,a,b];rfl
theorem Bd.of'(h:Bd d n E f g){p t o:Int}(hp:0<=p/\p<14)(a:(E p).typ=t)(b:(E p).owner=o):d.of p t o=true:=by unfold of is;rw[h.hp hp,h.e p hp.1 hp.2,a,b];simp
structure Tab(E:Int->Ent)(f:Int->Int->Int)(sp fp:Int):Prop where
 s:sp=0\/sp=10
 t:0<=fp/\fp<14/\fp≠0/\fp≠10
 a:(E sp).typ=1
 b:(E sp).state=1
 w:f sp 0=fp
 c:(E fp).typ=3
 d:(E fp).owner=sp
theorem Tab.rs {s t:Int}(T:Tab E f s t):0<=s/\s<14:=by have:=T.s;omega
theorem Bd.tb(h:Bd d n E f g){s t:Int}(T:Tab E f s t):d.fu s=0/\d.tbl s=t:=by
 have hw:d.word s 0=t:=(h.w s 0 T.rs.1 T.rs.2 (by omega) (by omega) (λ_=>by omega)).trans T.w;have e:d.fu s=0:=by
  unfold fu;rw[h.hp T.rs,h.e s T.rs.1 T.rs.2,T.a,T.b,hw,h.of' ⟨T.t.1,T.t.2.1⟩ T.c T.d];rfl
 exact⟨e,by unfold tbl;rw[if_pos e,hw]⟩
theorem Bd.MQ(h:Bd d n E f g){p k s:Int}(hp:0<=p/\p<14)(hs:0<=s/\s<14)(a:k=2\/turns k=true)(b:(E s).typ=1)(l:(E s).refs<63)(c:(E p).typ=0):d.cX p k s=0:=by
 have j:(k !=2 && !turns k)=false:=a.elim (λe=>by rw[e];rfl) (λe=>by rw[e];simp);unfold cX ka;rw[h.hp hp,h.hp hs,h.e s hs.1 hs.2,h.e p hp.1 hp.2,b,c,j];simp;omega
theorem Bd.take(h:Bd d n E f g){p k s:Int}(hp:0<=p/\p<14)(hs:0<=s/\s<14)(e:k=2\/turns k=true)(u:(E s).typ=1)(v:(E s).refs<63)(y:(E p).typ=0):Bd (d.take p k s) n (uE (uE E p ⟨k,s,0,0,false⟩) s (E s).up) f g:=by
 have he:=h.MQ hp hs e u v y;have z:s≠p:=by rintro rfl;omega
 have A:k≠1:=by rintro rfl;rcases e with h|h;omega;exact absurd h (by decide)
 rw[DB.take,if_pos he];refine⟨h.S,h.I,h.wf,h.b,λq a b=>?_,h.w,h.x,λx j e1 c=>?_⟩
 ·unfold iA more;rw[na hs.1 a,na hp.1 hs.1,na hp.1 a,if_neg z,h.e s hs.1 hs.2,h.e q a b];rfl
 ·unfold uE at e1 c;by_cases l:x=s
  ·subst l;rw[if_pos rfl]at e1 c;exact h.dg x j e1 c
  ·rw[if_neg l]at e1 c;by_cases o:x=p
   ·rw[if_pos o]at e1;exact absurd e1 A
   ·rw[if_neg o]at e1 c;exact h.dg x j e1 c
theorem Bd.write(h:Bd d n E f g){p o v:Int}(hp:0<=p/\p<14)(l:0<=o/\o<1024)(hq:p=0\/p=10->o<3)(u:0<=v/\v<4294967296):Bd (d.bH (λm=>m.write true p o v)) n E (uW f p o v) g:=by
 refine⟨(Mem.dD ..).trans h.S,(Mem.iE d.mem true p o v false).trans h.I,Mem.tS h.wf u,h.b,h.e,λq y a b c e k=>?_,λq y a b c e=>?_,λs hs e1 z=>?_⟩
 ·show(d.mem.write true p o v).aI true q y=_;rw[Mem.pX,uW];by_cases e1:q=p/\y=o
  ·rw[if_pos ⟨⟨rfl,e1⟩,by rw[h.hS];simpa using hp,by simpa[Mem.eA]using l⟩,if_pos e1]
  ·rw[if_neg (λj=>e1 j.1.2),if_neg e1];exact h.w q y a b c e k
 ·show(d.mem.write true p o v).aI false q y=_;rw[Mem.CQ _ (λj=>by cases j.1)];exact h.x q y a b c e
 ·show Dg.aL ((d.mem.write true p o v).dgW s)=0;rw[Mem.dg_eq (m:=d.mem) λy a b=>Mem.CQ _ λj=>by have:=j.2.1;have:=j.2.2;omega];exact h.dg s hs e1 z
theorem Bd.msd(h:Bd d n E f g){kk:List Int}{s k a:Int}{l:List U32}(hs:s=0\/s=10)(v:(E s).typ=1)(z:(E s).state=1)(A:0<=a/\a<4294967296)(B:k=1\/k=2\/k=3\/k=4)(C:dy l):Bd (d.bH (λm=>m.msd kk s k a l)) n E f g:=by
 obtain⟨ws,I,e,F,hd⟩:=Mem.LC (kk:=kk) (m:=d.mem) (s:=s) (k:=k) (a:=a) (l:=l) h.wf (h.dg s hs v z) (by rw[h.hS];simp;omega) A B C;have o:∀b q y,(b=true->q=s->¬(11<=y/\y<37))->(d.mem.msd kk s k a l).aI b q y=d.mem.aI b q y:=λb q y G=>by
  rw[e,Mem.mI];rintro⟨e1,p,j,u⟩;exact G e1 p ⟨j,by omega⟩
 refine⟨(Mem.sy ..).trans h.S,?_,?_,h.b,h.e,λq y a b c e k=>?_,λq y a b c e=>?_,λx H e1 p=>?_⟩
 ·show(d.mem.msd kk s k a l).cnt false=4;rw[e,Mem.kg];exact h.I
 ·show(d.mem.msd kk s k a l).Wf;rw[e];exact Mem.qQ _ _ _ h.wf F
 ·show(d.mem.msd kk s _ _ l).aI true q y=_;rw[o _ _ _ λ_ e1=>by have:=k (by omega);omega];exact h.w q y a b c e k
 ·show(d.mem.msd kk s k _ l).aI false q y=_;rw[o _ _ _ λe1=>by cases e1];exact h.x q y a b c e
 ·show Dg.aL ((d.mem.msd kk s k a l).dgW x)=0;by_cases j:x=s
  ·rw[j];exact hd
  ·rw[Mem.dg_eq (m:=d.mem) λy a b=>o _ _ _ λ_ u=>absurd u j];exact h.dg x H e1 p
theorem Bd.thread(h:Bd d n E f g){kk:List Int}{s p b:Int}(hs:s=0\/s=10)(hp:0<=p/\p<14/\p≠0/\p≠10)(c:(E s).typ=1)(j:(E s).state=1)(u:(E s).refs<63)(q:(E p).typ=0)(hb:0<=b/\b<4294967296):
 d.dt s p=0/\Bd (cR kk d s p b) n (uE (uE E p ⟨2,s,0,0,false⟩) s (E s).up) (uW f p 0 b) g:=by
 have e:d.dt s p=0:=by unfold dt;rw[h.bdE (by omega) c j,h.pgE ⟨hp.1,hp.2.1⟩,h.usE ⟨hp.1,hp.2.1⟩ q];rfl
 refine⟨e,?_⟩;rw[cR,if_pos e];have y:=(h.take (p:=p) (k:=2) (s:=s) ⟨hp.1,hp.2.1⟩ (by omega) (.inl rfl) c u q).write (p:=p) (o:=0) (v:=b) ⟨hp.1,hp.2.1⟩ (by omega) (by omega) hb;exact y.msd (kk:=kk) (s:=s) (k:=1) (a:=b) (l:= []) hs (by unfold uE;rw[if_pos rfl];exact c) (by unfold uE;rw[if_pos rfl];exact j) hb (.inl rfl) (λx z=>by cases z)
theorem Tab.take {s t p k:Int}(T:Tab E f s t)(e:(E p).typ=0){f':Int->Int->Int}(c:f' s 0=f s 0):Tab (uE (uE E p ⟨k,s,0,0,false⟩) s (E s).up) f' s t:=by
 have a:t≠p:=by rintro rfl;have:=T.c;omega
 have b:t≠s:=by rintro rfl;have:=T.c;have:=T.a;omega
 exact⟨T.s,T.t,by unfold uE;rw[if_pos rfl];exact T.a,by unfold uE;rw[if_pos rfl];exact T.b,c.trans T.w,by unfold uE;rw[if_neg b,if_neg a];exact T.c,by unfold uE;rw[if_neg b,if_neg a];exact T.d⟩
theorem Bd.table(h:Bd d n E f g){kk:List Int}{s t p i:Int}(T:Tab E f s t)(hp:0<=p/\p<14/\p≠0/\p≠10)(v:(E s).refs<63)(c:(E p).typ=0)(hi:0<=i/\i<256)(j:f t i=0):
 d.gT s p i=0/\Bd (eo kk d s p i) n (uE (uE E p ⟨4,s,0,0,false⟩) s (E s).up) (uW f t i (dP p)) g:=by
 have q:p≠s:=by rintro rfl;have:=T.a;omega
 have w0:d.word (d.tbl s) i=0:=by rw[(h.tb T).2];exact(h.w t i T.t.1 T.t.2.1 hi.1 (by omega) (λu=>by have:=T.t;omega)).trans j
 have e:d.gT s p i=0:=by
  unfold gT;rw[h.bdE T.rs T.a T.b,h.pgE ⟨hp.1,hp.2.1⟩,h.usE ⟨hp.1,hp.2.1⟩ c,w0,if_neg (show ¬(256:Int)<=i by omega)];rfl
 refine⟨e,?_⟩;rw[eo,if_pos e];have b:=h.take (p:=p) (k:=4) (s:=s) ⟨hp.1,hp.2.1⟩ T.rs (.inr rfl) T.a v c;have T2:=T.take (k:=4) c (f':=f) rfl;have y:(d.take p 4 s).vr s i p=0:=by
  unfold vr;rw[(b.tb T2).1,(b.tb T2).2,b.hp ⟨hp.1,hp.2.1⟩,b.of' (p:=p) (t:=4) (o:=s) ⟨hp.1,hp.2.1⟩ (by unfold uE;rw[if_neg q,if_pos rfl]) (by unfold uE;rw[if_neg q,if_pos rfl]),
   show(d.take p 4 s).word t i=0 from(b.w t i T.t.1 T.t.2.1 hi.1 (by omega) (λu=>by have:=T.t;omega)).trans j,if_neg (show ¬(i<0\/256<=i)by omega)];rfl
 have z:Bd ((d.take p 4 s).add s i p) n (uE (uE E p ⟨4,s,0,0,false⟩) s (E s).up) (uW f t i (dP p)) g:=by
  rw[add,if_pos y,(b.tb T2).2];exact b.write ⟨T.t.1,T.t.2.1⟩ ⟨hi.1,by omega⟩ (λu=>by have:=T.t;omega) (u5 p)
 exact z.msd (kk:=kk) (s:=s) (k:=2) (a:=i) (l:= []) T.s T2.a T2.b ⟨hi.1,by omega⟩ (.inr (.inl rfl)) (λx A=>by cases A)
structure Slo(E:Int->Ent)(f:Int->Int->Int)(sp fp va jj:Int):Prop where
 tb:Tab E f sp fp
 v:iw va=0
 i:vaI va=0
 j:vaJ va=jj
 r:0<=jj/\jj<1024
 w:f fp 0=513
 c:(E 2).typ=4
 d:(E 2).owner=sp
 z:f 2 jj=0
theorem Bd.slot(h:Bd d n E f g){s t va j:Int}(P:Slo E f s t va j):d.cy s va=0/\d.plP s va=2:=by
 have w1:d.word t 0=513:=(h.w t 0 P.tb.t.1 P.tb.t.2.1 (by omega) (by omega) (λa=>by omega)).trans P.w;have e1:d.plP s va=2:=by unfold plP;rw[(h.tb P.tb).2,P.i,w1];decide
 have b:d.dZ s va=0:=by
  unfold dZ Ah;rw[(h.tb P.tb).1,(h.tb P.tb).2,P.v,P.i,w1,show dX 513=2 by decide,h.of' (p:=2) (by omega) P.c P.d];rfl
 refine⟨?_,e1⟩;unfold cy;rw[b,e1,P.j,show d.word 2 j=0 from(h.w 2 j (by omega) (by omega) P.r.1 P.r.2 (λa=>by omega)).trans P.z];rfl
theorem Bd.put(h:Bd d n E f g){s t va j:Int}(P:Slo E f s t va j){M:Mp}(a:M.err=0):Bd (d.put s va M) n E (uW f 2 j M.word) g:=by
 rw[DB.put,if_pos (by unfold yI;rw[(h.slot P).1];exact a),(h.slot P).2,P.j];exact h.write (by omega) P.r (λb=>by omega) (E9 M)
theorem Bd.copy(h:Bd d n E f g){p q:Int}(hp:0<=p/\p<14/\p≠0/\p≠10)(hq:0<=q/\q<4):Bd (d.bH (λm=>m.copy true p false q)) n E (uP f p (g q)) g:=by
 have j:d.mem.has true p=true:=by rw[h.hS];simp;omega
 have l:d.mem.has false q=true:=by rw[h.hI];simp;omega
 refine⟨(Mem.DK ..).trans h.S,(Mem.JS d.mem true p false q false).trans h.I,Mem.K0 h.wf,h.b,h.e,λx y a b c e k=>?_,λx y a b c e=>?_,λs hs e1 o=>?_⟩
 ·show(d.mem.copy true p false q).aI true x y=_;rw[Mem.yL _ j l,uP];by_cases e1:x=p
  ·rw[if_pos ⟨rfl,e1⟩,if_pos e1];exact h.x q y hq.1 hq.2 c e
  ·rw[if_neg (λj=>e1 j.2),if_neg e1];exact h.w x y a b c e k
 ·show(d.mem.copy true p false q).aI false x y=_;rw[Mem.yL _ j l,if_neg (λj=>by cases j.1)];exact h.x x y a b c e
 ·show Dg.aL ((d.mem.copy true p false q).dgW s)=0;rw[Mem.dg_eq (m:=d.mem) λy a b=>by rw[Mem.yL _ j l,if_neg (λj=>by have:=j.2;omega)]];exact h.dg s hs e1 o
theorem Bd.inE(h:Bd d n E f g){q:Int}(hq:0<=q/\q<4):d.kZ q=0:=by unfold kZ;rw[h.I,if_pos (by omega)]
theorem Bd.slC(h:Bd d n E f g){s t va j:Int}(P:Slo E f s t va j):d.jN s va=0:=by unfold jN;rw[(h.slot P).1];rfl
theorem Bd.data(h:Bd d n E f g){kk:List Int}{s t p w q j:Int}(P:Slo E f s t (bK w) j)(hp:0<=p/\p<14/\p≠0/\p≠10/\p≠2)(v:(E s).refs<63)(b:(E p).typ=0)(hq:0<=q/\q<4)(hw:0<=w/\w<4294967296)(y:mK w=0):
 d.gj s p w q=0/\Bd (eT kk d s p w q) n (uE (uE E p ⟨5,s,0,0,false⟩) s (E s).up) (uW (uP f p (g q)) 2 j (Mp.mk true p (paW w) (paX w)).word) g:=by
 have T:=P.tb;have c:0<=p/\p<14:=⟨hp.1,hp.2.1⟩;have z:p≠s:=by rintro rfl;have:=T.a;omega
 have A:p≠t:=by rintro rfl;have:=T.c;omega
 have e:d.gj s p w q=0:=by
  unfold gj kS;rw[h.bdE T.rs T.a T.b,h.pgE c,y,h.inE hq,h.usE c b,h.slC P];rfl
 refine⟨e,?_⟩;rw[eT,if_pos e,vh];have B:=(h.take (p:=p) (k:=5) (s:=s) c T.rs (.inr rfl) T.a v b).copy (p:=p) (q:=q) ⟨hp.1,hp.2.1,hp.2.2.1,hp.2.2.2.1⟩ hq;have T2:Tab _ (uP f p (g q)) s t:=T.take (k:=5) b (by unfold uP;rw[if_neg (Ne.symm z)]);have u:s≠2:=by have:=T.s;omega
 have C:Slo (uE (uE E p ⟨5,s,0,0,false⟩) s (E s).up) (uP f p (g q)) s t (bK w) j:=⟨T2,P.v,P.i,P.j,P.r,by unfold uP;rw[if_neg (Ne.symm A)];exact P.w,by unfold uE;rw[if_neg (Ne.symm u),if_neg (Ne.symm hp.2.2.2.2)];exact P.c,by unfold uE;rw[if_neg (Ne.symm u),if_neg (Ne.symm hp.2.2.2.2)];exact P.d,by unfold uP;rw[if_neg (Ne.symm hp.2.2.2.2)];exact P.z⟩;have F:(Mp.mk true p (paW w) (paX w)).err=0:=by unfold Mp.err;rw[if_pos ⟨hp.1,by show p<64;omega⟩];simp
 have o:=B.put C F;generalize ((d.take p 5 s).bH (λm=>m.copy true p false q)).put s (bK w) (Mp.mk true p (paW w) (paX w))=D at o ⊢;have G:=o.msd (kk:=kk) (s:=s) (k:=3) (a:=w) (l:=D.mem.words true p.toNat) T.s T2.a T2.b hw (.inr (.inr (.inl rfl))) (Mem.z5 o.wf true p.toNat);have H:D.bH (λm=>m.msd kk s 3 w (m.words true p.toNat))=D.bH (λm=>m.msd kk s 3 w (D.mem.words true p.toNat)):=by unfold bH;dsimp only
 rw[H];exact G
theorem Bd.share(h:Bd d n E f g){kk:List Int}{s t w q j:Int}(P:Slo E f s t (bK w) j)(hq:0<=q/\q<4)(hw:0<=w/\w<4294967296)(c:mK w=0)(b:paX w=false):
 d.eZ s w q=0/\Bd (dM kk d s w q) n E (uW f 2 j (Mp.mk false q (paW w) false).word) g:=by
 have T:=P.tb;have e:d.eZ s w q=0:=by
  unfold eZ kS;rw[h.bdE T.rs T.a T.b,c,b,h.inE hq,h.slC P];rfl
 refine⟨e,?_⟩;rw[dM,if_pos e];have o:(Mp.mk false q (paW w) false).err=0:=by unfold Mp.err;rw[if_pos ⟨hq.1,by show q<64;omega⟩];simp
 exact(h.put P o).msd (kk:=kk) (s:=s) (k:=4) (a:=w) (l:= []) T.s T.a T.b hw (.inr (.inr (.inr rfl))) (λx b=>by cases b)
theorem Bd.space(h:Bd d n E f g){s q:Int}(T:n=0\/n=1)(hs:s=0\/s=10)(hq:0<=q/\q<14/\q≠0/\q≠10)(F:(E s).typ=0)(G:(E q).typ=0):
 d.eY s q=0/\Bd (d.du s q) (n+1) (uE (uE E s ⟨1,s,1,1,false⟩) q ⟨3,s,0,0,false⟩) (uW (uW (uW f s 0 q) s 1 n) s 2 0) g:=by
 have j:0<=s/\s<14:=by omega
 have u:0<=q/\q<14:=⟨hq.1,hq.2.1⟩;have H:¬s=q:=by omega
 have hb:¬d.bn>=64:=by rw[h.b];omega
 have e:d.eY s q=0:=by
  unfold eY;rw[h.pgE j,h.pgE u,if_neg H,h.usE j F,h.usE u G,if_neg hb];rfl
 refine⟨e,?_⟩;have I:d.bp s q=0:=by
  unfold bp;rw[h.hp j,h.hp u,if_neg (show ¬(!true || !true)=true by decide),if_neg H,h.e s j.1 j.2,h.e q u.1 u.2,F,G,if_neg (show ¬((0:Int) !=0 || (0:Int) !=0)=true by decide),if_neg hb]
 rw[du,if_pos e,bw,if_pos I];have J:0<=n/\n<4294967296:=by omega
 have W:=(((h.write (p:=s) (o:=0) (v:=q) j (by omega) (by omega) (by omega)).write (p:=s) (o:=1) (v:=n) j (by omega) (by omega) J).write (p:=s) (o:=2) (v:=0) j (by omega) (by omega) (by omega));obtain⟨K,L,M,V,Y,O,Q,R⟩:=W;have Z:=Dg.kM Dg.lG;have em:(d.bu s q).mem=((d.bH (λm=>m.write true s 0 q)).bH (λm=>m.write true s 1 n)).mem.write true s 2 0:=by rw[<-h.b];rfl
 have B:∀b x y,(b=true->x=s->¬(11<=y/\y<37))->((d.bu s q).mem.wrs s 11 Dg.new.save).aI b x y=(((d.bH (λm=>m.write true s 0 q)).bH (λm=>m.write true s 1 n)).mem.write true s 2 0).aI b x y:=λb x y C=>by
  rw[em,Mem.mI];rintro⟨e1,l,z,A⟩;exact C e1 l ⟨z,by omega⟩
 refine⟨?_,?_,?_,?_,λx a b=>?_,λx y a b c e k=>?_,λx y a b c e=>?_,λx S e1 l=>?_⟩
 ·show((d.bu s q).mem.wrs s 11 Dg.new.save).S=14;rw[Mem.ju,em];exact K
 ·show((d.bu s q).mem.wrs s 11 Dg.new.save).cnt false=4;rw[Mem.kg,em];exact L
 ·show((d.bu s q).mem.wrs s 11 Dg.new.save).Wf;rw[em];exact Mem.qQ _ _ _ M (Dg.oM Dg.lG)
 ·show d.bn+1=n+1;rw[h.b]
 ·show((d.set s ⟨1,s,1,1,false⟩).set q ⟨3,s,0,0,false⟩).at_ x=_;rw[na hq.1 a,na j.1 a,h.e x a b];rfl
 ·show((d.bu s q).mem.wrs s 11 Dg.new.save).aI true x y=_;rw[B _ _ _ λ_ e1=>by have:=k (by omega);omega];exact O x y a b c e k
 ·show((d.bu s q).mem.wrs s 11 Dg.new.save).aI false x y=_;rw[B _ _ _ λe1=>by cases e1];exact Q x y a b c e
 ·show Dg.aL (((d.bu s q).mem.wrs s 11 Dg.new.save).dgW x)=0;by_cases z:x=s
  ·rw[z];have A:((d.bu s q).mem.wrs s 11 Dg.new.save).dgW s=Dg.new.save.map uM:=by
    have C:(d.bu s q).mem.has true s=true:=by
     rw[em,Mem.tA (m:=d.mem) (by rw[Mem.iE];show((d.mem.write true s 0 q).write true s 1 n).cnt true=_;rw[Mem.iE,Mem.iE])];exact h.hp j
    unfold Mem.dgW;apply List.ext_getElem?;intro i;by_cases hi:i<26
    ·rw[List.getElem?_map,List.getElem?_range hi,List.getElem?_map];show some (uM (((d.bu s q).mem.wrs s 11 _).aI true s (11+(i:Int))))=_;rw[Mem.nG _ _ 11 C (by omega) (by omega),if_pos (by omega),show(11+(i:Int) - 11).toNat=i by omega,List.getD_eq_getElem?_getD,List.getElem?_eq_getElem (by omega)];rfl
    ·rw[List.getElem?_eq_none (by simp;omega),List.getElem?_eq_none (by simp;omega)]
   rw[A];exact(Dg.xp Dg.IS).1
  ·rw[Mem.dg_eq (m:=((d.bH (λm=>m.write true s 0 q)).bH (λm=>m.write true s 1 n)).mem.write true s 2 0) λy a b=>B _ _ _ λ_ A=>absurd A z];unfold uE at e1 l;rw[if_neg z]at e1 l;by_cases e5:x=q
   ·omega
   ·rw[if_neg e5]at e1 l;exact R x S e1 l
end
def _root_.Go.Proofs.YtjiflmkpbkeocaaGreatDoor.Dg.k9(kk:List Int)(l:List U32):S8:=if Dg.aL l=0 then Dg.sum kk (Dg.load l)else⟨0,0,0,0,0,0,0,0⟩
def cZ(d:DB)(w:Int):Int:=if !d.has w then 1 else if(d.at_ w).typ≠1 then 3 else 0
def lfP(d:DB)(w:Int):Int:=if d.cZ w=0 then w else 0
def lfE(d:DB)(w:Int):Ent:=if d.cZ w=0 then d.at_ w else .free
def kW(d:DB)(w:Int):Int:=if d.has w then w else -1
def bU(d:DB)(s w:Int):Int:=if d.cZ s≠0 then d.cZ s else if(d.at_ s).state=3 then 22 else if !d.has w then 1 else if d.cX w 6 s≠0 then 2 else 0
def fw(d:DB)(s w:Int):DB:=if d.bU s w=0 then d.take w 6 s else d
def cr(d:DB)(s:Int):Int:=if d.cZ s≠0 then d.cZ s else if(d.at_ s).state≠1 then 4 else if Dg.aL (d.mem.dgW s)≠0 then 4 else 0
def fx(kk:List Int)(d:DB)(s:Int):DB:=if d.cr s=0 then(d.bH (λm=>(m.wrs s 3 ((s8L (Dg.sum kk (Dg.load (m.dgW s)))).map U32.v)).wrs s 11 (List.replicate 26 0))).setState s 2 else d
section
variable {d:DB}{n:Int}{E:Int->Ent}{f g:Int->Int->Int}
theorem Bd.lf(h:Bd d n E f g){s:Int}(hs:0<=s/\s<14)(a:(E s).typ=1):d.cZ s=0:=by unfold cZ;rw[h.hp hs,h.e s hs.1 hs.2,a];rfl
theorem Bd.spare(h:Bd d n E f g){p s:Int}(hp:0<=p/\p<14)(hs:0<=s/\s<14)(a:(E s).typ=1)(j:(E s).state≠3)(b:(E s).refs<63)(c:(E p).typ=0):
 d.bU s p=0/\Bd (d.fw s p) n (uE (uE E p ⟨6,s,0,0,false⟩) s (E s).up) f g:=by
 have e:d.bU s p=0:=by
  unfold bU;rw[h.lf hs a,h.e s hs.1 hs.2,if_neg j,h.hp hp,h.MQ (p:=p) (k:=6) (s:=s) hp hs (.inr rfl) a b c];rfl
 exact⟨e,by rw[fw,if_pos e];exact h.take hp hs (.inr rfl) a b c⟩
theorem Bd.fil(h:Bd d n E f g){p:Int}{l:List U32}(hp:0<=p/\p<4)(q:dy l){k:Nat}(o:k<=1024):Bd (d.bH (λm=>m.fil p l k)) n E f (uP g p λx=>if 0<=x/\x<k then(l.getD x.toNat (uM 0)).v else 0):=by
 have j:d.mem.has false p=true:=by rw[h.hI];simp;omega
 refine⟨(Mem.gB d.mem p l true k).trans h.S,(Mem.gB d.mem p l false k).trans h.I,Mem.HH h.wf q k,h.b,h.e,λx y a b c e u=>?_,λx y a b c e=>?_,λs hs e1 v=>?_⟩
 ·show(d.mem.fil p l k).aI true x y=_;rw[Mem.yK _ _ _ j _ _ _ _ o,if_neg (λj=>by cases j.1)];exact h.w x y a b c e u
 ·show(d.mem.fil p l k).aI false x y=_;rw[Mem.yK _ _ _ j _ _ _ _ o,uP];by_cases e1:x=p
  ·rw[if_pos ⟨rfl,e1⟩,if_pos e1]
  ·rw[if_neg (λj=>e1 j.2),if_neg e1];exact h.x x y a b c e
 ·show Dg.aL ((d.mem.fil p l k).dgW s)=0;rw[Mem.dg_eq (m:=d.mem) λy a b=>by rw[Mem.yK _ _ _ j _ _ _ _ o,if_neg (λj=>by cases j.1)]];exact h.dg s hs e1 v
theorem Bd.final(h:Bd d n E f g){kk:List Int}{s:Int}(hs:s=0\/s=10)(u:(E s).typ=1)(v:(E s).state=1):
 d.cr s=0/\Bd (fx kk d s) n (uE E s (E s).fin) f g:=by
 have j:0<=s/\s<14:=by omega
 have e:d.cr s=0:=by
  unfold cr;rw[h.lf j u,h.e s j.1 j.2,v,h.dg s hs u v];rfl
 refine⟨e,?_⟩;rw[fx,if_pos e];have F:=uc kk (Dg.eX (Mem.kd h.wf s) (h.dg s hs u v)).1;generalize B:(s8L (Dg.sum kk (Dg.load (d.mem.dgW s)))).map U32.v=ws;have J:ws.length=8:=by rw[<-B];rfl
 have G:∀x∈ws,0<=x/\x<4294967296:=by
  obtain⟨K,L,M,O,Q,R,S,T⟩:=F;intro x o;rw[<-B]at o;simp only[s8L,List.map_cons,List.map_nil,List.mem_cons,List.not_mem_nil,or_false]at o;rcases o with rfl|rfl|rfl|rfl|rfl|rfl|rfl|rfl<;>assumption
 have C:∀b q y,(b=true->q=s->¬(3<=y/\y<37))->((d.mem.wrs s 3 ws).wrs s 11 (List.replicate 26 0)).aI b q y=d.mem.aI b q y:=λb q y z=>by
  rw[Mem.mI,Mem.mI]
  ·rintro⟨e1,l,p,A⟩;exact z e1 l ⟨p,by omega⟩
  ·rintro⟨e1,l,p,A⟩;rw[List.length_replicate]at A;exact z e1 l ⟨by omega,by omega⟩
 have H:(d.bH (λm=>(m.wrs s 3 ((s8L (Dg.sum kk (Dg.load (m.dgW s)))).map U32.v)).wrs s 11 (List.replicate 26 0)))=d.aT ((d.mem.wrs s 3 ws).wrs s 11 (List.replicate 26 0)):=by
  show d.aT ((d.mem.wrs s 3 ((s8L (Dg.sum kk (Dg.load (d.mem.dgW s)))).map U32.v)).wrs s 11 (List.replicate 26 0))=_;rw[B]
 rw[H];have I:(d.aT ((d.mem.wrs s 3 ws).wrs s 11 (List.replicate 26 0))).cz s 2=0:=by
  have z:(d.aT ((d.mem.wrs s 3 ws).wrs s 11 (List.replicate 26 0))).has s=true:=by
   rw[AR,Mem.tA (m:=d.mem) (by rw[Mem.kg,Mem.kg])];exact h.hp j
  unfold cz;rw[z,pf,h.e s j.1 j.2,u,v];rfl
 rw[setState,if_pos I];refine⟨?_,?_,?_,h.b,λq a b=>?_,λq y a b c e k=>?_,λq y a b c e=>?_,λx o e1 l=>?_⟩
 ·show((d.mem.wrs s 3 ws).wrs s 11 (List.replicate 26 0)).S=14;rw[Mem.ju,Mem.ju];exact h.S
 ·show((d.mem.wrs s 3 ws).wrs s 11 (List.replicate 26 0)).cnt false=4;rw[Mem.kg,Mem.kg];exact h.I
 ·exact Mem.qQ _ _ _ (Mem.qQ _ _ _ h.wf G) λx o=>by rw[List.eq_of_mem_replicate o];exact⟨by decide,by decide⟩
 ·rw[na j.1 a,pf,pf,h.e s j.1 j.2,h.e q a b];rfl
 ·show((d.mem.wrs s 3 ws).wrs s 11 (List.replicate 26 0)).aI true q y=_;rw[C _ _ _ λ_ e1=>by have:=k (by omega);omega];exact h.w q y a b c e k
 ·show((d.mem.wrs s 3 ws).wrs s 11 (List.replicate 26 0)).aI false q y=_;rw[C _ _ _ λe1=>by cases e1];exact h.x q y a b c e
 ·show Dg.aL (((d.mem.wrs s 3 ws).wrs s 11 (List.replicate 26 0)).dgW x)=0;unfold uE at e1 l;by_cases p:x=s
  ·rw[if_pos p]at l;exact absurd l (by show ¬(2:Int)=1;decide)
  ·rw[if_neg p]at e1 l;rw[Mem.dg_eq (m:=d.mem) λy a b=>C _ _ _ λ_ A=>absurd A p];exact h.dg x o e1 l
end
end DB
end
section
structure Wd where
 kk:List Int
 lc:List U32
 ld:List U32
 ls:List U32
 e0:Int
 e1:Int
 sp:Int
 op:Bool
namespace Wd
structure Ok(x:Wd):Prop where
 lc:dy x.lc
 ld:dy x.ld
 ls:dy x.ls
 e0:0<=x.e0/\x.e0<4294967296
 e1:0<=x.e1/\x.e1<4294967296
def nw(l:List U32):Nat:=min l.length 1024
def ns(x:Wd):Nat:=(min (max x.sp 0) 3).toNat
theorem E8(x:Wd):x.ns<=3:=by unfold ns;omega
noncomputable section
def d0(_:Wd):DB:=DB.new (Mem.fresh 14 4)
def d1(x:Wd):DB:=x.d0.du 0 1
def d2(x:Wd):DB:=DB.eo x.kk x.d1 0 2 0
def d3(x:Wd):DB:=x.d2.bH (λm=>m.fil 0 x.lc (nw x.lc))
def d4(x:Wd):DB:=DB.eT x.kk x.d3 0 3 4101 0
def d5(x:Wd):DB:=x.d4.bH (λm=>m.fil 0 x.ld (nw x.ld))
def d6(x:Wd):DB:=DB.eT x.kk x.d5 0 4 8195 0
def d7(x:Wd):DB:=DB.dM x.kk x.d6 0 12291 1
def d8(x:Wd):DB:=DB.dM x.kk x.d7 0 16385 2
def d9(x:Wd):DB:=DB.cR x.kk x.d8 0 5 x.e0
def d10(x:Wd):DB:=DB.cR x.kk x.d9 0 6 x.e1
def spN(d:DB):Nat->DB
 |0=>d
 |k+1=>(spN d k).fw 0 (7+(k:Int))
def d11(x:Wd):DB:=spN x.d10 x.ns
def d12(x:Wd):DB:=x.d11.du 10 11
def d13(x:Wd):DB:=DB.cR x.kk x.d12 10 12 4096
def d14(x:Wd):DB:=x.d13.bH (λm=>m.fil 0 [] 0)
def d15(x:Wd):DB:=x.d14.bH (λm=>m.fil 1 x.ls (nw x.ls))
def d16(x:Wd):DB:=x.d15.bH (λm=>m.fil 2 x.ls (nw x.ls))
def d17(x:Wd):DB:=if x.op=true then x.d16 else DB.fx x.kk x.d16 0
end
def lw(l:List U32)(o:Int):Int:=if 0<=o/\o<(nw l:Nat)then(l.getD o.toNat (uM 0)).v else 0
def f0:Int->Int->Int:=λ_ _=>0
def f1:Int->Int->Int:=uW (uW (uW f0 0 0 1) 0 1 0) 0 2 0
def f2:Int->Int->Int:=uW f1 1 0 (dP 2)
def g3(x:Wd):Int->Int->Int:=uP f0 0 (lw x.lc)
def f4(x:Wd):Int->Int->Int:=uW (uP f2 3 (x.g3 0)) 2 1 (Mp.mk true 3 (paW 4101) (paX 4101)).word
def g5(x:Wd):Int->Int->Int:=uP x.g3 0 (lw x.ld)
def f6(x:Wd):Int->Int->Int:=uW (uP x.f4 4 (x.g5 0)) 2 2 (Mp.mk true 4 (paW 8195) (paX 8195)).word
def f7(x:Wd):Int->Int->Int:=uW x.f6 2 3 (Mp.mk false 1 (paW 12291) false).word
def f8(x:Wd):Int->Int->Int:=uW x.f7 2 4 (Mp.mk false 2 (paW 16385) false).word
def f9(x:Wd):Int->Int->Int:=uW x.f8 5 0 x.e0
def f10(x:Wd):Int->Int->Int:=uW x.f9 6 0 x.e1
def f12(x:Wd):Int->Int->Int:=uW (uW (uW x.f10 10 0 11) 10 1 1) 10 2 0
def f13(x:Wd):Int->Int->Int:=uW x.f12 12 0 4096
def g14(x:Wd):Int->Int->Int:=uP x.g5 0 λy=>if 0<=y/\y<((0:Nat):Int)then(([]:List U32).getD y.toNat (uM 0)).v else 0
def g15(x:Wd):Int->Int->Int:=uP x.g14 1 (lw x.ls)
def g16(x:Wd):Int->Int->Int:=uP x.g15 2 (lw x.ls)
def EE(r st:Int)(k:Nat)(p:Int):Ent:=
 if p=0 then⟨1,0,r+(k:Int),st,false⟩else if p=1 then⟨3,0,0,0,false⟩else if p=2 then(if r>=2 then⟨4,0,0,0,false⟩else .free)else if p=3 then(if r>=3 then⟨5,0,0,0,false⟩else .free)else if p=4 then(if r>=4 then⟨5,0,0,0,false⟩else .free)
 else if p=5 then(if r>=5 then⟨2,0,0,0,false⟩else .free)else if p=6 then(if r>=6 then⟨2,0,0,0,false⟩else .free)else if 7<=p/\p<7+(k:Int)then⟨6,0,0,0,false⟩else .free
def EO(E:Int->Ent)(r p:Int):Ent:=if p=10 then⟨1,10,r,1,false⟩else if p=11 then⟨3,10,0,0,false⟩else if p=12 then(if r>=2 then⟨2,10,0,0,false⟩else .free)else E p
end Wd
theorem DB.Bd.to {d:DB}{n:Int}{E c:Int->Ent}{f g:Int->Int->Int}(h:DB.Bd d n E f g)(e:∀p,0<=p->p<14->E p=c p):DB.Bd d n c f g:=
 ⟨h.S,h.I,h.wf,h.b,λp a b=>(h.e p a b).trans (e p a b),h.w,h.x,λs hs j k=>h.dg s hs (by rw[e s (by omega) (by omega)];exact j) (by rw[e s (by omega) (by omega)];exact k)⟩
theorem p14 {P:Int->Prop}(h:P 0/\P 1/\P 2/\P 3/\P 4/\P 5/\P 6/\P 7/\P 8/\P 9/\P 10/\P 11/\P 12/\P 13)(p:Int)(a:0<=p)(b:p<14):P p:=by
 obtain⟨a0,c,e,j,k,l,o,q,u,v,y,z,A,B⟩:=h;rcases(show p=0\/p=1\/p=2\/p=3\/p=4\/p=5\/p=6\/p=7\/p=8\/p=9\/p=10\/p=11\/p=12\/p=13 by omega)with rfl|rfl|rfl|rfl|rfl|rfl|rfl|rfl|rfl|rfl|rfl|rfl|rfl|rfl<;>assumption
namespace Wd
open DB
variable {x:Wd}
theorem eE {E a:Int->Ent}(h:E 0=a 0/\E 1=a 1/\E 2=a 2/\E 3=a 3/\E 4=a 4/\E 5=a 5/\E 6=a 6/\E 7=a 7/\E 8=a 8/\E 9=a 9/\E 10=a 10/\E 11=a 11/\E 12=a 12/\E 13=a 13):∀p,0<=p->p<14->E p=a p:=p14 (P:=λp=>E p=a p) h
theorem b0:Bd x.d0 0 (λ_=>.free) f0 f0:=by
 have hw:∀(k:Nat)(b:Bool)(i o:Nat),((Mem.fresh 14 4).dQ k).pg b i o=0:=λk=>by
  induction k with
  |zero=>exact λ_ _ _=>rfl
  | succ k a=>
   intro b i o;rw[Mem.dQ];unfold Mem.zero;split
   ·show(if b=true/\i=_ then 0 else _)=0;split
    ·rfl
    ·exact a b i o
   ·exact a b i o
 have hp:∀b p o,((Mem.fresh 14 4).dQ 14).aI b p o=0:=λb p o=>by unfold Mem.aI;split;exact hw _ _ _ _;rfl
 have hS:((Mem.fresh 14 4).dQ 14).S=14:=Mem.ny _ 14;have hI:((Mem.fresh 14 4).dQ 14).I=4:=Mem.EB _ 14;exact⟨hS,hI,⟨λs i o=>by rw[show(x.d0.mem).pg s i o=0 from hw _ _ _ _];omega,by rw[show x.d0.mem.S=14 from hS];omega,by rw[show x.d0.mem.I=4 from hI];omega⟩,rfl,λ_ _ _=>rfl,λp o _ _ _ _ _=>hp true p o,λp o _ _ _ _=>hp false p o,λs _ h=>by cases h⟩
theorem b1:x.d0.eY 0 1=0/\Bd x.d1 1 (EE 1 1 0) f1 f0:=by
 obtain⟨a,b⟩:=(b0 (x:=x)).space (s:=0) (q:=1) (.inl rfl) (.inl rfl) (by omega) rfl rfl;exact⟨a,b.to (eE ⟨rfl,rfl,rfl,rfl,rfl,rfl,rfl,rfl,rfl,rfl,rfl,rfl,rfl,rfl⟩)⟩
theorem tab {r:Int}{k:Nat}{f:Int->Int->Int}(a:f 0 0=1):Tab (EE r 1 k) f 0 1:=⟨.inl rfl,by omega,rfl,rfl,a,rfl,rfl⟩
theorem b2:x.d1.gT 0 2 0=0/\Bd x.d2 1 (EE 2 1 0) f2 f0:=by
 obtain⟨a,b⟩:=(b1 (x:=x)).2.table (kk:=x.kk) (s:=0) (t:=1) (p:=2) (i:=0) (tab rfl) (by omega) (by decide) rfl (by omega) rfl;exact⟨a,b.to (eE ⟨rfl,rfl,rfl,rfl,rfl,rfl,rfl,rfl,rfl,rfl,rfl,rfl,rfl,rfl⟩)⟩
theorem b3(h:x.Ok):Bd x.d3 1 (EE 2 1 0) f2 x.g3:=(b2 (x:=x)).2.fil (p:=0) (by omega) h.lc (k:=nw x.lc) (by unfold nw;omega)
theorem slo {r:Int}{k:Nat}{f:Int->Int->Int}{w j:Int}(b:2<=r)(c:f 0 0=1)(e:f 1 0=513)(h:f 2 j=0)(l:iw (bK w)=0)(hi:vaI (bK w)=0)(o:vaJ (bK w)=j)(p:0<=j/\j<1024):Slo (EE r 1 k) f 0 1 (bK w) j:=by
 have a:EE r 1 k 2=⟨4,0,0,0,false⟩:=by show(if r>=2 then _ else _)=_;rw[if_pos b]
 exact⟨tab c,l,hi,o,p,e,by rw[a],by rw[a],h⟩
theorem b4(h:x.Ok):x.d3.gj 0 3 4101 0=0/\Bd x.d4 1 (EE 3 1 0) x.f4 x.g3:=by
 obtain⟨a,b⟩:=(b3 h).data (kk:=x.kk) (s:=0) (t:=1) (p:=3) (w:=4101) (q:=0) (j:=1) (slo (by omega) rfl (by decide) rfl (by decide) (by decide) (by decide) (by omega)) (by omega) (by decide) rfl (by omega) (by omega) (by decide);exact⟨a,b.to (eE ⟨rfl,rfl,rfl,rfl,rfl,rfl,rfl,rfl,rfl,rfl,rfl,rfl,rfl,rfl⟩)⟩
theorem b5(h:x.Ok):Bd x.d5 1 (EE 3 1 0) x.f4 x.g5:=(b4 h).2.fil (p:=0) (by omega) h.ld (k:=nw x.ld) (by unfold nw;omega)
theorem b6(h:x.Ok):x.d5.gj 0 4 8195 0=0/\Bd x.d6 1 (EE 4 1 0) x.f6 x.g5:=by
 obtain⟨a,b⟩:=(b5 h).data (kk:=x.kk) (s:=0) (t:=1) (p:=4) (w:=8195) (q:=0) (j:=2) (slo (by omega) rfl rfl rfl (by decide) (by decide) (by decide) (by omega)) (by omega) (by decide) rfl (by omega) (by omega) (by decide);exact⟨a,b.to (eE ⟨rfl,rfl,rfl,rfl,rfl,rfl,rfl,rfl,rfl,rfl,rfl,rfl,rfl,rfl⟩)⟩
theorem b7(h:x.Ok):x.d6.eZ 0 12291 1=0/\Bd x.d7 1 (EE 4 1 0) x.f7 x.g5:=
 (b6 h).2.share (kk:=x.kk) (s:=0) (t:=1) (w:=12291) (q:=1) (j:=3) (slo (by omega) rfl rfl rfl (by decide) (by decide) (by decide) (by omega)) (by omega) (by omega) (by decide) (by decide)
theorem b8(h:x.Ok):x.d7.eZ 0 16385 2=0/\Bd x.d8 1 (EE 4 1 0) x.f8 x.g5:=
 (b7 h).2.share (kk:=x.kk) (s:=0) (t:=1) (w:=16385) (q:=2) (j:=4) (slo (by omega) rfl rfl rfl (by decide) (by decide) (by decide) (by omega)) (by omega) (by omega) (by decide) (by decide)
theorem b9(h:x.Ok):x.d8.dt 0 5=0/\Bd x.d9 1 (EE 5 1 0) x.f9 x.g5:=by
 obtain⟨a,c⟩:=(b8 h).2.thread (kk:=x.kk) (s:=0) (p:=5) (b:=x.e0) (.inl rfl) (by omega) rfl rfl (by decide) rfl h.e0;exact⟨a,c.to (eE ⟨rfl,rfl,rfl,rfl,rfl,rfl,rfl,rfl,rfl,rfl,rfl,rfl,rfl,rfl⟩)⟩
theorem b10(h:x.Ok):x.d9.dt 0 6=0/\Bd x.d10 1 (EE 6 1 0) x.f10 x.g5:=by
 obtain⟨a,c⟩:=(b9 h).2.thread (kk:=x.kk) (s:=0) (p:=6) (b:=x.e1) (.inl rfl) (by omega) rfl rfl (by decide) rfl h.e1;exact⟨a,c.to (eE ⟨rfl,rfl,rfl,rfl,rfl,rfl,rfl,rfl,rfl,rfl,rfl,rfl,rfl,rfl⟩)⟩
theorem bsp(h:x.Ok):∀k,k<=3->Bd (spN x.d10 k) 1 (EE 6 1 k) x.f10 x.g5
 |0,_=>(b10 h).2
 | k+1,a=>by
  refine((bsp h k (by omega)).spare (p:=7+(k:Int)) (s:=0) (by omega) (by omega) rfl (show(1:Int)≠3 by decide) (show(6:Int)+(k:Int)<63 by omega) ?_).2.to ?_
  ·match k,a with
   |0,_=>rfl
   |1,_=>rfl
   |2,_=>rfl
  ·match k,a with
   |0,_=>exact eE ⟨rfl,rfl,rfl,rfl,rfl,rfl,rfl,rfl,rfl,rfl,rfl,rfl,rfl,rfl⟩
   |1,_=>exact eE ⟨rfl,rfl,rfl,rfl,rfl,rfl,rfl,rfl,rfl,rfl,rfl,rfl,rfl,rfl⟩
   |2,_=>exact eE ⟨rfl,rfl,rfl,rfl,rfl,rfl,rfl,rfl,rfl,rfl,rfl,rfl,rfl,rfl⟩
theorem Rc(h:x.Ok){k:Nat}(a:k<3):(spN x.d10 k).bU 0 (7+(k:Int))=0:=by
 refine((bsp h k (by omega)).spare (p:=7+(k:Int)) (s:=0) (by omega) (by omega) rfl (show(1:Int)≠3 by decide) (show(6:Int)+(k:Int)<63 by omega) ?_).1
 match k,a with
 |0,_=>rfl
 |1,_=>rfl
 |2,_=>rfl
theorem b11(h:x.Ok):Bd x.d11 1 (EE 6 1 x.ns) x.f10 x.g5:=bsp h _ x.E8
theorem k4 {P:Nat->Prop}(h:P 0/\P 1/\P 2/\P 3)(k:Nat)(a:k<=3):P k:=by
 match k,a with
 |0,_=>exact h.1
 |1,_=>exact h.2.1
 |2,_=>exact h.2.2.1
 |3,_=>exact h.2.2.2
theorem b12(h:x.Ok):x.d11.eY 10 11=0/\Bd x.d12 2 (EO (EE 6 1 x.ns) 1) x.f12 x.g5:=by
 obtain⟨a,b⟩:=(b11 h).space (s:=10) (q:=11) (.inr rfl) (.inr rfl) (by omega) (k4 (P:=λk=>(EE 6 1 k 10).typ=0) ⟨rfl,rfl,rfl,rfl⟩ _ x.E8) (k4 (P:=λk=>(EE 6 1 k 11).typ=0) ⟨rfl,rfl,rfl,rfl⟩ _ x.E8);refine⟨a,b.to (eE ⟨rfl,rfl,rfl,rfl,rfl,rfl,rfl,?_,?_,?_,rfl,rfl,?_,?_⟩)⟩
 ·rfl
 ·rfl
 ·rfl
 ·exact k4 (P:=λk=>EE 6 1 k 12=.free) ⟨rfl,rfl,rfl,rfl⟩ _ x.E8
 ·rfl
theorem b13(h:x.Ok):x.d12.dt 10 12=0/\Bd x.d13 2 (EO (EE 6 1 x.ns) 2) x.f13 x.g5:=by
 obtain⟨a,c⟩:=(b12 h).2.thread (kk:=x.kk) (s:=10) (p:=12) (b:=4096) (.inr rfl) (by omega) rfl rfl (show(1:Int)<63 by decide) rfl (by omega);exact⟨a,c.to (eE ⟨rfl,rfl,rfl,rfl,rfl,rfl,rfl,rfl,rfl,rfl,rfl,rfl,rfl,rfl⟩)⟩
theorem b14(h:x.Ok):Bd x.d14 2 (EO (EE 6 1 x.ns) 2) x.f13 x.g14:=(b13 h).2.fil (p:=0) (by omega) (λx a=>by cases a) (k:=0) (by omega)
theorem b15(h:x.Ok):Bd x.d15 2 (EO (EE 6 1 x.ns) 2) x.f13 x.g15:=(b14 h).fil (p:=1) (by omega) h.ls (k:=nw x.ls) (by unfold nw;omega)
theorem b16(h:x.Ok):Bd x.d16 2 (EO (EE 6 1 x.ns) 2) x.f13 x.g16:=(b15 h).fil (p:=2) (by omega) h.ls (k:=nw x.ls) (by unfold nw;omega)
theorem b17(h:x.Ok):x.d16.cr 0=0/\Bd x.d17 2 (EO (EE 6 (if x.op=true then 1 else 2) x.ns) 2) x.f13 x.g16:=by
 obtain⟨b,c⟩:=(b16 h).final (kk:=x.kk) (s:=0) (.inl rfl) rfl rfl;refine⟨b,?_⟩;unfold d17;by_cases a:x.op=true
 ·rw[if_pos a,if_pos a];exact b16 h
 ·rw[if_neg a,if_neg a];exact c.to (eE ⟨rfl,rfl,rfl,rfl,rfl,rfl,rfl,rfl,rfl,rfl,rfl,rfl,rfl,rfl⟩)
end Wd
end
section
attribute [local irreducible] Vc2 VcD
attribute [local grind=] Pd.jb Pd.gQ Pd.mM Pd.sw Pd.bT Pd.ku Pd.mL Pd.j5 Pd.sj Pd.yP
attribute [local grind .] Pd.Ok.ent
attribute [local grind→] Pd.Ok.ir
def qD:Ctr Un:=⟨[.one (.obj 0 0)],[(1,5)],[.ob 4 [],.ob 5 []],[],λr d a kk K=>d.Ok/\K ⟨(.agg (w8 (Dg.sum kk d))),none,[],[],[]⟩⟩
theorem zp:LV Un prog 103 qD:=by
 show ∀(r:Nat->Nat)(d:Dg)(a:Nat->Nat)(kk:List Int),∀Q:Ou Un->Prop,(d.Ok/\Q ⟨(.agg (w8 (Dg.sum kk d))),none,[],[],[]⟩)->∀(X:bP)(w:World),Sat (U:=Un) [(.ob 4 r d),(.ob 5 a kk)] X w->aG (U:=Un) [(.ob 4 r d),(.ob 5 a kk)] fr0 []->Calls prog 103 #[(.pointer (pvA (r 0)))] w (aR (U:=Un) [(.ob 4 r d),(.ob 5 a kk)] [] X w Q);intro r d a kk Q b X w hs k;obtain⟨c,b⟩:=b;obtain⟨L,l,h⟩:=(hs.res 0 _ rfl:bO 4 r d (X 0) w);obtain⟨o,j⟩:=(hs.res 1 _ rfl:bO 5 a kk (X 1) w);refine(NO h j (by have:=c.len;omega)).mono ?_;rintro e p ⟨u,rfl,rfl,q⟩;exact aR.pu hs q b trivial
theorem Dg.AZ {kk:List Int}{l:List U32}(h:Dg.aL l=0):Dg.k9 kk l=Dg.sum kk (Dg.load l):=if_pos h
theorem Dg.L0 {kk:List Int}{l:List U32}(h:¬Dg.aL l=0):Dg.k9 kk l=⟨0,0,0,0,0,0,0,0⟩:=if_neg h
theorem DB.I6 {d:DB}{w:Int}(h:¬d.cZ w=0):d.lfP w=0/\d.lfE w=.free:=⟨if_neg h,if_neg h⟩
theorem DB.lI {d:DB}{w:Int}(h:d.cZ w=0):d.lfP w=w/\d.lfE w=d.at_ w/\d.has w=true:=by
 refine⟨if_pos h,if_pos h,?_⟩;unfold DB.cZ at h;cases a:d.has w
 ·rw[a]at h;simp at h
 ·rfl
theorem DB.uT {d:DB}{w:Int}:d.kW w<0↔d.has w=false:=by
 unfold DB.kW;cases a:d.has w
 ·simp
 ·have:=(DB.dC a).1;simp;omega
theorem DB.tw {d:DB}{w:Int}(h:¬d.kW w<0):d.kW w=w/\d.has w=true:=by
 have a:d.has w=true:=by
  cases b:d.has w
  ·exact absurd (DB.uT.2 b) h
  ·rfl
 exact⟨by unfold DB.kW;rw[a];rfl,a⟩
def rO:Ctr Un:=⟨[.enc 8],[(0,5)],[.ob 5 []],[],λf a kk K=>W26.Ok f/\K ⟨(.tuple #[(.agg (w8 (Dg.k9 kk (W26.n f)))),J (Dg.aL (W26.n f))]),kn2,[],[],[]⟩⟩
theorem G8:LV Un prog 74 rO:=bR Tryz.func74 ak [(102,qF),(103,qD)] ⟨vJ,zp,trivial⟩ [] .leaf [] (F:=∀(f:W26) e (kk:List Int) Q,rO.body f e kk Q->∀(o:Nat),∀(s:List U32),s=(W26.n f)->∀(p:Nat),∀(s1:List U32),s1=([uM 0,uM 0,uM 0,uM 0,uM 0,uM 0,uM 0,uM 0]:List U32)->((s.length=26/\s.length=26)/\0<26)/\dy s/\split (decide (Dg.aL s=0)) (∀(q:Nat->Nat),∀(s2:Dg),s2=(Dg.load s)->s2.Ok/\(s1.length=8)/\∀(s3:List U32),s3=([uM ((Dg.sum kk s2).a),uM ((Dg.sum kk s2).b),uM ((Dg.sum kk s2).c),uM ((Dg.sum kk s2).d),uM ((Dg.sum kk s2).e),uM ((Dg.sum kk s2).f),uM ((Dg.sum kk s2).g),uM ((Dg.sum kk s2).h)]:List U32)->(8<=s3.length)/\Q ⟨(.tuple #[(.agg #[O (s3.getD 0 (uM 0)).v,O (s3.getD 1 (uM 0)).v,O (s3.getD 2 (uM 0)).v,O (s3.getD 3 (uM 0)).v,O (s3.getD 4 (uM 0)).v,O (s3.getD 5 (uM 0)).v,O (s3.getD 6 (uM 0)).v,O (s3.getD 7 (uM 0)).v]),J 0]),kn2,[],[],[]⟩) (∀(dp:Value),split ((Dg.aL s) !=0) ((s1.length=8)/\∀(s2:List U32),s2=([uM 0,uM 0,uM 0,uM 0,uM 0,uM 0,uM 0,uM 0]:List U32)->(8<=s2.length)/\Q ⟨(.tuple #[(.agg #[O (s2.getD 0 (uM 0)).v,O (s2.getD 1 (uM 0)).v,O (s2.getD 2 (uM 0)).v,O (s2.getD 3 (uM 0)).v,O (s2.getD 4 (uM 0)).v,O (s2.getD 5 (uM 0)).v,O (s2.getD 6 (uM 0)).v,O (s2.getD 7 (uM 0)).v]),J (Dg.aL s)]),kn2,[],[],[]⟩) (False))) λf e kk Q h=>by
 obtain⟨j,h⟩:=h;exact λo s c p s1 k=>aj (by subst_vars;exact⟨⟨rfl,rfl⟩,by omega⟩) λs1=>aj (by subst_vars;exact j) λs2=>av (λa q s2 b=>aj (by rw[c]at a;rw[b,c];exact(Dg.eX j a).1) λs3=>aj (by rw[k];rfl) λv s3 l=>aj (by(rw[l];exact Nat.le_refl 8)) λy=>aw h (by rw[c]at a b;rw[Dg.AZ a,a,l,b];rfl) rfl rfl) λa dp=>ax (λu=>aj (by rw[k];rfl) λz s2 b=>aj (by(rw[b];exact Nat.le_refl 8)) λA=>aw h (by rw[c]at a;rw[Dg.L0 a,b,c];rfl) rfl rfl) λu=>(by exfalso;omega)
def qI:Ctr Un:=⟨[.one (.obj 0 0),.one (.int .u32)],[],[.ob 1 [(1,1,0)],.ob 0 []],[],λw r E a m K=>E.n=m.S/\(0<=(w:Int)/\(w:Int)<4294967296)/\K ⟨J ((E.on m).kW w),none,[],[],[]⟩⟩
theorem Ca:LV Un prog 73 qI:=bR Tryz.func73 ak [(80,lu)] ⟨nu,trivial⟩ [] .leaf [] (F:=∀w r (E:Pd) b (m:Mem) Q,qI.body w r E b m Q->Pd.Ok E->Mem.Wf m->E.n=m.S/\split (decide ((u64.wrap w)>=(u64.wrap (E.on m).S))) (Q ⟨J (-1),none,[],[],[]⟩) (Q ⟨J (i64.wrap w),none,[],[],[]⟩)) λw r E b m Q h=>by
 obtain⟨e,j,h⟩:=h;exact λf1 f2=>aj ‹_› λs3=>av (λa=>(by(have c:((E.on m).S:Int)<=64:=by have:=f1.ir;show((m.S:Nat):Int)<=64;omega);(rw[jg (by omega),jg (by omega)]at a);(have hb:(E.on m).has w=false:=by unfold DB.has;rw[decide_eq_false_iff_not];omega);exact cv h (by unfold DB.kW;rw[hb];rfl))) λa=>(by(have c:((E.on m).S:Int)<=64:=by have:=f1.ir;show((m.S:Nat):Int)<=64;omega);(rw[jg (by omega),jg (by omega)]at a);(have hb:(E.on m).has w=true:=by unfold DB.has;rw[decide_eq_true_eq];omega);exact cv h (by unfold DB.kW;rw[hb,ay (by omega)];rfl))
section
variable {kk:List Int}{d:DB}{s w:Int}
theorem DB.LI(h:¬d.cZ s=0):d.cr s=d.cZ s/\DB.fx kk d s=d:=by
 have e:d.cr s=d.cZ s:=by unfold DB.cr;rw[if_pos h]
 exact⟨e,by unfold DB.fx;rw[if_neg (by rw[e];exact h)]⟩
theorem DB.LH(h:d.cZ s=0)(a:¬(d.at_ s).state=1):d.cr s=4/\DB.fx kk d s=d:=by
 have e:d.cr s=4:=by unfold DB.cr;rw[if_neg (by rw[h];decide),if_pos a]
 exact⟨e,by unfold DB.fx;rw[if_neg (by rw[e];decide)]⟩
theorem DB.LK(h:d.cZ s=0)(a:(d.at_ s).state=1)(b:¬Dg.aL (d.mem.dgW s)=0):d.cr s=4/\DB.fx kk d s=d:=by
 have e:d.cr s=4:=by unfold DB.cr;rw[if_neg (by rw[h];decide),if_neg (by rw[a];decide),if_pos b]
 exact⟨e,by unfold DB.fx;rw[if_neg (by rw[e];decide)]⟩
theorem DB.LJ(h:d.cZ s=0)(a:(d.at_ s).state=1)(b:Dg.aL (d.mem.dgW s)=0):d.cr s=0/\DB.fx kk d s=(d.aT ((d.mem.wrs s 3 ((s8L (Dg.sum kk (Dg.load (d.mem.dgW s)))).map U32.v)).wrs s 11 (List.replicate 26 0))).setState s 2:=by
 have e:d.cr s=0:=by unfold DB.cr;rw[if_neg (by rw[h];decide),if_neg (by rw[a];decide),if_neg (by rw[b];decide)]
 exact⟨e,by unfold DB.fx;rw[if_pos e];rfl⟩
theorem DB.Oq(h:¬d.cZ s=0):d.bU s w=d.cZ s/\d.fw s w=d:=by
 have e:d.bU s w=d.cZ s:=by unfold DB.bU;rw[if_pos h]
 exact⟨e,by unfold DB.fw;rw[if_neg (by rw[e];exact h)]⟩
theorem DB.On(h:d.cZ s=0)(a:(d.at_ s).state=3):d.bU s w=22/\d.fw s w=d:=by
 have e:d.bU s w=22:=by unfold DB.bU;rw[if_neg (by rw[h];decide),if_pos a]
 exact⟨e,by unfold DB.fw;rw[if_neg (by rw[e];decide)]⟩
theorem DB.Oo(h:d.cZ s=0)(a:¬(d.at_ s).state=3)(b:d.has w=false):d.bU s w=1/\d.fw s w=d:=by
 have e:d.bU s w=1:=by unfold DB.bU;rw[if_neg (by rw[h];decide),if_neg a,b];rfl
 exact⟨e,by unfold DB.fw;rw[if_neg (by rw[e];decide)]⟩
theorem DB.Om(h:d.cZ s=0)(a:¬(d.at_ s).state=3)(b:d.has w=true)(c:¬d.cX w 6 s=0):d.bU s w=2/\d.fw s w=d:=by
 have e:d.bU s w=2:=by unfold DB.bU;rw[if_neg (by rw[h];decide),if_neg a,b,if_neg (by decide),if_pos c]
 exact⟨e,by unfold DB.fw;rw[if_neg (by rw[e];decide)]⟩
theorem DB.Ot(h:d.cZ s=0)(a:¬(d.at_ s).state=3)(b:d.has w=true)(c:d.cX w 6 s=0):d.bU s w=0/\d.fw s w=d.take w 6 s:=by
 have e:d.bU s w=0:=by unfold DB.bU;rw[if_neg (by rw[h];decide),if_neg a,b,if_neg (by decide),if_neg (by rw[c];decide)]
 exact⟨e,by unfold DB.fw;rw[if_pos e]⟩
theorem Mem.HE {m:Mem}{a o i:Int}{l:List Int}(c:0<=o/\o<1024)(hi:0<=i/\i<(l.length:Int))(e:l.length<=1024):m.wrs a o (l.take (i64.wrap (i+1)).toNat)=(m.wrs a o (l.take i.toNat)).write true a (i64.wrap (o+i)) (l.getD i.toNat 0):=by
 have b:i.toNat<l.length:=by omega
 rw[ay (x:=i+1) (by omega),ay (x:=o+i) (by omega),show(i+1).toNat=i.toNat+1 by omega,List.take_add_one,List.getElem?_eq_getElem b,List.getD_eq_getElem?_getD,List.getElem?_eq_getElem b];show m.wrs a o (l.take i.toNat++ [l[i.toNat]])=_;rw[Mem.pA,List.length_take];congr 1;omega
theorem NR {S:S8}{i:Int}(hi:0<=i/\i<8):(#[Value.int .u32 S.a,.int .u32 S.b,.int .u32 S.c,.int .u32 S.d,.int .u32 S.e,.int .u32 S.f,.int .u32 S.g,.int .u32 S.h]:Array Value)[i.toNat]? =some (O (((s8L S).map U32.v).getD i.toNat 0)):=by
 rcases(show i=0\/i=1\/i=2\/i=3\/i=4\/i=5\/i=6\/i=7 by omega)with rfl|rfl|rfl|rfl|rfl|rfl|rfl|rfl<;>rfl
theorem NQ {S:S8}(h:S.ok){i:Int}:0<=((s8L S).map U32.v).getD i.toNat 0/\((s8L S).map U32.v).getD i.toNat 0<4294967296:=by
 obtain⟨a,b,c,j,k,l,o,p⟩:=h;rw[List.getD_eq_getElem?_getD];cases e:((s8L S).map U32.v)[i.toNat]? with
 |none=>exact⟨by decide,by decide⟩
 | some x=>
  have:=List.mem_of_getElem? e;simp only[s8L,List.map_cons,List.map_nil,List.mem_cons,List.not_mem_nil,or_false]at this;rcases this with rfl|rfl|rfl|rfl|rfl|rfl|rfl|rfl<;>assumption
end
def nQ:Ctr Un:=⟨[.one (.obj 0 0),.one (.int .u32)],[],[.ob 1 [(1,1,0)],.ob 0 []],[],λw r E a m K=>E.n=m.S/\(0<=(w:Int)/\(w:Int)<4294967296)/\K ⟨(.tuple #[J ((E.on m).lfP w),(.agg #[J ((E.on m).lfE w).typ,J ((E.on m).lfE w).owner,J ((E.on m).lfE w).refs,J ((E.on m).lfE w).state,vB (((E.on m).lfE w).bq)]),O ((E.on m).cZ w)]),(some (.t [none,none,none])),[],[],[]⟩⟩
theorem yh:LV Un prog 72 nQ:=bR Tryz.func72 ak [(73,qI),(14,eU)] ⟨Ca,fP,trivial⟩ [] (.r' (.r' (.r' (.r' (.r' (.two (.node [] none [] [(1,[3])] .leaf .leaf) .leaf)))))) [] (F:=∀w r (E:Pd) k (m:Mem) Q,nQ.body w r E k m Q->Pd.Ok E->Mem.Wf m->∀(l:Nat),E.n=m.S/\(0<=w/\w<4294967296)/\split (decide (((E.on m).kW w)<0)) (Q ⟨(.tuple #[J 0,(.agg #[J 0,J 0,J 0,J 0,vB false]),O 1]),(some (.t [none,none,none])),[],[],[]⟩) (E.n=m.S/\∀(o:Nat),split (((E.on m).entry ((E.on m).kW w)).typ !=1) (Q ⟨(.tuple #[J 0,(.agg #[J 0,J 0,J 0,J 0,vB false]),O 3]),(some (.t [none,none,none])),[],[],[]⟩) (Q ⟨(.tuple #[J ((E.on m).kW w),(.agg #[J ((E.on m).entry ((E.on m).kW w)).typ,J ((E.on m).entry ((E.on m).kW w)).owner,J ((E.on m).entry ((E.on m).kW w)).refs,J ((E.on m).entry ((E.on m).kW w)).state,vB (((E.on m).entry ((E.on m).kW w)).bq)]),O 0]),(some (.t [none,none,none])),[],[],[]⟩))) λw r E k m Q h=>by
 obtain⟨p,q,h⟩:=h;exact λf1 f2 l=>aj ‹_› λs3=>aj ‹_› λu=>av (λj=>(by have hb:=DB.uT.1 j;(have hE:((E.on m).cZ w)=1:=by unfold DB.cZ;rw[hb];rfl);(have a:=DB.I6 (d:=(E.on m)) (w:=w) (by rw[hE];decide));exact aw h (bJ (ai (aJ (by exact a.1)) (ai (fB (ai (aJ (by(rw[a.2]))) (ai (aJ (by(rw[a.2]))) (ai (aJ (by(rw[a.2]))) (ai (aJ (by(rw[a.2]))) (ai (eQb (by(rw[a.2]))) rfl)))))) (ai (aE (by exact hE)) rfl)))) rfl rfl)) λj=>aj ‹_› λv o=>ax (λc=>(by obtain⟨hb,e⟩:=DB.tw j;have b:(E.on m).entry w=(E.on m).at_ w:=if_pos e;rw[hb,b]at c;(have hE:((E.on m).cZ w)=3:=by unfold DB.cZ;rw[e,if_pos c];rfl);(have a:=DB.I6 (d:=(E.on m)) (w:=w) (by rw[hE];decide));exact aw h (bJ (ai (aJ (by exact a.1)) (ai (fB (ai (aJ (by(rw[a.2]))) (ai (aJ (by(rw[a.2]))) (ai (aJ (by(rw[a.2]))) (ai (aJ (by(rw[a.2]))) (ai (eQb (by(rw[a.2]))) rfl)))))) (ai (aE (by exact hE)) rfl)))) rfl rfl)) λc=>(by obtain⟨hb,e⟩:=DB.tw j;have b:(E.on m).entry w=(E.on m).at_ w:=if_pos e;rw[hb,b]at c;(have hE:((E.on m).cZ w)=0:=by unfold DB.cZ;rw[e,c];rfl);have a:=DB.lI hE;exact aw h (bJ (ai (aJ (by(rw[a.1,hb]))) (ai (fB (ai (aJ (by(rw[a.2.1,hb,b]))) (ai (aJ (by(rw[a.2.1,hb,b]))) (ai (aJ (by(rw[a.2.1,hb,b]))) (ai (aJ (by(rw[a.2.1,hb,b]))) (ai (eQb (by(rw[a.2.1,hb,b]))) rfl)))))) (ai (aE (by exact hE)) rfl)))) rfl rfl)
def rR:Ctr Un:=⟨[.one (.obj 0 0),.one (.int .u32),.one (.int .u32)],[],[.ob 1 [(1,1,0)],.ob 0 []],[0,1],λs w r E a m K=>E.n=m.S/\(0<=(s:Int)/\(s:Int)<4294967296)/\(0<=(w:Int)/\(w:Int)<4294967296)/\K ⟨O ((E.on m).bU s w),none,[.ob 1 (((E.on m).fw s w).pd),.ob 0 (((E.on m).fw s w).mem)],[],[]⟩⟩
theorem Hf:LV Un prog 33 rR:=bR Tryz.func33 ak [(72,nQ),(73,qI),(37,ki)] ⟨yh,Ca,tL,trivial⟩ [21,25,29] .leaf [] (F:=∀s w r (E:Pd) v (m:Mem) Q,rR.body s w r E v m Q->Pd.Ok E->Mem.Wf m->E.n=m.S/\(0<=s/\s<4294967296)/\∀(C:Nat),E.n=m.S/\(0<=w/\w<4294967296)/\∀y:Bool,y=((((E.on m).cZ s):Int) !=0)->split y (Q ⟨O ((E.on m).cZ s),none,[.ob 1 E,.ob 0 m],[],[]⟩) (∀z:Bool,z=((((E.on m).lfE s).state:Int)==3)->split z (Q ⟨O 22,none,[.ob 1 E,.ob 0 m],[],[]⟩) (∀A:Bool,A=(decide ((((E.on m).kW w):Int)<0))->split A (Q ⟨O 1,none,[.ob 1 E,.ob 0 m],[],[]⟩) (E.n=m.S/\∀(k:Pd),k=((E.on m).take ((E.on m).kW w) 6 ((E.on m).lfP s)).pd->Pd.Ok k->∀(m1:Mem),m1=((E.on m).take ((E.on m).kW w) 6 ((E.on m).lfP s)).mem->Mem.Wf m1->split (((E.on m).cX ((E.on m).kW w) 6 ((E.on m).lfP s)) !=0) (Q ⟨O 2,none,[.ob 1 k,.ob 0 m1],[],[]⟩) (Q ⟨O 0,none,[.ob 1 k,.ob 0 m1],[],[]⟩))))) λs w r E v m Q h=>by
 obtain⟨u,G,H,h⟩:=h;exact λf1 f2=>aj ‹_› λs3=>aj ‹_› λI C=>aj ‹_› λJ=>aj ‹_› λK=>allEq<| ax (λb=>(by have a:=DB.Oq (w:=w) b;exact aw h (aE (a.1)) (ai (uO1 (by(rw[a.2];exact Pd.bT _ _ u))) (ai (uO0 (by(rw[a.2];rfl))) rfl)) rfl)) λb=>allEq<| ar (λc=>(by obtain⟨l,e,g3⟩:=DB.lI b;rw[e]at c;have a:=DB.On (w:=w) b c;exact aw h (aE (a.1)) (ai (uO1 (by(rw[a.2];exact Pd.bT _ _ u))) (ai (uO0 (by(rw[a.2];rfl))) rfl)) rfl)) λc=>allEq<| av (λo=>(by obtain⟨l,e,g3⟩:=DB.lI b;rw[e]at c;have a:=DB.Oo b c (DB.uT.1 o);exact aw h (aE (a.1)) (ai (uO1 (by(rw[a.2];exact Pd.bT _ _ u))) (ai (uO0 (by(rw[a.2];rfl))) rfl)) rfl)) λo=>aj ‹_› λL k p f8 m1 q f9=>ax (λj=>(by obtain⟨l,e,g3⟩:=DB.lI b;rw[e]at c;obtain⟨b1,b2⟩:=DB.tw o;rw[l,b1]at j p q;have a:=DB.Om b c b2 j;(have B:(E.on m).take w 6 s=(E.on m):=by unfold DB.take;rw[if_neg j]);exact aw h (aE (a.1)) (ai (uO1 (by(rw[a.2,p,B];done))) (ai (uO0 (by(rw[a.2,q,B];done))) rfl)) rfl)) λj=>(by obtain⟨l,e,g3⟩:=DB.lI b;rw[e]at c;obtain⟨b1,b2⟩:=DB.tw o;rw[l,b1]at j p q;have a:=DB.Ot b c b2 j;exact aw h (aE (a.1)) (ai (uO1 (by(rw[a.2,p];done))) (ai (uO0 (by(rw[a.2,q];done))) rfl)) rfl)
def rT:Ctr Un:=⟨[.one (.obj 0 0),.one (.int .u32)],[(2,5)],[.ob 1 [(1,1,0)],.ob 0 [],.ob 5 []],[0,1],λs r E a m b kk K=>E.n=m.S/\(0<=(s:Int)/\(s:Int)<4294967296)/\K ⟨O ((E.on m).cr s),none,[.ob 1 ((DB.fx kk (E.on m) s).pd),.ob 0 ((DB.fx kk (E.on m) s).mem)],[],[]⟩⟩
theorem Hg:LV Un prog 34 rT:=bR Tryz.func34 ak [(72,nQ),(23,bV),(39,eP),(74,rO),(36,fN),(18,kj)] ⟨yh,cC,fW,G8,jY,ta,trivial⟩ [24,28] (.r' (.r' (.r' (.r' (.r' (.two (.r' (.two (.node [] (some ⟨[(36,(.one (.int .i64)))],[],[11]++upN 36 14,[(1,(.ob 0)),(5,(.ob 7))]⟩) [] [] .leaf .leaf) .leaf)) (.r' (.r' (.two (.r' (.two (.node [] (some ⟨[(58,(.one (.int .i64)))],[],[14,15]++upN 58 11,[(1,(.ob 0))]⟩) [] [] .leaf .leaf) .leaf)) (.two (.r' (.two (.node [] (some ⟨[(69,(.one (.int .i64)))],[],[16]++upN 69 9,[(1,(.ob 0))]⟩) [] [] .leaf .leaf) .leaf)) .leaf)))))))))) [] (F:=∀s r (E:Pd) Z (m:Mem) rk (kk:List Int) Q,rT.body s r E Z m rk kk Q->Pd.Ok E->Mem.Wf m->E.n=m.S/\(0<=s/\s<4294967296)/\∀(gv:Nat),∀UM:Bool,UM=((((E.on m).cZ s):Int) !=0)->split UM (Q ⟨O ((E.on m).cZ s),none,[.ob 1 E,.ob 0 m],[],[]⟩) (∀S4:Bool,S4=((((E.on m).lfE s).state:Int) !=1)->split S4 (Q ⟨O 4,none,[.ob 1 E,.ob 0 m],[],[]⟩) (∀(Ru:Nat),∀(RT:Nat),∀(s1:List U32),s1=(W26.n (W26.mk []))->∃I:Nat->Int->Mem->List U32->Prop,(∃m1,I m1 0 m s1)/\∀(m1:Nat)(Vn:Nat->Value)(b:Int)(p:Mem)(a:List U32),I m1 b p a->Mem.Wf p->split (decide (b<26)) (∀(j:Mem),j=p->Mem.Wf j->((0<=b/\b<(a.length:Int))/\b<(26:Int))/\True/\∀(s2:List U32),s2=(List.set a b.toNat (uM (p.aI true ((E.on m).lfP s) (i64.wrap (11+b)))))->∃m2,m2<m1/\I m2 (i64.wrap (b+1)) j s2) ((26<=a.length)/\W26.Ok (W26.mk (W26.n (W26.mk a)))/\∀(Tt:Nat),∀(s2:List U32),s2=([uM 0,uM 0,uM 0,uM 0,uM 0,uM 0,uM 0,uM 0]:List U32)->(s2.length=8)/\∀(s3:List U32),s3=([uM ((Dg.k9 kk (W26.n (W26.mk (W26.n (W26.mk a))))).a),uM ((Dg.k9 kk (W26.n (W26.mk (W26.n (W26.mk a))))).b),uM ((Dg.k9 kk (W26.n (W26.mk (W26.n (W26.mk a))))).c),uM ((Dg.k9 kk (W26.n (W26.mk (W26.n (W26.mk a))))).d),uM ((Dg.k9 kk (W26.n (W26.mk (W26.n (W26.mk a))))).e),uM ((Dg.k9 kk (W26.n (W26.mk (W26.n (W26.mk a))))).f),uM ((Dg.k9 kk (W26.n (W26.mk (W26.n (W26.mk a))))).g),uM ((Dg.k9 kk (W26.n (W26.mk (W26.n (W26.mk a))))).h)]:List U32)->split ((Dg.aL (W26.n (W26.mk (W26.n (W26.mk a))))) !=0) (Q ⟨O 4,none,[.ob 1 E,.ob 0 p],[],[]⟩) ((8<=s3.length)/\∃J:Nat->Int->Mem->Prop,(∃j,J j 0 p)/\∀(j:Nat)(XM:Nat->Value)(c:Int)(u:Mem),J j c u->Mem.Wf u->split (decide (c<8)) ((0<=c/\c<(8:Int))/\∃B:Int,(#[O (s3.getD 0 (uM 0)).v,O (s3.getD 1 (uM 0)).v,O (s3.getD 2 (uM 0)).v,O (s3.getD 3 (uM 0)).v,O (s3.getD 4 (uM 0)).v,O (s3.getD 5 (uM 0)).v,O (s3.getD 6 (uM 0)).v,O (s3.getD 7 (uM 0)).v]:Array Value)[Int.toNat c*1]? =some (O B)/\(0<=B/\B<4294967296)/\∀(k:Mem),k=(u.write true ((E.on m).lfP s) (i64.wrap (3+c)) B)->Mem.Wf k->∃m4,m4<j/\J m4 (i64.wrap (c+1)) k) (∃K:Nat->Int->Mem->Prop,(∃k,K k 0 u)/\∀(k:Nat)(af:Nat->Value)(l:Int)(o:Mem),K k l o->Mem.Wf o->split (decide (l<26)) ((0<=(0:Int)/\(0:Int)<4294967296)/\∀(q:Mem),q=(o.write true ((E.on m).lfP s) (i64.wrap (11+l)) 0)->Mem.Wf q->∃m6,m6<k/\K m6 (i64.wrap (l+1)) q) (E.n=o.S/\∀(C:Pd),C=((E.on o).setState ((E.on m).lfP s) 2).pd->Pd.Ok C->∀(q:Mem),q=((E.on o).setState ((E.on m).lfP s) 2).mem->Mem.Wf q->Q ⟨O 0,none,[.ob 1 C,.ob 0 q],[],[]⟩))))))) λs r E Z m rk kk Q h=>by
 obtain⟨G,RJ,h⟩:=h;exact λf1 f2=>aj ‹_› λe3=>aj ‹_› λe4 gv=>allEq<| ax (λv=>(by have e:=DB.LI (kk:=kk) v;exact aw h (aE (e.1)) (ai (uO1 (by(rw[e.2];exact Pd.bT _ _ G))) (ai (uO0 (by(rw[e.2];rfl))) rfl)) rfl)) λv=>allEq<| ax (λz=>(by obtain⟨A,L,g3⟩:=DB.lI v;rw[L]at z;exact(by have e:=DB.LH (kk:=kk) v z;exact aw h (aE (e.1)) (ai (uO1 (by(rw[e.2];exact Pd.bT _ _ G))) (ai (uO0 (by(rw[e.2];rfl))) rfl)) rfl))) λz=>(by obtain⟨A,L,g3⟩:=DB.lI v;rw[L]at z;exact λRu RT s1 Rt=>⟨λm1 b p a=>(m1=(26 - b).toNat)/\(0<=b/\b<=26)/\(p=m)/\(a=(m.dgW ((E.on m).lfP s)).take b.toNat++List.replicate (26 - b.toNat) (uM 0)),⟨_,rfl,(by omega),(by rfl),(by rw[Rt];rfl)⟩,λm1 _ b p a ⟨hm,h1,H,M⟩=>λf5=>av (λc3 j Rz f6=>aj (by rw[M];simp[Mem.fA];omega) λe7=>aj trivial λ_ s2 R=>⟨_,(by rw[ay (by omega)];omega),rfl,(by rw[ay (by omega)];omega),(by rw[Rz];exact H),(by subst H;rw[R];exact Mem.u9 (by omega) M)⟩) λc3=>(by(have ab:b=26:=by omega);(have T:a=m.dgW s:=by rw[M,A];exact Mem.zb ab);(have V:W26.n (W26.mk (W26.n (W26.mk a)))=m.dgW s:=by rw[T];exact W26.nn (Mem.fA m s));exact aj (by rw[T];exact Nat.le_of_eq (Mem.fA m s).symm) λe9=>aj (by rw[T];exact W26.Ax (Mem.fA m s) (Mem.kd ‹Mem.Wf m› s)) λah Tt s2 R=>aj (by rw[R];rfl) λan s3 RW=>ax (λy=>(by rw[V]at y;have e:=DB.LK (kk:=kk) (d:=(E.on m)) v z y;exact aw h (aE (e.1)) (ai (uO1 (by(rw[e.2];exact Pd.bT _ _ G))) (ai (uO0 (by(rw[e.2,H];rfl))) rfl)) rfl)) λy=>(by rw[V]at y;have aa:Dg.k9 kk (m.dgW s)=Dg.sum kk (Dg.load (m.dgW s)):=Dg.AZ y;(have SK:(Dg.k9 kk (m.dgW s)).ok:=by rw[aa];exact uc kk (Dg.eX (Mem.kd ‹Mem.Wf m› s) y).1);(have Zy:s3=s8L (Dg.k9 kk (m.dgW s)):=by rw[RW,V];rfl);exact aj (by rw[Zy];exact Nat.le_refl 8) λaz=>⟨λj c u=>(j=(8 - c).toNat)/\(0<=c/\c<=8)/\(u=m.wrs s 3 (((s8L (Dg.k9 kk (m.dgW s))).map U32.v).take c.toNat)),⟨_,rfl,(by omega),(H)⟩,λj _ c u ⟨hm,h4,h5⟩=>λf13=>av (λc5=>aj (by omega) λaA=>⟨(((s8L (Dg.k9 kk (m.dgW s))).map U32.v).getD c.toNat 0),aj (by rw[Zy,Nat.mul_one];exact NR (S:=Dg.k9 kk (m.dgW s)) (by omega)) λaC=>aj (NQ SK) λaN k Vk f17=>⟨_,(by rw[ay (by omega)];omega),rfl,(by rw[ay (by omega)];omega),(by(have h8:=(show(((s8L (Dg.k9 kk (m.dgW s))).map U32.v):List Int).length=8 from rfl));rw[Mem.HE (by omega) (by omega) (by omega),<-h5,Vk,A])⟩⟩) λc5=>⟨λk l o=>(k=(26 - l).toNat)/\(0<=l/\l<=26)/\(o=(m.wrs s 3 ((s8L (Dg.k9 kk (m.dgW s))).map U32.v)).wrs s 11 ((List.replicate 26 (0:Int)).take l.toNat)),⟨_,rfl,(by omega),(by(have h8:=(show(((s8L (Dg.k9 kk (m.dgW s))).map U32.v):List Int).length=8 from rfl));rw[h5,List.take_of_length_le (by omega)];rfl)⟩,λk _ l o ⟨hm,h6,W⟩=>λf18=>av (λc6=>aj (by omega) λa0 q Y f20=>⟨_,(by rw[ay (by omega)];omega),rfl,(by rw[ay (by omega)];omega),(by(have h8:(List.replicate 26 (0:Int)).length=26:=List.length_replicate ..);rw[Mem.HE (by omega) (by omega) (by omega),<-W,Y,A,show(List.replicate 26 (0:Int)).getD l.toNat 0=0 by(rw[List.getD_eq_getElem?_getD,List.getElem?_replicate];split<;>rfl)])⟩) λc6=>aj (by rw[W,Mem.ju,Mem.ju];exact G) λa1 C RD f22 q Y f23=>(by have e:=DB.LJ (kk:=kk) (d:=(E.on m)) v z y;(have ae:o=(m.wrs s 3 ((s8L (Dg.sum kk (Dg.load (m.dgW s)))).map U32.v)).wrs s 11 (List.replicate 26 0):=by(rw[W,aa,List.take_of_length_le (by rw[List.length_replicate];omega)]));(have hD:DB.fx kk (E.on m) s=(E.on o).setState s 2:=by rw[e.2,ae];rfl);exact aw h (aE (e.1)) (ai (uO1 (by(rw[hD,RD,A]))) (ai (uO0 (by(rw[hD,Y,A]))) rfl)) rfl)⟩⟩))⟩)
def qJ:Ctr Un:=⟨[.one (.obj 0 0),.one (.int .i64),.one (.sl 1)],[],[.ob 0 [],.lst 1 false 23],[0],λp a m A c l K=>dy l/\K ⟨(.tuple #[]),(some (.t [])),[.ob 0 (m.fil p l (Wd.nw l))],[],[]⟩⟩
def zJ(p:Int)(h:Nat->Nat)(m:Mem)(A:oA)(c:Nat)(l:List U32)(Q:Ou Un->Prop):Prop:=Mem.Wf m->∀(m1:Mem),m1=(m.zero false p)->Mem.Wf m1->∀i:Int,i=0->∃I:Nat->Int->Mem->Prop,(∃m2,I m2 i m1)/\∀(m2:Nat)(j:Nat->Value)(i1:Int)(s0:Mem),I m2 i1 s0->Mem.Wf s0->∃J:Bool->Prop,(split (decide (i1<(l.length:Int))) (J (decide (i1<1024))) (J false))/\∀(k:Nat->Value)(b:Bool),J b->split b ((0<=i1/\i1<(l.length:Int))/\(0<=(vG l i1.toNat)/\(vG l i1.toNat)<4294967296)/\∀(a:Mem),a=(s0.write false p i1 (vG l i1.toNat))->Mem.Wf a->∀i2:Int,i2=(i64.wrap (i1+1))->∃e,e<m2/\I e i2 a) (Q ⟨(.tuple #[]),(some (.t [])),[.ob 0 s0],[],[]⟩)
theorem zK:Vc2 Un prog (iy [(52,zy),(36,fN)]) [6] Tryz.f29 (.r' (.r' (.two (.node [] (some ⟨[(6,(.one (.int .i64)))],[],[6]++upN 11 19,[(0,(.ob 0))]⟩) [] [] (.two (.two (.node [] (some ⟨[(18,(.one .bool))],[],upN 11 8,[]⟩) [] [] .leaf .leaf) .leaf) .leaf) .leaf) .leaf))) [] qJ=(∀p a (m:Mem) A c (l:List U32),∀Q,(dy l/\Q ⟨(.tuple #[]),(some (.t [])),[.ob 0 (m.fil p l (Wd.nw l))],[],[]⟩)->zJ p a m A c l Q):=by kernel_rfl
theorem zI:LV Un prog 29 qJ:=verify Tryz.func29 ak (tb:= [(52,zy),(36,fN)]) ⟨ME,jY,trivial⟩ (by kernel_rfl) (zK.mpr λp u m A c l Q h=>by
 obtain⟨j,h⟩:=h;exact λf1 m1 k f2=>allEq<| ⟨λm2 i1 s0=>(m2=(1024 - i1).toNat)/\(0<=i1/\i1<=(Wd.nw l:Nat))/\(s0=m.fil p l i1.toNat),⟨_,rfl,(by omega),(by rw[k];rfl)⟩,λm2 _ i1 s0 ⟨hm,hi,e⟩=>λf3=>eS ((decide ((i1:Int)<((l.length:Nat):Int))) && (decide ((i1:Int)<1024))) (ao (λo=>(by grind)) λo=>(by grind))<| cT (λb=>aj (by(have a:=b;simp only[decide_eq_true_eq]at a;unfold Wd.nw at *;omega)) λv=>aj (File.oW j _) λy z q f6=>allEq<| ⟨_,(by(have a:=b;simp only[decide_eq_true_eq]at a;unfold Wd.nw at *;rw[ay (by omega)];omega)),rfl,(by(have a:=b;simp only[decide_eq_true_eq]at a;unfold Wd.nw at *;rw[ay (by omega)];omega)),(by(have a:=b;simp only[decide_eq_true_eq]at a;unfold Wd.nw at *;rw[q,e,ay (by omega),show(i1+1).toNat=i1.toNat+1 by omega,Mem.qk,show((i1.toNat:Nat):Int)=i1 by omega]))⟩) λb=>aw h rfl (ai (uO0 (by rw[e,show i1.toNat=Wd.nw l by(have a:=b;simp only[decide_eq_true_eq]at a;unfold Wd.nw at *;omega)])) rfl) rfl⟩)
end
def Wls.get(s:List Wt)(A:oA)(n c:Nat):List U32:=if n=0 then []else match s.find? (λx=>decide (x.A=A/\x.l.length=n/\x.c=c))with
 |some x=>x.l
 |none=>[]
def Wls.Has(s:List Wt)(A:oA)(n c:Nat):Prop:=n=0\/∃x∈s,x.A=A/\x.l.length=n/\x.c=c
theorem Wls.rd {s:List Wt}{A:Option Addr}{n c:Nat}{X:Nat->Prop}{w:World}(h:Wls.Has s A n c)(j:∀k,X k->k<w.heap.size)(hs:∀x∈s,Rd w X x.A x.l.length x.c x.l):Rd w X A (Wls.get s A n c).length c (Wls.get s A n c)/\(Wls.get s A n c).length=n:=by
 unfold Wls.get;by_cases a:n=0
 ·rw[if_pos a];exact⟨⟨rfl,Nat.zero_le _,j,λi x hi=>by cases hi⟩,a.symm⟩
 ·rw[if_neg a];obtain⟨x,l,o,p,q⟩:=h.resolve_left a;cases b:s.find? (λx=>decide (x.A=A/\x.l.length=n/\x.c=c))with
  |none=>exact absurd (List.find?_eq_none.1 b x l) (by simp[o,p,q])
  | some y=>
   have e:=List.find?_some b;simp only[decide_eq_true_eq]at e;obtain⟨e1,u,v⟩:=e;have:=hs y (List.mem_of_find?_eq_some b);rw[e1,v]at this;exact⟨this,u⟩
theorem Wls.get_nil(s:List Wt):Wls.get s none 0 0= []:=if_pos rfl
theorem Wls.yY(s:List Wt):Wls.Has s none 0 0:=.inl rfl
theorem aR.PB {U:Uni}{a b c:Res U}{X:Nat->Nat->Prop}{w H:World}{Q I:Ou U->Prop}{e:Ending}(hs:Sat [a,c] X w)(hw:rw1 a=true)
 (M:∀out,Q out->I out/\out.news= []/\out.kc= []/\∀rs:List (Res U),KnO rs out.res out.kr)(h:aR [a,b] [0] X w Q e H):aR [a,c] [0] X w I e H:=by
 obtain⟨out,rs',B,he,hq,o,hp⟩:=h;obtain⟨O,C,R,S⟩:=M out hq;have hd:∀k,X 0 k->¬X 1 k:=hs.gX 0 1 (by simp) (by simp) (by omega) (by rw[show rwB [a,c] 0=true from hw,Bool.true_or]);have T:=hs.lt (i:=1) (by simp);have V:∃u a',out.upd= [u]/\cV a u=some a'/\rs'= [a',b]:=by
  match hu:out.upd with
  | []=>rw[hu]at o;simp[br]at o
  | [u]=>
   rw[hu]at o;simp only[br,nth]at o;cases q:cV a u with
   |none=>rw[q]at o;simp at o
   |some a'=>rw[q]at o;simp[cf]at o;exact⟨u,a',rfl,q,o.symm⟩
  | u::v::l=>
   rw[hu]at o;simp only[br,nth]at o;cases q:cV a u with
   |none=>rw[q]at o;simp at o
   |some a'=>rw[q]at o;simp[br]at o
 obtain⟨u,a',hu,q,rfl⟩:=V;have e1:B 1=X 1:=hp.same 1 (by simp) (by simp);have J:∀k,B 0 k->¬X 1 k:=λk y A=>(hp.grow 0 (by simp) k y).elim (λh=>hd k h A) λh=>by have:=T k A;omega
 have K:=hp.sat;rw[C,List.append_nil]at K;refine⟨out,[a',c],B,he,O,by rw[hu];simp[br,nth,q,cf],?_,hp.ch,λi hi hm=>hp.same i (by simpa using hi) hm,hp.grow,λi W L=>by rw[C]at L;simp at W L;omega,.inr (S _),λkey k y=>by rw[R]at y;cases y⟩;rw[C,List.append_nil];refine⟨λi r p=>?_,λi j hi z Y _ k F G=>?_⟩
 ·match i,p with
  |0,p=>simp only[nth,Option.some.injEq]at p;subst p;exact K.res 0 _ rfl
  | 1,p=>
   simp only[nth,Option.some.injEq]at p;subst p;rw[e1];exact(hs.res 1 _ rfl).ch hp.ch λk y ⟨j,z,A⟩=>by
    simp at z;subst z;exact hd k A y
  |i+2,p=>simp[nth]at p
 ·simp at hi z
  match i,j,hi,z,Y with
  |0,1,_,_,_=>rw[e1]at G;exact J k F G
  |1,0,_,_,_=>rw[e1]at F;exact J k G F
  |0,0,_,_,h=>exact h rfl
  |1,1,_,_,h=>exact h rfl
end Go.Proofs.YtjiflmkpbkeocaaGreatDoor
