/- SnapForms returns true for every input: a snapshot that the program reads is read alike by the document's answer, with the same refusals and the same words. -/
import Derived.Test.YtoghdgcmhbanbaaGreatDoorF1
import Derived.Laws.IdiomCopy
import Derived.Laws.MakeOwn
import Derived.Laws.OwnMore
import Derived.Lib.SliceRun
import Derived.Maps.AppendAt
import Derived.WalkKit
import Derived.Deep.Upon
import Derived.ArgAppend
set_option linter.unusedVariables false
set_option linter.unusedSimpArgs false
section
set_option maxRecDepth 100000
namespace Go.Proofs.YtoghdgcmhbanbaaGreatDoor
open Go Go.RowKit V
open Go.IntKind (i64 u32 u64 wrap_i64 wrap_u32)
open Go.Proofs (Tryz.prog)
theorem qO(b:oA)(d f:Nat)(a:Int){R:aK}{w:World}(h:∀(i:Nat)(j:World),i=w.heap.size->j=w.alloc (.cells #[vY (IntKind.u8.wrap ((a:Int).fdiv (2 ^ 24))),vY (IntKind.u8.wrap ((a:Int).fdiv (2 ^ 16))),vY (IntKind.u8.wrap ((a:Int).fdiv (2 ^ 8))),vY (IntKind.u8.wrap a)] 5)->∃o:oA,∃p q:Nat,∃r,(Builtin.append_ #[27,27] 27 #[(.slice b d f),(.slice (pvA i) 4 4)]:Sem Value).run Tryz.prog j=.ok (.slice o p q) r/\R (.slice o p q) r):Calls Tryz.prog 25 #[(.slice b d f),O a] w (aT R):=rvc [] (.leaf) Tryz.func25 h
theorem BB(a:oA)(b o:Nat){R:aK}{w:World}(h:(0<=(0:Int)/\(0:Int)<((b:Nat):Int))/\ai a λp=>∃d:Int,w.drew.cell? (p.add (Int.toNat 0*1))=some (vY d)/\(0<=(1:Int)/\(1:Int)<((b:Nat):Int))/\ai a λq=>∃f:Int,w.drew.cell? (q.add (Int.toNat 1*1))=some (vY f)/\(0<=(2:Int)/\(2:Int)<((b:Nat):Int))/\ai a λr=>∃i:Int,w.drew.cell? (r.add (Int.toNat 2*1))=some (vY i)/\(0<=(3:Int)/\(3:Int)<((b:Nat):Int))/\ai a λs=>∃j:Int,w.drew.cell? (s.add (Int.toNat 3*1))=some (vY j)/\R (O (u32.wrap (BitVec.ofInt u32.bits (u32.wrap (BitVec.ofInt u32.bits (u32.wrap (BitVec.ofInt u32.bits (u32.wrap ((u32.wrap d:Int)*2 ^ 24)) ||| BitVec.ofInt u32.bits (u32.wrap ((u32.wrap f:Int)*2 ^ 16))).toNat) ||| BitVec.ofInt u32.bits (u32.wrap ((u32.wrap i:Int)*2 ^ 8))).toNat) ||| BitVec.ofInt u32.bits (u32.wrap j)).toNat)) w.drew):Calls Tryz.prog 28 #[(.slice a b o)] w (aT R):=rvc [] (.leaf) Tryz.func28 h
theorem vd(d:oA)(au r:Nat){R:aK}{w:World}(h:∀n:Int,n=1->∃I:Nat->Int->World->Prop,(∃m,I m n w)/\∀(m:Nat)(_gv:Nat->Value)(a:Int),∀b,I m a b->∃f:Bool->World->Prop,(split (decide ((a:Int)<((au:Nat):Int))) ((0<=(a:Int)/\(a:Int)<((au:Nat):Int))/\ai d λs=>∃j:Int,b.drew.cell? (s.add (Int.toNat a*1))=some (O j)/\(0<=(0:Int)/\(0:Int)<((au:Nat):Int))/\ai d λt=>∃o:Int,b.drew.cell? (t.add (Int.toNat 0*1))=some (O o)/\f ((j:Int)==o) b.drew) (f false b.drew))/\∀(_gv1:Nat->Value)(p:Bool),∀i,f p i->split p (∀n2:Int,n2=(i64.wrap (a+1))->∃q,q<m/\I q n2 i) (R (J a) i)):Calls Tryz.prog 26 #[(.slice d au r)] w (aT R):=rvc [3] (aq (aq (.node none (.node none (.node (some ⟨[(3,.one (.int .i64))],(rgN 3 17)⟩) (.node none (.node none (.node (some ⟨[(17,.one (.bool))],(rgN 4 14)⟩) .leaf .leaf) .leaf) .leaf) .leaf) .leaf) .leaf))) Tryz.func26 h
theorem uq(f:oA)(au r:Nat){R:aK}{w:World}(h:∀n:Int,n=1->∃I:Nat->Int->World->Prop,(∃m,I m n w)/\∀(m:Nat)(_gv:Nat->Value)(a:Int),∀b,I m a b->∃d:Bool->World->Prop,(split (decide ((a:Int)<((au:Nat):Int))) (split ((i64.wrap (a+1):Int)==((au:Nat):Int)) (d true b.drew) ((0<=(a:Int)/\(a:Int)<((au:Nat):Int))/\ai f λs=>∃j:Int,b.drew.cell? (s.add (Int.toNat a*1))=some (O j)/\(0<=(i64.wrap (a+1):Int)/\(i64.wrap (a+1):Int)<((au:Nat):Int))/\ai f λt=>∃o:Int,b.drew.cell? (t.add (Int.toNat (i64.wrap (a+1))*1))=some (O o)/\d ((j:Int) !=o) b.drew)) (d false b.drew))/\∀(_gv1:Nat->Value)(p:Bool),∀i,d p i->split p (∀n2:Int,n2=(i64.wrap (a+1))->∃q,q<m/\I q n2 i) (R (J a) i)):Calls Tryz.prog 27 #[(.slice f au r)] w (aT R):=rvc [3] (aq (aq (.node none (.node none (.node (some ⟨[(3,.one (.int .i64))],(rgN 3 26)⟩) (.node none (.node none (.node (some ⟨[(26,.one (.bool))],(rgN 4 23)⟩) .leaf .leaf) .leaf) .leaf) .leaf) .leaf) .leaf))) Tryz.func27 h
theorem yD(V:oA)(au W:Nat){R:aK}{w:World}(h:split (decide ((((au:Nat):Int):Int)>262144)) (R (.slice none 0 0) w) (Calls Tryz.prog 25 #[(.slice none 0 0),O (u32.wrap ((au:Nat):Int))] w λe wv=>∃an:oA,∃az aA:Nat,e=.returned (.slice an az aA)/\∃I:Nat->Option Addr->Nat->Nat->Option Addr->Nat->Nat->World->Prop,(∃m,I m V au W an az aA wv)/\∀(m:Nat)(_gv:Nat->Value)(d:oA)(j f:Nat)(x:oA)(y z:Nat),∀E,I m d j f x y z E->split (decide ((((j:Nat):Int):Int)>0)) (Calls Tryz.prog 26 #[(.slice d j f)] E λe r=>∃F:Int,e=.returned (J F)/\∀n:Int,n=(if(32767:Int)<F then 32767 else F)->split (decide ((n:Int)>=2)) (∃b:bP,(0<=(0:Int)/\(0:Int)<((j:Nat):Int))/\ai d λaC=>b 11 ((aC.add (Int.toNat 0*1)).block)/\∃aN:Int,r.drew.cell? (aC.add (Int.toNat 0*1))=some (O aN)/\∀(s:Nat)(o:World),s=r.drew.heap.size->o=r.drew.alloc (.cells #[vY (IntKind.u8.wrap ((i64.wrap (32768+n):Int).fdiv (2 ^ 8))),vY (IntKind.u8.wrap n)] 5)->Kept (aX b [0,1,9,10,11]) r.drew o/\∃G:bP,(∀i k,b i k->G i k)/\∃a0:oA,∃a1 a2:Nat,∃p,(Builtin.append_ #[27,27] 27 #[(.slice x y z),(.slice (pvA s) 2 2)]:Sem Value).run Tryz.prog o=.ok (.slice a0 a1 a2) p/\Kept (aX G [1,2,9,10,11]) o p/\∃H:bP,(∀i k,G i k->H i k)/\Calls Tryz.prog 25 #[(.slice a0 a1 a2),O aN] p λe t=>∃a3:oA,∃a4 a5:Nat,e=.returned (.slice a3 a4 a5)/\Kept (aX H [1,2,3,5]) p t/\∃b3:bP,(∀i k,H i k->b3 i k)/\(0<=(n:Int)/\(n:Int)<=((j:Nat):Int))/\∀a6:oA,a6=(if f=n.toNat then d else(d:oA).map (·.add (n.toNat *1)))->∀a7:Nat,a7=j - n.toNat->∀a8:Nat,a8=f - n.toNat->∃u,u<m/\I u a6 a7 a8 a3 a4 a5 t) (Calls Tryz.prog 27 #[(.slice d j f)] r λe o=>∃K:Int,e=.returned (J K)/\∀a:Int,a=(if(32767:Int)<K then 32767 else K)->∀(s:Nat)(p:World),s=o.heap.size->p=o.alloc (.cells #[vY (IntKind.u8.wrap ((a:Int).fdiv (2 ^ 8))),vY (IntKind.u8.wrap a)] 5)->∃a9:oA,∃ba bb:Nat,∃t,(Builtin.append_ #[27,27] 27 #[(.slice x y z),(.slice (pvA s) 2 2)]:Sem Value).run Tryz.prog p=.ok (.slice a9 ba bb) t/\(0<=(a:Int)/\(a:Int)<=((f:Nat):Int))/\∀bc:oA,bc=(if f=0 then d else(d:oA).map (·.add (0*1)))->∀M:Nat,M=a.toNat - 0->∀b0:Nat,b0=f - 0->∃N:Nat->Option Addr->Nat->Nat->Int->World->Prop,(∃B,N B a9 ba bb 0 t)/\∀(B:Nat)(_gv2:Nat->Value)(Q:oA)(S U:Nat)(q:Int),∀C,N B Q S U q C->split (decide ((q:Int)<((M:Nat):Int))) ((0<=(q:Int)/\(q:Int)<((M:Nat):Int))/\ai bc λb4=>∃bd:Int,C.cell? (b4.add (Int.toNat q*1))=some (O bd)/\Calls Tryz.prog 25 #[(.slice Q S U),O bd] C λe b5=>∃bg:oA,∃bl bs:Nat,e=.returned (.slice bg bl bs)/\∃m3,m3<B/\N m3 bg bl bs (i64.wrap (q+1)) b5) ((0<=(a:Int)/\(a:Int)<=((j:Nat):Int))/\∀bA:oA,bA=(if f=a.toNat then d else(d:oA).map (·.add (a.toNat *1)))->∀bC:Nat,bC=j - a.toNat->∀bN:Nat,bN=f - a.toNat->∃u,u<m/\I u bA bC bN Q S U C))) (R (.slice x y z) E))):Calls Tryz.prog 12 #[(.slice V au W)] w (aT R):=rvc [3,4] (aq (aq (aq (.node none (.node none (.node (some ⟨[(0,.one (.slice)),(3,.one (.slice))],[0,3,4,6,14,15,16,17,18,19,20,21,22,23,24,25,26,27,28,29,30,31,32,33,34,35,36,37,38,39,40,41,42,43,44,45,46,47,48,49,50,51,52,53,54,55,56,57,58,59,60,61,62,63]⟩) (aq (.node none (aq (aq (aq (aq (.node none (aq (.node none (.node (some ⟨[(3,.one (.slice)),(53,.one (.int .i64))],[3,6,53,54,55,56,57,58,59,60]⟩) .leaf .leaf) .leaf)) .leaf))))) .leaf)) .leaf) .leaf) .leaf)))) Tryz.func12 h
theorem oB(a:oA)(b d:Nat)(f:oA)(i j:Nat){R:aK}{w:World}(h:∃o:ByteArray,∃p,(convert 27 9 (.slice a b d):Sem Value).run Tryz.prog w=.ok (.string o) p/\∃q:ByteArray,∃r,(convert 27 9 (.slice f i j):Sem Value).run Tryz.prog p=.ok (.string q) r/\R (vB ((o:ByteArray).toList==(q:ByteArray).toList)) r):Calls Tryz.prog 29 #[(.slice a b d),(.slice f i j)] w (aT R):=rvc [] (.leaf) Tryz.func29 h
theorem uo(r:oA)(j s:Nat){R:aK}{w:World}(h:split (decide ((((j:Nat):Int):Int)<4)) (R (.tuple #[(.slice none 0 0),J 272]) w) (Calls Tryz.prog 28 #[(.slice r j s)] w λe wv=>∃a2:Int,e=.returned (O a2)/\split (decide ((a2:Int)>262144)) (R (.tuple #[(.slice none 0 0),J 2]) wv) (Calls Tryz.prog 28 #[(.slice r j s)] wv λe b4=>∃a3:Int,e=.returned (O a3)/\∀n:Int,n=(i64.wrap a3)->(0<=(4:Int)/\(4:Int)<=((j:Nat):Int))/\∀a4:oA,a4=(if s=(Int.toNat 4)then r else(r:oA).map (·.add ((Int.toNat 4)*1)))->∀a5:Nat,a5=j - (Int.toNat 4)->∀a6:Nat,a6=s - (Int.toNat 4)->∃I:Nat->Option Addr->Nat->Nat->Option Addr->Nat->Nat->World->Prop,(∃m,I m a4 a5 a6 none 0 0 b4)/\∀(m:Nat)(_gv:Nat->Value)(t:oA)(o a1:Nat)(u:oA)(au an:Nat),∀i,I m t o a1 u au an i->split (decide ((((au:Nat):Int):Int)<n)) (split (decide ((((o:Nat):Int):Int)<2)) (R (.tuple #[(.slice none 0 0),J 272]) i) ((0<=(0:Int)/\(0:Int)<((o:Nat):Int))/\ai t λb5=>∃a7:Int,i.drew.cell? (b5.add (Int.toNat 0*1))=some (vY a7)/\(0<=(1:Int)/\(1:Int)<((o:Nat):Int))/\ai t λb6=>∃a8:Int,i.drew.cell? (b6.add (Int.toNat 1*1))=some (vY a8)/\∀k:Int,k=(i64.wrap (BitVec.ofInt i64.bits (i64.wrap ((i64.wrap a7:Int)*2 ^ 8)) ||| BitVec.ofInt i64.bits (i64.wrap a8)).toNat)->∀run:Bool,run=(decide ((k:Int)>=32768))->∀x:Int,x=((k:Int).tmod 32768)->(0<=(2:Int)/\(2:Int)<=((o:Nat):Int))/\∀p:oA,p=(if a1=(Int.toNat 2)then t else(t:oA).map (·.add ((Int.toNat 2)*1)))->∀az:Nat,az=o - (Int.toNat 2)->∀y:Nat,y=a1 - (Int.toNat 2)->∀size:Int,size=(i64.wrap (4*x))->∃q:Int->World->Prop,(split run (∀d:Int,d=4->q d i.drew) (q size i.drew))/\∀(_gv1:Nat->Value)(d:Int),∀f,q d f->∃J1:Bool->World->Prop,(split ((x:Int)==0) (J1 true f) (split (decide ((x:Int)>(i64.wrap (n - ((au:Nat):Int))))) (J1 true f) (J1 (decide ((((az:Nat):Int):Int)<d)) f)))/\∀(_gv2:Nat->Value)(a9:Bool),∀z,J1 a9 z->split a9 (R (.tuple #[(.slice none 0 0),J 272]) z) (∃I1:Nat->Option Addr->Nat->Nat->Int->World->Prop,(∃B,I1 B u au an 0 z)/\∀(B:Nat)(_gv3:Nat->Value)(aA:oA)(aC aN:Nat)(C:Int),∀a0,I1 B aA aC aN C a0->split (decide ((C:Int)<x)) (∀a:Int,a=(i64.wrap (4*C))->split run (∀b:Int,b=0->(0<=(i64.wrap (b+4):Int)/\(i64.wrap (b+4):Int)<=((y:Nat):Int))/\(0<=(i64.wrap (b+4):Int)/\(i64.wrap (b+4):Int)<=((Int.toNat (i64.wrap (b+4)):Nat):Int))/\(0<=(b:Int)/\(b:Int)<=((Int.toNat (i64.wrap (b+4)):Nat):Int))/\∀E:oA,E=(if(Int.toNat (i64.wrap (b+4)))=b.toNat then p else(p:oA).map (·.add (b.toNat *1)))->∀F:Nat,F=(Int.toNat (i64.wrap (b+4))) - b.toNat->∀G:Nat,G=(Int.toNat (i64.wrap (b+4))) - b.toNat->Calls Tryz.prog 28 #[(.slice E F G)] a0 λe H=>∃K:Int,e=.returned (O K)/\∀(M:Nat)(N:World),M=H.heap.size->N=H.alloc (.cells #[O K] 22)->∃Q:oA,∃S U:Nat,∃V,(Builtin.append_ #[26,26] 26 #[(.slice aA aC aN),(.slice (pvA M) 1 1)]:Sem Value).run Tryz.prog N=.ok (.slice Q S U) V/\∃W,W<B/\I1 W Q S U (i64.wrap (C+1)) V) ((0<=(i64.wrap (a+4):Int)/\(i64.wrap (a+4):Int)<=((y:Nat):Int))/\(0<=(i64.wrap (a+4):Int)/\(i64.wrap (a+4):Int)<=((Int.toNat (i64.wrap (a+4)):Nat):Int))/\(0<=(a:Int)/\(a:Int)<=((Int.toNat (i64.wrap (a+4)):Nat):Int))/\∀E:oA,E=(if(Int.toNat (i64.wrap (a+4)))=a.toNat then p else(p:oA).map (·.add (a.toNat *1)))->∀F:Nat,F=(Int.toNat (i64.wrap (a+4))) - a.toNat->∀G:Nat,G=(Int.toNat (i64.wrap (a+4))) - a.toNat->Calls Tryz.prog 28 #[(.slice E F G)] a0 λe H=>∃K:Int,e=.returned (O K)/\∀(M:Nat)(N:World),M=H.heap.size->N=H.alloc (.cells #[O K] 22)->∃Q:oA,∃S U:Nat,∃V,(Builtin.append_ #[26,26] 26 #[(.slice aA aC aN),(.slice (pvA M) 1 1)]:Sem Value).run Tryz.prog N=.ok (.slice Q S U) V/\∃W,W<B/\I1 W Q S U (i64.wrap (C+1)) V)) ((0<=(d:Int)/\(d:Int)<=((az:Nat):Int))/\∀ba:oA,ba=(if y=d.toNat then p else(p:oA).map (·.add (d.toNat *1)))->∀bb:Nat,bb=az - d.toNat->∀bc:Nat,bc=y - d.toNat->∃m1,m1<m/\I m1 ba bb bc aA aC aN a0)))) (∃q:Bool->World->Prop,(split (decide ((((o:Nat):Int):Int)>0)) (q true i) (Calls Tryz.prog 12 #[(.slice u au an)] i λe f=>∃bd:oA,∃bg bl:Nat,e=.returned (.slice bd bg bl)/\Calls Tryz.prog 29 #[(.slice bd bg bl),(.slice r j s)] f λe z=>∃bs:Bool,e=.returned (vB bs)/\q (!bs) z))/\∀(_gv1:Nat->Value)(b0:Bool),∀f,q b0 f->split b0 (R (.tuple #[(.slice none 0 0),J 272]) f) ((0<=(((au:Nat):Int):Int)/\(((au:Nat):Int):Int)<=((an:Nat):Int))/\(0<=(((au:Nat):Int):Int)/\(((au:Nat):Int):Int)<=((Int.toNat ((au:Nat):Int):Nat):Int))/\∀b1:oA,b1=(if(Int.toNat ((au:Nat):Int))=0 then u else(u:oA).map (·.add (0*1)))->∀b2:Nat,b2=(Int.toNat ((au:Nat):Int)) - 0->∀b3:Nat,b3=(Int.toNat ((au:Nat):Int)) - 0->R (.tuple #[(.slice b1 b2 b3),J 0]) f))))):Calls Tryz.prog 13 #[(.slice r j s)] w (aT R):=rvc [4,6,7,8,9,11] (aq (aq (aq (aq (aq (aq (.node none (.node none (.node (some ⟨[(5,.one (.slice)),(6,.one (.slice))],[2,3,5,6,7,8,9,10,11,23,24,25,26,27,28,29,30,31,32,33,34,35,36,37,38,39,40,41,42,43,44,45,46,47,48,49,50,51,52,53,54,55,56,57,58,59,60,61,62,63,64,65,66,67,68,69,70,71,72,73,74,75,76,77,78,79,80,81,82,83,84,85,86]⟩) (aq (.node none (aq (aq (aq (aq (aq (aq (.node none (aq (.node (some ⟨[(9,.one (.int .i64))],[9]⟩) .leaf .leaf)) (.node none (.node none (.node (some ⟨[(64,.one (.bool))],(rgN 49 16)⟩) .leaf .leaf) .leaf) (.node none (aq (.node none (.node (some ⟨[(6,.one (.slice)),(66,.one (.int .i64))],[6,10,11,66,67,68,69,70,71,72,73,74,75,76,77,78,79,80,81,82,83]⟩) .leaf .leaf) .leaf)) .leaf))))))))) .leaf)) .leaf) .leaf) (.node none (.node none (.node (some ⟨[(96,.one (.bool))],(rgN 87 10)⟩) .leaf .leaf) .leaf) .leaf)))))))) Tryz.func13 h
theorem vj(a:Int){R:aK}{w:World}(h:∀(b:Nat)(d:World),b=w.heap.size->d=w.alloc (.cells #[vY (IntKind.u8.wrap ((a:Int).fdiv (2 ^ 24))),vY (IntKind.u8.wrap ((a:Int).fdiv (2 ^ 16))),vY (IntKind.u8.wrap ((a:Int).fdiv (2 ^ 8))),vY (IntKind.u8.wrap a)] 5)->R (.slice (pvA b) 4 4) d):Calls Tryz.prog 23 #[O a] w (aT R):=rvc [] (.leaf) Tryz.func23 h
theorem ri(a:oA)(b o:Nat){R:aK}{w:World}(h:(0<=(0:Int)/\(0:Int)<((b:Nat):Int))/\ai a λp=>∃d:Int,w.drew.cell? (p.add (Int.toNat 0*1))=some (vY d)/\(0<=(1:Int)/\(1:Int)<((b:Nat):Int))/\ai a λq=>∃f:Int,w.drew.cell? (q.add (Int.toNat 1*1))=some (vY f)/\(0<=(2:Int)/\(2:Int)<((b:Nat):Int))/\ai a λr=>∃i:Int,w.drew.cell? (r.add (Int.toNat 2*1))=some (vY i)/\(0<=(3:Int)/\(3:Int)<((b:Nat):Int))/\ai a λs=>∃j:Int,w.drew.cell? (s.add (Int.toNat 3*1))=some (vY j)/\R (O (u32.wrap ((u32.wrap ((u32.wrap ((u32.wrap ((u32.wrap d:Int)*2 ^ 24))+(u32.wrap ((u32.wrap f:Int)*2 ^ 16))))+(u32.wrap ((u32.wrap i:Int)*2 ^ 8))))+(u32.wrap j)))) w.drew):Calls Tryz.prog 32 #[(.slice a b o)] w (aT R):=rvc [] (.leaf) Tryz.func32 h
theorem uw(i:oA)(au s:Nat)(a:Int){R:aK}{w:World}(h:∀n:Int,n=1->∃I:Nat->Int->World->Prop,(∃m,I m n w)/\∀(m:Nat)(_gv:Nat->Value)(b:Int),∀d,I m b d->∃f:Bool->World->Prop,(split (decide ((b:Int)<32767)) (split (decide ((i64.wrap (a+b):Int)<((au:Nat):Int))) ((0<=(i64.wrap (a+b):Int)/\(i64.wrap (a+b):Int)<((au:Nat):Int))/\ai i λt=>∃o:Int,d.drew.cell? (t.add (Int.toNat (i64.wrap (a+b))*1))=some (O o)/\(0<=(a:Int)/\(a:Int)<((au:Nat):Int))/\ai i λu=>∃p:Int,d.drew.cell? (u.add (Int.toNat a*1))=some (O p)/\f ((o:Int)==p) d.drew) (f false d.drew)) (f false d.drew))/\∀(_gv1:Nat->Value)(q:Bool),∀j,f q j->split q (∀n2:Int,n2=(i64.wrap (b+1))->∃r,r<m/\I r n2 j) (R (J b) j)):Calls Tryz.prog 24 #[(.slice i au s),J a] w (aT R):=rvc [5] (aq (aq (.node none (.node none (.node (some ⟨[(5,.one (.int .i64))],(rgN 5 26)⟩) (.node none (.node none (.node (some ⟨[(28,.one (.bool))],(rgN 6 23)⟩) .leaf .leaf) .leaf) .leaf) .leaf) .leaf) .leaf))) Tryz.func24 h
theorem vh(r:oA)(au N:Nat){R:aK}{w:World}(h:split (decide ((((au:Nat):Int):Int)>262144)) (R (.slice none 0 0) w) (Calls Tryz.prog 23 #[O (u32.wrap ((au:Nat):Int))] w λe wv=>∃Q:oA,∃S U:Nat,e=.returned (.slice Q S U)/\∀V:Int,V=0->∃I:Nat->Option Addr->Nat->Nat->Int->World->Prop,(∃m,I m Q S U V wv)/\∀(m:Nat)(_gv:Nat->Value)(x:oA)(y z:Nat)(b:Int),∀B,I m x y z b B->split (decide ((b:Int)<((au:Nat):Int))) (Calls Tryz.prog 24 #[(.slice r au N),J b] B λe C=>∃W:Int,e=.returned (J W)/\∀n:Int,n=W->split (decide ((n:Int)>=2)) (∀(an:Nat)(f:World),an=C.heap.size->f=C.alloc (.cells #[vY (IntKind.u8.wrap ((i64.wrap (32768+n):Int).fdiv (2 ^ 8))),vY (IntKind.u8.wrap n)] 5)->∃az:oA,∃aA aC:Nat,∃d,(Builtin.append_ #[27,27] 27 #[(.slice x y z),(.slice (pvA an) 2 2)]:Sem Value).run Tryz.prog f=.ok (.slice az aA aC) d/\(0<=(b:Int)/\(b:Int)<((au:Nat):Int))/\ai r λb2=>∃aN:Int,d.cell? (b2.add (Int.toNat b*1))=some (O aN)/\Calls Tryz.prog 23 #[O aN] d λe o=>∃a0:oA,∃a1 a2:Nat,e=.returned (.slice a0 a1 a2)/\∃a3:oA,∃a4 a5:Nat,∃p,(Builtin.append_ #[27,27] 27 #[(.slice az aA aC),(.slice a0 a1 a2)]:Sem Value).run Tryz.prog o=.ok (.slice a3 a4 a5) p/\∀s:Int,s=(i64.wrap (b+n))->∃t,t<m/\I t a3 a4 a5 s p) (∃E:Int->World->Prop,(∃q:Nat->Int->World->Prop,(∃j,q j n C)/\∀(j:Nat)(_gv1:Nat->Value)(a:Int),∀f,q j a f->∃F:Bool->World->Prop,(split (decide ((a:Int)<32767)) (F (decide ((i64.wrap (b+a):Int)<((au:Nat):Int))) f) (F false f))/\∀(_gv2:Nat->Value)(a6:Bool),∀d,F a6 d->split a6 (∃G:Bool->World->Prop,(split (decide ((i64.wrap ((i64.wrap (b+a))+1):Int)<((au:Nat):Int))) ((0<=(i64.wrap (b+a):Int)/\(i64.wrap (b+a):Int)<((au:Nat):Int))/\ai r λb3=>∃a7:Int,d.drew.cell? (b3.add (Int.toNat (i64.wrap (b+a))*1))=some (O a7)/\(0<=(i64.wrap ((i64.wrap (b+a))+1):Int)/\(i64.wrap ((i64.wrap (b+a))+1):Int)<((au:Nat):Int))/\ai r λb4=>∃a8:Int,d.drew.cell? (b4.add (Int.toNat (i64.wrap ((i64.wrap (b+a))+1))*1))=some (O a8)/\G ((a7:Int)==a8) d.drew) (G false d.drew))/\∀(_gv3:Nat->Value)(a9:Bool),∀o,G a9 o->split a9 (E a o) (∀n2:Int,n2=(i64.wrap (a+1))->∃u,u<j/\q u n2 o)) (E a d))/\∀(_gv1:Nat->Value)(a:Int),∀f,E a f->∀(ba:Nat)(d:World),ba=f.heap.size->d=f.alloc (.cells #[vY (IntKind.u8.wrap ((a:Int).fdiv (2 ^ 8))),vY (IntKind.u8.wrap a)] 5)->∃bb:oA,∃bc bd:Nat,∃o,(Builtin.append_ #[27,27] 27 #[(.slice x y z),(.slice (pvA ba) 2 2)]:Sem Value).run Tryz.prog d=.ok (.slice bb bc bd) o/\∀i:Int,i=b->∃q:Nat->Option Addr->Nat->Nat->Int->World->Prop,(∃j,q j bb bc bd i o)/\∀(j:Nat)(_gv3:Nat->Value)(H:oA)(K M:Nat)(i1:Int),∀p,q j H K M i1 p->split (decide ((i1:Int)<(i64.wrap (b+a)))) ((0<=(i1:Int)/\(i1:Int)<((au:Nat):Int))/\ai r λb5=>∃bg:Int,p.cell? (b5.add (Int.toNat i1*1))=some (O bg)/\Calls Tryz.prog 23 #[O bg] p λe b6=>∃bl:oA,∃bs bA:Nat,e=.returned (.slice bl bs bA)/\∃bC:oA,∃bN b0:Nat,∃b1,(Builtin.append_ #[27,27] 27 #[(.slice H K M),(.slice bl bs bA)]:Sem Value).run Tryz.prog b6=.ok (.slice bC bN b0) b1/\∀i2:Int,i2=(i64.wrap (i1+1))->∃u,u<j/\q u bC bN b0 i2 b1) (∀s:Int,s=(i64.wrap (b+a))->∃t,t<m/\I t H K M s p))) (R (.slice x y z) B))):Calls Tryz.prog 10 #[(.slice r au N)] w (aT R):=rvc [3,4,5,6] (aq (aq (aq (.node none (aq (.node none (.node (some ⟨[(3,.one (.slice)),(4,.one (.int .i64))],[3,4,5,6,14,15,16,17,18,19,20,21,22,23,24,25,26,27,28,29,30,31,32,33,34,35,36,37,38,39,40,41,42,43,44,45,46,47,48,49,50,51,52,53,54,55,56,57,58,59,60,61,62,63,64,65,66,67,68,69,70,71,72,73,74,75,76,77,78,79,80,81,82,83,84,85,86,87,88,89,90,91,92,93,94,95,96,97,98,99,100,101,102]⟩) (aq (.node none (aq (aq (.node none (.node (some ⟨[(5,.one (.int .i64))],[5,42,43,44,45,46,47,48,49,50,51,52,53,54,55,56,57,58,59,60,61,62,63,64,65,66,67,68,69,70,71,72,73,74,75,76]⟩) (.node (some ⟨[(5,.one (.int .i64))],[5,42,43,44,45,46,47,48,49,50,51,52,53,54,55,56,57,58,59,60,61,62,63,64,65,66,67,68,69,70,71,72,73,74,75,76]⟩) (.node none (.node none (.node (some ⟨[(51,.one (.bool))],(rgN 42 10)⟩) .leaf .leaf) .leaf) (.node none (.node none (.node none (.node (some ⟨[(74,.one (.bool))],(rgN 52 23)⟩) .leaf .leaf) .leaf) .leaf) .leaf)) .leaf) .leaf) (aq (.node none (aq (.node none (.node (some ⟨[(3,.one (.slice)),(6,.one (.int .i64))],[3,6,86,87,88,89,90,91,92,93,94,95,96,97,98,99]⟩) .leaf .leaf) .leaf)) .leaf))))) .leaf)) .leaf) .leaf)) .leaf)))) Tryz.func10 h
theorem uv(p:oA)(b z:Nat){R:aK}{w:World}(h:Calls Tryz.prog 32 #[(.slice p b z)] w λe wv=>∃S:Int,e=.returned (O S)/\∀n:Int,n=(i64.wrap S)->∀U:Int,U=4->∃I:Nat->Option Addr->Nat->Nat->Int->World->Prop,(∃m,I m none 0 0 U wv)/\∀(m:Nat)(_gv:Nat->Value)(E:oA)(B F:Nat)(f:Int),∀Q,I m E B F f Q->∃J:Bool->World->Prop,(split (decide ((i64.wrap (f+2):Int)<=((b:Nat):Int))) (J (decide ((((B:Nat):Int):Int)<n)) Q) (J false Q))/\∀(_gv1:Nat->Value)(V:Bool),∀r,J V r->split V ((0<=(f:Int)/\(f:Int)<((b:Nat):Int))/\ai p λbd=>∃W:Int,r.drew.cell? (bd.add (Int.toNat f*1))=some (vY W)/\(0<=(i64.wrap (f+1):Int)/\(i64.wrap (f+1):Int)<((b:Nat):Int))/\ai p λbg=>∃an:Int,r.drew.cell? (bg.add (Int.toNat (i64.wrap (f+1))*1))=some (vY an)/\∀k:Int,k=(i64.wrap ((i64.wrap ((i64.wrap W:Int)*2 ^ 8))+(i64.wrap an)))->∀d:Int,d=(i64.wrap (f+2))->split (decide ((k:Int)>=32768)) (split (decide ((i64.wrap (d+4):Int)>((b:Nat):Int))) (R (.slice E B F) r.drew) ((0<=(d:Int)/\(d:Int)<=((b:Nat):Int))/\∀az:oA,az=(if z=d.toNat then p else(p:oA).map (·.add (d.toNat *1)))->∀aA:Nat,aA=b - d.toNat->∀aC:Nat,aC=z - d.toNat->Calls Tryz.prog 32 #[(.slice az aA aC)] r.drew λe C=>∃aN:Int,e=.returned (O aN)/\∀i:Int,i=0->∃s:Nat->Option Addr->Nat->Nat->Int->World->Prop,(∃j,s j E B F i C)/\∀(j:Nat)(_gv2:Nat->Value)(t:oA)(o u:Nat)(i1:Int),∀x,s j t o u i1 x->∃q:Bool->World->Prop,(split (decide ((i1:Int)<(i64.wrap (k - 32768)))) (q (decide ((((o:Nat):Int):Int)<=n)) x) (q false x))/\∀(_gv3:Nat->Value)(a0:Bool),∀y,q a0 y->split a0 (∀(G:Nat)(H:World),G=y.heap.size->H=y.alloc (.cells #[O aN] 22)->∃a1:oA,∃a2 a3:Nat,∃K,(Builtin.append_ #[26,26] 26 #[(.slice t o u),(.slice (pvA G) 1 1)]:Sem Value).run Tryz.prog H=.ok (.slice a1 a2 a3) K/\∀i2:Int,i2=(i64.wrap (i1+1))->∃M,M<j/\s M a1 a2 a3 i2 K) (∀a:Int,a=(i64.wrap (d+4))->∃N,N<m/\I N t o u a y))) (∀i:Int,i=0->∃s:Nat->Option Addr->Nat->Nat->Int->Int->World->Prop,(∃j,s j E B F d i r.drew)/\∀(j:Nat)(_gv2:Nat->Value)(t:oA)(o u:Nat)(a i1:Int),∀C,s j t o u a i1 C->∃q:Bool->World->Prop,(split (decide ((i1:Int)<k)) (split (decide ((i64.wrap (a+4):Int)<=((b:Nat):Int))) (q (decide ((((o:Nat):Int):Int)<=n)) C) (q false C)) (q false C))/\∀(_gv3:Nat->Value)(a4:Bool),∀x,q a4 x->split a4 ((0<=(a:Int)/\(a:Int)<=((b:Nat):Int))/\∀a5:oA,a5=(if z=a.toNat then p else(p:oA).map (·.add (a.toNat *1)))->∀a6:Nat,a6=b - a.toNat->∀a7:Nat,a7=z - a.toNat->Calls Tryz.prog 32 #[(.slice a5 a6 a7)] x λe y=>∃a8:Int,e=.returned (O a8)/\∀(G:Nat)(H:World),G=y.heap.size->H=y.alloc (.cells #[O a8] 22)->∃a9:oA,∃ba bb:Nat,∃K,(Builtin.append_ #[26,26] 26 #[(.slice t o u),(.slice (pvA G) 1 1)]:Sem Value).run Tryz.prog H=.ok (.slice a9 ba bb) K/\∀bc:Int,bc=(i64.wrap (a+4))->∀i2:Int,i2=(i64.wrap (i1+1))->∃M,M<j/\s M a9 ba bb bc i2 K) (∃N,N<m/\I N t o u a x))) (R (.slice E B F) r)):Calls Tryz.prog 79 #[(.slice p b z)] w (aT R):=rvc [3,4,5,6,8,9] (aq (aq (aq (.node none (aq (.node none (.node (some ⟨[(4,.one (.slice)),(5,.one (.int .i64))],[2,4,5,6,7,8,9,13,14,15,16,17,18,19,20,21,22,23,24,25,26,27,28,29,30,31,32,33,34,35,36,37,38,39,40,41,42,43,44,45,46,47,48,49,50,51,52,53,54,55,56,57,58,59,60,61,62,63,64,65,66,67,68,69,70,71,72,73,74,75,76,77,78,79,80,81,82,83,84,85,86,87,88,89,90,91,92,93,94,95]⟩) (.node none (.node none (.node (some ⟨[(23,.one (.bool))],(rgN 13 11)⟩) .leaf .leaf) .leaf) (.node none (aq (aq (.node none (aq (.node none (aq (aq (.node none (aq (.node none (.node (some ⟨[(4,.one (.slice)),(8,.one (.int .i64))],[4,8,51,52,53,54,55,56,57,58,59,60,61,62,63,64,65,66]⟩) (.node none (.node none (.node (some ⟨[(60,.one (.bool))],(rgN 51 10)⟩) .leaf .leaf) .leaf) .leaf) .leaf) .leaf)) .leaf))) .leaf)) (aq (.node none (.node (some ⟨[(4,.one (.slice)),(5,.one (.int .i64)),(9,.one (.int .i64))],[4,5,9,69,70,71,72,73,74,75,76,77,78,79,80,81,82,83,84,85,86,87,88,89,90,91,92,93,94,95]⟩) (.node none (.node none (.node (some ⟨[(84,.one (.bool))],(rgN 69 16)⟩) .leaf .leaf) .leaf) .leaf) .leaf) .leaf))))) .leaf)) .leaf) .leaf)) .leaf)))) Tryz.func79 h
theorem rh(d:oA)(a f:Nat){R:aK}{w:World}(h:split (decide ((((a:Nat):Int):Int)<4)) (R (.tuple #[(.slice none 0 0),J 272]) w) (Calls Tryz.prog 32 #[(.slice d a f)] w λe q=>∃r:Int,e=.returned (O r)/\split (decide ((r:Int)>262144)) (R (.tuple #[(.slice none 0 0),J 2]) q) (Calls Tryz.prog 79 #[(.slice d a f)] q λe F=>∃j:oA,∃i o:Nat,e=.returned (.slice j i o)/\Calls Tryz.prog 10 #[(.slice j i o)] F λe G=>∃s:oA,∃t u:Nat,e=.returned (.slice s t u)/\∃p:Bool->World->Prop,(Calls Tryz.prog 32 #[(.slice d a f)] G λe b=>∃x:Int,e=.returned (O x)/\split ((u32.wrap ((i:Nat):Int):Int) !=x) (p true b) (∃y:ByteArray,∃z,(convert 27 9 (.slice s t u):Sem Value).run Tryz.prog b=.ok (.string y) z/\∃B:ByteArray,∃C,(convert 27 9 (.slice d a f):Sem Value).run Tryz.prog z=.ok (.string B) C/\p (!((y:ByteArray).toList==(B:ByteArray).toList)) C))/\∀(_gv:Nat->Value)(E:Bool),∀b,p E b->split E (R (.tuple #[(.slice none 0 0),J 272]) b) (R (.tuple #[(.slice j i o),J 0]) b)))):Calls Tryz.prog 52 #[(.slice d a f)] w (aT R):=rvc [] (aq (aq (aq (aq (aq (.node none (.node none (.node (some ⟨[(28,.one (.bool))],(rgN 16 13)⟩) .leaf .leaf) .leaf) .leaf)))))) Tryz.func52 h
theorem vr(f:oA)(b r:Nat)(j:oA)(d s:Nat){R:aK}{w:World}(h:split ((((b:Nat):Int):Int) !=((d:Nat):Int)) (R (vB false) w) (∀i:Int,i=0->∃I:Nat->Int->World->Prop,(∃m,I m i w)/\∀(m:Nat)(_gv:Nat->Value)(i1:Int),∀a,I m i1 a->split (decide ((i1:Int)<((b:Nat):Int))) ((0<=(i1:Int)/\(i1:Int)<((b:Nat):Int))/\ai f λt=>∃o:Int,a.drew.cell? (t.add (Int.toNat i1*1))=some (O o)/\(0<=(i1:Int)/\(i1:Int)<((d:Nat):Int))/\ai j λu=>∃p:Int,a.drew.cell? (u.add (Int.toNat i1*1))=some (O p)/\split ((o:Int) !=p) (R (vB false) a.drew) (∀i2:Int,i2=(i64.wrap (i1+1))->∃q,q<m/\I q i2 a.drew)) (R (vB true) a))):Calls Tryz.prog 14 #[(.slice f b r),(.slice j d s)] w (aT R):=rvc [5] (aq (aq (.node none (aq (.node none (.node (some ⟨[(5,.one (.int .i64))],[4,5,11,12,13,14,15,16,17,18,19,20,21,22,23,24,25]⟩) .leaf .leaf) .leaf)) .leaf))) Tryz.func14 h
theorem rz(a:oA)(b d:Nat){R:aK}{w:World}(h:∃f:oA,∃i j:Nat,∃o,(Builtin.append_ #[27,27] 27 #[(.slice none 0 0),(.slice a b d)]:Sem Value).run Tryz.prog w=.ok (.slice f i j) o/\R (.slice f i j) o):Calls Tryz.prog 4 #[(.slice a b d)] w (aT R):=rvc [3] (.leaf) Tryz.func4 h
end Go.Proofs.YtoghdgcmhbanbaaGreatDoor
end
section
namespace Go.Proofs.YtoghdgcmhbanbaaGreatDoor.V
open Go Go.RowKit
open Go.IntKind (i64 u32 u64 wrap_i64 wrap_u32)
theorem aa {x:Int}(h: -9223372036854775808<=x/\x<=9223372036854775807):i64.wrap x=x:=IntWalk.i64_in x h
theorem u8_eq(x:Int):IntKind.u8.wrap x=x % 256:=by rw[IntKind.wrap_u8]
theorem u32_eq(x:Int):u32.wrap x=x % 4294967296:=by rw[wrap_u32]
theorem bT {x:Int}(h:0<=x/\x<4294967296):u32.wrap x=x:=by rw[u32_eq];omega
variable {P:Program}{w w0 w1 w2 w3 w':World}{g g':Nat}{cs cs':Array Value}{T T':TypeId}{X Y Z:Nat->Prop}{v:Value}
theorem Blk.lt(h:Blk w g cs T):g<w.heap.size:=(Array.getElem?_eq_some_iff.1 h).1
theorem Blk.cell(h:Blk w g cs T){i:Nat}(hi:cs[i]? =some v):w.cell? ⟨g,i,none⟩=some v:=by
 unfold Blk at h;simp[World.cell?,h,hi]
theorem Blk.at(h:Blk w g cs T){i:Nat}(hi:cs[i]? =some v):w.cell? ((Addr.mk g 0 none).add i)=some v:=by
 rw[bn,Nat.zero_add];exact h.cell hi
theorem Blk.at0(h:Blk w g cs T)(hi:cs[0]? =some v):w.cell? (Addr.mk g 0 none)=some v:=h.cell hi
theorem Blk.kept {B:Nat->Prop}(h:Blk w g cs T)(a:Kept B w w')(b:B g):Blk w' g cs T:=(a.block g b).trans h
theorem Blk.drew(h:Blk w g cs T):Blk w.drew g cs T:=h
theorem Blk.inj(h:Blk w g cs T)(a:Blk w g cs' T'):cs=cs'/\T=T':=by
 unfold Blk at h a;rw[h]at a;simpa using a
theorem Kept.drew {B:Nat->Prop}(h:Kept B w w'):Kept B w w'.drew:=⟨h.os,h.tape,h.output,h.size,h.block⟩
structure Made(w:World)(g:Nat)(cs:Array Value)(T:TypeId)(w2:World):Prop where
 num:g=w.heap.size
 blk:Blk w2 g cs T
 kept:Kept (λk=>k<w.heap.size) w w2
 size:w2.heap.size=w.heap.size+1
theorem made(a:g=w.heap.size)(hw:w2=w.alloc (.cells cs T)):Made w g cs T w2:=by
 subst a;subst hw;exact⟨rfl,World.alloc_heap_new w _,Kept.tZ w _,by simp⟩
structure Ch(X:Nat->Prop)(w0 w:World):Prop where
 kept:Kept (λk=>k<w0.heap.size/\¬X k) w0 w
abbrev Pu(w0 w:World):Prop:=Ch (λ_=>False) w0 w
theorem Ch.refl(X:Nat->Prop)(w:World):Ch X w w:=⟨Kept.refl _ _⟩
theorem Ch.size(h:Ch X w0 w):w0.heap.size<=w.heap.size:=h.kept.size
theorem Ch.call(h:Ch X w0 w)(k:Ch Y w w2)(a:∀k,Y k->X k\/w0.heap.size<=k):Ch X w0 w2:=
 ⟨h.kept.trans (k.kept.mono λi hi=>⟨Nat.lt_of_lt_of_le hi.1 h.size,λb=>(a i b).elim hi.2 (λhle=>absurd hi.1 (by omega))⟩)⟩
theorem Ch.trans(h:Ch X w0 w)(k:Ch X w w2):Ch X w0 w2:=h.call k λ_ h=>.inl h
theorem Ch.pu(h:Ch X w0 w)(k:Pu w w2):Ch X w0 w2:=h.call k λ_ h=>h.elim
theorem Ch.made(h:Ch X w0 w)(hm:Made w g cs T w2):Ch X w0 w2:=
 h.pu ⟨hm.kept.mono λ_ h=>h.1⟩
theorem Ch.stored(h:Ch X w0 w)(a:br w g cs T w2)(b:X g\/w0.heap.size<=g):Ch X w0 w2:=
 h.call (Y:=λk=>k=g) ⟨a.kept.mono λ_ h=>h.2⟩ λk d=>by cases d;exact b
theorem Ch.drew(h:Ch X w0 w):Ch X w0 w.drew:=⟨h.kept.drew⟩
theorem Ch.mono(h:Ch X w0 w)(b:∀k,X k->Y k):Ch Y w0 w:=⟨h.kept.mono λk a=>⟨a.1,λh=>a.2 (b k h)⟩⟩
theorem Ch.blk(h:Ch X w0 w)(a:Blk w0 g cs T)(b:¬X g):Blk w g cs T:=a.kept h.kept ⟨a.lt,b⟩
theorem Pu.blk(h:Pu w0 w)(a:Blk w0 g cs T):Blk w g cs T:=Ch.blk h a (by simp)
theorem Ch.jo {B:Nat->Prop}(h:Ch X w0 w)(a:∀k,B k->k<w0.heap.size/\¬X k):Kept B w0 w:=h.kept.mono a
theorem Pu.jo {B:Nat->Prop}(h:Pu w0 w)(a:∀k,B k->k<w0.heap.size):Kept B w0 w:=h.kept.mono λk b=>⟨a k b,by simp⟩
theorem Kept.pu(h:Kept (λk=>k<w.heap.size) w w2):Pu w w2:=⟨h.mono λ_ h=>h.1⟩
theorem Made.pu(h:Made w g cs T w2):Pu w w2:=h.kept.pu
theorem Pu.aw(w:World):Pu w w.drew:=(Ch.refl _ w).drew
theorem Made.old(h:Made w g cs T w2)(a:Blk w g' cs' T'):Blk w2 g' cs' T':=a.kept h.kept a.lt
theorem Made.lt(h:Made w g cs T w2):g<w2.heap.size:=h.blk.lt
theorem br.old(h:br w g cs T w2)(a:Blk w g' cs' T')(b:g'≠g):Blk w2 g' cs' T':=a.kept h.kept b
theorem aL {K:World->Prop}{i:Nat}{vs:List Value}(a:Blk w g cs T)(hi:i+vs.length<=cs.size)(h:∀w2,br w g (setAt cs i vs) T w2->K w2):ao w ((Addr.mk g 0 none).add i) vs K:=
 ⟨g,i,cs,T,by rw[bn,Nat.zero_add],a,hi,h⟩
theorem bx {K:World->Prop}{vs:List Value}(a:Blk w g cs T)(hi:vs.length<=cs.size)(h:∀w2,br w g (setAt cs 0 vs) T w2->K w2):ao w (Addr.mk g 0 none) vs K:=
 ⟨g,0,cs,T,rfl,a,by omega,h⟩
theorem jT {K:World->Prop}{i:Nat}{vs:List Value}(a:Blk w g cs T)(hi:i+vs.length<=cs.size)(h:∀w2,br w g (setAt cs i vs) T w2->K w2):ao w (Addr.mk g i none) vs K:=
 ⟨g,i,cs,T,rfl,a,hi,h⟩
theorem oU(cs:Array Value)(i:Nat)(v:Value):setAt cs i [v]=cs.setIfInBounds i v:=rfl
theorem dO:∀(vs:List Value)(cs:Array Value)(o i:Nat),o+vs.length<=cs.size->(setAt cs o vs)[i]? =if o<=i/\i<o+vs.length then vs[i - o]? else cs[i]?
 | [],cs,o,i,_=>by simp[setAt];intro a b;omega
 | v::r,cs,o,i,h=>by
  simp only[List.length_cons]at h;rw[setAt,dO r _ (o+1) i (by simp;omega)];by_cases a:o+1<=i/\i<o+1+r.length
  ·rw[if_pos a,if_pos (by simp;omega)];obtain⟨j,rfl⟩:∃j,i=o+1+j:=⟨i - (o+1),by omega⟩;rw[show o+1+j - (o+1)=j by omega,show o+1+j - o=j+1 by omega];rfl
  ·rw[if_neg a];by_cases b:i=o
   ·subst b;rw[if_pos (by simp)];simp[Array.getElem?_setIfInBounds];omega
   ·rw[if_neg (by simp;omega),Array.getElem?_setIfInBounds,if_neg (by omega)]
structure aD(w:World)(Z:Nat->Prop)(k:IntKind)(A:Option Addr)(n c:Nat)(l:List Int):Prop where
 len:l.length=n
 cap:n<=c
 cell:∀j x,l[j]? =some x->∃p,A=some p/\Z p.block/\w.cell? (p.add j)=some (.int k x)
section
variable {k:IntKind}{A:Option Addr}{n c:Nat}{l:List Int}
theorem add_add(p:Addr)(i j:Nat):(p.add i).add j=p.add (i+j):=by
 unfold Addr.add;by_cases hi:i=0<;>by_cases a:j=0<;>simp[hi,a,Nat.add_assoc]
theorem Blk.at2(h:Blk w g cs T){i j:Nat}(hi:cs[i+j]? =some v):w.cell? (((Addr.mk g 0 none).add i).add j)=some v:=by
 rw[add_add];exact h.at hi
theorem Blk.at3(h:Blk w g cs T){i j l:Nat}(hi:cs[i+j+l]? =some v):w.cell? ((((Addr.mk g 0 none).add i).add j).add l)=some v:=by
 rw[add_add,add_add];rw[<-Nat.add_assoc];exact h.at hi
theorem aD.kept {B:Nat->Prop}(h:aD w Z k A n c l)(b:Kept B w w')(d:∀k,Z k->B k):aD w' Z k A n c l:=
 ⟨h.len,h.cap,λj x f=>by
  obtain⟨p,i,a,o⟩:=h.cell j x f;exact⟨p,i,a,(b.cell (by rw[block_add];exact d _ a)).trans o⟩⟩
theorem aD.ch(h:aD w Z k A n c l)(d:Ch X w w')(f:∀k,Z k->¬X k):aD w' Z k A n c l:=
 ⟨h.len,h.cap,λj x i=>by
  obtain⟨p,o,a,b⟩:=h.cell j x i;refine⟨p,o,a,(d.kept.cell ⟨World.block_lt_of_cell? w _ b,?_⟩).trans b⟩;rw[block_add];exact f _ a⟩
theorem aD.pu(h:aD w Z k A n c l)(a:Pu w w'):aD w' Z k A n c l:=h.ch a (by simp)
theorem aD.mono(h:aD w Z k A n c l)(a:∀k,Z k->Y k):aD w Y k A n c l:=
 ⟨h.len,h.cap,λj x b=>by
  obtain⟨p,d,f,i⟩:=h.cell j x b;exact⟨p,d,a _ f,i⟩⟩
theorem aD.drew(h:aD w Z k A n c l):aD w.drew Z k A n c l:=⟨h.len,h.cap,h.cell⟩
theorem aD.nil:aD w Z k none 0 c []:=⟨rfl,Nat.zero_le _,by simp⟩
theorem aD.blk(h:Blk w g cs T)(a:Z g){m:Nat}(b:n<=c)(d:l.length=n)(hm:∀j x,l[j]? =some x->cs[m+j]? =some (.int k x)):aD w Z k (some (Addr.mk g m none)) n c l:=
 ⟨d,b,λj x f=>⟨_,rfl,a,by rw[bn];exact h.cell (hm j x f)⟩⟩
theorem aD.rd {i:Int}{K:Int->Prop}(h:aD w Z k A n c l)(b:0<=i)(d:i<(n:Int))(f:K (l.getD i.toNat 0)):
 (0<=i/\i<((n:Nat):Int))/\ai A λp=>∃x:Int,w.cell? (p.add (i.toNat *1))=some (.int k x)/\K x:=by
 have q:=h.len;have a:i.toNat<l.length:=by omega
 obtain⟨p,j,_,o⟩:=h.cell i.toNat _ (List.getElem?_eq_getElem a);refine⟨⟨b,d⟩,ah p j ⟨_,by rw[Nat.mul_one];exact o,?_⟩⟩
 rwa[List.getD_eq_getElem?_getD,List.getElem?_eq_getElem a]at f
theorem aD.rdB {i:Int}{B:Nat->Prop}{K:Int->Prop}(h:aD w Z k A n c l)(b:0<=i)(d:i<(n:Int))(f:∀k,Z k->B k)(j:K (l.getD i.toNat 0)):
 (0<=i/\i<((n:Nat):Int))/\ai A λp=>B ((p.add (i.toNat *1)).block)/\∃x:Int,w.cell? (p.add (i.toNat *1))=some (.int k x)/\K x:=by
 have s:=h.len;have a:i.toNat<l.length:=by omega
 obtain⟨p,o,q,r⟩:=h.cell i.toNat _ (List.getElem?_eq_getElem a);refine⟨⟨b,d⟩,ah p o ⟨by rw[block_add];exact f _ q,_,by rw[Nat.mul_one];exact r,?_⟩⟩
 rwa[List.getD_eq_getElem?_getD,List.getElem?_eq_getElem a]at j
theorem aD.cut {lo hi m:Nat}{A':Option Addr}{n' c':Nat}(h:aD w Z k A n c l)(b:A'=(if m=lo then A else A.map (·.add (lo*1))))(o:n'=hi - lo)(q:c'=m - lo)(r:lo<=hi)(s:hi<=n)(t:hi<=m):
 aD w Z k A' n' c' ((l.take hi).drop lo):=by
 have u:=h.len;refine⟨by simp;omega,by omega,λj x a=>?_⟩;rw[List.getElem?_drop,List.getElem?_take]at a;split at a
 ·rename_i y;obtain⟨p,d,f,i⟩:=h.cell _ x a;rw[if_neg (by omega)]at b;subst d;refine⟨p.add (lo*1),by rw[b];rfl,by rw[block_add];exact f,?_⟩;rw[add_add,Nat.mul_one];exact i
 ·cases a
end
end Go.Proofs.YtoghdgcmhbanbaaGreatDoor.V
end
section
namespace Go.Proofs.YtoghdgcmhbanbaaGreatDoor.V
open Go Go.RowKit
open Go.IntKind (i64 u32 u64 wrap_i64 wrap_u32)
variable {P:Program}{w w0 w1 w2 w3 w':World}{g g':Nat}{cs cs':Array Value}{T T':TypeId}{X Y Z:Nat->Prop}{v:Value}
structure S1(P:Program)(t e:TypeId)(z:Value)(bytes:Nat):Prop where
 und:P.underlying t=some (.slice e)
 info:∃i,P.info? e=some i/\i.zero=some z/\i.size=1/\i.bytes=bytes
 cells:z.cells= #[z]
theorem S1.of {t e:TypeId}{z:Value}{bytes:Nat}(h:P.underlying t=some (.slice e))(a:(P.info? e).map (λi=>(i.zero,i.size,i.bytes))=some (some z,1,bytes))(b:z.cells= #[z]):S1 P t e z bytes:=by
 refine⟨h,?_,b⟩;cases hi:P.info? e with
 |none=>rw[hi]at a;cases a
 |some i=>rw[hi]at a;simp at a;exact⟨i,rfl,a.1,a.2.1,a.2.2⟩
structure SN(P:Program)(t e:TypeId)(z:Value)(size bytes:Nat):Prop where
 und:P.underlying t=some (.slice e)
 info:∃i,P.info? e=some i/\i.zero=some z/\i.size=size/\i.bytes=bytes
 cells:z.cells.size=size
 pos:0<size
theorem SN.of {t e:TypeId}{z:Value}{size bytes:Nat}(h:P.underlying t=some (.slice e))(a:(P.info? e).map (λi=>(i.zero,i.size,i.bytes))=some (some z,size,bytes))(b:z.cells.size=size)(d:0<size):SN P t e z size bytes:=by
 refine⟨h,?_,b,d⟩;cases hi:P.info? e with
 |none=>rw[hi]at a;cases a
 |some i=>rw[hi]at a;simp at a;exact⟨i,rfl,a.1,a.2.1,a.2.2⟩
theorem S1.sn {t e:TypeId}{z:Value}{bytes:Nat}(h:S1 P t e z bytes):SN P t e z 1 bytes:=⟨h.und,h.info,by rw[h.cells];rfl,by omega⟩
theorem j3 {t e:TypeId}{z:Value}{bytes:Nat}(h:S1 P t e z bytes){n:Int}(b:0<=n)(d:(bytes:Int)*n<=281474976710656)(f:n<=9223372036854775807){K:Option Addr->Nat->Nat->World->Prop}
 (j:∀g w2,Made w g (Array.replicate n.toNat z) e w2->K (some (Addr.mk g 0 none)) n.toNat n.toNat w2):
 ∃(A:Option Addr)(N C:Nat)(w2:World),(Instr.makeSlice t (.int .i64 n) (.int .i64 n):Sem Value).run P w=.ok (.slice A N C) w2/\K A N C w2:=by
 obtain⟨i,hi,o,p,q⟩:=h.info;have a:=run_make (P:=P) w t e i z h.und hi o .i64 .i64 n n b (Int.le_refl _) (by rw[q];exact d) f;have hm:madeCells z.cells (n.toNat *i.size)=Array.replicate n.toNat z:=by
  apply Array.ext';rw[h.cells,p,Nat.mul_one,toList_madeCells_one];simp
 rw[hm]at a;exact⟨_,_,_,_,a,j _ _ (made rfl rfl)⟩
theorem eX(g:Nat)(T:TypeId):∀(vs:List Value)(o:Nat)(w:World)(cs:Array Value),Blk w g cs T->br w g (setAt cs o vs) T (w.setCells g o vs)
 | [],o,w,cs,h=>⟨h,Kept.refl _ _,rfl⟩
 | v::r,o,w,cs,h=>by
  have a:=h.set o v;exact a.trans (eX g T r (o+1) _ _ a.blk)
theorem HN {t e ty:TypeId}{z:Value}{bytes:Nat}(h:S1 P t e z bytes)(b:z.oneCell'=true)(a:Blk w g cs T){o n c:Nat}(d:0<n)(x:o+n<=cs.size){K:World->Prop}
 (f:∀w2,br w g (setAt cs o (List.replicate n z)) T w2->K w2):
 ∃w2,(Builtin.clear_ #[t] ty #[.slice (some (Addr.mk g o none)) n c]:Sem Value).run P w=.ok (.tuple #[]) w2/\K w2:=by
 obtain⟨i,hi,p,_,_⟩:=h.info;have q:∀w,(zeroValue e).run P w=.ok z w:=λw=>by simp[zeroValue,typeInfo,hi,p]
 have r:∀j,j<n->(w.cell? ⟨g,o+j,none⟩).isSome=true:=λj s=>by
  have:cs[o+j]? =some (cs[o+j]'(by omega)):=Array.getElem?_eq_getElem (by omega);rw[a.cell this];rfl
 have u:∀j,j<n->w.frozen? ⟨g,o+j,none⟩=false:=λj s=>by
  unfold Blk at a;simp[World.frozen?,a]
 exact⟨_,Go.Lib.run_clear_slice w t e ty z h.und q h.cells b g o n c d r u,f _ (eX g T _ o w cs a)⟩
theorem rV {q t ty e:TypeId}{k:IntKind}{bytes:Nat}(h:S1 P q e (.int k 0) bytes)(d:Blk w g cs T){o dn y:Nat}{A:Option Addr}{n c:Nat}{l:List Int}(s:aD w Z k A n c l)(H:o+min n dn<=cs.size){K:World->Prop}
 (z:∀w2,br w g (setAt cs o ((l.take (min n dn)).map (Value.int k))) T w2->K w2):
 ∃(x:Int)(w2:World),(Builtin.copy_ #[q,t] ty #[.slice (some (Addr.mk g o none)) dn y,.slice A n c]:Sem Value).run P w=.ok (.int .i64 x) w2/\K w2:=by
 obtain⟨i,hi,_,B,_⟩:=h.info;have C:(P.info? e).map (·.size)=some 1:=by rw[hi];simp[B]
 have hlen:=s.len;cases A with
 | none=>
  have E:n=0:=by
   cases l with
   |nil=>simpa using hlen.symm
   |cons x r=>obtain⟨p,f,_⟩:=s.cell 0 x rfl;cases f
  subst E;refine⟨0,w,?_,z w ?_⟩
  ·simp[Builtin.copy_,run_underlying h.und,Builtin.lenOf,Builtin.firstCells,sizeOf,typeInfo,hi,storeCells,goInt]
  ·simpa[setAt]using (⟨d,Kept.refl _ _,rfl⟩:br w g cs T w)
 | some a=>
  have hm:((l.take (min n dn)).map (Value.int k)).length=Nat.min n dn:=by
   rw[List.length_map,List.length_take,hlen];show min (min n dn) n=min n dn;omega
  have F:=run_copy_cells (P:=P) w q t ty e g o dn y a n c ((l.take (min n dn)).map (Value.int k)) h.und C hm
   (by
    intro j u hu;rw[List.getElem?_map,List.getElem?_take]at hu;split at hu
    ·cases b:l[j]? with
     |none=>rw[b]at hu;cases hu
     | some x=>
      rw[b]at hu;injection hu with hu
      subst hu;obtain⟨p,f,_,G⟩:=s.cell j x b;injection f with f
      subst f;exact G
    ·cases hu)
   (by
    intro j b;rw[hm]at b;have I:j<min n dn:=b;have:cs[o+j]? =some (cs[o+j]'(by omega)):=Array.getElem?_eq_getElem (by omega);rw[d.cell this];rfl)
   (by
    intro j b;unfold Blk at d;simp[World.frozen?,d])
   (by
    intro u hu;obtain⟨x,_,rfl⟩:=List.mem_map.1 hu;rfl)
  exact⟨_,_,F,z _ (eX g T _ o w cs d)⟩
def cG(w:World)(Z:Nat->Prop)(e:TypeId)(size:Nat)(A:Option Addr)(n c:Nat)(xs:List Value):Prop:=w.ownsRow 0 e size (.slice A n c) n xs/\∀a,A=some a->Z a.block
section
variable {e:TypeId}{size:Nat}{A:Option Addr}{n c:Nat}{xs:List Value}
theorem cG.nil:cG w Z e size none 0 0 []:=⟨⟨by simp,.inl ⟨rfl,rfl⟩⟩,by simp⟩
theorem cG.len(h:cG w Z e size A n c xs):xs.length=n*size:=h.1.1
theorem cG.mono(h:cG w Z e size A n c xs)(b:∀k,Z k->Y k):cG w Y e size A n c xs:=⟨h.1,λa d=>b _ (h.2 a d)⟩
theorem cG.kept {B:Nat->Prop}(h:cG w Z e size A n c xs)(b:Kept B w w')(d:∀k,Z k->B k):cG w' Z e size A n c xs:=by
 refine⟨⟨h.1.1,?_⟩,h.2⟩;rcases h.1.2 with a|⟨g,cap,cur,a,f,i,rest⟩
 ·exact .inl a
 ·have j:A=some ⟨g,0,none⟩:=by injection a
  exact .inr ⟨g,cap,cur,a,f,by rw[b.block g (d _ (h.2 _ j))];exact i,rest⟩
theorem cG.ch(h:cG w Z e size A n c xs)(d:Ch X w w')(f:∀k,Z k->¬X k):cG w' Z e size A n c xs:=by
 refine⟨⟨h.1.1,?_⟩,h.2⟩;rcases h.1.2 with a|⟨g,cap,cur,a,i,b,rest⟩
 ·exact .inl a
 ·have j:A=some ⟨g,0,none⟩:=by injection a
  exact .inr ⟨g,cap,cur,a,i,by rw[d.kept.block g ⟨(Array.getElem?_eq_some_iff.1 b).1,f _ (h.2 _ j)⟩];exact b,rest⟩
theorem cG.pu(h:cG w Z e size A n c xs)(a:Pu w w'):cG w' Z e size A n c xs:=h.ch a (by simp)
theorem cG.CM(h:cG w Z e size A n c xs):n<=c:=by
 rcases h.1.2 with⟨a,b⟩|⟨g,cap,cur,a,_,_,d,_⟩
 ·omega
 ·injection a with _ _ f;omega
theorem cG.cell(h:cG w Z e size A n c xs){j:Nat}(a:xs[j]? =some v):∃g,A=some (Addr.mk g 0 none)/\Z g/\w.cell? ((Addr.mk g 0 none).add j)=some v:=by
 have f:=h.1.1;rcases h.1.2 with⟨b,i⟩|⟨g,cap,cur,b,q,o,r,s,t,p⟩
 ·have:xs= []:=List.eq_nil_of_length_eq_zero (by rw[f,i,Nat.zero_mul]);subst this;simp at a
 ·injection b with d _ _
  refine⟨g,d,h.2 _ d,?_⟩;rw[<-p,List.getElem?_take]at a;split at a
  ·exact Blk.at (show Blk w g cur e from o) (by simpa using a)
  ·cases a
theorem cG.blk(h:cG w Z e size A n c xs)(o:0<n):∃g cur,A=some (Addr.mk g 0 none)/\Z g/\Blk w g cur e/\n*size<=cur.size/\cur.toList.take (n*size)=xs:=by
 rcases h.1.2 with⟨_,p⟩|⟨g,cap,cur,b,q,d,f,r,i,j⟩
 ·omega
 ·injection b with a _ _
  exact⟨g,cur,a,h.2 _ a,d,by rw[i];exact Nat.mul_le_mul_right _ f,j⟩
theorem tX {t ty:TypeId}{z:Value}{bytes:Nat}(p:SN P t e z size bytes)(h:cG w Z e size A n c xs){a:Addr}{m d:Nat}{news:List Value}(E:news.length=m*size)
 (F:∀j u,news[j]? =some u->w.cell? (a.add j)=some u)(G:∀u∈news,u.oneCell'=true)(R:n+m<=9223372036854775807)(H:(n+m)*bytes<=140737488355328){K:Option Addr->Nat->Nat->World->Prop}
 (s:∀A' c' w2,cG w2 (λk=>Z k\/k=w.heap.size) e size A' (n+m) c' (xs++news)->Ch (λk=>∃b,A=some b/\b.block=k) w w2->K A' (n+m) c' w2):
 ∃(A':Option Addr)(n' c':Nat)(w2:World),(Builtin.append_ #[t,t] ty #[.slice A n c,.slice (some a) m d]:Sem Value).run P w=.ok (.slice A' n' c') w2/\K A' n' c' w2:=by
 obtain⟨i,hi,I,J,M⟩:=p.info;obtain⟨S,w2,x,q,o,_,N⟩:=run_append_own_at (P:=P) w 0 t ty e i z size bytes p.und hi I J M p.cells p.pos (.slice A n c) n xs h.1 a m d news E F G (by simp only[maxLen];omega) H (Nat.zero_le _);have y:Ch (λk=>∃b,A=some b/\b.block=k) w w2:=by
  refine⟨⟨o.os,o.tape,o.output,o.size,λk B=>o.block k B.1 λe=>B.2 ?_⟩⟩;cases A with
  |none=>cases e
  |some b=>exact⟨b,rfl,by simpa[Value.ownBlock]using e.symm⟩
 have O:∀A':Option Addr,(Value.slice A' (n+m) 0).ownBlock=(Value.slice A n c).ownBlock\/(Value.slice A' (n+m) 0).ownBlock=some w.heap.size->∀b,A'=some b->Z b.block\/b.block=w.heap.size:=by
  rintro A' (f|f) b rfl
  ·cases A with
   |none=>simp[Value.ownBlock]at f
   |some Q=>simp[Value.ownBlock]at f;rw[f];exact .inl (h.2 Q rfl)
  ·simp[Value.ownBlock]at f;exact .inr f
 rcases q.2 with⟨r,C⟩|⟨g,cap,cur,r,rest⟩
 ·subst r;refine⟨none,0,0,w2,x,?_⟩;have:=s none 0 w2 ⟨by rw[C]at q ⊢;exact q,by simp⟩ y
  rwa[C]at this
 ·subst r;exact⟨_,_,_,w2,x,s _ _ _ ⟨q,O _ (by simpa[Value.ownBlock]using N)⟩ y⟩
end
end Go.Proofs.YtoghdgcmhbanbaaGreatDoor.V
end
section
namespace Go.Proofs.YtoghdgcmhbanbaaGreatDoor.V
open Go Go.RowKit
open Go.IntKind (i64 u32 u64 wrap_i64 wrap_u32)
variable {P:Program}{w w0 w1 w2 w3 w':World}{g g':Nat}{cs cs':Array Value}{T T':TypeId}{X Y Z:Nat->Prop}{v:Value}
theorem Blk.cast(h:Blk w g cs T)(e:cs'=cs):Blk w g cs' T:=e▸h
theorem eE {K:World->Prop}{i j:Nat}{vs:List Value}{cs:Array Value}(a:Blk w g cs T)(hi:i+j+vs.length<=cs.size)(h:∀w2,br w g (setAt cs (i+j) vs) T w2->K w2):ao w (((Addr.mk g 0 none).add i).add j) vs K:=by
 rw[add_add];exact aL a hi h
theorem mkd {K:Nat->World->Prop}(h:∀g w2,Made w g cs T w2->K g w2):∀(g:Nat)(w2:World),g=w.heap.size->w2=w.alloc (.cells cs T)->K g w2:=
 λg w2 a hw=>h g w2 (made a hw)
theorem Made.lo(m:Made w g cs T w2)(a:Ch X w0 w):w0.heap.size<=g:=by rw[m.num];exact a.size
theorem Made.ne(m:Made w g cs T w2)(b:Blk w g' cs' T'):g'≠g:=by have:=b.lt;rw[m.num];omega
theorem Made.off(m:Made w g cs T w2)(h:∀k,X k->k<w.heap.size):¬X g:=λa=>by have:=h g a;rw[m.num]at this;omega
theorem br.ch(s:br w g cs T w2):Ch (λk=>k=g) w w2:=⟨s.kept.mono λ_ h=>h.2⟩
def bX(w:World)(Y:Nat->Prop):Nat->Prop:=λk=>k<w.heap.size/\¬Y k
theorem bX.ld(b:Blk w g cs T)(a:¬Y g)(i:Nat):bX w Y ((Addr.mk g 0 none).add i).block:=by
 rw[block_add];exact⟨b.lt,a⟩
theorem bX.lt(h:g<w.heap.size)(a:¬Y g):bX w Y g:=⟨h,a⟩
def bXU(U V:List Nat)(w:World)(Y:Nat->Prop):Nat->Nat->Prop:=λi k=>V.elem i=true\/(U.elem i=true/\bX w Y k)
theorem bXU.any {U V l:List Nat}(a:l.all (λi=>!(V.elem i))=true){k:Nat}(h:aX (bXU U V w Y) l k):bX w Y k:=by
 induction l with
 |nil=>exact h.elim
 | cons i r b=>
  simp only[List.all_cons,Bool.and_eq_true,Bool.not_eq_true']at a;have hd:bXU U V w Y i k->bX w Y k:=λh=>h.elim (λh=>by rw[a.1]at h;cases h) (·.2);cases r with
  |nil=>exact hd h
  |cons j r=>exact h.elim hd (b a.2)
theorem bXU.more {U V l:List Nat}{F:(Nat->Nat->Prop)->Prop}(q:Ch Z w w2)(f:∀k,Z k->Y k\/w.heap.size<=k)(j:l.all (λi=>!(V.elem i))=true)(h:F (bXU U V w2 Y)):Kept (aX (bXU U V w Y) l) w w2/\∃d:Nat->Nat->Prop,(∀i k,bXU U V w Y i k->d i k)/\F d:=
 ⟨q.kept.mono λk a=>by
  have b:=bXU.any j a;exact⟨b.1,λo=>(f k o).elim b.2 λh=>absurd b.1 (Nat.not_lt.2 h)⟩,_,λi k a=>a.imp id λhu=>⟨hu.1,Nat.lt_of_lt_of_le hu.2.1 q.size,hu.2.2⟩,h⟩
theorem bXU.cV {U V l:List Nat}{F:(Nat->Nat->Prop)->Prop}(q:Pu w w2)(b:l.all (λi=>!(V.elem i))=true)(h:F (bXU U V w2 Y)):Kept (aX (bXU U V w Y) l) w w2/\∃a:Nat->Nat->Prop,(∀i k,bXU U V w Y i k->a i k)/\F a:=
 bXU.more q (λ_ h=>h.elim) b h
theorem bXU.grow {U V:List Nat}{F:(Nat->Nat->Prop)->Prop}(q:Ch Z w w2)(h:F (bXU U V w2 Y)):∃a:Nat->Nat->Prop,(∀i k,bXU U V w Y i k->a i k)/\F a:=
 ⟨_,λi k b=>b.imp id λhu=>⟨hu.1,Nat.lt_of_lt_of_le hu.2.1 q.size,hu.2.2⟩,h⟩
theorem bXU.MY {V:List Nat}:∀ {l:List Nat}(_:l.all (λi=>!(V.elem i))=true){k:Nat},¬aX (bXU [] V w Y) l k
 | [],_,_,h=>h
 | [i],a,k,h=>by
  simp only[List.all_cons,Bool.and_eq_true,Bool.not_eq_true']at a;rcases h with h|h
  ·rw[a.1]at h;cases h
  ·cases h.1
 | i::j::r,a,k,h=>by
  simp only[List.all_cons,Bool.and_eq_true,Bool.not_eq_true']at a;rcases h with(h|h)|h
  ·rw[a.1]at h;cases h
  ·cases h.1
  ·exact bXU.MY (l:=j::r) (by simp only[List.all_cons,Bool.and_eq_true,Bool.not_eq_true'];exact a.2) h
theorem bXU.D4 {V l:List Nat}{F:(Nat->Nat->Prop)->Prop}(q:Ch Z w w2)(d:l.all (λi=>!(V.elem i))=true)(h:F (bXU [] V w2 Y)):Kept (aX (bXU [] V w Y) l) w w2/\∃b:Nat->Nat->Prop,(∀i k,bXU [] V w Y i k->b i k)/\F b:=
 ⟨q.kept.mono λ_ a=>absurd a (bXU.MY d),_,λ_ _ a=>a.imp id λhu=>(by cases hu.1),h⟩
theorem ly {a0 a b d:Value}(f:a0=b)(h:a=d):(#[a0,a]:Array Value)= #[b,d]:=by subst f;subst h;rfl
theorem AS {a0 a b d f h i j o p q r s t u x:Value}(y:a0=o)(z:a=p)(B:b=q)(C:d=r)(E:f=s)(F:h=t)(G:i=u)(H:j=x):(#[a0,a,b,d,f,h,i,j]:Array Value)= #[o,p,q,r,s,t,u,x]:=by subst y;subst z;subst B;subst C;subst E;subst F;subst G;subst H;rfl
theorem aU {x y:Prop}(h:x):split true x y:=ab (λ_=>h) (λe=>nomatch e)
theorem bG {x y:Prop}(h:y):split false x y:=ab (λe=>nomatch e) (λ_=>h)
theorem af {p:Prop} [Decidable p]{x y:Prop}(a:p->x)(b:¬p->y):split (decide p) x y:=
 ab (λh=>a (of_decide_eq_true h)) (λh=>b (of_decide_eq_false h))
theorem bo {b:Bool}{x y:Prop}(a:b=false->x)(d:b=true->y):split (!b) x y:=
 ab (λh=>a (by simpa using h)) (λh=>d (by simpa using h))
theorem aE {a b:Int}{x y:Prop}(d:a=b->x)(f:¬a=b->y):split (a==b) x y:=
 ab (λh=>d (by simpa using h)) (λh=>f (by simpa using h))
theorem aG {a b:Int}{x y:Prop}(d:¬a=b->x)(f:a=b->y):split (a !=b) x y:=
 ab (λh=>d (by simpa using h)) (λh=>f (by simpa using h))
theorem bm {a b:Bool}{x y:Prop}(d:a=true\/b=true->x)(f:a=false/\b=false->y):split (a || b) x y:=
 ab (λh=>d (by simpa using h)) (λh=>f (by simpa using h))
theorem cJ {a b:Bool}{x y:Prop}(d:a=true/\b=true->x)(f:¬(a=true/\b=true)->y):split (a && b) x y:=
 ab (λh=>d (by simpa using h)) (λh=>f (by simpa using h))
end Go.Proofs.YtoghdgcmhbanbaaGreatDoor.V
end
section
namespace Go.Proofs.YtoghdgcmhbanbaaGreatDoor.V
open Go Go.RowKit
open Go.IntKind (i64 u32 u64 wrap_i64 wrap_u32)
variable {P:Program}{w w0 w1 w2 w3 w':World}{g g':Nat}{cs cs':Array Value}{T T':TypeId}{X Y Z:Nat->Prop}{v:Value}
class Enc (α:Type) where
 enc:α→List Value
 size:Nat
 len:∀x,(enc x).length=size
 one:∀x,∀u∈enc x,u.oneCell'=true
 pos:0<size
open Enc (enc)
structure I64 where
 v:Int
structure U32 where
 v:Int
abbrev uM(x:Int):U32:=U32.mk x
abbrev vG(l:List U32)(i:Nat):Int:=(l.getD i (U32.mk 0)).v
structure U8 where
 v:Int
structure Bl where
 v:Bool
instance:Enc I64:=⟨λx=>[.int .i64 x.v],1,λ_=>rfl,by simp[Value.oneCell'],by omega⟩
instance:Enc U32:=⟨λx=>[.int .u32 x.v],1,λ_=>rfl,by simp[Value.oneCell'],by omega⟩
instance:Enc U8:=⟨λx=>[.int .u8 x.v],1,λ_=>rfl,by simp[Value.oneCell'],by omega⟩
instance:Enc Bl:=⟨λx=>[.bool x.v],1,λ_=>rfl,by simp[Value.oneCell'],by omega⟩
section
variable {α:Type} [Enc α]
structure Rd(w:World)(Z:Nat->Prop)(A:Option Addr)(n c:Nat)(l:List α):Prop where
 len:l.length=n
 cap:n<=c
 lt:∀k,Z k->k<w.heap.size
 cell:∀(i:Nat)(x:α),l[i]? =some x->∃p,A=some p/\Z p.block/\∀j,j<Enc.size α->w.cell? ((p.add (i*Enc.size α)).add j)=(enc x)[j]?
variable {A:Option Addr}{n c:Nat}{l:List α}
theorem bM(x:α):(enc x).length=Enc.size α:=Enc.len x
theorem Rd.nil:Rd w (λ_=>False) none 0 c ([]:List α):=⟨rfl,Nat.zero_le _,by simp,by simp⟩
theorem Rd.ch(h:Rd w Z A n c l)(b:Ch X w w')(o:∀k,Z k->¬X k):Rd w' Z A n c l:=by
 refine⟨h.len,h.cap,λk q=>Nat.lt_of_lt_of_le (h.lt k q) b.size,λi x r=>?_⟩;obtain⟨p,s,d,f⟩:=h.cell i x r;refine⟨p,s,d,λj a=>?_⟩;rw[<-f j a];have:j<(enc x).length:=by rw[bM];exact a
 have t:=(f j a).trans (List.getElem?_eq_getElem this);exact b.kept.cell ⟨World.block_lt_of_cell? w _ t,by rw[block_add,block_add];exact o _ d⟩
theorem Rd.pu(h:Rd w Z A n c l)(a:Pu w w'):Rd w' Z A n c l:=h.ch a (by simp)
theorem Rd.mono(h:Rd w Z A n c l)(a:∀k,Z k->Y k)(b:∀k,Y k->k<w.heap.size):Rd w Y A n c l:=
 ⟨h.len,h.cap,b,λi x d=>by obtain⟨p,f,j,o⟩:=h.cell i x d;exact⟨p,f,a _ j,o⟩⟩
theorem Rd.ld(h:Rd w Z A n c l){i:Int}(f:0<=i)(o:i<(n:Int)):∃p x,A=some p/\l[i.toNat]? =some x/\Z p.block/\∀j,j<Enc.size α->w.cell? ((p.add (i.toNat *Enc.size α)).add j)=(enc x)[j]? :=by
 have q:=h.len;have hi:i.toNat<l.length:=by omega
 obtain⟨p,a,b,d⟩:=h.cell i.toNat _ (List.getElem?_eq_getElem hi);exact⟨p,_,a,List.getElem?_eq_getElem hi,b,d⟩
theorem Rd.u32 {l:List U32}(h:Rd w Z A n c l)(j:0<n):∃p,A=some p/\Z p.block/\∀i,i<n->w.cell? (p.add i)=some (.int .u32 (l.getD i ⟨0⟩).v):=by
 have o:=h.len;obtain⟨p,b,d,_⟩:=h.cell 0 _ (List.getElem?_eq_getElem (by omega));refine⟨p,b,d,λi hi=>?_⟩;obtain⟨q,a,_,f⟩:=h.cell i _ (List.getElem?_eq_getElem (by omega));rw[b]at a;injection a with a
 subst a;have:=f 0 (by decide);rw[add_add,Nat.add_zero,show i*Enc.size U32=i from Nat.mul_one i]at this;rw[this,List.getD_eq_getElem?_getD,List.getElem?_eq_getElem (show i<l.length by omega)];rfl
structure Own(w:World)(Z:Nat->Prop)(e:TypeId)(A:Option Addr)(n c:Nat)(l:List α):Prop where
 own:cG w Z e (Enc.size α) A n c (l.flatMap enc)
 len:l.length=n
theorem dh(l:List α):(l.flatMap enc).length=l.length*Enc.size α:=by
 induction l with
 |nil=>simp
 |cons x r a=>simp[a,bM,Nat.add_mul,Nat.add_comm]
theorem flat_get:∀(l:List α)(i j:Nat)(x:α),l[i]? =some x->j<Enc.size α->(l.flatMap enc)[i*Enc.size α+j]? =(enc x)[j]?
 | [],i,j,x,h,a=>by simp at h
 | y::r,0,j,x,h,a=>by
  simp at h;subst h;simp only[List.flatMap_cons,Nat.zero_mul,Nat.zero_add];rw[List.getElem?_append_left (by rw[bM];exact a)]
 | y::r,i+1,j,x,h,a=>by
  simp only[List.getElem?_cons_succ]at h;have b:=flat_get r i j x h a;rw[<-b,List.flatMap_cons,List.getElem?_append_right (by rw[bM,Nat.add_mul,Nat.one_mul];omega),bM];congr 1;rw[Nat.add_mul,Nat.one_mul];omega
variable {e:TypeId}
theorem Own.nil:Own w Z e none 0 0 ([]:List α):=⟨cG.nil,rfl⟩
theorem Own.mono(h:Own w Z e A n c l)(a:∀k,Z k->Y k):Own w Y e A n c l:=⟨h.own.mono a,h.len⟩
theorem Own.ch(h:Own w Z e A n c l)(a:Ch X w w')(b:∀k,Z k->¬X k):Own w' Z e A n c l:=⟨h.own.ch a b,h.len⟩
theorem Own.pu(h:Own w Z e A n c l)(a:Pu w w'):Own w' Z e A n c l:=h.ch a (by simp)
theorem Own.rd(h:Own w Z e A n c l):Rd w (λk=>Z k/\k<w.heap.size) A n c l:=by
 refine⟨h.len,h.own.CM,λk f=>f.2,λi x a=>?_⟩;have hi:i<l.length:=(List.getElem?_eq_some_iff.1 a).1;have o:0<n:=by have:=h.len;omega
 obtain⟨g,cur,p,q,b,_,r⟩:=h.own.blk o;refine⟨_,p,⟨q,b.lt⟩,λj s=>?_⟩;have t:=flat_get l i j x a s;rw[<-t,add_add,<-r,List.getElem?_take];have u:i*Enc.size α+j<n*Enc.size α:=by
  have y:(i+1)*Enc.size α<=n*Enc.size α:=Nat.mul_le_mul_right _ (by have:=h.len;omega);rw[Nat.add_mul,Nat.one_mul]at y;omega
 rw[if_pos u,bn,Nat.zero_add];have d:i*Enc.size α+j<cur.size:=by omega
 rw[b.cell (i:=i*Enc.size α+j) (v:=cur[i*Enc.size α+j]) (Array.getElem?_eq_getElem d)];simp[d]
theorem Own.lt(h:Own w Z e A n c l)(a:0<n):∃g,A=some (Addr.mk g 0 none)/\Z g/\g<w.heap.size:=by
 obtain⟨g,cur,b,d,f,_⟩:=h.own.blk a;exact⟨g,b,d,f.lt⟩
theorem Own.app {t ty:TypeId}{z:Value}{bytes:Nat}(h:Own w Z e A n c l)(a:SN P t e z (Enc.size α) bytes){g:Nat}{news:Array Value}{x:α}(d:Blk w g news e)(f:news.toList=enc x)(i:n+1<=9223372036854775807)(o:(n+1)*bytes<=140737488355328)(p:Z w.heap.size)
 {K:Option Addr->Nat->Nat->World->Prop}(q:∀A' c' w2,Own w2 Z e A' (n+1) c' (l++ [x])->Ch Z w w2->K A' (n+1) c' w2):
 ∃(A':Option Addr)(n' c':Nat)(w2:World),(Builtin.append_ #[t,t] ty #[.slice A n c,.slice (some (Addr.mk g 0 none)) 1 1]:Sem Value).run P w=.ok (.slice A' n' c') w2/\K A' n' c' w2:=by
 refine tX a h.own (news:=enc x) (by rw[bM,Nat.one_mul]) (λj u hu=>d.at (by rw[<-f]at hu;simpa using hu)) (Enc.one x) i o λA' c' w2 r s=>?_;refine q A' c' w2 ⟨?_,by simp[h.len]⟩ (s.mono ?_)
 ·rw[List.flatMap_append,List.flatMap_cons,List.flatMap_nil,List.append_nil];exact r.mono λk y=>y.elim id λe=>e▸p
 ·rintro k ⟨b,B,rfl⟩;exact h.own.2 b B
theorem Own.apps {t ty:TypeId}{z:Value}{bytes:Nat}(h:Own w Z e A n c l)(G:SN P t e z (Enc.size α) bytes){B:Option Addr}{m d:Nat}{l2:List α}(f:Rd w Y B m d l2)(H:n+m<=9223372036854775807)(I:(n+m)*bytes<=140737488355328)(J:Z w.heap.size)
 {K:Option Addr->Nat->Nat->World->Prop}(M:∀A' c' w2,Own w2 Z e A' (n+m) c' (l++l2)->Ch Z w w2->K A' (n+m) c' w2)
 (N:m=0->B=none->∃(A':Option Addr)(n' c':Nat)(w2:World),(Builtin.append_ #[t,t] ty #[.slice A n c,.slice none 0 d]:Sem Value).run P w=.ok (.slice A' n' c') w2/\K A' n' c' w2):
 ∃(A':Option Addr)(n' c':Nat)(w2:World),(Builtin.append_ #[t,t] ty #[.slice A n c,.slice B m d]:Sem Value).run P w=.ok (.slice A' n' c') w2/\K A' n' c' w2:=by
 cases B with
 | none=>
  have hm:m=0:=by
   cases q:l2 with
   |nil=>have:=f.len;rw[q]at this;simpa using this.symm
   |cons x r=>obtain⟨p,o,_⟩:=f.cell 0 x (by rw[q];rfl);cases o
  subst hm;exact N rfl rfl
 | some a=>
  refine tX G h.own (news:=l2.flatMap enc) (by rw[dh,f.len]) (λj u hu=>?_) (λu hu=>?_) H I λA' c' w2 O Q=>?_
  ·have o:0<Enc.size α:=Enc.pos;have s:j<(l2.flatMap enc).length:=(List.getElem?_eq_some_iff.1 hu).1;rw[dh]at s;have hq:j / Enc.size α<l2.length:=(Nat.div_lt_iff_lt_mul o).2 s;have y:j % Enc.size α<Enc.size α:=Nat.mod_lt _ o;obtain⟨p,i,_,R⟩:=f.cell (j / Enc.size α) _ (List.getElem?_eq_getElem hq);injection i with i
   subst i;have C:=R (j % Enc.size α) y;have E:=flat_get l2 (j / Enc.size α) (j % Enc.size α) _ (List.getElem?_eq_getElem hq) y;have F:j / Enc.size α*Enc.size α+j % Enc.size α=j:=by rw[Nat.mul_comm];exact Nat.div_add_mod j (Enc.size α)
   rw[F]at E;rw[add_add,F]at C;rw[C,<-E,hu]
  ·obtain⟨x,_,S⟩:=List.mem_flatMap.1 hu;exact Enc.one x u S
  ·refine M A' c' w2 ⟨?_,by simp[h.len,f.len]⟩ (Q.mono ?_)
   ·rw[List.flatMap_append];exact O.mono λk U=>U.elim id λe=>e▸J
   ·rintro k ⟨b,i,rfl⟩;exact h.own.2 b i
theorem Ae {t e:TypeId}{z:Value}{bytes:Nat}(h:S1 P t e z bytes)(x:α)(f:enc x= [z]){n:Int}(o:0<=n)(p:(bytes:Int)*n<=281474976710656)(q:n<=9223372036854775807){K:Option Addr->Nat->Nat->World->Prop}
 (r:∀g w2,Made w g (Array.replicate n.toNat z) e w2->Own w2 (λk=>k=g) e (some (Addr.mk g 0 none)) n.toNat n.toNat (List.replicate n.toNat x)->K (some (Addr.mk g 0 none)) n.toNat n.toNat w2):
 ∃(A:Option Addr)(N C:Nat)(w2:World),(Instr.makeSlice t (.int .i64 n) (.int .i64 n):Sem Value).run P w=.ok (.slice A N C) w2/\K A N C w2:=by
 have b:Enc.size α=1:=by rw[<-bM x,f];rfl
 have i:(List.replicate n.toNat x).flatMap enc=List.replicate n.toNat z:=by
  generalize n.toNat=k
  induction k with
  |zero=>rfl
  |succ k s=>rw[List.replicate_succ,List.flatMap_cons,s,f];rfl
 refine j3 h o p q λg w2 j=>r g w2 j ⟨⟨⟨by rw[i,b];simp,.inr ⟨g,n.toNat,Array.replicate n.toNat z,rfl,Nat.zero_le _,j.blk,Nat.le_refl _,by simp only[maxLen];omega,by rw[b];simp,by rw[b,i];simp⟩⟩,?_⟩,by simp⟩;intro a d;injection d with d
 rw[<-d]
theorem Ar:∀(l:List α)(i:Nat)(x:α),i<l.length->(l.set i x).flatMap enc=((l.flatMap enc).take (i*Enc.size α))++enc x++((l.flatMap enc).drop ((i+1)*Enc.size α))
 | [],i,x,h=>by simp at h
 | y::r,0,x,h=>by
  simp only[List.set_cons_zero,List.flatMap_cons,Nat.zero_mul,List.take_zero,List.nil_append,Nat.zero_add,Nat.one_mul];rw[List.drop_append_of_le_length (by rw[bM];omega),List.drop_of_length_le (by rw[bM];omega),List.nil_append]
 | y::r,i+1,x,h=>by
  have a:=Ar r i x (by simpa using h);simp only[List.set_cons_succ,List.flatMap_cons];rw[a];have b:(i+1)*Enc.size α=Enc.size α+i*Enc.size α:=by rw[Nat.add_mul,Nat.one_mul,Nat.add_comm]
  have d:(i+1+1)*Enc.size α=Enc.size α+(i+1)*Enc.size α:=by rw[Nat.add_mul (i+1),Nat.one_mul,Nat.add_comm]
  rw[b,d,<-bM y,List.take_length_add_append,List.drop_length_add_append];simp[bM,List.append_assoc,Nat.add_mul,Nat.add_comm]
theorem Own.st(h:Own w Z e A n c l){p:Addr}(a:A=some p){i:Nat}(hi:i<n){x y:α}(u:l[i]? =some x){o:Nat}{vs:List Value}(W:o+vs.length<=Enc.size α)(z:enc y=(enc x).take o++vs++(enc x).drop (o+vs.length)){K:World->Prop}
 (B:∀w2,Own w2 Z e A n c (l.set i y)->Ch Z w w2->K w2):ao w ((p.add (i*Enc.size α)).add o) vs K:=by
 have hn:0<n:=by omega
 have d:=h.len;rcases h.own.1.2 with⟨_,an⟩|⟨g,cap,cur,C,hg,E,j,F,r,G⟩
 ·omega
 injection C with s _ H
 have I:p=Addr.mk g 0 none:=by rw[s]at a;injection a with a;exact a.symm
 subst I;have J:=h.own.2 _ a;have M:Blk w g cur e:=E;have az:n*Enc.size α<=cur.size:=by rw[r];exact Nat.mul_le_mul_right _ j
 have h3:(i+1)*Enc.size α<=n*Enc.size α:=Nat.mul_le_mul_right _ (by omega);have aA:(i+1)*Enc.size α=i*Enc.size α+Enc.size α:=by rw[Nat.add_mul,Nat.one_mul]
 rw[add_add,bn,Nat.zero_add];refine jT M (by omega) λw2 t=>B w2 ⟨⟨⟨by rw[dh];simp[d],.inr ⟨g,cap,setAt cur (i*Enc.size α+o) vs,by rw[s,H],Nat.zero_le _,t.blk,j,F,by rw[fe];exact r,?_⟩⟩,h.own.2⟩,by simp[d]⟩ (t.ch.mono λk b=>b▸J);apply List.ext_getElem?;intro k;rw[Ar l i y (by omega)];have N:(l.flatMap enc).length=n*Enc.size α:=by rw[dh,d]
 have hex:(enc x).length=Enc.size α:=bM x;have O:(enc y).length=Enc.size α:=bM y;rw[List.getElem?_take];have f:∀q,q<n*Enc.size α->(l.flatMap enc)[q]? =cur[q]? :=λq hq=>by
  rw[<-G,List.getElem?_take,if_pos hq];simp
 have Q:(setAt cur (i*Enc.size α+o) vs).toList[k]? =if i*Enc.size α+o<=k/\k<i*Enc.size α+o+vs.length then vs[k - (i*Enc.size α+o)]? else cur[k]? :=by
  have:=dO vs cur (i*Enc.size α+o) k (by omega);simpa using this
 rw[Q];have R:∀q,q<Enc.size α->cur[i*Enc.size α+q]? =(enc x)[q]? :=λq hq=>by
  rw[<-f _ (by omega)];exact flat_get l i q x u hq
 by_cases b:k<n*Enc.size α
 ·rw[if_pos b];by_cases S:k<i*Enc.size α
  ·rw[if_neg (by omega),List.append_assoc,List.getElem?_append_left (by rw[List.length_take];omega),List.getElem?_take,if_pos S,f k b]
  ·obtain⟨q,rfl⟩:∃q,k=i*Enc.size α+q:=⟨k - i*Enc.size α,by omega⟩;have U:((l.flatMap enc).take (i*Enc.size α)).length=i*Enc.size α:=by rw[List.length_take];omega
   rw[List.append_assoc,List.getElem?_append_right (by omega),U,show i*Enc.size α+q - i*Enc.size α=q by omega];by_cases hq:q<Enc.size α
   ·rw[List.getElem?_append_left (by omega),z];by_cases h5:o<=q/\q<o+vs.length
    ·rw[if_pos (by omega),List.append_assoc,List.getElem?_append_right (by rw[List.length_take];omega),List.length_take,hex,show min o (Enc.size α)=o by omega,List.getElem?_append_left (by omega)];congr 1;omega
    ·rw[if_neg (by omega),R q hq];by_cases V:q<o
     ·rw[List.append_assoc,List.getElem?_append_left (by rw[List.length_take];omega),List.getElem?_take,if_pos V]
     ·rw[List.getElem?_append_right (by simp[List.length_take];omega),List.getElem?_drop];congr 1;simp[List.length_take];omega
   ·rw[if_neg (by omega),List.getElem?_append_right (by omega),List.getElem?_drop,f _ (by omega)];congr 1;omega
 ·rw[if_neg b];symm;apply List.getElem?_eq_none;simp only[List.length_append,List.length_take,List.length_drop,N,O];omega
theorem Own.st0(h:Own w Z e A n c l){p:Addr}(b:A=some p){i:Nat}(hi:i<n){x y:α}(d:l[i]? =some x){vs:List Value}(a:enc y=vs){K:World->Prop}
 (f:∀w2,Own w2 Z e A n c (l.set i y)->Ch Z w w2->K w2):ao w (p.add (i*Enc.size α)) vs K:=by
 have:=Own.st h b hi d (o:=0) (vs:=vs) (y:=y) (by rw[<-a,bM];omega) (by rw[<-a];simp[bM]) f
 rwa[add_add,Nat.add_zero]at this
end
theorem cG.within {w:World}{Z:Nat->Prop}{e:TypeId}{size:Nat}{A:Option Addr}{n c:Nat}{xs:List Value}(h:cG w Z e size A n c xs):cG w (λk=>Z k/\k<w.heap.size) e size A n c xs:=by
 refine⟨h.1,λa d=>⟨h.2 a d,?_⟩⟩;rcases h.1.2 with⟨f,j⟩|⟨g,cap,cur,f,o,i,rest⟩
 ·injection f with b _ _
  rw[d]at b;cases b
 ·injection f with b _ _
  rw[d]at b;injection b with b
  rw[b];exact(Array.getElem?_eq_some_iff.1 i).1
theorem Own.within {α:Type} [Enc α]{w:World}{Z:Nat->Prop}{e:TypeId}{A:Option Addr}{n c:Nat}{l:List α}(h:Own w Z e A n c l):Own w (λk=>Z k/\k<w.heap.size) e A n c l:=⟨h.own.within,h.len⟩
end Go.Proofs.YtoghdgcmhbanbaaGreatDoor.V
end
section
namespace Go.Proofs.YtoghdgcmhbanbaaGreatDoor.V
open Go Go.RowKit
open Go.IntKind (i64 u32 u64 wrap_i64 wrap_u32)
variable {P:Program}{w w1 w':World}{X Y Z:Nat->Prop}{e:TypeId}{k:IntKind}{A:Option Addr}{n c:Nat}{l:List Int}
def OI(w:World)(Z:Nat->Prop)(e:TypeId)(k:IntKind)(A:oA)(n c:Nat)(l:List Int):Prop:=cG w Z e 1 A n c (l.map (Value.int k))
theorem OI.nil:OI w Z e k none 0 0 []:=cG.nil
theorem OI.len(h:OI w Z e k A n c l):l.length=n:=by simpa using cG.len h
theorem OI.ints(h:OI w Z e k A n c l):aD w Z k A n c l:=⟨h.len,cG.CM h,λj x a=>by
 obtain⟨g,b,d,f⟩:=cG.cell h (j:=j) (v:=.int k x) (by simp[a]);exact⟨_,b,d,f⟩⟩
theorem OI.ch(h:OI w Z e k A n c l)(q:Ch X w w')(a:∀k,Z k->¬X k):OI w' Z e k A n c l:=cG.ch h q a
theorem OI.pu(h:OI w Z e k A n c l)(q:Pu w w'):OI w' Z e k A n c l:=cG.pu h q
theorem OI.mono(h:OI w Z e k A n c l)(a:∀k,Z k->Y k):OI w Y e k A n c l:=cG.mono h a
theorem aD.lt(h:aD w Z k A n c l):aD w (λk=>Z k/\k<w.heap.size) k A n c l:=⟨h.len,h.cap,λj x b=>by
 obtain⟨p,d,f,a⟩:=h.cell j x b;have:=World.block_lt_of_cell? w _ a;rw[block_add]at this;exact⟨p,d,⟨f,this⟩,a⟩⟩
theorem aD.from_ {lo m:Nat}{A':Option Addr}{n' c':Nat}(h:aD w Z k A n c l)(a:A'=(if m=lo then A else A.map (·.add (lo*1))))(b:n'=n - lo)(d:c'=m - lo)(f:lo<=n)(i:n<=m):aD w Z k A' n' c' (l.drop lo):=by
 have:=h.cut (lo:=lo) (hi:=n) (m:=m) a b d f (Nat.le_refl _) i
 rwa[List.take_of_length_le (by rw[h.len];omega)]at this
theorem cu {t ty:TypeId}{z:Value}{bytes:Nat}(o:SN P t e z 1 bytes)(h:OI w Z e k A n c l)(E:Z w.heap.size){B:Option Addr}{m d:Nat}{news:List Int}(q:aD w Y k B m d news)(F:n+m<=9223372036854775807)(G:(n+m)*bytes<=140737488355328)
 {K:Option Addr->Nat->Nat->World->Prop}(C:∀A' c' w2,OI w2 Z e k A' (n+m) c' (l++news)->Ch Z w w2->K A' (n+m) c' w2):
 ∃(A':oA)(n' c':Nat)(w2:World),(Builtin.append_ #[t,t] ty #[.slice A n c,.slice B m d]:Sem Value).run P w=.ok (.slice A' n' c') w2/\K A' n' c' w2:=by
 cases B with
 | none=>
  have H:news= []:=by
   cases news with
   |nil=>rfl
   |cons x r=>obtain⟨p,f,_⟩:=q.cell 0 x rfl;cases f
  subst H;have hm:m=0:=by simpa using q.len.symm
  subst hm;obtain⟨i,hi,R,S,U⟩:=o.info;refine⟨A,n,c,w,?_,C A c w (by simpa using h) (Ch.refl _ _)⟩;rcases h.1.2 with⟨s,_⟩|⟨g,cap,cur,s,_,_,I,_⟩
  ·rw[s];simp[Builtin.append_,run_underlying o.und,sizeOf,typeInfo,hi,Builtin.lenOf,Builtin.firstCells]
  ·rw[s];simp[Builtin.append_,run_underlying o.und,sizeOf,typeInfo,hi,Builtin.lenOf,Builtin.firstCells,I,storeCells]
 | some a=>
  refine tX o h (news:=news.map (Value.int k)) (by simp[q.len]) (λj u hu=>?_) (λu hu=>?_) F G λA' c' w2 J M=>?_
  ·rw[List.getElem?_map]at hu;cases y:news[j]? with
   |none=>rw[y]at hu;cases hu
   | some x=>
    rw[y]at hu;injection hu with hu
    subst hu;obtain⟨p,f,_,N⟩:=q.cell j x y;injection f with f
    subst f;exact N
  ·obtain⟨x,_,rfl⟩:=List.mem_map.1 hu;rfl
  ·refine C A' c' w2 ?_ (M.mono ?_)
   ·unfold OI;rw[List.map_append];exact J.mono λk O=>O.elim id λe=>e▸E
   ·rintro k ⟨b,Q,rfl⟩;exact h.2 b Q
theorem dW {t ty:TypeId}{z:Value}{bytes:Nat}(d:SN P t e z 1 bytes)(h:OI w Z e k A n c l)(f:∀k,w.heap.size<=k->Z k){g m:Nat}(news:List Int)(hm:news.length=m)(a:Made w g ⟨news.map (Value.int k)⟩ e w1)(i:n+m<=9223372036854775807)(o:(n+m)*bytes<=140737488355328)
 {K:Option Addr->Nat->Nat->World->Prop}(p:∀A' c' w2,OI w2 Z e k A' (n+m) c' (l++news)->Ch Z w w2->Ch Z w1 w2->K A' (n+m) c' w2):
 ∃(A':oA)(n' c':Nat)(w2:World),(Builtin.append_ #[t,t] ty #[.slice A n c,.slice (pvA g) m m]:Sem Value).run P w1=.ok (.slice A' n' c') w2/\K A' n' c' w2:=by
 have q:aD w1 (λk=>k=g) k (pvA g) m m news:=aD.blk (Z:=λj=>j=g) (m:=0) a.blk rfl (Nat.le_refl _) hm λj x r=>by rw[Nat.zero_add];simp[r]
 refine cu d (h.pu a.pu) (f _ (by rw[a.size];omega)) q i o λA' c' w2 s b=>?_;exact p A' c' w2 s ((show Pu w w1 from a.pu).mono (λ_ h=>h.elim) |>.call b λk u=>.inl u) b
def strOf(l:List Int):ByteArray:=⟨(l.map λx=>UInt8.ofNat x.toNat).toArray⟩
theorem fL {src dst e:TypeId}(d:P.underlying src=some (.slice e))(he:P.underlying e=some (.int .u8))(hd:P.underlying dst=some .string)(h:aD w Z .u8 A n c l):
 (convert src dst (.slice A n c)).run P w=.ok (.string (strOf l)) w:=by
 rw[run_convert_bytes_string w src dst e A n c d he hd];cases A with
 | none=>
  have:l= []:=by
   cases l with
   |nil=>rfl
   |cons x r=>obtain⟨p,f,_⟩:=h.cell 0 x rfl;cases f
  subst this;rfl
 | some p=>
  have b:=gP (P:=P) (w:=w) (p:=p) (l.map (Value.int .u8)) 0 #[] (by
   intro j u hu;rw[List.getElem?_map]at hu;cases a:l[j]? with
   |none=>rw[a]at hu;cases hu
   | some x=>
    rw[a]at hu;injection hu with hu
    subst hu;obtain⟨q,hq,_,i⟩:=h.cell j x a;injection hq with hq
    subst hq;rw[Nat.zero_add];exact i)
  rw[List.length_map,h.len]at b;rw[run_bytesToString w p n c l (by unfold loadCells;rw[b];simp)];rw[foldl_push_bytes];simp[strOf]
end Go.Proofs.YtoghdgcmhbanbaaGreatDoor.V
end
section
namespace Go.Proofs.YtoghdgcmhbanbaaGreatDoor.Pk
open Go Go.RowKit
open Go.IntKind (i64 u32 u64 wrap_i64 wrap_u32)
def four(x:Int):List Int:= [IntKind.u8.wrap (x.fdiv (2 ^ 24)),IntKind.u8.wrap (x.fdiv (2 ^ 16)),IntKind.u8.wrap (x.fdiv (2 ^ 8)),IntKind.u8.wrap x]
def hdr(n:Int):List Int:= [IntKind.u8.wrap (n.fdiv (2 ^ 8)),IntKind.u8.wrap n]
def jU(n:Int):List Int:= [IntKind.u8.wrap ((32768+n).fdiv (2 ^ 8)),IntKind.u8.wrap n]
theorem u8_eq(x:Int):IntKind.u8.wrap x=x % 256:=by rw[IntKind.wrap_u8]
theorem u32_eq(x:Int):u32.wrap x=x % 4294967296:=by rw[wrap_u32]
def cQ:List Int->Nat
 | []=>1
 |x::r=>1+(r.takeWhile (· ==x)).length
def unl:List Int->Nat
 | []=>0
 | [_]=>1
 |y::z::r=>if y=z then 0 else 1+unl (z::r)
def bZ:List Int->Nat
 | []=>1
 |_::r=>1+unl r
def bz:Nat->List Int->List Int
 |0,_=>[]
 |_+1,[]=>[]
 | m+1,x::r=>
  if 2<=min (cQ (x::r)) 32767 then jU (min (cQ (x::r)) 32767:Nat)++four x++bz m ((x::r).drop (min (cQ (x::r)) 32767))
  else hdr (min (bZ (x::r)) 32767:Nat)++((x::r).take (min (bZ (x::r)) 32767)).flatMap four++bz m ((x::r).drop (min (bZ (x::r)) 32767))
def pack(l:List Int):List Int:=if 262144<l.length then []else four (l.length:Int)++bz l.length l
theorem iG(l:List Int):1<=cQ l:=by cases l<;>simp[cQ]
theorem fj(l:List Int):1<=bZ l:=by cases l<;>simp[bZ]
theorem lY(x:Int)(r:List Int):cQ (x::r)<=r.length+1:=by
 have:=(List.takeWhile_prefix (p:=(· ==x)) (l:=r)).length_le;simp only[cQ];omega
theorem xy:∀l:List Int,unl l<=l.length
 | []=>by simp[unl]
 | [_]=>by simp[unl]
 | y::z::r=>by
  have:=xy (z::r);simp only[unl];split<;>simp at * <;>omega
theorem jS(x:Int)(r:List Int):bZ (x::r)<=r.length+1:=by
 have:=xy r;simp only[bZ];omega
theorem jX:∀(m k:Nat)(l:List Int),l.length<=m->l.length<=k->bz m l=bz k l
 | 0,k,l,h,_=>by
  have:l= []:=List.eq_nil_of_length_eq_zero (by omega);subst this;cases k<;>rfl
 | m+1,0,l,_,h=>by
  have:l= []:=List.eq_nil_of_length_eq_zero (by omega);subst this;rfl
 |m+1,k+1,[],_,_=>rfl
 | m+1,k+1,x::r,h,a=>by
  have b:=iG (x::r);have hu:=fj (x::r);simp only[List.length_cons]at h a;simp only[bz];split
  ·rw[jX m k _ (by simp;omega) (by simp;omega)]
  ·rw[jX m k _ (by simp;omega) (by simp;omega)]
theorem mX(x:Int)(r:List Int):bz (x::r).length (x::r)=
 if 2<=min (cQ (x::r)) 32767 then jU (min (cQ (x::r)) 32767:Nat)++four x++bz ((x::r).drop (min (cQ (x::r)) 32767)).length ((x::r).drop (min (cQ (x::r)) 32767))
 else hdr (min (bZ (x::r)) 32767:Nat)++((x::r).take (min (bZ (x::r)) 32767)).flatMap four++bz ((x::r).drop (min (bZ (x::r)) 32767)).length ((x::r).drop (min (bZ (x::r)) 32767)):=by
 have a:=iG (x::r);have hu:=fj (x::r);simp only[List.length_cons,bz];split
 ·rw[jX r.length _ _ (by simp;omega) (Nat.le_refl _)]
 ·rw[jX r.length _ _ (by simp;omega) (Nat.le_refl _)]
theorem iU(x:Int):(four x).length=4:=rfl
theorem bu:∀l:List Int,(l.flatMap four).length=4*l.length
 | []=>rfl
 |x::r=>by simp[bu r,iU];omega
theorem jY:∀(m:Nat)(l:List Int),(bz m l).length<=6*l.length
 |0,l=>by simp[bz]
 |m+1,[]=>by simp[bz]
 | m+1,x::r=>by
  have a:=iG (x::r);have hu:=fj (x::r);have b:=lY x r;have d:=jS x r;simp only[bz];split
  ·have:=jY m ((x::r).drop (min (cQ (x::r)) 32767));simp only[List.length_append,List.length_drop,List.length_cons,jU,four,List.length_nil]at *;omega
  ·have:=jY m ((x::r).drop (min (bZ (x::r)) 32767));simp only[List.length_append,List.length_drop,List.length_cons,hdr,List.length_nil,bu,List.length_take]at *;omega
theorem ig(x:Int):∀(r:List Int)(j:Nat),j<(r.takeWhile (· ==x)).length->r.getD j 0=x
 | [],j,h=>by simp at h
 | y::r,j,h=>by
  rw[List.takeWhile_cons]at h;split at h
  ·rename_i a;cases j with
   |zero=>simpa using a
   |succ j=>simpa using ig x r j (by simpa using h)
  ·simp at h
theorem jh(x:Int):∀(r:List Int),(r.takeWhile (· ==x)).length<r.length->r.getD (r.takeWhile (· ==x)).length 0≠x
 | [],h=>by simp at h
 | y::r,h=>by
  rw[List.takeWhile_cons]at h ⊢;split
  ·rename_i a;simp only[a,if_true,List.length_cons]at h;simpa using jh x r (by omega)
  ·rename_i a;simpa using a
theorem wV {l:List Int}{n:Nat}(i:1<=n)(d:n<=l.length)(f:∀j,j<n->l.getD j 0=l.getD 0 0)(a:n=l.length\/l.getD n 0≠l.getD 0 0):cQ l=n:=by
 cases l with
 |nil=>simp at d;omega
 | cons x r=>
  have o:=(List.takeWhile_prefix (p:=(· ==x)) (l:=r)).length_le;simp only[cQ];simp only[List.length_cons]at d a;rcases Nat.lt_trichotomy (1+(r.takeWhile (· ==x)).length) n with h|h|h
  ·have:=jh x r (by omega);have b:=f (1+(r.takeWhile (· ==x)).length) h;rw[Nat.add_comm]at b;simp at b;exact absurd b (by simpa using this)
  ·exact h
  ·have:=ig x r (n - 1) (by omega);rcases a with a|a
   ·omega
   ·obtain⟨k,rfl⟩:∃k,n=k+1:=⟨n - 1,by omega⟩;simp at a this;exact absurd this a
theorem zk:∀(r:List Int)(j:Nat),j<unl r->j+1=r.length\/r.getD j 0≠r.getD (j+1) 0
 | [],j,h=>by simp[unl]at h
 | [_],j,h=>by simp[unl]at h;simp[h]
 | y::z::r,j,h=>by
  simp only[unl]at h;split at h
  ·omega
  ·rename_i b;cases j with
   |zero=>right;simpa using b
   | succ j=>
    rcases zk (z::r) j (by omega)with a|a
    ·left;simp at a ⊢;omega
    ·right;simpa using a
theorem xz:∀(r:List Int),unl r<r.length->unl r+1<r.length/\r.getD (unl r) 0=r.getD (unl r+1) 0
 | [],h=>by simp at h
 | [_],h=>by simp[unl]at h
 | y::z::r,h=>by
  simp only[unl]at h ⊢;split
  ·rename_i a;simp[a]
  ·rename_i a;rw[if_neg a]at h;have:=xz (z::r) (by simp at h ⊢;omega);rw[show 1+unl (z::r)=unl (z::r)+1 by omega];refine⟨by have:=this.1;simp at this ⊢;omega,?_⟩;simpa using this.2
theorem sF {l:List Int}{n:Nat}(i:1<=n)(d:n<=l.length)(f:∀j,1<=j->j<n->j+1=l.length\/l.getD j 0≠l.getD (j+1) 0)(b:n=l.length\/(n+1<l.length/\l.getD n 0=l.getD (n+1) 0)):bZ l=n:=by
 cases l with
 |nil=>simp at d;omega
 | cons x r=>
  have o:=xy r;simp only[bZ];simp only[List.length_cons]at d b;rcases Nat.lt_trichotomy (1+unl r) n with h|h|h
  ·have:=xz r (by omega);have a:=f (1+unl r) (by omega) h;rw[Nat.add_comm 1]at a;simp only[List.length_cons,List.getD_cons_succ]at a;rcases a with a|a
   ·omega
   ·exact absurd this.2 a
  ·exact h
  ·obtain⟨k,rfl⟩:∃k,n=k+1:=⟨n - 1,by omega⟩;have:=zk r k (by omega);rcases b with b|b
   ·omega
   ·simp only[List.getD_cons_succ]at b;rcases this with a|a
    ·omega
    ·exact absurd b.2 a
end Go.Proofs.YtoghdgcmhbanbaaGreatDoor.Pk
end
section
namespace Go.Proofs.YtoghdgcmhbanbaaGreatDoor.Pk
open Go Go.RowKit
open Go.IntKind (i64 u32 u64 wrap_i64 wrap_u32)
def cn(l:List Int):Int:=l.getD 0 0*16777216+l.getD 1 0*65536+l.getD 2 0*256+l.getD 3 0
def eC(L b:List Int):Prop:=(∀x∈L,0<=x/\x<4294967296)/\L.length<=262144/\pack L=b
theorem fdiv_eq(x:Int)(n:Nat):x.fdiv (2 ^ n)=x / 2 ^ n:=by
 rw[Int.fdiv_eq_ediv_of_nonneg];exact Int.le_of_lt (Int.pow_pos (by decide))
theorem lR {x:Int}(h:0<=x/\x<4294967296)(r:List Int):cn (four x++r)=x:=by
 simp only[cn,four,List.cons_append,List.nil_append,List.getD_cons_zero,List.getD_cons_succ,u8_eq];rw[fdiv_eq,fdiv_eq,fdiv_eq];omega
theorem G8(l:List Int)(a:Nat):cn ((l.take (a+4)).drop a)=cn (l.drop a):=by
 simp only[cn,List.getD_eq_getElem?_getD,List.getElem?_drop,List.getElem?_take];rw[if_pos (by omega),if_pos (by omega),if_pos (by omega),if_pos (by omega)]
theorem ek {l:List Int}(h:∀x∈l,0<=x/\x<256):0<=cn l/\cn l<4294967296:=by
 have g:∀i,0<=l.getD i 0/\l.getD i 0<256:=by
  intro i;rw[List.getD_eq_getElem?_getD];cases hi:l[i]? with
  |none=>simp
  |some x=>simpa using h x (List.mem_of_getElem? hi)
 have:=g 0;have:=g 1;have:=g 2;have:=g 3;simp only[cn];omega
theorem eC.head {L b:List Int}(h:eC L b):b=four (L.length:Int)++bz L.length L:=by
 have:=h.2.2;rw[<-this];unfold pack;rw[if_neg (by have:=h.2.1;omega)]
theorem eC.num {L b:List Int}(h:eC L b):cn b=(L.length:Int):=by
 rw[h.head,lR (by have:=h.2.1;omega)]
theorem eC.len {L b:List Int}(h:eC L b):4<=b.length:=by
 rw[h.head];simp[four]
theorem zR(D:List Int)(b:D≠ []):
 (∃N:Nat,2<=N/\N<=32767/\N<=D.length/\bz D.length D=jU (N:Int)++four (D.getD 0 0)++bz (D.drop N).length (D.drop N)/\∀j,j<N->D.getD j 0=D.getD 0 0)\/
 (∃M:Nat,1<=M/\M<=32767/\M<=D.length/\bz D.length D=hdr (M:Int)++(D.take M).flatMap four++bz (D.drop M).length (D.drop M)):=by
 cases D with
 |nil=>exact absurd rfl b
 | cons x r=>
  have a:=mX x r;have h:=lY x r;have hu:=jS x r;have i:=fj (x::r);split at a
  ·rename_i d;refine .inl ⟨_,d,by omega,by simp only[List.length_cons];omega,by simpa using a,λj f=>?_⟩;cases j with
   |zero=>rfl
   | succ j=>
    have:j<(r.takeWhile (· ==x)).length:=by simp only[cQ]at f;omega
    simpa using ig x r j this
  ·exact .inr ⟨_,by omega,by omega,by simp only[List.length_cons];omega,a⟩
def fp(l:List Int):Int:=l.getD 0 0*256+l.getD 1 0
theorem CE {N:Nat}(a:N<=32767)(r:List Int):fp (jU (N:Int)++r)=32768+N:=by
 simp only[fp,jU,List.cons_append,List.nil_append,List.getD_cons_zero,List.getD_cons_succ,u8_eq];rw[fdiv_eq];omega
theorem Fj {M:Nat}(a:M<=32767)(r:List Int):fp (hdr (M:Int)++r)=M:=by
 simp only[fp,hdr,List.cons_append,List.nil_append,List.getD_cons_zero,List.getD_cons_succ,u8_eq];rw[fdiv_eq];omega
def ext(run:Bool)(rest:List Int)(k:Nat):List Int:=(List.range k).map λq=>cn (rest.drop (if run then 0 else 4*q))
theorem lq(run:Bool)(rest:List Int)(k:Nat):ext run rest (k+1)=ext run rest k++ [cn (rest.drop (if run then 0 else 4*k))]:=by
 simp[ext,List.range_succ]
theorem dG(run:Bool)(rest:List Int)(k:Nat):(ext run rest k).length=k:=by simp[ext]
theorem iV:∀(l:List Int)(q:Nat),(l.flatMap four).drop (4*q)=(l.drop q).flatMap four
 |l,0=>by simp
 | [],q+1=>by simp
 | x::r,q+1=>by
  rw[List.flatMap_cons,show 4*(q+1)=4+4*q by omega,<-List.drop_drop];rw[show(four x++r.flatMap four).drop 4=r.flatMap four by simp[four]];simpa using iV r q
theorem JR {N:Nat}{D rest:List Int}(d:N<=D.length)(b:∀j,j<N->D.getD j 0=cn rest):ext true rest N=D.take N:=by
 apply List.ext_getElem
 ·simp[dG];omega
 ·intro j a f;simp only[dG]at a;have:=b j a;rw[List.getD_eq_getElem?_getD,List.getElem?_eq_getElem (by omega)]at this;simp[ext];simpa using this.symm
theorem Hz {M:Nat}{D X:List Int}(d:M<=D.length)(hw:∀x∈D,0<=x/\x<4294967296):ext false ((D.take M).flatMap four++X) M=D.take M:=by
 apply List.ext_getElem
 ·simp[dG];omega
 ·intro j b f;simp only[dG]at b;simp only[ext,List.getElem_map,List.getElem_range,Bool.false_eq_true,if_false];have hlen:4*j<=((D.take M).flatMap four).length:=by rw[bu,List.length_take];omega
  rw[List.drop_append_of_le_length hlen,iV];have a:j<(D.take M).length:=by rw[List.length_take];omega
  rw[List.drop_eq_getElem_cons a,List.flatMap_cons,List.append_assoc,lR];have:(D.take M)[j]∈D:=List.mem_of_mem_take (List.getElem_mem a);exact hw _ this
theorem nO {L:List Int}(hw:∀x∈L,0<=x/\x<4294967296){i:Nat}(hi:i<L.length){rest:List Int}(a:rest=bz (L.drop i).length (L.drop i)):
 ∃k:Nat,1<=k/\k<=32767/\i+k<=L.length/\2<=rest.length/\
  ((fp rest=32768+k/\6<=rest.length/\ext true (rest.drop 2) k=(L.drop i).take k/\(rest.drop 2).drop 4=bz (L.drop (i+k)).length (L.drop (i+k)))\/
   (fp rest=k/\2+4*k<=rest.length/\ext false (rest.drop 2) k=(L.drop i).take k/\(rest.drop 2).drop (4*k)=bz (L.drop (i+k)).length (L.drop (i+k)))):=by
 have hlen:(L.drop i).length=L.length - i:=List.length_drop;have h:∀x∈L.drop i,0<=x/\x<4294967296:=λx d=>hw x (List.mem_of_mem_drop d);rcases zR (L.drop i) (by intro e;rw[e]at hlen;simp at hlen;omega)with⟨N,o,b,f,he,p⟩|⟨M,o,b,f,he⟩
 ·refine⟨N,by omega,b,by omega,?_,.inl ⟨?_,?_,?_,?_⟩⟩
  ·rw[a,he];simp[jU]
  ·rw[a,he,List.append_assoc,CE b]
  ·rw[a,he];simp[jU,four]
  ·have d:0<=(L.drop i).getD 0 0/\(L.drop i).getD 0 0<4294967296:=by
    rw[List.getD_eq_getElem?_getD,List.getElem?_eq_getElem (by omega)];exact h _ (List.getElem_mem _)
   refine JR f λj q=>?_;rw[p j q,a,he];rw[show(jU (N:Int)++four ((L.drop i).getD 0 0)++bz ((L.drop i).drop N).length ((L.drop i).drop N)).drop 2=four ((L.drop i).getD 0 0)++bz ((L.drop i).drop N).length ((L.drop i).drop N)by simp[jU]];rw[lR d]
  ·rw[a,he,List.drop_drop];simp[jU,four]
 ·refine⟨M,o,b,by omega,?_,.inr ⟨?_,?_,?_,?_⟩⟩
  ·rw[a,he];simp[hdr]
  ·rw[a,he,List.append_assoc,Fj b]
  ·rw[a,he];simp only[List.length_append,hdr,List.length_cons,List.length_nil,bu,List.length_take];omega
  ·rw[a,he];rw[show(hdr (M:Int)++((L.drop i).take M).flatMap four++bz ((L.drop i).drop M).length ((L.drop i).drop M)).drop 2=((L.drop i).take M).flatMap four++bz ((L.drop i).drop M).length ((L.drop i).drop M)by simp[hdr]];exact Hz f h
  ·rw[a,he];rw[show(hdr (M:Int)++((L.drop i).take M).flatMap four++bz ((L.drop i).drop M).length ((L.drop i).drop M)).drop 2=((L.drop i).take M).flatMap four++bz ((L.drop i).drop M).length ((L.drop i).drop M)by simp[hdr]];have r:(((L.drop i).take M).flatMap four).length=4*M:=by rw[bu,List.length_take];omega
   rw[<-r,List.drop_left,List.drop_drop]
theorem sH(x:Int):0<=IntKind.u8.wrap x/\IntKind.u8.wrap x<256:=by rw[u8_eq];omega
theorem gT(x:Int):∀y∈four x,0<=y/\y<256:=by
 intro y a;simp only[four,List.mem_cons,List.not_mem_nil,or_false]at a;rcases a with rfl|rfl|rfl|rfl<;>exact sH _
theorem im:∀(m:Nat)(l:List Int),∀y∈bz m l,0<=y/\y<256
 |0,l,y,a=>by simp[bz]at a
 |m+1,[],y,a=>by simp[bz]at a
 | m+1,x::r,y,a=>by
  simp only[bz]at a;split at a
  ·simp only[List.mem_append]at a;rcases a with(a|a)|a
   ·simp only[jU,List.mem_cons,List.not_mem_nil,or_false]at a;rcases a with rfl|rfl<;>exact sH _
   ·exact gT _ y a
   ·exact im m _ y a
  ·simp only[List.mem_append]at a;rcases a with(a|a)|a
   ·simp only[hdr,List.mem_cons,List.not_mem_nil,or_false]at a;rcases a with rfl|rfl<;>exact sH _
   ·obtain⟨z,_,b⟩:=List.mem_flatMap.1 a;exact gT z y b
   ·exact im m _ y a
theorem nX(l:List Int):∀y∈pack l,0<=y/\y<256:=by
 intro y a;unfold pack at a;split at a
 ·simp at a
 ·rcases List.mem_append.1 a with a|a
  ·exact gT _ y a
  ·exact im _ _ y a
end Go.Proofs.YtoghdgcmhbanbaaGreatDoor.Pk
end
section
namespace Go.Proofs.YtoghdgcmhbanbaaGreatDoor.Pk
open Go
abbrev Wd(l:List Int):Prop:=∀x∈l,0<=x/\x<4294967296
abbrev Bt(l:List Int):Prop:=∀x∈l,0<=x/\x<256
def eD(L:List Int):Prop:=Wd L/\L.length<=262144
theorem eC.l {L b:List Int}(h:eC L b):eD L:=⟨h.1,h.2.1⟩
theorem eD.p {L:List Int}(h:eD L):eC L (pack L):=⟨h.1,h.2,rfl⟩
theorem E7:∀(n:Nat)(D E:List Int),D.length=n->E.length=n->Wd D->Wd E->bz n D=bz n E->D=E:=by
 intro n
 induction n using Nat.strongRecOn with
 | ind n z=>
  intro D E a b q r he;by_cases B:n=0
  ·subst B;rw[List.eq_nil_of_length_eq_zero a,List.eq_nil_of_length_eq_zero b]
  ·obtain⟨k,N,O,C,Q,s⟩:=nO q (i:=0) (by omega) (rest:=bz n D) (by simp[a]);obtain⟨k',R,S,F,G,d⟩:=nO r (i:=0) (by omega) (rest:=bz n E) (by simp[b]);rw[<-he]at G d;simp only[Nat.zero_add,List.drop_zero]at C s F d;have key:k=k'->D.take k=E.take k->bz (D.drop k).length (D.drop k)=bz (E.drop k).length (E.drop k)->D=E:=by
    intro U H t;have u:(D.drop k).length=n - k:=by rw[List.length_drop,a]
    have y:(E.drop k).length=n - k:=by rw[List.length_drop,b]
    have:=z (n - k) (by omega) (D.drop k) (E.drop k) u y (λx f=>q x (List.mem_of_mem_drop f)) (λx f=>r x (List.mem_of_mem_drop f)) (by rw[u,y]at t;exact t);rw[<-List.take_append_drop k D,H,this,List.take_append_drop]
   rcases s with⟨I,J,h,j⟩|⟨I,J,h,j⟩<;>rcases d with⟨K,M,o,p⟩|⟨K,M,o,p⟩
   ·obtain rfl:k=k':=by omega
    exact key rfl (h.symm.trans o) (j.symm.trans p)
   ·omega
   ·omega
   ·obtain rfl:k=k':=by omega
    exact key rfl (h.symm.trans o) (j.symm.trans p)
theorem pack_eq {L:List Int}(h:eD L):pack L=four (L.length:Int)++bz L.length L:=by
 unfold pack;rw[if_neg (by have:=h.2;omega)]
theorem zQ {L a:List Int}(h:eD L)(b:eD a)(e:pack L=pack a):L=a:=by
 have f:=h.p.num;have i:=b.p.num;rw[e,i]at f;have d:a.length=L.length:=by omega
 rw[pack_eq h,pack_eq b,d]at e;exact E7 _ L a rfl d h.1 b.1 (List.append_cancel_left e)
theorem kV {L:List Int}(h:eD L):(pack L).length<=4+6*L.length:=by
 have:=jY L.length L;rw[pack_eq h,List.length_append,iU];omega
def Fr(L:List Int):List Int:=four ((pack L).length:Int)++pack L
theorem yZ(L:List Int):(Fr L).length=4+(pack L).length:=by unfold Fr;rw[List.length_append,iU]
theorem Dv {L:List Int}(h:eD L)(r:List Int):cn (Fr L++r)=((pack L).length:Int):=by
 have:=kV h;have:=h.2;unfold Fr;rw[List.append_assoc,lR (by omega)]
theorem pR {L a r r':List Int}(h:eD L)(b:eD a)(e:Fr L++r=Fr a++r'):L=a/\r=r':=by
 have f:=Dv h r;rw[e,Dv b r']at f;have i:(Fr L).length=(Fr a).length:=by rw[yZ,yZ];omega
 obtain⟨d,j⟩:=List.append_inj e i;refine⟨zQ h b ?_,j⟩;unfold Fr at d;exact(List.append_inj d rfl).2
theorem Hw {l:List Int}(h:Bt l)(f:4<=l.length):four (cn l)=l.take 4:=by
 match l,f with
 | a::b::c::d::r,_=>
  have i:=h a (by simp);have j:=h b (by simp);have o:=h c (by simp);have p:=h d (by simp);simp only[cn,four,List.getD_cons_zero,List.getD_cons_succ,u8_eq,List.take_succ_cons,List.take_zero];rw[fdiv_eq,fdiv_eq,fdiv_eq];simp only[List.cons.injEq,and_true];omega
theorem HK {b L:List Int}(h:Bt b)(d:4<=b.length)(j:cn b<=b.length - 4)(f:eC L ((b.drop 4).take (cn b).toNat)):b=Fr L++b.drop (4+(cn b).toNat):=by
 have o:=ek h;have a:=f.2.2;have i:(pack L).length=(cn b).toNat:=by rw[a,List.length_take,List.length_drop];omega
 unfold Fr;rw[i,show(((cn b).toNat:Nat):Int)=cn b by omega,Hw h d,a,List.append_assoc,<-List.drop_drop,List.take_append_drop,List.take_append_drop]
theorem py {L r:List Int}(h:eD L):4<=(Fr L++r).length/\cn (Fr L++r)<=((Fr L++r).length:Int) - 4/\eC L (((Fr L++r).drop 4).take (cn (Fr L++r)).toNat):=by
 have a:=Dv h r;have b:=yZ L;refine⟨by rw[List.length_append];omega,by rw[a,List.length_append];omega,?_⟩;rw[a,Int.toNat_natCast];unfold Fr;rw[List.append_assoc,show(four ((pack L).length:Int)++(pack L++r)).drop 4=pack L++r by rw[List.drop_append_of_le_length (by rw[iU];omega)];simp[four],List.take_left];exact h.p
def Shape(b:List Int)(ps:List (List Int))(t:List Int):Prop:=b=ps.flatMap Fr++t/\∀p∈ps,eD p
theorem Shape.nil(b:List Int):Shape b [] b:=⟨rfl,λ_ h=>by cases h⟩
theorem Shape.cut:∀ {ps:List (List Int)} {b t a u},Shape b ps t->Shape b a u->ps.length<=a.length->∃rs,a=ps++rs/\Shape t rs u
 | [],b,t,a,u,h,d,_=>⟨a,rfl,by have:=h.1;simp at this;subst this;exact d⟩
 |p::ps,b,t,[],u,h,d,f=>by simp at f
 | p::ps,b,t,q::a,u,h,d,f=>by
  have e:=h.1.symm.trans d.1;rw[List.flatMap_cons,List.flatMap_cons,List.append_assoc,List.append_assoc]at e;obtain⟨rfl,j⟩:=pR (h.2 p (List.mem_cons_self ..)) (d.2 q (List.mem_cons_self ..)) e;obtain⟨rs,rfl,o⟩:=Shape.cut (b:=ps.flatMap Fr++t) ⟨rfl,λx i=>h.2 x (List.mem_cons_of_mem _ i)⟩ ⟨j,λx i=>d.2 x (List.mem_cons_of_mem _ i)⟩ (by simpa using f);exact⟨rs,rfl,o⟩
theorem Shape.snoc {b t r L:List Int}{ps:List (List Int)}(h:Shape b ps t)(d:eD L)(e:t=Fr L++r):Shape b (ps++ [L]) r:=by
 refine⟨by rw[h.1,e];simp[List.flatMap_append],λp a=>?_⟩;rcases List.mem_append.1 a with a|a
 ·exact h.2 p a
 ·rw[List.mem_singleton.1 a];exact d
theorem Shape.head {t q u:List Int}{a:List (List Int)}(h:Shape t (q::a) u):eD q/\t=Fr q++(a.flatMap Fr++u):=⟨h.2 q (List.mem_cons_self ..),by have:=h.1;rwa[List.flatMap_cons,List.append_assoc]at this⟩
structure Snp(b h:List Int)(ps:List (List Int))(t:List Int):Prop where
 sh:Shape b (h::ps) t
 t4:t.length=4
 h26:h.length=26
 le:h.getD 0 0<=64/\h.getD 1 0<=64/\h.getD 2 0<=64
 num:(ps.length:Int)=1+h.getD 2 0+(h.getD 0 0+h.getD 1 0)
 pgs:∀(i:Nat)(p:List Int),ps[i]? =some p->1+h.getD 2 0<=(i:Int)->p.length=1024
theorem Snp.uniq {b h d t j:List Int}{ps f:List (List Int)}(s:Snp b h ps t)(a:Snp b d f j):h=d/\ps=f/\t=j:=by
 have e:h=d:=(pR s.sh.head.1 a.sh.head.1 (s.sh.head.2.symm.trans a.sh.head.2)).1;subst e;have o:ps.length=f.length:=by have:=s.num;have:=a.num;omega
 obtain⟨rs,i,p⟩:=Shape.cut s.sh a.sh (by simp[o]);have q:rs= []:=by
  have:=congrArg List.length i;simp at this;exact List.eq_nil_of_length_eq_zero (by omega)
 subst q;simp at i;have:=p.1;simp at this;exact⟨rfl,i.symm,this⟩
def pQ(h:List Int):Prop:=h.length=26/\h.getD 0 0<=64/\h.getD 1 0<=64/\h.getD 2 0<=64
def Pts(ps:List (List Int))(want:Int):Prop:=(ps= []/\want=1)\/∃h r,ps=h::r/\pQ h/\want=2+h.getD 2 0+(h.getD 0 0+h.getD 1 0)/\∀(i:Nat)(p:List Int),r[i]? =some p->1+h.getD 2 0<=(i:Int)->p.length=1024
theorem Snp.full {b rest h t:List Int}{ps f:List (List Int)}{want:Int}(sh:Shape b ps rest)(st:Pts ps want)(j:(ps.length:Int)<=want)(s:Snp b h f t):∃rs,h::f=ps++rs/\Shape rest rs t/\(ps≠ []->((ps.length+rs.length:Nat):Int)=want):=by
 rcases st with⟨rfl,_⟩|⟨o,r,rfl,p,hw,q⟩
 ·obtain⟨rs,a,d⟩:=Shape.cut sh s.sh (by simp);exact⟨rs,a,d,λi=>absurd rfl i⟩
 ·obtain rfl:h=o:=(pR s.sh.head.1 sh.head.1 (s.sh.head.2.symm.trans sh.head.2)).1;have i:=s.num;obtain⟨rs,a,d⟩:=Shape.cut sh s.sh (by simp at j ⊢;omega);refine⟨rs,a,d,λ_=>?_⟩;have:=congrArg List.length a;simp at this ⊢;omega
theorem Snp.next {b rest h t:List Int}{ps a:List (List Int)}{want:Int}(sh:Shape b ps rest)(st:Pts ps want)(o:(ps.length:Int)<want)(s:Snp b h a t):∃q rs,h::a=ps++q::rs/\eD q/\rest=Fr q++(rs.flatMap Fr++t):=by
 obtain⟨rs,d,i,j⟩:=s.full sh st (by omega);cases rs with
 | nil=>
  by_cases f:ps= []
  ·subst f;cases d
  ·have:=j f;simp at this;omega
 |cons q rs=>exact⟨q,rs,d,i.head⟩
theorem Snp.ok {b rest h t q:List Int}{ps d:List (List Int)}{want:Int}{r:List Int}(sh:Shape b ps rest)(st:Pts ps want)(f:(ps.length:Int)<want)(j:eD q)(e:rest=Fr q++r)(s:Snp b h d t):Pts (ps++ [q]) (2+h.getD 2 0+(h.getD 0 0+h.getD 1 0))/\h=(ps++ [q]).getD 0 []:=by
 obtain⟨q',rs,a,o,u⟩:=s.next sh st f;obtain⟨rfl,_⟩:=pR j o (e.symm.trans u);cases ps with
 | nil=>
  simp at a;obtain⟨rfl,rfl⟩:=a;exact⟨.inr ⟨h,[],rfl,⟨s.h26,s.le⟩,rfl,λi p hi=>by simp at hi⟩,rfl⟩
 | cons x xs=>
  simp at a;obtain⟨rfl,rfl⟩:=a;refine⟨.inr ⟨h,xs++ [q],rfl,⟨s.h26,s.le⟩,rfl,λi p hi y=>s.pgs i p ?_ y⟩,rfl⟩;have hlen:i<xs.length+1:=by have:=(List.getElem?_eq_some_iff.1 hi).1;simpa using this
  rw[<-hi];rw[show xs++q::rs=(xs++ [q])++rs by simp,List.getElem?_append_left (by simpa using hlen)]
end Go.Proofs.YtoghdgcmhbanbaaGreatDoor.Pk
end
section
namespace Go.Proofs.YtoghdgcmhbanbaaGreatDoor
open Go Go.RowKit V Pk
open Go.IntKind (i64 u32 u64 wrap_i64 wrap_u32)
theorem st8:SN Tryz.prog 27 5 (vY 0) 1 1:=(S1.of (by kernel_rfl) (by kernel_rfl) rfl:S1 Tryz.prog 27 5 (vY 0) 1).sn
theorem oQ:SN Tryz.prog 26 22 (O 0) 1 4:=(S1.of (by kernel_rfl) (by kernel_rfl) rfl:S1 Tryz.prog 26 22 (O 0) 4).sn
theorem jg:Tryz.prog.underlying 9=some .string:=by kernel_rfl
theorem sG:Tryz.prog.underlying 27=some (.slice 5):=by kernel_rfl
theorem kG:Tryz.prog.underlying 5=some (.int .u8):=by kernel_rfl
abbrev up(w:World):Nat->Prop:=λk=>w.heap.size<=k
theorem DM {A:Option Addr}{n c:Nat}(x:Int){l:List Int}{Z:Nat->Prop}{w:World}(h:OI w Z 5 .u8 A n c l)(a:∀k,w.heap.size<=k->Z k)(f:n<=140737488355000):
 Calls Tryz.prog 25 #[.slice A n c,.int .u32 x] w λe w'=>∃v,e=.returned v/\∃A' c',v=.slice A' (n+4) c'/\OI w' Z 5 .u8 A' (n+4) c' (l++four x)/\Ch Z w w':=by
 refine qO _ _ _ _ (mkd λg w1 m=>dW (m:=4) st8 h a (four x) rfl m (by omega) (by omega) λA' c' w2 b d _=>?_);exact⟨A',c',rfl,b,d⟩
theorem tH(x:Int)(w:World):
 Calls Tryz.prog 23 #[.int .u32 x] w λe w'=>∃v,e=.returned v/\∃g,v=.slice (pvA g) 4 4/\OI w' (up w) 5 .u8 (pvA g) 4 4 (four x)/\Pu w w':=by
 refine vj _ (mkd λg w1 m=>?_);exact⟨g,rfl,⟨⟨rfl,.inr ⟨g,4,_,rfl,Nat.zero_le _,m.blk,Nat.le_refl _,by decide,rfl,rfl⟩⟩,λa b=>by injection b with b;rw[<-b];exact Nat.le_of_eq m.num.symm⟩,m.pu⟩
theorem cX {l:List Int}(h:Bt l)(i:Nat):0<=l.getD i 0/\l.getD i 0<256:=by
 rw[List.getD_eq_getElem?_getD];cases hi:l[i]? with
 |none=>simp
 |some x=>simpa using h x (List.mem_of_getElem? hi)
theorem bJ {l:List Int}(h:Wd l)(i:Nat):0<=l.getD i 0/\l.getD i 0<4294967296:=by
 rw[List.getD_eq_getElem?_getD];cases hi:l[i]? with
 |none=>simp
 |some x=>simpa using h x (List.mem_of_getElem? hi)
theorem xM(k:IntKind)(i a b:Nat)(d:b<2 ^ i)(j:2 ^ i*a+b<2 ^ k.bits):(BitVec.ofInt k.bits ((2 ^ i*a:Nat):Int) ||| BitVec.ofInt k.bits ((b:Nat):Int)).toNat=2 ^ i*a+b:=by
 have f:2 ^ i*a<2 ^ k.bits:=by omega
 have h:b<2 ^ k.bits:=by omega
 rw[BitVec.toNat_or,BitVec.ofInt_natCast,BitVec.ofInt_natCast,BitVec.toNat_ofNat,BitVec.toNat_ofNat,Nat.mod_eq_of_lt f,Nat.mod_eq_of_lt h];exact(Nat.two_pow_add_eq_or_of_lt d a).symm
theorem JN(a b c d:Int)(f:0<=a/\a<256)(h:0<=b/\b<256)(i:0<=c/\c<256)(hd:0<=d/\d<256):
 u32.wrap (BitVec.ofInt u32.bits (u32.wrap (BitVec.ofInt u32.bits (u32.wrap (BitVec.ofInt u32.bits (u32.wrap ((u32.wrap a:Int)*2 ^ 24)) ||| BitVec.ofInt u32.bits (u32.wrap ((u32.wrap b:Int)*2 ^ 16))).toNat) ||| BitVec.ofInt u32.bits (u32.wrap ((u32.wrap c:Int)*2 ^ 8))).toNat) ||| BitVec.ofInt u32.bits (u32.wrap d)).toNat=a*16777216+b*65536+c*256+d:=by
 obtain⟨a,rfl⟩:=Int.eq_ofNat_of_zero_le f.1;obtain⟨b,rfl⟩:=Int.eq_ofNat_of_zero_le h.1;obtain⟨c,rfl⟩:=Int.eq_ofNat_of_zero_le i.1;obtain⟨d,rfl⟩:=Int.eq_ofNat_of_zero_le hd.1;have j:(u32.wrap ((u32.wrap (a:Int):Int)*2 ^ 24))=((2 ^ 24*a:Nat):Int):=by rw[Pk.u32_eq,Pk.u32_eq];omega
 have o:(u32.wrap ((u32.wrap (b:Int):Int)*2 ^ 16))=((2 ^ 16*b:Nat):Int):=by rw[Pk.u32_eq,Pk.u32_eq];omega
 have p:(u32.wrap ((u32.wrap (c:Int):Int)*2 ^ 8))=((2 ^ 8*c:Nat):Int):=by rw[Pk.u32_eq,Pk.u32_eq];omega
 have q:u32.wrap (d:Int)=((d:Nat):Int):=by rw[Pk.u32_eq];omega
 rw[j,o,p,q];rw[xM .u32 24 a (2 ^ 16*b) (by omega) (by simp only[IntKind.bits];omega)];rw[show u32.wrap ((2 ^ 24*a+2 ^ 16*b:Nat):Int)=((2 ^ 16*(2 ^ 8*a+b):Nat):Int)by rw[Pk.u32_eq];omega];rw[xM .u32 16 (2 ^ 8*a+b) (2 ^ 8*c) (by omega) (by simp only[IntKind.bits];omega)];rw[show u32.wrap ((2 ^ 16*(2 ^ 8*a+b)+2 ^ 8*c:Nat):Int)=((2 ^ 8*(2 ^ 16*a+2 ^ 8*b+c):Nat):Int)by rw[Pk.u32_eq];omega];rw[xM .u32 8 (2 ^ 16*a+2 ^ 8*b+c) d (by omega) (by simp only[IntKind.bits];omega)];rw[Pk.u32_eq];omega
theorem Ao {A:Option Addr}{n c:Nat}{l:List Int}{Z:Nat->Prop}{w:World}(h:aD w Z .u8 A n c l)(d:4<=n)(a:Bt l):
 Calls Tryz.prog 28 #[.slice A n c] w λe w'=>∃v,e=.returned v/\v=.int .u32 (cn l)/\Pu w w':=by
 refine BB _ _ _ ?_;have b:=h.drew;refine b.rd (by omega) (by omega) (b.rd (by omega) (by omega) (b.rd (by omega) (by omega) (b.rd (by omega) (by omega) ⟨?_,Pu.aw w⟩)));rw[JN _ _ _ _ (cX a _) (cX a _) (cX a _) (cX a _)];rfl
theorem iw {A:Option Addr}{n c:Nat}{l:List Int}{Z:Nat->Prop}{w:World}(h:aD w Z .u8 A n c l)(d:4<=n)(a:Bt l):
 Calls Tryz.prog 32 #[.slice A n c] w λe w'=>∃v,e=.returned v/\v=.int .u32 (cn l)/\Pu w w':=by
 refine ri _ _ _ ?_;have b:=h.drew;refine b.rd (by omega) (by omega) (b.rd (by omega) (by omega) (b.rd (by omega) (by omega) (b.rd (by omega) (by omega) ⟨?_,Pu.aw w⟩)));have f:=cX a 0;have i:=cX a 1;have j:=cX a 2;have o:=cX a 3;simp only[Pk.u32_eq,cn];congr 1;simp only[Int.toNat_zero,Int.toNat_one,show Int.toNat 2=2 from rfl,show Int.toNat 3=3 from rfl];omega
end Go.Proofs.YtoghdgcmhbanbaaGreatDoor
end
section
namespace Go.Proofs.YtoghdgcmhbanbaaGreatDoor
open Go Go.RowKit V Pk
open Go.IntKind (i64 u32 u64 wrap_i64 wrap_u32)
theorem JJ(a b:Int):(a==b)=decide (a=b):=rfl
theorem J8 {A:Option Addr}{n c:Nat}{l:List Int}{Z:Nat->Prop}{w:World}(h:aD w Z .u32 A n c l)(t:1<=n)(hm:n<=140737488355328):
 Calls Tryz.prog 26 #[.slice A n c] w λe w'=>∃v,e=.returned v/\v=.int .i64 (cQ l)/\Pu w w':=by
 have u:=h.len;refine vd _ _ _ ?_;rintro x rfl;refine⟨λm i w'=>Pu w w'/\1<=i/\i<=n/\m=n - i.toNat/\∀j:Nat,j<i.toNat->l.getD j 0=l.getD 0 0,⟨_,Ch.refl _ _,by omega,by omega,rfl,?_⟩,?_⟩
 ·intro j p;obtain rfl:j=0:=by omega
  rfl
 ·rintro m _ i y ⟨q,z,B,rfl,d⟩;refine⟨λT w'=>Pu w w'/\(T=decide (i<n/\l.getD i.toNat 0=l.getD 0 0)),?_,?_⟩
  ·have f:=(h.pu q).drew;refine ab (λa=>?_) (λa=>?_)
   ·have b:i<n:=by simpa using a
    refine f.rd (by omega) b (f.rd (by omega) (by omega) ⟨q.drew,?_⟩);simp[b,JJ]
   ·refine⟨q.drew,?_⟩;have b:¬i<n:=by simpa using a
    simp[b]
  ·rintro _ T C ⟨q,o⟩;refine ab (λa=>?_) (λa=>?_)
   ·subst a;obtain⟨E,heq⟩:=of_decide_eq_true o.symm;rintro i2 rfl;rw[aa (by omega)];refine⟨n - (i+1).toNat,by omega,q,by omega,by omega,rfl,λj p=>?_⟩;by_cases r:j<i.toNat
    ·exact d j r
    ·obtain rfl:j=i.toNat:=by omega
     exact heq
   ·subst a;have s:=of_decide_eq_false o.symm;refine⟨?_,q⟩;rw[wV (l:=l) (n:=i.toNat) (by omega) (by omega) d (by
     by_cases hi:i.toNat=l.length
     ·exact .inl hi
     ·exact .inr λhe=>s ⟨by omega,he⟩)]
    congr 1;omega
theorem Gm {A:Option Addr}{n c:Nat}{l:List Int}{Z:Nat->Prop}{w:World}(h:aD w Z .u32 A n c l)(z:1<=n)(hm:n<=140737488355328):
 Calls Tryz.prog 27 #[.slice A n c] w λe w'=>∃v,e=.returned v/\v=.int .i64 (bZ l)/\Pu w w':=by
 have B:=h.len;refine uq _ _ _ ?_;rintro C rfl;refine⟨λm i w'=>Pu w w'/\1<=i/\i<=n/\m=n - i.toNat/\∀j:Nat,1<=j->j<i.toNat->j+1=l.length\/l.getD j 0≠l.getD (j+1) 0,⟨_,Ch.refl _ _,by omega,by omega,rfl,by omega⟩,?_⟩;rintro m _ i E ⟨q,F,G,rfl,o⟩;refine⟨λT w'=>Pu w w'/\(T=decide (i<n/\(i+1=n\/l.getD i.toNat 0≠l.getD (i.toNat+1) 0))),?_,?_⟩
 ·have p:=(h.pu q).drew;refine ab (λa=>?_) (λa=>?_)
  ·have b:i<n:=by simpa using a
   rw[aa (by omega)];refine ab (λd=>?_) (λd=>?_)
   ·have f:i+1=n:=by simpa using d
    exact⟨q.drew,by simp[b,f]⟩
   ·have f:¬i+1=n:=by simpa using d
    refine p.rd (by omega) b (p.rd (by omega) (by omega) ⟨q.drew,?_⟩);have e:(i+1).toNat=i.toNat+1:=by omega
    rw[e];simp[b,f,bne,JJ]
  ·refine⟨q.drew,?_⟩;have b:¬i<n:=by simpa using a
   simp[b]
 ·rintro _ T H ⟨q,r⟩;refine ab (λa=>?_) (λa=>?_)
  ·subst a;obtain⟨s,heq⟩:=of_decide_eq_true r.symm;rintro i2 rfl;rw[aa (by omega)];refine⟨n - (i+1).toNat,by omega,q,by omega,by omega,rfl,λj u I=>?_⟩;by_cases x:j<i.toNat
   ·exact o j u x
   ·obtain rfl:j=i.toNat:=by omega
    rcases heq with heq|heq
    ·left;omega
    ·exact .inr heq
  ·subst a;have y:=of_decide_eq_false r.symm;refine⟨?_,q⟩;rw[sF (l:=l) (n:=i.toNat) (by omega) (by omega) o (by
    by_cases hi:i.toNat=l.length
    ·exact .inl hi
    ·have s:i<n:=by omega
     have t:¬(i+1=n\/l.getD i.toNat 0≠l.getD (i.toNat+1) 0):=λhe=>y ⟨s,he⟩;simp only[not_or,ne_eq,Classical.not_not]at t;exact .inr ⟨by omega,t.2⟩)]
   congr 1;omega
theorem dP(l:List Int)(i j:Nat):(l.drop i).getD j 0=l.getD (i+j) 0:=by
 simp[List.getD_eq_getElem?_getD,List.getElem?_drop]
theorem GN {A:Option Addr}{n c:Nat}{l:List Int}(at_:Int){Z:Nat->Prop}{w:World}(h:aD w Z .u32 A n c l)(I:0<=at_)(J:at_<n)(hm:n<=140737488355328):
 Calls Tryz.prog 24 #[.slice A n c,.int .i64 at_] w λe w'=>∃v,e=.returned v/\v=.int .i64 (min (cQ (l.drop at_.toNat)) 32767:Nat)/\Pu w w':=by
 have z:=h.len;have hd:(l.drop at_.toNat).length=n - at_.toNat:=by rw[List.length_drop,z]
 refine uw _ _ _ _ ?_;rintro K rfl;refine⟨λm i w'=>Pu w w'/\1<=i/\at_+i<=n/\i<=32767/\m=n - i.toNat/\∀j:Nat,j<i.toNat->(l.drop at_.toNat).getD j 0=(l.drop at_.toNat).getD 0 0,⟨_,Ch.refl _ _,by omega,by omega,by omega,rfl,?_⟩,?_⟩
 ·intro j B;obtain rfl:j=0:=by omega
  rfl
 ·rintro m _ i M ⟨q,N,O,Q,rfl,b⟩;refine⟨λT w'=>Pu w w'/\(T=decide (i<32767/\at_+i<n/\(l.drop at_.toNat).getD i.toNat 0=(l.drop at_.toNat).getD 0 0)),?_,?_⟩
  ·have t:=(h.pu q).drew;refine ab (λa=>?_) (λa=>?_)
   ·have f:i<32767:=by simpa using a
    rw[aa (by omega)];refine ab (λo=>?_) (λo=>?_)
    ·have d:at_+i<n:=by simpa using o
     refine t.rd (by omega) d (t.rd (by omega) (by omega) ⟨q.drew,?_⟩);rw[dP,dP];rw[show(at_+i).toNat=at_.toNat+i.toNat by omega];simp[f,d,JJ]
    ·have d:¬at_+i<n:=by simpa using o
     exact⟨q.drew,by simp[d]⟩
   ·have f:¬i<32767:=by simpa using a
    exact⟨q.drew,by simp[f]⟩
  ·rintro _ T R ⟨q,u⟩;refine ab (λa=>?_) (λa=>?_)
   ·subst a;obtain⟨C,S,heq⟩:=of_decide_eq_true u.symm;rintro i2 rfl;rw[aa (by omega)];refine⟨n - (i+1).toNat,by omega,q,by omega,by omega,by omega,rfl,λj B=>?_⟩;by_cases E:j<i.toNat
    ·exact b j E
    ·obtain rfl:j=i.toNat:=by omega
     exact heq
   ·subst a;have F:=of_decide_eq_false u.symm;refine⟨?_,q⟩;congr 1;by_cases hi:i=32767
    ·
     have:32767<=cQ (l.drop at_.toNat):=by
      cases y:l.drop at_.toNat with
      |nil=>rw[y]at hd;simp at hd;omega
      | cons x r=>
       rw[y]at b hd;simp only[cQ];have hle:(r.takeWhile (· ==x)).length<=r.length:=(List.takeWhile_prefix (p:=(· ==x)) (l:=r)).length_le;by_cases C:1+(r.takeWhile (· ==x)).length<32767
       ·exfalso;have G:=jh x r (by simp at hd;omega);have s:=b (1+(r.takeWhile (· ==x)).length) (by omega);rw[Nat.add_comm]at s;simp only[List.getD_cons_succ,List.getD_cons_zero]at s;exact G s
       ·omega
     omega
    ·rw[wV (l:=l.drop at_.toNat) (n:=i.toNat) (by omega) (by omega) b (by
      by_cases H:i.toNat=(l.drop at_.toNat).length
      ·exact .inl H
      ·exact .inr λhe=>F ⟨by omega,by omega,he⟩)]
     omega
end Go.Proofs.YtoghdgcmhbanbaaGreatDoor
end
section
namespace Go.Proofs.YtoghdgcmhbanbaaGreatDoor.V
open Go Go.RowKit
open Go.IntKind (i64 u32 u64 wrap_i64 wrap_u32)
variable {P:Program}{w w0 w1 w2 w3 w':World}{g g':Nat}{T T':TypeId}{X Y Z:Nat->Prop}{l l':List Int}
theorem ER {vs:List Value}{cs:Array Value}(h:vs.length=cs.size):setAt cs 0 vs=vs.toArray:=by
 apply Array.ext_getElem?;intro i;rw[dO _ _ _ _ (by omega)];by_cases hi:i<vs.length
 ·rw[if_pos (by omega)];simp
 ·rw[if_neg (by omega),Array.getElem?_eq_none (by omega),Array.getElem?_eq_none (by simp;omega)]
theorem aI {K:World->Prop}{vs:List Value}{cs:Array Value}(a:Blk w g cs T)(hi:vs.length=cs.size)(h:∀w2,br w g vs.toArray T w2->K w2):ao w (vA g) vs K:=
 bx a (by omega) λw2 s=>h w2 (by rw[<-ER hi];exact s)
theorem mB {a0 a b d f h i j o p q r s t u x y z B C:Value}(E:a0=q)(F:a=r)(G:b=s)(H:d=t)(I:f=u)(J:h=x)(K:i=y)(M:j=z)(N:o=B)(O:p=C):(#[a0,a,b,d,f,h,i,j,o,p]:Array Value)= #[q,r,s,t,u,x,y,z,B,C]:=by subst E;subst F;subst G;subst H;subst I;subst J;subst K;subst M;subst N;subst O;rfl
def bD(l:List Int):Array Value:=(l.map (Value.int .u32)).toArray
@[simp] theorem eF(l:List Int):(bD l).size=l.length:=by simp[bD]
theorem fE {i:Nat}(h:i<l.length):(bD l)[i]? =some (O (l.getD i 0)):=by
 simp[bD,List.getElem?_eq_getElem h,List.getD_eq_getElem?_getD]
theorem zv {i:Int}(h:i.toNat<l.length):(bD l)[i.toNat *1]? =some (O (l.getD i.toNat 0)):=by
 rw[Nat.mul_one];exact fE h
theorem jz(n:Nat)(x:Int):bD (List.replicate n x)=Array.replicate n (O x):=by simp[bD]
theorem GF:∀v∈(bD l).toList,one? v True:=by
 intro v a;simp only[bD,List.mem_map]at a;obtain⟨x,_,rfl⟩:=a;unfold one?;trivial
theorem Blk.gG(h:Blk w g (bD l) T){i:Int}(hi:i.toNat<l.length):w.cell? ((vA g).add (i.toNat *1))=some (O (l.getD i.toNat 0)):=h.at (zv hi)
theorem Blk.GH(h:Blk w g (bD l) T){n:Nat}(a:l.length=n):(bD l).size=n/\∀i u,(bD l)[i]? =some u->w.cell? ((vA g).add i)=some u:=
 ⟨by rw[eF,a],λi u hu=>h.at hu⟩
def oT:List Int->Nat->List Int->List Int
 |l,_,[]=>l
 |l,o,v::r=>oT (l.set o v) (o+1) r
@[simp] theorem Gv:∀(r l:List Int)(o:Nat),(oT l o r).length=l.length
 | [],l,o=>rfl
 |v::r,l,o=>by rw[oT,Gv r];simp
theorem zr(a r b x:List Int)(d:x.length=r.length):oT (a++(x++b)) a.length r=a++(r++b):=by
 induction r generalizing a x with
 | nil=>cases x with
  |nil=>rfl
  |cons=>simp at d
 | cons v r f=>cases x with
  |nil=>simp at d
  | cons y x=>
   have:=f (a++ [v]) x (by simpa using d);rw[oT];simpa using this
theorem nT {i:Nat}{v:Int}:setAt (bD l) i [.int .u32 v]=bD (l.set i v):=by
 simp[setAt,bD,List.setIfInBounds_toArray,List.map_set]
theorem lQ:∀(r l:List Int)(o:Nat),setAt (bD l) o (r.map (Value.int .u32))=bD (oT l o r)
 | [],l,o=>rfl
 | v::r,l,o=>by
  rw[List.map_cons,setAt,oT,<-lQ r];congr 1;simp[bD,List.setIfInBounds_toArray,List.map_set]
theorem mQ {K:World->Prop}{i v:Int}(a:Blk w g (bD l) T)(hi:i.toNat<l.length)(h:∀w2,br w g (bD (l.set i.toNat v)) T w2->K w2):ao w ((vA g).add (i.toNat *1)) [.int .u32 v] K:=
 aL a (by simp;omega) λw2 s=>h w2 (by rw[<-nT];rw[Nat.mul_one]at s;exact s)
theorem B9 {K:World->Prop}{i:Nat}{v:Int}(a:Blk w g (bD l) T)(hi:i<l.length)(h:∀w2,br w g (bD (l.set i v)) T w2->K w2):ao w ((vA g).add i) [.int .u32 v] K:=
 aL a (by simp;omega) λw2 s=>h w2 (by rw[<-nT];exact s)
theorem sS(r l:List Int)(h:r.length=l.length):oT l 0 r=r:=by simpa using zr [] r [] l h.symm
theorem vH {K:World->Prop}(b:Blk w g (bD l) T)(a:l'.length=l.length)(h:∀w2,br w g (bD l') T w2->K w2):ao w (vA g) (bD l').toList K:=
 bx b (by simp[bD,a]) λw2 s=>h w2 (by
  have e:(bD l').toList=l'.map (Value.int .u32):=by simp[bD]
  rw[e,lQ,sS _ _ a]at s;exact s)
theorem AI {b j ty e:TypeId}{bytes:Nat}(h:S1 P b e (O 0) bytes)(d:Blk w g (bD l) T){o m dn p:Nat}{A B:Option Addr}{n c:Nat}{r:List Int}(q:B=some (if m=o then Addr.mk g 0 none else(vA g).add (o*1)))(hm:m=o->min n dn=0)(f:aD w Z .u32 A n c r)(t:o+min n dn<=l.length){K:World->Prop}
 (i:∀w2,br w g (bD (oT l o (r.take (min n dn)))) T w2->K w2):
 ∃(x:Int)(w2:World),(Builtin.copy_ #[b,j] ty #[.slice B dn p,.slice A n c]:Sem Value).run P w=.ok (J x) w2/\K w2:=by
 subst q;by_cases a:m=o
 ·rw[if_pos a];have u:=hm a;refine rV (K:=K) h d (o:=0) f (by rw[eF];omega) λw2 s=>i w2 ?_;rw[u]at s ⊢;simpa[setAt,oT]using s
 ·rw[if_neg a,bn,Nat.zero_add,Nat.mul_one];exact rV (K:=K) h d f (by rw[eF];exact t) λw2 s=>i w2 (by rw[<-lQ];exact s)
theorem wH {a b ty e:TypeId}{bytes:Nat}(h:S1 P a e (O 0) bytes)(d:Blk w g (bD l) T){dn f:Nat}{A B:Option Addr}{n c:Nat}{r:List Int}(i:B=some (vA g))(j:aD w Z .u32 A n c r)(q:min n dn<=l.length){K:World->Prop}
 (p:∀w2,br w g (bD (oT l 0 (r.take (min n dn)))) T w2->K w2):
 ∃(x:Int)(w2:World),(Builtin.copy_ #[a,b] ty #[.slice B dn f,.slice A n c]:Sem Value).run P w=.ok (J x) w2/\K w2:=by
 subst i;exact rV (K:=K) h d (o:=0) j (by rw[eF];omega) λw2 s=>p w2 (by rw[<-lQ];exact s)
theorem aD.row(h:Blk w g (bD l) T)(b:Z g){o n c:Nat}(d:n<=c)(f:o+n<=l.length):aD w Z .u32 (some (Addr.mk g o none)) n c ((l.drop o).take n):=
 aD.blk h b d (by simp;omega) (by
  intro j x a;rw[List.getElem?_take]at a;split at a
  ·rw[List.getElem?_drop]at a;rw[fE (by omega),List.getD_eq_getElem?_getD,a];rfl
  ·cases a)
theorem Rd.ints {A:Option Addr}{n c:Nat}{l:List U32}(h:Rd w Z A n c l):aD w Z .u32 A n c (l.map U32.v):=
 ⟨by rw[List.length_map,h.len],h.cap,λj x a=>by
  rw[List.getElem?_map]at a;cases b:l[j]? with
  |none=>rw[b]at a;cases a
  | some y=>
   rw[b]at a;injection a with a
   subst a;obtain⟨p,d,f,i⟩:=h.cell j y b;refine⟨p,d,f,?_⟩;have:=i 0 (by decide);rw[add_add,Nat.add_zero,show j*Enc.size U32=j from Nat.mul_one j]at this;exact this⟩
theorem aD.pre {cs:Array Value}{A:Option Addr}{n c m o:Nat}{k:IntKind}{r:List Int}(h:Blk w g cs T)(b:Z g)(d:A=some (if m=0 then(vA g).add o else((vA g).add o).add (0*1)))(f:n<=c)(i:r.length=n)(he:((cs.toList.drop o).take n)=r.map (Value.int k)):aD w Z k A n c r:=by
 have e:A=some (Addr.mk g o none):=by
  rw[d];split<;>simp[bn]
 subst e;refine aD.blk h b f i λj x p=>?_;have a:((cs.toList.drop o).take n)[j]? =some (Value.int k x):=by rw[he,List.getElem?_map,p];rfl
 rw[List.getElem?_take]at a;split at a
 ·rw[List.getElem?_drop]at a;simpa using a
 ·cases a
theorem aD.Nk {A:Option Addr}{n c m o:Nat}(h:Blk w g (bD l) T)(b:Z g)(d:A=some (if m=o then Addr.mk g 0 none else(vA g).add (o*1)))(hm:m=o->n=0)(f:n<=c)(i:o+n<=l.length):aD w Z .u32 A n c ((l.drop o).take n):=by
 subst d;by_cases a:m=o
 ·have:=hm a;subst this;rw[if_pos a,List.take_zero];exact⟨rfl,Nat.zero_le _,by simp⟩
 ·rw[if_neg a,bn,Nat.zero_add,Nat.mul_one];exact aD.row h b f i
structure cR(w:World)(g:Nat)(l:List Int):Prop where
 len:l.length=64
 blk:∃T,Blk w g (bD l) T
theorem cR.lt(h:cR w g l):∀k,k=g->k<w.heap.size:=λk e=>e▸h.blk.elim λ_ b=>b.lt
theorem cR.ch(h:cR w g l)(a:Ch X w w')(d:∀k,k=g->¬X k):cR w' g l:=⟨h.len,h.blk.imp λ_ b=>a.blk b (d g rfl)⟩
theorem cR.pu(h:cR w g l)(a:Pu w w'):cR w' g l:=h.ch a (by simp)
end Go.Proofs.YtoghdgcmhbanbaaGreatDoor.V
end
section
namespace Go.Proofs.YtoghdgcmhbanbaaGreatDoor.V
open Go Go.RowKit
open Go.IntKind (i64 u32 u64 wrap_i64 wrap_u32)
open Enc (enc)
variable {P:Program}{w w0 w1 w2 w3 w':World}{g g':Nat}{T T':TypeId}{X Y Z:Nat->Prop}
theorem Ch.fresh(h:Ch (λk=>w.heap.size<=k) w w2):Pu w w2:=
 ⟨h.kept.mono λk a=>⟨a.1,λh=>absurd a.1 (Nat.not_lt.2 h)⟩⟩
section
variable {α:Type} [Enc α]{A:Option Addr}{n c:Nat}{l:List α}
theorem Rd.flat(h:Rd w Z A n c l){p:Addr}(r:A=some p)(j:Nat)(u:Value)(hu:(l.flatMap enc)[j]? =some u):w.cell? (p.add j)=some u:=by
 have b:0<Enc.size α:=Enc.pos;have d:j<(l.flatMap enc).length:=(List.getElem?_eq_some_iff.1 hu).1;rw[dh]at d;have hq:j / Enc.size α<l.length:=(Nat.div_lt_iff_lt_mul b).2 d;have f:j % Enc.size α<Enc.size α:=Nat.mod_lt _ b;obtain⟨t,a,_,s⟩:=h.cell (j / Enc.size α) _ (List.getElem?_eq_getElem hq);rw[r]at a;injection a with a
 subst a;have i:=s (j % Enc.size α) f;have o:=flat_get l (j / Enc.size α) (j % Enc.size α) _ (List.getElem?_eq_getElem hq) f;have q:j / Enc.size α*Enc.size α+j % Enc.size α=j:=by rw[Nat.mul_comm];exact Nat.div_add_mod j (Enc.size α)
 rw[q]at o;rw[add_add,q]at i;rw[i,<-o,hu]
theorem Hx(u:Value)(hu:u∈l.flatMap enc):u.oneCell'=true:=by
 obtain⟨x,_,a⟩:=List.mem_flatMap.1 hu;exact Enc.one x u a
theorem Rd.Ln(h:Rd w Z none n c l):l= []/\n=0:=by
 cases l with
 |nil=>exact⟨rfl,by simpa using h.len.symm⟩
 |cons x r=>obtain⟨p,a,_⟩:=h.cell 0 x rfl;cases a
theorem Rd.cut {lo hi m:Nat}{A':Option Addr}{n' c':Nat}(h:Rd w Z A n c l)(b:A'=(if m=lo then A else A.map (·.add (lo*Enc.size α))))(d:n'=hi - lo)(f:c'=m - lo)(t:lo<=hi)(u:hi<=n)(y:hi<=m):
 Rd w Z A' n' c' ((l.drop lo).take (hi - lo)):=by
 subst d f;have z:=h.len;refine⟨by simp;omega,by omega,h.lt,λi x a=>?_⟩;rw[List.getElem?_take]at a;split at a
 ·rename_i B;rw[List.getElem?_drop]at a;obtain⟨p,o,q,r⟩:=h.cell _ _ a;subst o;refine⟨p.add (lo*Enc.size α),?_,?_,λj s=>?_⟩
  ·rw[b,if_neg (by omega)];rfl
  ·rw[block_add];exact q
  ·rw[<-r j s,add_add,add_add,add_add,Nat.add_mul,Nat.add_assoc]
 ·cases a
theorem Rd.from_ {lo m:Nat}{A':Option Addr}{n' c':Nat}(h:Rd w Z A n c l)(a:A'=(if m=lo then A else A.map (·.add (lo*Enc.size α))))(b:n'=n - lo)(d:c'=m - lo)(f:lo<=n)(i:n<=m):Rd w Z A' n' c' (l.drop lo):=by
 have:=h.cut (hi:=n) a b d f (Nat.le_refl _) i
 rwa[List.take_of_length_le (by rw[List.length_drop,h.len];omega)]at this
theorem Rd.all {hi m:Nat}{A':Option Addr}{n' c':Nat}(h:Rd w Z A n c l)(a:A'=(if m=0 then A else A.map (·.add (0*Enc.size α))))(b:n'=hi - 0)(d:c'=m - 0)(f:hi=n)(i:m=n):Rd w Z A' n' c' l:=by
 subst f;have:=h.cut (hi:=hi) a b d (Nat.zero_le _) (Nat.le_refl _) (by omega)
 rwa[List.drop_zero,List.take_of_length_le (by rw[h.len];omega)]at this
theorem Own.Lc {e:TypeId}(h:Own w Z e A n c l)(a:∀k,Z k/\k<w.heap.size->Y k)(b:∀k,Y k->k<w.heap.size):Rd w Y A n c l:=h.rd.mono a b
theorem LW {t ty e:TypeId}{z:Value}{bytes:Nat}(j:SN P t e z (Enc.size α) bytes)(r:Rd w Z A n c l)(y:c=n){B:Option Addr}{m d:Nat}{l2:List α}(o:Rd w Y B m d l2)(J:n+m<=9223372036854775807)(H:(n+m)*bytes<=140737488355328)
 {K:Option Addr->Nat->Nat->World->Prop}(C:∀A' c' w2,Rd w2 (λk=>(Z k\/w.heap.size<=k)/\k<w2.heap.size) A' (n+m) c' (l++l2)->Pu w w2->K A' (n+m) c' w2):
 ∃(A':oA)(n' c':Nat)(w2:World),(Builtin.append_ #[t,t] ty #[.slice A n c,.slice B m d]:Sem Value).run P w=.ok (.slice A' n' c') w2/\K A' n' c' w2:=by
 obtain⟨i,hi,M,N,E⟩:=j.info;obtain rfl:n=c:=y.symm;by_cases hm:m=0
 ·subst hm;have O:l2= []:=List.eq_nil_of_length_eq_zero o.len;subst O;have s:(Builtin.append_ #[t,t] ty #[.slice A n n,.slice B 0 d]:Sem Value).run P w=.ok (.slice A n n) w:=by
   refine run_append_nothing w t t ty e i j.und hi A n n (Nat.le_refl _) _ ?_;cases B with
   |none=>exact Src.ofNil _ j.und d
   |some b=>exact Src.ofSlice _ j.und b 0 d [] (by simp) (by simp) (by simp)
  exact⟨_,_,_,_,s,C A n w (by rw[List.append_nil];exact r.mono (λk f=>⟨.inl f,r.lt k f⟩) λk f=>f.2) (Ch.refl _ _)⟩
 ·obtain⟨b,Q⟩:∃b,B=some b:=by
   cases B with
   |none=>exact absurd o.Ln.2 hm
   |some b=>exact⟨b,rfl⟩
  subst Q;have R:∀x w2,(Builtin.append_ #[t,t] ty #[.slice A n n,.slice (some b) m d]:Sem Value).run P w=.ok x w2->w2.ownsRow w.heap.size e (Enc.size α) x (n+m) ((l++l2).flatMap enc)->Pu w w2->∃(A':oA)(n' c':Nat)(w2:World),(Builtin.append_ #[t,t] ty #[.slice A n n,.slice (some b) m d]:Sem Value).run P w=.ok (.slice A' n' c') w2/\K A' n' c' w2:=by
   intro x w2 s p S;have I:=p;rcases p.2 with⟨_,aC⟩|⟨g,cap,cur,U,q,aN,_⟩
   ·omega
   ·subst U;have F:Own w2 (λk=>w.heap.size<=k) e (pvA g) (n+m) cap (l++l2):=
     ⟨⟨⟨I.1,by rcases I.2 with h|⟨g',V,W,an,_,rest⟩;exact .inl h;exact .inr ⟨g',V,W,an,Nat.zero_le _,rest⟩⟩,λa G=>by injection G with G;rw[<-G];exact q⟩,by rw[List.length_append,r.len,o.len]⟩
    exact⟨_,_,_,_,s,C _ _ _ (F.Lc (Y:=λk=>(Z k\/w.heap.size<=k)/\k<w2.heap.size) (λk f=>⟨.inr f.1,f.2⟩) λk f=>f.2) S⟩
  cases A with
  | none=>
   obtain⟨az,hn⟩:=r.Ln;subst az hn;refine tX j (cG.nil (w:=w) (Z:=λk=>w.heap.size<=k)) (a:=b) (news:=l2.flatMap enc) (by rw[dh,o.len]) (o.flat rfl) (λu hu=>Hx u hu) J H λA' c' w2 p y=>?_;rw[Nat.zero_add]at p ⊢;have F:Own w2 (λk=>w.heap.size<=k) e A' m c' l2:=⟨p.mono λk f=>f.elim id λe=>by rw[e];omega,o.len⟩;have aA:Pu w w2:=y.mono λk f=>by obtain⟨b,E,_⟩:=f;cases E
   have:=C A' c' w2;rw[Nat.zero_add,List.nil_append]at this;exact this (F.Lc (λk f=>⟨.inr f.1,f.2⟩) λk f=>f.2) aA
  | some a=>
   obtain⟨x,w2,s,p,q⟩:=run_append_arg_grows (P:=P) w t ty e i z (Enc.size α) bytes j.und hi M N E j.cells j.pos a n n (l.flatMap enc) (by rw[dh,r.len]) (r.flat rfl) b m d (l2.flatMap enc) (by rw[dh,o.len]) (o.flat rfl) (by omega) (by simp only[maxLen];omega) H
   rw[<-List.flatMap_append]at p;exact R x w2 s p ⟨⟨q.os,q.tape,q.output,q.size,λk f=>q.block k f.1 (by simp)⟩⟩
theorem Own.narrow {e:TypeId}(h:Own w Z e A n c l):Own w (λk=>Z k/\k<w.heap.size) e A n c l:=by
 refine⟨⟨h.own.1,λa b=>⟨h.own.2 a b,?_⟩⟩,h.len⟩;rcases h.own.1.2 with⟨d,_⟩|⟨g,cap,cur,d,_,i,_⟩
 ·injection d with f _ _;rw[f]at b;cases b
 ·injection d with f _ _
  rw[f]at b;injection b with b
  rw[<-b];exact Blk.lt (show Blk w g cur e from i)
theorem Own.to {e:TypeId}(h:Own w Z e A n c l)(b:∀k,Z k->k<w.heap.size->Y k):Own w Y e A n c l:=h.narrow.mono λk a=>b k a.1 a.2
theorem lX {t ty e:TypeId}{z:Value}{bytes:Nat}(a:SN P t e z (Enc.size α) bytes){B:Option Addr}{m d:Nat}{l2:List α}(f:Rd w Y B m d l2)(r:m<=9223372036854775807)(j:m*bytes<=140737488355328)
 {K:Option Addr->Nat->Nat->World->Prop}(h:∀A' c' w2,Own w2 (λk=>w.heap.size<=k/\k<w2.heap.size) e A' m c' l2->Pu w w2->K A' m c' w2):
 ∃(A':oA)(n' c':Nat)(w2:World),(Builtin.append_ #[t,t] ty #[.slice none 0 0,.slice B m d]:Sem Value).run P w=.ok (.slice A' n' c') w2/\K A' n' c' w2:=by
 obtain⟨i,hi,s,u,x⟩:=a.info;refine Own.apps (Own.nil (w:=w) (Z:=λk=>w.heap.size<=k)) a f (by omega) (by rw[Nat.zero_add];exact j) (Nat.le_refl _) (λA' c' w2 b o=>?_) (λhm p=>?_)
 ·rw[Nat.zero_add]at b ⊢;rw[List.nil_append]at b;exact h A' c' w2 b.narrow o.fresh
 ·subst hm p;have q:l2= []:=List.eq_nil_of_length_eq_zero f.len;subst q;exact⟨_,_,_,_,run_append_nothing w t t ty e i a.und hi none 0 0 (Nat.le_refl _) _ (Src.ofNil _ a.und d),h none 0 w Own.nil (Ch.refl _ _)⟩
end
theorem Own.ofRow {e:TypeId}{l:List Int}{g n:Nat}(h:Blk w g (bD l) e)(d:l.length=n)(hm:n<=9000000000000000000):Own w (λk=>k=g) e (pvA g) n n (l.map uM):=by
 have f:∀l:List Int,(l.map uM).flatMap enc=l.map (Value.int .u32):=by
  intro l
  induction l with
  |nil=>rfl
  |cons x r i=>rw[List.map_cons,List.flatMap_cons,i];rfl
 subst d;refine⟨⟨⟨by rw[dh];simp,.inr ⟨g,l.length,bD l,rfl,Nat.zero_le _,h,Nat.le_refl _,by simp only[maxLen];omega,?_,?_⟩⟩,λa b=>by injection b with b;rw[<-b]⟩,by simp⟩
 ·rw[eF,show Enc.size U32=1 from rfl,Nat.mul_one]
 ·rw[f,show Enc.size U32=1 from rfl,Nat.mul_one];show((l.map (Value.int .u32)).toArray.toList).take l.length=_;rw[List.take_of_length_le (by simp)]
theorem HJ {a:Addr}{m o:Nat}:(if m=o then(some a)else(some a:oA).map (·.add (o*1)))=some (if m=o then a else a.add (o*1)):=by
 split<;>rfl
end Go.Proofs.YtoghdgcmhbanbaaGreatDoor.V
end
section
set_option maxRecDepth 100000
set_option maxHeartbeats 1000000
namespace Go.Proofs.YtoghdgcmhbanbaaGreatDoor
open Go Go.RowKit V Pk
open Go.IntKind (i64 u32 u64 wrap_i64 wrap_u32)
theorem drop_cons {l:List Int}{i:Nat}(h:i<l.length):l.drop i=l.getD i 0::l.drop (i+1):=by
 rw[List.drop_eq_getElem_cons h];congr 1;simp[List.getD_eq_getElem?_getD,h]
theorem fz {l:List Int}{i:Nat}(h:i<l.length):l.take (i+1)=l.take i++ [l.getD i 0]:=by
 rw[List.take_succ_eq_append_getElem h];congr 2;simp[List.getD_eq_getElem?_getD,h]
theorem iE {Z:Nat->Prop}:∀ {l:List Nat}{k:Nat},aX (λ_ k=>Z k) l k->Z k
 | [],_,h=>h.elim
 | [_],_,h=>h
 |_::j::r,_,h=>h.elim id (iE (l:=j::r))
theorem yd {w w1 w2:World}{Z:Nat->Prop}{l:List Nat}(a:∀k,Z k->k<w.heap.size)(q:Pu w w1)(d:Ch (up w) w1 w2):Kept (aX (λ_ k=>Z k) l) w1 w2:=
 d.kept.mono λk b=>⟨Nat.lt_of_lt_of_le (a k (iE b)) q.size,λh=>absurd (a k (iE b)) (Nat.not_lt.2 h)⟩
theorem V.Ch.up {w w1 w2:World}(q:Pu w w1)(a:Ch (up w) w1 w2):Pu w w2:=q.call a λk b=>.inr b
def BQ(w:World)(l:List Int)(v:Value)(w':World):Prop:=∃A' n' c',v=.slice A' n' c'/\OI w' (up w) 5 .u8 A' n' c' (pack l)/\Pu w w'
theorem Ct {A:Option Addr}{n c:Nat}{l:List Int}{Z:Nat->Prop}{w:World}(h0:aD w Z .u32 A n c l)(hm:n<=140737488355328)(hw:Wd l):
 Calls Tryz.prog 12 #[.slice A n c] w λe w'=>∃v,e=.returned v/\BQ w l v w':=by
 have h:=h0.lt;have hl:=h.len;refine yD _ _ _ ?_;refine af (λb1=>⟨none,0,0,rfl,by unfold pack;rw[if_pos (by omega)];exact OI.nil,Ch.refl _ _⟩) (λb2=>?_);have e0:u32.wrap ((n:Nat):Int)=(l.length:Int):=by rw[Pk.u32_eq];omega
 rw[e0];refine(DM (A:=none) (n:=0) (c:=0) (l.length:Int) (l:= []) (Z:=up w) OI.nil (λk a=>a) (by omega)).mono ?_;rintro e wv ⟨_,rfl,A0,c0,rfl,a1,a2⟩;refine⟨A0,_,c0,rfl,?_⟩;refine⟨λm V W r oA s E w'=>∃i:Nat,i<=l.length/\m=l.length - i/\aD w (λk=>Z k/\k<w.heap.size) .u32 V W r (l.drop i)/\∃out,OI w' (up w) 5 .u8 oA s E out/\out.length<=4+6*i/\
  out++bz (l.drop i).length (l.drop i)=four (l.length:Int)++bz l.length l/\Pu w w',
  ⟨_,0,by omega,rfl,by simpa using h,_,a1,by simp[four],by simp,Ch.fresh a2⟩,?_⟩
 rintro m _ V W r oA s E a3 ⟨i,hi,rfl,b,out,f,b3,t,F⟩;have a4:=b.len;have b4:=f.len;rw[List.length_drop]at a4;refine af (λb5=>?_) (λb6=>?_)
 ·have a5:i<l.length:=by omega
  have an:=drop_cons a5;have o:=mX (l.getD i 0) (l.drop (i+1));rw[<-an]at o;have a6:=lY (l.getD i 0) (l.drop (i+1));have a7:=jS (l.getD i 0) (l.drop (i+1));rw[<-an,List.length_drop]at a6 a7;have b7:=iG (l.drop i);have b8:=fj (l.drop i);refine(J8 (b.pu F) (by omega) (by omega)).mono ?_;rintro e z ⟨_,rfl,rfl,u⟩;have u:Pu w z:=F.trans u;have f:=f.pu (by assumption:Pu a3 z);refine⟨_,rfl,?_⟩;rintro G y;generalize hN:min (cQ (l.drop i)) 32767=N at o;have H:G=(N:Int):=by rw[y];split<;>omega
  clear y;subst H;refine af (λb9=>?_) (λa8=>?_)
  ·have a9:2<=N:=by omega
   rw[if_pos a9]at o;have d:Pu w z.drew:=u.drew;have I:∀k,Z k/\k<w.heap.size->k<w.heap.size:=λk a=>a.2;refine⟨λ_ k=>Z k/\k<w.heap.size,?_⟩;refine(b.pu d).rdB (by omega) (by omega) (λk a=>a) (mkd λg J B=>?_);have p:Pu w J:=d.made B;refine⟨yd I d (B.pu.mono λ_ h=>h.elim),_,λ_ _ h=>h,?_⟩;rw[aa (x:=32768+(N:Int)) (by omega)]at B;refine dW (m:=2) (k:=.u8) (n:=s) st8 (f.pu (Pu.aw z)) (λk a=>Nat.le_trans d.size a) (jU N) rfl B (by omega) (by omega) λA1 c1 w4 K _ q=>?_;refine⟨yd I p q,_,λ_ _ h=>h,?_⟩;refine(DM _ K (λk a=>Nat.le_trans (p.up q).size a) (by omega)).mono ?_;rintro e w5 ⟨_,rfl,A2,c2,rfl,ba,az⟩;refine⟨A2,_,c2,rfl,yd I (p.up q) az,_,λ_ _ h=>h,⟨by omega,by omega⟩,?_⟩;rintro A3 O N3 Q C3 R;refine⟨l.length - (i+N),by omega,i+N,by omega,rfl,?_,out++jU N++four ((l.drop i).getD 0 0),ba,?_,?_,(p.up q).up az⟩
   ·have:=b.from_ (lo:=N) (m:=r) (by simpa using O) (by simpa using Q) (by simpa using R) (by omega) b.cap
    rwa[List.drop_drop]at this
   ·simp only[List.length_append,jU,four,List.length_cons,List.length_nil];omega
   ·rw[<-t,o,List.drop_drop,dP];simp[List.append_assoc]
  ·rw[if_neg (by omega)]at o;clear hN a8;refine(Gm (b.pu u) (by omega) (by omega)).mono ?_;rintro e J ⟨_,rfl,rfl,d⟩;have f:=f.pu d;have d:Pu w J:=u.trans d;refine⟨_,rfl,?_⟩;rintro G y;generalize hM:min (bZ (l.drop i)) 32767=M at o;have H:G=(M:Int):=by rw[y];split<;>omega
   clear y;subst H;refine mkd λg bb m4=>?_;have p:Pu w bb:=d.made m4;refine dW (m:=2) (k:=.u8) (n:=s) st8 f (λk a=>Nat.le_trans d.size a) (hdr M) rfl m4 (by omega) (by omega) λA1 c1 w5 K _ q=>?_;have q5:Pu w w5:=p.up q;refine⟨⟨by omega,by have:=b.cap;omega⟩,?_⟩;rintro A3 O N3 Q C3 R;have S:aD w (λk=>Z k/\k<w.heap.size) .u32 A3 N3 C3 (((l.drop i).take M).drop 0):=b.cut (lo:=0) (hi:=M) (m:=r) O (by simpa using Q) R (by omega) (by omega) (by have:=b.cap;omega);rw[List.drop_zero]at S;have bc:=S.len;rw[List.length_take,List.length_drop]at bc;refine⟨λm2 aA aC aN x w'=>∃j:Nat,x=(j:Int)/\j<=M/\m2=M - j/\OI w' (up w) 5 .u8 aA aC aN (out++hdr M++((l.drop i).take j).flatMap four)/\Pu w w',
    ⟨_,0,rfl,by omega,rfl,by simpa using K,q5⟩,?_⟩
   rintro m2 _ aA aC aN x w6 ⟨j,rfl,hj,rfl,U,C⟩;have bd:=U.len;refine af (λca=>?_) (λcb=>?_)
   ·have bg:j<M:=by omega
    refine(S.pu C).rd (by omega) (by omega) ?_;simp only[List.length_append,bu,hdr,List.length_cons,List.length_nil,List.length_take,List.length_drop]at bd;refine(DM _ U (λk a=>Nat.le_trans C.size a) (by omega)).mono ?_;rintro e w7 ⟨_,rfl,A6,c6,rfl,a0,bl⟩;refine⟨A6,_,c6,rfl,M - (j+1),by omega,j+1,by rw[aa (by omega)];rfl,by omega,rfl,?_,C.up bl⟩;have bs:j<(l.drop i).length:=by rw[List.length_drop];omega
    rw[fz bs,List.flatMap_append];have e6:((l.drop i).take M).getD ((j:Int).toNat) 0=(l.drop i).getD j 0:=by
     rw[Int.toNat_natCast,List.getD_eq_getElem?_getD,List.getD_eq_getElem?_getD,List.getElem?_take,if_pos bg]
    rw[e6]at a0;simpa[List.append_assoc]using a0
   ·obtain rfl:j=M:=by omega
    refine⟨⟨by omega,by omega⟩,?_⟩;rintro A4 bA N4 bC C4 bN;refine⟨l.length - (i+j),by omega,i+j,by omega,rfl,?_,_,U,?_,?_,C⟩
    ·have:=b.from_ (lo:=j) (m:=r) (by simpa using bA) (by simpa using bC) (by simpa using bN) (by omega) b.cap
     rwa[List.drop_drop]at this
    ·simp only[List.length_append,bu,hdr,List.length_cons,List.length_nil,List.length_take,List.length_drop];omega
    ·rw[<-t,o,List.drop_drop];simp[List.append_assoc]
 ·have b0:l.drop i= []:=List.eq_nil_of_length_eq_zero (by rw[List.length_drop];omega);rw[b0]at t;simp only[List.length_nil,bz,List.append_nil]at t;subst t;exact⟨oA,s,E,rfl,by rw[pack];rw[if_neg (by omega)];exact f,F⟩
end Go.Proofs.YtoghdgcmhbanbaaGreatDoor
end
section
set_option maxRecDepth 100000
set_option maxHeartbeats 1000000
namespace Go.Proofs.YtoghdgcmhbanbaaGreatDoor
open Go Go.RowKit V Pk
open Go.IntKind (i64 u32 u64 wrap_i64 wrap_u32)
theorem sD {l:List Int}{n B:Nat}(o:1<=B)(h:1<=n)(d:n<=l.length)(p:n<=B)(f:∀j,1<=j->j<n->j+1=l.length\/l.getD j 0≠l.getD (j+1) 0)
 (b:n=B\/n=l.length\/(n+1<l.length/\l.getD n 0=l.getD (n+1) 0)):min (bZ l) B=n:=by
 rcases b with rfl|b
 ·
  cases l with
  |nil=>simp at d;omega
  | cons x r=>
   have q:=xy r;simp only[bZ,List.length_cons]at *;by_cases i:1+unl r<n
   ·have:=xz r (by omega);have a:=f (1+unl r) (by omega) i;rw[Nat.add_comm 1]at a;simp only[List.getD_cons_succ]at a;rcases a with a|a
    ·omega
    ·exact absurd this.2 a
   ·omega
 ·rw[sF h d f b];omega
theorem xG {A:Option Addr}{n c:Nat}{l:List Int}{Z:Nat->Prop}{w:World}(h0:aD w Z .u32 A n c l)(hm:n<=140737488355328)(hw:Wd l):
 Calls Tryz.prog 10 #[.slice A n c] w λe w'=>∃v,e=.returned v/\BQ w l v w':=by
 have h:=h0.lt;have hl:=h.len;refine vh _ _ _ ?_;refine af (λb4=>⟨none,0,0,rfl,by unfold pack;rw[if_pos (by omega)];exact OI.nil,Ch.refl _ _⟩) (λb5=>?_);have e0:u32.wrap ((n:Nat):Int)=(l.length:Int):=by rw[Pk.u32_eq];omega
 rw[e0];refine(tH (l.length:Int) w).mono ?_;rintro e wv ⟨_,rfl,g0,rfl,a4,a5⟩;refine⟨_,4,4,rfl,?_⟩;rintro at0 rfl;refine⟨λm oA s G at_ w'=>∃i:Nat,at_=(i:Int)/\i<=l.length/\m=l.length - i/\∃out,OI w' (up w) 5 .u8 oA s G out/\out.length<=4+6*i/\
  out++bz (l.drop i).length (l.drop i)=four (l.length:Int)++bz l.length l/\Pu w w',
  ⟨_,0,rfl,by omega,rfl,_,a4,by simp[four],by simp,a5⟩,?_⟩
 rintro m _ oA s G at_ b6 ⟨i,rfl,hi,rfl,out,f,b7,u,H⟩;have b8:=f.len;refine af (λb9=>?_) (λca=>?_)
 ·have a6:i<l.length:=by omega
  have cb:(l.drop i).length=l.length - i:=List.length_drop;have U:=drop_cons a6;have o:=mX (l.getD i 0) (l.drop (i+1));rw[<-U]at o;have a7:=lY (l.getD i 0) (l.drop (i+1));have a8:=jS (l.getD i 0) (l.drop (i+1));rw[<-U,List.length_drop]at a7 a8;have cc:=iG (l.drop i);have cf:=fj (l.drop i);refine(GN (i:Int) (h.pu H) (by omega) (by omega) (by omega)).mono ?_;rintro e y ⟨_,rfl,rfl,p⟩;have f:=f.pu p;have p:Pu w y:=H.trans p;refine⟨_,rfl,?_⟩;rintro nn I;rw[Int.toNat_natCast]at I;generalize hN:min (cQ (l.drop i)) 32767=N at o I;subst I;refine af (λcg=>?_) (λa9=>?_)
  ·have ba:2<=N:=by omega
   rw[if_pos ba]at o;rw[aa (x:=32768+(N:Int)) (by omega)];refine mkd λg bb V=>?_;have a:Pu w bb:=p.made V;refine dW (m:=2) (k:=.u8) (n:=s) st8 f (λk J=>Nat.le_trans p.size J) (jU N) rfl V (by omega) (by omega) λA1 c1 z K _ O=>?_;have d:Pu w z:=a.up O;refine(h.pu d).rd (by omega) (by omega) ?_;refine(tH _ z).mono ?_;rintro e F ⟨_,rfl,g2,rfl,bc,W⟩;have r:Pu w F:=d.trans W;refine⟨_,4,4,rfl,?_⟩;refine cu (t:=27) st8 (K.pu W) (show w.heap.size<=_ from r.size) bc.ints (by omega) (by omega) λA3 c3 w6 bd bg=>?_;rintro at2 rfl;refine⟨l.length - (i+N),by omega,i+N,by rw[aa (by omega)];omega,by omega,rfl,_,bd,?_,?_,r.up bg⟩
   ·simp only[List.length_append,jU,four,List.length_cons,List.length_nil];omega
   ·rw[<-u,o,List.drop_drop];simp[List.append_assoc]
  ·rw[if_neg (by omega)]at o;obtain rfl:N=1:=by omega
   clear hN a9;refine⟨λx w'=>x=(min (bZ (l.drop i)) 32767:Nat)/\Pu y w',?_,?_⟩
   ·refine⟨λC x w'=>∃j:Nat,x=(j:Int)/\1<=j/\j<=32767/\j<=(l.drop i).length/\C=32767 - j/\(∀q,1<=q->q<j->q+1=(l.drop i).length\/(l.drop i).getD q 0≠(l.drop i).getD (q+1) 0)/\Pu y w',
     ⟨32766,1,by omega,by omega,by omega,by omega,by omega,by omega,Ch.refl _ _⟩,?_⟩
    rintro C _ x w3 ⟨j,rfl,an,az,aA,rfl,Q,a⟩;refine⟨λT w'=>Pu y w'/\T=decide ((j:Int)<32767/\(i:Int)+j<n),?_,?_⟩
    ·refine af (λb=>?_) (λb=>?_)
     ·rw[aa (by omega)];refine⟨a,?_⟩;rw[decide_eq_decide];omega
     ·exact⟨a,(decide_eq_false (λhh=>b (by omega))).symm⟩
    ·rintro _ T z ⟨d,E⟩;refine ab (λb=>?_) (λb=>?_)
     ·subst b;obtain⟨cj,bl⟩:=of_decide_eq_true E.symm;have ck:j<32767:=by omega
      have bs:j<(l.drop i).length:=by omega
      refine⟨λT w'=>Pu y w'/\T=decide (j+1<(l.drop i).length/\(l.drop i).getD j 0=(l.drop i).getD (j+1) 0),?_,?_⟩
      ·have aC:=(h.pu (p.trans d)).drew;rw[aa (x:=(i:Int)+j) (by omega),aa (x:=(i:Int)+j+1) (by omega)];refine af (λhc=>?_) (λhc=>?_)
       ·have ct:j+1<(l.drop i).length:=by omega
        refine aC.rd (by omega) (by omega) (aC.rd (by omega) (by omega) ⟨d.drew,?_⟩);rw[dP,dP,show((i:Int)+j).toNat=i+j by omega,show((i:Int)+j+1).toNat=i+(j+1)by omega];simp[JJ];omega
       ·exact⟨d.drew,(decide_eq_false (λhh=>hc (by omega))).symm⟩
      ·rintro _ T F ⟨r,E⟩;refine ab (λb=>?_) (λb=>?_)
       ·subst b;have ht:=of_decide_eq_true E.symm;refine⟨?_,r⟩;rw[sD (l:=l.drop i) (n:=j) (B:=32767) (by omega) an aA az Q (.inr (.inr ht))]
       ·subst b;have hf:=of_decide_eq_false E.symm;rintro n2 rfl;refine⟨32767 - (j+1),by omega,j+1,by rw[aa (by omega)];rfl,by omega,by omega,by omega,rfl,λq hq cA=>?_,r⟩;by_cases bA:q<j
        ·exact Q q hq bA
        ·obtain rfl:q=j:=by omega
         by_cases bC:q+1=(l.drop i).length
         ·exact .inl bC
         ·exact .inr λhe=>hf ⟨by omega,he⟩
     ·subst b;have hf:=of_decide_eq_false E.symm;refine⟨?_,d⟩;rw[sD (l:=l.drop i) (n:=j) (B:=32767) (by omega) an aA az Q (by omega)]
   ·rintro _ x w3 ⟨rfl,a⟩;generalize hM:min (bZ (l.drop i)) 32767=M at o;have f:=f.pu a;have a:Pu w w3:=p.trans a;refine mkd λg z m4=>?_;have d:Pu w z:=a.made m4;refine dW (m:=2) (k:=.u8) (n:=s) st8 f (λk J=>Nat.le_trans a.size J) (hdr M) rfl m4 (by omega) (by omega) λA1 c1 F K _ O=>?_;have r:Pu w F:=d.up O;rintro i0 rfl;refine⟨λC aN a0 a1 x w'=>∃j:Nat,x=(i:Int)+(j:Int)/\j<=M/\C=M - j/\OI w' (up w) 5 .u8 aN a0 a1 (out++hdr M++((l.drop i).take j).flatMap four)/\Pu w w',
     ⟨_,0,by omega,by omega,rfl,by simpa using K,r⟩,?_⟩
    rintro C _ aN a0 a1 x w6 ⟨j,rfl,hj,rfl,R,S⟩;have bN:=R.len;rw[aa (x:=(i:Int)+M) (by omega)];refine af (λbs=>?_) (λcC=>?_)
    ·have bl:j<M:=by omega
     refine(h.pu S).rd (by omega) (by omega) ?_;simp only[List.length_append,bu,hdr,List.length_cons,List.length_nil,List.length_take,List.length_drop]at bN;refine(tH _ w6).mono ?_;rintro e w7 ⟨_,rfl,g6,rfl,b0,a2⟩;have q7:Pu w w7:=S.trans a2;refine⟨_,4,4,rfl,?_⟩;refine cu (t:=27) st8 (R.pu a2) (show w.heap.size<=_ from q7.size) b0.ints (by omega) (by omega) λA7 c7 w8 a3 b1=>?_;rintro i2 rfl;refine⟨M - (j+1),by omega,j+1,by rw[aa (by omega)];omega,by omega,rfl,?_,q7.up b1⟩;have b2:j<(l.drop i).length:=by rw[List.length_drop];omega
     rw[fz b2,List.flatMap_append,dP];rw[show((i:Int)+(j:Int)).toNat=i+j by omega]at a3;simpa[List.append_assoc]using a3
    ·obtain rfl:j=M:=by omega
     rintro at2 rfl;refine⟨l.length - (i+j),by omega,i+j,by rfl,by omega,rfl,_,R,?_,?_,S⟩
     ·simp only[List.length_append,bu,hdr,List.length_cons,List.length_nil,List.length_take,List.length_drop];omega
     ·rw[<-u,o,List.drop_drop];simp[List.append_assoc]
 ·have b3:l.drop i= []:=List.eq_nil_of_length_eq_zero (by rw[List.length_drop];omega);rw[b3]at u;simp only[List.length_nil,bz,List.append_nil]at u;subst u;exact⟨oA,s,G,rfl,by rw[pack];rw[if_neg (by omega)];exact f,H⟩
end Go.Proofs.YtoghdgcmhbanbaaGreatDoor
end
section
set_option maxRecDepth 100000
set_option maxHeartbeats 2000000
namespace Go.Proofs.YtoghdgcmhbanbaaGreatDoor
open Go Go.RowKit V Pk
open Go.IntKind (i64 u32 u64 wrap_i64 wrap_u32)
theorem strOf_eq {a b:List Int}(d:Bt a)(f:Bt b):((strOf a).toList==(strOf b).toList)=decide (a=b):=by
 rw[ByteArray.toList_eq,ByteArray.toList_eq];have key:∀(a b:List Int),Bt a->Bt b->(a.map λx=>UInt8.ofNat x.toNat)=(b.map λx=>UInt8.ofNat x.toNat)->a=b:=by
  intro a
  induction a with
  |nil=>intro b _ _ h;cases b<;>simp_all
  | cons x r j=>
   intro b d f h;cases b with
   |nil=>simp at h
   | cons y s=>
    simp only[List.map_cons,List.cons.injEq]at h;have o:=d x (List.mem_cons_self ..);have p:=f y (List.mem_cons_self ..);have q:x.toNat % 256=y.toNat % 256:=by
     have:=congrArg UInt8.toNat h.1;simpa using this
    rw[j s (λz i=>d z (List.mem_cons_of_mem _ i)) (λz i=>f z (List.mem_cons_of_mem _ i)) h.2];congr 1;omega
 by_cases h:a=b
 ·subst h;simp
 ·rw[decide_eq_false h];apply beq_eq_false_iff_ne.2;intro e;exact h (key a b d f (by simpa[strOf]using e))
theorem H0 {A B:Option Addr}{n c m d:Nat}{Z a:Nat->Prop}{x y:List Int}{w:World}(h:aD w Z .u8 A n c x)(b:aD w a .u8 B m d y)(f:Bt x)(i:Bt y):
 Calls Tryz.prog 29 #[.slice A n c,.slice B m d] w λe w'=>∃v,e=.returned v/\v=.bool (decide (x=y))/\w'=w:=by
 refine oB _ _ _ _ _ _ ?_;refine⟨_,w,fL sG kG jg h,_,w,fL sG kG jg b,?_,rfl⟩;rw[strOf_eq f i]
theorem Hu {x y:List Int}(b:x.length=y.length)(h:∀j,j<x.length->x.getD j 0=y.getD j 0):x=y:=by
 apply List.ext_getElem b;intro j a d;have:=h j a
 rwa[List.getD_eq_getElem?_getD,List.getD_eq_getElem?_getD,List.getElem?_eq_getElem a,List.getElem?_eq_getElem d]at this
theorem Gy {A B:Option Addr}{n c m d:Nat}{Z r:Nat->Prop}{x y:List Int}{w:World}(h:aD w Z .u32 A n c x)(o:aD w r .u32 B m d y)(u:n<=140737488355328):
 Calls Tryz.prog 14 #[.slice A n c,.slice B m d] w λe w'=>∃v,e=.returned v/\v=.bool (decide (x=y))/\Pu w w':=by
 have z:=h.len;have C:=o.len;refine vr _ _ _ _ _ _ ?_;refine aG (λb=>⟨by rw[decide_eq_false (by rintro rfl;omega)],Ch.refl _ _⟩) (λb=>?_);have s:n=m:=by omega
 subst s;rintro i0 rfl;refine⟨λq i w'=>∃j:Nat,i=(j:Int)/\j<=n/\q=n - j/\(∀k,k<j->x.getD k 0=y.getD k 0)/\Pu w w',⟨_,0,rfl,by omega,rfl,by omega,Ch.refl _ _⟩,?_⟩;rintro q _ i E ⟨j,rfl,F,rfl,p,a⟩;refine af (λb=>?_) (λb=>⟨by rw[decide_eq_true (Hu (by omega) (λk G=>p k (by omega)))],a⟩);refine(h.pu a).drew.rd (by omega) (by omega) ((o.pu a).drew.rd (by omega) (by omega) ?_);rw[Int.toNat_natCast];refine aG (λf=>⟨by rw[decide_eq_false (by rintro rfl;exact f rfl)],a.drew⟩) (λf=>?_);rintro i2 rfl;refine⟨n - (j+1),by omega,j+1,by rw[aa (by omega)];rfl,by omega,rfl,λk' H=>?_,a.drew⟩;by_cases t:k'<j
 ·exact p k' t
 ·obtain rfl:k'=j:=by omega
  exact f
theorem AJ {A:Option Addr}{n c:Nat}{l:List Int}{Z:Nat->Prop}{w:World}(h:aD w Z .u8 A n c l)(d:n<=140737488355328):
 Calls Tryz.prog 4 #[.slice A n c] w λe w'=>∃v,e=.returned v/\∃A' c',v=.slice A' n c'/\OI w' (up w) 5 .u8 A' n c' l/\Pu w w':=by
 refine rz _ _ _ ?_;refine cu (t:=27) (Z:=up w) st8 OI.nil (Nat.le_refl _) h (by omega) (by omega) λA' c' w2 a b=>?_;rw[Nat.zero_add]at a ⊢;exact⟨A',c',rfl,a,Ch.fresh b⟩
theorem MD(a b:Int)(d:0<=a/\a<256)(f:0<=b/\b<256):
 i64.wrap (BitVec.ofInt i64.bits (i64.wrap ((i64.wrap a:Int)*2 ^ 8)) ||| BitVec.ofInt i64.bits (i64.wrap b)).toNat=a*256+b:=by
 obtain⟨a,rfl⟩:=Int.eq_ofNat_of_zero_le d.1;obtain⟨b,rfl⟩:=Int.eq_ofNat_of_zero_le f.1;have h:(i64.wrap ((i64.wrap (a:Int):Int)*2 ^ 8))=((2 ^ 8*a:Nat):Int):=by rw[aa (x:=(a:Int)) (by omega),aa (by omega)];omega
 have i:i64.wrap (b:Int)=((b:Nat):Int):=aa (by omega);rw[h,i,xM .i64 8 a b (by omega) (by simp only[IntKind.bits];omega),aa (by omega)];omega
theorem Pk.Bt.drop {l:List Int}(h:Bt l)(i:Nat):Bt (l.drop i):=λx a=>h x (List.mem_of_mem_drop a)
theorem Pk.Bt.take {l:List Int}(h:Bt l)(i:Nat):Bt (l.take i):=λx a=>h x (List.mem_of_mem_take a)
def Ix(b:List Int)(w:World)(v:Value)(w':World):Prop:=∃A' n' c' e,v=.tuple #[.slice A' n' c',.int .i64 e]/\Pu w w'/\((e=0/\∃l,eC l b/\aD w' (up w) .u32 A' n' c' l)\/(A'=none/\n'=0/\c'=0/\e=(if b.length<4 then 272 else if 262144<cn b then 2 else 272)/\¬∃l,eC l b))
theorem zj {A:Option Addr}{n c:Nat}{l:List Int}{Z:Nat->Prop}{w:World}(h:aD w Z .u8 A n c l)(hm:n<=140737488355328)(J:Bt l):
 Calls Tryz.prog 13 #[.slice A n c] w λe w'=>∃v,e=.returned v/\Ix l w v w':=by
 have hl:=h.len;refine uo _ _ _ ?_;refine ab (λhs=>?_) (λhs=>?_)
 ·have E:l.length<4:=by have:(n:Int)<4:=(by simpa using hs);omega
  exact⟨none,0,0,272,rfl,Ch.refl _ _,.inr ⟨rfl,rfl,rfl,by rw[if_pos E],fun⟨L,a⟩=>by have:=a.len;omega⟩⟩
 have E:¬l.length<4:=by have:¬(n:Int)<4:=(by simpa using hs);omega
 have cM:=ek J;refine(Ao h (by omega) J).mono ?_;rintro e wv ⟨_,rfl,rfl,q1⟩;refine⟨_,rfl,?_⟩;refine ab (λcN=>?_) (λc0=>?_)
 ·have c1:262144<cn l:=by simpa using cN
  exact⟨none,0,0,2,rfl,q1,.inr ⟨rfl,rfl,rfl,by rw[if_neg E,if_pos c1],fun⟨L,a⟩=>by have:=a.num;have:=a.2.1;omega⟩⟩
 have a5:¬262144<cn l:=by simpa using c0
 refine(Ao (h.pu q1) (by omega) J).mono ?_;rintro e c2 ⟨_,rfl,rfl,q2⟩;have q2:Pu w c2:=q1.trans q2;refine⟨_,rfl,?_⟩;rintro nn a6;rw[aa (by omega)]at a6;obtain⟨num,c4⟩:=Int.eq_ofNat_of_zero_le cM.1;rw[c4]at a6;subst a6;refine⟨⟨by omega,by omega⟩,?_⟩;rintro xA c5 xN c6 xC c8;have c9:aD w Z .u8 xA xN xC (l.drop 4):=h.from_ (lo:=4) (m:=c) c5 c6 c8 (by omega) h.cap;have e6:∀(P:Prop),¬P->(e:Int)->e=272->e=(if l.length<4 then 272 else if 262144<cn l then 2 else 272):=by
  intro _ _ e he;rw[if_neg E,if_neg a5];exact he
 refine⟨λm rA V W wA f wC w'=>∃rest words:List Int,aD w Z .u8 rA V W rest/\W<=c/\OI w' (up w) 22 .u32 wA f wC words/\Pu w w'/\Wd words/\words.length<=num/\Bt rest/\m=num - words.length/\
  ∀L,eC L l->∃i,i<=L.length/\words=L.take i/\rest=bz (L.drop i).length (L.drop i),
  ⟨_,_,[],c9,by omega,OI.nil,q2,(by intro x z;cases z),Nat.zero_le _,J.drop 4,rfl,λL a=>⟨0,by omega,by simp,by rw[a.head];simp[four]⟩⟩,?_⟩
 rintro m _ rA V W wA f wC an ⟨rest,words,hR,e7,hO,B,a7,e8,M,rfl,hG⟩;have da:=hR.len;have e9:=hO.len;refine ab (λdc=>?_) (λaz=>?_)
 ·have dd:words.length<num:=by have:(f:Int)<(num:Int):=(by simpa using dc);omega
  have aA:∀L,eC L l->∃i,i<L.length/\words=L.take i/\L.length=num/\∃k:Nat,1<=k/\k<=32767/\i+k<=L.length/\2<=rest.length/\
   ((fp rest=32768+k/\6<=rest.length/\ext true (rest.drop 2) k=(L.drop i).take k/\(rest.drop 2).drop 4=bz (L.drop (i+k)).length (L.drop (i+k)))\/
    (fp rest=k/\2+4*k<=rest.length/\ext false (rest.drop 2) k=(L.drop i).take k/\(rest.drop 2).drop (4*k)=bz (L.drop (i+k)).length (L.drop (i+k)))):=by
   intro L a;obtain⟨i,hi,o,a8⟩:=hG L a;have aC:L.length=num:=by have:=a.num;omega
   have b2:i<L.length:=by
    rw[o,List.length_take]at dd;omega
   exact⟨i,b2,o,aC,nO a.1 b2 a8⟩
  have b3:(¬∃L,eC L l)->∀w':World,Pu w w'->Ix l w (.tuple #[.slice none 0 0,.int .i64 272]) w':=λdk w' dp=>
   ⟨none,0,0,272,rfl,dp,.inr ⟨rfl,rfl,rfl,by rw[if_neg E,if_neg a5],dk⟩⟩
  refine ab (λa9=>?_) (λa9=>?_)
  ·have dr:rest.length<2:=by have:(V:Int)<2:=(by simpa using a9);omega
   refine b3 (fun⟨L,a⟩=>?_) an B;obtain⟨i,_,_,_,k,_,_,_,h2,_⟩:=aA L a;omega
  ·have dr:2<=rest.length:=by have:¬(V:Int)<2:=(by simpa using a9);omega
   have b4:=(hR.pu B).drew;refine b4.rd (by omega) (by omega) (b4.rd (by omega) (by omega) ?_);rw[MD _ _ (cX M _) (cX M _)];have g0:=cX M 0;have g1:=cX M 1;rintro k0 b5;have fa:k0=fp rest:=b5;clear b5;rintro run ba;rintro k1 b6;refine⟨⟨by omega,by omega⟩,?_⟩;rintro yA dA yN dC yC dN;have N:aD w Z .u8 yA yN yC (rest.drop 2):=hR.from_ (lo:=2) (m:=W) dA dC dN (by omega) hR.cap;have dT:=N.len;have ea:=N.cap;generalize b7:rest.drop 2=b at N dT aA;have bb:Bt b:=by rw[<-b7];exact M.drop 2
   have fb:b.length=rest.length - 2:=by rw[<-b7,List.length_drop]
   have fA:0<=fp rest/\fp rest<65536:=by unfold fp;omega
   rw[Int.tmod_eq_emod_of_nonneg (by omega)]at b6;obtain⟨K,hK⟩:=Int.eq_ofNat_of_zero_le (show 0<=k1 by omega);have b8:(run=true/\fp rest=32768+K)\/(run=false/\fp rest=K):=by
    by_cases az:k0>=32768
    ·left;exact⟨by rw[ba,decide_eq_true az],by omega⟩
    ·right;exact⟨by rw[ba,decide_eq_false az],by omega⟩
   have fC:K<=32767:=by omega
   clear ba b6;subst hK;rintro r aN;rw[aa (by omega)]at aN;subst aN;refine⟨λs w'=>Pu w w'/\OI w' (up w) 22 .u32 wA f wC words/\s=(if run then 4 else 4*(K:Int)),?_,?_⟩
   ·refine ab (λbc=>?_) (λa0=>?_)
    ·rintro s1 rfl;exact⟨B.drew,hO.pu (Pu.aw an),by simp[bc]⟩
    ·exact⟨B.drew,hO.pu (Pu.aw an),by simp[a0]⟩
   rintro _ r a1 ⟨p,eb,aN⟩;have a2:(run=true/\r=4)\/(run=false/\r=4*(K:Int)):=by cases run<;>simp_all
   clear aN;refine⟨λT w'=>a1=w'/\T=decide ((K:Int)=0\/(K:Int)>num - words.length\/(b.length:Int)<r),?_,?_⟩
   ·refine ab (λd=>?_) (λd=>?_)
    ·have b9:(K:Int)=0:=by simpa using d
     exact⟨rfl,(decide_eq_true (.inl b9)).symm⟩
    ·have b9:¬(K:Int)=0:=by simpa using d
     rw[aa (by omega)];refine ab (λhd=>?_) (λhd=>?_)
     ·have hd':(K:Int)>num - f:=of_decide_eq_true hd;exact⟨rfl,(decide_eq_true (.inr (.inl (by omega)))).symm⟩
     ·have hd':¬(K:Int)>num - f:=of_decide_eq_false hd;refine⟨rfl,?_⟩;rw[decide_eq_decide];omega
   rintro _ T _ ⟨rfl,Q⟩;refine ab (λd=>?_) (λd=>?_)
   ·subst d;have ca:=of_decide_eq_true Q.symm;refine b3 (fun⟨L,a⟩=>?_) _ p;obtain⟨i,hi,o,aC,k,h1,h2,h3,h4,h5⟩:=aA L a;have ga:words.length=i:=by rw[o,List.length_take];omega
    rcases h5 with⟨hh,h6,_⟩|⟨hh,h6,_⟩<;>rcases b8 with⟨F,bd⟩|⟨F,bd⟩<;>rcases a2 with⟨C,a3⟩|⟨C,a3⟩<;>first|(rw[F]at C;cases C;done)|omega
   ·subst d;have R:=of_decide_eq_false Q.symm;simp only[not_or]at R;obtain⟨gb,gd,gf⟩:=R;refine⟨λm2 bg bl bs x w'=>∃j:Nat,x=(j:Int)/\j<=K/\m2=K - j/\OI w' (up w) 22 .u32 bg bl bs (words++ext run b j)/\Pu w w',
     ⟨_,0,rfl,by omega,rfl,by simpa[ext]using eb,p⟩,?_⟩
    rintro m2 _ bg bl bs x ec ⟨j,rfl,hj,rfl,S,bA⟩;have ed:=S.len;rw[List.length_append,dG]at ed;refine ab (λee=>?_) (λei=>?_)
    ·have gh:j<K:=by have:(j:Int)<(K:Int):=(by simpa using ee);omega
     rintro at0 cb;rw[aa (by omega)]at cb;have one:∀(q:Nat)(t:oA)(u y:Nat),q+4<=b.length->q=(if run then 0 else 4*j)->t=(if q+4=q then yA else yA.map (·.add (q*1)))->u=q+4 - q->y=q+4 - q->
      Calls Tryz.prog 28 #[.slice t u y] ec λe a4=>∃cc:Int,e=.returned (O cc)/\∀(gv:Nat)(bC:World),gv=a4.heap.size->bC=a4.alloc (.cells #[.int .u32 cc] 22)->
       ∃cf cg cj bN,(Builtin.append_ #[26,26] 26 #[.slice bg bl bs,.slice (pvA gv) 1 1]:Sem Value).run Tryz.prog bC=.ok (.slice cf cg cj) bN/\
       ∃m3,m3<K - j/\∃j':Nat,i64.wrap ((j:Int)+1)=(j':Int)/\j'<=K/\m3=K - j'/\OI bN (up w) 22 .u32 cf cg cj (words++ext run b j')/\Pu w bN:=by
      intro q t u y hq er G H I;have hQ:aD w Z .u8 t u y ((b.take (q+4)).drop q):=N.cut (lo:=q) (hi:=q+4) (m:=q+4) G H I (by omega) (by omega) (Nat.le_refl _);refine(Ao (hQ.pu bA) (by omega) ((bb.take _).drop _)).mono ?_;rintro e a4 ⟨_,rfl,rfl,U⟩;have S:=S.pu U;have U:Pu w a4:=bA.trans U;refine⟨_,rfl,mkd λg bC m7=>?_⟩;refine dW (m:=1) (k:=.u32) oQ S (λk hk=>Nat.le_trans U.size hk) [cn ((b.take (q+4)).drop q)] rfl m7 (by omega) (by omega) λA7 c7 w7 ck et _=>?_;refine⟨K - (j+1),by omega,j+1,(aa (by omega)).trans (by omega),by omega,rfl,?_,U.up et⟩;rw[G8,er,List.append_assoc,<-lq]at ck;exact ck
     refine ab (λbc=>?_) (λa0=>?_)
     ·rintro gk rfl;rw[aa (x:=(0:Int)+4) (by omega)];refine⟨⟨by omega,by omega⟩,⟨by omega,by omega⟩,⟨by omega,by omega⟩,?_⟩;rintro t G u H y I;exact one 0 t u y (by rcases a2 with⟨_,h⟩|⟨h,_⟩<;>omega) (by simp[bc]) G H I
     ·subst cb;have gm:r=4*(K:Int):=by rcases a2 with⟨h,_⟩|⟨_,h⟩<;>first|exact h|(rw[a0]at h;cases h)
      rw[aa (x:=4*(j:Int)+4) (by omega)];refine⟨⟨by omega,by omega⟩,⟨by omega,by omega⟩,⟨by omega,by omega⟩,?_⟩;rintro t G u H y I;have e1:(4*(j:Int)+4).toNat=4*j+4:=by omega
      have e2:(4*(j:Int)).toNat=4*j:=by omega
      rw[e1,e2]at G H;rw[e1,e2]at I;exact one (4*j) t u y (by omega) (by simp[a0]) G H I
    ·have gr:¬j<K:=by have:¬(j:Int)<(K:Int):=(by simpa using ei);omega
     obtain rfl:j=K:=by omega
     refine⟨⟨by omega,by omega⟩,?_⟩;rintro zA ey zN eL zC eM;have hZ:aD w Z .u8 zA zN zC (b.drop r.toNat):=N.from_ (lo:=r.toNat) (m:=yC) ey eL eM (by omega) ea;refine⟨num - (words++ext run b j).length,by rw[List.length_append,dG];omega,b.drop r.toNat,words++ext run b j,hZ,by omega,S,bA,?_,by rw[List.length_append,dG];omega,bb.drop _,rfl,?_⟩
     ·intro x z;rcases List.mem_append.1 z with z|z
      ·exact a7 x z
      ·obtain⟨q,_,rfl⟩:=List.mem_map.1 z;exact ek (bb.drop _)
     ·intro L a;obtain⟨i,hi,o,aC,k,h1,h2,h3,h4,h5⟩:=aA L a;have eN:∀(k:Nat),ext run b k=(L.drop i).take k->i+k<=L.length->words++ext run b k=L.take (i+k):=by
       intro k hk _;rw[hk,o,List.take_add]
      rcases h5 with⟨hh,h6,h7,h8⟩|⟨hh,h6,h7,h8⟩<;>rcases b8 with⟨F,bd⟩|⟨F,bd⟩<;>rcases a2 with⟨C,a3⟩|⟨C,a3⟩<;>
       first
        |(rw[F]at C;cases C;done)
        |(exfalso;omega)
        | (obtain rfl:k=j:=by omega
           refine⟨i+k,by omega,?_,?_⟩
           ·subst F;exact eN k h7 (by omega)
           ·rw[a3]
            first
             |exact h8
             |(rw[show(4*(k:Int)).toNat=4*k by omega];exact h8))
 ·have eS:words.length=num:=by have:¬(f:Int)<(num:Int):=(by simpa using az);omega
  have hW:=hO.ints;have e0:∀L,eC L l->words=L/\rest= []:=by
   intro L a;obtain⟨i,hi,o,a8⟩:=hG L a;have aC:L.length=num:=by have:=a.num;omega
   have e3:i=L.length:=by rw[o,List.length_take]at eS;omega
   subst e3;refine⟨by rw[o,List.take_length],by rw[a8,List.drop_length];rfl⟩
  refine⟨λT w'=>Pu an w'/\T=decide (rest≠ []\/pack words≠l),?_,?_⟩
  ·refine af (λd=>?_) (λd=>?_)
   ·refine⟨Ch.refl _ _,(decide_eq_true (.inl ?_)).symm⟩;rintro rfl;simp at da;omega
   ·have b0:rest= []:=List.eq_nil_of_length_eq_zero (by omega);refine(Ct hW (by omega) a7).mono ?_;rintro e a1 ⟨_,rfl,A3,n3,c3,rfl,e4,p⟩;refine⟨A3,n3,c3,rfl,?_⟩;refine(H0 e4.ints (h.pu (B.trans p)) (nX words) J).mono ?_;rintro e _ ⟨_,rfl,rfl,rfl⟩;refine⟨_,rfl,p,?_⟩;rw[b0];by_cases hp:pack words=l<;>simp[hp]
  ·rintro _ T a1 ⟨p,Q⟩;refine ab (λd=>?_) (λd=>?_)
   ·subst d;have ca:=of_decide_eq_true Q.symm;refine⟨none,0,0,272,rfl,B.trans p,.inr ⟨rfl,rfl,rfl,by rw[if_neg E,if_neg a5],fun⟨L,a⟩=>?_⟩⟩;obtain⟨e5,b0⟩:=e0 L a;rcases ca with b1|b1
    ·exact b1 b0
    ·exact b1 (by rw[e5];exact a.2.2)
   ·subst d;have R:=of_decide_eq_false Q.symm;simp only[not_or,ne_eq,Classical.not_not]at R;refine⟨⟨by omega,by have:=hW.cap;omega⟩,⟨by omega,by omega⟩,?_⟩;rintro uA ct uN cA uC cC;have e1:((f:Nat):Int).toNat=f:=by omega
    rw[e1]at ct cA cC;have hU:aD a1 (up w) .u32 uA uN uC ((words.take f).drop 0):=(hW.pu p).cut (lo:=0) (hi:=f) (m:=f) ct cA cC (by omega) (by omega) (Nat.le_refl _);refine⟨uA,uN,uC,0,rfl,B.trans p,.inl ⟨rfl,words,⟨a7,by omega,R.2⟩,?_⟩⟩;rw[List.drop_zero,List.take_of_length_le (by omega)]at hU;exact hU
end Go.Proofs.YtoghdgcmhbanbaaGreatDoor
end
section
set_option maxRecDepth 100000
set_option maxHeartbeats 2000000
namespace Go.Proofs.YtoghdgcmhbanbaaGreatDoor
open Go Go.RowKit V Pk
open Go.IntKind (i64 u32 u64 wrap_i64 wrap_u32)
theorem Fi(a b:Int)(d:0<=a/\a<256)(f:0<=b/\b<256):
 i64.wrap ((i64.wrap ((i64.wrap a:Int)*2 ^ 8))+(i64.wrap b))=a*256+b:=by
 rw[aa (x:=a) (by omega),aa (x:=b) (by omega),aa (x:=a*2 ^ 8) (by omega),aa (by omega)];omega
def F8(num:Nat)(w:World)(A:oA)(n c:Nat)(l:List Int)(w':World):Prop:=OI w' (up w) 22 .u32 A n c l/\Pu w w'/\Wd l/\l.length<=num+1
def mH(b:List Int)(num:Nat)(w:World)(v:Value)(w':World):Prop:=∃A' n' c' l,v=.slice A' n' c'/\F8 num w A' n' c' l w'/\∀L,eC L b->l=L
theorem Jz {A:Option Addr}{n c:Nat}{l:List Int}{Z:Nat->Prop}{w:World}(h:aD w Z .u8 A n c l)(hm:n<=140737488355328)(h4:4<=n)(I:Bt l)(num:Nat)(bs:cn l=num)(ca:num<=262144):
 Calls Tryz.prog 79 #[.slice A n c] w λe w'=>∃v,e=.returned v/\mH l num w v w':=by
 have hl:=h.len;refine uv _ _ _ ?_;refine(iw h h4 I).mono ?_;rintro e wv ⟨_,rfl,rfl,q0⟩;refine⟨_,rfl,?_⟩;rintro nn bb;rw[aa (by omega),bs]at bb;subst bb;rintro at0 rfl;refine⟨λm E F G at_ w'=>∃(a:Nat)(l':List Int),at_=(a:Int)/\4<=a/\a<=l.length/\m=l.length - a/\F8 num w E F G l' w'/\∀L,eC L l->∃i,i<=L.length/\l'=L.take i/\l.drop a=bz (L.drop i).length (L.drop i),
  ⟨_,4,[],rfl,by omega,by omega,rfl,⟨OI.nil,q0,(by intro x hx;cases hx),Nat.zero_le _⟩,λL d=>⟨0,by omega,by simp,by rw[d.head];simp[four]⟩⟩,?_⟩
 rintro m _ E F G at_ C ⟨a,l',rfl,cb,cc,rfl,⟨J,K,H,az⟩,hG⟩;have cf:=J.len;refine⟨λT w'=>C=w'/\T=decide ((a:Int)+2<=n/\l'.length<num),?_,?_⟩
 ·rw[aa (by omega)];refine ab (λb=>?_) (λb=>?_)
  ·have u:(a:Int)+2<=n:=by simpa using b
   refine⟨rfl,?_⟩;rw[decide_eq_decide];omega
  ·have u:¬(a:Int)+2<=n:=by simpa using b
   exact⟨rfl,(decide_eq_false (λo=>u o.1)).symm⟩
 rintro _ T _ ⟨rfl,z⟩;have cg:(l.drop a).length=l.length - a:=List.length_drop;have aA:=I.drop a;refine ab (λb=>?_) (λb=>?_)
 ·subst b;obtain⟨cj,bA⟩:=of_decide_eq_true z.symm;have aC:∀L,eC L l->∃i,i<L.length/\l'=L.take i/\L.length=num/\∃k:Nat,1<=k/\k<=32767/\i+k<=L.length/\2<=(l.drop a).length/\
   ((fp (l.drop a)=32768+k/\6<=(l.drop a).length/\ext true ((l.drop a).drop 2) k=(L.drop i).take k/\((l.drop a).drop 2).drop 4=bz (L.drop (i+k)).length (L.drop (i+k)))\/
    (fp (l.drop a)=k/\2+4*k<=(l.drop a).length/\ext false ((l.drop a).drop 2) k=(L.drop i).take k/\((l.drop a).drop 2).drop (4*k)=bz (L.drop (i+k)).length (L.drop (i+k)))):=by
   intro L d;obtain⟨i,hi,p,a4⟩:=hG L d;have M:L.length=num:=by have:=d.num;omega
   have aN:i<L.length:=by
    rw[p,List.length_take]at bA;omega
   exact⟨i,aN,p,M,nO d.1 aN a4⟩
  have a5:=(h.pu K).drew;refine a5.rd (by omega) (by omega) ?_;rw[aa (x:=(a:Int)+1) (by omega)];refine a5.rd (by omega) (by omega) ?_;have e0:l.getD (a:Int).toNat 0=(l.drop a).getD 0 0:=by rw[dP];rfl
  have e1:l.getD ((a:Int)+1).toNat 0=(l.drop a).getD 1 0:=by rw[dP];congr 1
  rw[e0,e1,Fi _ _ (cX aA _) (cX aA _)];have g0:=cX aA 0;have g1:=cX aA 1;rintro f bc;have ck:f=fp (l.drop a):=bc;have ct:0<=fp (l.drop a)/\fp (l.drop a)<65536:=by unfold fp;omega
  clear bc;rintro at2 bC;rw[aa (by omega)]at bC;obtain rfl:at2=((a+2:Nat):Int):=by omega
  generalize bN:(l.drop a).drop 2=B at aC;have N:B=l.drop (a+2):=by rw[<-bN,List.drop_drop]
  have bd:Bt B:=by rw[N];exact I.drop _
  refine ab (λb0=>?_) (λb1=>?_)
  ·have cA:f>=32768:=by simpa using b0
   rw[aa (x:=((a+2:Nat):Int)+4) (by omega)];refine ab (λa6=>?_) (λa6=>?_)
   ·have b2:((a+2:Nat):Int)+4>n:=by simpa using a6
    refine⟨E,F,G,l',rfl,⟨J.pu (Pu.aw C),K.drew,H,az⟩,λL d=>?_⟩;obtain⟨i,hi,p,M,k,h1,h2,h3,bg,O⟩:=aC L d;exfalso;rcases O with⟨o,Q,_⟩|⟨o,Q,_⟩<;>omega
   ·have b2:¬((a+2:Nat):Int)+4>n:=by simpa using a6
    refine⟨⟨by omega,by omega⟩,?_⟩;rintro xA a0 xN a1 xC a2;have R:aD C.drew Z .u8 xA xN xC (l.drop (a+2)):=a5.from_ (lo:=a+2) (m:=c) a0 a1 a2 (by omega) h.cap;refine(iw R (by have:=R.len;rw[List.length_drop]at this;omega) (I.drop _)).mono ?_;rintro e S ⟨_,rfl,rfl,q3⟩;have q3:Pu C S:=(Pu.aw C).trans q3;refine⟨_,rfl,?_⟩;rintro i0 rfl;refine⟨λU V W an x w'=>∃j:Nat,x=(j:Int)/\(j:Int)<=f - 32768/\U=(f - 32768).toNat - j/\F8 num w V W an (l'++ext true B j) w',
     ⟨_,0,rfl,by omega,rfl,by simpa[ext]using (show F8 num w E F G l' S from⟨J.pu q3,K.trans q3,H,az⟩)⟩,?_⟩
    rintro U _ V W an x b3 ⟨j,rfl,hj,rfl,t,s,a7,a8⟩;have b4:=t.len;rw[aa (x:=f - 32768) (by omega)];refine⟨λT w'=>b3=w'/\T=decide ((j:Int)<f - 32768/\(l'++ext true B j).length<=num),?_,?_⟩
    ·refine ab (λb=>?_) (λb=>?_)
     ·have u:(j:Int)<f - 32768:=by simpa using b
      refine⟨rfl,?_⟩;rw[decide_eq_decide];omega
     ·have u:¬(j:Int)<f - 32768:=of_decide_eq_false b;exact⟨rfl,(decide_eq_false (λo=>u o.1)).symm⟩
    rintro _ T _ ⟨rfl,z⟩;refine ab (λb=>?_) (λb=>?_)
    ·subst b;obtain⟨b5,b6⟩:=of_decide_eq_true z.symm;refine mkd λg b7 m6=>?_;refine dW (m:=1) (k:=.u32) oQ t (λk hk=>Nat.le_trans s.size hk) [cn (l.drop (a+2))] rfl m6 (by omega) (by omega) λA7 c7 w7 a9 ba _=>?_;rintro i2 rfl;refine⟨(f - 32768).toNat - (j+1),by omega,j+1,(aa (by omega)).trans (by omega),by omega,rfl,?_,s.up ba,?_,?_⟩
     ·rw[lq,<-List.append_assoc];simpa[N]using a9
     ·intro y r;rcases List.mem_append.1 r with r|r
      ·exact H y r
      ·obtain⟨q,_,rfl⟩:=List.mem_map.1 r;exact ek (bd.drop _)
     ·rw[lq,<-List.append_assoc,List.length_append];simp only[List.length_cons,List.length_nil];omega
    ·subst b;have a3:=of_decide_eq_false z.symm;rintro at3 rfl;refine⟨l.length - (a+6),by omega,a+6,l'++ext true B j,by omega,by omega,by omega,rfl,⟨t,s,a7,a8⟩,λL d=>?_⟩;obtain⟨i,hi,p,M,k,h1,h2,h3,bg,O⟩:=aC L d;have bl:l'.length=i:=by rw[p,List.length_take];omega
     rw[List.length_append,dG]at a3;rcases O with⟨o,Q,h7,h8⟩|⟨o,Q,h7,h8⟩
     ·obtain rfl:k=j:=by omega
      refine⟨i+k,by omega,?_,?_⟩
      ·rw[h7,p,List.take_add]
      ·rw[<-h8,N,List.drop_drop]
     ·omega
  ·have cC:¬f>=32768:=by simpa using b1
   rintro i0 rfl;refine⟨λU V W an at3 x w'=>∃j:Nat,x=(j:Int)/\at3=((a+2+4*j:Nat):Int)/\a+2+4*j<=l.length/\(j:Int)<=f/\U=f.toNat - j/\F8 num w V W an (l'++ext false B j) w',
    ⟨_,0,rfl,by simp,by omega,by omega,rfl,by simpa[ext]using (show F8 num w E F G l' C.drew from⟨J.pu (Pu.aw C),K.drew,H,az⟩)⟩,?_⟩
   rintro U _ V W an at3 x S ⟨j,rfl,rfl,b8,hj,rfl,t,s,a7,a8⟩;have b4:=t.len;rw[aa (x:=((a+2+4*j:Nat):Int)+4) (by omega)];refine⟨λT w'=>S=w'/\T=decide ((j:Int)<f/\((a+2+4*j:Nat):Int)+4<=n/\(l'++ext false B j).length<=num),?_,?_⟩
   ·refine ab (λb=>?_) (λb=>?_)
    ·have u:(j:Int)<f:=by simpa using b
     refine ab (λhd=>?_) (λhd=>?_)
     ·have hd':((a+2+4*j:Nat):Int)+4<=n:=of_decide_eq_true hd;refine⟨rfl,?_⟩;rw[decide_eq_decide];omega
     ·have hd':=of_decide_eq_false hd;exact⟨rfl,(decide_eq_false (λo=>hd' o.2.1)).symm⟩
    ·have u:=of_decide_eq_false b;exact⟨rfl,(decide_eq_false (λo=>u o.1)).symm⟩
   rintro _ T _ ⟨rfl,z⟩;refine ab (λb=>?_) (λb=>?_)
   ·subst b;obtain⟨b5,cM,b6⟩:=of_decide_eq_true z.symm;refine⟨⟨by omega,by omega⟩,?_⟩;rintro xA a0 xN a1 xC a2;have et:(((a+2+4*j:Nat):Int)).toNat=a+2+4*j:=by omega
    rw[et]at a0 a1 a2;have R:aD S Z .u8 xA xN xC (l.drop (a+2+4*j)):=(h.pu s).from_ (lo:=a+2+4*j) (m:=c) a0 a1 a2 (by omega) h.cap;refine(iw R (by have:=R.len;rw[List.length_drop]at this;omega) (I.drop _)).mono ?_;rintro e b9 ⟨_,rfl,rfl,q5⟩;have t:=t.pu q5;have s:Pu w b9:=s.trans q5;refine⟨_,rfl,mkd λg b7 m6=>?_⟩;refine dW (m:=1) (k:=.u32) oQ t (λk hk=>Nat.le_trans s.size hk) [cn (l.drop (a+2+4*j))] rfl m6 (by omega) (by omega) λA7 c7 w7 a9 ba _=>?_;rintro cN rfl i2 rfl;refine⟨f.toNat - (j+1),by omega,j+1,(aa (by omega)).trans (by omega),by omega,by omega,by omega,rfl,?_,s.up ba,?_,?_⟩
    ·rw[lq,<-List.append_assoc];simpa[N]using a9
    ·intro y r;rcases List.mem_append.1 r with r|r
     ·exact H y r
     ·obtain⟨q,_,rfl⟩:=List.mem_map.1 r;exact ek (bd.drop _)
    ·rw[lq,<-List.append_assoc,List.length_append];simp only[List.length_cons,List.length_nil];omega
   ·subst b;have a3:=of_decide_eq_false z.symm;refine⟨l.length - (a+2+4*j),by omega,a+2+4*j,l'++ext false B j,rfl,by omega,b8,rfl,⟨t,s,a7,a8⟩,λL d=>?_⟩;obtain⟨i,hi,p,M,k,h1,h2,h3,bg,O⟩:=aC L d;have bl:l'.length=i:=by rw[p,List.length_take];omega
    rw[List.length_append,dG]at a3;rcases O with⟨o,Q,h7,h8⟩|⟨o,Q,h7,h8⟩
    ·omega
    ·obtain rfl:k=j:=by omega
     refine⟨i+k,by omega,?_,?_⟩
     ·rw[h7,p,List.take_add]
     ·rw[<-h8,N,List.drop_drop]
 ·subst b;have a3:=of_decide_eq_false z.symm;refine⟨E,F,G,l',rfl,⟨J,K,H,az⟩,λL d=>?_⟩;obtain⟨i,hi,p,a4⟩:=hG L d;have M:L.length=num:=by have:=d.num;omega
  have bl:l'.length=i:=by rw[p,List.length_take];omega
  by_cases aN:i<L.length
  ·obtain⟨k,_,_,_,h2,_⟩:=nO d.1 aN a4;omega
  ·rw[p,List.take_of_length_le (by omega)]
theorem ET {A:Option Addr}{n c:Nat}{l:List Int}{Z:Nat->Prop}{w:World}(h:aD w Z .u8 A n c l)(hm:n<=140737488355328)(d:Bt l):
 Calls Tryz.prog 52 #[.slice A n c] w λe w'=>∃v,e=.returned v/\Ix l w v w':=by
 have hl:=h.len;refine rh _ _ _ ?_;refine af (λF=>?_) (λF=>?_)
 ·exact⟨none,0,0,272,rfl,Ch.refl _ _,.inr ⟨rfl,rfl,rfl,by rw[if_pos (by omega)],fun⟨L,a⟩=>by have:=a.len;omega⟩⟩
 have x:¬l.length<4:=by omega
 have G:=ek d;refine(iw h (by omega) d).mono ?_;rintro e wv ⟨_,rfl,rfl,j⟩;refine⟨_,rfl,?_⟩;refine af (λan=>?_) (λaz=>?_)
 ·exact⟨none,0,0,2,rfl,j,.inr ⟨rfl,rfl,rfl,by rw[if_neg x,if_pos (by omega)],fun⟨L,a⟩=>by have:=a.num;have:=a.2.1;omega⟩⟩
 have H:¬262144<cn l:=by omega
 obtain⟨num,I⟩:=Int.eq_ofNat_of_zero_le G.1;refine(Jz (h.pu j) hm (by omega) d num I (by omega)).mono ?_;rintro e y ⟨_,rfl,q,r,s,l',rfl,⟨f,o,z,aA⟩,J⟩;refine⟨q,r,s,rfl,?_⟩;have f:OI y (up w) 22 .u32 q r s l':=f.mono λk K=>Nat.le_trans j.size K;have o:Pu w y:=j.trans o;have aC:=f.len;refine(xG f.ints (by omega) z).mono ?_;rintro e M ⟨_,rfl,N,O,Q,rfl,R,t⟩;refine⟨N,O,Q,rfl,?_⟩;have B:=(h.pu o).pu t;refine⟨λT w'=>Pu M w'/\(T=true↔¬eC l' l),?_,?_⟩
 ·refine(iw B (by omega) d).mono ?_;rintro e p ⟨_,rfl,rfl,b⟩;refine⟨_,rfl,?_⟩;rw[Pk.u32_eq,Int.emod_eq_of_lt (by omega) (by omega)];refine aG (λi=>?_) (λi=>?_)
  ·refine⟨b,λ_ u=>?_,λ_=>rfl⟩;have:=u.num;omega
  ·refine⟨_,p,fL sG kG jg (R.ints.pu b),_,p,fL sG kG jg (B.pu b),b,?_⟩;rw[strOf_eq (nX l') d,<-decide_not,decide_eq_true_iff];exact not_congr ⟨λS=>⟨z,by omega,S⟩,λu=>u.2.2⟩
 ·rintro _ T p ⟨b,C⟩;have E:Pu w p:=(o.trans t).trans b;refine ab (λi=>?_) (λi=>?_)
  ·subst i;have U:=C.1 rfl;exact⟨none,0,0,272,rfl,E,.inr ⟨rfl,rfl,rfl,by rw[if_neg x,if_neg H],fun⟨L,a⟩=>U (by rw[J L a];exact a)⟩⟩
  ·subst i;have V:¬¬eC l' l:=λW=>by cases C.2 W
   exact⟨q,r,s,0,rfl,E,.inl ⟨rfl,l',Classical.not_not.1 V,(f.ints.pu t).pu b⟩⟩
end Go.Proofs.YtoghdgcmhbanbaaGreatDoor
end
section
namespace Go.Proofs.YtoghdgcmhbanbaaGreatDoor
open Go Go.RowKit V Pk
open Go.IntKind (i64 u32 u64 wrap_i64 wrap_u32)
open Enc (enc)
structure Hd where
 A:Option Addr
 n:Nat
 c:Nat
instance:Enc Hd:=⟨λx=>[.slice x.A x.n x.c],1,λ_=>rfl,by simp[Value.oneCell'],by omega⟩
theorem stN:SN Tryz.prog 55 26 (.slice none 0 0) 1 24:=(S1.of (by kernel_rfl) (by kernel_rfl) rfl:S1 Tryz.prog 55 26 (.slice none 0 0) 24).sn
def inn(w0 w:World)(A:oA):Nat->Prop:=λk=>w0.heap.size<=k/\k<w.heap.size/\∀b,A=some b->b.block≠k
def ONL(w0 w:World)(A:oA)(n c:Nat)(ps:List (List Int)):Prop:=∃a:List Hd,Own w (up w0) 26 A n c a/\a.length=ps.length/\∀(j:Nat)(h:Hd)(p:List Int),a[j]? =some h->ps[j]? =some p->aD w (inn w0 w A) .u32 h.A h.n h.c p
structure NL(w:World)(Z:Nat->Prop)(A:oA)(n c:Nat)(ps:List (List Int)):Prop where
 len:ps.length=n
 cap:n<=c
 cell:∀(j:Nat)(p:List Int),ps[j]? =some p->∃(a:Addr)(h:Hd),A=some a/\Z a.block/\w.cell? (a.add j)=some (.slice h.A h.n h.c)/\aD w Z .u32 h.A h.n h.c p
section
variable {w0 w w1 w':World}{A:Option Addr}{n c:Nat}{ps:List (List Int)}{X Z Y:Nat->Prop}
theorem ONL.nil:ONL w0 w none 0 0 []:=⟨[],Own.nil,rfl,λj h p a=>by simp at a⟩
theorem ONL.len(o:ONL w0 w A n c ps):ps.length=n:=by obtain⟨d,a,b,_⟩:=o;rw[<-b];exact a.len
theorem ONL.ch(o:ONL w0 w A n c ps)(q:Ch X w w')(b:∀k,w0.heap.size<=k->k<w.heap.size->¬X k):ONL w0 w' A n c ps:=by
 obtain⟨d,f,i,r⟩:=o;refine⟨d,?_,i,λj h p s t=>?_⟩
 ·exact(f.within.ch q λk a=>b k a.1 a.2).mono λk a=>a.1
 ·exact((r j h p s t).ch q λk a=>b k a.1 a.2.1).mono λk a=>⟨a.1,Nat.lt_of_lt_of_le a.2.1 q.size,a.2.2⟩
theorem ONL.pu(o:ONL w0 w A n c ps)(q:Pu w w'):ONL w0 w' A n c ps:=o.ch q λ_ _ _ h=>h
theorem ONL.fresh(o:ONL w0 w A n c ps)(f:w0.heap.size<=w.heap.size){B:Option Addr}{m d:Nat}{p:List Int}(h:aD w' (up w) .u32 B m d p):aD w' (inn w0 w' A) .u32 B m d p:=by
 obtain⟨q,i,_⟩:=o;exact h.lt.mono λk a=>⟨Nat.le_trans f a.1,a.2,λb j e=>by have r:=(i.within.own.2 b j).2;have s:w.heap.size<=k:=a.1;omega⟩
theorem ONL.app(o:ONL w0 w A n c ps)(V:w0.heap.size<=w.heap.size){B:Option Addr}{m d:Nat}{p:List Int}(u:aD w (inn w0 w A) .u32 B m d p){g:Nat}(s:Made w g #[.slice B m d] 26 w1)(W:n<=1000000)
 {K:Option Addr->Nat->Nat->World->Prop}(J:∀A' c' w2,ONL w0 w2 A' (n+1) c' (ps++ [p])->aD w2 (inn w0 w2 A') .u32 B m d p->Ch (up w0) w1 w2->K A' (n+1) c' w2):
 ∃(A':oA)(n' c':Nat)(w2:World),(Builtin.append_ #[55,55] 55 #[.slice A n c,.slice (pvA g) 1 1]:Sem Value).run Tryz.prog w1=.ok (.slice A' n' c') w2/\K A' n' c' w2:=by
 have hg:g=w.heap.size:=s.num;obtain⟨t,y,M,N⟩:=o.pu s.pu;have u:=u.pu s.pu;have O:Own w1 (λk=>(∃b,A=some b/\b.block=k)\/k=w1.heap.size) 26 A n c t:=⟨⟨y.own.1,λa z=>.inl ⟨a,z,rfl⟩⟩,y.len⟩;have E:∀b,A=some b->w0.heap.size<=b.block/\b.block<w1.heap.size:=λb i=>(show up w0 b.block/\b.block<w1.heap.size from y.within.own.2 b i);refine O.app (x:=(⟨B,m,d⟩:Hd)) stN s.blk rfl (by omega) (by omega) (.inr rfl) λA' c' w2 F C=>?_;have Q:∀b,A'=some b->(∃a,A=some a/\a.block=b.block)\/b.block=w1.heap.size:=λb i=>F.own.2 b i;have R:=C.size;have G:∀ {B:Option Addr}{m d:Nat}{p:List Int},aD w1 (inn w0 w1 A) .u32 B m d p->aD w2 (inn w0 w2 A') .u32 B m d p:=λhi=>
  (hi.ch C λk f h=>by
   rcases h with⟨b,i,e⟩|e
   ·exact f.2.2 b i e
   ·have:=f.2.1;omega).mono λk f=>⟨f.1,Nat.lt_of_lt_of_le f.2.1 R,λb i e=>by
   rcases Q b i with⟨a,z,H⟩|H
   ·exact f.2.2 a z (H.trans e)
   ·have:=f.2.1;omega⟩
 have I:=G (u.mono λk f=>⟨f.1,Nat.lt_of_lt_of_le f.2.1 (by have:=s.size;omega),f.2.2⟩);refine J A' c' w2 ⟨t++ [⟨B,m,d⟩],?_,by simp[M],λj h q r hq=>?_⟩ I (C.mono λk f=>?_)
 ·refine F.mono λk f=>?_;rcases f with⟨b,i,rfl⟩|rfl
  ·exact(E b i).1
  ·have:=s.size;show w0.heap.size<=_;omega
 ·by_cases S:j<t.length
  ·rw[List.getElem?_append_left S]at r;rw[List.getElem?_append_left (by omega)]at hq;exact G (N j h q r hq)
  ·rw[List.getElem?_append_right (by omega)]at r;rw[List.getElem?_append_right (by omega)]at hq;have U:j - t.length=0:=by
    cases e:j - t.length with
    |zero=>rfl
    |succ k=>rw[e]at r;simp at r
   rw[U]at r;rw[show j - ps.length=0 by omega]at hq;simp at r hq;subst r;subst hq;exact I
 ·rcases f with⟨b,i,rfl⟩|rfl
  ·exact(E b i).1
  ·have:=s.size;show w0.heap.size<=_;omega
theorem ONL.nl(o:ONL w0 w A n c ps):NL w (λk=>w0.heap.size<=k/\k<w.heap.size) A n c ps:=by
 have q:=o.len;obtain⟨b,d,r,s⟩:=o;refine⟨q,d.rd.cap,λj p f=>?_⟩;have h:j<b.length:=by rw[r];exact(List.getElem?_eq_some_iff.1 f).1
 obtain⟨a,t,u,x⟩:=d.rd.cell j _ (List.getElem?_eq_getElem h);refine⟨a,b[j],t,u,?_,(s j _ p (List.getElem?_eq_getElem h) f).mono λk i=>⟨i.1,i.2.1⟩⟩;have:=x 0 (by decide);rw[add_add,Nat.add_zero,show j*Enc.size Hd=j from Nat.mul_one j]at this;exact this
theorem NL.ch(h:NL w Z A n c ps)(q:Ch X w w')(b:∀k,Z k->¬X k):NL w' Z A n c ps:=
 ⟨h.len,h.cap,λj p i=>by
  obtain⟨a,hd,o,d,f,hi⟩:=h.cell j p i;refine⟨a,hd,o,d,(q.kept.cell ⟨World.block_lt_of_cell? w _ f,?_⟩).trans f,hi.ch q b⟩;rw[block_add];exact b _ d⟩
theorem NL.pu(h:NL w Z A n c ps)(q:Pu w w'):NL w' Z A n c ps:=h.ch q λ_ _ h=>h
theorem NL.mono(h:NL w Z A n c ps)(b:∀k,Z k->Y k):NL w Y A n c ps:=
 ⟨h.len,h.cap,λj p d=>by
  obtain⟨a,hd,f,i,o,hi⟩:=h.cell j p d;exact⟨a,hd,f,b _ i,o,hi.mono b⟩⟩
theorem NL.lt(h:NL w Z A n c ps):NL w (λk=>Z k/\k<w.heap.size) A n c ps:=
 ⟨h.len,h.cap,λj p d=>by
  obtain⟨a,hd,f,i,b,hi⟩:=h.cell j p d;exact⟨a,hd,f,⟨i,by have:=World.block_lt_of_cell? w _ b;rwa[block_add]at this⟩,b,hi.lt⟩⟩
theorem NL.drew(h:NL w Z A n c ps):NL w.drew Z A n c ps:=h.pu (Pu.aw w)
theorem NL.rd(h:NL w Z A n c ps){i:Int}(b:0<=i)(f:i<(n:Int)){K:Option Addr->Nat->Nat->Prop}(j:∀B m d,aD w Z .u32 B m d (ps.getD i.toNat [])->K B m d):
 (0<=i/\i<((n:Nat):Int))/\ai A λp=>∃(B:oA)(m d:Nat),w.cell? (p.add (i.toNat *1))=some (.slice B m d)/\K B m d:=by
 have r:=h.len;have a:i.toNat<ps.length:=by omega
 obtain⟨p,hd,o,_,q,hi⟩:=h.cell i.toNat _ (List.getElem?_eq_getElem a);refine⟨⟨b,f⟩,ah p o ⟨hd.A,hd.n,hd.c,by rw[Nat.mul_one];exact q,j _ _ _ ?_⟩⟩
 rwa[List.getD_eq_getElem?_getD,List.getElem?_eq_getElem a]
theorem ONL.rd0(o:ONL w0 w A n c ps)(b:0<n){K:Option Addr->Nat->Nat->Prop}(a:∀B m d,aD w (λk=>w0.heap.size<=k/\k<w.heap.size) .u32 B m d (ps.getD 0 [])->K B m d):
 (0<=(0:Int)/\(0:Int)<((n:Nat):Int))/\ai A λp=>∃(B:oA)(m d:Nat),w.cell? (p.add (Int.toNat 0*1))=some (.slice B m d)/\K B m d:=o.nl.rd (Int.le_refl _) (by omega) a
end
end Go.Proofs.YtoghdgcmhbanbaaGreatDoor
end
section
set_option maxRecDepth 100000
set_option maxHeartbeats 2000000
namespace Go.Proofs.YtoghdgcmhbanbaaGreatDoor
open Go Go.RowKit V Pk
open Go.IntKind (i64 u32 u64 wrap_i64 wrap_u32)
def xr(a b:Int):Int:=u32.wrap (BitVec.ofInt u32.bits a ^^^ BitVec.ofInt u32.bits b).toNat
theorem IK(a b:Int):xr a b=xr b a:=by unfold xr;rw[BitVec.xor_comm]
def cr1(c:Int):Int:=if u32.wrap (BitVec.ofInt u32.bits c &&& BitVec.ofInt u32.bits 1).toNat=1 then xr (c.fdiv (2 ^ 1)) 3988292384 else c.fdiv (2 ^ 1)
def crN:Nat->Int->Int
 |0,c=>c
 |k+1,c=>cr1 (crN k c)
def crL(l:List Int):Int:=l.foldl (λc x=>crN 8 (xr c (u32.wrap x))) 4294967295
def crc(l:List Int):Int:=xr (crL l) 4294967295
theorem AH {l:List Int}{j:Nat}(h:j<l.length):crL (l.take (j+1))=crN 8 (xr (crL (l.take j)) (u32.wrap (l.getD j 0))):=by
 rw[fz h];unfold crL;rw[List.foldl_append];rfl
theorem Kv {A:Option Addr}{n c:Nat}{l:List Int}{Z:Nat->Prop}{w:World}(h:aD w Z .u8 A n c l)(hm:n<=140737488355328):
 Calls Tryz.prog 39 #[.slice A n c] w λe w'=>∃v,e=.returned v/\v=.int .u32 (crc l)/\w'=w:=by
 have p:=h.len;refine BA _ _ _ ?_;rintro r rfl;refine⟨λm s i w'=>∃j:Nat,i=(j:Int)/\j<=n/\m=n - j/\s=crL (l.take j)/\w=w',⟨_,0,rfl,Nat.zero_le _,rfl,rfl,rfl⟩,?_⟩;rintro m _ s i _ ⟨j,rfl,t,rfl,rfl,rfl⟩;refine af (λf=>?_) (λf=>?_)
 ·refine h.rd (by omega) (by omega) ?_;rw[Int.toNat_natCast];rintro s2 a;have a:s2=xr (crL (l.take j)) (u32.wrap (l.getD j 0)):=a;refine⟨λm s k w'=>∃q:Nat,k=(q:Int)/\q<=8/\m=8 - q/\s=crN q s2/\w=w',⟨_,0,rfl,Nat.zero_le _,rfl,rfl,rfl⟩,?_⟩;rintro m _ s k _ ⟨q,rfl,hq,rfl,rfl,rfl⟩;refine af (λo=>?_) (λo=>?_)
  ·rintro low rfl u rfl;have d:i64.wrap ((q:Int)+1)=((q+1:Nat):Int):=by rw[aa (by omega)];omega
   refine aE (λb=>?_) (λb=>?_)
   ·rintro x rfl;exact⟨8 - (q+1),by omega,q+1,d,by omega,rfl,by rw[crN,cr1,if_pos b];rfl,rfl⟩
   ·exact⟨8 - (q+1),by omega,q+1,d,by omega,rfl,by rw[crN,cr1,if_neg b],rfl⟩
  ·obtain rfl:q=8:=by omega
   exact⟨n - (j+1),by omega,j+1,by rw[aa (by omega)];omega,by omega,rfl,by rw[AH (by omega),a],rfl⟩
 ·obtain rfl:j=n:=by omega
  refine⟨?_,rfl⟩;rw[List.take_of_length_le (by omega)];show Value.int .u32 (xr _ _)=_;rw[IK];rfl
theorem Ci {A:Option Addr}{n c:Nat}{l:List Int}{Z:Nat->Prop}{w:World}(h:aD w Z .u8 A n c l)(hm:n<=140737488355328):
 Calls Tryz.prog 7 #[.slice A n c] w λe w'=>∃v,e=.returned v/\v=.int .u32 (crc l)/\w'=w:=by
 have r:=h.len;refine yK _ _ _ ?_;rintro t rfl i0 rfl;refine⟨λm s i w'=>∃j:Nat,i=(j:Int)/\j<=n/\m=n - j/\s=crL (l.take j)/\w=w',⟨_,0,rfl,Nat.zero_le _,rfl,rfl,rfl⟩,?_⟩;rintro m _ s i _ ⟨j,rfl,u,rfl,rfl,rfl⟩;refine af (λf=>?_) (λf=>?_)
 ·refine h.rd (by omega) (by omega) ?_;rw[Int.toNat_natCast];rintro s2 a x rfl;have a:s2=xr (crL (l.take j)) (u32.wrap (l.getD j 0)):=a;refine⟨λm s k w'=>∃q:Nat,k=(q:Int)/\q<=8/\m=8 - q/\s=crN q s2/\w=w',⟨_,0,rfl,Nat.zero_le _,rfl,rfl,rfl⟩,?_⟩;rintro m _ s k _ ⟨q,rfl,hq,rfl,rfl,rfl⟩;refine af (λo=>?_) (λo=>?_)
  ·rintro low rfl y rfl;have d:i64.wrap ((q:Int)+1)=((q+1:Nat):Int):=by rw[aa (by omega)];omega
   refine aE (λb=>?_) (λb=>?_)
   ·rintro z rfl p rfl;exact⟨8 - (q+1),by omega,q+1,d,by omega,rfl,by rw[crN,cr1,if_pos b];rfl,rfl⟩
   ·rintro p rfl;exact⟨8 - (q+1),by omega,q+1,d,by omega,rfl,by rw[crN,cr1,if_neg b],rfl⟩
  ·obtain rfl:q=8:=by omega
   rintro i2 rfl;exact⟨n - (j+1),by omega,j+1,by rw[aa (by omega)];omega,by omega,rfl,by rw[AH (by omega),a],rfl⟩
 ·obtain rfl:j=n:=by omega
  refine⟨?_,rfl⟩;rw[List.take_of_length_le (by omega)];rfl
def M9(l:List Int)(Z:Nat->Prop)(c:Nat)(w0 w:World)(v:Value)(w':World):Prop:=∃A n d B m f ok,v=.tuple #[.slice A n d,.slice B m f,.bool ok]/\Pu w w'/\f<=c/\((ok=true/\∃L r,eD L/\l=Fr L++r/\aD w' (up w) .u32 A n d L/\aD w0 Z .u8 B m f r)\/(ok=false/\¬∃L r,eD L/\l=Fr L++r))
theorem Mi {x:Int}(h:0<=x/\x<18446744073709551616):u64.wrap x=x:=by rw[IntKind.wrap_u64];omega
theorem Ep {A:Option Addr}{n c:Nat}{l:List Int}{Z:Nat->Prop}{w0 w:World}(h:aD w0 Z .u8 A n c l)(j:Pu w0 w)(hm:n<=140737488355328)(b:Bt l):
 Calls Tryz.prog 66 #[.slice A n c] w λe w'=>∃v,e=.returned v/\M9 l Z c w0 w v w':=by
 have hl:=h.len;have z:=h.cap;refine BC _ _ _ ?_;have no:∀w',Pu w w'->(¬∃L r,eD L/\l=Fr L++r)->M9 l Z c w0 w (.tuple #[.slice none 0 0,.slice none 0 0,.bool false]) w':=λw' q C=>⟨_,_,_,_,_,_,_,rfl,q,Nat.zero_le _,.inr ⟨rfl,C⟩⟩;refine af (λE=>no _ (Ch.refl _ _) ?_) (λE=>?_)
 ·rintro⟨L,r,a,e⟩;have:=(py (r:=r) a).1;rw[<-e]at this;omega
 have hr:=ek b;refine(Ao (h.pu j) (by omega) b).mono ?_;rintro e wv ⟨_,rfl,rfl,f⟩;refine⟨_,rfl,?_⟩;rintro n0 rfl;rw[aa (x:=(n:Int) - 4) (by omega),Mi (by omega),Mi (x:=(n:Int) - 4) (by omega)];refine af (λF=>no _ f ?_) (λF=>?_)
 ·rintro⟨L,r,a,e⟩;have:=(py (r:=r) a).2.1;rw[<-e]at this;omega
 rintro en rfl;rw[aa (x:=cn l) (by omega),aa (by omega)];refine⟨⟨by omega,by omega⟩,⟨by omega,by omega⟩,⟨by omega,by omega⟩,?_⟩;rintro G o H p I s;have J:(4+cn l).toNat=4+(cn l).toNat:=by omega
 rw[J]at o p s ⊢;have i:aD w0 Z .u8 G H I ((l.take (4+(cn l).toNat)).drop 4):=h.cut (lo:=4) (hi:=4+(cn l).toNat) (m:=4+(cn l).toNat) (by simpa using o) (by simpa using p) (by simpa using s) (by omega) (by omega) (Nat.le_refl _);rw[List.drop_take,show 4+(cn l).toNat - 4=(cn l).toNat by omega]at i;have K:=i.len;rw[List.length_take,List.length_drop]at K;refine(zj (i.pu (j.trans f)) (by omega) ((b.drop _).take _)).mono ?_;rintro e M ⟨_,rfl,B,m,d,N,rfl,O,Q⟩;refine⟨B,m,d,N,rfl,⟨by omega,by omega⟩,?_⟩;rintro t R u S y U;have V:aD w0 Z .u8 t u y (l.drop (4+(cn l).toNat)):=h.from_ (lo:=4+(cn l).toNat) (m:=c) R S U (by omega) z;have W:Pu w M.drew:=(f.trans O).drew;refine⟨B,m,d,t,u,y,_,rfl,W,by omega,?_⟩;rcases Q with⟨rfl,L,a,hi⟩|⟨_,_,_,he,an⟩
 ·exact .inl ⟨rfl,L,_,a.l,HK b (by omega) (by omega) a,(hi.drew).mono λk hk=>Nat.le_trans f.size hk,V⟩
 ·refine .inr ⟨?_,?_⟩
  ·rw[he];split;rfl;split<;>rfl
  ·rintro⟨L,r,a,e⟩;have:=(py (r:=r) a).2.2;rw[<-e]at this;exact an ⟨L,this⟩
end Go.Proofs.YtoghdgcmhbanbaaGreatDoor
end
section
set_option maxRecDepth 100000
set_option maxHeartbeats 2000000
namespace Go.Proofs.YtoghdgcmhbanbaaGreatDoor
open Go Go.RowKit V Pk
open Go.IntKind (i64 u32 u64 wrap_i64 wrap_u32)
def KJ(l:List Int)(w:World)(v:Value)(w':World):Prop:=∃A n c ok,v=.tuple #[.slice A n c,.bool ok]/\Pu w w'/\((ok=true/\∃h a t,Snp (l.drop 8) h a t/\NL w' (λk=>w.heap.size<=k/\k<w'.heap.size) A n c (h::a))\/(ok=false/\¬∃h a t,Snp (l.drop 8) h a t))
theorem oh {q:List Int}(h:q.length=26):pQ q↔¬(q.getD 0 0>64\/q.getD 1 0>64\/q.getD 2 0>64):=by unfold pQ;omega
def kB(h:List Int):Int:=2+h.getD 2 0+(h.getD 0 0+h.getD 1 0)
theorem Ld {A:Option Addr}{n c:Nat}{l:List Int}{Z:Nat->Prop}{w:World}(h:aD w Z .u8 A n c l)(hm:n<=140737488355328)(bd:Bt l)(h8:8<=n):
 Calls Tryz.prog 31 #[.slice A n c] w λe w'=>∃v,e=.returned v/\KJ l w v w':=by
 have hl:=h.len;have bg:=h.cap;refine yL _ _ _ ?_;rintro w0 rfl a0 rfl;refine⟨λm pA pN pC want at_ w'=>∃(a:Nat)(ps:List (List Int)),at_=(a:Int)/\8<=a/\a<=n/\m=n - a/\Shape (l.drop 8) ps (l.drop a)/\Pts ps want/\(ps.length:Int)<=want/\ONL w w' pA pN pC ps/\Pu w w',⟨_,8,[],rfl,Nat.le_refl _,h8,rfl,Shape.nil _,.inl ⟨rfl,rfl⟩,by simp,ONL.nil,Ch.refl _ _⟩,?_⟩;rintro m _ pA pN pC want at_ wv ⟨a,ps,rfl,cg,cj,rfl,o,u,hle,ho,S⟩;have K:=ho.len;have ck:want<=200:=by
  rcases u with⟨_,rfl⟩|⟨h,r,_,b,rfl,_⟩
  ·omega
  ·have:=b.2.1;have:=b.2.2.1;have:=b.2.2.2;omega
 have bad:∀w',Pu w w'->(¬∃h z t,Snp (l.drop 8) h z t)->KJ l w (.tuple #[.slice none 0 0,.bool false]) w':=λw' q M=>⟨_,_,_,_,rfl,q,.inr ⟨rfl,M⟩⟩;have bl:(l.drop a).length=n - a:=by rw[List.length_drop,hl]
 rw[aa (x:=(a:Int)+4) (by omega)];refine af (λI=>?_) (λct=>?_)
 ·have I:(ps.length:Int)<want:=by omega
  refine af (λhs=>bad _ S ?_) (λhs=>?_)
  ·rintro⟨h,z,t,s⟩;obtain⟨q,rs,_,y,e⟩:=s.next o u I;have:=(py (r:=rs.flatMap Fr++t) y).1;rw[<-e]at this;omega
  refine⟨⟨by omega,by omega⟩,?_⟩;rintro xA hA xN hN xC hC;rw[Int.toNat_natCast]at hA hN hC;have C:aD w Z .u8 xA xN xC (l.drop a):=h.from_ (lo:=a) (m:=c) hA hN hC (by omega) bg;have U:=bd.drop a;have hr:=ek U;refine(iw (C.pu S) (by omega) U).mono ?_;rintro e bs ⟨_,rfl,rfl,E⟩;have a8:=ho.pu E;have E:Pu w bs:=S.trans E;refine⟨_,rfl,?_⟩;rintro n0 rfl a2 rfl;rw[aa (x:=cn (l.drop a)) (by omega),aa (x:=(n:Int) - ((a:Int)+4)) (by omega)];refine af (λj=>bad _ E ?_) (λj=>?_)
  ·rintro⟨h,z,t,s⟩;obtain⟨q,rs,_,y,e⟩:=s.next o u I;have:=(py (r:=rs.flatMap Fr++t) y).2.1;rw[<-e]at this;omega
  obtain⟨N,V⟩:=Int.eq_ofNat_of_zero_le hr.1;rw[V]at j ⊢;rw[aa (x:=(a:Int)+4+(N:Int)) (by omega)];refine⟨⟨by omega,by omega⟩,⟨by omega,by omega⟩,?_⟩;rintro yA a9 yN a4 yC ba;rw[show((a:Int)+4).toNat=a+4 by omega]at a9 a4 ba;rw[show((a:Int)+4+(N:Int)).toNat=a+4+N by omega]at a4;have hy:aD w Z .u8 yA yN yC ((l.take (a+4+N)).drop (a+4)):=h.cut (lo:=a+4) (hi:=a+4+N) (m:=c) a9 a4 ba (by omega) (by omega) (by omega);have ey:(l.take (a+4+N)).drop (a+4)=((l.drop a).drop 4).take (cn (l.drop a)).toNat:=by
   rw[V,Int.toNat_natCast,List.drop_drop,List.drop_take,show a+4+N - (a+4)=N by omega]
  rw[ey]at hy;have bA:=hy.len;rw[List.length_take,V,Int.toNat_natCast,List.length_drop,bl]at bA;refine(ET (hy.pu E) (by omega) ((U.drop 4).take _)).mono ?_;rintro e bC ⟨_,rfl,B,m,d,er,rfl,q3,bN⟩;refine⟨B,m,d,er,rfl,?_⟩;have b0:=a8.pu q3;have q4:Pu w bC:=E.trans q3;rcases bN.symm with⟨_,_,_,he,b1⟩|⟨rfl,q,y,hi⟩
  ·have b2:er≠0:=by rw[he];split;omega;split<;>omega
   refine aG (λ_=>bad _ q4 ?_) (λh0=>absurd h0 b2);rintro⟨h,z,t,s⟩;obtain⟨q,rs,_,y,e⟩:=s.next o u I;have:=(py (r:=rs.flatMap Fr++t) y).2.2;rw[<-e]at this;exact b1 ⟨q,this⟩
  refine bG ?_;rintro a3 rfl;have J:=y.l;have W:=HK U (by omega) (by omega) y;rw[V,Int.toNat_natCast,List.drop_drop]at W;have bb:Shape (l.drop 8) (ps++ [q]) (l.drop (a+(4+N))):=o.snoc J W;have b3:=a8.fresh E.size hi;have cA:=hi.len;refine mkd λg b4 m3=>?_;have q5:Pu w b4:=q4.made m3;refine b0.app q4.size b3 m3 (by omega) λA4 c4 a5 an az b5=>?_;have q6:Pu w a5:=q5.up b5;have g0:=bJ J.1 0;have g1:=bJ J.1 1;have g2:=bJ J.1 2;have e3:((a:Int)+4+(N:Int))=((a+(4+N):Nat):Int):=by omega
  refine aE (λh1=>?_) (λh1=>?_)
  ·have b6:ps= []:=List.eq_nil_of_length_eq_zero (by omega);subst b6;refine⟨λx w'=>Pu a5 w'/\(x=true↔¬pQ q),?_,?_⟩
   ·refine aG (λh26=>⟨Ch.refl _ _,by simp[pQ,-List.getD_eq_getElem?_getD];omega⟩) (λh26=>?_);have h26:q.length=26:=by omega
    refine az.rd (by omega) (by omega) (af (λF=>⟨Ch.refl _ _,by simp[pQ,-List.getD_eq_getElem?_getD];intro _;simp[-List.getD_eq_getElem?_getD]at F;omega⟩) (λb7=>?_));refine az.rd (by omega) (by omega) (af (λF=>⟨Ch.refl _ _,by simp[pQ,-List.getD_eq_getElem?_getD];intro _ _;simp[-List.getD_eq_getElem?_getD]at F;omega⟩) (λb8=>?_));refine az.rd (by omega) (by omega) ⟨Ch.refl _ _,?_⟩;rw[oh h26];simp[-List.getD_eq_getElem?_getD]at b7 b8 ⊢;omega
   ·rintro _ x O ⟨G,C⟩;have Q:Pu w O:=q6.trans G;refine ab (λj=>bad _ Q ?_) (λj=>?_)
    ·rintro⟨h,z,t,s⟩;obtain⟨f,_⟩:=s.ok o u I J W;rcases f with⟨f,_⟩|⟨h',r,f,b,_⟩
     ·cases f
     ·simp[-List.getD_eq_getElem?_getD]at f;obtain⟨rfl,rfl⟩:=f;exact C.1 j b
    have b:pQ q:=Classical.not_not.1 λM=>by have:=C.2 M;rw[j]at this;cases this
    have a6:=(az.pu G).drew;have cC:m=26:=by have:=b.1;omega
    refine a6.rd (by omega) (by omega) (a6.rd (by omega) (by omega) (a6.rd (by omega) (by omega) ?_));simp only[Int.toNat_zero,Int.toNat_one,show Int.toNat 2=2 from rfl];obtain⟨aA,aC,aN,a1⟩:=b;rintro wn a7;have a7:wn=kB q:=by
     have e5:u32.wrap (u32.wrap (q.getD 0 0+q.getD 1 0)+q.getD 2 0)=q.getD 0 0+q.getD 1 0+q.getD 2 0:=by rw[Pk.u32_eq,Pk.u32_eq];omega
     rw[a7,e5,aa (x:=q.getD 0 0+q.getD 1 0+q.getD 2 0) (by omega),aa (by omega)];unfold kB;omega
    subst a7;refine⟨λx w'=>x=false/\Pu O w',?_,?_⟩
    ·refine(an.pu (G.drew)).rd0 (by omega) λB2 m2 d2 H=>?_;rw[show(([]:List (List Int))++ [q]).getD 0 []=q from rfl]at H;refine H.rd (by omega) (by have:=H.len;omega) ?_;rw[show Int.toNat 2=2 from rfl,aa (x:=q.getD 2 0) (by omega),aa (by omega)];refine af (λF=>by exfalso;simp[-List.getD_eq_getElem?_getD]at F K;omega) (λ_=>⟨rfl,Pu.aw O⟩)
    ·rintro _ _ cM ⟨rfl,q9⟩;refine bG ?_;exact⟨n - (a+(4+N)),by omega,a+(4+N),_,e3,by omega,by omega,rfl,bb,.inr ⟨q,[],rfl,⟨aA,aC,aN,a1⟩,rfl,λi p hi=>by simp[-List.getD_eq_getElem?_getD]at hi⟩,by simp[kB,-List.getD_eq_getElem?_getD];omega,(an.pu G).pu q9,Q.trans q9⟩
  ·rcases u with⟨rfl,_⟩|⟨h,r,rfl,b,rfl,R⟩
   ·simp[-List.getD_eq_getElem?_getD]at K;omega
   obtain⟨aA,aC,aN,a1⟩:=b;have b9:=(o.2 h (List.mem_cons_self ..)).1;have k2:=bJ b9 2;simp only[List.length_cons]at K I;refine⟨λx w'=>(x=true↔(2+h.getD 2 0<r.length+2/\q.length≠1024))/\Pu a5 w',?_,?_⟩
   ·refine an.rd0 (by omega) λB2 m2 d2 H=>?_;rw[show((h::r)++ [q]).getD 0 []=h from rfl]at H;refine H.rd (by omega) (by have:=H.len;omega) ?_;rw[show Int.toNat 2=2 from rfl,aa (x:=h.getD 2 0) (by omega),aa (by omega)];refine af (λF=>⟨?_,Ch.refl _ _⟩) (λF=>⟨?_,Ch.refl _ _⟩)
    ·simp[-List.getD_eq_getElem?_getD];omega
    ·simp[-List.getD_eq_getElem?_getD];intro cN;omega
   ·rintro _ x O ⟨C,G⟩;have Q:Pu w O:=q6.trans G;refine ab (λj=>bad _ Q ?_) (λj=>?_)
    ·rintro⟨h',z,t,s⟩;obtain⟨f,_⟩:=s.ok o (.inr ⟨h,r,rfl,⟨aA,aC,aN,a1⟩,rfl,R⟩) (by simp[-List.getD_eq_getElem?_getD];omega) J W;rcases f with⟨f,_⟩|⟨h2,r2,f,_,_,ca⟩
     ·cases f
     ·simp[-List.getD_eq_getElem?_getD]at f;obtain⟨rfl,rfl⟩:=f;have:=C.1 j;exact this.2 (ca r.length q (by rw[List.getElem?_append_right (Nat.le_refl _)];simp[-List.getD_eq_getElem?_getD]) (by omega))
    ·have c0:¬(2+h.getD 2 0<r.length+2/\q.length≠1024):=λM=>by have:=C.2 M;rw[j]at this;cases this
     refine⟨n - (a+(4+N)),by omega,a+(4+N),_,e3,by omega,by omega,rfl,bb,.inr ⟨h,r++ [q],rfl,⟨aA,aC,aN,a1⟩,rfl,λi p hi cb=>?_⟩,by simp[-List.getD_eq_getElem?_getD];omega,an.pu G,Q⟩;by_cases cc:i<r.length
     ·exact R i p (by rwa[List.getElem?_append_left cc]at hi) cb
     ·rw[List.getElem?_append_right (by omega)]at hi;have:i - r.length=0:=by
       cases e:i - r.length with
       |zero=>rfl
       |succ k=>rw[e]at hi;simp[-List.getD_eq_getElem?_getD]at hi
      rw[this]at hi;simp[-List.getD_eq_getElem?_getD]at hi;subst hi;omega
 ·refine⟨_,_,_,_,rfl,S,?_⟩;have bc:ps≠ []:=by
   rintro rfl;rcases u with⟨_,rfl⟩|⟨h,r,f,_⟩
   ·simp[-List.getD_eq_getElem?_getD]at K;omega
   ·cases f
  have hlen:(ps.length:Int)=want:=by omega
  rcases u with⟨rfl,_⟩|⟨h,r,rfl,b,rfl,R⟩
  ·exact absurd rfl bc
  by_cases h4:(a:Int)+4=n
  ·refine .inl ⟨by simpa using h4,h,r,l.drop a,⟨o,by omega,b.1,⟨b.2.1,b.2.2.1,b.2.2.2⟩,by simp[-List.getD_eq_getElem?_getD]at hle K;omega,R⟩,ho.nl⟩
  ·refine .inr ⟨by simpa using h4,?_⟩;rintro⟨h',z,t,s⟩;obtain⟨rs,_,h2,h3⟩:=s.full o (.inr ⟨h,r,rfl,b,rfl,R⟩) (by omega);have h3:=h3 bc;have cf:rs= []:=List.eq_nil_of_length_eq_zero (by omega);subst cf;have:=h2.1;simp[-List.getD_eq_getElem?_getD]at this;have ht:=s.t4;rw[<-this]at ht;omega
end Go.Proofs.YtoghdgcmhbanbaaGreatDoor
end
section
set_option maxRecDepth 100000
set_option maxHeartbeats 2000000
namespace Go.Proofs.YtoghdgcmhbanbaaGreatDoor
open Go Go.RowKit V Pk
open Go.IntKind (i64 u32 u64 wrap_i64 wrap_u32)
theorem Cl {h db:List Int}{ss pgs:List (List Int)}(a:pQ h)(f:(ss.length:Int)=h.getD 2 0)(b:∀p∈pgs,p.length=1024):Pts (h::(ss++db::pgs)) (kB h):=
 .inr ⟨h,_,rfl,a,rfl,λi p hi j=>by
  rw[List.getElem?_append_right (by omega)]at hi;obtain⟨k,d⟩:∃k,i - ss.length=k+1:=⟨i - ss.length - 1,by omega⟩;rw[d,List.getElem?_cons_succ]at hi;exact b p (List.mem_of_getElem? hi)⟩
theorem DO {h:List Int}{ss:List (List Int)}(a:pQ h)(b:(ss.length:Int)<=h.getD 2 0):Pts (h::ss) (kB h):=
 .inr ⟨h,_,rfl,a,rfl,λi p hi d=>by have:=(List.getElem?_eq_some_iff.1 hi).1;omega⟩
theorem pw {w:World}{g a:Nat}{T x:TypeId}{d f h i:Option Addr}{j o p q r s t u:Nat}{y:Array Value}(b:Blk w a #[.slice d j o,.slice f p q,.slice h r s,.slice i t u] T)(b0:Blk w g y x)(a4:y.size=4){ok:Bool}{R:aK}
 (hR:∀w2,br w g #[.slice d j o,.slice f p q,.slice h r s,.slice i t u] x w2->R (.tuple #[.agg #[.slice d j o,.slice f p q,.slice h r s,.slice i t u],.bool ok]) w2):
 ∃z:oA,∃B C:Nat,∃E:oA,∃F G:Nat,∃H:oA,∃I J:Nat,∃K:oA,∃M N:Nat,(w.cell? ((vA a).add 0)=some (.slice z B C)/\w.cell? ((vA a).add 1)=some (.slice E F G)/\w.cell? ((vA a).add 2)=some (.slice H I J)/\w.cell? ((vA a).add 3)=some (.slice K M N))/\
 ao w (vA g) [(.slice z B C),(.slice E F G),(.slice H I J),(.slice K M N)] λw8=>
 ∃O:oA,∃Q S:Nat,∃U:oA,∃V W:Nat,∃an:oA,∃az a0:Nat,∃a1:oA,∃a2 a3:Nat,(w8.cell? ((vA g).add 0)=some (.slice O Q S)/\w8.cell? ((vA g).add 1)=some (.slice U V W)/\w8.cell? ((vA g).add 2)=some (.slice an az a0)/\w8.cell? ((vA g).add 3)=some (.slice a1 a2 a3))/\
 R (.tuple #[(.agg #[(.slice O Q S),(.slice U V W),(.slice an az a0),(.slice a1 a2 a3)]),vB ok]) w8:=by
 refine⟨_,_,_,_,_,_,_,_,_,_,_,_,⟨b.at rfl,b.at rfl,b.at rfl,b.at rfl⟩,aI b0 a4.symm λw2 s2=>?_⟩;have c:=s2.blk;exact⟨_,_,_,_,_,_,_,_,_,_,_,_,⟨c.at rfl,c.at rfl,c.at rfl,c.at rfl⟩,hR w2 s2⟩
def II(l:List Int)(w:World)(v:Value)(w':World):Prop:=∃a b d f i j o p q r s u ok,v=.tuple #[.agg #[.slice a b d,.slice f i j,.slice o p q,.slice r s u],.bool ok]/\Pu w w'/\((ok=true/\∃h ss db pgs t,Snp l h (ss++db::pgs) t/\(ss.length:Int)=h.getD 2 0/\aD w' (up w) .u32 a b d h/\aD w' (up w) .u32 f i j db/\NL w' (up w) o p q ss/\NL w' (up w) r s u pgs)\/(ok=false/\¬∃h x t,Snp l h x t))
theorem Ed {w:World}{b f i j:Option Addr}{a d o p q r s t:Nat}{Z:Nat->Prop}{h:List Int}(hi:aD w Z .u32 b a d h)(h26:a=26)(hw:Wd h):
 Calls Tryz.prog 44 #[.agg #[.slice b a d,.slice f o p,.slice i q r,.slice j s t]] w λe w'=>∃v,e=.returned v/\v=.int .i64 (h.getD 0 0)/\Pu w w':=by
 refine ur _ _ _ _ _ _ _ _ _ _ _ _ (mkd λg w1 m=>⟨_,_,_,m.blk.at rfl,(hi.pu m.pu).rd (by omega) (by omega) ⟨?_,m.pu⟩⟩);have:=bJ hw 0;rw[Int.toNat_zero,aa (by omega)]
theorem tC {w:World}{b f i j:Option Addr}{a d o p q r s t:Nat}{Z:Nat->Prop}{h:List Int}(hi:aD w Z .u32 b a d h)(h26:a=26)(hw:Wd h):
 Calls Tryz.prog 45 #[.agg #[.slice b a d,.slice f o p,.slice i q r,.slice j s t]] w λe w'=>∃v,e=.returned v/\v=.int .i64 (h.getD 1 0)/\Pu w w':=by
 refine pI _ _ _ _ _ _ _ _ _ _ _ _ (mkd λg w1 m=>⟨_,_,_,m.blk.at rfl,(hi.pu m.pu).rd (by omega) (by omega) ⟨?_,m.pu⟩⟩);have:=bJ hw 1;rw[Int.toNat_one,aa (by omega)]
theorem aY {w1 w2:World}{Z:Nat->Prop}{l:List Nat}(a:∀k,Z k->k<w1.heap.size)(q:Pu w1 w2):Kept (aX (λ_ k=>Z k) l) w1 w2:=
 q.kept.mono λk b=>⟨a k (iE b),λh=>h⟩
theorem JZ {A:Option Addr}{n c:Nat}{l:List Int}{Z:Nat->Prop}{w:World}(h:aD w Z .u8 A n c l)(hm:n<=140737488355328)(b6:Bt l):
 Calls Tryz.prog 43 #[.slice A n c] w λe w'=>∃v,e=.returned v/\II l w v w':=by
 have hl:=h.len;refine vc _ _ _ (mkd λJ w0 m0=>mkd λz w1 m1=>?_);have p1:Pu w w1:=(show Pu w w0 from m0.pu).made m1;have n0:=m0.num;have n1:=m1.num;have z0:=m0.size;have z1:=m1.size;have bad:∀ {w5:World}{i R B pA:Option Addr}{o u K C E F pN pC:Nat}{b7:Array Value}{T0:TypeId},Blk w5 J b7 T0->b7.size=4->Pu w w5->(¬∃h y t,Snp l h y t)->∀w2,br w5 J #[.slice i o u,.slice R K C,.slice B E F,.slice pA pN pC] T0 w2->II l w (.tuple #[.agg #[.slice i o u,.slice R K C,.slice B E F,.slice pA pN pC],.bool false]) w2:=
  λ_ _ q hn w2 s=>⟨_,_,_,_,_,_,_,_,_,_,_,_,_,rfl,q.stored s (.inr (by omega)),.inr ⟨rfl,hn⟩⟩
 have a2:J≠z:=by omega
 refine(Ep h p1 hm b6).mono ?_;rintro e w2 ⟨_,rfl,i,o,u,rA,rN,rC,ok,rfl,q2,ck,M⟩;have p2:Pu w w2:=p1.trans q2;refine⟨i,o,u,rA,rN,rC,ok,rfl,?_⟩;refine aL (Pu.blk q2 m1.blk) (by show 0+1<=4;omega) λw3 s3=>?_;have b0:Blk w3 J _ _:=s3.old (Pu.blk q2 (m1.old m0.blk)) a2;have S:Blk w3 z #[.slice i o u,.slice none 0 0,.slice none 0 0,.slice none 0 0] _:=s3.blk.cast rfl;have p3:Pu w w3:=p2.stored s3 (.inr (by omega));have c3:Ch (λk=>k=z) w2 w3:=s3.ch;have z3:=p3.size;have dC:w1.heap.size<=w3.heap.size:=Nat.le_trans q2.size c3.size;rcases M.symm with⟨rfl,an⟩|⟨rfl,hd,r,hg,he,hi,hr⟩
 ·have ct:¬∃h y t,Snp l h y t:=fun⟨G,y,t,s⟩=>an ⟨G,_,s.sh.head⟩;refine⟨λx w'=>x=true/\w3=w',aU ⟨rfl,rfl⟩,?_⟩;rintro _ _ _ ⟨rfl,rfl⟩;exact aU (pw S b0 rfl (bad b0 rfl p3 ct))
 have hi:aD w3 (λk=>w1.heap.size<=k/\k<w3.heap.size) .u32 i o u hd:=(hi.ch c3 λk a e=>by have a:w1.heap.size<=k:=a;omega).lt;have dN:=hi.len;have cA:Shape l [hd] r:=(Shape.nil l).snoc hg he;have e0:=bJ hg.1 0;have e1:=bJ hg.1 1;have e2:=bJ hg.1 2;refine⟨λx w'=>(x=true↔¬pQ hd)/\w3=w',?_,?_⟩
 ·refine bG ⟨_,_,_,S.at rfl,aG (λh26=>⟨by simp[pQ,-List.getD_eq_getElem?_getD];omega,rfl⟩) (λh26=>?_)⟩;have h26:hd.length=26:=by omega
  refine⟨_,_,_,S.at rfl,hi.rd (by omega) (by omega) (af (λhc=>⟨by rw[oh h26];simp at hc ⊢;omega,rfl⟩) (λcC=>?_))⟩;refine⟨_,_,_,S.at rfl,hi.rd (by omega) (by omega) (af (λhc=>⟨by rw[oh h26];simp at hc ⊢;omega,rfl⟩) (λcM=>?_))⟩;refine⟨_,_,_,S.at rfl,hi.rd (by omega) (by omega) ⟨?_,rfl⟩⟩;rw[oh h26];simp at cC cM ⊢;omega
 rintro _ x _ ⟨hx,rfl⟩;refine ab (λhb=>pw S b0 rfl (bad b0 rfl p3 ?_)) (λhb=>?_)
 ·rintro⟨G,y,t,s⟩;obtain rfl:G=hd:=(pR s.sh.head.1 hg (s.sh.head.2.symm.trans he)).1;exact hx.1 hb ⟨s.h26,s.le⟩
 have hh:pQ hd:=Classical.not_not.1 λhn=>by have:=hx.2 hn;rw[hb]at this;cases this
 have cN:=hh;obtain⟨h26,l0,l1,l2⟩:=cN;refine⟨_,_,_,S.at rfl,hi.rd (by omega) (by omega) ?_⟩;rw[show Int.toNat 2=2 from rfl];have ba:∀ {ps t},Shape l ps t->Bt t:=λs x hx=>b6 x (by rw[s.1];exact List.mem_append_right _ hx);have b8:∀ {ps t},Shape l ps t->t.length<=l.length:=λs=>by have:=congrArg List.length s.1;rw[List.length_append]at this;omega
 refine⟨λm R K C x w'=>∃(j:Nat)(ss:List (List Int))(rest:List Int)(B:oA)(E F:Nat),x=(j:Int)/\(j:Int)<=hd.getD 2 0/\m=(hd.getD 2 0).toNat - j/\ss.length=j/\Shape l (hd::ss) rest/\aD w Z .u8 R K C rest/\C<=c/\
  Blk w' J _ _/\Blk w' z #[.slice i o u,.slice none 0 0,.slice B E F,.slice none 0 0] _/\ONL w3 w' B E F ss/\aD w' (λk=>w1.heap.size<=k/\k<w3.heap.size) .u32 i o u hd/\w3.heap.size<=w'.heap.size/\Pu w w',⟨_,0,[],r,none,0,0,rfl,by omega,rfl,rfl,cA,hr,ck,b0,S,ONL.nil,hi,Nat.le_refl _,p3⟩,?_⟩
 rintro m _ R K C x w5 ⟨j,ss,rest,B,E,F,rfl,hj,rfl,c0,az,a3,c1,d0,d1,H,bb,a4,p5⟩;have c2:=b8 az;have c4:=a3.len;have c5:=H.len;refine af (λc6=>?_) (λc9=>?_)
 ·refine(Ep a3 p5 (by omega) (ba az)).mono ?_;rintro e w6 ⟨_,rfl,xA,xN,xC,yA,yN,yC,ok,rfl,d,b9,M⟩;refine⟨_,_,_,_,_,_,_,rfl,?_⟩;have d0:=Pu.blk d d0;have d1:=Pu.blk d d1;rcases M.symm with⟨rfl,an⟩|⟨rfl,q,r2,bc,a5,bd,bg⟩
  ·exact aU (pw d1 d0 rfl (bad d0 rfl (p5.trans d) fun⟨G,y,t,s⟩=>by
    obtain⟨q,rs,_,a0,e⟩:=s.next az (DO hh (by omega)) (by simp only[List.length_cons];unfold kB;omega);exact an ⟨q,_,a0,e⟩))
  ·refine bG ⟨_,_,_,d1.at rfl,mkd λg4 b m7=>?_⟩;refine(H.pu d).app (Nat.le_trans a4 d.size) (H.fresh a4 bd) m7 (by omega) λA7 c7 w8 bl _ f=>?_;have N:∀k,k<w3.heap.size->¬up w3 k:=λk a h=>absurd a (Nat.not_lt.2 h);have f1:=f.blk (m7.old d1) (N z (by omega));have f0:=f.blk (m7.old d0) (N J (by omega));refine aL f1 (by show 2+1<=4;omega) λw9 s9=>?_;have da:w6.heap.size<=w9.heap.size:=by have:=m7.size;have:=f.size;have:=(s9.ch).size;omega
   exact⟨(hd.getD 2 0).toNat - (j+1),by omega,j+1,ss++ [q],r2,A7,_,c7,by rw[Pk.u32_eq];omega,by omega,rfl,by simp[c0],az.snoc bc a5,bg,by omega,s9.old f0 a2,s9.blk.cast rfl,bl.ch s9.ch (λk h1 _ e=>by omega),
    (((bb.pu d).pu m7.pu).ch f λk a=>N k a.2).ch s9.ch λk a e=>by omega,Nat.le_trans a4 (Nat.le_trans d.size da),((((p5.trans d).made m7).call f λk a=>.inr (Nat.le_trans z3 a))).stored s9 (.inr (by omega))⟩
 have a6:(ss.length:Int)=hd.getD 2 0:=by omega
 refine(Ep a3 p5 (by omega) (ba az)).mono ?_;rintro e w6 ⟨_,rfl,xA,xN,xC,yA,yN,yC,ok,rfl,d,b9,M⟩;refine⟨_,_,_,_,_,_,_,rfl,?_⟩;have dT:w3.heap.size<=w6.heap.size:=Nat.le_trans a4 d.size;refine aL (Pu.blk d d1) (by show 1+1<=4;omega) λb s7=>?_;have d0:=s7.old (Pu.blk d d0) a2;have d1:Blk b z #[.slice i o u,.slice xA xN xC,.slice B E F,.slice none 0 0] _:=s7.blk.cast rfl;have p7:Pu w b:=(p5.trans d).stored s7 (.inr (by omega));have ea:=s7.ch.size;have z7:=p7.size;rcases M.symm with⟨rfl,an⟩|⟨rfl,db,r2,bc,a5,bd,bg⟩
 ·exact aU (pw d1 d0 rfl (bad d0 rfl p7 fun⟨G,y,t,s⟩=>by
   obtain⟨q,rs,_,a0,e⟩:=s.next az (DO hh (by omega)) (by simp only[List.length_cons];unfold kB;omega);exact an ⟨q,_,a0,e⟩))
 refine bG ?_;have dc:Shape l (hd::(ss++ [db])) r2:=az.snoc bc a5;have kI:aD b (λk=>w1.heap.size<=k/\k<b.heap.size) .u32 i o u hd:=((bb.pu d).ch s7.ch λk a e=>by omega).mono λk a=>⟨a.1,by omega⟩;have kD:aD b (λk=>w1.heap.size<=k/\k<b.heap.size) .u32 xA xN xC db:=(bd.ch s7.ch λk a e=>by have a:w5.heap.size<=k:=a;omega).lt.mono λk a=>⟨by have h1:w5.heap.size<=k:=a.1;omega,a.2⟩;have kS:NL b (λk=>w1.heap.size<=k/\k<b.heap.size) B E F ss:=((H.pu d).ch s7.ch (λk h1 _ e=>by omega)).nl.mono λk a=>⟨by omega,a.2⟩;refine⟨λ_ k=>k<b.heap.size,by show z<_;exact d1.lt,?_⟩;have O:=Pu.blk (Pu.aw b) d1;refine⟨_,_,_,_,_,_,_,_,_,_,_,_,⟨O.at rfl,O.at rfl,O.at rfl,O.at rfl⟩,by show z<_;exact d1.lt,_,_,_,_,_,_,_,_,_,_,_,_,⟨O.at rfl,O.at rfl,O.at rfl,O.at rfl⟩,?_⟩;refine(Ed (kI.drew) (by omega) hg.1).mono ?_;rintro e w8 ⟨_,rfl,rfl,q8⟩;refine⟨_,rfl,aY (λk a=>a) q8,_,λ_ _ h=>h,?_⟩;refine(tC ((kI.drew).pu q8) (by omega) hg.1).mono ?_;rintro e w9 ⟨_,rfl,rfl,q9⟩;refine⟨_,rfl,aY (λk a=>Nat.lt_of_lt_of_le a q8.size) q9,_,λ_ _ h=>h,?_⟩;have U:Pu b w9:=((Pu.aw b).trans q8).trans q9;rw[aa (by omega)];refine⟨λm R K C x w'=>∃(j:Nat)(pgs:List (List Int))(rest:List Int)(pA:oA)(pN pC:Nat),x=(j:Int)/\(j:Int)<=hd.getD 0 0+hd.getD 1 0/\m=(hd.getD 0 0+hd.getD 1 0).toNat - j/\pgs.length=j/\(∀p∈pgs,p.length=1024)/\Shape l (hd::(ss++db::pgs)) rest/\aD w Z .u8 R K C rest/\C<=c/\
  Blk w' J _ _/\Blk w' z #[.slice i o u,.slice xA xN xC,.slice B E F,.slice pA pN pC] _/\ONL b w' pA pN pC pgs/\aD w' (λk=>w1.heap.size<=k/\k<b.heap.size) .u32 i o u hd/\aD w' (λk=>w1.heap.size<=k/\k<b.heap.size) .u32 xA xN xC db/\NL w' (λk=>w1.heap.size<=k/\k<b.heap.size) B E F ss/\b.heap.size<=w'.heap.size/\Pu w w',
  ⟨_,0,[],r2,none,0,0,rfl,by omega,rfl,rfl,(λp Q=>by cases Q),dc,bg,by omega,Pu.blk U d0,Pu.blk U d1,ONL.nil,kI.pu U,kD.pu U,kS.pu U,U.size,p7.trans U⟩,?_⟩
 clear O q8 q9 U a3 c1 H bb M a5;rintro m _ R K C x wa ⟨j2,pgs,ca,pA,pN,pC,rfl,eb,rfl,dd,a7,a1,cb,ec,d0,d1,H,kI,kD,kS,bs,pa⟩;have c2:=b8 a1;have c4:=cb.len;have c5:=H.len;refine af (λc6=>?_) (λc9=>?_)
 ·refine(Ep cb pa (by omega) (ba a1)).mono ?_;rintro e wb ⟨_,rfl,uA,uN,uC,yA,yN,yC,ok,rfl,I,b9,M⟩;refine⟨_,_,_,_,_,_,_,rfl,?_⟩;have d0:=Pu.blk I d0;have d1:=Pu.blk I d1;have dk:∀ {G y t},Snp l G y t->∃q rs,G::y=(hd::(ss++db::pgs))++q::rs/\eD q/\ca=Fr q++(rs.flatMap Fr++t):=λs=>s.next a1 (Cl hh a6 a7) (by simp only[List.length_cons,List.length_append];unfold kB;omega);refine⟨λx w'=>(x=true↔¬(ok=true/\uN=1024))/\wb=w',?_,?_⟩
  ·cases ok
   ·exact aU ⟨by simp,rfl⟩
   ·refine bG ⟨?_,rfl⟩;simp;omega
  rintro _ x _ ⟨cc,rfl⟩;refine ab (λhb=>pw d1 d0 rfl (bad d0 rfl (pa.trans I) fun⟨G,y,t,s⟩=>?_)) (λhb=>?_)
  ·obtain⟨q,rs,cf,a0,e⟩:=dk s;rcases M.symm with⟨rfl,an⟩|⟨rfl,q',r3,b2,b3,a8,cg⟩
   ·exact an ⟨q,_,a0,e⟩
   ·obtain⟨rfl,_⟩:=pR b2 a0 (b3.symm.trans e);simp only[List.cons_append,List.cons.injEq]at cf;obtain⟨rfl,rfl⟩:=cf;have:=s.pgs (ss.length+1+pgs.length) q' (by rw[List.getElem?_append_right (by simp;omega)];simp;rw[show ss.length+1+pgs.length - (ss.length+(pgs.length+1))=0 by omega];rfl) (by omega);have:=a8.len;exact cc.1 hb ⟨rfl,by omega⟩
  ·have dp:ok=true/\uN=1024:=Classical.not_not.1 λhn=>by have:=cc.2 hn;rw[hb]at this;cases this
   obtain⟨rfl,hu⟩:=dp;rcases M.symm with⟨h0,_⟩|⟨_,q,r3,b2,b3,a8,cg⟩
   ·cases h0
   refine⟨_,_,_,d1.at rfl,mkd λg4 wc V=>?_⟩;refine(H.pu I).app (Nat.le_trans bs I.size) (H.fresh bs a8) V (by omega) λA8 c8 wd bl _ f=>?_;have N:∀k,k<b.heap.size->¬up b k:=λk a h=>absurd a (Nat.not_lt.2 h);have f1:=f.blk (V.old d1) (N z (by omega));have f0:=f.blk (V.old d0) (N J (by omega));refine aL f1 (by show 3+1<=4;omega) λwe W=>?_;have dr:wb.heap.size<=we.heap.size:=by have:=V.size;have:=f.size;have:=W.ch.size;omega
   have ed:=a8.len;exact⟨(hd.getD 0 0+hd.getD 1 0).toNat - (j2+1),by omega,j2+1,pgs++ [q],r3,A8,_,c8,by rw[aa (by omega)];omega,by omega,rfl,by simp[dd],λp Q=>by
    rcases List.mem_append.1 Q with Q|Q
    ·exact a7 p Q
    ·rw[List.mem_singleton.1 Q];omega,by have:=a1.snoc b2 b3;simpa using this,cg,by omega,W.old f0 a2,W.blk.cast rfl,bl.ch W.ch (λk h1 _ e=>by omega),
    (((kI.pu I).pu V.pu).ch f λk a=>N k a.2).ch W.ch (λk a e=>by omega),(((kD.pu I).pu V.pu).ch f λk a=>N k a.2).ch W.ch (λk a e=>by omega),(((kS.pu I).pu V.pu).ch f λk a=>N k a.2).ch W.ch (λk a e=>by omega),
    Nat.le_trans bs (Nat.le_trans I.size dr),(((pa.trans I).made V).call f λk a=>.inr (Nat.le_trans z7 a)).stored W (.inr (by omega))⟩
 ·have b4:∀k,w1.heap.size<=k/\k<b.heap.size->up w k:=λk a=>Nat.le_trans p1.size a.1;refine pw d1 d0 rfl λwb sb=>?_;have a9:=sb.ch;have b5:∀k,w1.heap.size<=k->¬k=J:=λk a e=>by omega
  refine⟨_,_,_,_,_,_,_,_,_,_,_,_,_,rfl,pa.stored sb (.inr (by omega)),?_⟩;have cj:((hd::(ss++db::pgs)).length:Int)=kB hd:=by simp only[List.length_cons,List.length_append];unfold kB;omega
  by_cases h4:(K:Int)=4
  ·refine .inl ⟨by simpa using h4,hd,ss,db,pgs,ca,⟨a1,by omega,h26,⟨l0,l1,l2⟩,by simp only[List.length_cons,List.length_append]at cj ⊢;unfold kB at cj;omega,?_⟩,a6,(kI.ch a9 λk a=>b5 k a.1).mono b4,(kD.ch a9 λk a=>b5 k a.1).mono b4,(kS.ch a9 λk a=>b5 k a.1).mono b4,((H.ch a9 λk h1 _ e=>by omega).nl).mono λk a=>Nat.le_trans z7 a.1⟩;rcases Cl (db:=db) hh a6 a7 with⟨h0,_⟩|⟨h0,r0,e,_,_,Q⟩
   ·cases h0
   ·simp only[List.cons.injEq]at e;obtain⟨rfl,rfl⟩:=e;exact Q
  ·refine .inr ⟨by simpa using h4,?_⟩;rintro⟨G,y,t,s⟩;obtain⟨rs,_,h2,h3⟩:=s.full a1 (Cl hh a6 a7) (by omega);have h3:=h3 (by simp);have dA:rs= []:=List.eq_nil_of_length_eq_zero (by omega);subst dA;have:=h2.1;simp at this;have ht:=s.t4;rw[<-this]at ht;omega
end Go.Proofs.YtoghdgcmhbanbaaGreatDoor
end
section
set_option maxRecDepth 100000
namespace Go.Proofs.YtoghdgcmhbanbaaGreatDoor
open Go Go.RowKit V
open Go.IntKind (i64 u32 u64 wrap_i64 wrap_u32)
open Go.Proofs (Tryz.prog)
theorem yT(n:Int){R:aK}{w:World}(h:∀p:Int,p=1->∀i:Int,i=0->∃I:Nat->Int->Int->World->Prop,(∃m,I m p i w)/\∀(m:Nat)(_gv:Nat->Value)(a i1:Int),∀b,I m a i1 b->split (decide ((i1:Int)<n)) (∀d:Int,d=(i64.wrap (2*a))->∀i2:Int,i2=(i64.wrap (i1+1))->∃f,f<m/\I f d i2 b) (R (J a) b)):Calls Tryz.prog 133 #[J n] w (aT R):=rvc [3,4] (aq (aq (.node none (aq (.node none (.node (some ⟨[(3,.one (.int .i64)),(4,.one (.int .i64))],(rgN 3 9)⟩) .leaf .leaf) .leaf)) .leaf))) Tryz.func133 h
theorem uG(E:oA)(au Q:Nat){R:aK}{w:World}(h:∀i:Int,i=0->∃I:Nat->Option Addr->Nat->Nat->Int->World->Prop,(∃m,I m none 0 0 i w)/\∀(m:Nat)(_gv:Nat->Value)(j:oA)(o p:Nat)(i1:Int),∀a,I m j o p i1 a->split (decide ((i1:Int)<((au:Nat):Int))) ((0<=(i1:Int)/\(i1:Int)<((au:Nat):Int))/\ai E λS=>∃F:Int,a.cell? (S.add (Int.toNat i1*1))=some (O F)/\∀n:Int,n=(i64.wrap F)->∃b:bP,Calls Tryz.prog 133 #[J 24] a.drew λe q=>∃r:Int,e=.returned (J r)/\Kept (aX b [0,1,5,10,15,16,17]) a.drew q/\∃s:bP,(∀i k,b i k->s i k)/\nz r (Calls Tryz.prog 133 #[J 16] q λe t=>∃u:Int,e=.returned (J u)/\Kept (aX s [0,1,3,4,5,10,15,16,17]) q t/\∃x:bP,(∀i k,s i k->x i k)/\nz u (Calls Tryz.prog 133 #[J 8] t λe d=>∃y:Int,e=.returned (J y)/\Kept (aX x [0,1,3,4,5,7,8,9,10,15,16,17]) t d/\∃z:bP,(∀i k,x i k->z i k)/\nz y (∀(G:Nat)(f:World),G=d.heap.size->f=d.alloc (.cells #[vY (IntKind.u8.wrap (i64.wrap ((n:Int).tdiv r))),vY (IntKind.u8.wrap ((i64.wrap ((n:Int).tdiv u):Int).tmod 256)),vY (IntKind.u8.wrap ((i64.wrap ((n:Int).tdiv y):Int).tmod 256)),vY (IntKind.u8.wrap ((n:Int).tmod 256))] 5)->Kept (aX z [0,5,6,10,11]) d f/\∃B:bP,(∀i k,z i k->B i k)/\∃H:oA,∃K M:Nat,∃C,(Builtin.append_ #[27,27] 27 #[(.slice j o p),(.slice (pvA G) 4 4)]:Sem Value).run Tryz.prog f=.ok (.slice H K M) C/\Kept (aX B [1,5,7,10,12,15]) f C/\∃U:bP,(∀i k,B i k->U i k)/\∀i2:Int,i2=(i64.wrap (i1+1))->∃N,N<m/\I N H K M i2 C)))) (R (.slice j o p) a)):Calls Tryz.prog 103 #[(.slice E au Q)] w (aT R):=rvc [3,4,5] (aq (aq (.node none (aq (.node none (.node (some ⟨[(3,.one (.slice)),(4,.one (.int .i64))],(rgN 3 34)⟩) .leaf .leaf) .leaf)) .leaf))) Tryz.func103 h
theorem pP(u:oA)(x bC:Nat)(i:Int){R:aK}{w:World}(h:∀(r:Nat)(s:World),r=w.heap.size->s=w.alloc (.cells (Mg) 205)->∀(o:Nat)(y:World),o=s.heap.size->y=s.alloc (.cells (Mg) 205)->∀j:Int,j=0->∃I:Nat->Int->World->Prop,(∃m,I m j y)/\∀(m:Nat)(_gv2:Nat->Value)(a:Int),∀p,I m a p->split (decide ((a:Int)<16)) (∀k:Int,k=0->∃t:Nat->Int->World->Prop,(∃q,t q k p)/\∀(q:Nat)(_gv3:Nat->Value)(f:Int),∀d,t q f d->split (decide ((f:Int)<4)) (∃b:bP,(0<=(a:Int)/\(a:Int)<((16:Nat):Int))/\b 3 (((vA o).add (Int.toNat a*1)).block)/\∃z:Int,d.drew.cell? ((vA o).add (Int.toNat a*1))=some (O z)/\(0<=(i64.wrap ((i64.wrap (i+(i64.wrap (4*a))))+f):Int)/\(i64.wrap ((i64.wrap (i+(i64.wrap (4*a))))+f):Int)<((x:Nat):Int))/\ai u λB=>b 13 ((B.add (Int.toNat (i64.wrap ((i64.wrap (i+(i64.wrap (4*a))))+f))*1)).block)/\∃C:Int,d.drew.cell? (B.add (Int.toNat (i64.wrap ((i64.wrap (i+(i64.wrap (4*a))))+f))*1))=some (vY C)/\(0<=(a:Int)/\(a:Int)<((16:Nat):Int))/\ao d.drew ((vA o).add (Int.toNat a*1)) [O (u32.wrap ((u32.wrap (z*256))+(u32.wrap C)))] λb3=>∃b1:bP,(∀i k,b i k->b1 i k)/\∀E:Int,E=(i64.wrap (f+1))->∃F,F<q/\t F E b3) (∀G:Int,G=(i64.wrap (a+1))->∃H,H<m/\I H G d)) (∃K M N Q S U V W an az aA aC aN a0 a1 a2:Int,ar p (vA o) 0 [O K,O M,O N,O Q,O S,O U,O V,O W,O an,O az,O aA,O aC,O aN,O a0,O a1,O a2]/\ao p (vA r) (Nm K M N Q S U V W an az aA aC aN a0 a1 a2) λd=>∃a3 a4 a5 a6 a7 a8 a9 ba bb bc bd bg bl bs b0 b2:Int,ar d (vA r) 0 [O a3,O a4,O a5,O a6,O a7,O a8,O a9,O ba,O bb,O bc,O bd,O bg,O bl,O bs,O b0,O b2]/\R (.agg (iK a3 a4 a5 a6 a7 a8 a9 ba bb bc bd bg bl bs b0 b2)) d)):Calls Tryz.prog 161 #[(.slice u x bC),J i] w (aT R):=rvc [6,7] (aq (aq (.node none (aq (.node none (.node (some ⟨[(6,.one (.int .i64))],(rgN 6 27)⟩) (aq (.node none (.node none (aq (.node none (.node (some ⟨[(7,.one (.int .i64))],[7,12,13,14,15,16,17,18,19,20,21,22,23,24,25,26,27,28,29,30,31,32]⟩) .leaf .leaf) .leaf)) .leaf) .leaf)) .leaf) .leaf)) .leaf))) Tryz.func161 h
theorem uE(G H K M N Q S U:Int)(V:oA)(W an:Nat)(n:Int){R:aK}{w:World}(h:∀(j:Nat)(t:World),j=w.heap.size->t=w.alloc (.cells (q8a G H K M N Q S U) 54)->∀(u:Nat)(az:World),u=t.heap.size->az=t.alloc (.cells (z8a) 54)->∃aA:oA,∃aC aN:Nat,∃x,(Builtin.append_ #[27,27] 27 #[(.slice none 0 0),(.slice V W an)]:Sem Value).run Tryz.prog az=.ok (.slice aA aC aN) x/\∀(a0:Nat)(a1:World),a0=x.heap.size->a1=x.alloc (.cells #[vY 128] 5)->∃a2:oA,∃a3 a4:Nat,∃a5,(Builtin.append_ #[27,27] 27 #[(.slice aA aC aN),(.slice (pvA a0) 1 1)]:Sem Value).run Tryz.prog a1=.ok (.slice a2 a3 a4) a5/\∃I:Nat->Option Addr->Nat->Nat->World->Prop,(∃m,I m a2 a3 a4 a5)/\∀(m:Nat)(_gv3:Nat->Value)(y:oA)(o z:Nat),∀p,I m y o z p->split (((((o:Nat):Int):Int).tmod 64:Int) !=56) (∀(a6:Nat)(f:World),a6=p.heap.size->f=p.alloc (.cells #[vY 0] 5)->∃a7:oA,∃a8 a9:Nat,∃a,(Builtin.append_ #[27,27] 27 #[(.slice y o z),(.slice (pvA a6) 1 1)]:Sem Value).run Tryz.prog f=.ok (.slice a7 a8 a9) a/\∃m1,m1<m/\I m1 a7 a8 a9 a) (∀i:Int,i=7->∃B:Nat->Option Addr->Nat->Nat->Int->World->Prop,(∃q,B q y o z i p)/\∀(q:Nat)(_gv4:Nat->Value)(C:oA)(r E:Nat)(i1:Int),∀f,B q C r E i1 f->split (decide ((i1:Int)>=0)) (fY (u64.wrap (i64.wrap (8*i1))) λer=>∀(ba:Nat)(a:World),ba=f.heap.size->a=f.alloc (.cells #[vY (IntKind.u8.wrap ((u64.wrap (n*8):Int).fdiv (2 ^ (min er u64.bits))))] 5)->∃bb:oA,∃bc bd:Nat,∃d,(Builtin.append_ #[27,27] 27 #[(.slice C r E),(.slice (pvA ba) 1 1)]:Sem Value).run Tryz.prog a=.ok (.slice bb bc bd) d/\∀i2:Int,i2=(i64.wrap (i1 - 1))->∃m3,m3<q/\B m3 bb bc bd i2 d) (∀i2:Int,i2=0->∃F:Nat->Int->World->Prop,(∃s,F s i2 f)/\∀(s:Nat)(_gv5:Nat->Value)(i3:Int),∀a,F s i3 a->split (decide ((i3:Int)<((r:Nat):Int))) (∃b:bP,b 0 ((vA j).block)/\∃bg bl bs b0 b4 b5 b6 b7:Int,ar a.drew (vA j) 0 [O bg,O bl,O bs,O b0,O b4,O b5,O b6,O b7]/\Calls Tryz.prog 161 #[(.slice C r E),J i3] a.drew λe d=>∃b8 b9 ca cb cc cf cg cj ck ct cA cC cM cN c0 c1:Int,e=.returned (.agg (iK b8 b9 ca cb cc cf cg cj ck ct cA cC cM cN c0 c1))/\Kept (aX b [0]) a.drew d/\∃b1:bP,(∀i k,b i k->b1 i k)/\Calls Tryz.prog 160 #[(.agg (q8a bg bl bs b0 b4 b5 b6 b7)),(.agg (iK b8 b9 ca cb cc cf cg cj ck ct cA cC cM cN c0 c1))] d λe et=>∃c2 c3 c4 c5 c6 c7 c8 c9:Int,e=.returned (.agg (q8a c2 c3 c4 c5 c6 c7 c8 c9))/\∃b2:bP,(∀i k,b1 i k->b2 i k)/\ao et (vA j) (q8l c2 c3 c4 c5 c6 c7 c8 c9) λey=>∃b3:bP,(∀i k,b2 i k->b3 i k)/\∀i4:Int,i4=(i64.wrap (i3+64))->∃m5,m5<s/\F m5 i4 ey) (∃da dc dd dk dp dr dA dC:Int,ar a (vA j) 0 [O da,O dc,O dd,O dk,O dp,O dr,O dA,O dC]/\ao a (vA u) (q8l da dc dd dk dp dr dA dC) λd=>∃dN dT ea eb ec ed ee ei:Int,ar d (vA u) 0 [O dN,O dT,O ea,O eb,O ec,O ed,O ee,O ei]/\R (.agg (q8a dN dT ea eb ec ed ee ei)) d)))):Calls Tryz.prog 162 #[(.agg (q8a G H K M N Q S U)),(.slice V W an),(.int .u64 n)] w (aT R):=rvc [7,8,9] (aq (aq (aq (aq (.node none (.node none (.node (some ⟨[(7,.one (.slice))],[7,16,17,18,19,20,21,22]⟩) .leaf .leaf) .leaf) (.node none (aq (.node none (.node (some ⟨[(7,.one (.slice)),(8,.one (.int .i64))],[7,8,23,24,25,26,27,28,29,30,31,32,33,34,35,36]⟩) .leaf .leaf) .leaf)) (.node none (aq (.node none (.node (some ⟨[(9,.one (.int .i64))],[9,37,38,39,40,41,42,43,44,45,46,47]⟩) .leaf .leaf) .leaf)) .leaf))))))) Tryz.func162 h
theorem oK(o:oA)(d p:Nat){R:aK}{w:World}(h:∀(t:Nat)(u:World),t=w.heap.size->u=w.alloc (.cells (z8a) 54)->Calls Tryz.prog 156 #[] u λe x=>∃y z B C E F G H:Int,e=.returned (.agg (q8a y z B C E F G H))/\∀(a:Nat)(K:World),a=x.heap.size->K=x.alloc (.cells (z8a) 54)->ao K (vA a) (q8l y z B C E F G H) λdc=>∀i:Int,i=0->∃I:Nat->Int->World->Prop,(∃m,I m i dc)/\∀(m:Nat)(_gv2:Nat->Value)(i1:Int),∀f,I m i1 f->split (decide ((i64.wrap (i1+64):Int)<=((d:Nat):Int))) (∃b:bP,b 0 ((vA a).block)/\∃M N Q S U V W an:Int,ar f.drew (vA a) 0 [O M,O N,O Q,O S,O U,O V,O W,O an]/\Calls Tryz.prog 161 #[(.slice o d p),J i1] f.drew λe q=>∃az aA aC aN a0 a1 a2 a3 a4 a5 a6 a7 a8 a9 ba bb:Int,e=.returned (.agg (iK az aA aC aN a0 a1 a2 a3 a4 a5 a6 a7 a8 a9 ba bb))/\Kept (aX b [0]) f.drew q/\∃j:bP,(∀i k,b i k->j i k)/\Calls Tryz.prog 160 #[(.agg (q8a M N Q S U V W an)),(.agg (iK az aA aC aN a0 a1 a2 a3 a4 a5 a6 a7 a8 a9 ba bb))] q λe r=>∃bc bd bg bl bs b0 b4 b5:Int,e=.returned (.agg (q8a bc bd bg bl bs b0 b4 b5))/\∃s:bP,(∀i k,j i k->s i k)/\ao r (vA a) (q8l bc bd bg bl bs b0 b4 b5) λdd=>∃b3:bP,(∀i k,s i k->b3 i k)/\∀i2:Int,i2=(i64.wrap (i1+64))->∃m1,m1<m/\I m1 i2 dd) (∃b:bP,b 0 ((vA a).block)/\∃b6 b7 b8 b9 ca cb cc cf:Int,ar f.drew (vA a) 0 [O b6,O b7,O b8,O b9,O ca,O cb,O cc,O cf]/\(0<=(i1:Int)/\(i1:Int)<=((d:Nat):Int))/\∀cg:oA,cg=(if p=i1.toNat then o else(o:oA).map (·.add (i1.toNat *1)))->∀cj:Nat,cj=d - i1.toNat->∀ck:Nat,ck=p - i1.toNat->Calls Tryz.prog 162 #[(.agg (q8a b6 b7 b8 b9 ca cb cc cf)),(.slice cg cj ck),(.int .u64 (u64.wrap ((d:Nat):Int)))] f.drew λe q=>∃ct cA cC cM cN c0 c1 c2:Int,e=.returned (.agg (q8a ct cA cC cM cN c0 c1 c2))/\∃j:bP,(∀i k,b i k->j i k)/\ao q (vA t) (q8l ct cA cC cM cN c0 c1 c2) λr=>∃s:bP,(∀i k,j i k->s i k)/\∃c3 c4 c5 c6 c7 c8 c9 da:Int,ar r (vA t) 0 [O c3,O c4,O c5,O c6,O c7,O c8,O c9,O da]/\R (.agg (q8a c3 c4 c5 c6 c7 c8 c9 da)) r)):Calls Tryz.prog 135 #[(.slice o d p)] w (aT R):=rvc [4] (aq (aq (aq (.node none (.node none (.node (some ⟨[(4,.one (.int .i64))],[4,6,7,8,9,10,11,12,13,14,15,16,17]⟩) .leaf .leaf) .leaf) .leaf)))) Tryz.func135 h
theorem rq(z:oA)(s B:Nat)(mask:Int){R:aK}{w:World}(h:∃J:Option Addr->Nat->Nat->World->Prop,(split (decide ((((s:Nat):Int):Int)>64)) (Calls Tryz.prog 135 #[(.slice z s B)] w λe f=>∃E F G H K M N O:Int,e=.returned (.agg (q8a E F G H K M N O))/\∀(t:Nat)(a:World),t=f.heap.size->a=f.alloc (.cells (z8a) 54)->ao a (vA t) (q8l E F G H K M N O) λb=>∀Q:oA,Q=(some (if 8=0 then Addr.mk t 0 none else(vA t).add (0*1)))->∀S:Nat,S=8 - 0->∀U:Nat,U=8 - 0->Calls Tryz.prog 103 #[(.slice Q S U)] b λe d=>∃V:oA,∃W an:Nat,e=.returned (.slice V W an)/\J V W an d) (J z s B w))/\∀(_gv:Nat->Value)(kA:oA)(C kC:Nat),∀f,J kA C kC f->∀i:Int,i=0->∃I:Nat->Option Addr->Nat->Nat->Int->World->Prop,(∃m,I m none 0 0 i f)/\∀(m:Nat)(_gv1:Nat->Value)(u:oA)(x y:Nat)(i1:Int),∀a,I m u x y i1 a->split (decide ((i1:Int)<64)) (split (decide ((i1:Int)<((C:Nat):Int))) ((0<=(i1:Int)/\(i1:Int)<((C:Nat):Int))/\ai kA λaA=>∃az:Int,a.cell? (aA.add (Int.toNat i1*1))=some (vY az)/\∀(j:Nat)(b:World),j=a.heap.size->b=a.alloc (.cells #[vY (IntKind.u8.wrap (BitVec.ofInt IntKind.u8.bits az ^^^ BitVec.ofInt IntKind.u8.bits mask).toNat)] 5)->∃o:oA,∃p q:Nat,∃d,(Builtin.append_ #[27,27] 27 #[(.slice u x y),(.slice (pvA j) 1 1)]:Sem Value).run Tryz.prog b=.ok (.slice o p q) d/\∀i2:Int,i2=(i64.wrap (i1+1))->∃r,r<m/\I r o p q i2 d) (∀(j:Nat)(b:World),j=a.heap.size->b=a.alloc (.cells #[vY (IntKind.u8.wrap (BitVec.ofInt IntKind.u8.bits 0 ^^^ BitVec.ofInt IntKind.u8.bits mask).toNat)] 5)->∃o:oA,∃p q:Nat,∃d,(Builtin.append_ #[27,27] 27 #[(.slice u x y),(.slice (pvA j) 1 1)]:Sem Value).run Tryz.prog b=.ok (.slice o p q) d/\∀i2:Int,i2=(i64.wrap (i1+1))->∃r,r<m/\I r o p q i2 d)) (R (.slice u x y) a)):Calls Tryz.prog 134 #[(.slice z s B),vY mask] w (aT R):=rvc [7,8] (aq (aq (.node none (aq (.node (some ⟨[(5,.one (.slice))],[5,6,14,15,16,17]⟩) .leaf .leaf)) (aq (.node none (aq (.node none (.node (some ⟨[(7,.one (.slice)),(8,.one (.int .i64))],[7,8,9,18,19,20,21,22,23,24,25,26,27,28,29,30,31,32,33,34,35]⟩) .leaf .leaf) .leaf)) .leaf))))) Tryz.func134 h
theorem oJ(b:oA)(d f:Nat)(j:oA)(o p:Nat){R:aK}{w:World}(h:∀(i:Nat)(q:World),i=w.heap.size->q=w.alloc (.cells (z8a) 54)->Calls Tryz.prog 134 #[(.slice b d f),vY 54] q λe bN=>∃r:oA,∃s t:Nat,e=.returned (.slice r s t)/\∃u:oA,∃x y:Nat,∃z,(Builtin.append_ #[27,27] 27 #[(.slice r s t),(.slice j o p)]:Sem Value).run Tryz.prog bN=.ok (.slice u x y) z/\Calls Tryz.prog 135 #[(.slice u x y)] z λe B=>∃C E F G H I J K:Int,e=.returned (.agg (q8a C E F G H I J K))/\∀(a:Nat)(M:World),a=B.heap.size->M=B.alloc (.cells (z8a) 54)->ao M (vA a) (q8l C E F G H I J K) λb0=>Calls Tryz.prog 134 #[(.slice b d f),vY 92] b0 λe b1=>∃N:oA,∃Q S:Nat,e=.returned (.slice N Q S)/\∀U:oA,U=(some (if 8=0 then Addr.mk a 0 none else(vA a).add (0*1)))->∀V:Nat,V=8 - 0->∀W:Nat,W=8 - 0->Calls Tryz.prog 103 #[(.slice U V W)] b1 λe b2=>∃an:oA,∃az aA:Nat,e=.returned (.slice an az aA)/\∃aC:oA,∃aN a0:Nat,∃a1,(Builtin.append_ #[27,27] 27 #[(.slice N Q S),(.slice an az aA)]:Sem Value).run Tryz.prog b2=.ok (.slice aC aN a0) a1/\Calls Tryz.prog 135 #[(.slice aC aN a0)] a1 λe b3=>∃a2 a3 a4 a5 a6 a7 a8 a9:Int,e=.returned (.agg (q8a a2 a3 a4 a5 a6 a7 a8 a9))/\ao b3 (vA i) (q8l a2 a3 a4 a5 a6 a7 a8 a9) λba=>∃bb bc bd bg bl bs bA bC:Int,ar ba (vA i) 0 [O bb,O bc,O bd,O bg,O bl,O bs,O bA,O bC]/\R (.agg (q8a bb bc bd bg bl bs bA bC)) ba):Calls Tryz.prog 104 #[(.slice b d f),(.slice j o p)] w (aT R):=rvc [5,7] (.leaf) Tryz.func104 h
theorem yS(b:oA)(d f:Nat)(i:oA)(j o:Nat){R:aK}{w:World}(h:∀(a:Nat)(p:World),a=w.heap.size->p=w.alloc (.cells (z8a) 54)->Calls Tryz.prog 103 #[(.slice b d f)] p λe W=>∃q:oA,∃r s:Nat,e=.returned (.slice q r s)/\Calls Tryz.prog 103 #[(.slice i j o)] W λe an=>∃t:oA,∃u x:Nat,e=.returned (.slice t u x)/\Calls Tryz.prog 104 #[(.slice q r s),(.slice t u x)] an λe az=>∃y z B C E F G H:Int,e=.returned (.agg (q8a y z B C E F G H))/\ao az (vA a) (q8l y z B C E F G H) λI=>∃J K M N Q S U V:Int,ar I (vA a) 0 [O J,O K,O M,O N,O Q,O S,O U,O V]/\R (.agg (q8a J K M N Q S U V)) I):Calls Tryz.prog 81 #[(.slice b d f),(.slice i j o)] w (aT R):=rvc [] (.leaf) Tryz.func81 h
end Go.Proofs.YtoghdgcmhbanbaaGreatDoor
end
section
set_option maxRecDepth 100000
namespace Go.Proofs.YtoghdgcmhbanbaaGreatDoor
open Go Go.RowKit V
open Go.IntKind (i64 u32 u64 wrap_i64 wrap_u32)
open Go.Proofs (Tryz.prog)
theorem u6(o:oA)(au E:Nat){R:aK}{w:World}(h:∃p:oA,∃q r:Nat,∃s,(Instr.makeSlice 27 (J 0) (J (i64.wrap (4*((au:Nat):Int)))):Sem Value).run Tryz.prog w=.ok (.slice p q r) s/\∃I:Nat->Option Addr->Nat->Nat->Int->World->Prop,(∃m,I m p q r 0 s)/\∀(m:Nat)(_gv:Nat->Value)(f:oA)(i j:Nat)(a:Int),∀b,I m f i j a b->split (decide ((a:Int)<((au:Nat):Int))) ((0<=(a:Int)/\(a:Int)<((au:Nat):Int))/\ai o λF=>∃d:Int,b.cell? (F.add (Int.toNat a*1))=some (O d)/\∀(t:Nat)(u:World),t=b.heap.size->u=b.alloc (.cells #[vY (IntKind.u8.wrap ((d:Int).fdiv (2 ^ 24))),vY (IntKind.u8.wrap ((d:Int).fdiv (2 ^ 16))),vY (IntKind.u8.wrap ((d:Int).fdiv (2 ^ 8))),vY (IntKind.u8.wrap ((d:Int).fdiv (2 ^ 0)))] 5)->∃x:oA,∃y z:Nat,∃B,(Builtin.append_ #[27,27] 27 #[(.slice f i j),(.slice (pvA t) 4 4)]:Sem Value).run Tryz.prog u=.ok (.slice x y z) B/\∃C,C<m/\I C x y z (i64.wrap (a+1)) B) (R (.slice f i j) b)):Calls Tryz.prog 164 #[(.slice o au E)] w (aT R):=rvc [3] (aq (aq (.node none (aq (.node none (.node (some ⟨[(3,.one (.slice)),(12,.one (.int .i64))],[3,4,5,12,13,14,15,16,17,18,19,20,21,22,23,24,25,26,27,28,29,30,31,32,33,34]⟩) .leaf .leaf) .leaf)) .leaf))) Tryz.func164 h
theorem u5(q:oA)(d r:Nat){R:aK}{w:World}(h:split (decide ((((d:Nat):Int):Int)>1048576)) (R (.tuple #[(.slice none 0 0),J 2]) w) (split (((((d:Nat):Int):Int).tmod 4:Int) !=0) (R (.tuple #[(.slice none 0 0),J 11]) w) (∃s:oA,∃p t:Nat,∃u,(Instr.makeSlice 26 (J (i64.wrap ((((d:Nat):Int):Int).tdiv 4))) (J (i64.wrap ((((d:Nat):Int):Int).tdiv 4))):Sem Value).run Tryz.prog w=.ok (.slice s p t) u/\∃I:Nat->Int->World->Prop,(∃m,I m 0 u)/\∀(m:Nat)(_gv:Nat->Value)(a:Int),∀f,I m a f->split (decide ((a:Int)<((p:Nat):Int))) ((0<=(i64.wrap (4*a):Int)/\(i64.wrap (4*a):Int)<=((d:Nat):Int))/\∀j:oA,j=(if r=(Int.toNat (i64.wrap (4*a)))then q else(q:oA).map (·.add ((Int.toNat (i64.wrap (4*a)))*1)))->∀o:Nat,o=d - (Int.toNat (i64.wrap (4*a)))->∀K:Nat,K=r - (Int.toNat (i64.wrap (4*a)))->∃b:bP,(0<=(0:Int)/\(0:Int)<((o:Nat):Int))/\ai j λx=>b 4 ((x.add (Int.toNat 0*1)).block)/\∃y:Int,f.drew.cell? (x.add (Int.toNat 0*1))=some (vY y)/\(0<=(1:Int)/\(1:Int)<((o:Nat):Int))/\ai j λz=>b 9 ((z.add (Int.toNat 1*1)).block)/\∃B:Int,f.drew.cell? (z.add (Int.toNat 1*1))=some (vY B)/\(0<=(2:Int)/\(2:Int)<((o:Nat):Int))/\ai j λC=>b 15 ((C.add (Int.toNat 2*1)).block)/\∃E:Int,f.drew.cell? (C.add (Int.toNat 2*1))=some (vY E)/\(0<=(3:Int)/\(3:Int)<((o:Nat):Int))/\ai j λF=>b 21 ((F.add (Int.toNat 3*1)).block)/\∃G:Int,f.drew.cell? (F.add (Int.toNat 3*1))=some (vY G)/\(0<=(a:Int)/\(a:Int)<((p:Nat):Int))/\ai s λM=>ao f.drew (M.add (Int.toNat a*1)) [O (u32.wrap (BitVec.ofInt u32.bits (u32.wrap (BitVec.ofInt u32.bits (u32.wrap (BitVec.ofInt u32.bits (u32.wrap ((u32.wrap y:Int)*2 ^ 24)) ||| BitVec.ofInt u32.bits (u32.wrap ((u32.wrap B:Int)*2 ^ 16))).toNat) ||| BitVec.ofInt u32.bits (u32.wrap ((u32.wrap E:Int)*2 ^ 8))).toNat) ||| BitVec.ofInt u32.bits (u32.wrap ((u32.wrap G:Int)*2 ^ 0))).toNat)] λN=>∃Q:bP,(∀i k,b i k->Q i k)/\∃H,H<m/\I H (i64.wrap (a+1)) N) (R (.tuple #[(.slice s p t),J 0]) f)))):Calls Tryz.prog 166 #[(.slice q d r)] w (aT R):=rvc [] (aq (aq (aq (aq (.node none (aq (.node none (.node (some ⟨[(20,.one (.int .i64))],[5,6,20,21,22,23,24,25,26,27,28,29,30,31,32,33,34,35,36,37,38,39,40,41,42,43,44,45,46,47,48,49,50,51,52,53]⟩) .leaf .leaf) .leaf)) .leaf))))) Tryz.func166 h
theorem vu(r:oA)(o s:Nat)(pad:Int){R:aK}{w:World}(h:∃t:Option Addr->Nat->Nat->World->Prop,(split (decide ((((o:Nat):Int):Int)>64)) (Calls Tryz.prog 179 #[(.slice r o s)] w λe f=>∃x y z B C E F G:Int,e=.returned (.agg (q8a x y z B C E F G))/\∀(p:Nat)(i:World),p=f.heap.size->i=f.alloc (.cells (z8a) 54)->ao i (vA p) (q8l x y z B C E F G) λq=>∀H:oA,H=(some (if 8=0 then Addr.mk p 0 none else(vA p).add (0*1)))->∀K:Nat,K=8 - 0->∀M:Nat,M=8 - 0->Calls Tryz.prog 164 #[(.slice H K M)] q λe b=>∃N:oA,∃O Q:Nat,e=.returned (.slice N O Q)/\t N O Q b) (t r o s w))/\∀(_gv:Nat->Value)(S:oA)(U V:Nat),∀f,t S U V f->∃j:oA,∃d u:Nat,∃i,(Instr.makeSlice 27 (J 64) (J 64):Sem Value).run Tryz.prog f=.ok (.slice j d u) i/\∃an:Int,∃q,(Builtin.copy_ #[27,27] 3 #[(.slice j d u),(.slice S U V)]:Sem Value).run Tryz.prog i=.ok (J an) q/\∃I:Nat->Int->World->Prop,(∃m,I m 0 q)/\∀(m:Nat)(_gv1:Nat->Value)(a:Int),∀b,I m a b->split (decide ((a:Int)<((d:Nat):Int))) ((0<=(a:Int)/\(a:Int)<((d:Nat):Int))/\ai j λaz=>∃W:Int,b.cell? (az.add (Int.toNat a*1))=some (vY W)/\(0<=(a:Int)/\(a:Int)<((d:Nat):Int))/\ai j λaA=>ao b (aA.add (Int.toNat a*1)) [vY (IntKind.u8.wrap (BitVec.ofInt IntKind.u8.bits W ^^^ BitVec.ofInt IntKind.u8.bits pad).toNat)] λaC=>∃m1,m1<m/\I m1 (i64.wrap (a+1)) aC) (R (.slice j d u) b)):Calls Tryz.prog 167 #[(.slice r o s),vY pad] w (aT R):=rvc [] (aq (.node none (aq (.node (some ⟨[(0,.one (.slice))],[0,5,11,12,13,14]⟩) .leaf .leaf)) (aq (aq (.node none (aq (.node none (.node (some ⟨[(21,.one (.int .i64))],[7,21,22,23,24,25,26,27,28,29,30,31]⟩) .leaf .leaf) .leaf)) .leaf))))) Tryz.func167 h
theorem yY(b:oA)(d f:Nat)(pad:Int){R:aK}{w:World}(h:Calls Tryz.prog 165 #[] w λe s=>∃a:oA,e=.returned (.pointer a)/\Calls Tryz.prog 167 #[(.slice b d f),vY pad] s λe t=>∃i:oA,∃j o:Nat,e=.returned (.slice i j o)/\Calls Tryz.prog 166 #[(.slice i j o)] t λe u=>∃p:oA,∃q r:Nat,∃x:Int,e=.returned (.tuple #[(.slice p q r),J x])/\Calls Tryz.prog 106 #[(.pointer a),(.slice p q r)] u λe y=>e=.returned (.tuple #[])/\R (.pointer a) y):Calls Tryz.prog 137 #[(.slice b d f),vY pad] w (aT R):=rvc [] (.leaf) Tryz.func137 h
theorem yX(o:oA)(f p:Nat){R:aK}{w:World}(h:split (decide ((((f:Nat):Int):Int)>16)) (Calls Tryz.prog 163 #[(.slice o f p)] w λe i=>∃q r s t u x y z:Int,e=.returned (.agg (q8a q r s t u x y z))/\∀(j:Nat)(B:World),j=i.heap.size->B=i.alloc (.cells (z8a) 54)->ao B (vA j) (q8l q r s t u x y z) λG=>∀C:oA,C=(some (if 8=0 then Addr.mk j 0 none else(vA j).add (0*1)))->∀E:Nat,E=8 - 0->∀F:Nat,F=8 - 0->Calls Tryz.prog 164 #[(.slice C E F)] G λe H=>∃a:oA,∃b d:Nat,e=.returned (.slice a b d)/\R (.slice a b d) H) (Calls Tryz.prog 164 #[(.slice o f p)] w λe i=>∃a:oA,∃b d:Nat,e=.returned (.slice a b d)/\R (.slice a b d) i)):Calls Tryz.prog 136 #[(.slice o f p)] w (aT R):=rvc [] (.leaf) Tryz.func136 h
theorem Dt(f:oA)(i j:Nat){R:aK}{w:World}(h:Calls Tryz.prog 136 #[(.slice f i j)] w λe t=>∃a:oA,∃b d:Nat,e=.returned (.slice a b d)/\Calls Tryz.prog 137 #[(.slice a b d),vY 54] t λe u=>∃o:oA,e=.returned (.pointer o)/\Calls Tryz.prog 137 #[(.slice a b d),vY 92] u λe p=>∃q:oA,e=.returned (.pointer q)/\∀(r:Nat)(s:World),r=p.heap.size->s=p.alloc (.cells #[(.pointer o),(.pointer q)] 176)->R (.pointer (pvA r)) s):Calls Tryz.prog 105 #[(.slice f i j)] w (aT R):=rvc [] (.leaf) Tryz.func105 h
theorem vt(m:oA){R:aK}{w:World}(h:∀(b:Nat)(d:World),b=w.heap.size->d=w.alloc (.cells (z8a) 54)->ai m λp6=>∃i:oA,d.cell? (p6.add 0)=some (.pointer i)/\Calls Tryz.prog 139 #[(.pointer i)] d λe j=>∃o p q r s t u x:Int,e=.returned (.agg (q8a o p q r s t u x))/\∀(a:Nat)(y:World),a=j.heap.size->y=j.alloc (.cells (z8a) 54)->ao y (vA a) (q8l o p q r s t u x) λz=>ai m λa0=>∃B:oA,z.cell? (a0.add 1)=some (.pointer B)/\Calls Tryz.prog 140 #[(.pointer B)] z λe a1=>∃f:oA,e=.returned (.pointer f)/\∀C:oA,C=(some (if 8=0 then Addr.mk a 0 none else(vA a).add (0*1)))->∀E:Nat,E=8 - 0->∀F:Nat,F=8 - 0->Calls Tryz.prog 106 #[(.pointer f),(.slice C E F)] a1 λe a2=>e=.returned (.tuple #[])/\Calls Tryz.prog 139 #[(.pointer f)] a2 λe a3=>∃G H I J K M N Q:Int,e=.returned (.agg (q8a G H I J K M N Q))/\ao a3 (vA b) (q8l G H I J K M N Q) λS=>∃U V W an az aA aC aN:Int,ar S (vA b) 0 [O U,O V,O W,O an,O az,O aA,O aC,O aN]/\R (.agg (q8a U V W an az aA aC aN)) S):Calls Tryz.prog 107 #[(.pointer m)] w (aT R):=rvc [] (.leaf) Tryz.func107 h
theorem BW(d:oA)(f i:Nat)(j:oA)(o p:Nat){R:aK}{w:World}(h:∀(a:Nat)(q:World),a=w.heap.size->q=w.alloc (.cells (z8a) 54)->Calls Tryz.prog 105 #[(.slice d f i)] q λe r=>∃b:oA,e=.returned (.pointer b)/\ai b λS=>∃s:oA,r.cell? (S.add 0)=some (.pointer s)/\Calls Tryz.prog 106 #[(.pointer s),(.slice j o p)] r λe U=>e=.returned (.tuple #[])/\Calls Tryz.prog 107 #[(.pointer b)] U λe V=>∃t u x y z B C E:Int,e=.returned (.agg (q8a t u x y z B C E))/\ao V (vA a) (q8l t u x y z B C E) λF=>∃G H I J K M N Q:Int,ar F (vA a) 0 [O G,O H,O I,O J,O K,O M,O N,O Q]/\R (.agg (q8a G H I J K M N Q)) F):Calls Tryz.prog 86 #[(.slice d f i),(.slice j o p)] w (aT R):=rvc [] (.leaf) Tryz.func86 h
theorem BE(d:oA){R:aK}{w:World}(h:ai d λK=>∃b f i j o p q r s:Int,∃t:oA,∃u x:Nat,ar w K 0 [O b,O f,O i,O j,O o,O p,O q,O r,J s,.slice t u x]/\∀(a:Nat)(y:World),a=w.heap.size->y=w.alloc (.cells (#[O 0,O 0,O 0,O 0,O 0,O 0,O 0,O 0,J 0,(.slice none 0 0)]) 203)->ao y (vA a) [O b,O f,O i,O j,O o,O p,O q,O r,J s,(.slice t u x)] λz=>ai d λM=>∃B:oA,∃C E:Nat,z.cell? (M.add 9)=some (.slice B C E)/\∃F:oA,∃G H:Nat,∃I,(Builtin.append_ #[26,26] 26 #[(.slice none 0 0),(.slice B C E)]:Sem Value).run Tryz.prog z=.ok (.slice F G H) I/\ao I ((vA a).add 9) [(.slice F G H)] λN=>R (.pointer (pvA a)) N):Calls Tryz.prog 140 #[(.pointer d)] w (aT R):=rvc [] (.leaf) Tryz.func140 h
end Go.Proofs.YtoghdgcmhbanbaaGreatDoor
end
section
set_option maxRecDepth 100000
namespace Go.Proofs.YtoghdgcmhbanbaaGreatDoor
open Go Go.RowKit V
open Go.IntKind (i64 u32 u64 wrap_i64 wrap_u32)
open Go.Proofs (Tryz.prog)
theorem CZ(d:oA)(last E:Int){R:aK}{w:World}(h:∀(F:Nat)(a:World),F=w.heap.size->a=w.alloc (.cells (z8a) 54)->∃b:bP,ai d λU=>b 3 ((U.add 9).block)/\∃G:oA,∃e0 V:Nat,a.drew.cell? (U.add 9)=some (.slice G e0 V)/\ai d λW=>b 7 ((W.add 9).block)/\∃e1:oA,∃u e2:Nat,a.drew.cell? (W.add 9)=some (.slice e1 u e2)/\ai d λan=>b 12 ((an.add 9).block)/\∃e3:oA,∃j e4:Nat,a.drew.cell? (an.add 9)=some (.slice e3 j e4)/\(0<=(((j:Nat):Int):Int)/\(((j:Nat):Int):Int)<=((V:Nat):Int))/\(0<=(((u:Nat):Int):Int)/\(((u:Nat):Int):Int)<=((Int.toNat ((j:Nat):Int):Nat):Int))/\∀az:oA,az=(if(Int.toNat ((j:Nat):Int))=0 then G else(G:oA).map (·.add (0*1)))->∀aA:Nat,aA=(Int.toNat ((u:Nat):Int)) - 0->∀aC:Nat,aC=(Int.toNat ((j:Nat):Int)) - 0->∀(aN:Nat)(x:World),aN=a.drew.heap.size->x=a.drew.alloc (.cells #[O last] 22)->Kept (aX b [0,1,2,3,4,5,6,7,8,9,10,11,12,13,14]) a.drew x/\∃H:bP,(∀i k,b i k->H i k)/\∃a0:oA,∃a1 a2:Nat,∃J,(Builtin.append_ #[26,26] 26 #[(.slice az aA aC),(.slice (pvA aN) 1 1)]:Sem Value).run Tryz.prog x=.ok (.slice a0 a1 a2) J/\Kept (aX H [0,1,4,5,6,9,10,11]) x J/\∃b2:bP,(∀i k,H i k->b2 i k)/\∃I:Nat->Option Addr->Nat->Nat->World->Prop,(∃m,I m a0 a1 a2 J)/\∀(m:Nat)(_gv2:Nat->Value)(K:oA)(y M:Nat),∀q,I m K y M q->split (((((y:Nat):Int):Int).tmod 16:Int) !=14) (∀(r:Nat)(s:World),r=q.heap.size->s=q.alloc (.cells #[O 0] 22)->∃a3:oA,∃a4 a5:Nat,∃f,(Builtin.append_ #[26,26] 26 #[(.slice K y M),(.slice (pvA r) 1 1)]:Sem Value).run Tryz.prog s=.ok (.slice a3 a4 a5) f/\∃m1,m1<m/\I m1 a3 a4 a5 f) (∀(r:Nat)(s:World),r=q.heap.size->s=q.alloc (.cells #[O (u32.wrap ((E:Int).fdiv (2 ^ 32))),O (u32.wrap E)] 22)->∃a6:oA,∃a7 a8:Nat,∃f,(Builtin.append_ #[26,26] 26 #[(.slice K y M),(.slice (pvA r) 2 2)]:Sem Value).run Tryz.prog s=.ok (.slice a6 a7 a8) f/\ai d λe5=>∃a9 ba bb bc bd bg bl bs:Int,ar f (e5.add 0) 0 [O a9,O ba,O bb,O bc,O bd,O bg,O bl,O bs]/\∀(o:Nat)(bA:World),o=f.heap.size->bA=f.alloc (.cells (z8a) 54)->ao bA (vA o) (q8l a9 ba bb bc bd bg bl bs) λe6=>∃N:Nat->Option Addr->Nat->Nat->World->Prop,(∃z,N z a6 a7 a8 e6)/\∀(z:Nat)(_gv5:Nat->Value)(B:oA)(t Q:Nat),∀p,N z B t Q p->split (decide ((((t:Nat):Int):Int)>0)) (∃S:bP,S 0 ((vA o).block)/\∃bC bN b0 b6 b7 b8 b9 ca:Int,ar p.drew (vA o) 0 [O bC,O bN,O b0,O b6,O b7,O b8,O b9,O ca]/\16<=t/\ai B λcb=>S 3 (cb.block)/\∃cc cf cg cj ck ct cA cC cM cN c0 c1 c2 c3 c4 c5:Int,ar p.drew cb 0 [O cc,O cf,O cg,O cj,O ck,O ct,O cA,O cC,O cM,O cN,O c0,O c1,O c2,O c3,O c4,O c5]/\Calls Tryz.prog 138 #[(.agg (q8a bC bN b0 b6 b7 b8 b9 ca)),(.agg (iK cc cf cg cj ck ct cA cC cM cN c0 c1 c2 c3 c4 c5))] p.drew λe C=>∃c6 c7 c8 c9 da dc dd dk:Int,e=.returned (.agg (q8a c6 c7 c8 c9 da dc dd dk))/\∃b4:bP,(∀i k,S i k->b4 i k)/\ao C (vA o) (q8l c6 c7 c8 c9 da dc dd dk) λe7=>∃b5:bP,(∀i k,b4 i k->b5 i k)/\(0<=(16:Int)/\(16:Int)<=((t:Nat):Int))/\∀dp:oA,dp=(if Q=(Int.toNat 16)then B else(B:oA).map (·.add ((Int.toNat 16)*1)))->∀dr:Nat,dr=t - (Int.toNat 16)->∀dA:Nat,dA=Q - (Int.toNat 16)->∃m3,m3<z/\N m3 dp dr dA e7) (∃dC dN dT ea eb ec ed ee:Int,ar p (vA o) 0 [O dC,O dN,O dT,O ea,O eb,O ec,O ed,O ee]/\ao p (vA F) (q8l dC dN dT ea eb ec ed ee) λC=>∃ei er et ey eL eM eN eS:Int,ar C (vA F) 0 [O ei,O er,O et,O ey,O eL,O eM,O eN,O eS]/\R (.agg (q8a ei er et ey eL eM eN eS)) C))):Calls Tryz.prog 170 #[(.pointer d),O last,(.int .u64 E)] w (aT R):=rvc [7] (aq (aq (.node none (.node none (.node (some ⟨[(7,.one (.slice))],[7,27,28,29,30,31,32,33]⟩) .leaf .leaf) .leaf) (aq (aq (.node none (.node none (.node (some ⟨[(7,.one (.slice))],[7,46,47,48,49,50,51,52,53,54,55]⟩) .leaf .leaf) .leaf) .leaf)))))) Tryz.func170 h
theorem pL(d:oA){R:aK}{w:World}(h:∀(a:Nat)(b:World),a=w.heap.size->b=w.alloc (.cells (z8a) 54)->ai d λH=>∃f:Int,b.cell? (H.add 8)=some (J f)/\Calls Tryz.prog 170 #[(.pointer d),O 2147483648,(.int .u64 (u64.wrap (32*(u64.wrap f))))] b λe I=>∃i j o p q r s t:Int,e=.returned (.agg (q8a i j o p q r s t))/\ao I (vA a) (q8l i j o p q r s t) λu=>∃x y z B C E F G:Int,ar u (vA a) 0 [O x,O y,O z,O B,O C,O E,O F,O G]/\R (.agg (q8a x y z B C E F G)) u):Calls Tryz.prog 139 #[(.pointer d)] w (aT R):=rvc [] (.leaf) Tryz.func139 h
end Go.Proofs.YtoghdgcmhbanbaaGreatDoor
end
section
namespace Go.Proofs.YtoghdgcmhbanbaaGreatDoor
open Go Go.RowKit V
open Go.IntKind (i64 u32 u64 wrap_i64 wrap_u32)
def aJ(a b:Int):Int:=u32.wrap (a+b)
def sk(a b:Int):Int:=u32.wrap (BitVec.ofInt u32.bits a ^^^ BitVec.ofInt u32.bits b).toNat
def H6(a b:Int):Int:=u32.wrap (BitVec.ofInt u32.bits a &&& BitVec.ofInt u32.bits b).toNat
def No(a:Int):Int:=u32.wrap (BitVec.ofInt u32.bits (if u32.signed then -1 else u32.max) ^^^ BitVec.ofInt u32.bits a).toNat
def mV(w n:Int):Int:=u32.wrap (BitVec.ofInt u32.bits (w.fdiv (2 ^ (min n.toNat u32.bits))) ||| BitVec.ofInt u32.bits (u32.wrap (w*2 ^ (min (32 - n).toNat u32.bits)))).toNat
theorem Mr {k:Int}(h: -31<=k/\k<= -1):u64.wrap (BitVec.ofInt u64.bits (u64.wrap k) &&& BitVec.ofInt u64.bits 31).toNat=32+k:=by
 have:∀j:Fin 31,u64.wrap (BitVec.ofInt u64.bits (u64.wrap (-(j.val+1:Int))) &&& BitVec.ofInt u64.bits 31).toNat=32+ -(j.val+1:Int):=by decide+kernel
 have a:=this ⟨(-k - 1).toNat,by omega⟩;simp only[]at a
 rwa[show(-(((-k - 1).toNat:Nat)+1:Int))=k by omega]at a
theorem dz {x:Int}(h:0<=x/\x<18446744073709551616):u64.wrap x=x:=by rw[IntKind.wrap_u64];omega
theorem rot_eq {x k:Int}(h: -31<=k/\k<= -1):u32.wrap (BitVec.ofInt u32.bits (u32.wrap (x*2 ^ (min (32+k).toNat u32.bits))) ||| BitVec.ofInt u32.bits (x.fdiv (2 ^ (min (u64.wrap (32 - (32+k))).toNat u32.bits)))).toNat=mV x (-k):=by
 rw[dz (by omega),BitVec.or_comm,show 32 - (32+k)= -k by omega];unfold mV;rw[show 32 - -k=32+k by omega]
def sg0(a:Int):Int:=sk (sk (mV a 7) (mV a 18)) (a.fdiv (2 ^ 3))
def sg1(b:Int):Int:=sk (sk (mV b 17) (mV b 19)) (b.fdiv (2 ^ 10))
abbrev back(l:List Int)(t k:Int):Int:=l.getD (Int.toNat (i64.wrap (t - k))) 0
def sV(l:List Int)(t:Int):Int:=aJ (aJ (aJ (back l t 16) (sg0 (back l t 15))) (back l t 7)) (sg1 (back l t 2))
theorem Ce(l:List Int)(t:Int):aJ (aJ (aJ (sg1 (back l t 2)) (back l t 7)) (sg0 (back l t 15))) (back l t 16)=sV l t:=by
 unfold sV;generalize sg1 _=a;generalize sg0 _=b;generalize back l t 7=c;generalize back l t 16=d;simp only[aJ,u32_eq];omega
def ae(b:List Int):Nat->List Int
 |0=>b++List.replicate 48 0
 |k+1=>(ae b k).set (16+k) (sV (ae b k) ((16+k:Nat):Int))
theorem bU {b:List Int}(h:b.length=16):∀k,(ae b k).length=64
 |0=>by simp[ae,h]
 |k+1=>by simp[ae,bU h k]
theorem qg {b:List Int}{t:Int}(h:16<=t/\t<64):ae b ((i64.wrap (t+1)).toNat - 16)=(ae b (t.toNat - 16)).set t.toNat (sV (ae b (t.toNat - 16)) t):=by
 rw[aa (by omega),show(t+1).toNat - 16=(t.toNat - 16)+1 by omega,ae,show 16+(t.toNat - 16)=t.toNat by omega,show((t.toNat:Nat):Int)=t by omega]
def fD(b:List Int)(t:Int):List Int:=if t<16 then b.take t.toNat++List.replicate (64 - t.toNat) 0 else ae b (t.toNat - 16)
theorem fU {b:List Int}(h:b.length=16){t:Int}(a:0<=t/\t<=64):(fD b t).length=64:=by
 unfold fD;split
 ·simp[h];omega
 ·exact bU h _
theorem Cf {b:List Int}(h:b.length=16){t:Int}(a:0<=t/\t<16):fD b (i64.wrap (t+1))=(fD b t).set t.toNat (b.getD t.toNat 0):=by
 have d:fD b (i64.wrap (t+1))=b.take (t.toNat+1)++List.replicate (64 - (t.toNat+1)) 0:=by
  unfold fD;rw[aa (by omega)];split
  ·rw[show(t+1).toNat=t.toNat+1 by omega]
  ·rw[show(t+1).toNat - 16=0 by omega,show t.toNat+1=16 by omega,ae,List.take_of_length_le (by omega)]
 rw[d];unfold fD;rw[if_pos a.2];apply List.ext_getElem?;intro i;simp only[List.getElem?_append,List.getElem?_set,List.length_take,List.length_append,List.length_replicate,List.getElem?_take,List.getElem?_replicate,List.getD_eq_getElem?_getD,h];have f:=List.getElem?_eq_getElem (l:=b) (i:=t.toNat) (by omega);by_cases hi:i=t.toNat
 ·subst hi;rw[f];have j:t.toNat<min (t.toNat+1) 16:=by omega
  have o:t.toNat<min t.toNat 16+(64 - t.toNat):=by omega
  simp[j,o]
 ·grind
theorem zs {b:List Int}{t:Int}(a:16<=t/\t<64):fD b (i64.wrap (t+1))=(fD b t).set t.toNat (sV (fD b t) t):=by
 unfold fD;rw[if_neg (by rw[aa (by omega)];omega),if_neg (by omega)];exact qg a
theorem Cg {b:List Int}{t:Int}(h:¬t<64)(a:t<=64):fD b t=ae b 48:=by
 have:t=64:=by omega
 subst this;rfl
@[ext] structure S8 where
 (a b c d e f g h:Int)
deriving DecidableEq
abbrev g80(l:List U32):S8:=S8.mk (vG l 0) (vG l 1) (vG l 2) (vG l 3) (vG l 4) (vG l 5) (vG l 6) (vG l 7)
abbrev g81(l:List U32):S8:=S8.mk (vG l 1) (vG l 2) (vG l 3) (vG l 4) (vG l 5) (vG l 6) (vG l 7) (vG l 8)
abbrev v8(s:S8):List Value:= [O s.a,O s.b,O s.c,O s.d,O s.e,O s.f,O s.g,O s.h]
abbrev w8(s:S8):Array Value:= #[O s.a,O s.b,O s.c,O s.d,O s.e,O s.f,O s.g,O s.h]
def S8.T1(k w:Int)(s:S8):Int:=aJ (aJ (aJ (aJ s.h (sk (sk (mV s.e 6) (mV s.e 11)) (mV s.e 25))) (sk (H6 s.e s.f) (H6 (No s.e) s.g))) k) w
def S8.T2(s:S8):Int:=aJ (sk (sk (mV s.a 2) (mV s.a 13)) (mV s.a 22)) (sk (sk (H6 s.a s.b) (H6 s.a s.c)) (H6 s.b s.c))
def S8.rnd(k w:Int)(s:S8):S8:=⟨aJ (s.T1 k w) s.T2,s.a,s.b,s.c,aJ s.d (s.T1 k w),s.e,s.f,s.g⟩
def av(K W:List Int)(s:S8):Nat->S8
 |0=>s
 |t+1=>S8.rnd (K.getD t 0) (W.getD t 0) (av K W s t)
theorem bR {K W:List Int}{s:S8}{t:Int}(h:0<=t/\t<64):av K W s (i64.wrap (t+1)).toNat=S8.rnd (K.getD t.toNat 0) (W.getD t.toNat 0) (av K W s t.toNat):=by
 rw[aa (by omega),show(t+1).toNat=t.toNat+1 by omega,av]
def S8.add(s v:S8):S8:=⟨aJ v.a s.a,aJ v.b s.b,aJ v.c s.c,aJ v.d s.d,aJ v.e s.e,aJ v.f s.f,aJ v.g s.g,aJ v.h s.h⟩
def jq(K:List Int)(s:S8)(b:List Int):S8:=s.add (av K (ae b 48) s 64)
def S8.first:S8:=⟨1779033703,3144134277,1013904242,2773480762,1359893119,2600822924,528734635,1541459225⟩
def S8.ok(s:S8):Prop:=(0<=s.a/\s.a<4294967296)/\(0<=s.b/\s.b<4294967296)/\(0<=s.c/\s.c<4294967296)/\(0<=s.d/\s.d<4294967296)/\(0<=s.e/\s.e<4294967296)/\(0<=s.f/\s.f<4294967296)/\(0<=s.g/\s.g<4294967296)/\(0<=s.h/\s.h<4294967296)
theorem eA(a b:Int):0<=aJ a b/\aJ a b<4294967296:=by unfold aJ;rw[u32_eq];omega
theorem S8.uc(s v:S8):(s.add v).ok:=⟨eA _ _,eA _ _,eA _ _,eA _ _,eA _ _,eA _ _,eA _ _,eA _ _⟩
end Go.Proofs.YtoghdgcmhbanbaaGreatDoor
end
section
namespace Go.Proofs.YtoghdgcmhbanbaaGreatDoor.V
open Go Go.RowKit
open Go.IntKind (i64 u32 u64 wrap_i64 wrap_u32)
theorem tU:u32.bits=32:=rfl
theorem HX:u64.bits=64:=rfl
def nor(x y:Int):Int:=((x.toNat ||| y.toNat:Nat):Int)
def Jv(x y:Int):Int:=((x.toNat &&& y.toNat:Nat):Int)
theorem dw {n:Nat}{x:Int}(a:0<=x)(h:x<2 ^ n):(BitVec.ofInt n x).toNat=x.toNat:=by
 rw[BitVec.toNat_ofInt,Int.emod_eq_of_lt a (by exact_mod_cast h)]
theorem tk {x y:Int}(a:0<=x/\x<4294967296)(b:0<=y/\y<4294967296):u32.wrap (BitVec.ofInt u32.bits x ||| BitVec.ofInt u32.bits y).toNat=nor x y:=by
 have h:=BitVec.isLt (BitVec.ofInt 32 x ||| BitVec.ofInt 32 y);rw[tU,bT (by omega),BitVec.toNat_or,dw a.1 a.2,dw b.1 b.2];rfl
theorem yu {x y:Int}(a:0<=x/\x<4294967296)(b:0<=y/\y<4294967296):u32.wrap (BitVec.ofInt u32.bits x &&& BitVec.ofInt u32.bits y).toNat=Jv x y:=by
 have h:=BitVec.isLt (BitVec.ofInt 32 x &&& BitVec.ofInt 32 y);rw[tU,bT (by omega),BitVec.toNat_and,dw a.1 a.2,dw b.1 b.2];rfl
theorem fJ(k:Nat){a y:Int}(b:0<=a)(d:0<=y)(h:y<2 ^ k):nor (2 ^ k*a) y=2 ^ k*a+y:=by
 obtain⟨a,rfl⟩:=Int.eq_ofNat_of_zero_le b;obtain⟨y,rfl⟩:=Int.eq_ofNat_of_zero_le d;have f:y<2 ^ k:=by exact_mod_cast h
 have e:((2:Int) ^ k*(a:Int)).toNat=2 ^ k*a:=by
  rw[show(2:Int) ^ k*(a:Int)=((2 ^ k*a:Nat):Int)by push_cast;rfl,Int.toNat_natCast]
 unfold nor;rw[e,Int.toNat_natCast,<-Nat.two_pow_add_eq_or_of_lt f]
 push_cast;rfl
theorem oc(x y:Int):nor x y=nor y x:=by unfold nor;rw[Nat.or_comm]
theorem v7(k:Nat){x:Int}(a:0<=x):Jv x (2 ^ k - 1)=x % 2 ^ k:=by
 obtain⟨x,rfl⟩:=Int.eq_ofNat_of_zero_le a;have b:0<2 ^ k:=Nat.two_pow_pos k;have e:((2:Int) ^ k - 1).toNat=2 ^ k - 1:=by
  have:((2:Int) ^ k)=((2 ^ k:Nat):Int):=by push_cast;rfl
  omega
 unfold Jv;rw[e,Int.toNat_natCast,Nat.and_two_pow_sub_one_eq_mod]
 push_cast;rfl
theorem oq {x:Int}(n:Nat):x.fdiv (2 ^ n)=x / 2 ^ n:=Int.fdiv_eq_ediv_of_nonneg x (Int.pow_nonneg (by omega))
end Go.Proofs.YtoghdgcmhbanbaaGreatDoor.V
end
section
namespace Go.Proofs.YtoghdgcmhbanbaaGreatDoor
open Go Go.RowKit V
open Go.IntKind (i64 u32 u64 wrap_i64 wrap_u32)
def LZ(K:List Int):Nat->S8->List U32->S8×List U32
 |0,s,l=>(s,l)
 |f+1,s,l=>if 16<=l.length then LZ K f (jq K s ((l.take 16).map U32.v)) (l.drop 16)else(s,l)
def bf(K:List Int)(s:S8)(l:List U32):S8×List U32:=LZ K (l.length / 16) s l
theorem eB {K:List Int}{s:S8}{l:List U32}(h:l.length<16):bf K s l=(s,l):=by
 unfold bf;rw[Nat.div_eq_of_lt h];rfl
theorem dy {K:List Int}{s:S8}{l:List U32}(h:16<=l.length):bf K s l=bf K (jq K s ((l.take 16).map U32.v)) (l.drop 16):=by
 unfold bf;rw[show l.length / 16=(l.drop 16).length / 16+1 by rw[List.length_drop];omega,LZ,if_pos h]
theorem ke {K:List Int}{p:S8->List U32->Prop}(a:∀s l,l.length<16->p s l)(b:∀s l,16<=l.length->p (jq K s ((l.take 16).map U32.v)) (l.drop 16)->p s l):∀(n:Nat)(s:S8)(l:List U32),l.length=n->p s l:=by
 intro n
 induction n using Nat.strongRecOn with
 | ind n d=>
  intro s l f;by_cases h:l.length<16
  ·exact a s l h
  ·exact b s l (by omega) (d (l.drop 16).length (by rw[List.length_drop];omega) _ _ rfl)
theorem ud(K:List Int)(s:S8)(l:List U32):(bf K s l).2.length=l.length % 16:=by
 refine ke (K:=K) (p:=λs l=>(bf K s l).2.length=l.length % 16) (λs l h=>?_) (λs l h a=>?_) _ s l rfl
 ·simp only[eB h];rw[Nat.mod_eq_of_lt h]
 ·simp only[dy h];rw[a,List.length_drop];omega
theorem CX(K:List Int)(s:S8)(l:List U32):∀x∈(bf K s l).2,x∈l:=by
 refine ke (K:=K) (p:=λs l=>∀x∈(bf K s l).2,x∈l) (λs l h=>?_) (λs l h a=>?_) _ s l rfl
 ·simp only[eB h];exact λx h=>h
 ·simp only[dy h];exact λx b=>List.mem_of_mem_drop (a x b)
theorem pG(K:List Int)(s:S8)(l:List U32):s.ok->(bf K s l).1.ok:=by
 refine ke (K:=K) (p:=λs l=>s.ok->(bf K s l).1.ok) (λs l h=>?_) (λs l h a=>?_) _ s l rfl
 ·simp only[eB h];exact λh=>h
 ·simp only[dy h];exact λ_=>a (S8.uc _ _)
theorem ji {l:List U32}(h:16<=l.length):(l.take 16).map U32.v= [(l.getD 0 ⟨0⟩).v,(l.getD 1 ⟨0⟩).v,(l.getD 2 ⟨0⟩).v,(l.getD 3 ⟨0⟩).v,(l.getD 4 ⟨0⟩).v,(l.getD 5 ⟨0⟩).v,(l.getD 6 ⟨0⟩).v,(l.getD 7 ⟨0⟩).v,(l.getD 8 ⟨0⟩).v,(l.getD 9 ⟨0⟩).v,(l.getD 10 ⟨0⟩).v,(l.getD 11 ⟨0⟩).v,(l.getD 12 ⟨0⟩).v,(l.getD 13 ⟨0⟩).v,(l.getD 14 ⟨0⟩).v,(l.getD 15 ⟨0⟩).v]:=by
 rcases l with _|⟨a,_|⟨b,_|⟨c,_|⟨d,_|⟨e,_|⟨f,_|⟨g,_|⟨h,_|⟨i,_|⟨j,_|⟨k,_|⟨m,_|⟨n,_|⟨o,_|⟨p,_|⟨q,r⟩⟩⟩⟩⟩⟩⟩⟩⟩⟩⟩⟩⟩⟩⟩⟩
 all_goals first|rfl|(simp at h;done)
structure Dg where
 st:S8
 n:Int
 waits:List U32
namespace Dg
def new:Dg:=⟨S8.first,0,[]⟩
def add(K:List Int)(d:Dg)(l:List U32):Dg:=if(l.length:Int)>36028797018963968 - d.n then d else⟨(bf K d.st (d.waits++l)).1,d.n+l.length,(bf K d.st (d.waits++l)).2⟩
structure Ok(d:Dg):Prop where
 n:0<=d.n/\d.n<=36028797018963968
 len:d.waits.length=(d.n % 16).toNat
 st:d.st.ok
 words:∀x∈d.waits,0<=x.v/\x.v<4294967296
theorem xP:new.Ok:=⟨by decide,rfl,by unfold S8.ok new S8.first;decide,by simp[new]⟩
theorem uc {K:List Int}{d:Dg}{l:List U32}(h:d.Ok)(b:∀x∈l,0<=x.v/\x.v<4294967296):(d.add K l).Ok:=by
 unfold add;split
 ·exact h
 ·have i:=h.n;have hw:=h.len;refine⟨⟨by show 0<=d.n+_;omega,by show d.n+_<=_;omega⟩,?_,pG _ _ _ h.st,λx f=>?_⟩
  ·show(bf K d.st (d.waits++l)).2.length=((d.n+l.length) % 16).toNat;rw[ud,List.length_append,hw];omega
  ·rcases List.mem_append.1 (CX _ _ _ x f)with a|a
   ·exact h.words x a
   ·exact b x a
def jj(l:List U32):S8:=⟨(l.getD 0 ⟨0⟩).v,(l.getD 1 ⟨0⟩).v,(l.getD 2 ⟨0⟩).v,(l.getD 3 ⟨0⟩).v,(l.getD 4 ⟨0⟩).v,(l.getD 5 ⟨0⟩).v,(l.getD 6 ⟨0⟩).v,(l.getD 7 ⟨0⟩).v⟩
def nOf(l:List U32):Int:=(l.getD 8 ⟨0⟩).v*4294967296+(l.getD 9 ⟨0⟩).v
def load(l:List U32):Dg:=⟨jj l,nOf l,(l.drop 10).take (nOf l % 16).toNat⟩
theorem nOf_eq {l:List U32}(h:∀x∈l,0<=x.v/\x.v<4294967296)(f:l.length=26):u64.wrap (BitVec.ofInt u64.bits (u64.wrap ((u64.wrap (l.getD 8 ⟨0⟩).v:Int)*2 ^ 32)) ||| BitVec.ofInt u64.bits (u64.wrap (l.getD 9 ⟨0⟩).v)).toNat=nOf l/\0<=nOf l/\nOf l<18446744073709551616:=by
 have o:=h _ (List.getElem_mem (show 8<l.length by omega));have p:=h _ (List.getElem_mem (show 9<l.length by omega));have i:(l.getD 8 ⟨0⟩)=l[8]:=by simp[List.getD_eq_getElem?_getD,f]
 have j:(l.getD 9 ⟨0⟩)=l[9]:=by simp[List.getD_eq_getElem?_getD,f]
 have d:nOf l=l[8].v*(4294967296:Int)+l[9].v:=by unfold nOf;rw[i,j]
 refine⟨?_,by rw[d];omega,by rw[d];omega⟩;rw[i,j,d];generalize l[8].v=a at *;generalize l[9].v=b at *;rw[dz (x:=a) (by omega),dz (x:=b) (by omega),dz (x:=a*2 ^ 32) (by omega)];rw[HX,BitVec.toNat_or,dw (by omega) (by omega),dw (by omega) (by omega)];have:=fJ 32 (a:=a) (y:=b) (by omega) (by omega) (by omega);unfold nor at this;rw[show a*2 ^ 32=2 ^ 32*a by omega,this,dz (by omega)];omega
def aF(l:List U32):Int:=
 if l.length≠26 then 20 else if nOf l>36028797018963968\/(nOf l<16/\jj l≠S8.first)then 20
 else if(l.drop (10+(nOf l % 16).toNat)).all (λx=>x.v==0)then 0 else 20
def zero:Dg:=⟨⟨0,0,0,0,0,0,0,0⟩,0,[]⟩
def cW(l:List U32):Dg:=if aF l=0 then load l else zero
theorem ay {l:List U32}(h:aF l=20):cW l=zero:=by unfold cW;rw[h];rfl
theorem bL {l:List U32}(h:aF l=0):cW l=load l:=by unfold cW;rw[if_pos h]
theorem vD {l:List U32}{i:Int}{x:U32}{k:Nat}(h:10<=i)(b:i<26)(d:i<10+(k:Int))(a:l[i.toNat]? =some x):(l.drop 10).take (min ((i64.wrap (i+1)).toNat - 10) k)=(l.drop 10).take (min (i.toNat - 10) k)++ [x]:=by
 rw[aa (by omega),show(i+1).toNat - 10=(i.toNat - 10)+1 by omega,show min ((i.toNat - 10)+1) k=(i.toNat - 10)+1 by omega,show min (i.toNat - 10) k=i.toNat - 10 by omega,List.take_add_one,List.getElem?_drop,show 10+(i.toNat - 10)=i.toNat by omega,a];rfl
theorem Jw {l:List U32}(h:∀x∈l,0<=x.v/\x.v<4294967296)(d:l.length=26):u64.wrap ((u64.wrap ((u64.wrap (l.getD 8 ⟨0⟩).v:Int)*2 ^ 32))+(u64.wrap (l.getD 9 ⟨0⟩).v))=nOf l:=by
 have j:=h _ (List.getElem_mem (show 8<l.length by omega));have o:=h _ (List.getElem_mem (show 9<l.length by omega));have f:(l.getD 8 ⟨0⟩)=l[8]:=by simp[List.getD_eq_getElem?_getD,d]
 have i:(l.getD 9 ⟨0⟩)=l[9]:=by simp[List.getD_eq_getElem?_getD,d]
 unfold nOf;rw[f,i];generalize l[8].v=a at *;generalize l[9].v=b at *;rw[dz (x:=a) (by omega),dz (x:=b) (by omega),dz (x:=a*2 ^ 32) (by omega),dz (by omega)];rfl
theorem zl {l:List U32}{i:Int}{k:Nat}(h:¬i<26)(a:k<16):(l.drop 10).take (min (i.toNat - 10) k)=(l.drop 10).take k:=by
 rw[show min (i.toNat - 10) k=k by omega]
theorem j5 {l:List U32}(h:¬l.length=26):aF l=20:=by unfold aF;rw[if_pos h]
theorem eH {l:List U32}(h:l.length=26)(a:nOf l>36028797018963968\/(nOf l<16/\jj l≠S8.first)):aF l=20:=by unfold aF;rw[if_neg (by simpa using h),if_pos a]
theorem j4 {l:List U32}(h:l.length=26)(a:¬(nOf l>36028797018963968\/(nOf l<16/\jj l≠S8.first)))(b:∀(i:Nat)(x:U32),(l.drop (10+(nOf l % 16).toNat))[i]? =some x->x.v=0):aF l=0:=by
 unfold aF;rw[if_neg (by simpa using h),if_neg a,if_pos];rw[List.all_eq_true];intro x d;obtain⟨i,hi⟩:=List.getElem?_of_mem d;simpa using b i x hi
theorem cw {l:List U32}(h:l.length=26)(a:¬(nOf l>36028797018963968\/(nOf l<16/\jj l≠S8.first))){i:Nat}{x:U32}(b:(l.drop (10+(nOf l % 16).toNat))[i]? =some x)(d:¬x.v=0):aF l=20:=by
 unfold aF;rw[if_neg (by simpa using h),if_neg a,if_neg];rw[List.all_eq_true];intro f;exact d (by simpa using f x (List.mem_of_getElem? b))
theorem lo_eq {l:List U32}:(i64.wrap (10+nOf l % 16)).toNat=10+(nOf l % 16).toNat:=by rw[aa (by omega)];omega
end Dg
structure DgL where
 Y:Nat->Prop
 a:Option Addr
 n:Nat
 c:Nat
def DgL.X(L:DgL)(g:Nat):Nat->Prop:=λk=>k=g\/L.Y k
structure jL(w:World)(g:Nat)(L:DgL)(D:Dg):Prop where
 blk:∃T,Blk w g #[.int .u32 D.st.a,.int .u32 D.st.b,.int .u32 D.st.c,.int .u32 D.st.d,.int .u32 D.st.e,.int .u32 D.st.f,.int .u32 D.st.g,.int .u32 D.st.h,.int .i64 D.n,.slice L.a L.n L.c] T
 rd:Rd w L.Y L.a L.n L.c D.waits
 off:¬L.Y g
variable {w w':World}{g:Nat}{L:DgL}{D:Dg}{X:Nat->Prop}
theorem jL.lt(h:jL w g L D):∀k,L.X g k->k<w.heap.size:=by
 rintro k (rfl|a)
 ·obtain⟨T,b⟩:=h.blk;exact b.lt
 ·exact h.rd.lt k a
theorem jL.ch(h:jL w g L D)(a:Ch X w w')(d:∀k,L.X g k->¬X k):jL w' g L D:=
 ⟨h.blk.imp λ_ b=>a.blk b (d g (.inl rfl)),h.rd.ch a λk a=>d k (.inr a),h.off⟩
theorem jL.pu(h:jL w g L D)(a:Pu w w'):jL w' g L D:=h.ch a (by simp)
end Go.Proofs.YtoghdgcmhbanbaaGreatDoor
end
section
namespace Go.Proofs.YtoghdgcmhbanbaaGreatDoor
open Go Go.RowKit V
open Go.IntKind (i64 u32 u64 wrap_i64 wrap_u32)
structure Mem where
 S:Nat
 I:Nat
 pg:Bool->Nat->Nat->Int
namespace Mem
def cnt(m:Mem)(s:Bool):Nat:=match s with
 |true=>m.S
 |false=>m.I
def has(m:Mem)(s:Bool)(p:Int):Bool:=decide (0<=p/\p<(m.cnt s:Int))
def iR(o:Int):Bool:=decide (0<=o/\o<1024)
def gp(m:Mem)(s:Bool)(p o:Int):Int:=if m.has s p && iR o then m.pg s p.toNat o.toNat else 0
def tick(m:Mem)(_:Int):Mem:=m
def fill(m:Mem)(s:Bool)(p:Nat)(f:Nat->Int):Mem:= {m with pg:=λa b d=>if a=s/\b=p then f d else m.pg a b d}
def put(m:Mem)(s:Bool)(p o:Nat)(v:Int):Mem:=m.fill s p λa=>if a=o then v else m.pg s p a
def err(m:Mem)(s:Bool)(p o:Int):Int:=if m.has s p then(if iR o then 0 else 70)else 5
def write(m:Mem)(s:Bool)(p o v:Int):Mem:=if m.has s p && iR o then(m.put s p.toNat o.toNat v).tick 1 else m
def xn(m:Mem)(s:Bool)(p:Int):Int:=if m.has s p then 0 else 5
def zero(m:Mem)(s:Bool)(p:Int):Mem:=if m.has s p then(m.fill s p.toNat λ_=>0).tick 1024 else m
def fresh(S I:Nat):Mem:= {S,I,pg:=λ_ _ _=>0}
@[simp] theorem MR(m:Mem)(n:Int)(s:Bool):(m.tick n).cnt s=m.cnt s:=by cases s<;>rfl
@[simp] theorem MT(m:Mem)(a:Bool)(p:Nat)(f:Nat->Int)(s:Bool):(m.fill a p f).cnt s=m.cnt s:=by cases s<;>rfl
@[simp] theorem Nb(m:Mem)(a:Bool)(p o:Nat)(v:Int)(s:Bool):(m.put a p o v).cnt s=m.cnt s:=by cases s<;>rfl
theorem rO {m:Mem}{s:Bool}{p:Int}(h:m.has s p=true):0<=p/\p<(m.cnt s:Int):=by simpa[has]using h
theorem fK {m:Mem}{s:Bool}{p:Int}(h:m.has s p=true):p.toNat<m.cnt s:=by have:=rO h;omega
theorem v5 {o:Int}(h:iR o=true):0<=o/\o<1024:=by simpa[iR]using h
end Mem
end Go.Proofs.YtoghdgcmhbanbaaGreatDoor
end
section
namespace Go.Proofs.YtoghdgcmhbanbaaGreatDoor
open Go Go.RowKit V
open Go.IntKind (i64 u32 u64 wrap_i64 wrap_u32)
structure fP where
 g:Nat
 a:Nat
 b:Nat
 pg:Bool->Nat->Nat
 n:Bool->Nat
def fP.row(L:fP)(s:Bool):Nat:=match s with
 |true=>L.a
 |false=>L.b
def fP.X(L:fP):Nat->Prop:=λk=>k=L.g\/k=L.a\/k=L.b\/∃s i,i<L.n s/\k=L.pg s i
abbrev ptr(g:Nat):Value:=.pointer (pvA g)
abbrev fr(s:Bool)(p:Int):Value:=.agg #[.bool s,.int .i64 p]
structure cH(w:World)(L:fP)(m:Mem):Prop where
 cnt:∀s,L.n s=m.cnt s
 hd:∃T:TypeId×Int,Blk w L.g #[.slice (some (Addr.mk L.a 0 none)) m.S m.S,.slice (some (Addr.mk L.b 0 none)) m.I m.I,.int .i64 T.2] T.1
 rows:∀s,∃T cs,Blk w (L.row s) cs T/\∀i,i<m.cnt s->cs[i]? =some (ptr (L.pg s i))
 pgs:∀s i,i<m.cnt s->∃T cs,Blk w (L.pg s i) cs T/\cs.size=1024/\∀o,o<1024->cs[o]? =some (O (m.pg s i o))
 inj:∀s i s' i',i<m.cnt s->i'<m.cnt s'->L.pg s i=L.pg s' i'->s=s'/\i=i'
 dis:L.a≠L.g/\L.b≠L.g/\∀s i,i<m.cnt s->L.pg s i≠L.g/\L.pg s i≠L.a/\L.pg s i≠L.b
 u32:∀s i o,0<=m.pg s i o/\m.pg s i o<4294967296
 dD:m.S<=64/\m.I<=64
theorem cH.inX {w:World}{L:fP}{m:Mem}(h:cH w L m){s:Bool}{i:Nat}(hi:i<m.cnt s):L.X (L.pg s i):=.inr (.inr (.inr ⟨s,i,by rw[h.cnt];exact hi,rfl⟩))
theorem cH.kept {w w':World}{L:fP}{m:Mem}{B:Nat->Prop}(h:cH w L m)(a:Kept B w w')(b:∀k,L.X k->B k):cH w' L m:=by
 refine⟨h.cnt,?_,λs=>?_,λs i hi=>?_,h.inj,h.dis,h.u32,h.dD⟩
 ·obtain⟨T,hd⟩:=h.hd;exact⟨T,hd.kept a (b _ (.inl rfl))⟩
 ·obtain⟨T,cs,d,f⟩:=h.rows s;exact⟨T,cs,d.kept a (b _ (by cases s<;>simp[fP.X,fP.row])),f⟩
 ·obtain⟨T,cs,d,f⟩:=h.pgs s i hi;exact⟨T,cs,d.kept a (b _ (h.inX hi)),f⟩
theorem cH.lt {w:World}{L:fP}{m:Mem}(h:cH w L m):∀k,L.X k->k<w.heap.size:=by
 rintro k (rfl|rfl|rfl|⟨s,i,hi,rfl⟩)
 ·obtain⟨T,hd⟩:=h.hd;exact hd.lt
 ·obtain⟨T,cs,a,b⟩:=h.rows true;exact a.lt
 ·obtain⟨T,cs,a,b⟩:=h.rows false;exact a.lt
 ·obtain⟨T,cs,a,b⟩:=h.pgs s i (by rw[<-h.cnt];exact hi);exact a.lt
theorem cH.ch {w w':World}{L:fP}{m:Mem}{Y:Nat->Prop}(h:cH w L m)(b:Ch Y w w')(d:∀k,L.X k->¬Y k):cH w' L m:=
 h.kept b.kept λk a=>⟨h.lt k a,d k a⟩
theorem cH.pu {w w':World}{L:fP}{m:Mem}(h:cH w L m)(a:Pu w w'):cH w' L m:=h.ch a (by simp)
theorem cH.KB {w w2:World}{L:fP}{m:Mem}(h:cH w L m){T:TypeId}{x:Int}(a:br w L.g #[.slice (some (Addr.mk L.a 0 none)) m.S m.S,.slice (some (Addr.mk L.b 0 none)) m.I m.I,.int .i64 x] T w2):cH w2 L m:=by
 have f:∀k,k≠L.g->(λk=>k≠L.g) k:=λ_ h=>h;refine⟨h.cnt,⟨(T,x),a.blk⟩,λs=>?_,λs i hi=>?_,h.inj,h.dis,h.u32,h.dD⟩
 ·obtain⟨T,cs,b,d⟩:=h.rows s;exact⟨T,cs,a.old b (by cases s<;>simp[fP.row,h.dis.1,h.dis.2.1]),d⟩
 ·obtain⟨T,cs,b,d⟩:=h.pgs s i hi;exact⟨T,cs,a.old b (h.dis.2.2 s i hi).1,d⟩
theorem cH.aV {w w2:World}{L:fP}{m:Mem}(h:cH w L m){s:Bool}{i:Nat}(hi:i<m.cnt s){cs:Array Value}{T:TypeId}{f:Nat->Int}(d:br w (L.pg s i) cs T w2)(u:cs.size=1024)(x:∀o,o<1024->cs[o]? =some (O (f o)))
 (hu:∀o,0<=f o/\f o<4294967296):cH w2 L (m.fill s i f):=by
 obtain⟨y,hd⟩:=h.hd;refine⟨λs=>by rw[h.cnt];simp,⟨y,d.old hd (λe=>(h.dis.2.2 s i hi).1 e.symm)⟩,λa=>?_,λa j z=>?_,λs1 i1 s2 i2 p b=>h.inj s1 i1 s2 i2 (by simpa using p) (by simpa using b),⟨h.dis.1,h.dis.2.1,λs1 i1 p=>h.dis.2.2 s1 i1 (by simpa using p)⟩,λa j o=>?_,h.dD⟩
 ·obtain⟨T,cs,q,b⟩:=h.rows a;refine⟨T,cs,d.old q ?_,by simpa using b⟩;have:=(h.dis.2.2 s i hi).2;cases a<;>simp only[fP.row]
  ·exact λe=>this.2 e.symm
  ·exact λe=>this.1 e.symm
 ·have t:j<m.cnt a:=by simpa using z
  by_cases hq:a=s/\j=i
  ·obtain⟨rfl,rfl⟩:=hq;exact⟨T,cs,d.blk,u,λo r=>by rw[x o r];simp[Mem.fill]⟩
  ·obtain⟨T,cs,q,b,B⟩:=h.pgs a j t;refine⟨T,cs,d.old q (λe=>hq (h.inj _ _ _ _ t hi e)),b,λo r=>?_⟩;rw[B o r];simp only[Mem.fill];rw[if_neg hq]
 ·simp only[Mem.fill];split
  ·exact hu o
  ·exact h.u32 _ _ _
theorem Ny {w:World}{g i:Nat}{cs:Array Value}{T:TypeId}{k:IntKind}{x:Int}{K:Int->Prop}(a:Blk w g cs T)(hi:cs[i]? =some (.int k x))(b:K x):
 ai (pvA g) λp=>∃x:Int,w.cell? (p.add i)=some (.int k x)/\K x:=ah _ rfl ⟨_,a.at hi,b⟩
theorem LG {w:World}{g i:Nat}{cs:Array Value}{T:TypeId}{A:Option Addr}{n c:Nat}{K:Option Addr->Nat->Nat->Prop}(a:Blk w g cs T)(hi:cs[i]? =some (.slice A n c))(b:K A n c):
 ai (pvA g) λp=>∃(A:oA)(n c:Nat),w.cell? (p.add i)=some (.slice A n c)/\K A n c:=ah _ rfl ⟨_,_,_,a.at hi,b⟩
section
variable {w:World}{L:fP}{m:Mem}
theorem mAt(h:cH w L m)(s:Bool)(p:Int):
 Calls Tryz.prog 76 #[ptr L.g,fr s p] w λe w'=>∃v,e=.returned v/\v=.pointer (if m.has s p then some (Addr.mk (L.pg s p.toNat) 0 none)else none)/\Pu w w':=by
 refine F7 _ s p ?_;intro r w1 I hw;have f:=made I hw;have y:=h.pu f.pu;obtain⟨T,hd⟩:=y.hd;refine LG hd rfl ⟨_,f.blk.at rfl,?_⟩;have fin:∀(a n:Nat),n=m.cnt s->a=L.row s->
  ∃i:Bool->World->Prop,(
  ∃z:Int,w1.cell? ((vA r).add 1)=some (J z)/\
  split (decide ((z:Int)<0)) (
   i true w1) (
   ∃B:Int,w1.cell? ((vA r).add 1)=some (J B)/\
   i (decide ((B:Int)>=((n:Nat):Int))) w1))/\∀(_gv1:Nat->Value)(C:Bool),∀j,i C j->
  split C (
   (∃v,v=(Value.pointer none)/\v=.pointer (if m.has s p then some (Addr.mk (L.pg s p.toNat) 0 none)else none)/\Pu w j)) (
   ∃q:Int,j.cell? ((vA r).add 1)=some (J q)/\
   (0<=(q:Int)/\(q:Int)<((n:Nat):Int))/\
   ai (pvA a) λK=>
   ∃E:oA,j.cell? (K.add (Int.toNat q*1))=some (.pointer E)/\
   (∃v,v=(Value.pointer E)/\v=.pointer (if m.has s p then some (Addr.mk (L.pg s p.toNat) 0 none)else none)/\Pu w j)):=by
  intro a n F M;refine⟨λb w'=>w1=w'/\b= !(m.has s p),⟨_,f.blk.at rfl,ab (λd=>⟨rfl,?_⟩) (λd=>⟨_,f.blk.at rfl,rfl,?_⟩)⟩,?_⟩
  ·simp at d;simp[Mem.has];omega
  ·simp at d;subst F;simp only[Mem.has,ge_iff_le];rw[Bool.eq_iff_iff];simp;omega
  ·rintro _ x _ ⟨rfl,rfl⟩;refine ab (λd=>⟨_,rfl,?_,f.pu⟩) (λd=>?_)
   ·simp at d;simp[d]
   ·have G:m.has s p=true:=by simpa using d
    have N:0<=p/\p<(n:Int):=by subst F;simpa[Mem.has]using G
    obtain⟨T2,cs,H,O⟩:=y.rows s;rw[<-M]at H;refine⟨_,f.blk.at rfl,N,ah _ rfl ⟨_,?_,_,rfl,by rw[if_pos G],f.pu⟩⟩;rw[Nat.mul_one];exact H.at (O _ (by omega))
 refine ab (λd=>?_) (λd=>?_)
 ·subst d;exact LG hd rfl (by
   obtain⟨i,o⟩:=fin L.a m.S rfl rfl;refine⟨i,o.1,λg x t u=>?_⟩;have:=o.2 g x t u;simpa using this)
 ·subst d;obtain⟨i,o⟩:=fin L.b m.I rfl rfl;refine⟨i,o.1,λg x t u=>?_⟩;have:=o.2 g x t u;simpa using this
theorem Nr(h:cH w L m)(s:Bool)(p:Int):
 Calls Tryz.prog 153 #[ptr L.g,fr s p] w λe w'=>∃v,e=.returned v/\v=.bool (m.has s p)/\Pu w w':=by
 refine Dr _ s p ?_;intro f w1 b hw;have a:=made b hw;refine⟨_,_,⟨a.blk.at rfl,a.blk.at rfl⟩,(mAt (h.pu a.pu) s p).mono ?_⟩;rintro e w2 ⟨_,rfl,rfl,d⟩;refine⟨_,rfl,?_,a.pu.trans d⟩;cases m.has s p<;>rfl
theorem rK(h:cH w L m):Calls Tryz.prog 72 #[ptr L.g] w λe w'=>∃v,e=.returned v/\v=.int .i64 m.S/\w'=w:=by
 obtain⟨T,hd⟩:=h.hd;exact vq _ (LG hd rfl ⟨rfl,rfl⟩)
theorem KE(h:cH w L m)(s:Bool)(p o:Int):
 Calls Tryz.prog 83 #[ptr L.g,fr s p,.int .i64 o] w λe w'=>∃u,e=.returned u/\u=.int .u32 (m.gp s p o)/\Pu w w':=by
 refine BU _ s p o ?_;intro B w1 j hw;have f:=made j hw;refine⟨_,_,⟨f.blk.at rfl,f.blk.at rfl⟩,(mAt (h.pu f.pu) s p).mono ?_⟩;rintro e w2 ⟨_,rfl,rfl,q⟩;have i:=f.pu.trans q;refine⟨_,rfl,λb w'=>w2=w'/\b= !(m.has s p && Mem.iR o),?_,?_⟩
 ·cases d:m.has s p with
  |false=>exact ab (λ_=>⟨rfl,rfl⟩) (λa=>by simp at a)
  | true=>
   refine ab (λa=>by simp at a) (λ_=>ab (λa=>⟨rfl,?_⟩) (λa=>⟨rfl,?_⟩))
   ·simp at a;simp[Mem.iR];omega
   ·simp at a;simp only[Mem.iR,ge_iff_le];rw[Bool.eq_iff_iff];simp;omega
 ·rintro _ x _ ⟨rfl,rfl⟩;refine ab (λa=>?_) (λa=>?_)
  ·have d:(m.has s p && Mem.iR o)=false:=by rwa[Bool.not_eq_true']at a
   exact⟨by simp[Mem.gp,d],i⟩
  ·have d:(m.has s p && Mem.iR o)=true:=by simpa using a
   have r:=d;simp only[Bool.and_eq_true]at d;have hi:=Mem.fK d.1;have t:=Mem.v5 d.2;obtain⟨T,cs,y,C,z⟩:=(h.pu i).pgs s p.toNat hi;rw[if_pos d.1];refine ah _ rfl ⟨t,_,by rw[Nat.mul_one];exact y.at (z _ (by omega)),?_,i⟩;simp only[Mem.gp,r,if_true]
end
end Go.Proofs.YtoghdgcmhbanbaaGreatDoor
end
