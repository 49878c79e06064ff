/- SnapForms returns true for every input: a snapshot that the program reads is read alike by the document's answer, with the same refusals and the same words. -/
import Derived.Test.YtoghdgcmhbanbaaGreatDoorF6
import Derived.Lib.AppendStr
import Derived.Test.YtoghdgcmhbanbaaGreatDoorRows
import Derived.ProofKit
import Derived.SizedLaws
import Derived.OpenShut
import Derived.LaidMore
import Derived.MakeChecks
import Derived.Handed
import Derived.Deep.SlicePairs
import Derived.Carry
import Derived.LaidHandle
import Derived.LaidLaws
import Derived.Test.YtoghdgcmhbanbaaGreatDoorTie
import Derived.Test.YtoghdgcmhbanbaaGreatDoorCards
import Derived.SevenTiedAt
set_option linter.unusedVariables false
set_option linter.unusedSimpArgs false
section
set_option maxRecDepth 100000
set_option maxHeartbeats 2000000
namespace Go.Proofs.YtoghdgcmhbanbaaGreatDoor
open Go Go.RowKit V Pk
open Go.IntKind (i64 u32 u64 wrap_i64 wrap_u32)
def mg:List Int:= [119,97,114,100,101,110,32,49]
def Dm(w:World):Prop:=∃T,Blk w 0 #[.int .i64 0,.int .i64 1,.int .i64 2,.int .i64 3] T
theorem Dm.pu {w w':World}(h:Dm w)(q:Pu w w'):Dm w':=h.imp λ_ b=>Pu.blk q b
theorem H3 {w:World}{P:Program}{t ty e:TypeId}{z:Value}{bytes n m d:Nat}{k:IntKind}{A B:Option Addr}{l l2:List Int}{Z Y:Nat->Prop}(v:SN P t e z 1 bytes)(C:aD w Z k A n n l)(E:aD w Y k B m d l2)(I:0<n)(hm:0<m)(aA:n+m<=9223372036854775807)(J:(n+m)*bytes<=140737488355328)
 {K:Option Addr->Nat->Nat->World->Prop}(M:∀A' c' w2,OI w2 (up w) e k A' (n+m) c' (l++l2)->Pu w w2->K A' (n+m) c' w2):
 ∃(A':oA)(n' c':Nat)(w2:World),(Builtin.append_ #[t,t] ty #[.slice A n n,.slice B m d]:Sem Value).run P w=.ok (.slice A' n' c') w2/\K A' n' c' w2:=by
 have N:=C.len;have O:=E.len;have F:∀ {Z:Nat->Prop}{A:Option Addr}{n c:Nat}{l:List Int},aD w Z k A n c l->0<n->∃a,A=some a/\∀j u,(l.map (Value.int k))[j]? =some u->w.cell? (a.add j)=some u:=λ{Z A n c l} h hn=>by
  have hl:=h.len;obtain⟨a,f,_⟩:=h.cell 0 _ (List.getElem?_eq_getElem (by omega));refine⟨a,f,λj u hu=>?_⟩;rw[List.getElem?_map]at hu;cases y:l[j]? with
  |none=>rw[y]at hu;cases hu
  | some x=>
   rw[y]at hu;injection hu with hu
   obtain⟨p,o,_,Q⟩:=h.cell j x y;rw[f]at o;injection o with o
   rw[o,Q,<-hu]
 obtain⟨a,rfl,f⟩:=F C I;obtain⟨b,rfl,R⟩:=F E hm;obtain⟨i,hi,S,T,U⟩:=v.info;obtain⟨v',w2,V,G,q⟩:=run_append_arg_grows (P:=P) w t ty e i z 1 bytes v.und hi S T U v.cells v.pos a n n (l.map (Value.int k)) (by simp[N]) f b m d (l2.map (Value.int k)) (by simp[O]) R (by omega) (by simp only[maxLen];omega) J
 have o:Pu w w2:=⟨⟨q.os,q.tape,q.output,q.size,λk hk=>q.block k hk.1 (by simp)⟩⟩;have an:=G;rcases G.2 with⟨_,aC⟩|⟨g,cap,cur,hv,az,rest⟩
 ·omega
 ·subst hv;refine⟨_,_,_,_,V,M _ _ _ ⟨⟨by have:=an.1;simpa using this,.inr ⟨g,cap,cur,rfl,Nat.zero_le _,by rw[List.map_append];exact rest⟩⟩,λa f=>by injection f with f;rw[<-f];exact az⟩ o⟩
section
variable {w:World}{g:Nat}{a b:Int}{s:S8}{ss:List (List Int)}{L:gE}{D:DB}{r:Rg}
def Out(Z:Nat->Prop)(w:World)(A:oA)(n c:Nat)(l:List Int):Prop:=OI w Z 5 .u8 A n c l\/(c=n/\0<n/\aD w Z .u8 A n c l)
section
variable {Z Y:Nat->Prop}{w w':World}{A:Option Addr}{n c:Nat}{l:List Int}
theorem Out.pu(h:Out Z w A n c l)(q:Pu w w'):Out Z w' A n c l:=h.imp (·.pu q) λh=>⟨h.1,h.2.1,h.2.2.pu q⟩
theorem Out.ints(h:Out Z w A n c l):aD w Z .u8 A n c l:=h.elim (·.ints) (·.2.2)
theorem Out.mono(h:Out Z w A n c l)(d:∀k,Z k->Y k):Out Y w A n c l:=h.imp (·.mono d) λh=>⟨h.1,h.2.1,h.2.2.mono d⟩
theorem Out.within(h:Out Z w A n c l):Out (λk=>Z k/\k<w.heap.size) w A n c l:=h.imp (λh=>cG.within h) λh=>⟨h.1,h.2.1,h.2.2.lt⟩
theorem Kx(x:Int)(h:Out Z w A n c l)(d:∀k,w.heap.size<=k->Z k)(f:n<=140737488355000):
 Calls Tryz.prog 25 #[.slice A n c,.int .u32 x] w λe w'=>∃v,e=.returned v/\∃A' c',v=.slice A' (n+4) c'/\OI w' Z 5 .u8 A' (n+4) c' (l++four x)/\Ch Z w w':=by
 rcases h with h|⟨rfl,i,h⟩
 ·exact DM x h d f
 ·refine qO _ _ _ _ (mkd λg w1 m=>?_);have o:aD w1 (λk=>k=g) .u8 (pvA g) 4 4 (four x):=aD.blk (Z:=λj=>j=g) (m:=0) m.blk rfl (Nat.le_refl _) rfl λj y p=>by
   rw[Nat.zero_add];have:((four x).map (Value.int .u8))[j]? =some (vY y):=by rw[List.getElem?_map,p];rfl
   simpa[four]using this
  refine H3 st8 (h.pu m.pu) o i (by omega) (by omega) (by omega) λA' c' w2 q t=>?_;have u:Pu w w2:=(show Pu w w1 from m.pu).trans t;exact⟨A',c',rfl,q.mono λk z=>d k (Nat.le_trans (show Pu w w1 from m.pu).size z),u.mono λ_ h=>h.elim⟩
end
def fG(a b:Int)(s:S8)(ss:List (List Int))(D:DB)(r:Rg)(j:Nat):List (List Int):=(List.range j).flatMap (gM a b s ss D r)
theorem fk(j:Nat):fG a b s ss D r (j+1)=fG a b s ss D r j++gM a b s ss D r j:=by unfold fG;rw[List.range_succ,List.flatMap_append];simp
def Kw(a b:Int)(s:S8)(ss:List (List Int))(D:DB)(r:Rg):List Int:=mg++(fG a b s ss D r 4).flatMap Fr++four (crc (mg++(fG a b s ss D r 4).flatMap Fr))
structure MOk(a b:Int)(s:S8)(ss:List (List Int))(D:DB)(r:Rg):Prop where
 may:mu a b ss
 s:s.ok
 ss:∀p∈ss,Wd p
 r:L8 r
 S:(D.S:Int)=a
 I:(D.mem.I:Int)=b
theorem vT(k:MOk a b s ss D r)(hd:DBP w L D)(j:Nat):∀p∈gM a b s ss D r j,fO p:=by
 intro p d
 match j,d with
 |0,d=>rw[List.mem_singleton.1 d];exact wx k.s k.r
 |1,d=>exact⟨k.ss p d,k.may.2.2.2.2.2 p d⟩
 |2,d=>rw[List.mem_singleton.1 d];exact mI hd.ok hd.S64
 |j+3,d=>exact Cq hd.mem.u32 p d
theorem zP(k:MOk a b s ss D r)(hd:DBP w L D)(j:Nat):(gM a b s ss D r j).length<=128:=by
 match j with
 |0=>simp[gM]
 |1=>have:=k.may.2.2.2.2.1;simp only[gM];omega
 |2=>simp[gM]
 |j+3=>have:=hd.mem.dD;simp only[gM,oZ,List.length_map,List.length_append,om];omega
theorem Co(k:MOk a b s ss D r)(hd:DBP w L D)(j:Nat):∀p∈fG a b s ss D r j,fO p:=by
 intro p d;obtain⟨i,_,d⟩:=List.mem_flatMap.1 d;exact vT k hd i p d
theorem vS(k:MOk a b s ss D r)(hd:DBP w L D):∀j,(fG a b s ss D r j).length<=128*j
 |0=>by simp[fG]
 | j+1=>by
  have:=zP k hd j;have:=vS k hd j;rw[fk,List.length_append];omega
theorem KZ(N:Dm w)(h:nH w g a b s ss L D r)(k:MOk a b s ss D r):
 Calls Tryz.prog 17 #[.pointer (pvA g)] w λe w'=>∃v,e=.returned v/\∃A n c,v=.slice A n c/\aD w' (up w) .u8 A n c (Kw a b s ss D r)/\Pu w w':=by
 refine yy _ ?_;rintro g1 w1 a0 u;subst a0;subst u;refine⟨_,_,_,_,Lib.run_convert_bytes_const w _ _ _ 8 8 sG kG,?_⟩;generalize u:w.alloc (.cells (#[vY 119,vY 97,vY 114,vY 100,vY 101,vY 110,vY 32,vY 49]:Array Value) 5 _)=w1;have q1:Pu w w1:=by rw[<-u];exact Kept.pu (Kept.tZ w _)
 have h1:aD w1 (up w) .u8 (some (Addr.mk w.heap.size 0 none)) 8 8 mg:=⟨rfl,Nat.le_refl _,λj x hx=>⟨_,rfl,Nat.le_refl _,by
  rw[bn,Nat.zero_add,<-u,World.cell?_alloc_mark];have:(mg.map (Value.int .u8))[j]? =some (vY x):=by rw[List.getElem?_map,hx];rfl
  simpa[mg]using this⟩⟩
 clear u;obtain⟨T,E⟩:=N.pu q1;refine⟨_,_,_,_,⟨E.at rfl,E.at rfl,E.at rfl,E.at rfl⟩,?_⟩;refine⟨λy A n c x w'=>∃j:Nat,x=(j:Int)/\j<=4/\y=4 - j/\Out (up w) w' A n c (mg++(fG a b s ss D r j).flatMap Fr)/\Pu w w',⟨_,0,rfl,by omega,rfl,.inr ⟨rfl,by omega,by simpa[fG]using h1⟩,q1⟩,?_⟩;rintro y _ A n c _ w2 ⟨j,rfl,hj,rfl,F,z⟩;have a1:=F.ints.len;have bc:=oo (Co k h.db j);have bd:=vS k h.db j;have an:mg.length=8:=rfl;rw[List.length_append,an]at a1;refine af (λO=>?_) (λO=>?_)
 ·have az:j<4:=by omega
  refine⟨⟨by omega,by omega⟩,(j:Int),?_,(Lk (h.pu z) k.may j az).mono ?_⟩
  ·rw[Int.toNat_natCast,Nat.mul_one]
   match j,az with
   |0,_=>rfl
   |1,_=>rfl
   |2,_=>rfl
   |3,_=>rfl
  rintro e o ⟨_,rfl,B,m,d,rfl,hn,Q⟩;have bg:=hn.len;have bl:=zP k h.db j;have aA:=vT k h.db j;refine⟨_,_,_,rfl,?_⟩;have a2:=Q.size;have a3:=z.size;refine⟨λy A n c x w'=>∃i:Nat,x=(i:Int)/\i<=m/\y=m - i/\Out (λk=>(w.heap.size<=k/\k<w2.heap.size)\/o.heap.size<=k) w' A n c (mg++(fG a b s ss D r j).flatMap Fr++((gM a b s ss D r j).take i).flatMap Fr)/\NL w' (λk=>w2.heap.size<=k/\k<o.heap.size) B m d (gM a b s ss D r j)/\o.heap.size<=w'.heap.size/\Pu w w',
   ⟨_,0,rfl,Nat.zero_le _,rfl,by simpa using (F.within.pu Q).mono (Y:=λk=>(w.heap.size<=k/\k<w2.heap.size)\/o.heap.size<=k) λk f=>.inl f,hn.lt,Nat.le_refl _,z.trans Q⟩,?_⟩
  rintro y _ A4 n4 c4 _ C ⟨i,rfl,hi,rfl,q,aC,bs,q4⟩;have a4:=q.ints.len;have a5:=oo (l:=(gM a b s ss D r j).take i) λp N=>aA p (List.mem_of_mem_take N);rw[List.length_append,List.length_append,an]at a4;rw[List.length_take]at a5;have R:∀k,(w.heap.size<=k/\k<w2.heap.size)\/o.heap.size<=k->up w k:=λk f=>f.elim (·.1) λh=>Nat.le_trans a3 (Nat.le_trans a2 h);refine af (λO=>?_) (λO=>?_)
  ·refine aC.rd (by omega) (by omega) λB5 m5 d5 G=>?_;rw[Int.toNat_natCast]at G;have a6:(gM a b s ss D r j).getD i []=(gM a b s ss D r j)[i]'(by omega):=by rw[List.getD_eq_getElem?_getD,List.getElem?_eq_getElem (by omega)];rfl
   have S:=aA _ (List.getElem_mem (show i<(gM a b s ss D r j).length by omega));rw[a6]at G;have hlen:=G.len;have h2:=S.2;refine(Ct G (by omega) S.1).mono ?_;rintro e I ⟨_,rfl,A6,n6,c6,rfl,aN,J⟩;have bA:=aN.len;have bC:=kV S.l;have e6:u32.wrap ((n6:Nat):Int)=((pack ((gM a b s ss D r j)[i]'(by omega))).length:Int):=by rw[Pk.u32_eq];omega
   have bN:=J.size;have U:∀k,(((w.heap.size<=k/\k<w2.heap.size)\/o.heap.size<=k)/\k<C.heap.size)\/I.heap.size<=k->(w.heap.size<=k/\k<w2.heap.size)\/o.heap.size<=k:=λk f=>by omega
   refine⟨_,_,_,rfl,?_⟩;rw[e6];refine(Kx (Z:=λk=>(((w.heap.size<=k/\k<w2.heap.size)\/o.heap.size<=k)/\k<C.heap.size)\/I.heap.size<=k) _ ((q.within.pu J).mono λk f=>.inl f) (λk f=>.inr f) (by omega)).mono ?_;rintro e w6 ⟨_,rfl,A7,c7,rfl,a7,M⟩;refine⟨_,_,_,rfl,?_⟩;have a8:=M.size;have a9:aD w6 (λk=>C.heap.size<=k/\k<I.heap.size) .u8 A6 n6 c6 _:=aN.ints.lt.ch M λk f h=>by have h1:C.heap.size<=k:=f.1;have h2:k<I.heap.size:=f.2;omega
   refine cu (t:=27) st8 a7 (.inr a8) a9 (by omega) (by omega) λA8 c8 w8 ba V=>?_;refine⟨m - (i+1),by omega,i+1,by rw[aa (by omega)];omega,by omega,rfl,.inl ?_,((aC.pu J).ch M λk f h=>by omega).ch V λk f h=>by omega,by have:=V.size;omega,((q4.trans J).call M λk f=>.inr (R k (U k f))).call V λk f=>.inr (R k (U k f))⟩;rw[List.take_succ_eq_append_getElem (by omega),List.flatMap_append,<-List.append_assoc];have:=ba.mono U;simpa[Pk.Fr,List.append_assoc]using this
  ·obtain rfl:i=m:=by omega
   refine⟨4 - (j+1),by omega,j+1,by rw[aa (by omega)];omega,by omega,rfl,?_,q4⟩;rw[List.take_of_length_le (by omega),List.append_assoc,<-List.flatMap_append,<-fk]at q;exact q.mono R
 ·obtain rfl:j=4:=by omega
  refine(Kv F.ints (by omega)).mono ?_;rintro e o ⟨_,rfl,rfl,rfl⟩;refine⟨_,rfl,(Kx _ F (λk f=>Nat.le_trans z.size f) (by omega)).mono ?_⟩;rintro e C ⟨_,rfl,A4,c4,rfl,q,bb⟩;exact⟨_,_,_,rfl,_,_,_,rfl,q.ints,z.up bb⟩
end
end Go.Proofs.YtoghdgcmhbanbaaGreatDoor
end
section
set_option maxRecDepth 100000
set_option maxHeartbeats 2000000
namespace Go.Proofs.YtoghdgcmhbanbaaGreatDoor
open Go Go.RowKit V Pk
open Go.IntKind (i64 u32 u64 wrap_i64 wrap_u32)
theorem JY {w:World}{P:Program}{t u ty e:TypeId}(m:SN P t e (vY 0) 1 1)(hu:P.underlying u=some .string)(s:ByteArray)(l:List Int)(v:Lib.strCells s=l.map (Value.int .u8))(F:s.size<=140737488355328)
 {K:Option Addr->Nat->Nat->World->Prop}(o:∀A' n' c' w2,OI w2 (up w) e .u8 A' n' c' l->Pu w w2->K A' n' c' w2):
 ∃(A':oA)(n' c':Nat)(w2:World),(Builtin.append_ #[t,u] ty #[.slice none 0 0,.string s]:Sem Value).run P w=.ok (.slice A' n' c') w2/\K A' n' c' w2:=by
 obtain⟨i,hi,x,y,z⟩:=m.info;obtain⟨G,w2,p,h,d,_⟩:=Lib.run_append_own_string (P:=P) w w.heap.size t u ty e i m.und hu hi x y z (.slice none 0 0) 0 [] (World.ownsRow_nil w _ e 1) s (by unfold maxLen;omega) (by omega) (Nat.le_refl _);have q:Pu w w2:=⟨⟨d.os,d.tape,d.output,d.size,λk B=>d.block k B.1 (by simp[Value.ownBlock])⟩⟩;rw[List.nil_append,v]at h;rcases h.2 with⟨j,C⟩|⟨g,cap,cur,j,E,rest⟩
 ·subst j;exact⟨_,_,_,_,p,o _ _ _ _ ⟨⟨by rw[h.1,C],.inl ⟨rfl,rfl⟩⟩,λa f=>by cases f⟩ q⟩
 ·subst j;exact⟨_,_,_,_,p,o _ _ _ _ ⟨⟨h.1,.inr ⟨g,cap,cur,rfl,Nat.zero_le _,rest⟩⟩,λa f=>by injection f with f;rw[<-f];exact E⟩ q⟩
theorem I0 {w:World}{A:Option Addr}{n c:Nat}{Z:Nat->Prop}{p:List Int}(h:aD w Z .u32 A n c p)(d:fO p):
 Calls Tryz.prog 40 #[.slice A n c] w λe w'=>∃v,e=.returned v/\∃A' n' c',v=.slice A' n' c'/\OI w' (up w) 5 .u8 A' n' c' (Pk.Fr p)/\Pu w w':=by
 have z:=h.len;have B:=d.2;refine vf _ _ _ ((xG h (by omega) d.1).mono ?_);rintro e w1 ⟨_,rfl,C,m,E,rfl,i,j⟩;have F:=i.len;have G:=kV d.l;have o:u32.wrap ((m:Nat):Int)=((pack p).length:Int):=by rw[Pk.u32_eq];omega
 refine⟨_,_,_,rfl,?_⟩;rw[o];refine(tH _ w1).mono ?_;rintro e w2 ⟨_,rfl,I,rfl,q,f⟩;refine⟨_,_,_,rfl,cu (t:=27) st8 q f.size (i.pu f).ints (by omega) (by omega) λJ M N u x=>?_⟩;exact⟨_,_,_,rfl,u.mono λk y=>Nat.le_trans j.size y,j.trans (f.up x)⟩
section
variable {w:World}{g gd:Nat}{a b:Int}{s:S8}{ss:List (List Int)}{L:jJ}{D:DB}{r:Rg}
theorem pagesL_eq(m:Mem):oZ m=(List.range m.I).map (λp:Nat=>gu m ⟨false,(p:Int)⟩)++(List.range m.S).map (λp:Nat=>gu m ⟨true,(p:Int)⟩):=by
 unfold oZ fmL;rw[List.map_append,List.map_map,List.map_map];rfl
def pgU(m:Mem)(s:Bool)(k:Nat):List (List Int):=(List.range k).map λp:Nat=>gu m ⟨s,(p:Int)⟩
theorem zM(m:Mem)(s:Bool)(k:Nat):pgU m s (k+1)=pgU m s k++ [gu m ⟨s,(k:Int)⟩]:=by unfold pgU;rw[List.range_succ,List.map_append];rfl
theorem zO {m:Mem}(h:∀s i o,0<=m.pg s i o/\m.pg s i o<4294967296)(s:Bool)(k:Nat):∀p∈pgU m s k,fO p:=λp d=>by
 obtain⟨f,_,rfl⟩:=List.mem_map.1 d;exact⟨(pf h _).1,by unfold gu;simp⟩
theorem xL(m:Mem)(s:Bool)(k:Nat):(pgU m s k).length=k:=by unfold pgU;simp
theorem EK {α:Type}{l:List α}{k:Nat}(h:k<l.length):l.take (k+1)=l.take k++ [l[k]]:=List.take_succ_eq_append_getElem h
theorem Jb {A:Option Addr}{n c:Nat}{k:S8}{T:TypeId}(h:Blk w g (rmC a b s A n c k gd r) T){i:Nat}(hi:i<8):w.cell? ((((vA g).add 0).add 2).add (i*1))=some (O ((eo a b ss.length s r).getD (3+i) 0)):=by
 match i,hi with
 |0,_|1,_|2,_|3,_|4,_|5,_|6,_|7,_=>exact h.at3 rfl
theorem Jc {A:Option Addr}{n c:Nat}{k:S8}{T:TypeId}(h:Blk w g (rmC a b s A n c k gd r) T){i:Nat}(hi:i<15):w.cell? (((vA g).add 20).add (i*1))=some (O ((eo a b ss.length s r).getD (11+i) 0)):=by
 match i,hi with
 |0,_|1,_|2,_|3,_|4,_|5,_|6,_|7,_|8,_|9,_|10,_|11,_|12,_|13,_|14,_=>exact h.at2 rfl
theorem Eg(l:List Int){k:Nat}(h:k<l.length):l.take (k+1)=l.take k++ [l.getD k 0]:=fz h
end
end Go.Proofs.YtoghdgcmhbanbaaGreatDoor
end
section
set_option maxRecDepth 100000
set_option maxHeartbeats 2000000
namespace Go.Proofs.YtoghdgcmhbanbaaGreatDoor
open Go Go.RowKit V Pk
open Go.IntKind (i64 u32 u64 wrap_i64 wrap_u32)
section
variable {w:World}{g gd:Nat}{a b:Int}{s:S8}{ss:List (List Int)}{L:jJ}{D:DB}{r:Rg}
theorem zt {w1:World}{A:Option Addr}{n c:Nat}{Q:List (List Int)}{p:List Int}{B:Option Addr}{m d:Nat}{Z:Nat->Prop}(o:OI w1 (up w) 5 .u8 A n c (mg++Q.flatMap Pk.Fr))(q:Pu w w1)(F:∀p∈Q,fO p)(O:Q.length<=250)(G:aD w1 Z .u32 B m d p)(u:fO p)
 {R:Option Addr->Nat->Nat->World->Prop}(I:∀A' n' c' w2,OI w2 (up w) 5 .u8 A' n' c' (mg++(Q++ [p]).flatMap Pk.Fr)->Pu w w2->R A' n' c' w2):
 Calls Tryz.prog 40 #[.slice B m d] w1 λe f=>∃(h:oA)(i j:Nat),e=.returned (.slice h i j)/\∃(v:oA)(x y:Nat)(k:World),(Builtin.append_ #[27,27] 27 #[.slice A n c,.slice h i j]:Sem Value).run Tryz.prog f=.ok (.slice v x y) k/\R v x y k:=by
 refine(I0 G u).mono ?_;rintro e f ⟨_,rfl,h,i,j,rfl,z,C⟩;have J:=o.len;have S:=oo F;have T:=z.len;have U:=KK u;have V:mg.length=8:=rfl;rw[List.length_append]at J;have E:Pu w f:=q.trans C;refine⟨_,_,_,rfl,cu (t:=27) st8 (o.pu C) E.size z.ints (by omega) (by omega) λA' c' k M N=>I _ _ _ _ ?_ (E.up N)⟩;rw[List.flatMap_append,<-List.append_assoc];simpa using M
theorem IZ(h:xf w g a b s ss gd L D r)(k:MOk a b s ss D r):
 Calls Tryz.prog 18 #[.pointer (pvA g)] w λe w'=>∃v,e=.returned v/\∃A n c,v=.slice A n c/\OI w' (up w) 5 .u8 A n c (Kw a b s ss D r)/\Pu w w':=by
 obtain⟨A,n,c,kk,T,Z,hd,hn⟩:=h.hd;have bc:=hn.len;have q:=h.db;have b4:=k.may.2.2.2.2.1;have b5:=q.mem.dD;refine ve _ (JY st8 jg _ mg (by rfl) (by decide) λoA oN oC w1 bd F=>?_);have d1:=(Pu.blk F hd).drew;have lt:∀i j:Nat,(((vA g).add i).add j).block<w1.heap.size:=λi j=>by rw[block_add,block_add];exact d1.lt
 refine⟨λ_ k=>k<w1.heap.size,ah _ rfl ⟨lt _ _,_,d1.at2 rfl,ah _ rfl ⟨lt _ _,_,d1.at2 rfl,ah _ rfl ⟨lt _ _,_,_,_,d1.at2 rfl,mkd λg2 w2 O=>⟨aY (λk u=>u) O.pu,_,λ_ _ h=>h,?_⟩⟩⟩⟩⟩;have G:Pu w1 w2:=(Pu.aw w1).trans O.pu;have b6:=G.size;have b7:=F.size;have n2:=O.num;have b8:(eo a b ss.length s r).length=26:=rfl;have bg:OI w2 (λk=>w.heap.size<=k/\k<w1.heap.size) 5 .u8 oA oN oC mg:=cG.pu (cG.within bd) G;have bl:OI w2 (up w1) 22 .u32 (pvA g2) 3 3 ((eo a b ss.length s r).take (3+0)):=⟨⟨rfl,.inr ⟨g2,3,_,rfl,Nat.zero_le _,O.blk,Nat.le_refl _,by decide,rfl,by rw[bc];rfl⟩⟩,λa ha=>by injection ha with ha;rw[<-ha];show w1.heap.size<=g2;exact Nat.le_of_eq n2.symm⟩;have nd:∀k,w.heap.size<=k/\k<w1.heap.size->¬up w1 k:=λk u h=>absurd u.2 (Nat.not_lt.2 h);rintro i0 rfl;refine⟨λo A n c x w'=>∃i:Nat,x=(i:Int)/\i<=8/\o=8 - i/\n=3+i/\OI w' (up w1) 22 .u32 A n c ((eo a b ss.length s r).take (3+i))/\OI w' (λk=>w.heap.size<=k/\k<w1.heap.size) 5 .u8 oA oN oC mg/\Pu w1 w',⟨_,0,rfl,by omega,rfl,rfl,bl,bg,G⟩,?_⟩;rintro o _ A3 n3 c3 _ w3 ⟨i,rfl,hi,rfl,rfl,z,E,R⟩;have d3:=Pu.blk (F.trans R) hd;refine af (λy=>?_) (λy=>?_)
 ·refine ah _ rfl ⟨⟨by omega,by omega⟩,_,Jb (ss:=ss) d3 (by omega),?_⟩;rw[Int.toNat_natCast];refine mkd λg4 w4 m4=>dW (m:=1) (k:=.u32) (n:=3+i) oQ z (λk u=>Nat.le_trans R.size u) [(eo a b ss.length s r).getD (3+i) 0] rfl m4 (by omega) (by omega) λA5 c5 w5 S _ a0=>?_;rintro i2 rfl;refine⟨8 - (i+1),by omega,i+1,by rw[aa (by omega)];omega,by omega,rfl,by omega,?_,(E.pu m4.pu).ch a0 nd,(R.made m4).up a0⟩;rw[show 3+(i+1)=(3+i)+1 by omega,Eg _ (by omega)];exact S
 obtain rfl:i=8:=by omega
 rintro i1 rfl;refine⟨λo A n c x w'=>∃i:Nat,x=(i:Int)/\i<=15/\o=15 - i/\n=11+i/\OI w' (up w1) 22 .u32 A n c ((eo a b ss.length s r).take (11+i))/\OI w' (λk=>w.heap.size<=k/\k<w1.heap.size) 5 .u8 oA oN oC mg/\Pu w1 w',⟨_,0,rfl,by omega,rfl,rfl,z,E,R⟩,?_⟩;clear z E d3;rintro o _ A4 n4 c4 _ w4 ⟨i,rfl,hi,rfl,rfl,z,E,U⟩;have d4:=Pu.blk (F.trans U) hd;refine af (λy=>?_) (λy=>?_)
 ·refine ah _ rfl ⟨⟨by omega,by omega⟩,_,Jc (ss:=ss) d4 (by omega),?_⟩;rw[Int.toNat_natCast];refine mkd λg5 w5 m5=>dW (m:=1) (k:=.u32) (n:=11+i) oQ z (λk u=>Nat.le_trans U.size u) [(eo a b ss.length s r).getD (11+i) 0] rfl m5 (by omega) (by omega) λA6 c6 w6 I _ a1=>?_;rintro i2 rfl;refine⟨15 - (i+1),by omega,i+1,by rw[aa (by omega)];omega,by omega,rfl,by omega,?_,(E.pu m5.pu).ch a1 nd,(U.made m5).up a1⟩;rw[show 11+(i+1)=(11+i)+1 by omega,Eg _ (by omega)];exact I
 obtain rfl:i=15:=by omega
 rw[List.take_of_length_le (by omega)]at z;have a2:=wx (a:=a) (b:=b) (n:=ss.length) k.s k.r;refine zt (w:=w) (Q:= []) (by simpa using E.mono λk u=>u.1) (F.trans U) (λp f=>by cases f) (by simp) z.ints a2 λA5 n5 c5 w5 S q5=>?_;clear z E;rintro i2 rfl;rw[List.nil_append]at S;refine⟨λo A n' c x w'=>∃i:Nat,x=(i:Int)/\i<=n/\o=n - i/\OI w' (up w) 5 .u8 A n' c (mg++([eo a b ss.length s r]++ss.take i).flatMap Pk.Fr)/\Pu w w',⟨_,0,rfl,by omega,rfl,S,q5⟩,?_⟩;rintro o _ A6 n6 c6 _ w6 ⟨i,rfl,hi,rfl,I,J⟩;have d6:=Pu.blk J hd;have a3:∀i,∀p∈ [eo a b ss.length s r]++ss.take i,fO p:=λi p f=>by
  rcases List.mem_append.1 f with f|f
  ·rw[List.mem_singleton.1 f];exact a2
  ·exact⟨k.ss p (List.mem_of_mem_take f),k.may.2.2.2.2.2 p (List.mem_of_mem_take f)⟩
 refine ah _ rfl ⟨_,_,_,d6.at2 rfl,af (λy=>?_) (λy=>?_)⟩
 ·refine ah _ rfl ⟨_,_,_,d6.at2 rfl,(hn.pu J).rd (by omega) (by omega) λB m d an=>?_⟩;rw[Int.toNat_natCast]at an;have bs:ss.getD i []=ss[i]'(by omega):=by rw[List.getD_eq_getElem?_getD,List.getElem?_eq_getElem (by omega)];rfl
  rw[bs]at an;refine zt (w:=w) I J (a3 i) (by simp;omega) an ⟨k.ss _ (List.getElem_mem _),k.may.2.2.2.2.2 _ (List.getElem_mem _)⟩ λA8 n8 c8 w8 az q8=>?_;rintro i3 rfl;refine⟨n - (i+1),by omega,i+1,by rw[aa (by omega)];omega,by omega,rfl,?_,q8⟩;rw[EK (by omega),<-List.append_assoc];exact az
 obtain rfl:i=n:=by omega
 rw[List.take_of_length_le (by omega)]at I;have a4:∀p∈ [eo a b ss.length s r]++ss,fO p:=λp f=>a3 ss.length p (by rwa[List.take_of_length_le (Nat.le_refl _)]);refine ah _ rfl ⟨_,d6.at rfl,(zE (q.pu J)).mono ?_⟩;rintro e w7 ⟨_,rfl,Z7,A7,n7,c7,rfl,bA,_,q7⟩;have a5:=bA.rd.ints;rw[List.map_map,show(U32.v ∘ uM)=id from rfl,List.map_id]at a5;have a6:=mI q.ok q.S64;refine⟨_,_,_,rfl,zt (w:=w) (I.pu q7) (J.trans q7) a4 (by simp;omega) a5 a6 λA8 n8 c8 w8 az q8=>?_⟩;rintro p0 rfl;have bC:∀p∈([eo a b ss.length s r]++ss++ [D.words]),fO p:=λp f=>by
  rcases List.mem_append.1 f with f|f
  ·exact a4 p f
  ·rw[List.mem_singleton.1 f];exact a6
 have a7:∀i,∀p∈([eo a b ss.length s r]++ss++ [D.words])++pgU D.mem false i,fO p:=λi p f=>(List.mem_append.1 f).elim (bC p) (zO q.mem.u32 _ _ p);have a8:∀i,∀p∈([eo a b ss.length s r]++ss++ [D.words])++pgU D.mem false D.mem.I++pgU D.mem true i,fO p:=λi p f=>(List.mem_append.1 f).elim (a7 _ p) (zO q.mem.u32 _ _ p);have a9:∀(s:Bool)(i:Nat),fO (gu D.mem ⟨s,(i:Int)⟩):=λs i=>⟨(pf q.mem.u32 _).1,by unfold gu;simp⟩;have hI:=k.I;have hS:(D.mem.S:Int)=a:=k.S;refine⟨λo A n' c x w'=>∃i:Nat,x=(i:Int)/\i<=D.mem.I/\o=D.mem.I - i/\OI w' (up w) 5 .u8 A n' c (mg++(([eo a b ss.length s r]++ss++ [D.words])++pgU D.mem false i).flatMap Pk.Fr)/\Pu w w',⟨_,0,rfl,by omega,rfl,by simpa[pgU]using az,q8⟩,?_⟩;rintro o _ A9 n9 c9 _ w9 ⟨i,rfl,hi,rfl,ba,V⟩;have d9:=Pu.blk V hd;have aA:=q.pu V;refine ah _ rfl ⟨_,d9.at2 rfl,af (λy=>?_) (λy=>?_)⟩
 ·obtain⟨Td,aC⟩:=aA.hd';refine ah _ rfl ⟨_,d9.at rfl,ah _ rfl ⟨_,aC.at rfl,(DI aA.mem false (i:Int)).mono ?_⟩⟩;rintro e wa ⟨_,rfl,Aa,ca,rfl,bN,C⟩;refine⟨_,_,_,rfl,zt (w:=w) (ba.pu C) (V.trans C) (a7 i) (by simp[xL];omega) bN.ints (a9 _ _) λAb nb cb wb b0 qb=>?_⟩;rintro G rfl;refine⟨D.mem.I - (i+1),by omega,i+1,by rw[aa (by omega)];omega,by omega,rfl,?_,qb⟩;rw[zM,<-List.append_assoc];exact b0
 obtain rfl:i=D.mem.I:=by omega
 rintro p1 rfl;refine⟨λo A n' c x w'=>∃i:Nat,x=(i:Int)/\i<=D.mem.S/\o=D.mem.S - i/\OI w' (up w) 5 .u8 A n' c (mg++(([eo a b ss.length s r]++ss++ [D.words])++pgU D.mem false D.mem.I++pgU D.mem true i).flatMap Pk.Fr)/\Pu w w',⟨_,0,rfl,by omega,rfl,by simpa[pgU]using ba,V⟩,?_⟩;clear aA d9;rintro o _ Aa na ca _ wa ⟨i,rfl,hi,rfl,M,C⟩;have da:=Pu.blk C hd;have bb:=q.pu C;refine ah _ rfl ⟨_,da.at2 rfl,af (λy=>?_) (λy=>?_)⟩
 ·obtain⟨Td,aC⟩:=bb.hd';refine ah _ rfl ⟨_,da.at rfl,ah _ rfl ⟨_,aC.at rfl,(DI bb.mem true (i:Int)).mono ?_⟩⟩;rintro e wb ⟨_,rfl,Ab,cb,rfl,b1,qb⟩;refine⟨_,_,_,rfl,zt (w:=w) (M.pu qb) (C.trans qb) (a8 i) (by simp[xL];omega) b1.ints (a9 _ _) λAc nc cc wc aN N=>?_⟩;rintro G rfl;refine⟨D.mem.S - (i+1),by omega,i+1,by rw[aa (by omega)];omega,by omega,rfl,?_,N⟩;rw[zM,<-List.append_assoc];exact aN
 obtain rfl:i=D.mem.S:=by omega
 have eq:([eo a b ss.length s r]++ss++ [D.words])++pgU D.mem false D.mem.I++pgU D.mem true D.mem.S=fG a b s ss D r 4:=by
  rw[fk,fk,fk,fk];show _=fG a b s ss D r 0++ [eo a b ss.length s r]++ss++ [D.words]++oZ D.mem;rw[pagesL_eq];simp[fG,pgU]
 have hlen:=M.len;have hbound:=oo (a8 D.mem.S);rw[List.length_append,show mg.length=8 from rfl]at hlen;simp only[List.length_append,List.length_cons,List.length_nil,xL]at hbound;rw[eq]at M hlen hbound;refine(Ci M.ints (by omega)).mono ?_;rintro e wb ⟨_,rfl,rfl,rfl⟩;refine⟨_,rfl,(tH _ _).mono ?_⟩;rintro e wc ⟨_,rfl,gc,rfl,aN,N⟩;refine⟨_,_,_,rfl,cu (t:=27) st8 (M.pu N) (C.trans N).size aN.ints (by omega) (by omega) λAd cd wd b2 b3=>?_⟩;exact⟨_,_,_,rfl,b2,(C.trans N).up b3⟩
end
end Go.Proofs.YtoghdgcmhbanbaaGreatDoor
end
section
set_option maxRecDepth 100000
set_option maxHeartbeats 2000000
namespace Go.Proofs.YtoghdgcmhbanbaaGreatDoor
open Go Go.RowKit V Pk
open Go.IntKind (i64 u32 u64 wrap_i64 wrap_u32)
attribute [local irreducible] DB.broken
def frJ(b j:Nat):Fm:=if j<b then⟨false,(j:Int)⟩else⟨true,((j - b:Nat):Int)⟩
def ldN(m:Mem)(b:Nat)(pgs:List (List Int)):Nat->Mem
 |0=>m
 |j+1=>(ldN m b pgs j).Lx (frJ b j).s (frJ b j).p.toNat (pgs.getD j [])
theorem tB(m:Mem)(b:Nat)(pgs:List (List Int)):∀j,(ldN m b pgs j).S=m.S
 |0=>rfl
 |j+1=>tB m b pgs j
theorem Aj(m:Mem)(b:Nat)(pgs:List (List Int)):∀j,(ldN m b pgs j).I=m.I
 |0=>rfl
 |j+1=>Aj m b pgs j
theorem LF {a b j:Nat}{f:Fm}(h:(fmL false b++fmL true a)[j]? =some f):f=frJ b j:=by
 unfold frJ;split
 ·next d=>
  rw[List.getElem?_append_left (by rw[om];omega)]at h;unfold fmL at h;rw[List.getElem?_map,List.getElem?_range d]at h;injection h with h;exact h.symm
 ·next d=>
  rw[List.getElem?_append_right (by rw[om];omega),om]at h;have e:=(List.getElem?_eq_some_iff.1 h).1;rw[om]at e;unfold fmL at h;rw[List.getElem?_map,List.getElem?_range e]at h;injection h with h;exact h.symm
theorem Ei {m:Mem}{pgs:List (List Int)}{b j:Nat}(d:m.I=b)(e:j<b+m.S):(ldN m b pgs j).has (frJ b j).s (frJ b j).p=true:=by
 unfold Mem.has Mem.cnt frJ;rw[tB,Aj];split
 ·simp;omega
 ·simp;omega
def s8H(h:List Int):S8:=⟨h.getD 3 0,h.getD 4 0,h.getD 5 0,h.getD 6 0,h.getD 7 0,h.getD 8 0,h.getD 9 0,h.getD 10 0⟩
def rgH(h:List Int):Rg:=⟨h.getD 11 0,h.getD 12 0,h.getD 13 0,h.getD 14 0,h.getD 15 0,h.getD 16 0,h.getD 17 0,h.getD 18 0,h.getD 19 0,h.getD 20 0,h.getD 21 0,h.getD 22 0,h.getD 23 0,h.getD 24 0,h.getD 25 0⟩
theorem GB {h:List Int}(hw:Wd h):(s8H h).ok:=⟨bJ hw 3,bJ hw 4,bJ hw 5,bJ hw 6,bJ hw 7,bJ hw 8,bJ hw 9,bJ hw 10⟩
theorem K9 {h:List Int}(hw:Wd h):L8 (rgH h):=by
 intro x d;simp only[rgI,rgH,List.mem_cons,List.not_mem_nil,or_false]at d;rcases d with rfl|rfl|rfl|rfl|rfl|rfl|rfl|rfl|rfl|rfl|rfl|rfl|rfl|rfl|rfl<;>exact bJ hw _
def ldF(h:List Int):Mem:=Mem.fresh (h.getD 0 0).toNat (h.getD 1 0).toNat
def ldB(h:List Int):Nat:=(h.getD 1 0).toNat
def u3(l:List Int):List U32:=l.map U32.mk
def xZ(h db:List Int)(pgs:List (List Int)):DB:=DB.load (ldN (ldF h) (ldB h) pgs pgs.length) (u3 db)
def LdE(h:List Int)(ss:List (List Int))(db:List Int)(pgs:List (List Int))(e:Int):Prop:=(¬mu (h.getD 0 0) (h.getD 1 0) ss/\e=210)\/(mu (h.getD 0 0) (h.getD 1 0) ss/\((DB.aF (ldF h) (u3 db)≠0/\e=110)\/(DB.aF (ldF h) (u3 db)=0/\(((xZ h db pgs).broken.1≠0/\e=211)\/((xZ h db pgs).broken.1=0/\e=0)))))
theorem LdE.uniq {h:List Int}{ss:List (List Int)}{db:List Int}{pgs:List (List Int)}{e o:Int}(x:LdE h ss db pgs e)(y:LdE h ss db pgs o):e=o:=by
 rcases x with⟨d,rfl⟩|⟨d,⟨f,rfl⟩|⟨f,⟨i,rfl⟩|⟨i,rfl⟩⟩⟩<;>rcases y with⟨j,rfl⟩|⟨j,⟨k,rfl⟩|⟨k,⟨m,rfl⟩|⟨m,rfl⟩⟩⟩<;>first|rfl|(exfalso;first|exact d j|exact j d|exact f k|exact k f|exact i m|exact m i)
theorem LdE.mok {h:List Int}{ss:List (List Int)}{db:List Int}{pgs:List (List Int)}(x:LdE h ss db pgs 0)(hw:Wd h)(f:∀p∈ss,Wd p):MOk (h.getD 0 0) (h.getD 1 0) (s8H h) ss (xZ h db pgs) (rgH h):=by
 rcases x with⟨d,e⟩|⟨d,_⟩
 ·exact absurd e (by decide)
 refine⟨d,GB hw,f,K9 hw,?_,?_⟩
 ·show(((ldN (ldF h) (ldB h) pgs pgs.length).S:Nat):Int)=_;rw[tB];show(((h.getD 0 0).toNat:Nat):Int)=_;have:=d.1;omega
 ·show(((ldN (ldF h) (ldB h) pgs pgs.length).I:Nat):Int)=_;rw[Aj];show(((h.getD 1 0).toNat:Nat):Int)=_;have:=d.2.2.1;omega
def LdQ(l:List Int)(p:oA)(e:Int)(M:List Int->List (List Int)->DB->Nat->Prop):Prop:=(l.take 8≠mg/\e=270/\p=none)\/(l.take 8=mg/\(((¬∃h d t,Snp (l.drop 8) h d t)/\e=272/\p=none)\/∃h ss db pgs t,Snp (l.drop 8) h (ss++db::pgs) t/\(ss.length:Int)=h.getD 2 0/\((crc (l.take (l.length - 4))≠cn (l.drop (l.length - 4))/\e=271/\p=none)\/(crc (l.take (l.length - 4))=cn (l.drop (l.length - 4))/\LdE h ss db pgs e/\((e≠0/\p=none)\/(e=0/\∃g,p=some (vA g)/\M h ss (xZ h db pgs) g))))))
theorem LdQ.mono {l:List Int}{p:Option Addr}{e:Int}{M N:List Int->List (List Int)->DB->Nat->Prop}(h:LdQ l p e M)(hm:∀h ss D g,M h ss D g->N h ss D g):LdQ l p e N:=by
 rcases h with h|⟨d,h|⟨h,ss,db,pgs,t,i,j,f|⟨f,m,k|⟨k,g,o,q⟩⟩⟩⟩
 ·exact .inl h
 ·exact .inr ⟨d,.inl h⟩
 ·exact .inr ⟨d,.inr ⟨h,ss,db,pgs,t,i,j,.inl f⟩⟩
 ·exact .inr ⟨d,.inr ⟨h,ss,db,pgs,t,i,j,.inr ⟨f,m,.inl k⟩⟩⟩
 ·exact .inr ⟨d,.inr ⟨h,ss,db,pgs,t,i,j,.inr ⟨f,m,.inr ⟨k,g,o,hm _ _ _ _ q⟩⟩⟩⟩
theorem LdQ.err {l:List Int}{p:Option Addr}{e:Int}{M:List Int->List (List Int)->DB->Nat->Prop}(h:LdQ l p e M)(he:e≠0):LdQ l none e M:=by
 rcases h with⟨f,d,rfl⟩|⟨f,⟨d,i,rfl⟩|⟨h,ss,db,pgs,t,d,i,⟨j,k,rfl⟩|⟨j,k,⟨m,rfl⟩|⟨m,_⟩⟩⟩⟩
 ·exact .inl ⟨f,d,rfl⟩
 ·exact .inr ⟨f,.inl ⟨d,i,rfl⟩⟩
 ·exact .inr ⟨f,.inr ⟨h,ss,db,pgs,t,d,i,.inl ⟨j,k,rfl⟩⟩⟩
 ·exact .inr ⟨f,.inr ⟨h,ss,db,pgs,t,d,i,.inr ⟨j,k,.inl ⟨m,rfl⟩⟩⟩⟩
 ·exact absurd m he
theorem LdQ.both {l:List Int}{p j:Option Addr}{e z:Int}{M N:List Int->List (List Int)->DB->Nat->Prop}(x:LdQ l p e M)(y:LdQ l j z N):
 e=z/\((e≠0/\p=none/\j=none)\/(e=0/\∃h ss db pgs g i,MOk (h.getD 0 0) (h.getD 1 0) (s8H h) ss (xZ h db pgs) (rgH h)/\p=some (vA g)/\j=some (vA i)/\M h ss (xZ h db pgs) g/\N h ss (xZ h db pgs) i)):=by
 rcases x with⟨k,rfl,rfl⟩|⟨k,x⟩
 ·rcases y with⟨_,rfl,rfl⟩|⟨m,_⟩
  ·exact⟨rfl,.inl ⟨by decide,rfl,rfl⟩⟩
  ·exact absurd m k
 rcases y with⟨m,_⟩|⟨_,y⟩
 ·exact absurd k m
 rcases x with⟨d,rfl,rfl⟩|⟨h,ss,db,pgs,t,d,Q,x⟩
 ·rcases y with⟨_,rfl,rfl⟩|⟨h,ss,db,pgs,t,f,_⟩
  ·exact⟨rfl,.inl ⟨by decide,rfl,rfl⟩⟩
  ·exact absurd ⟨_,_,_,f⟩ d
 rcases y with⟨f,_⟩|⟨R,S,T,U,V,f,k3,y⟩
 ·exact absurd ⟨_,_,_,d⟩ f
 obtain⟨rfl,E,_⟩:=d.uniq f;obtain⟨rfl,o⟩:=List.append_inj E (by omega);injection o with o F
 subst o F;rcases x with⟨q,rfl,rfl⟩|⟨q,x⟩
 ·rcases y with⟨_,rfl,rfl⟩|⟨u,_⟩
  ·exact⟨rfl,.inl ⟨by decide,rfl,rfl⟩⟩
  ·exact absurd u q
 rcases y with⟨u,_⟩|⟨_,y⟩
 ·exact absurd q u
 obtain⟨B,x⟩:=x;obtain⟨G,y⟩:=y;obtain rfl:=B.uniq G;rcases x with⟨C,rfl⟩|⟨rfl,g,rfl,I⟩
 ·rcases y with⟨_,rfl⟩|⟨v,_⟩
  ·exact⟨rfl,.inl ⟨C,rfl,rfl⟩⟩
  ·exact absurd v C
 ·rcases y with⟨v,_⟩|⟨_,i,rfl,J⟩
  ·exact absurd rfl v
  ·exact⟨rfl,.inr ⟨rfl,h,ss,db,pgs,g,i,B.mok (d.sh.2 _ (List.mem_cons_self ..)).1 (λp O=>(d.sh.2 p (List.mem_cons_of_mem _ (List.mem_append_left _ O))).1),rfl,rfl,I,J⟩⟩
section
variable {w:World}{A:Option Addr}{n c:Nat}{l:List Int}{Z:Nat->Prop}
theorem V.aD.rdU(h:aD w Z .u32 A n c l):Rd w (λk=>Z k/\k<w.heap.size) A n c (u3 l):=
 ⟨by unfold u3;simp[h.len],h.cap,λk m=>m.2,λi x d=>by
  unfold u3 at d;rw[List.getElem?_map]at d;obtain⟨y,o,rfl⟩:=Option.map_eq_some_iff.1 d;obtain⟨p,q,t,e⟩:=h.cell i y o;refine⟨p,q,⟨t,by have:=World.block_lt_of_cell? w _ e;rwa[block_add]at this⟩,λj f=>?_⟩;have f:j<1:=f;obtain rfl:j=0:=by omega
  rw[add_add,Nat.add_zero,show i*Enc.size U32=i from Nat.mul_one i];exact e⟩
theorem V.aD.cells {k:IntKind}(h:aD w Z k A n c l)(m:0<n):∃p,A=some p/\Z p.block/\p.block<w.heap.size/\∀j,j<n->w.cell? (p.add j)=some (.int k (l.getD j 0)):=by
 have o:=h.len;obtain⟨p,d,e,f⟩:=h.cell 0 _ (List.getElem?_eq_getElem (by omega));refine⟨p,d,e,by have:=World.block_lt_of_cell? w _ f;rwa[block_add]at this,λj t=>?_⟩;obtain⟨q,hq,_,i⟩:=h.cell j _ (List.getElem?_eq_getElem (show j<l.length by omega));rw[d]at hq;injection hq with hq
 rw[hq,i,List.getD_eq_getElem?_getD,List.getElem?_eq_getElem (by omega)];rfl
theorem Kt {l:List Int}(h:Wd l):∀x∈u3 l,0<=x.v/\x.v<4294967296:=λx d=>by
 obtain⟨y,e,rfl⟩:=List.mem_map.1 d;exact h y e
theorem Lr:Bt mg:=by intro x d;simp only[mg,List.mem_cons,List.not_mem_nil,or_false]at d;omega
theorem Ha:(⟨#[119,97,114,100,101,110,32,49]⟩:ByteArray)=strOf mg:=by decide
end
end Go.Proofs.YtoghdgcmhbanbaaGreatDoor
end
section
set_option maxRecDepth 100000
set_option maxHeartbeats 4000000
namespace Go.Proofs.YtoghdgcmhbanbaaGreatDoor
open Go Go.RowKit V Pk
open Go.IntKind (i64 u32 u64 wrap_i64 wrap_u32)
attribute [local irreducible] DB.broken
theorem lV {w:World}{g d:Nat}{T x:TypeId}{f h i j:Option Addr}{k m o p q t u v:Nat}{y:Array Value}(e:Blk w d #[.slice f k m,.slice h o p,.slice i q t,.slice j u v] T)(b0:Blk w g y x)(a7:y.size=4){v1 v2:Value}{R:aK}
 (hR:∀w2,br w g #[.slice f k m,.slice h o p,.slice i q t,.slice j u v] x w2->R (.tuple #[.agg #[.slice f k m,.slice h o p,.slice i q t,.slice j u v],v1,v2]) w2):
 ∃z:oA,∃B C:Nat,∃E:oA,∃F G:Nat,∃I:oA,∃J M:Nat,∃N:oA,∃O Q:Nat,(w.cell? ((vA d).add 0)=some (.slice z B C)/\w.cell? ((vA d).add 1)=some (.slice E F G)/\w.cell? ((vA d).add 2)=some (.slice I J M)/\w.cell? ((vA d).add 3)=some (.slice N O Q))/\
 ao w (vA g) [(.slice z B C),(.slice E F G),(.slice I J M),(.slice N O Q)] λw8=>
 ∃S:oA,∃U V:Nat,∃an:oA,∃az a0:Nat,∃a1:oA,∃a2 a3:Nat,∃a4:oA,∃a5 a6:Nat,(w8.cell? ((vA g).add 0)=some (.slice S U V)/\w8.cell? ((vA g).add 1)=some (.slice an az a0)/\w8.cell? ((vA g).add 2)=some (.slice a1 a2 a3)/\w8.cell? ((vA g).add 3)=some (.slice a4 a5 a6))/\
 R (.tuple #[(.agg #[(.slice S U V),(.slice an az a0),(.slice a1 a2 a3),(.slice a4 a5 a6)]),v1,v2]) w8:=by
 refine⟨_,_,_,_,_,_,_,_,_,_,_,_,⟨e.at rfl,e.at rfl,e.at rfl,e.at rfl⟩,aI b0 a7.symm λw2 s2=>?_⟩;have c:=s2.blk;exact⟨_,_,_,_,_,_,_,_,_,_,_,_,⟨c.at rfl,c.at rfl,c.at rfl,c.at rfl⟩,hR w2 s2⟩
theorem NL.rdB {w:World}{A:Option Addr}{n c:Nat}{ps:List (List Int)}{Z B:Nat->Prop}(h:NL w Z A n c ps){i:Int}(f:0<=i)(j:i<(n:Int))(o:∀k,Z k->B k){K:Option Addr->Nat->Nat->Prop}(q:∀B m d,aD w Z .u32 B m d (ps.getD i.toNat [])->K B m d):
 (0<=i/\i<((n:Nat):Int))/\ai A λp=>B ((p.add (i.toNat *1)).block)/\∃(B:oA)(m d:Nat),w.cell? (p.add (i.toNat *1))=some (.slice B m d)/\K B m d:=by
 have x:=h.len;have e:i.toNat<ps.length:=by omega
 obtain⟨p,hd,t,u,v,hi⟩:=h.cell i.toNat _ (List.getElem?_eq_getElem e);refine⟨⟨f,j⟩,ah p t ⟨by rw[block_add];exact o _ u,hd.A,hd.n,hd.c,by rw[Nat.mul_one];exact v,q _ _ _ ?_⟩⟩
 rwa[List.getD_eq_getElem?_getD,List.getElem?_eq_getElem e]
theorem Hj {b:Nat->Nat->Prop}{i:Nat}{X:Nat->Prop}{w1 w2:World}(h:∀k,¬b i k)(q:Ch X w1 w2):Kept (aX b [i]) w1 w2:=q.kept.mono λk d=>absurd d (h k)
theorem pU(S I:Nat):∀k,(Mem.fresh S I).fv k=Mem.fresh S I
 |0=>rfl
 | k+1=>by
  show((Mem.fresh S I).fv k).zero true k=_;rw[pU S I k];unfold Mem.zero Mem.fill Mem.tick Mem.fresh;simp
theorem Ag {m:Mem}{l:List U32}(h:DB.aF m l≠0):DB.aF m l=110:=by
 unfold DB.aF at h ⊢;split
 ·rfl
 ·split
  ·rfl
  ·split
   ·next d e f=>rw[if_neg d,if_neg e,if_pos f]at h;exact absurd rfl h
   ·rfl
section
variable {w:World}{A:Option Addr}{n c:Nat}{l:List Int}{Z:Nat->Prop}{K:List Int}
def Ma(w:World):List Int->List (List Int)->DB->Nat->Prop:=λh ss D g=>∃L,nH w g (h.getD 0 0) (h.getD 1 0) (s8H h) ss L D (rgH h)
def IB(l:List Int)(w:World)(v:Value)(w':World):Prop:=∃d f h i j k m o q t u x p e,v=.tuple #[.agg #[.slice d f h,.slice i j k,.slice m o q,.slice t u x],.pointer p,.int .i64 e]/\Pu w w'/\LdQ l p e (Ma w')
theorem La(d:cR w 1 K)(h:aD w Z .u8 A n c l)(hm:n<=140737488355328)(cc:Bt l):
 Calls Tryz.prog 30 #[.slice A n c] w λe w'=>∃v,e=.returned v/\IB l w v w':=by
 have hl:=h.len;have c1:=h.cap;have gk:mg.length=8:=rfl;refine yz _ _ _ (mkd λg0 w0 m0=>?_);have p0:Pu w w0:=m0.pu;have n0:=m0.num;have z0:=m0.size;refine⟨λx w'=>(x=true↔l.take 8≠mg)/\w0=w',?_,?_⟩
 ·refine af (λhb=>⟨⟨λ_ e=>?_,λ_=>rfl⟩,rfl⟩) (λhb=>⟨⟨by omega,by omega⟩,?_⟩)
  ·have I:=congrArg List.length e;rw[List.length_take]at I;omega
  rintro xA hA xN hN xC hC;have G:aD w Z .u8 xA xN xC ((l.take 8).drop 0):=h.cut (lo:=0) (hi:=8) (m:=c) hA hN hC (by omega) (by omega) (by omega);rw[List.drop_zero]at G;refine⟨_,_,fL sG kG jg (G.pu p0),?_,rfl⟩;rw[Ha,strOf_eq (cc.take 8) Lr];simp
 rintro _ x _ ⟨G,rfl⟩;refine ab (λhb=>?_) (λhb=>?_)
 ·refine aI m0.blk rfl λw2 s2=>?_;have c2:=s2.blk;exact⟨_,_,_,_,_,_,_,_,_,_,_,_,⟨c2.at rfl,c2.at rfl,c2.at rfl,c2.at rfl⟩,_,_,_,_,_,_,_,_,_,_,_,_,_,_,rfl,p0.stored s2 (.inr (by omega)),.inl ⟨G.1 hb,rfl,rfl⟩⟩
 have a1:l.take 8=mg:=Classical.not_not.1 λhn=>by have z:=G.2 hn;rw[hb]at z;cases z
 have h8:8<=n:=by have z:=congrArg List.length a1;rw[List.length_take]at z;omega
 refine⟨⟨by omega,by omega⟩,?_⟩;rintro xA hA xN hN xC hC;have hd:aD w Z .u8 xA xN xC (l.drop 8):=h.from_ (lo:=8) (m:=c) hA hN hC h8 c1;refine(JZ (hd.pu p0) (by omega) (cc.drop 8)).mono ?_;rintro e w2 ⟨_,rfl,aA,aN,aC,bA,bN,bC,sA,sN,sC,pA,pN,pC,ok,rfl,q2,eb⟩;refine⟨_,_,_,_,_,_,_,_,_,_,_,_,_,rfl,mkd λg1 w3 m3=>aI m3.blk rfl λU s4=>?_⟩;have p2:Pu w w2:=p0.trans q2;have n3:=m3.num;have z2:=q2.size;have gr:=p2.size;have c3:Pu w2 U:=(show Pu w2 w3 from m3.pu).stored s4 (.inr (by omega));have p4:Pu w U:=p2.trans c3;have C:=s4.blk;have V:=s4.old (m3.old (Pu.blk q2 m0.blk)) (by omega);have bad:∀ {y:World}{e:Int}{T0:TypeId},Pu U y->(∀M,LdQ l none e M)->∀w6,br y g0 #[.slice aA aN aC,.slice bA bN bC,.slice sA sN sC,.slice pA pN pC] T0 w6->IB l w (.tuple #[.agg #[.slice aA aN aC,.slice bA bN bC,.slice sA sN sC,.slice pA pN pC],.pointer none,.int .i64 e]) w6:=
  λq hQ w6 s6=>⟨_,_,_,_,_,_,_,_,_,_,_,_,_,_,rfl,(p4.trans q).stored s6 (.inr (by omega)),hQ _⟩
 rcases eb.symm with⟨rfl,cf⟩|⟨rfl,o,ss,db,pgs,t,E,a9,hi,ec,cg,c4⟩
 ·exact aU (lV C V rfl (bad (Ch.refl _ _) λM=>.inr ⟨a1,.inl ⟨cf,rfl,rfl⟩⟩))
 refine bG ?_;rintro at0 ed;rw[aa (by omega)]at ed;obtain⟨N,rfl,gv⟩:∃N:Nat,at0=(N:Int)/\N+4=n:=⟨n - 4,by omega,by omega⟩;have eN:l.length - 4=N:=by omega
 refine⟨λ_ k=>k<U.heap.size,⟨by omega,by omega⟩,?_⟩;rintro yA c5 yN c6 yC c7;refine⟨⟨by omega,by omega⟩,?_⟩;rintro zA ee zN c8 zC ei;rw[Int.toNat_natCast]at c5 c6 c7 c8;have hy:aD w Z .u8 yA yN yC (l.drop N):=h.from_ (lo:=N) (m:=c) c5 c6 c7 (by omega) c1;have hz:aD w Z .u8 zA zN zC ((l.take N).drop 0):=h.cut (lo:=0) (hi:=N) (m:=c) ee c8 ei (by omega) (by omega) (by omega);rw[List.drop_zero]at hz;refine(Ao (hy.pu p4.drew) (by omega) (cc.drop N)).mono ?_;rintro e y ⟨_,rfl,rfl,q5⟩;refine⟨_,rfl,aY (λk d=>d) q5,_,λ_ _ h=>h,(Kv (hz.pu (p4.drew.trans q5)) (by omega)).mono ?_⟩;rintro e y ⟨_,rfl,rfl,rfl⟩;have a2:Pu U y:=(Pu.aw U).trans q5;have p5:Pu w y:=p4.trans a2;have C:=Pu.blk a2 C;have V:=Pu.blk a2 V;refine⟨_,rfl,_,λ_ _ h=>h,aG (λba=>lV C V rfl (bad a2 λM=>.inr ⟨a1,.inr ⟨o,ss,db,pgs,t,E,a9,.inl ⟨by rw[eN];exact Ne.symm ba,rfl,rfl⟩⟩⟩)) (λheq=>?_)⟩;have bs:crc (l.take (l.length - 4))=cn (l.drop (l.length - 4)):=by rw[eN];exact heq.symm
 have h26:aN=26:=by rw[<-hi.len];exact E.h26
 have gw:=hi.cap;obtain⟨g2,g4,g6⟩:=E.le;have a3:Wd o:=(E.sh.2 _ (List.mem_cons_self ..)).1;have er:Wd db:=(E.sh.2 db (List.mem_cons_of_mem _ (List.mem_append_right _ (List.mem_cons_self ..)))).1;have a5:Pu w2 y:=c3.trans a2;have hi:=hi.pu a5;have d1:=C.drew;refine⟨λ_ k=>k<y.heap.size,C.lt,_,_,_,_,_,_,_,_,_,_,_,_,⟨d1.at rfl,d1.at rfl,d1.at rfl,d1.at rfl⟩,C.lt,_,_,_,_,_,_,_,_,_,_,_,_,⟨d1.at rfl,d1.at rfl,d1.at rfl,d1.at rfl⟩,by rw[block_add];exact C.lt,_,_,_,d1.at rfl,⟨by omega,by omega⟩,⟨by omega,by decide⟩,?_⟩;rintro uA et uN g7 uC ey;obtain⟨p,hp,_,b2,u⟩:=(hi.drew.from_ (lo:=3) (m:=aC) (n':=aN - 3) et rfl ey (by omega) (by omega)).cells (by omega);have u:∀j,j<23->y.drew.cell? (p.add j)=some (O (o.getD (3+j) 0)):=λj hj=>by rw[u j (by omega),dP]
 refine⟨by omega,ah p hp ⟨b2,_,_,_,_,_,_,_,_,⟨u 0 (by omega),u 1 (by omega),u 2 (by omega),u 3 (by omega),u 4 (by omega),u 5 (by omega),u 6 (by omega),u 7 (by omega)⟩,by rw[block_add];exact C.lt,_,_,_,d1.at rfl,?_⟩⟩;refine⟨(Ed hi.drew h26 a3).mono ?_,mkd λg3 w7 m7=>⟨aY (λk d=>d) m7.pu,_,λ_ _ h=>h,(Ed (hi.drew.pu m7.pu) h26 a3).mono ?_⟩⟩;rintro e w7 ⟨_,rfl,rfl,J⟩;refine⟨_,rfl,aY (λk d=>d) J,_,λ_ _ h=>h,(tC (hi.drew.pu J) h26 a3).mono ?_,mkd λg3 w8 m8=>⟨aY (λk d=>Nat.lt_of_lt_of_le d J.size) m8.pu,_,λ_ _ h=>h,(tC ((hi.drew.pu J).pu m8.pu) h26 a3).mono ?_⟩⟩;rintro e w8 ⟨_,rfl,rfl,Q⟩;refine⟨_,rfl,aY (λk d=>Nat.lt_of_lt_of_le d J.size) Q,_,λ_ _ h=>h,mkd λg3 w9 m9=>⟨aY (λk d=>Nat.lt_of_lt_of_le d (Nat.le_trans J.size Q.size)) m9.pu,_,λ_ _ h=>h,aI m9.blk rfl λT an=>⟨_,λ_ _ h=>h,?_⟩⟩⟩;have az:Pu y T:=((((Pu.aw y).trans J).trans Q).made m9).stored an (.inr (by have z:=m9.num;have h2:y.heap.size<=w7.heap.size:=J.size;have h3:=Q.size;omega));have F:=an.blk
 rotate_left
 rintro e w9 ⟨_,rfl,rfl,q9⟩;refine⟨_,rfl,aY (λk d=>Nat.lt_of_lt_of_le d (Nat.le_trans J.size (show Pu w7 w8 from m8.pu).size)) q9,_,λ_ _ h=>h,aI (Pu.blk q9 m8.blk) rfl λT an=>⟨_,λ_ _ h=>h,?_⟩⟩;have az:Pu y T:=((((Pu.aw y).trans J).made m8).trans q9).stored an (.inr (by have z:=m8.num;have h2:y.heap.size<=w7.heap.size:=J.size;omega));have F:=an.blk
 rotate_left
 rintro e w8 ⟨_,rfl,rfl,Q⟩;refine⟨_,rfl,aY (λk d=>Nat.lt_of_lt_of_le d (show Pu y.drew w7 from m7.pu).size) Q,_,λ_ _ h=>h,(tC ((hi.drew.pu m7.pu).pu Q) h26 a3).mono ?_⟩;rintro e w9 ⟨_,rfl,rfl,q9⟩;refine⟨_,rfl,aY (λk d=>Nat.lt_of_lt_of_le d (Nat.le_trans (show Pu y.drew w7 from m7.pu).size Q.size)) q9,_,λ_ _ h=>h,aI (Pu.blk q9 (Pu.blk Q m7.blk)) rfl λT an=>⟨_,λ_ _ h=>h,?_⟩⟩;have az:Pu y T:=((((Pu.aw y).made m7).trans Q).trans q9).stored an (.inr (by have z:=m7.num;have h2:y.drew.heap.size=y.heap.size:=rfl;omega));have F:=an.blk
 all_goals
  have c9:Pu w T:=p5.trans az;have g8:=cg.len;have ha:sN<=64:=by have z:=E.le.2.2;omega
  refine⟨_,_,_,_,_,_,_,_,_,_,_,_,_,⟨F.at rfl,F.at rfl,F.at rfl,F.at rfl,F.at rfl,F.at rfl,F.at rfl,F.at rfl,F.at rfl,F.at rfl,F.at rfl⟩,(My (a:=o.getD 0 0) (b:=o.getD 1 0) (s:=s8H o) (d.pu c9) (cg.pu (a5.trans az)) (by omega)).mono ?_⟩;rintro e bb ⟨_,rfl,bc,eL⟩;have da:Pu U bb:=(a2.trans az).trans bc;have bd:Pu y bb:=az.trans bc;rcases eL with⟨cf,rfl⟩|⟨a6,gm,L,rfl,cj,eM⟩
  ·exact⟨_,_,rfl,aG (λ_=>lV (Pu.blk bd C) (Pu.blk bd V) rfl (bad da λM=>.inr ⟨a1,.inr ⟨o,ss,db,pgs,t,E,a9,.inr ⟨bs,.inl ⟨cf,rfl⟩,.inl ⟨by decide,rfl⟩⟩⟩⟩)) (λe=>absurd e (by decide))⟩
  refine⟨_,_,rfl,aG (λhn=>absurd rfl hn) (λ_=>(Jy cj).mono ?_)⟩;rintro e bb ⟨_,rfl,rfl,rfl⟩;refine⟨_,rfl,(yj cj.db).mono ?_⟩;rintro e bb ⟨_,rfl,rfl,rfl⟩;have hM:cH bb L.M (ldF o):=by have z:=cj.db.mem;rwa[show(DB.new (Mem.fresh (o.getD 0 0).toNat (o.getD 1 0).toNat)).mem=ldF o from pU _ _ _]at z
  refine⟨_,rfl,_,_,_,(Pu.blk bd C).at rfl,(MN hM (ec.pu (a5.trans bd)).rdU (Kt er)).mono ?_⟩;rintro e a7 ⟨_,rfl,p2,rfl,eS,hg,b4⟩;have b6:Pu y a7:=bd.trans b4;refine⟨_,_,rfl,aG (λba=>?_) (λhle=>?_)⟩
  ·exact lV (Pu.blk b6 C) (Pu.blk b6 V) rfl (bad (da.trans b4) λM=>.inr ⟨a1,.inr ⟨o,ss,db,pgs,t,E,a9,.inr ⟨bs,.inr ⟨a6,.inl ⟨ba,Ag ba⟩⟩,.inl ⟨ba,rfl⟩⟩⟩⟩)
  obtain⟨gd,ad,rfl,hD,ho,hq⟩:=eS hle;have I:=(Pu.blk b6 C).drew;have dc:=hi.pu (b6.drew);refine⟨λ_ k=>k<a7.heap.size,I.lt,_,_,_,_,_,_,_,_,_,_,_,_,⟨I.at rfl,I.at rfl,I.at rfl,I.at rfl⟩,I.lt,_,_,_,_,_,_,_,_,_,_,_,_,⟨I.at rfl,I.at rfl,I.at rfl,I.at rfl⟩,(tC dc h26 a3).mono ?_⟩;rintro e e0 ⟨_,rfl,rfl,a8⟩;refine⟨_,rfl,aY (λk d=>d) a8,_,λ_ _ h=>h,(Ed (dc.pu a8) h26 a3).mono ?_⟩;rintro e dd ⟨_,rfl,rfl,b7⟩;refine⟨_,rfl,aY (λk d=>Nat.lt_of_lt_of_le d a8.size) b7,_,λ_ _ h=>h,?_⟩;have hB:((ldB o:Nat):Int)=o.getD 1 0:=by have z:=a6.2.2.1;unfold ldB;omega
  have dk:(((ldF o).S:Nat):Int)=o.getD 0 0:=by have z:=a6.1;show(((o.getD 0 0).toNat:Nat):Int)=_;omega
  have hf:=Ap (ldB o) (ldF o).S (by have z:=E.le.2.1;omega) (by have z:=E.le.1;omega) dd;rw[hB,dk]at hf;refine hf.mono ?_;rintro e ck ⟨_,rfl,fA,fC,rfl,hF,dp⟩;refine⟨_,_,_,rfl,aY (λk d=>Nat.lt_of_lt_of_le d (Nat.le_trans a8.size b7.size)) dp,_,λ_ _ h=>h,?_⟩;have dr:Pu a7 ck:=(((Pu.aw a7).trans a8).trans b7).trans dp;have hr:pgs.length=ldB o+(ldF o).S:=by have z:=E.num;rw[List.length_append,List.length_cons]at z;omega
  have b2:=c4.len;have e2:∀k,L.M.X k->k<dd.heap.size:=λk d=>Nat.lt_of_lt_of_le (hM.lt k d) (Nat.le_trans b4.size (Nat.le_trans (show Pu a7 e0 from(Pu.aw a7).trans a8).size b7.size));have ct:∀k,L.M.X k->T.heap.size<=k:=λk d=>eM k (.inr (.inr d));have e3:Pu T ck:=(bc.trans b4).trans dr;have hs:=az.size;have e4:=a5.size;refine⟨λmz x w'=>∃j:Nat,x=(j:Int)/\j<=ldB o+(ldF o).S/\mz=ldB o+(ldF o).S - j/\DBP w' ⟨gd,ad,L.M⟩ (DB.load (ldN (ldF o) (ldB o) pgs j) (u3 db))/\Ch L.M.X ck w',⟨_,0,rfl,Nat.zero_le _,rfl,hD.pu dr,Ch.refl _ _⟩,?_⟩;rintro mz _ _ S ⟨j,rfl,hj,rfl,dA,cA⟩;have b8:Pu T S:=e3.call cA λk d=>.inr (ct k d);have a0:Pu y S:=az.trans b8;refine af (λhb=>?_) (λhb=>?_)
  ·obtain⟨p,f,hp,dC,_,hc⟩:=(hF.ch cA λk d G=>absurd (e2 k G) (Nat.not_lt.2 d.1)).ld (i:=(j:Int)) (by omega) (by omega);rw[Int.toNat_natCast]at dC hc;obtain rfl:=LF dC;refine⟨⟨by omega,by omega⟩,ah p hp ⟨_,_,⟨hc 0 (by decide),hc 1 (by decide)⟩,mkd λg5 b9 cC=>aI cC.blk rfl λa4 bg=>?_⟩⟩;have bl:Pu S a4:=(show Pu S b9 from cC.pu).stored bg (.inr (by have z:=cC.num;omega));have b5:=bg.blk.drew;have f1:=(Pu.blk (a0.trans bl) C).drew;refine⟨λi k=>i≠2/\k<a4.heap.size,⟨by decide,b5.lt⟩,_,_,⟨b5.at rfl,b5.at rfl⟩,by rw[block_add];exact⟨by decide,f1.lt⟩,_,_,_,f1.at rfl,?_⟩;have e5:w2.heap.size<=a4.heap.size:=Nat.le_trans e4 (a0.trans bl).size;refine((c4.lt.pu ((a5.trans a0).trans bl)).drew).rdB (i:=(j:Int)) (B:=λk=>(6:Nat)≠2/\k<a4.heap.size) (by omega) (by omega) (λk d=>⟨by decide,Nat.lt_of_lt_of_le d.2 e5⟩) λB5 m5 d5 cM=>?_;rw[Int.toNat_natCast]at cM;have dN:pgs.getD j []=pgs[j]'(by omega):=by rw[List.getD_eq_getElem?_getD,List.getElem?_eq_getElem (by omega)];rfl
   have e6:pgs.getD j []∈o::(ss++db::pgs):=by rw[dN];exact List.mem_cons_of_mem _ (List.mem_append_right _ (List.mem_cons_of_mem _ (List.getElem_mem _)))
   have ht:(pgs.getD j []).length=1024:=E.pgs (ss.length+1+j) _ (by rw[List.getElem?_append_right (by omega),show ss.length+1+j - ss.length=j+1 by omega,List.getElem?_cons_succ,dN];exact List.getElem?_eq_getElem (by omega)) (by omega);have dT:=dA.pu (bl.trans (Pu.aw a4));have hv:=cM.len;refine(Nq dT.mem (Ei rfl (by omega)) cM (by omega) (E.sh.2 _ e6).1 λk d hz=>?_).mono ?_
   ·have z:=ct k d;have h2:=hz.2;omega
   rintro e hE ⟨_,rfl,rfl,e7,cN⟩;exact⟨_,rfl,Hj (λk d=>d.1 rfl) cN,_,λ_ _ h=>h,ldB o+(ldF o).S - (j+1),by omega,j+1,by rw[aa (by omega)];omega,by omega,rfl,dT.G5 e7 cN rfl,(cA.pu (bl.trans (Pu.aw a4))).trans cN⟩
  ·obtain rfl:j=pgs.length:=by omega
   have f3:=(Pu.blk b8 F).drew;have f1:=(Pu.blk a0 C).drew;refine⟨λ_ k=>k<S.heap.size,f3.lt,_,_,_,_,_,_,_,_,_,_,_,_,_,⟨f3.at rfl,f3.at rfl,f3.at rfl,f3.at rfl,f3.at rfl,f3.at rfl,f3.at rfl,f3.at rfl,f3.at rfl,f3.at rfl,f3.at rfl⟩,by rw[block_add];exact f1.lt,_,_,_,f1.at rfl,⟨by omega,by omega⟩,?_⟩;rintro rA e8 rN e9 rC fa;obtain⟨p,hp,_,b2,u⟩:=((hi.pu a0.drew).from_ (lo:=11) (m:=aC) e8 e9 fa (by omega) (by omega)).cells (by omega);have u:∀j,j<15->S.drew.cell? (p.add j)=some (O (o.getD (11+j) 0)):=λj hj=>by rw[u j (by omega),dP]
   refine⟨by omega,ah p hp ⟨b2,_,_,_,_,_,_,_,_,_,_,_,_,_,_,_,⟨u 0 (by omega),u 1 (by omega),u 2 (by omega),u 3 (by omega),u 4 (by omega),u 5 (by omega),u 6 (by omega),u 7 (by omega),u 8 (by omega),u 9 (by omega),u 10 (by omega),u 11 (by omega),u 12 (by omega),u 13 (by omega),u 14 (by omega)⟩,?_⟩⟩;have fb:Pu w S.drew:=(c9.trans b8).drew;have ga:DBP S.drew ⟨gd,ad,L.M⟩ (xZ o db pgs):=dA.pu (Pu.aw S);refine(Lq (a:=o.getD 0 0) (b:=o.getD 1 0) (s:=s8H o) (rgH o) (d.pu fb) (cg.pu ((a5.trans a0).drew)) a6 ga ?_ ?_).mono ?_
   ·show(((ldN (ldF o) (ldB o) pgs pgs.length).S:Nat):Int)=_;rw[tB];exact dk
   ·show(((ldN (ldF o) (ldB o) pgs pgs.length).I:Nat):Int)=_;rw[Aj];exact hB
   rintro e b9 ⟨_,rfl,ca,gb⟩;have ea:Pu U b9:=(a2.trans a0).drew.trans ca;have cb:Pu y b9:=a0.drew.trans ca;rcases gb with⟨c0,rfl⟩|⟨c0,gf,rfl,gh⟩
   ·exact⟨_,_,rfl,aY (λk d=>d) ca,_,λ_ _ h=>h,lV (Pu.blk cb C) (Pu.blk cb V) rfl (bad ea λM=>.inr ⟨a1,.inr ⟨o,ss,db,pgs,t,E,a9,.inr ⟨bs,.inr ⟨a6,.inr ⟨hle,.inl ⟨c0,rfl⟩⟩⟩,.inl ⟨by decide,rfl⟩⟩⟩⟩)⟩
   ·refine⟨_,_,rfl,aY (λk d=>d) ca,_,λ_ _ h=>h,lV (R:=IB l w) (Pu.blk cb C) (Pu.blk cb V) rfl λa4 bg=>⟨_,_,_,_,_,_,_,_,_,_,_,_,_,_,rfl,(p4.trans ea).stored bg (.inr (by omega)),.inr ⟨a1,.inr ⟨o,ss,db,pgs,t,E,a9,.inr ⟨bs,.inr ⟨a6,.inr ⟨hle,.inr ⟨c0,rfl⟩⟩⟩,.inr ⟨rfl,gf,rfl,_,gh bg.ch λk d=>?_⟩⟩⟩⟩⟩⟩;subst d;have hG:=b8.size;refine⟨by show k<S.heap.size;omega,?_⟩;rintro(G|G|G)
    ·have z:k=gd:=G;have h2:=bc.size;omega
    ·have z:k=ad:=G;have h2:=bc.size;omega
    ·have z:=ct k G;omega
theorem Lv(m:cR w 1 K)(h:aD w Z .u8 A n c l)(hm:n<=140737488355328)(o:Bt l):
 Calls Tryz.prog 15 #[.slice A n c] w λe w'=>∃v,e=.returned v/\∃p e,v=.tuple #[.pointer p,.int .i64 e]/\Pu w w'/\LdQ l p e (Ma w'):=by
 refine yE _ _ _ ((La m h hm o).mono ?_);rintro e w1 ⟨_,rfl,y,z,B,C,E,F,G,I,J,M,N,O,p,e,rfl,i,q⟩;refine⟨_,_,_,_,_,_,_,_,_,_,_,_,_,_,rfl,mkd λQ w2 d=>aI d.blk rfl λj t=>?_⟩;have f:Pu w1 j:=(show Pu w1 w2 from d.pu).stored t (.inr (by have R:=d.num;omega));have k:LdQ l p e (Ma j):=q.mono λh ss D g ⟨L,x⟩=>⟨L,x.pu f⟩;exact aG (λu=>⟨_,_,rfl,i.trans f,k.err u⟩) (λhe=>⟨_,_,rfl,i.trans f,he▸k⟩)
end
end Go.Proofs.YtoghdgcmhbanbaaGreatDoor
end
section
set_option maxRecDepth 100000
set_option maxHeartbeats 4000000
namespace Go.Proofs.YtoghdgcmhbanbaaGreatDoor
open Go Go.RowKit V Pk
open Go.IntKind (i64 u32 u64 wrap_i64 wrap_u32)
attribute [local irreducible] DB.broken
theorem JG {b:Nat->Nat->Prop}{w1 w2:World}(q:Pu w1 w2)(d:∀i k,b i k->k<w1.heap.size):∀ {l:List Nat},Kept (aX b l) w1 w2:=λ{l}=>
 q.kept.mono λk e=>⟨by
  have f:∀l:List Nat,aX b l k->k<w1.heap.size:=λl=>by
   induction l with
   |nil=>exact λh=>h.elim
   | cons i r m=>cases r with
    |nil=>exact d i k
    |cons j r=>exact λh=>h.elim (d i k) m
  exact f l e,λh=>h⟩
theorem CF {α:Type}{a b:List α}{i:Nat}{d:α}(h:i<a.length):(a++b).getD i d=a.getD i d:=by
 rw[List.getD_eq_getElem?_getD,List.getElem?_append_left h,List.getD_eq_getElem?_getD]
theorem tE {α:Type}{a b:List α}{i:Nat}{d:α}(h:a.length<=i):(a++b).getD i d=b.getD (i - a.length) d:=by
 rw[List.getD_eq_getElem?_getD,List.getElem?_append_right h,List.getD_eq_getElem?_getD]
def ANL(w0 w:World)(Z:Nat->Prop)(A:oA)(n c:Nat)(ps:List (List Int)):Prop:=∃d:List Hd,Own w (up w0) 26 A n c d/\d.length=ps.length/\∀(j:Nat)(h:Hd)(p:List Int),d[j]? =some h->ps[j]? =some p->aD w Z .u32 h.A h.n h.c p
section
variable {w0 w w1 w':World}{A:Option Addr}{n c:Nat}{ps:List (List Int)}{X Z Y:Nat->Prop}
theorem ANL.nil:ANL w0 w Z none 0 0 []:=⟨[],Own.nil,rfl,λj h p d=>by simp at d⟩
theorem ANL.pu(o:ANL w0 w Z A n c ps)(q:Pu w w'):ANL w0 w' Z A n c ps:=by
 obtain⟨d,e,f,i⟩:=o;exact⟨d,e.pu q,f,λj h p k m=>(i j h p k m).pu q⟩
theorem ANL.ch(o:ANL w0 w Z A n c ps)(q:Ch X w w')(e:∀k,w0.heap.size<=k\/Z k->¬X k):ANL w0 w' Z A n c ps:=by
 obtain⟨f,i,m,t⟩:=o;exact⟨f,i.ch q λk d=>e k (.inl d),m,λj h p u v=>(t j h p u v).ch q λk d=>e k (.inr d)⟩
theorem ANL.app(o:ANL w0 w Z A n c ps)(C:∀k,Z k->k<w0.heap.size)(O:w0.heap.size<=w.heap.size){B:Option Addr}{m d:Nat}{p:List Int}(u:aD w Z .u32 B m d p){g:Nat}(i:Made w g #[.slice B m d] 26 w1)(Q:n<=1000000)
 {K:Option Addr->Nat->Nat->World->Prop}(E:∀A' c' w2,ANL w0 w2 Z A' (n+1) c' (ps++ [p])->Ch (up w0) w1 w2->K A' (n+1) c' w2):
 ∃(A':oA)(n' c':Nat)(w2:World),(Builtin.append_ #[55,55] 55 #[.slice A n c,.slice (pvA g) 1 1]:Sem Value).run Tryz.prog w1=.ok (.slice A' n' c') w2/\K A' n' c' w2:=by
 obtain⟨t,v,F,G⟩:=o.pu i.pu;have u:=u.pu i.pu;refine v.app (x:=(⟨B,m,d⟩:Hd)) stN i.blk rfl (by omega) (by omega) (by have v:=i.size;show w0.heap.size<=_;omega) λA' c' w2 I y=>?_;have z:∀ {B:Option Addr}{m d:Nat}{p:List Int},aD w1 Z .u32 B m d p->aD w2 Z .u32 B m d p:=λhi=>hi.ch y λk J h=>absurd (C k J) (Nat.not_lt.2 h);refine E A' c' w2 ⟨t++ [⟨B,m,d⟩],I,by simp[F],λj h q f hq=>?_⟩ y;by_cases M:j<t.length
 ·rw[List.getElem?_append_left M]at f;rw[List.getElem?_append_left (by omega)]at hq;exact z (G j h q f hq)
 ·rw[List.getElem?_append_right (by omega)]at f;rw[List.getElem?_append_right (by omega)]at hq;have N:j - t.length=0:=by
   cases e:j - t.length with
   |zero=>rfl
   |succ k=>rw[e]at f;simp at f
  rw[N]at f;rw[show j - ps.length=0 by omega]at hq;simp at f hq;subst f;subst hq;exact z u
theorem ANL.nl(o:ANL w0 w Z A n c ps):NL w (λk=>w0.heap.size<=k\/Z k) A n c ps:=by
 obtain⟨e,d,f,m⟩:=o;refine⟨by rw[<-f];exact d.len,d.rd.cap,λj p h=>?_⟩;have i:j<e.length:=by rw[f];exact(List.getElem?_eq_some_iff.1 h).1
 obtain⟨a,q,t,u⟩:=d.rd.cell j _ (List.getElem?_eq_getElem i);refine⟨a,e[j],q,.inl t.1,?_,(m j _ p (List.getElem?_eq_getElem i) h).mono λk v=>.inr v⟩;have:=u 0 (by decide);rw[add_add,Nat.add_zero,show j*Enc.size Hd=j from Nat.mul_one j]at this;exact this
end
@[reducible] def cfA(h:List Int)(i:Nat)(A:oA)(n c:Nat):Array Value:= #[.int .i64 (h.getD 0 0),.int .i64 (h.getD 1 0),.int .u32 (if 0<i then h.getD 3 0 else 0),.int .u32 (if 1<i then h.getD 4 0 else 0),.int .u32 (if 2<i then h.getD 5 0 else 0),.int .u32 (if 3<i then h.getD 6 0 else 0),.int .u32 (if 4<i then h.getD 7 0 else 0),.int .u32 (if 5<i then h.getD 8 0 else 0),.int .u32 (if 6<i then h.getD 9 0 else 0),.int .u32 (if 7<i then h.getD 10 0 else 0),.slice A n c]
theorem HU(h:List Int)(A:oA)(n c:Nat):∀j,j<8->setAt (cfA h j A n c) (2+j) [.int .u32 (h.getD (3+j) 0)]=cfA h (j+1) A n c
 |0,_=>rfl
 |1,_=>rfl
 |2,_=>rfl
 |3,_=>rfl
 |4,_=>rfl
 |5,_=>rfl
 |6,_=>rfl
 |7,_=>rfl
 |j+8,d=>by omega
@[reducible] def rgA(h:List Int)(i:Nat):Array Value:= #[.int .u32 (if 0<i then h.getD 11 0 else 0),.int .u32 (if 1<i then h.getD 12 0 else 0),.int .u32 (if 2<i then h.getD 13 0 else 0),.int .u32 (if 3<i then h.getD 14 0 else 0),.int .u32 (if 4<i then h.getD 15 0 else 0),.int .u32 (if 5<i then h.getD 16 0 else 0),.int .u32 (if 6<i then h.getD 17 0 else 0),.int .u32 (if 7<i then h.getD 18 0 else 0),.int .u32 (if 8<i then h.getD 19 0 else 0),.int .u32 (if 9<i then h.getD 20 0 else 0),.int .u32 (if 10<i then h.getD 21 0 else 0),.int .u32 (if 11<i then h.getD 22 0 else 0),.int .u32 (if 12<i then h.getD 23 0 else 0),.int .u32 (if 13<i then h.getD 24 0 else 0),.int .u32 (if 14<i then h.getD 25 0 else 0)]
theorem GI(h:List Int):∀j,j<15->setAt (rgA h j) j [.int .u32 (h.getD (11+j) 0)]=rgA h (j+1)
 |0,_=>rfl
 |1,_=>rfl
 |2,_=>rfl
 |3,_=>rfl
 |4,_=>rfl
 |5,_=>rfl
 |6,_=>rfl
 |7,_=>rfl
 |8,_=>rfl
 |9,_=>rfl
 |10,_=>rfl
 |11,_=>rfl
 |12,_=>rfl
 |13,_=>rfl
 |14,_=>rfl
 |j+15,d=>by omega
theorem Pk.Snp.split {b h t:List Int}{d:List (List Int)}(s:Snp b h d t):∃ss db pgs,d=ss++db::pgs/\(ss.length:Int)=h.getD 2 0:=by
 have hw:Wd h:=(s.sh.2 _ (List.mem_cons_self ..)).1;have i:=bJ hw 2;have j:=bJ hw 0;have k:=bJ hw 1;have m:=s.num;have hd:d.drop (h.getD 2 0).toNat≠ []:=λe=>by have f:=congrArg List.length e;rw[List.length_drop,List.length_nil]at f;omega
 obtain⟨db,pgs,e⟩:=List.exists_cons_of_ne_nil hd;refine⟨d.take (h.getD 2 0).toNat,db,pgs,by rw[<-e,List.take_append_drop],?_⟩;rw[List.length_take];omega
theorem Fb {m m':Mem}(l:List U32)(h:m.S=m'.S):DB.aF m l=DB.aF m' l:=by
 have e:DB.fq m l=DB.fq m' l:=by funext p;unfold DB.fq;rw[h]
 unfold DB.aF;rw[h,e]
section
variable {w:World}{A:Option Addr}{n c:Nat}{l:List Int}{Z:Nat->Prop}{K:List Int}
def M7(w:World):List Int->List (List Int)->DB->Nat->Prop:=λh ss D g=>∃gd L,xf w g (h.getD 0 0) (h.getD 1 0) (s8H h) ss gd L D (rgH h)
theorem Jd(o:cR w 2 K)(h:aD w Z .u8 A n c l)(hm:n<=140737488355328)(bc:Bt l):
 Calls Tryz.prog 16 #[.slice A n c] w λe w'=>∃v,e=.returned v/\∃p e,v=.tuple #[.pointer p,.int .i64 e]/\Pu w w'/\LdQ l p e (M7 w'):=by
 have hl:=h.len;have ck:=h.cap;have er:mg.length=8:=rfl;refine vi _ _ _ ?_;refine⟨λx w'=>(x=true↔l.take 8≠mg)/\w=w',?_,?_⟩
 ·refine af (λu=>⟨⟨λ_ e=>?_,λ_=>rfl⟩,rfl⟩) (λu=>⟨⟨by omega,by omega⟩,?_⟩)
  ·have e1:=congrArg List.length e;rw[List.length_take]at e1;omega
  rintro xA hA xN hN xC hC;have Q:aD w Z .u8 xA xN xC ((l.take 8).drop 0):=h.cut (lo:=0) (hi:=8) (m:=c) hA hN hC (by omega) (by omega) (by omega);rw[List.drop_zero]at Q;refine⟨_,_,fL sG kG jg Q,?_,rfl⟩;rw[Ha,strOf_eq (bc.take 8) Lr];simp
 rintro _ x _ ⟨Q,rfl⟩;refine ab (λu=>⟨_,_,rfl,Ch.refl _ _,.inl ⟨Q.1 u,rfl,rfl⟩⟩) (λu=>?_);have aA:l.take 8=mg:=Classical.not_not.1 λhn=>by have y:=Q.2 hn;rw[u]at y;cases y
 have h8:8<=n:=by have y:=congrArg List.length aA;rw[List.length_take]at y;omega
 refine(Ld h hm bc h8).mono ?_;rintro e w1 ⟨_,rfl,pA,pN,pC,ok,rfl,q1,ct⟩;refine⟨_,_,_,_,rfl,?_⟩;rcases ct.symm with⟨rfl,cM⟩|⟨rfl,f,qs,t,I,b4⟩
 ·exact aU ⟨_,_,rfl,q1,.inr ⟨aA,.inl ⟨cM,rfl,rfl⟩⟩⟩
 obtain⟨ss,db,pgs,rfl,aN⟩:=I.split;refine bG ?_;obtain⟨N,et⟩:∃N:Nat,N+4=n:=⟨n - 4,by omega⟩;rw[aa (x:=((n:Nat):Int) - 4) (by omega),show((n:Nat):Int) - 4=(N:Int)by omega];have eN:l.length - 4=N:=by omega
 refine⟨λ_ k=>k<w1.heap.size,⟨by omega,by omega⟩,?_⟩;rintro zA b5 zN bd zC b6;refine⟨⟨by omega,by omega⟩,?_⟩;rintro yA bg yN bl yC bs;rw[Int.toNat_natCast]at bg bl bs bd;have hy:aD w Z .u8 yA yN yC (l.drop N):=h.from_ (lo:=N) (m:=c) bg bl bs (by omega) ck;have hz:aD w Z .u8 zA zN zC ((l.take N).drop 0):=h.cut (lo:=0) (hi:=N) (m:=c) b5 bd b6 (by omega) (by omega) (by omega);rw[List.drop_zero]at hz;refine(Ci (hz.pu q1.drew) (by omega)).mono ?_;rintro e w2 ⟨_,rfl,rfl,e2⟩;have q2:Pu w1.drew w2:=e2▸Ch.refl _ _;refine⟨_,rfl,aY (λk o=>o) q2,_,λ_ _ h=>h,(iw (hy.pu (q1.drew.trans q2)) (by omega) (bc.drop N)).mono ?_⟩;rintro e z ⟨_,rfl,rfl,q3⟩;have R:Pu w1 z:=((Pu.aw w1).trans q2).trans q3;have p3:Pu w z:=q1.trans R;refine⟨_,rfl,aY (λk o=>Nat.lt_of_lt_of_le o q2.size) q3,_,λ_ _ h=>h,aG (λaC=>⟨_,_,rfl,p3,.inr ⟨aA,.inr ⟨f,ss,db,pgs,t,I,aN,.inl ⟨by rw[eN];exact aC,rfl,rfl⟩⟩⟩⟩) (λheq=>?_)⟩;have a8:crc (l.take (l.length - 4))=cn (l.drop (l.length - 4)):=by rw[eN];exact heq
 clear b5 bd b6 bg bl bs hy hz Q;have a1:=(b4.pu R).lt.mono (Y:=λk=>k<z.heap.size) λk o=>o.2;have c0:=a1.len;have c3:=I.num;obtain⟨ey,eL,eM⟩:=I.le;have a9:Wd f:=(I.sh.2 _ (List.mem_cons_self ..)).1;have c4:Wd db:=(I.sh.2 db (List.mem_cons_of_mem _ (List.mem_append_right _ (List.mem_cons_self ..)))).1;rw[List.length_append,List.length_cons]at c3;rw[List.length_cons,List.length_append,List.length_cons]at c0;have r0:=bJ a9 0;have r1:=bJ a9 1;have r2:=bJ a9 2;refine a1.rd (i:=0) (by omega) (by omega) λB0 m0 d0 hi=>?_;have hi:aD z (λk=>k<z.heap.size) .u32 B0 m0 d0 f:=hi;have h26:m0=26:=by rw[<-hi.len];exact I.h26
 clear b4;refine⟨λ_ k=>k<z.heap.size,hi.drew.rdB (B:=λk=>k<z.heap.size) (i:=0) (by omega) (by omega) (λk o=>o) (hi.drew.rdB (B:=λk=>k<z.heap.size) (i:=1) (by omega) (by omega) (λk o=>o) ?_)⟩;rw[aa (x:=f.getD (Int.toNat 0) 0) (by show -9223372036854775808<=f.getD 0 0/\f.getD 0 0<=9223372036854775807;omega),aa (x:=f.getD (Int.toNat 1) 0) (by show -9223372036854775808<=f.getD 1 0/\f.getD 1 0<=9223372036854775807;omega)];refine mkd λS w4 m4=>⟨aY (λk o=>o) m4.pu,_,λ_ _ h=>h,aI m4.blk rfl λw5 s5=>⟨_,λ_ _ h=>h,mkd λg2 w6 m6=>?_⟩⟩;have n4:S=z.heap.size:=m4.num;have n6:=m6.num;have z4:w4.heap.size=z.heap.size+1:=m4.size;have z5:=s5.ch.size;have z6:=m6.size;have c5:Pu z w6:=(((Pu.aw z).made m4).stored s5 (.inr (by show z.heap.size<=S;omega))).made m6;have q:Blk w6 S (cfA f 0 none 0 0) _:=m6.old s5.blk;have C:Blk w6 g2 (rgA f 0) _:=m6.blk;have aC:S≠g2:=by omega
 rintro i rfl;refine⟨λE x w'=>∃j:Nat,x=(j:Int)/\j<=8/\E=8 - j/\Blk w' S (cfA f j none 0 0) _/\Blk w' g2 (rgA f 0) _/\Pu z w'/\w6.heap.size<=w'.heap.size,⟨_,0,rfl,by omega,rfl,q,C,c5,Nat.le_refl _⟩,?_⟩;clear q C;rintro E _ _ w7 ⟨j,rfl,hj,rfl,q,C,ba,bA⟩;refine af (λu=>?_) (λu=>?_)
 ·rw[aa (x:=3+(j:Int)) (by omega)];refine(hi.pu ba).rd (by omega) (by omega) ⟨⟨by omega,by omega⟩,?_⟩;rw[show(3+(j:Int)).toNat=3+j by omega,Int.toNat_natCast,Nat.mul_one];refine eE q (by show 2+j+1<=11;omega) λw8 s8=>?_;have c1:=s8.blk;rw[HU _ _ _ _ j (by omega)]at c1;rintro i2 rfl;exact⟨8 - (j+1),by omega,j+1,by rw[aa (by omega)];omega,by omega,rfl,c1,s8.old C aC.symm,ba.stored s8 (.inr (by omega)),Nat.le_trans bA s8.ch.size⟩
 obtain rfl:j=8:=by omega
 rintro i2 rfl;refine⟨λE x w'=>∃j:Nat,x=(j:Int)/\j<=15/\E=15 - j/\Blk w' S (cfA f 8 none 0 0) _/\Blk w' g2 (rgA f j) _/\Pu z w'/\w6.heap.size<=w'.heap.size,⟨_,0,rfl,by omega,rfl,q,C,ba,bA⟩,?_⟩;clear q C ba bA;rintro E _ _ w8 ⟨j,rfl,hj,rfl,q,C,a2,c7⟩;refine af (λu=>?_) (λu=>?_)
 ·rw[aa (x:=11+(j:Int)) (by omega)];refine(hi.pu a2).rd (by omega) (by omega) ⟨⟨by omega,by omega⟩,?_⟩;rw[show(11+(j:Int)).toNat=11+j by omega,Int.toNat_natCast,Nat.mul_one];refine aL C (by show j+1<=15;omega) λw9 s9=>?_;have c2:=s9.blk;rw[GI _ j (by omega)]at c2;rintro i2 rfl;exact⟨15 - (j+1),by omega,j+1,by rw[aa (by omega)];omega,by omega,rfl,s9.old q aC,c2,a2.stored s9 (.inr (by omega)),Nat.le_trans c7 s9.ch.size⟩
 obtain rfl:j=15:=by omega
 refine(hi.pu a2).rd (by omega) (by omega) ?_;rw[aa (x:=f.getD (Int.toNat 2) 0) (by show -9223372036854775808<=f.getD 2 0/\f.getD 2 0<=9223372036854775807;omega),show f.getD (Int.toNat 2) 0=((ss.length:Nat):Int)from aN.symm];rintro st rfl i4 rfl;have q:Blk w8 S (cfA f 8 none 0 0) _:=q;have C:Blk w8 g2 (rgA f 15) _:=C;have eS:g2<w8.heap.size:=C.lt;refine⟨λE x w'=>∃(j:Nat)(cA:oA)(F cC:Nat),x=(j:Int)/\j<=ss.length/\E=ss.length - j/\F=j/\Blk w' S (cfA f 8 cA F cC) _/\Blk w' g2 (rgA f 15) _/\ANL w8 w' (λk=>k<z.heap.size) cA F cC (ss.take j)/\Pu z w'/\w8.heap.size<=w'.heap.size,⟨_,0,none,0,0,rfl,by omega,rfl,rfl,q,C,ANL.nil,a2,Nat.le_refl _⟩,?_⟩;clear q C;rintro E _ _ w9 ⟨j,cA,F,cC,rfl,hj,rfl,rfl,q,C,ho,a3,b7⟩;have b8:=a2.size;refine af (λu=>?_) (λu=>?_)
 ·have d1:=q.drew;refine⟨λi k=>(i=1\/i=6)/\k<w9.heap.size,by rw[block_add];exact⟨.inl rfl,q.lt⟩,_,_,_,d1.at rfl,?_⟩;rw[aa (x:=1+(F:Int)) (by omega)];refine(a1.pu a3.drew).rdB (B:=λk=>((6:Nat)=1\/(6:Nat)=6)/\k<w9.heap.size) (by omega) (by omega) (λk o=>⟨.inr rfl,Nat.lt_of_lt_of_le o a3.size⟩) λB5 m5 d5 T=>?_;rw[show(1+(F:Int)).toNat=F+1 by omega,List.getD_cons_succ,CF (by omega)]at T;refine mkd λg6 M a0=>⟨JG a0.pu λi k o=>o.2,_,λ_ _ h=>h,?_⟩;refine(ho.pu (Pu.aw w9)).app (λk o=>Nat.lt_of_lt_of_le o b8) b7 T a0 (by omega) λA6 c6 b9 c8 a4=>⟨?_,_,λ_ _ h=>h,?_⟩
  ·refine a4.kept.mono λk o=>?_;rcases o with⟨y,_⟩|⟨y,_⟩|⟨y,_⟩<;>omega
  have c9:=a4.blk (a0.old q.drew) (by show ¬w8.heap.size<=S;omega);have da:=a4.blk (a0.old C.drew) (by show ¬w8.heap.size<=g2;omega);refine aL c9 (by show 10+1<=11;omega) λan a5=>⟨_,λ_ _ h=>h,?_⟩;rintro i6 rfl;have e6:ss.take (F+1)=ss.take F++ [ss.getD F []]:=by
   rw[List.take_succ_eq_append_getElem (by omega),List.getD_eq_getElem?_getD,List.getElem?_eq_getElem (by omega)];rfl
  refine⟨ss.length - (F+1),by omega,F+1,A6,F+1,c6,by rw[aa (by omega)];omega,by omega,rfl,rfl,a5.blk.cast rfl,a5.old da aC.symm,?_,(((a3.drew.made a0).call a4 λk o=>.inr (Nat.le_trans b8 o)).stored a5 (.inr (by omega))),?_⟩
  ·rw[e6];exact c8.ch a5.ch λk o e=>by subst e;rcases o with o|o<;>omega
  ·exact Nat.le_trans b7 (Nat.le_trans (show w9.heap.size<=M.heap.size from a0.pu.size) (Nat.le_trans a4.size a5.ch.size))
 obtain rfl:F=ss.length:=by omega
 rw[List.take_of_length_le (Nat.le_refl _)]at ho;refine⟨_,_,_,_,_,_,_,_,_,_,_,_,_,⟨q.at rfl,q.at rfl,q.at rfl,q.at rfl,q.at rfl,q.at rfl,q.at rfl,q.at rfl,q.at rfl,q.at rfl,q.at rfl⟩,?_⟩;refine(GO (a:=f.getD 0 0) (b:=f.getD 1 0) (s:=s8H f) ho.nl (by omega)).mono ?_;rintro e M ⟨_,rfl,⟨x,rfl,Q⟩,a6⟩;have ca:Pu w M:=(p3.trans a3).trans a6;refine⟨_,rfl,bo (λu=>⟨_,_,rfl,ca,.inr ⟨aA,.inr ⟨f,ss,db,pgs,t,I,aN,.inr ⟨a8,.inl ⟨λhm=>(by have y:=Q.2 hm;rw[u]at y;cases y),rfl⟩,.inl ⟨by decide,rfl⟩⟩⟩⟩⟩) (λu=>?_)⟩;have U:=Q.1 u;have c1:=Pu.blk a6 q;have c2:=Pu.blk a6 C;refine⟨_,c1.at rfl,_,c1.at rfl,(Le (f.getD 0 0) (f.getD 1 0) ⟨U.1,U.2.1⟩ ⟨U.2.2.1,U.2.2.2.1⟩).mono ?_⟩;rintro e b9 ⟨_,rfl,gm,L,rfl,hM,dc,dd⟩;have hM:bV b9 gm L (ldF f):=hM;refine⟨_,_,rfl,?_⟩;rintro at0 rfl;rintro p0 rfl;have hB:((ldB f:Nat):Int)=f.getD 1 0:=by unfold ldB;omega
 have dk:(((ldF f).S:Nat):Int)=f.getD 0 0:=by show(((f.getD 0 0).toNat:Nat):Int)=_;omega
 have dp:pgs.length=ldB f+(ldF f).S:=by omega
 have bC:Pu z M:=a3.trans a6;have e0:=bC.size;have cb:∀ {an:World}{G:eU}{j:Nat}{x:Int},bV an gm G (ldN (ldF f) (ldB f) pgs j)->(∀k,G.X k->M.heap.size<=k)->Pu M an->j<pgs.length->x=2+(ss.length:Int)+(j:Int)->
  ∀ {P:World->Prop},(∀w' L2,bV w' gm L2 (ldN (ldF f) (ldB f) pgs (j+1))->(∀k,L2.X k->M.heap.size<=k)->Pu M w'->P w')->
  (0<=x/\x<((pN:Nat):Int))/\ai pA λp=>∃(B:oA)(m d:Nat),an.cell? (p.add (x.toNat *1))=some (.slice B m d)/\Calls Tryz.prog 35 #[ptr gm,fr (frJ (ldB f) j).s (frJ (ldB f) j).p,.slice B m d] an λe w'=>∃dr:Int,e=.returned (J dr)/\P w':=by
  rintro an G j x V O az hj rfl P hP;refine(a1.pu (bC.trans az)).rd (by omega) (by omega) λB5 m5 d5 T=>?_;have cc:pgs.getD j []=pgs[j]'(by omega):=by rw[List.getD_eq_getElem?_getD,List.getElem?_eq_getElem (by omega)];rfl
  have dA:pgs.getD j []∈f::(ss++db::pgs):=by rw[cc];exact List.mem_cons_of_mem _ (List.mem_append_right _ (List.mem_cons_of_mem _ (List.getElem_mem _)))
  have e3:(pgs.getD j []).length=1024:=I.pgs (ss.length+1+j) _ (by rw[List.getElem?_append_right (by omega),show ss.length+1+j - ss.length=j+1 by omega,List.getElem?_cons_succ,cc];exact List.getElem?_eq_getElem (by omega)) (by omega);rw[show(2+(ss.length:Int)+(j:Int)).toNat=(ss.length+(j+1))+1 by omega,List.getD_cons_succ,tE (by omega),show ss.length+(j+1) - ss.length=j+1 by omega,List.getD_cons_succ]at T;have e4:=T.len;refine(Lf V (Ei rfl (by omega)) T (by omega) (I.sh.2 _ dA).1 λk o hz=>?_).mono ?_
  ·have y:=O k o;omega
  rintro e dC ⟨_,rfl,L2,rfl,a7,dN,c2⟩;exact⟨_,rfl,hP dC L2 a7 (λk o=>(dN k o).elim (O k) λh=>Nat.le_trans az.size h) (az.call c2 λk o=>.inr (O k o))⟩
 refine⟨λE x w'=>∃(j:Nat)(G:eU),x=(j:Int)/\j<=ldB f/\E=ldB f - j/\bV w' gm G (ldN (ldF f) (ldB f) pgs j)/\(∀k,G.X k->M.heap.size<=k)/\Pu M w',⟨_,0,L,rfl,Nat.zero_le _,rfl,hM,dc,dd⟩,?_⟩;rintro E _ _ an ⟨j,G,rfl,hj,rfl,V,O,az⟩;refine⟨_,(Pu.blk az c1).at rfl,af (λu=>?_) (λu=>?_)⟩
 ·have hf:frJ (ldB f) j=⟨false,(j:Int)⟩:=if_pos (by omega);rw[aa (x:=2+(ss.length:Int)) (by omega),aa (x:=2+(ss.length:Int)+(j:Int)) (by omega)];have y:= @cb an G j _ V O az (by omega) rfl;rw[hf]at y;refine y λw' L2 a7 bN q2=>?_;rintro p2 rfl;exact⟨ldB f - (j+1),by omega,j+1,L2,by rw[aa (by omega)];omega,by omega,rfl,a7,bN,q2⟩
 obtain rfl:j=ldB f:=by omega
 rintro p2 rfl;refine⟨λE x w'=>∃(j:Nat)(G:eU),x=(j:Int)/\j<=(ldF f).S/\E=(ldF f).S - j/\bV w' gm G (ldN (ldF f) (ldB f) pgs (ldB f+j))/\(∀k,G.X k->M.heap.size<=k)/\Pu M w',⟨_,0,G,rfl,Nat.zero_le _,rfl,V,O,az⟩,?_⟩;clear V O az;rintro E _ _ dT ⟨j,G,rfl,hj,rfl,V,O,R⟩;have e1:=Pu.blk R c1;have e2:=Pu.blk R c2;refine⟨_,e1.at rfl,af (λu=>?_) (λu=>?_)⟩
 ·have hf:frJ (ldB f) (ldB f+j)=⟨true,(j:Int)⟩:=(if_neg (by omega)).trans (by rw[show ldB f+j - ldB f=j by omega]);refine⟨_,e1.at rfl,?_⟩;rw[aa (x:=2+(ss.length:Int)) (by omega),aa (x:=2+(ss.length:Int)+f.getD 1 0) (by omega),aa (x:=2+(ss.length:Int)+f.getD 1 0+(j:Int)) (by omega)];have y:= @cb dT G (ldB f+j) (2+(ss.length:Int)+f.getD 1 0+(j:Int)) V O R (by omega) (by omega);rw[hf]at y;refine y λw' L2 a7 bN q2=>?_;rintro p2 rfl;exact⟨(ldF f).S - (j+1),by omega,j+1,L2,by rw[aa (by omega)];omega,by omega,rfl,a7,bN,q2⟩
 obtain rfl:j=(ldF f).S:=by omega
 rw[<-dp]at V;rw[aa (x:=1+(ss.length:Int)) (by omega)];refine(a1.pu (bC.trans R)).rd (by omega) (by omega) λB5 m5 d5 T=>?_;rw[show(1+(ss.length:Int)).toNat=ss.length+1 by omega,List.getD_cons_succ,tE (by omega),Nat.sub_self,List.getD_cons_zero]at T;refine(Mu V T.rdU (λk o hz=>by have y:=O k o;have h2:=hz.1;omega) (Kt c4) (by rw[tB];have y:=U.1;omega)).mono ?_;rintro e cf ⟨_,rfl,p2,rfl,cg,ea,bb⟩;rw[Fb (m':=ldF f) _ (tB _ _ _ _)]at cg ea ⊢;have b0:Pu w cf:=(ca.trans R).trans bb;refine⟨_,_,rfl,aG (λaC=>⟨_,_,rfl,b0,.inr ⟨aA,.inr ⟨f,ss,db,pgs,t,I,aN,.inr ⟨a8,.inr ⟨U,.inl ⟨aC,rfl⟩⟩,.inl ⟨by decide,rfl⟩⟩⟩⟩⟩) (λhle=>?_)⟩;obtain⟨gd,LD,rfl,hD⟩:=cg hle;have hD:eV cf gd LD (xZ f db pgs):=hD;have f1:=Pu.blk bb e1;have f2:=Pu.blk bb e2;refine⟨_,_,_,_,_,_,_,_,_,_,_,_,_,⟨f1.at rfl,f1.at rfl,f1.at rfl,f1.at rfl,f1.at rfl,f1.at rfl,f1.at rfl,f1.at rfl,f1.at rfl,f1.at rfl,f1.at rfl⟩,_,_,_,_,_,_,_,_,_,_,_,_,_,_,_,⟨f2.at rfl,f2.at rfl,f2.at rfl,f2.at rfl,f2.at rfl,f2.at rfl,f2.at rfl,f2.at rfl,f2.at rfl,f2.at rfl,f2.at rfl,f2.at rfl,f2.at rfl,f2.at rfl,f2.at rfl⟩,?_⟩;refine(Mt (a:=f.getD 0 0) (b:=f.getD 1 0) (s:=s8H f) (rgH f) (o.pu b0) (GB a9) (ho.nl.pu ((a6.trans R).trans bb)) U hD ?_ ?_).mono ?_
 ·show(((ldN (ldF f) (ldB f) pgs pgs.length).S:Nat):Int)=_;rw[tB];exact dk
 ·show(((ldN (ldF f) (ldB f) pgs pgs.length).I:Nat):Int)=_;rw[Aj];exact hB
 rintro e eb ⟨_,rfl,ec,ed⟩;have cj:Pu w eb:=b0.trans ec;rcases ed with⟨b3,rfl⟩|⟨b3,ee,rfl,ei⟩
 ·exact⟨_,_,rfl,aG (λ_=>⟨_,_,rfl,cj,.inr ⟨aA,.inr ⟨f,ss,db,pgs,t,I,aN,.inr ⟨a8,.inr ⟨U,.inr ⟨hle,.inl ⟨b3,rfl⟩⟩⟩,.inl ⟨by decide,rfl⟩⟩⟩⟩⟩) (λe=>absurd e (by decide))⟩
 ·exact⟨_,_,rfl,aG (λe=>absurd rfl e) (λ_=>⟨_,_,rfl,cj,.inr ⟨aA,.inr ⟨f,ss,db,pgs,t,I,aN,.inr ⟨a8,.inr ⟨U,.inr ⟨hle,.inr ⟨b3,rfl⟩⟩⟩,.inr ⟨rfl,ee,rfl,gd,LD,ei⟩⟩⟩⟩⟩)⟩
end
end Go.Proofs.YtoghdgcmhbanbaaGreatDoor
end
section
set_option maxRecDepth 100000
set_option maxHeartbeats 2000000
namespace Go.Proofs.YtoghdgcmhbanbaaGreatDoor
open Go Go.RowKit V Pk
open Go.IntKind (i64 u32 u64 wrap_i64 wrap_u32)
open Enc (enc)
theorem gT(x:Int):Bt (four x):=by
 intro y d;simp only[four,List.mem_cons,List.not_mem_nil,or_false,Pk.u8_eq]at d;omega
theorem Hr(x:Int):Bt (hdr x)/\Bt (jU x):=by
 constructor<;>(intro y d;simp only[hdr,jU,List.mem_cons,List.not_mem_nil,or_false,Pk.u8_eq]at d;omega)
theorem Pk.Bt.app {a b:List Int}(d:Bt a)(e:Bt b):Bt (a++b):=λx f=>(List.mem_append.1 f).elim (d x) (e x)
theorem im:∀(m:Nat)(l:List Int),Bt (bz m l)
 |0,l=>by intro x d;simp[bz]at d
 |m+1,[]=>by intro x d;simp[bz]at d
 | m+1,x::r=>by
  simp only[bz];split
  ·exact((Hr _).2.app (gT _)).app (im m _)
  ·refine((Hr _).1.app λy e=>?_).app (im m _);obtain⟨z,_,f⟩:=List.mem_flatMap.1 e;exact gT _ y f
theorem nX(l:List Int):Bt (pack l):=by
 unfold pack;split
 ·intro x d;cases d
 ·exact(gT _).app (im _ _)
structure Rn where
 v:Int
 n:Int
instance:Enc Rn:=⟨λx=>[.int .u32 x.v,.int .i64 x.n],2,λ_=>rfl,by simp[Value.oneCell'],by omega⟩
def NRn(w:World)(A:oA)(n c:Nat):Prop:=∃d:List Hd,Rd w (λk=>k<w.heap.size) A n c d/\∀h∈d,∃rs:List Rn,Rd w (λk=>k<w.heap.size) h.A h.n h.c rs/\(∀x∈rs,0<=x.v/\x.v<4294967296)/\h.n<=140737488355328
section
variable {w:World}{A:Option Addr}{n c:Nat}{l:List Int}{Z:Nat->Prop}{K K2:List Int}
theorem Gh(x:Int)(w:World):Calls Tryz.prog 11 #[.int .i64 x,.int .i64 0,.int .i64 39999] w λe w'=>∃v,e=.returned v/\(∃r,v=.int .i64 r/\0<=r/\r<=39999)/\w'=w:=by
 have d:i64.wrap (i64.wrap (39999 - 0)+1)=40000:=by rw[show i64.wrap (39999 - 0)=39999 from aa (by omega),aa (by omega)];rfl
 have h:=Int.tmod_lt_of_pos x (show(0:Int)<40000 by omega);have i: -40000<x.tmod 40000:=by rw[Int.tmod_eq_emod];split<;>omega
 refine rv _ _ _ ?_;show nz (i64.wrap (i64.wrap (39999 - 0)+1)) _;rw[d];refine DW (by omega) ?_;rintro r rfl;refine af (λf=>?_) (λf=>⟨⟨_,rfl,?_⟩,rfl⟩)
 ·rintro r1 rfl;rw[aa (x:=x.tmod 40000+39999) (by omega),aa (x:=x.tmod 40000+39999 - 0) (by omega),aa (x:=x.tmod 40000+39999 - 0+1) (by omega),aa (by omega)];exact⟨⟨_,rfl,by omega,by omega⟩,rfl⟩
 ·rw[aa (by omega)];omega
theorem IL {rs:List Rn}(h:Rd w Z A n c rs)(J:∀x∈rs,0<=x.v/\x.v<4294967296)(S:n<=140737488355328):
 Calls Tryz.prog 6 #[.slice A n c] w λe w'=>∃v,e=.returned v/\∃A' n' c' l,v=.slice A' n' c'/\OI w' (up w) 22 .u32 A' n' c' l/\Wd l/\n'<=262147/\Pu w w':=by
 have T:=h.len;refine uJ _ _ _ ?_;rintro i rfl;refine⟨λm oA d o x w'=>∃(j:Nat)(l:List Int),x=(j:Int)/\j<=n/\m=n - j/\OI w' (up w) 22 .u32 oA d o l/\Wd l/\d<=262147/\Pu w w',⟨_,0,[],rfl,Nat.zero_le _,rfl,OI.nil,λ_ h=>(by cases h),by omega,Ch.refl _ _⟩,?_⟩;rintro m _ oA d o _ w1 ⟨j,l,rfl,U,rfl,t,hw,z,E⟩;refine af (λf=>?_) (λf=>⟨_,_,_,l,rfl,t,hw,z,E⟩);rintro k rfl;refine⟨λm oA d o x w'=>∃(q:Nat)(l:List Int),x=(q:Int)/\q<=40000/\m=40000 - q/\OI w' (up w) 22 .u32 oA d o l/\Wd l/\d<=262147/\Pu w w',⟨_,0,l,rfl,by omega,rfl,t,hw,z,E⟩,?_⟩;rintro m _ oA d o _ w2 ⟨q,l,rfl,hq,rfl,t,hw,z,B⟩;obtain⟨p,x,F,M,_,G⟩:=(h.pu B).ld (i:=(j:Int)) (by omega) (by omega);have N:=J x (List.mem_of_getElem? M);refine⟨λb w'=>(b=true->d<262147/\q<40000)/\w2=w',⟨⟨by omega,by omega⟩,ah p F ⟨x.n,G 1 (by decide),(Gh x.n w2).mono ?_⟩⟩,?_⟩
 ·rintro e w2 ⟨_,rfl,⟨r,rfl,V,h1⟩,rfl⟩;exact⟨_,rfl,af (λC=>⟨λf=>⟨by have:=of_decide_eq_true f;omega,by omega⟩,rfl⟩) (λC=>⟨λf=>(by cases f),rfl⟩)⟩
 rintro _ b _ ⟨O,rfl⟩;refine ab (λf=>?_) (λf=>?_)
 ·obtain⟨h5,h6⟩:=O f;refine⟨⟨by omega,by omega⟩,ah p F ⟨x.v,G 0 (by decide),mkd λg w3 I=>?_⟩⟩;refine dW (m:=1) (k:=.u32) oQ t (λk C=>Nat.le_trans B.size C) [x.v] rfl I (by omega) (by omega) λA5 c5 w5 Q _ R=>?_;rintro k2 rfl;refine⟨40000 - (q+1),by omega,q+1,l++ [x.v],by rw[aa (by omega)];omega,by omega,rfl,Q,λy u=>?_,by omega,(B.made I).up R⟩;rcases List.mem_append.1 u with u|u
  ·exact hw y u
  ·rw[List.mem_singleton.1 u];exact N
 ·rintro i2 rfl;exact⟨n - (j+1),by omega,j+1,l,by rw[aa (by omega)];omega,by omega,rfl,t,hw,z,B⟩
theorem JP {w w1:World}{g:Nat}{x:Int}(m:Made w g #[.int .u8 (IntKind.u8.wrap (x.fdiv (2 ^ 24))),.int .u8 (IntKind.u8.wrap (x.fdiv (2 ^ 16))),.int .u8 (IntKind.u8.wrap (x.fdiv (2 ^ 8))),.int .u8 (IntKind.u8.wrap x)] 5 w1):
 OI w1 (up w) 5 .u8 (pvA g) 4 4 (four x):=
 ⟨⟨rfl,.inr ⟨g,4,_,rfl,Nat.zero_le _,m.blk,Nat.le_refl _,by decide,rfl,rfl⟩⟩,λa d=>by injection d with d;rw[<-d];exact Nat.le_of_eq m.num.symm⟩
theorem AR(h:aD w Z .u32 A n c l)(p:n<=5000)(hw:Wd l):
 Calls Tryz.prog 5 #[.slice A n c] w λe w'=>∃v,e=.returned v/\∃A' n' c' b,v=.slice A' n' c'/\OI w' (up w) 5 .u8 A' n' c' b/\Bt b/\n'<=30100/\Pu w w':=by
 have q:=h.len;have u:=kV (L:=l) ⟨hw,by omega⟩;refine rB _ _ _ ((xG h (by omega) hw).mono ?_);rintro e w1 ⟨_,rfl,x,y,z,rfl,i,f⟩;have B:=i.len;refine⟨_,_,_,rfl,?_⟩;rintro C rfl;refine mkd λg w2 d=>?_;refine cu (t:=27) st8 ((JP d).mono (Y:=up w) λk j=>Nat.le_trans f.size j) (by have E:=f.size;have F:=d.size;show w.heap.size<=_;omega) (i.ints.pu d.pu) (by omega) (by omega) λG I J m o=>?_;exact⟨_,_,_,_,rfl,m,(gT _).app (nX _),by omega,(f.made d).up o⟩
theorem JE(w:World):Calls Tryz.prog 8 #[] w λe w'=>∃v,e=.returned v/\v=.bool true/\Pu w w':=by
 refine uK (mkd λg w1 q=>?_);have i1:aD w1 (λk=>k=g) .u32 (pvA g) 4 4 [1,2,2,3]:=aD.blk (Z:=λk=>k=g) (m:=0) q.blk rfl (Nat.le_refl _) rfl λj x d=>by
  rw[Nat.zero_add]
  match j,d with
  |0,d=>exact congrArg (Option.map (Value.int .u32)) d
  |1,d=>exact congrArg (Option.map (Value.int .u32)) d
  |2,d=>exact congrArg (Option.map (Value.int .u32)) d
  |3,d=>exact congrArg (Option.map (Value.int .u32)) d
  |j+4,d=>simp at d
 refine(Ct i1 (by omega) (by decide)).mono ?_;rintro e w2 ⟨_,rfl,N,n2,O,rfl,B,C⟩;refine⟨_,_,_,rfl,mkd λf t h=>?_⟩;have i3:aD t (λk=>k=f) .u8 (pvA f) 10 10 [0,0,0,3,128,3,0,0,0,7]:=aD.blk (Z:=λk=>k=f) (m:=0) h.blk rfl (Nat.le_refl _) rfl λj x d=>by
  rw[Nat.zero_add]
  match j,d with
  |0,d=>exact congrArg (Option.map (Value.int .u8)) d
  |1,d=>exact congrArg (Option.map (Value.int .u8)) d
  |2,d=>exact congrArg (Option.map (Value.int .u8)) d
  |3,d=>exact congrArg (Option.map (Value.int .u8)) d
  |4,d=>exact congrArg (Option.map (Value.int .u8)) d
  |5,d=>exact congrArg (Option.map (Value.int .u8)) d
  |6,d=>exact congrArg (Option.map (Value.int .u8)) d
  |7,d=>exact congrArg (Option.map (Value.int .u8)) d
  |8,d=>exact congrArg (Option.map (Value.int .u8)) d
  |9,d=>exact congrArg (Option.map (Value.int .u8)) d
  |j+10,d=>simp at d
 have i:eC [7,7,7] [0,0,0,3,128,3,0,0,0,7]:=⟨by decide,by decide,by decide⟩;refine(zj i3 (by omega) (by decide)).mono ?_;rintro e E ⟨_,rfl,Q,F,R,S,rfl,u,hu⟩;refine⟨_,_,_,_,rfl,λx w'=>x=true/\Pu w w',?_,?_⟩
 ·rcases hu with⟨rfl,l,y,hi⟩|⟨_,_,_,_,G⟩
  ·obtain rfl:l= [7,7,7]:=zQ y.l i.l (y.2.2.trans i.2.2.symm);have I:Pu w E:=(((show Pu w w1 from q.pu).trans C).made h).trans u;refine⟨_,_,fL sG kG jg (B.ints.pu ((show Pu w2 t from h.pu).trans u)),?_⟩;rw[show(⟨#[0,0,0,4,0,1,0,0,0,1,128,2,0,0,0,2,0,1,0,0,0,3]⟩:ByteArray)=strOf [0,0,0,4,0,1,0,0,0,1,128,2,0,0,0,2,0,1,0,0,0,3]by decide,strOf_eq (nX _) (by decide),decide_eq_true (show pack [1,2,2,3]= [0,0,0,4,0,1,0,0,0,1,128,2,0,0,0,2,0,1,0,0,0,3]by decide)];refine aU (aU (mkd λo z p=>?_));have i5:aD z (λk=>k=o) .u32 (pvA o) 3 3 [7,7,7]:=aD.blk (Z:=λk=>k=o) (m:=0) p.blk rfl (Nat.le_refl _) rfl λj x d=>by
    rw[Nat.zero_add]
    match j,d with
    |0,d=>exact congrArg (Option.map (Value.int .u32)) d
    |1,d=>exact congrArg (Option.map (Value.int .u32)) d
    |2,d=>exact congrArg (Option.map (Value.int .u32)) d
    |j+3,d=>simp at d
   refine(Gy (hi.pu p.pu) i5 (by have T:([7,7,7]:List Int).length=F:=hi.len;have U:([7,7,7]:List Int).length=3:=rfl;omega)).mono ?_;rintro e V ⟨_,rfl,rfl,J⟩;exact⟨_,rfl,by simp,(I.made p).trans J⟩
  ·exact absurd ⟨_,i⟩ G
 rintro _ x z ⟨rfl,M⟩;exact⟨rfl,M⟩
theorem Jf(r:Rg):bk (rgC r) (rgC r)=true:=by
 simp[rgC,bk,eqL,jt]
theorem He(d:cR w 1 K)(an:cR w 2 K2)(az:Dm w)(h:aD w Z .u8 A n c l)(hm:n<=140737488355328)(F:Bt l):
 Calls Tryz.prog 9 #[.slice A n c] w λe w'=>∃v,e=.returned v/\v=.bool true/\Pu w w':=by
 refine ry _ _ _ ((AJ h hm).mono ?_);rintro e w1 ⟨_,rfl,A1,c1,rfl,ho,G⟩;refine⟨_,_,_,rfl,(Lv (d.pu G) ho.ints hm F).mono ?_⟩;rintro e w2 ⟨_,rfl,p,e2,rfl,q2,hQ⟩;have z:Pu w w2:=G.trans q2;refine⟨_,_,rfl,(Jd (an.pu z) (h.pu z) hm F).mono ?_⟩;rintro e j ⟨_,rfl,p',e3,rfl,I,hR⟩;have B:Pu w j:=z.trans I;obtain⟨rfl,J⟩:=hQ.both hR;refine⟨_,_,rfl,λx w'=>x=false/\j=w',?_,?_⟩
 ·refine aG (λhn=>absurd rfl hn) (λ_=>⟨?_,rfl⟩);rcases J with⟨he,rfl,rfl⟩|⟨rfl,_,_,_,_,g,_,_,rfl,_⟩
  ·simp[he]
  ·rfl
 rintro _ x _ ⟨rfl,rfl⟩;refine bG ⟨λx w'=>x=true/\Pu w w',?_,?_⟩
 ·refine⟨λ_ k=>k<j.heap.size,?_⟩;rcases J with⟨he,rfl,rfl⟩|⟨rfl,hh,ss,db,pgs,g,g',M,rfl,rfl,⟨L,N⟩,gd,LD,hN⟩
  ·exact aG (λ_=>⟨rfl,B.drew⟩) (λe=>absurd e he)
  refine aG (λe=>absurd rfl e) (λ_=>?_);have O:Pu w2 j.drew:=I.drew;refine(KZ ((az.pu B).pu (Pu.aw j)) (N.pu O) M).mono ?_;rintro e Q ⟨_,rfl,A4,n4,c4,rfl,aA,i⟩;have aC:=(N.pu O).pu i;have R:=(hN.pu (Pu.aw j)).pu i;refine⟨_,_,_,rfl,aY (λk d=>d) i,λ_ k=>k<Q.heap.size,λ_ k d=>Nat.lt_of_lt_of_le d i.size,_,λw' C=>fL sG kG jg (aA.lt.kept C λk d=>d.2),(IZ R M).mono ?_⟩;rintro e w5 ⟨_,rfl,A5,n5,c5,rfl,aN,o⟩;have S:=aC.pu o;have T:=R.pu o;refine⟨_,_,_,rfl,aY (λk d=>d) o,λ_ k=>k<w5.heap.size,λ_ k d=>Nat.lt_of_lt_of_le d o.size,_,λw' C=>fL sG kG jg (aN.ints.lt.kept C λk d=>d.2),?_⟩;rw[beq_self_eq_true];obtain⟨rA,rn,rc,rk,rT,rZ,f,_⟩:=T.hd;refine aU (ah _ rfl ⟨by rw[block_add];exact f.lt,_,_,_,_,_,_,_,_,_,_,_,_,_,_,_,⟨f.at2 rfl,f.at2 rfl,f.at2 rfl,f.at2 rfl,f.at2 rfl,f.at2 rfl,f.at2 rfl,f.at2 rfl,f.at2 rfl,f.at2 rfl,f.at2 rfl,f.at2 rfl,f.at2 rfl,f.at2 rfl,f.at2 rfl⟩,(qo S).mono ?_⟩);rintro e U ⟨_,rfl,rfl,m⟩;have t:=S.pu m;have a0:=T.pu m;refine⟨_,_,_,_,_,_,_,_,_,_,_,_,_,_,_,rfl,aY (λk d=>d) m,λ_ k=>k<U.heap.size,λ_ k d=>Nat.lt_of_lt_of_le d m.size,?_⟩;rw[Jf];have f:=Pu.blk m f;refine aU (ah _ rfl ⟨by rw[block_add];exact f.lt,_,f.at rfl,(Jy t).mono ?_⟩);rintro e V ⟨_,rfl,rfl,e7⟩;have q:Pu U V:=e7▸Ch.refl _ _;refine⟨_,rfl,aY (λk d=>d) q,λ_ k=>k<V.heap.size,λ_ k d=>Nat.lt_of_lt_of_le d q.size,(HG (t.pu q).db).mono ?_⟩;rintro e w8 ⟨_,rfl,g8,n8,rfl,a1,_,u⟩;refine⟨_,_,_,rfl,aY (λk d=>d) u,λ_ k=>k<w8.heap.size,λ_ k d=>Nat.lt_of_lt_of_le d u.size,(zE ((a0.pu q).pu u).db).mono ?_⟩;rintro e w9 ⟨_,rfl,Z9,A9,n9,c9,rfl,a2,_,y⟩;refine⟨_,_,_,rfl,aY (λk d=>d) y,λ_ k=>k<w9.heap.size,λ_ k d=>Nat.lt_of_lt_of_le d y.size,?_⟩;have i8:=(a1.pu y).rd.ints;have i9:=a2.rd.ints;have a3:=mI t.db.ok t.db.S64;rw[List.map_map,show(U32.v ∘ uM)=id from rfl,List.map_id]at i8 i9;have a5:=i8.len;refine(Gy i8 i9 (by have h1:=a3.2;omega)).mono ?_;rintro e a4 ⟨_,rfl,rfl,E⟩;exact⟨_,rfl,aY (λk d=>d) E,λ_ k=>k<a4.heap.size,λ_ k d=>Nat.lt_of_lt_of_le d E.size,by simp,((((((B.drew.trans i).trans o).trans m).trans q).trans u).trans y).trans E⟩
 rintro _ x Q ⟨rfl,i⟩;exact⟨rfl,i⟩
end
end Go.Proofs.YtoghdgcmhbanbaaGreatDoor
end
section
set_option maxRecDepth 100000
set_option maxHeartbeats 2000000
namespace Go.Proofs.YtoghdgcmhbanbaaGreatDoor
open Go Go.RowKit V Pk
open Go.IntKind (i64 u32 u64 wrap_i64 wrap_u32)
open Enc (enc)
section
variable {w:World}{A:Option Addr}{n c:Nat}{K K2:List Int}
theorem NRn.pu {w w':World}(h:NRn w A n c)(q:Pu w w'):NRn w' A n c:=by
 obtain⟨d,e,f⟩:=h;have lt:∀k,k<w.heap.size->k<w'.heap.size:=λk i=>Nat.lt_of_lt_of_le i q.size;refine⟨d,(e.pu q).mono lt λ_ h=>h,λh j=>?_⟩;obtain⟨rs,m,o,p⟩:=f h j;exact⟨rs,(m.pu q).mono lt λ_ h=>h,o,p⟩
theorem zo(a b d:Int)(o:cR w 1 K)(b5:cR w 2 K2)(b7:Dm w)(h:NRn w A n c)(J:0<=a/\a<4294967296)(M:0<=b/\b<4294967296)(hd:0<=d/\d<4294967296):
 Calls Tryz.prog 3 #[.agg #[.int .u32 a,.int .u32 b,.int .u32 d,.slice A n c]] w λe w'=>∃v,e=.returned v/\v=.bool true/\Pu w w':=by
 refine nI _ _ _ _ _ _ (mkd λg w1 B=>⟨_,B.blk.at rfl,_,B.blk.at rfl,_,B.blk.at rfl,mkd λg2 w2 N=>?_⟩);have V:Pu w w1:=B.pu;have da:Pu w w2:=V.made N;rintro i rfl;have o3:OI w2 (up w1) 22 .u32 (pvA g2) 3 3 [a,b,d]:=⟨⟨rfl,.inr ⟨g2,3,_,rfl,Nat.zero_le _,N.blk,Nat.le_refl _,by decide,rfl,rfl⟩⟩,λa J=>by injection J with J;rw[<-J];exact Nat.le_of_eq N.num.symm⟩;refine⟨λm hA hN hC x w'=>∃(j:Nat)(l:List Int),x=(j:Int)/\j<=23/\m=23 - j/\hN=3+j/\OI w' (up w1) 22 .u32 hA hN hC l/\Wd l/\Pu w1 w',⟨_,0,[a,b,d],rfl,by omega,rfl,rfl,o3,λy f=>?_,N.pu⟩,?_⟩
 ·simp only[List.mem_cons,List.not_mem_nil,or_false]at f;rcases f with rfl|rfl|rfl<;>assumption
 rintro m _ hA hN hC _ u ⟨j,l,rfl,hj,rfl,rfl,ho,hw,O⟩;refine af (λa3=>?_) (λdc=>?_)
 ·refine mkd λg4 Q m4=>?_;refine dW (m:=1) (k:=.u32) oQ ho (λk o=>Nat.le_trans O.size o) [u32.wrap (j:Int)] rfl m4 (by omega) (by omega) λA5 c5 w5 an _ b8=>?_;rintro k2 rfl;refine⟨23 - (j+1),by omega,j+1,l++ [u32.wrap (j:Int)],by rw[aa (by omega)];omega,by omega,rfl,rfl,an,λy f=>?_,(O.made m4).up b8⟩;rcases List.mem_append.1 f with f|f
  ·exact hw y f
  ·rw[List.mem_singleton.1 f];exact wrap_u32 _
 clear o3;rintro g4 Q b9 C;subst b9;subst C;refine⟨_,_,_,_,Lib.run_convert_bytes_const u _ _ _ 8 8 sG kG,?_⟩;generalize C:u.alloc (.cells (#[vY 119,vY 97,vY 114,vY 100,vY 101,vY 110,vY 32,vY 49]:Array Value) 5 _)=Q;have q4:Pu u Q:=by rw[<-C];exact Kept.pu (Kept.tZ u _)
 have h4:aD Q (up u) .u8 (some (Addr.mk u.heap.size 0 none)) 8 8 mg:=⟨rfl,Nat.le_refl _,λj x hx=>⟨_,rfl,Nat.le_refl _,by
  rw[bn,Nat.zero_add,<-C,World.cell?_alloc_mark];have:(mg.map (Value.int .u8))[j]? =some (vY x):=by rw[List.getElem?_map,hx];rfl
  simpa[mg]using this⟩⟩
 clear C;refine(AJ h4 (by omega)).mono ?_;rintro e w5 ⟨_,rfl,A5,c5,rfl,an,q5⟩;refine⟨_,_,_,rfl,(AR (ho.ints.pu (q4.trans q5)) (by omega) hw).mono ?_⟩;rintro e w6 ⟨_,rfl,A6,n6,c6,b6,rfl,ca,cb,dd,q6⟩;refine⟨_,_,_,rfl,?_⟩;have a4:Pu w1 w6:=((O.trans q4).trans q5).trans q6;refine cu (t:=27) st8 ((an.pu q6).mono (Y:=up w1) λk o=>Nat.le_trans (O.trans q4).size o) a4.size ca.ints (by omega) (by omega) λA7 c7 w7 a5 a6=>?_;have a7:Pu w1 w7:=a4.up a6;rintro i2 rfl;refine⟨λm bA R bC x w'=>∃(j:Nat)(l:List Int),x=(j:Int)/\j<=200/\m=200 - j/\OI w' (up w1) 5 .u8 bA R bC l/\Bt l/\R<=100000+40000*j/\Pu w1 w',⟨_,0,_,rfl,by omega,rfl,a5,Lr.app cb,by omega,a7⟩,?_⟩;clear a5 a6 a7;rintro m _ bA R bC _ w8 ⟨j,l8,rfl,dk,rfl,az,a8,dp,E⟩;have d1:=Pu.blk E B.blk;have cc:=h.pu (V.trans E);refine⟨λx w'=>(x=true->j<n/\j<200)/\w8=w',⟨_,_,_,d1.at rfl,af (λa3=>⟨λM=>⟨by omega,by have:=of_decide_eq_true M;omega⟩,rfl⟩) (λa3=>⟨λM=>(by cases M),rfl⟩)⟩,?_⟩;rintro _ x _ ⟨hx,rfl⟩;refine ab (λa9=>?_) (λa9=>?_)
 ·obtain⟨h1,h2⟩:=hx a9;obtain⟨hs,cf,cg⟩:=cc;obtain⟨p,x,hp,cj,_,hc⟩:=cf.ld (i:=(j:Int)) (by omega) (by omega);obtain⟨rs,ck,ct,cA⟩:=cg x (List.mem_of_getElem? cj);refine⟨_,_,_,d1.at rfl,⟨by omega,by omega⟩,ah p hp ⟨x.A,x.n,x.c,hc 0 (by decide),(IL ck ct cA).mono ?_⟩⟩;rintro e F ⟨_,rfl,A9,n9,c9,l9,rfl,S,ba,dr,z⟩;have dA:=S.ints.cap;have step:∀ {G:Option Addr}{q I:Nat}{l:List Int},aD F (up w8) .u32 G q I l->q<=5000->Wd l->
   Calls Tryz.prog 5 #[.slice G q I] F λe cC=>∃bb:oA,∃bc bd:Nat,e=.returned (.slice bb bc bd)/\
   ∃bg:oA,∃aA bl:Nat,∃aC,(Builtin.append_ #[27,27] 27 #[(.slice bA R bC),(.slice bb bc bd)]:Sem Value).run Tryz.prog cC=.ok (.slice bg aA bl) aC/\
   ∀i4:Int,i4=(i64.wrap ((j:Int)+1))->
   ∃m3,m3<200 - j/\∃(j:Nat)(l:List Int),i4=(j:Int)/\j<=200/\m3=200 - j/\OI aC (up w1) 5 .u8 bg aA bl l/\Bt l/\aA<=100000+40000*j/\Pu w1 aC:=by
   intro G q I l hi hn hw;refine(AR hi hn hw).mono ?_;rintro e bs ⟨_,rfl,dC,dN,dT,ea,rfl,cM,cN,eb,b0⟩;refine⟨_,_,_,rfl,?_⟩;have b1:Pu w1 bs:=(E.trans z).trans b0;refine cu (t:=27) st8 (az.pu (z.trans b0)) b1.size cM.ints (by omega) (by omega) λc0 c1 aN a0 a1=>?_;rintro i4 rfl;exact⟨200 - (j+1),by omega,j+1,_,by rw[aa (by omega)];omega,by omega,rfl,a0,a8.app cN,by omega,b1.up a1⟩
  refine⟨_,_,_,rfl,af (λec=>⟨⟨by omega,by omega⟩,?_⟩) (λhle=>step S.ints (by omega) ba)⟩;rintro G c2 q a2 I c3;have ed:=S.len;have b2:aD F (up w8) .u32 G q I ((l9.take 5000).drop 0):=S.ints.cut (lo:=0) (hi:=5000) (m:=c9) c2 a2 c3 (by omega) (by omega) (by omega);rw[List.drop_zero]at b2;have a2:q=5000:=a2;exact step b2 (by omega) λy f=>ba y (List.mem_of_mem_take f)
 ·refine(Ci az.ints (by omega)).mono ?_;rintro e F ⟨_,rfl,rfl,e9⟩;have z:Pu w8 F:=e9▸Ch.refl _ _;refine⟨_,rfl,mkd λee bs b3=>?_⟩;refine dW (m:=4) (k:=.u8) st8 (az.pu z) (λk o=>Nat.le_trans (E.trans z).size o) (four (crc l8)) rfl b3 (by omega) (by omega) λc0 c1 aN a0 _ a1=>?_;have c4:Pu w aN:=V.trans (((E.trans z).made b3).up a1);refine⟨λx w'=>x=true/\Pu w w',(JE aN).mono ?_,?_⟩
  ·rintro e b4 ⟨_,rfl,rfl,T⟩;have U:Pu w b4:=c4.trans T;refine⟨_,rfl,aU ((He (o.pu U) (b5.pu U) (b7.pu U) (a0.ints.pu T) (by omega) (a8.app (gT _))).mono ?_)⟩;rintro e ei ⟨_,rfl,rfl,c8⟩;exact⟨_,rfl,rfl,U.trans c8⟩
  rintro _ x b4 ⟨rfl,T⟩;exact⟨rfl,T⟩
end
end Go.Proofs.YtoghdgcmhbanbaaGreatDoor
end
section
set_option maxRecDepth 100000
namespace Go.Proofs.YtoghdgcmhbanbaaGreatDoor
open Go Go.RowKit V Go.ChangeShapes Go.WideShapes Go.ChangeAt
open Go.IntKind (i64 u32 u64 wrap_i64 wrap_u32)
open Enc (enc)
theorem wf_u32 {x:Int}(h:(Lit.int .u32 x).wf=true):0<=x/\x<4294967296:=by
 have:0<=x/\x<=4294967295:=by simpa[Lit.wf,IntKind.min,IntKind.max,IntKind.signed,IntKind.bits]using h
 omega
section
variable {P:Program}{W:World}{H:Type}{en:TypeId×Value->H}
theorem pX {e:TypeId}{n:Nat}{d:DataW H}(f:n∈d.weights P e):∀ {l:List (DataW H)},d∈l->n∈DataW.weightsAll P e l
 | x::r,h=>by
  simp only[DataW.weightsAll,List.mem_append];rcases List.mem_cons.1 h with rfl|h
  ·exact .inl f
  ·exact .inr (pX f h)
theorem tn {α:Type} [Enc α] [Inhabited α]{t e:TypeId}(C:P.underlying t=some (.slice e))(ce:P.cellsOf e=Enc.size α)(G:α->DataW H->Prop)
 (he:∀(n:Nat)(cs:List Value)(D:DataW H)(p:List MemPlace),cs.length=Enc.size α->DataW.trod en P W 0 (λ_=>true) true n e cs=some (D,p)->∃x:α,cs=enc x/\G x D)
 {n:Nat}{cs:List Value}{d:DataW H}{p:List MemPlace}(h:DataW.trod en P W 0 (λ_=>true) true n t cs=some (d,p)):
 ∃(A:oA)(c:Nat)(l:List α),cs= [.slice A l.length c]/\Rd W (λk=>k<W.heap.size) A l.length c l/\(l= []\/∃el sp,d=.slice el sp/\l.length<=el.length/\∀x∈l,∃D∈el,G x D):=by
 rcases Go.Deep.open_slice C h with⟨u,f⟩|⟨a,len,cap,m,n,D,Q,u,_,E,hm,z,f,F⟩
 ·exact⟨none,0,[],u,⟨rfl,Nat.le_refl _,λ_ h=>h,λi x hi=>by cases hi⟩,.inl rfl⟩
 ·simp only[if_true]at z;subst z;simp only[Prod.mk.injEq]at f;have each:∀i,i<m->∃x:α,(∀j,j<Enc.size α->W.cell? ((a.add (i*Enc.size α)).add j)=(enc x)[j]?)/\G x (D i):=by
   intro i hi;obtain⟨R,o,I⟩:=F i hi;rw[ce]at o;obtain⟨_,hlen,J⟩:=World.cells?_some o;obtain⟨x,rfl,M⟩:=he _ _ _ _ hlen I;exact⟨x,λj v=>J j v,M⟩
  obtain⟨q,hq⟩:=Go.Deep.choose_lt each;have hlen:((List.range len).map q).length=len:=by rw[List.length_map,List.length_range]
  have N:∀(i:Nat)(x:α),((List.range len).map q)[i]? =some x->i<len/\x=q i:=λi x hi=>by
   have y:i<len:=by
    rcases Nat.lt_or_ge i len with h|h
    ·exact h
    ·rw[List.getElem?_eq_none (by simpa using h)]at hi;cases hi
   rw[List.getElem?_map,List.getElem?_range y]at hi;injection hi with hi
   exact⟨y,hi.symm⟩
  refine⟨some a,m,(List.range len).map q,by rw[hlen];exact u,⟨rfl,by rw[hlen];exact E,λ_ h=>h,λi x hi=>?_⟩,.inr ⟨_,_,f.1,by simp,λx f=>?_⟩⟩
  ·obtain⟨y,rfl⟩:=N i x hi;have o:=(hq i (by omega)).1;refine⟨a,rfl,?_,λj v=>o j v⟩;have B:=o 0 Enc.pos;have O:0<(enc (q i)).length:=by rw[Enc.len];exact Enc.pos
   rw[List.getElem?_eq_getElem O]at B;have:=World.block_lt_of_cell? W _ B
   rwa[V.block_add,V.block_add]at this
  ·obtain⟨i,hi,rfl⟩:=List.mem_map.1 f;have:=List.mem_range.1 hi;exact⟨D i,List.mem_map.2 ⟨i,hi,rfl⟩,(hq i (by omega)).2⟩
end
theorem cU:Tryz.prog.cellsOf 22=1:=by kernel_rfl
theorem cI:Tryz.prog.cellsOf 3=1:=by kernel_rfl
theorem cL:Tryz.prog.cellsOf 23=1:=by kernel_rfl
section
variable {W:World}{H:Type}{en:TypeId×Value->H}
theorem G2 {n:Nat}{cs:List Value}{d:DataW H}{p:List MemPlace}(h:DataW.trod en Tryz.prog W 0 (λ_=>true) true n 39 cs=some (d,p)):∃x:Rn,cs=enc x/\0<=x.v/\x.v<4294967296:=by
 obtain⟨xs,k,v,y,e,q,j⟩:=DataW.trod_struct Tryz.underlying39 h;have e:cs.length=2:=e.trans (by kernel_rfl)
 match xs,q,cs,e with
 | [z,B],_,[v0,v1],_=>
  have m:=j 0 _ rfl;have o:=j 1 _ rfl;simp[cI,cU]at m o;obtain⟨t,f,_,w0⟩:=DataW.trod_int Tryz.underlying22 m;obtain⟨u,i,_,_⟩:=DataW.trod_int Tryz.underlying3 o;injection f with f;injection i with i
  subst f i;exact⟨⟨t,u⟩,rfl,wf_u32 w0⟩
theorem E8 {n:Nat}{cs:List Value}{d:DataW H}{p:List MemPlace}(h:DataW.trod en Tryz.prog W 0 (λ_=>true) true n 31 cs=some (d,p)):
 ∃x:Hd,cs=enc x/\∃rs:List Rn,Rd W (λk=>k<W.heap.size) x.A x.n x.c rs/\(∀y∈rs,0<=y.v/\y.v<4294967296)/\(x.n=0\/∃k∈d.weights Tryz.prog 31,x.n<=k):=by
 have:Inhabited Rn:=⟨⟨0,0⟩⟩;obtain⟨A,c,l,j,m,e⟩:=tn (α:=Rn) Tryz.underlying31 (by kernel_rfl) (λx _=>0<=x.v/\x.v<4294967296) (λn cs D p _ h=>G2 h) h;refine⟨⟨A,l.length,c⟩,j,l,m,λy f=>?_,?_⟩
 ·rcases e with rfl|⟨_,_,_,_,i⟩
  ·cases f
  ·obtain⟨_,_,o⟩:=i y f;exact o
 ·rcases e with rfl|⟨el,sp,rfl,i,_⟩
  ·exact .inl rfl
  ·refine .inr ⟨(el.length+sp.length)*Tryz.prog.bytesOf 39,?_,?_⟩
   ·simp[DataW.weights,Tryz.underlying31]
   ·rw[show Tryz.prog.bytesOf 39=16 by kernel_rfl];show l.length<=_;omega
theorem Cv {v:Value}{d:DataW H}{p:List MemPlace}{base:Nat}(I:Value.okWide Tryz.prog W .any base 25 v)(h:DataW.Trod en Tryz.prog W 0 (λ_=>true) true 25 v d p)(J:∀k∈d.weights Tryz.prog 25,k<=reachBytes):
 ∃(a b c:Int)(A:oA)(n m:Nat),v=.agg #[.int .u32 a,.int .u32 b,.int .u32 c,.slice A n m]/\(0<=a/\a<4294967296)/\(0<=b/\b<4294967296)/\(0<=c/\c<4294967296)/\NRn W A n m:=by
 obtain⟨⟨cs⟩,rfl,f⟩:=okWide_struct Tryz.underlying25 I;have f:cs.length=4:=f.trans (by kernel_rfl);obtain⟨fuel,e⟩:=h;obtain⟨xs,k,hk,M,hl,N,e⟩:=DataW.trod_struct Tryz.underlying25 e;injection M with hd _
 match xs,N,cs,f with
 | [y0,y1,y2,(d3,p3)],_,[v0,v1,v2,v3],_=>
  have z:=e 0 _ rfl;have B:=e 1 _ rfl;have C:=e 2 _ rfl;have E:=e 3 _ rfl;simp[cL,cU]at z B C E;obtain⟨O,i,_,w0⟩:=DataW.trod_int Tryz.underlying22 z;obtain⟨Q,o,_,w1⟩:=DataW.trod_int Tryz.underlying22 B;obtain⟨n2,t,_,w2⟩:=DataW.trod_int Tryz.underlying22 C;have:Inhabited Hd:=⟨⟨none,0,0⟩⟩;obtain⟨A,c,F,u,R,hw⟩:=tn (α:=Hd) Tryz.underlying23 (by kernel_rfl) (λx D=>∃rs:List Rn,Rd W (λk=>k<W.heap.size) x.A x.n x.c rs/\(∀y∈rs,0<=y.v/\y.v<4294967296)/\(x.n=0\/∃k∈D.weights Tryz.prog 31,x.n<=k)) (λn cs D p _ h=>E8 h) E;injection i with i;injection o with o;injection t with t;injection u with u
  subst i o t u;refine⟨O,Q,n2,A,F.length,c,rfl,wf_u32 w0,wf_u32 w1,wf_u32 w2,F,R,λx G=>?_⟩;rcases hw with rfl|⟨el,sp,S,_,T⟩
  ·cases G
  obtain⟨D,U,rs,r1,r2,r3⟩:=T x G;refine⟨rs,r1,r2,?_⟩;rcases r3 with h0|⟨q,hq,hle⟩
  ·omega
  have V:q∈d3.weights Tryz.prog 23:=by
   rw[S];simp only[DataW.weights,Tryz.underlying23,List.mem_cons,List.mem_append];exact .inr (.inl (pX hq U))
  have h7:=J q (by
   rw[hd];simp only[DataW.weights,Tryz.underlying25];exact DataW.weights_mem_each (j:=3) rfl rfl q V)
  simp[reachBytes]at h7;omega
end
section
variable {P:Program}{W:World}{H:Type}{en:TypeId×Value->H}
theorem pj {n:Nat}{e:TypeId}{k:IntKind}{t:TypeId}{fuel base:Nat}{sp:Nat->Bool}{held:Bool}{cs:List Value}{l:List Int}{q:List MemPlace}(y:P.underlying t=some (.array n e))(B:P.underlying e=some (.int k))(ce:P.cellsOf e=1)
 (h:DataW.trod en P W base sp held fuel t cs=some (.agg (l.map λx=>.lit (.int k x)),q))(C:P.cellsOf t=n):cs=l.map (Value.int k):=by
 obtain⟨xs,m,rfl,j,E,F,G⟩:=DataW.trod_array y h;have J:cs.length=n:=E.trans C;simp only[Prod.mk.injEq,DataW.agg.injEq]at j;have M:l.length=n:=by have:=congrArg List.length j.1;simpa[F]using this
 refine List.ext_getElem? λi=>?_;by_cases hi:i<n
 ·have f:=G i hi;rw[ce,Nat.mul_one]at f;have p:i<cs.length:=by omega
  rw[show(cs.drop i).take 1= [cs[i]]from by rw[List.drop_eq_getElem_cons p];rfl]at f;have u:i<xs.length:=by omega
  rw[List.getElem?_eq_getElem u]at f;obtain⟨x,o,I,_⟩:=DataW.trod_int B f;have d:=congrArg (λz=>z[i]?) j.1;simp only[List.getElem?_map,List.getElem?_eq_getElem u,Option.map_some,I]at d;have v:i<l.length:=by omega
  simp only[List.getElem?_eq_getElem v,Option.map_some,Option.some.injEq]at d;injection d with d
  injection d with _ d
  injection o with o _
  rw[List.getElem?_eq_getElem p,o,List.getElem?_map,List.getElem?_eq_getElem v,Option.map_some,d]
 ·rw[List.getElem?_eq_none (by omega),List.getElem?_eq_none (by simp;omega)]
theorem tm {n:String}{g:Nat}{cs:Array Value}{ps:List MemPlace}(f:P.globalNamed n=some g)(d:W.var? P n=some cs)(h:0<cs.size)(i:MemPlace.row ⟨g,0,none⟩ cs.size ⊆ ps)(j:∀b off,MemPlace.cell b off∈ps->(∃c t,W.heap[b]? =some (.cells c t (0,0)))/\∀u v,W.cell? ⟨b,off,none⟩=some (.iface u v)->Value.okWide P W .any 0 u v):∃T,Blk W g cs T:=by
 have k:MemPlace.cell g 0∈ps:=i (by unfold MemPlace.row;exact List.mem_map.2 ⟨0,List.mem_range.2 h,rfl⟩);obtain⟨⟨c,t,e⟩,_⟩:=j _ _ k;unfold World.var? at d;rw[f]at d;simp only[Option.bind_some,e,Option.some.injEq]at d;subst d;exact⟨t,e⟩
end
end Go.Proofs.YtoghdgcmhbanbaaGreatDoor
end
section
namespace Go.Proofs.YtoghdgcmhbanbaaGreatDoor
open Go Go.RowKit V Go.ChangeShapes Go.WideShapes Go.ChangeAt
open Go.IntKind (i64 u32 u64 wrap_i64 wrap_u32)
open Enc (enc)
theorem JD:ownKnob Tryz.prog.godebug=none:=by kernel_rfl
theorem Ak:laidOutB Tryz.prog=true:=by kernel_rfl
def Nt:DataW Unit->List Int
 | .agg l=>l.filterMap λd=>match d with
  |.lit (.int _ x)=>some x
  |_=>none
 |_=>[]
def kR:List Int:=Nt Rows.laid_warden_sha_rounds
theorem JH:Rows.laid_warden_sha_rounds (H:=Unit)=.agg (kR.map λx=>.lit (.int .u32 x)):=by kernel_rfl
theorem Hl:Rows.laid_warden_wardenref02_K (H:=Unit)=.agg (kR.map λx=>.lit (.int .u32 x)):=by kernel_rfl
theorem Hk:Rows.laid_warden_snap_parts (H:=Unit)=.agg ([0,1,2,3].map λx=>.lit (.int .i64 x)):=by kernel_rfl
theorem CA:kR.length=64:=by kernel_rfl
theorem Eh:Tryz.prog.globalNamed "warden/sha.rounds" =some 1:=by kernel_rfl
theorem gK:Tryz.prog.globalNamed "warden/wardenref02.K" =some 2:=by kernel_rfl
theorem Hv:Tryz.prog.globalNamed "warden/snap.parts" =some 0:=by kernel_rfl
theorem Jq {W:World}(h:laidMetH Tryz.prog Rows.snapFormsRow.laid W):cR W 1 kR/\cR W 2 kR/\Dm W:=by
 rw[MakeChecks.laidMetH_plain _ _ _ (by kernel_rfl)]at h;obtain⟨ps,⟨O,t0,i,f0,Q,R,x,z,B,j,⟨S,t1,k,f1,T,U,C,E,F,hd1,⟨V,t2,m,f2,p2,q2,G,I,J,o,an,M⟩,p⟩,e⟩,_,f⟩:=h;obtain rfl:=Option.some.inj (Eh.symm.trans x);obtain rfl:=Option.some.inj (gK.symm.trans C);obtain rfl:=Option.some.inj (Hv.symm.trans G);obtain rfl:=Option.some.inj ((show(Tryz.prog.globals[1]?).map (·.type)=some 235 by kernel_rfl).symm.trans z);obtain rfl:=Option.some.inj ((show(Tryz.prog.globals[2]?).map (·.type)=some 235 by kernel_rfl).symm.trans E);obtain rfl:=Option.some.inj ((show(Tryz.prog.globals[0]?).map (·.type)=some 85 by kernel_rfl).symm.trans I);rw[JH]at j;rw[Hl]at hd1;rw[Hk]at o;have q:=pj Tryz.underlying235 Tryz.underlying22 cU j (by kernel_rfl);have t:=pj Tryz.underlying235 Tryz.underlying22 cU hd1 (by kernel_rfl);have u:=pj Tryz.underlying85 Tryz.underlying3 cI o (by kernel_rfl);obtain⟨i⟩:=i;obtain⟨k⟩:=k;obtain⟨m⟩:=m;simp only at q t u;subst q t u;have N:MemPlace.row ⟨1,0,none⟩ (kR.map (Value.int .u32)).toArray.size ⊆ ps:=by rw[e];intro y d;simp only[List.mem_append];exact .inl (.inl d)
 have s1:MemPlace.row ⟨2,0,none⟩ (kR.map (Value.int .u32)).toArray.size ⊆ ps:=by rw[e,p];intro y d;simp only[List.mem_append];exact .inr (.inl (.inl d))
 have s2:MemPlace.row ⟨0,0,none⟩ (([0,1,2,3]:List Int).map (Value.int .i64)).toArray.size ⊆ ps:=by rw[e,p,M];intro y d;simp only[List.mem_append];exact .inr (.inr (.inl (.inl d)))
 have v:0<(kR.map (Value.int .u32)).toArray.size:=by simp[CA]
 exact⟨⟨CA,tm Eh B v N f⟩,⟨CA,tm gK F v s1 f⟩,tm Hv J (by simp) s2 f⟩
theorem HF(os:Os)(args:Array Value):laidMetH Tryz.prog Rows.snapFormsRow.laid ((World.doorLaid Tryz.prog 400 os).forCall (λ_ _=>0) ⟨#[],args,[]⟩).memory:=
 laidMetH_of_parts3 (fuel:=8) (laidMet_of_run' 8 (by kernel_rfl) (by kernel_rfl)) (by kernel_rfl) (by kernel_rfl)
set_option maxRecDepth 100000 in
theorem Cz(os:Os)(started:os.Started)(H:Type)(enc:TypeId×Value->H):
 ReturnsInHanded {} Tryz.checked os 3 .any (λw args=>(Rows.snapFormsSpec.pre enc Tryz.prog Tryz.f3 [] false w args/\laidMetH Tryz.prog Rows.snapFormsRow.laid w)/\sizedMet enc Tryz.prog Tryz.f3 (OpenSpec.ofChange Rows.snapFormsSpec) false w args)
  (Rows.snapFormsSpec.post enc Tryz.prog Tryz.f3 false true false false):=by
 refine returnsInHanded_of_change_and (C:=Tryz.checked) (X:=λw _=>laidMetH Tryz.prog Rows.snapFormsRow.laid w) (λ_ _ _ N h=>h.of_heap N) JD started (by kernel_rfl) Tryz.func3
  (ChangeSpec.witness_shaped (enc:=enc) (C:=Tryz.checked) (os:=os) (X:=λw _=>laidMetH Tryz.prog Rows.snapFormsRow.laid w) false (World.doorLaid Tryz.prog 400 os) #[.agg #[.int .u32 1,.int .u32 1,.int .u32 1,.slice none 0 0]] 8 rfl (World.shaped_of_RefB (by kernel_rfl) (by kernel_rfl)) (by kernel_rfl) (by kernel_rfl) (by kernel_rfl) (HF os _)) ?_
 intro W base args ds gs before y z _ B O _;have E:(DataW.weightsEach Tryz.prog (Tryz.f3.params.toList++Rows.snapFormsSpec.plain.varTypes Tryz.prog) (ds++gs)).all (· <=reachBytes)=true:=B;clear B;have F:∀(j:Nat) t v,Tryz.f3.params[j]? =some t->args[j]? =some v->Value.okWide Tryz.prog W .any base t v:=y;have i:=z;obtain⟨p,q,G,Q,rfl,_,_⟩:=z;have f:DataW.TrodAll enc Tryz.prog W 0 (λ_=>true) true Tryz.f3.params.toList args.toList ds p:=G;rw[Tryz.params3]at f F E;clear G y;obtain⟨args⟩:=args;obtain⟨v0,_,d0,_,I,_,m,rfl,rfl,J,f⟩:=trodAll_cons f;obtain⟨rfl,rfl,rfl⟩:=trodAll_nil f;have m:args= [v0]:=m;subst m;obtain⟨rfl,rfl⟩:=trodVars_none Q;obtain⟨R,S,T,A,n,c,rfl,U,V,an,hr⟩:=Cv (F 0 25 v0 rfl rfl) J (λk o=>by
  have h1:=List.all_eq_true.1 E k (DataW.weights_mem_each (j:=0) rfl rfl k o);simpa using h1)
 simp only[List.append_nil]at i;have az:∀x∈I,x.block<W.heap.size:=λx u=>i.lt x u;obtain⟨aA,aC,aN⟩:=Jq O;refine(zo R S T aA aC aN hr U V an).mono ?_;rintro e W' ⟨_,rfl,rfl,d⟩;have M:Below W.heap.size W W':=⟨d.kept.os,d.kept.tape,d.kept.output,d.kept.size,λk o=>d.kept.block k ⟨o,λh=>h⟩⟩;refine⟨_,rfl,_,_,_,[],I,[],i,trodAll_mk1 (shut_bool Tryz.underlying4 _),?_,rfl,M.frame _,λh=>by cases h⟩;exact trodAll_mk1 (Below.trod Ak (by kernel_rfl) (of_decide_eq_true (by kernel_rfl)) J M (λx u=>az x u))
theorem uW:Rows.SnapFormsSaid:=
 OpenClaim.holds_of_wide 3 Tryz.f3 rfl rfl rfl rfl rfl rfl rfl ⟨rfl,rfl,rfl,rfl,rfl⟩ rfl rfl rfl rfl rfl (by kernel_rfl) Tryz.func3 (by kernel_rfl)
  (of_decide_eq_true (by kernel_rfl)) (by unfold Func.isWrapper;(rw[if_neg (by decide+kernel)];exact⟨rfl,rfl⟩))
  (λos started H enc _=>Cz os started H enc)
end Go.Proofs.YtoghdgcmhbanbaaGreatDoor
end
section
namespace Go.Proofs.YtoghdgcmhbanbaaGreatDoor
open Go
theorem snapForms_card:Rows.SnapFormsCardSaid:=
 Claim7.holds_tied_plain_at .later [] [.data,.data,.data] true Rows.snapFormsCard.stood.harness false
  uW (λ_ h=>by cases h) (by kernel_rfl) (λ_ h=>by cases h) snapForms_row_tie rfl ⟨rfl,rfl⟩ (by kernel_rfl) rfl
  (λf fn e i=>by
   obtain rfl:f=3:=Option.some.inj ((show Tryz.prog.funcNamed "warden/wardenlaw27.SnapForms" =some 3 by kernel_rfl).symm.trans e) |>.symm
   obtain rfl:fn=Tryz.f3:=(Option.some.inj (Tryz.func3.symm.trans i)).symm;exact⟨by kernel_rfl,λj t d=>by
    rw[Tryz.params3]at d;have k:t=25:=by
     rcases j with _|j
     ·simpa using d.symm
     ·simp at d
    rcases k with rfl
    exact(show Tryz.prog.wantsStandIn 25=false by kernel_rfl)⟩)
  (by kernel_rfl)
#print axioms snapForms_card
end Go.Proofs.YtoghdgcmhbanbaaGreatDoor
end
