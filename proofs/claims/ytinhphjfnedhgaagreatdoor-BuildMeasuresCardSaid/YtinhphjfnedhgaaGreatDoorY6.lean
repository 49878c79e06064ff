/- BuildMeasures returns true for every input, and each argument reads behind the call as it read before; what the listed variable reads as is tied to the program's text; no condition. -/
import Derived.Test.YtinhphjfnedhgaaGreatDoorY5
import Derived.KernelRfl
import Derived.Test.YtinhphjfnedhgaaGreatDoorRows
import Derived.LaidHandle
import Derived.LaidLaws
import Derived.Carry
import Derived.Test.YtinhphjfnedhgaaGreatDoorTie
import Derived.Test.YtinhphjfnedhgaaGreatDoorCards
import Derived.SevenTiedAt
set_option linter.unusedVariables false
set_option linter.unusedSimpArgs false
namespace Go.Proofs.YtinhphjfnedhgaaGreatDoor
open Go.Proofs.Tryz (prog)
open Go Go.RowKit V
open Go.IntKind (i64 u32 u64)
section
set_option maxRecDepth 100000
def Dv(d:Option Addr)(last:Int)(long:Int)(R:aC)(w:World):Prop:=
 ∀(gv:Nat)(wv:World),gv=w.heap.size→wv=w.alloc (.cells (#[(.int .u32 0),(.int .u32 0),(.int .u32 0),(.int .u32 0),(.int .u32 0),(.int .u32 0),(.int .u32 0),(.int .u32 0)]) 66)→
 ∃b:Nat→Nat→Prop,
 au d fun ZN=>
 b 3 ((ZN.add 9).block)∧
 ∃Px:Option Addr,∃Qc:Nat,∃PT:Nat,wv.drew.cell? (ZN.add 9)=some (.slice Px Qc PT)∧
 au d fun RZ=>
 b 7 ((RZ.add 9).block)∧
 ∃Rp:Option Addr,∃O8:Nat,∃Ro:Nat,wv.drew.cell? (RZ.add 9)=some (.slice Rp O8 Ro)∧
 au d fun p19=>
 b 12 ((p19.add 9).block)∧
 ∃T4:Option Addr,∃Qt:Nat,∃TZ:Nat,wv.drew.cell? (p19.add 9)=some (.slice T4 Qt TZ)∧
 (0≤(((Qt:Nat):Int):Int)∧(((Qt:Nat):Int):Int)≤((PT:Nat):Int))∧
 (0≤(((O8:Nat):Int):Int)∧(((O8:Nat):Int):Int)≤((Int.toNat ((Qt:Nat):Int):Nat):Int))∧
 ∀Pw:Option Addr,Pw=(if(Int.toNat ((Qt:Nat):Int))=0 then Px else(Px:Option Addr).map (·.add (0*1)))→∀Pv:Nat,Pv=(Int.toNat ((O8:Nat):Int)) - 0→∀PS:Nat,PS=(Int.toNat ((Qt:Nat):Int)) - 0→
 ∀(Nc:Nat)(M5:World),Nc=wv.drew.heap.size→M5=wv.drew.alloc (.cells #[(.int .u32 last)] 29)→
 Kept (bW b [0,1,2,3,4,5,6,7,8,9,10,11,12,13,14]) wv.drew M5∧∃b1:Nat→Nat→Prop,(∀i k,b i k→b1 i k)∧
 ∃SP:Option Addr,∃SM:Nat,∃SO:Nat,∃M8,(Builtin.append_ #[62,62] 62 #[(.slice Pw Pv PS),(.slice (some (Addr.mk Nc 0 none)) 1 1)]:Sem Value).run prog M5= .ok (.slice SP SM SO) M8∧
 Kept (bW b1 [0,1,4,5,6,9,10,11]) M5 M8∧∃b2:Nat→Nat→Prop,(∀i k,b1 i k→b2 i k)∧
 ∃I:Nat→Option Addr→Nat→Nat→World→Prop,(∃m,I m SP SM SO M8)∧∀(m:Nat)(Oq:Nat→Value)(leftA:Option Addr)(leftN:Nat)(leftC:Nat),∀Nb,I m leftA leftN leftC Nb→
 split (((((leftN:Nat):Int):Int).tmod 16:Int) !=14) (
  ∀(No:Nat)(Nf:World),No=Nb.heap.size→Nf=Nb.alloc (.cells #[(.int .u32 0)] 29)→
  ∃SJ:Option Addr,∃SH:Nat,∃SI:Nat,∃Np,(Builtin.append_ #[62,62] 62 #[(.slice leftA leftN leftC),(.slice (some (Addr.mk No 0 none)) 1 1)]:Sem Value).run prog Nf= .ok (.slice SJ SH SI) Np∧
  ∃m1,m1<m∧I m1 SJ SH SI Np) (
  ∀(No:Nat)(Nf:World),No=Nb.heap.size→Nf=Nb.alloc (.cells #[(.int .u32 (u32.wrap ((long:Int).fdiv (2 ^ 32)))),(.int .u32 (u32.wrap long))] 29)→
  ∃SE:Option Addr,∃SC:Nat,∃SD:Nat,∃Np,(Builtin.append_ #[62,62] 62 #[(.slice leftA leftN leftC),(.slice (some (Addr.mk No 0 none)) 2 2)]:Sem Value).run prog Nf= .ok (.slice SE SC SD) Np∧
  au d fun UN=>
  ∃Yd:Int,∃Yc:Int,∃Yb:Int,∃Ya:Int,∃X9:Int,∃X8:Int,∃X7:Int,∃X6:Int,(Np.cell? ((UN.add 0).add 0)=some (.int .u32 Yd)∧Np.cell? ((UN.add 0).add 1)=some (.int .u32 Yc)∧Np.cell? ((UN.add 0).add 2)=some (.int .u32 Yb)∧Np.cell? ((UN.add 0).add 3)=some (.int .u32 Ya)∧Np.cell? ((UN.add 0).add 4)=some (.int .u32 X9)∧Np.cell? ((UN.add 0).add 5)=some (.int .u32 X8)∧Np.cell? ((UN.add 0).add 6)=some (.int .u32 X7)∧Np.cell? ((UN.add 0).add 7)=some (.int .u32 X6))∧
  ∀(Qa:Nat)(NK:World),Qa=Np.heap.size→NK=Np.alloc (.cells (#[(.int .u32 0),(.int .u32 0),(.int .u32 0),(.int .u32 0),(.int .u32 0),(.int .u32 0),(.int .u32 0),(.int .u32 0)]) 66)→
  aF NK (Addr.mk Qa 0 none) [(.int .u32 Yd),(.int .u32 Yc),(.int .u32 Yb),(.int .u32 Ya),(.int .u32 X9),(.int .u32 X8),(.int .u32 X7),(.int .u32 X6)] fun NG=>
  ∃I1:Nat→Option Addr→Nat→Nat→World→Prop,(∃m2,I1 m2 SE SC SD NG)∧∀(m2:Nat)(Ur:Nat→Value)(leftA1:Option Addr)(leftN1:Nat)(leftC1:Nat),∀Nk,I1 m2 leftA1 leftN1 leftC1 Nk→
  split (decide ((((leftN1:Nat):Int):Int)>0)) (
   ∃b3:Nat→Nat→Prop,
   b3 0 ((Addr.mk Qa 0 none).block)∧
   ∃SA:Int,∃Sz:Int,∃Sy:Int,∃Sx:Int,∃Sw:Int,∃Su:Int,∃Ss:Int,∃Sr:Int,(Nk.drew.cell? ((Addr.mk Qa 0 none).add 0)=some (.int .u32 SA)∧Nk.drew.cell? ((Addr.mk Qa 0 none).add 1)=some (.int .u32 Sz)∧Nk.drew.cell? ((Addr.mk Qa 0 none).add 2)=some (.int .u32 Sy)∧Nk.drew.cell? ((Addr.mk Qa 0 none).add 3)=some (.int .u32 Sx)∧Nk.drew.cell? ((Addr.mk Qa 0 none).add 4)=some (.int .u32 Sw)∧Nk.drew.cell? ((Addr.mk Qa 0 none).add 5)=some (.int .u32 Su)∧Nk.drew.cell? ((Addr.mk Qa 0 none).add 6)=some (.int .u32 Ss)∧Nk.drew.cell? ((Addr.mk Qa 0 none).add 7)=some (.int .u32 Sr))∧
   16≤leftN1∧
   au leftA1 fun QD=>
   b3 3 (QD.block)∧
   ∃Xw:Int,∃Xv:Int,∃Xu:Int,∃Xt:Int,∃Xr:Int,∃Xq:Int,∃Xp:Int,∃Xo:Int,∃Xn:Int,∃Xm:Int,∃Xk:Int,∃Xj:Int,∃Xi:Int,∃Xh:Int,∃Xg:Int,∃Xf:Int,(Nk.drew.cell? (QD.add 0)=some (.int .u32 Xw)∧Nk.drew.cell? (QD.add 1)=some (.int .u32 Xv)∧Nk.drew.cell? (QD.add 2)=some (.int .u32 Xu)∧Nk.drew.cell? (QD.add 3)=some (.int .u32 Xt)∧Nk.drew.cell? (QD.add 4)=some (.int .u32 Xr)∧Nk.drew.cell? (QD.add 5)=some (.int .u32 Xq)∧Nk.drew.cell? (QD.add 6)=some (.int .u32 Xp)∧Nk.drew.cell? (QD.add 7)=some (.int .u32 Xo)∧Nk.drew.cell? (QD.add 8)=some (.int .u32 Xn)∧Nk.drew.cell? (QD.add 9)=some (.int .u32 Xm)∧Nk.drew.cell? (QD.add 10)=some (.int .u32 Xk)∧Nk.drew.cell? (QD.add 11)=some (.int .u32 Xj)∧Nk.drew.cell? (QD.add 12)=some (.int .u32 Xi)∧Nk.drew.cell? (QD.add 13)=some (.int .u32 Xh)∧Nk.drew.cell? (QD.add 14)=some (.int .u32 Xg)∧Nk.drew.cell? (QD.add 15)=some (.int .u32 Xf))∧
   Calls prog 175 #[(.agg #[(.int .u32 SA),(.int .u32 Sz),(.int .u32 Sy),(.int .u32 Sx),(.int .u32 Sw),(.int .u32 Su),(.int .u32 Ss),(.int .u32 Sr)]),(.agg #[(.int .u32 Xw),(.int .u32 Xv),(.int .u32 Xu),(.int .u32 Xt),(.int .u32 Xr),(.int .u32 Xq),(.int .u32 Xp),(.int .u32 Xo),(.int .u32 Xn),(.int .u32 Xm),(.int .u32 Xk),(.int .u32 Xj),(.int .u32 Xi),(.int .u32 Xh),(.int .u32 Xg),(.int .u32 Xf)])] Nk.drew fun e Ol=>
   ∃Xd:Int,∃Xc:Int,∃Xb:Int,∃Xa:Int,∃W9:Int,∃W8:Int,∃W7:Int,∃W6:Int,e= .returned (.agg #[(.int .u32 Xd),(.int .u32 Xc),(.int .u32 Xb),(.int .u32 Xa),(.int .u32 W9),(.int .u32 W8),(.int .u32 W7),(.int .u32 W6)])∧
   ∃b4:Nat→Nat→Prop,(∀i k,b3 i k→b4 i k)∧
   aF Ol (Addr.mk Qa 0 none) [(.int .u32 Xd),(.int .u32 Xc),(.int .u32 Xb),(.int .u32 Xa),(.int .u32 W9),(.int .u32 W8),(.int .u32 W7),(.int .u32 W6)] fun QC=>
   ∃b5:Nat→Nat→Prop,(∀i k,b4 i k→b5 i k)∧
   (0≤(16:Int)∧(16:Int)≤((leftN1:Nat):Int))∧
   ∀Qs:Option Addr,Qs=(if leftC1=(Int.toNat 16)then leftA1 else(leftA1:Option Addr).map (·.add ((Int.toNat 16)*1)))→∀O6:Nat,O6=leftN1 - (Int.toNat 16)→∀QS:Nat,QS=leftC1 - (Int.toNat 16)→
   ∃m3,m3<m2∧I1 m3 Qs O6 QS QC) (
   ∃PI:Int,∃PH:Int,∃W5:Int,∃W4:Int,∃W3:Int,∃W2:Int,∃WZ:Int,∃WY:Int,(Nk.cell? ((Addr.mk Qa 0 none).add 0)=some (.int .u32 PI)∧Nk.cell? ((Addr.mk Qa 0 none).add 1)=some (.int .u32 PH)∧Nk.cell? ((Addr.mk Qa 0 none).add 2)=some (.int .u32 W5)∧Nk.cell? ((Addr.mk Qa 0 none).add 3)=some (.int .u32 W4)∧Nk.cell? ((Addr.mk Qa 0 none).add 4)=some (.int .u32 W3)∧Nk.cell? ((Addr.mk Qa 0 none).add 5)=some (.int .u32 W2)∧Nk.cell? ((Addr.mk Qa 0 none).add 6)=some (.int .u32 WZ)∧Nk.cell? ((Addr.mk Qa 0 none).add 7)=some (.int .u32 WY))∧
   aF Nk (Addr.mk gv 0 none) [(.int .u32 PI),(.int .u32 PH),(.int .u32 W5),(.int .u32 W4),(.int .u32 W3),(.int .u32 W2),(.int .u32 WZ),(.int .u32 WY)] fun Ol=>
   ∃PV:Int,∃PU:Int,∃Ql:Int,∃Qk:Int,∃Qj:Int,∃Tg:Int,∃Tf:Int,∃Te:Int,(Ol.cell? ((Addr.mk gv 0 none).add 0)=some (.int .u32 PV)∧Ol.cell? ((Addr.mk gv 0 none).add 1)=some (.int .u32 PU)∧Ol.cell? ((Addr.mk gv 0 none).add 2)=some (.int .u32 Ql)∧Ol.cell? ((Addr.mk gv 0 none).add 3)=some (.int .u32 Qk)∧Ol.cell? ((Addr.mk gv 0 none).add 4)=some (.int .u32 Qj)∧Ol.cell? ((Addr.mk gv 0 none).add 5)=some (.int .u32 Tg)∧Ol.cell? ((Addr.mk gv 0 none).add 6)=some (.int .u32 Tf)∧Ol.cell? ((Addr.mk gv 0 none).add 7)=some (.int .u32 Te))∧
   R (.agg #[(.int .u32 PV),(.int .u32 PU),(.int .u32 Ql),(.int .u32 Qk),(.int .u32 Qj),(.int .u32 Tg),(.int .u32 Tf),(.int .u32 Te)]) Ol))
def Ju:Ann:=(.node none .leaf (.node none .leaf (.node none (.node none (.node (some ⟨[(7,.one (.slice))],[7,27,28,29,30,31,32,33]⟩) .leaf .leaf) .leaf) (.node none .leaf (.node none .leaf (.node none (.node none (.node (some ⟨[(7,.one (.slice))],[7,46,47,48,49,50,51,52,53,54,55]⟩) .leaf .leaf) .leaf) .leaf))))))
theorem SEnd_eq(d:Option Addr)(last:Int)(long:Int)(R:aC)(w:World):Dv d last long R w=vcF prog aL [7] Tryz.f138 Ju [(.pointer d),(.int .u32 last),(.int .u64 long)] R none w:=by kernel_rfl
theorem BI(d:Option Addr)(last:Int)(long:Int) {R:aC} {w:World}(h:Dv d last long R w):Calls prog 138 #[(.pointer d),(.int .u32 last),(.int .u64 long)] w fun e w'=>∃v,e= .returned v∧R v w':=
 aj Tryz.func138 ar aa ((SEnd_eq d last long R w).mp h)
def mK(d:Option Addr)(R:aC)(w:World):Prop:=
 ∀(gv:Nat)(wv:World),gv=w.heap.size→wv=w.alloc (.cells (#[(.int .u32 0),(.int .u32 0),(.int .u32 0),(.int .u32 0),(.int .u32 0),(.int .u32 0),(.int .u32 0),(.int .u32 0)]) 66)→
 au d fun p5=>
 ∃x7:Int,wv.cell? (p5.add 8)=some (.int .i64 x7)∧
 Calls prog 138 #[(.pointer d),(.int .u32 2147483648),(.int .u64 (u64.wrap (32*(u64.wrap x7))))] wv fun e M5=>
 ∃O9:Int,∃OF:Int,∃ZD:Int,∃ZC:Int,∃ZB:Int,∃ZA:Int,∃Zz:Int,∃Zy:Int,e= .returned (.agg #[(.int .u32 O9),(.int .u32 OF),(.int .u32 ZD),(.int .u32 ZC),(.int .u32 ZB),(.int .u32 ZA),(.int .u32 Zz),(.int .u32 Zy)])∧
 aF M5 (Addr.mk gv 0 none) [(.int .u32 O9),(.int .u32 OF),(.int .u32 ZD),(.int .u32 ZC),(.int .u32 ZB),(.int .u32 ZA),(.int .u32 Zz),(.int .u32 Zy)] fun M8=>
 ∃PV:Int,∃PU:Int,∃Ql:Int,∃Qk:Int,∃Qj:Int,∃Tg:Int,∃Tf:Int,∃Te:Int,(M8.cell? ((Addr.mk gv 0 none).add 0)=some (.int .u32 PV)∧M8.cell? ((Addr.mk gv 0 none).add 1)=some (.int .u32 PU)∧M8.cell? ((Addr.mk gv 0 none).add 2)=some (.int .u32 Ql)∧M8.cell? ((Addr.mk gv 0 none).add 3)=some (.int .u32 Qk)∧M8.cell? ((Addr.mk gv 0 none).add 4)=some (.int .u32 Qj)∧M8.cell? ((Addr.mk gv 0 none).add 5)=some (.int .u32 Tg)∧M8.cell? ((Addr.mk gv 0 none).add 6)=some (.int .u32 Tf)∧M8.cell? ((Addr.mk gv 0 none).add 7)=some (.int .u32 Te))∧
 R (.agg #[(.int .u32 PV),(.int .u32 PU),(.int .u32 Ql),(.int .u32 Qk),(.int .u32 Qj),(.int .u32 Tg),(.int .u32 Tf),(.int .u32 Te)]) M8
def uk:Ann:= .leaf
theorem SSumDigest_eq(d:Option Addr)(R:aC)(w:World):mK d R w=vcF prog aL [] Tryz.f71 uk [(.pointer d)] R none w:=by kernel_rfl
theorem qc(d:Option Addr) {R:aC} {w:World}(h:mK d R w):Calls prog 71 #[(.pointer d)] w fun e w'=>∃v,e= .returned v∧R v w':=
 aj Tryz.func71 ar aa ((SSumDigest_eq d R w).mp h)
end
end Go.Proofs.YtinhphjfnedhgaaGreatDoor
namespace Go.Proofs.YtinhphjfnedhgaaGreatDoor
open Go.Proofs.Tryz (prog)
open Go Go.RowKit V
open Go.IntKind (i64 u32 u64)
open Enc (enc)
section
namespace V
theorem Rd.M0 {α:Type} [Enc α] {P:Program} {w:World} {Z Y:Nat→Prop} {t ty e:TypeId} {z:Value} {bytes:Nat} {A:Option Addr} {n:Nat} {l l2:List α} {b:Addr} {m d:Nat}(hT:SN P t e z (Enc.size α) bytes)(h1:Rd w Z A n n l)(h2:Rd w Y (some b) m d l2)(hm:0<m)(Qr:n+m≤9223372036854775807)(R6:(n+m)*bytes≤140737488355328)
 {K:Option Addr→Nat→Nat→World→Prop}(hK:∀A' c' w2,Own w2 (fun k=>w.heap.size≤k) e A' (n+m) c' (l++l2)→Pu w w2→K A' (n+m) c' w2):
 ∃(A':Option Addr)(n' c':Nat)(w2:World),(Builtin.append_ #[t,t] ty #[.slice A n n,.slice (some b) m d]:Sem Value).run P w= .ok (.slice A' n' c') w2∧K A' n' c' w2:=by
 obtain⟨i,hi,hz,NA,hb⟩:=hT.info
 cases A with
 | none=>
  obtain⟨OI,hn⟩:=h1.KO
  subst OI hn
  exact Own.apps (Own.nil (w:=w) (Z:=fun k=>w.heap.size≤k)) hT h2 Qr R6 (Nat.le_refl _) (fun A' c' w2 ho hc=>hK A' c' w2 ho hc.fresh) (fun h=>absurd h (by omega))
 | some a=>
  obtain⟨v',w2,hr,ho,hg⟩:=run_append_arg_grows (P:=P) w t ty e i z (Enc.size α) bytes hT.und hi hz NA hb hT.cells hT.pos a n n (l.flatMap enc) (by rw [dM,h1.len]) (h1.flat rfl) b m d (l2.flatMap enc) (by rw [dM,h2.len]) (h2.flat rfl) (by omega) (by simp only [maxLen];omega) R6
  rw [← List.flatMap_append]at ho
  rcases ho.2 with⟨_,Q4⟩ | ⟨g,cap,cur,hv,Wv,Q7,rest⟩
  ·omega
  ·subst hv
   exact⟨_,_,_,_,hr,hK _ _ _ ⟨⟨⟨ho.1,.inr ⟨g,cap,cur,rfl,Nat.zero_le _,Q7,rest⟩⟩,fun a ha=>by injection ha with ha;rw [← ha];exact Wv⟩,by rw [List.length_append,h1.len,h2.len]⟩ ⟨⟨hg.os,hg.tape,hg.output,hg.size,fun k hk=>hg.block k hk.1 (by simp)⟩⟩⟩
end V
def rA(l:List U32):List U32:=l++List.replicate ((30 - l.length % 16) % 16) (U32.mk 0)
theorem DF {l:List U32}(h:¬l.length % 16=14):rA (l++ [U32.mk 0])=rA l:=by
 have e:(30 - l.length % 16) % 16=(30 - (l++ [U32.mk 0]).length % 16) % 16+1:=by rw [List.length_append,List.length_singleton];omega
 unfold rA
 rw [e,List.append_assoc,List.replicate_succ];rfl
theorem DG {l:List U32}(h:l.length % 16=14):rA l=l:=by unfold rA;rw [h];simp
theorem Cs(l:List U32):l.length≤(rA l).length∧(rA l).length≤l.length+15:=by unfold rA;rw [List.length_append,List.length_replicate];omega
def Dg.fin(K:List Int)(d:Dg)(x hi lo:Int):S8:=(cw K d.st (rA (d.waits++ [U32.mk x])++ [U32.mk hi,U32.mk lo])).1
def Dg.sum(K:List Int)(d:Dg):S8:=d.fin K 2147483648 (u32.wrap ((u64.wrap (32*(u64.wrap d.n)):Int).fdiv (2 ^ 32))) (u32.wrap (u64.wrap (32*(u64.wrap d.n))))
def s8C(s:S8):Array Value:= #[.int .u32 s.a,.int .u32 s.b,.int .u32 s.c,.int .u32 s.d,.int .u32 s.e,.int .u32 s.f,.int .u32 s.g,.int .u32 s.h]
theorem CC(x0 x1 x2 x3 x4 x5 x6 x7 y0 y1 y2 y3 y4 y5 y6 y7:Value):setAt #[x0,x1,x2,x3,x4,x5,x6,x7] 0 [y0,y1,y2,y3,y4,y5,y6,y7]= #[y0,y1,y2,y3,y4,y5,y6,y7]:=by kernel_rfl
theorem Ky:SN prog 62 29 (.int .u32 0) 1 4:=nX.sn
theorem IB {w:World} {g:Nat} {x:Int} {T:TypeId}(b:Blk w g #[.int .u32 x] T):Rd w (fun k=>k=g) (some (Addr.mk g 0 none)) 1 1 [U32.mk x]:=
 ⟨rfl,Nat.le_refl _,fun k hk=>by rw [hk];exact b.lt,fun i z hz=>⟨_,rfl,rfl,fun j hj=>by
  have hj:j=0:=by have:Enc.size U32=1:=rfl;omega
  subst hj
  match i,hz with
  | 0,hz=>injection hz with hz;subst hz;exact b.at2 (i:=0) (j:=0) rfl
  | i+1,hz=>simp at hz⟩⟩
theorem IA {w:World} {g:Nat} {x y:Int} {T:TypeId}(b:Blk w g #[.int .u32 x,.int .u32 y] T):Rd w (fun k=>k=g) (some (Addr.mk g 0 none)) 2 2 [U32.mk x,U32.mk y]:=
 ⟨rfl,Nat.le_refl _,fun k hk=>by rw [hk];exact b.lt,fun i z hz=>⟨_,rfl,rfl,fun j hj=>by
  have hj:j=0:=by have:Enc.size U32=1:=rfl;omega
  subst hj
  match i,hz with
  | 0,hz=>injection hz with hz;subst hz;exact b.at2 (i:=0) (j:=0) rfl
  | 1,hz=>injection hz with hz;subst hz;exact b.at2 (i:=1) (j:=0) rfl
  | i+2,hz=>simp at hz⟩⟩
attribute [local irreducible] cw jd
theorem MI {g:Nat} {L:DgL} {D:Dg} {K:List Int} {w:World}(h:mA w g L D)(hk:kX w 0 K)(hl:D.waits.length<16)(last long:Int):
 Calls prog 138 #[.pointer (some (Addr.mk g 0 none)),.int .u32 last,.int .u64 long] w fun e w'=>∃v,e= .returned v∧v= .agg (s8C (D.fin K last (u32.wrap ((long:Int).fdiv (2 ^ 32))) (u32.wrap long)))∧Pu w w':=by
 obtain⟨⟨T,hb⟩,hr,Q3⟩:=h
 have hlen:=hr.len
 have Uk:=hr.cap
 refine BI _ _ _ ?_
 refine mkd fun gv w1 m1=>?_
 have NI:Pu w w1.drew:=m1.pu.trans (Pu.aU w1)
 have b1:=NI.blk hb
 refine⟨bXU [3,7,12] [] w1.drew (fun _=>False),ah _ rfl ⟨.inr ⟨rfl,bX.ld b1 (fun h=>h) 9⟩,_,_,_,b1.at rfl,ah _ rfl ⟨.inr ⟨rfl,bX.ld b1 (fun h=>h) 9⟩,_,_,_,b1.at rfl,ah _ rfl ⟨.inr ⟨rfl,bX.ld b1 (fun h=>h) 9⟩,_,_,_,b1.at rfl,⟨by omega,by omega⟩,⟨by omega,by omega⟩,?_⟩⟩⟩⟩
 rintro A1 hA1 N1 hN1 C1 hC1
 have hN1:N1=L.n:=by simpa using hN1
 have hC1:C1=L.n:=by simpa using hC1
 subst hN1
 subst hC1
 have r1:Rd w1.drew L.Y A1 L.n L.n D.waits:=by
  have:=(hr.pu NI).cut (lo:=0) (hi:=L.n) (m:=L.n) (A':=A1) (n':=L.n) (c':=L.n) (by rw [Int.toNat_natCast]at hA1;exact hA1) (by omega) (by omega) (by omega) (by omega) (by omega)
  rwa [List.drop_zero,Nat.sub_zero,List.take_of_length_le (by omega)]at this
 refine mkd fun g2 w2 m2=>bXU.eW m2.pu rfl ?_
 have NZ:Pu w w2:=NI.trans m2.pu
 refine Rd.M0 Ky (r1.pu m2.pu) (IB m2.blk) (by omega) (by omega) (by omega) fun A3 c3 w3 o3 p3=>bXU.eW p3 rfl ?_
 have hz:=Cs (D.waits++ [U32.mk last])
 rw [List.length_append,List.length_singleton]at hz
 refine⟨fun m A N C w'=>∃ll:List U32,Own w' (fun k=>w2.heap.size≤k) 29 A N C ll∧rA ll=rA (D.waits++ [U32.mk last])∧m=(30 - ll.length % 16) % 16∧Pu w2 w',⟨_,_,o3,rfl,rfl,p3⟩,?_⟩
 rintro m _ A4 N4 C4 w4 ⟨ll,o4,e4,rfl,p4⟩
 have s4:w2.heap.size≤w4.heap.size:=p4.size
 have hN4:=o4.len
 have hz4:=Cs ll
 rw [e4]at hz4
 have et:((N4:Nat):Int).tmod 16=((N4 % 16:Nat):Int):=by rw [Int.tmod_eq_emod_of_nonneg (by omega)];omega
 refine aN (fun NN=>?_) (fun heq=>?_)
 ·have NN:¬ll.length % 16=14:=by rw [et]at NN;omega
  refine mkd fun g5 w5 m5=>?_
  refine Own.app (x:=U32.mk 0) (o4.pu m5.pu) Ky m5.blk rfl (by omega) (by omega) (Nat.le_trans s4 m5.pu.size) fun A6 c6 w6 o6 q6=>?_
  exact⟨_,by rw [List.length_append,List.length_singleton];omega,ll++ [U32.mk 0],o6,(DF NN).trans e4,rfl,(p4.trans m5.pu).call q6 fun k hk=>.inr hk⟩
 ·have heq:ll.length % 16=14:=by rw [et]at heq;omega
  rw [DG heq]at e4
  refine mkd fun g5 w5 m5=>?_
  refine Own.apps (o4.pu m5.pu) Ky (IA m5.blk) (by omega) (by omega) (Nat.le_trans s4 m5.pu.size) (fun A6 c6 w6 o6 q6=>?_) (fun h=>absurd h (by omega))
  have Rg:Pu w2 w6:=(p4.trans m5.pu).call q6 fun k hk=>.inr hk
  have p6:Pu w w6:=NZ.trans Rg
  have b6:=p6.blk hb
  refine ah _ rfl ⟨_,_,_,_,_,_,_,_,⟨b6.at2 rfl,b6.at2 rfl,b6.at2 rfl,b6.at2 rfl,b6.at2 rfl,b6.at2 rfl,b6.at2 rfl,b6.at2 rfl⟩,mkd fun g7 w7 m7=>bP m7.blk (by simp) fun w8 s8=>?_⟩
  have p68:Pu w6 w8:=m7.pu.stored s8 (.inr (by rw [m7.num];exact Nat.le_refl _))
  have r8:Rd w8 (fun k=>w2.heap.size≤k∧k<w6.heap.size) A6 (N4+2) c6 (ll++ [U32.mk (u32.wrap ((long:Int).fdiv (2 ^ 32))),U32.mk (u32.wrap long)]):=o6.rd.pu p68
  have bgv:Blk w8 gv #[.int .u32 0,.int .u32 0,.int .u32 0,.int .u32 0,.int .u32 0,.int .u32 0,.int .u32 0,.int .u32 0] 66:=by
   have q:Pu w1 w2:=(Pu.aU w1).trans m2.pu
   exact Pu.blk ((q.trans Rg).trans p68) m1.blk
  have g7lt:w6.heap.size=g7:=m7.num.symm
  obtain⟨LL,hLL⟩:∃LL,LL=ll++ [U32.mk (u32.wrap ((long:Int).fdiv (2 ^ 32))),U32.mk (u32.wrap long)]:=⟨_,rfl⟩
  have acH:LL.length % 16=0:=by rw [hLL,List.length_append];simp;omega
  rw [← hLL]at r8
  have i8:Blk w8 g7 (s8C D.st) 66:=by have h9:=s8.blk;rw [CC]at h9;exact h9
  refine⟨fun m A N C w'=>∃(S:S8)(rr:List U32),Rd w' (fun k=>w2.heap.size≤k∧k<w6.heap.size) A N C rr∧cw K S rr=cw K D.st LL∧rr.length % 16=0∧m=rr.length∧Blk w' g7 (s8C S) 66∧Blk w' gv #[.int .u32 0,.int .u32 0,.int .u32 0,.int .u32 0,.int .u32 0,.int .u32 0,.int .u32 0,.int .u32 0] 66∧Pu w w',⟨LL.length,D.st,LL,r8,rfl,acH,rfl,i8,bgv,p6.trans p68⟩,?_⟩
  rintro m _ A9 N9 C9 w9 ⟨⟨sa,sb,sc,sd,se,sf,sg,sh⟩,rr,r9,e9,h16,rfl,b9,bv9,p9⟩
  have hN9:=r9.len
  have hC9:=r9.cap
  refine aq (fun VA=>?_) (fun h0=>?_)
  ·have hlr:16≤rr.length:=by omega
   have pd:=Pu.aU w9
   have QP:=pd.blk b9
   obtain⟨p,rfl,hp,hc⟩:=(r9.pu pd).u32 (by omega)
   refine⟨fun _ _=>True,trivial,_,_,_,_,_,_,_,_,⟨QP.at rfl,QP.at rfl,QP.at rfl,QP.at rfl,QP.at rfl,QP.at rfl,QP.at rfl,QP.at rfl⟩,by omega,ah _ rfl ⟨trivial,_,_,_,_,_,_,_,_,_,_,_,_,_,_,_,_,⟨hc 0 (by omega),hc 1 (by omega),hc 2 (by omega),hc 3 (by omega),hc 4 (by omega),hc 5 (by omega),hc 6 (by omega),hc 7 (by omega),hc 8 (by omega),hc 9 (by omega),hc 10 (by omega),hc 11 (by omega),hc 12 (by omega),hc 13 (by omega),hc 14 (by omega),hc 15 (by omega)⟩,?_⟩⟩
   refine(F1 (hk.pu (p9.trans pd)) _ _ _ _ _ _ _ _ _ _ _ _ _ _ _ _ _ _ _ _ _ _ _ _).mono ?_
   rintro e w11 ⟨_,rfl,rfl,p11⟩
   have pp:Pu w9 w11:=pd.trans p11
   refine⟨_,_,_,_,_,_,_,_,rfl,_,fun _ _ h=>h,bP (pp.blk b9) (by simp [s8C]) fun w12 Ua=>⟨_,fun _ _ h=>h,⟨by omega,by omega⟩,?_⟩⟩
   rintro A13 acN N13 acD C13 acL
   have r12:Rd w12 (fun k=>w2.heap.size≤k∧k<w6.heap.size) (some p) N9 C9 rr:=(r9.pu pp).ch Ua.ch fun k hk e=>by omega
   refine⟨rr.length - 16,by omega,jd K ⟨sa,sb,sc,sd,se,sf,sg,sh⟩ ((rr.take 16).map U32.v),rr.drop 16,r12.from_ (m:=C9) (lo:=16) acN acD acL (by omega) (by omega),by rw [← eO hlr];exact e9,by rw [List.length_drop];omega,by rw [List.length_drop],?_,Ua.old (pp.blk bv9) (fun e=>by have:=m1.blk.lt;have:=((Pu.aU w1).trans m2.pu).size;have:=p3.size;omega),p9.trans pp |>.stored Ua (.inr ?_)⟩
   ·have h9:=Ua.blk
    unfold s8C at h9 ⊢
    rw [CC]at h9
    rw [j9 hlr];exact h9
   ·rw [← g7lt];exact p6.size
  ·have VG:rr= []:=List.eq_nil_of_length_eq_zero (by omega)
   subst VG
   rw [dS (by simp)]at e9
   refine⟨_,_,_,_,_,_,_,_,⟨b9.at rfl,b9.at rfl,b9.at rfl,b9.at rfl,b9.at rfl,b9.at rfl,b9.at rfl,b9.at rfl⟩,bP bv9 (by simp) fun w10 ZI=>?_⟩
   have QP:=ZI.blk
   rw [CC]at QP
   refine⟨_,_,_,_,_,_,_,_,⟨QP.at rfl,QP.at rfl,QP.at rfl,QP.at rfl,QP.at rfl,QP.at rfl,QP.at rfl,QP.at rfl⟩,?_,p9.stored ZI (.inr (by rw [m1.num];exact Nat.le_refl _))⟩
   have e:D.fin K last (u32.wrap ((long:Int).fdiv (2 ^ 32))) (u32.wrap long)=⟨sa,sb,sc,sd,se,sf,sg,sh⟩:=by
    unfold Dg.fin
    rw [← e4,← hLL,← e9]
   rw [e];rfl
theorem MG {g:Nat} {L:DgL} {D:Dg} {K:List Int} {w:World}(h:mA w g L D)(hk:kX w 0 K)(hl:D.waits.length<16):
 Calls prog 71 #[.pointer (some (Addr.mk g 0 none))] w fun e w'=>∃v,e= .returned v∧v= .agg (s8C (D.sum K))∧Pu w w':=by
 refine qc _ ?_
 refine mkd fun gv w1 m1=>?_
 have h1:=h.pu m1.pu
 obtain⟨T,hb⟩:=h1.blk
 refine ah _ rfl ⟨_,hb.at rfl,(MI h1 (hk.pu m1.pu) hl _ _).mono ?_⟩
 rintro e w2 ⟨_,rfl,rfl,p2⟩
 have e:D.sum K=D.fin K 2147483648 (u32.wrap ((u64.wrap (32*(u64.wrap D.n)):Int).fdiv (2 ^ 32))) (u32.wrap (u64.wrap (32*(u64.wrap D.n)))):=rfl
 rw [e]
 generalize D.fin K 2147483648 _ _=S
 obtain⟨sa,sb,sc,sd,se,sf,sg,sh⟩:=S
 refine⟨_,_,_,_,_,_,_,_,rfl,bP (p2.blk m1.blk) (by simp) fun w3 s3=>?_⟩
 have b3:=s3.blk
 unfold s8C at *
 rw [CC]at b3
 exact⟨_,_,_,_,_,_,_,_,⟨b3.at rfl,b3.at rfl,b3.at rfl,b3.at rfl,b3.at rfl,b3.at rfl,b3.at rfl,b3.at rfl⟩,rfl,(m1.pu.trans p2).stored s3 (.inr (by rw [m1.num];exact Nat.le_refl _))⟩
end
end Go.Proofs.YtinhphjfnedhgaaGreatDoor
namespace Go.Proofs.YtinhphjfnedhgaaGreatDoor
open Go.Proofs.Tryz (prog)
open Go Go.RowKit V
open Go.IntKind (i64 u32 u64)
section
set_option maxRecDepth 100000
set_option maxHeartbeats 1000000
attribute [local irreducible] Vc2 VcD
def fQ:Ctr Un:=⟨[.one (.obj 0 0)],[(1,5)],[.ob 4 [],.ob 5 []],[],fun r d rk kk K=>d.Ok∧K ⟨(.agg #[(.int .u32 ((Dg.sum kk d).a)),(.int .u32 ((Dg.sum kk d).b)),(.int .u32 ((Dg.sum kk d).c)),(.int .u32 ((Dg.sum kk d).d)),(.int .u32 ((Dg.sum kk d).e)),(.int .u32 ((Dg.sum kk d).f)),(.int .u32 ((Dg.sum kk d).g)),(.int .u32 ((Dg.sum kk d).h))]),none,[],[],[]⟩⟩
theorem oN:LV Un prog 71 fQ:=by
 show ∀(r:Nat→Nat)(d:Dg)(rk:Nat→Nat)(kk:List Int),∀Q:Ou Un→Prop,(d.Ok∧Q ⟨(.agg #[(.int .u32 ((Dg.sum kk d).a)),(.int .u32 ((Dg.sum kk d).b)),(.int .u32 ((Dg.sum kk d).c)),(.int .u32 ((Dg.sum kk d).d)),(.int .u32 ((Dg.sum kk d).e)),(.int .u32 ((Dg.sum kk d).f)),(.int .u32 ((Dg.sum kk d).g)),(.int .u32 ((Dg.sum kk d).h))]),none,[],[],[]⟩)→∀(X:Nat→Nat→Prop)(w:World),Sat (U:=Un) [(.ob 4 r d),(.ob 5 rk kk)] X w→av (U:=Un) [(.ob 4 r d),(.ob 5 rk kk)] fr0 []→Calls prog 71 #[(.pointer (some (Addr.mk (r 0) 0 none)))] w (aS (U:=Un) [(.ob 4 r d),(.ob 5 rk kk)] [] X w Q)
 intro r d rk kk Q hQ X w hs hl
 obtain⟨Oz,hQ⟩:=hQ
 obtain⟨L,hX,hD⟩:=(hs.res 0 _ rfl:cq 4 r d (X 0) w)
 obtain⟨hX2,hR⟩:=(hs.res 1 _ rfl:cq 5 rk kk (X 1) w)
 refine(MG hD hR (by have:=Oz.len;omega)).mono ?_
 rintro e w' ⟨u,rfl,rfl,q⟩
 exact aS.pu hs q hQ trivial
def ry:Ctr Un:=⟨[.one (.sl 0)],[(1,5)],[.lst 1 false 29,.ob 5 []],[],fun A c l rk kk K=>dP l∧l.length≤262144∧K ⟨(.agg #[(.int .u32 ((Dg.sum kk (Dg.new.add kk l)).a)),(.int .u32 ((Dg.sum kk (Dg.new.add kk l)).b)),(.int .u32 ((Dg.sum kk (Dg.new.add kk l)).c)),(.int .u32 ((Dg.sum kk (Dg.new.add kk l)).d)),(.int .u32 ((Dg.sum kk (Dg.new.add kk l)).e)),(.int .u32 ((Dg.sum kk (Dg.new.add kk l)).f)),(.int .u32 ((Dg.sum kk (Dg.new.add kk l)).g)),(.int .u32 ((Dg.sum kk (Dg.new.add kk l)).h))]),none,[],[],[]⟩⟩
def Jq(A:Option Addr)(c:Nat)(l:List U32)(rk:Nat→Nat)(kk:List Int)(Q:Ou Un→Prop):Prop:=
 ∀(gv:Nat),
 ∀(rN:Nat→Nat),
 ∀(s:Dg),s=Dg.new→
 s.Ok∧
 l.length≤1099511627776∧
 ∀(s1:Dg),s1=(s.add kk l)→
 s1.Ok∧
 Q ⟨(.agg #[(.int .u32 ((Dg.sum kk s1).a)),(.int .u32 ((Dg.sum kk s1).b)),(.int .u32 ((Dg.sum kk s1).c)),(.int .u32 ((Dg.sum kk s1).d)),(.int .u32 ((Dg.sum kk s1).e)),(.int .u32 ((Dg.sum kk s1).f)),(.int .u32 ((Dg.sum kk s1).g)),(.int .u32 ((Dg.sum kk s1).h))]),none,[],[],[]⟩
theorem Js:Vc2 Un prog (bw [(125,tA),(135,ng),(71,fQ)]) [] Tryz.f73 .leaf [] ry=(∀A c (l:List U32) rk (kk:List Int),∀Q,(dP l∧l.length≤262144∧Q ⟨(.agg #[(.int .u32 ((Dg.sum kk (Dg.new.add kk l)).a)),(.int .u32 ((Dg.sum kk (Dg.new.add kk l)).b)),(.int .u32 ((Dg.sum kk (Dg.new.add kk l)).c)),(.int .u32 ((Dg.sum kk (Dg.new.add kk l)).d)),(.int .u32 ((Dg.sum kk (Dg.new.add kk l)).e)),(.int .u32 ((Dg.sum kk (Dg.new.add kk l)).f)),(.int .u32 ((Dg.sum kk (Dg.new.add kk l)).g)),(.int .u32 ((Dg.sum kk (Dg.new.add kk l)).h))]),none,[],[],[]⟩)→Jq A c l rk kk Q):=by kernel_rfl
theorem Jp:LV Un prog 73 ry:=verify Tryz.func73 aa (tb:= [(125,tA),(135,ng),(71,fQ)]) ⟨HE,BJ,oN,trivial⟩ (by kernel_rfl) (Js.mpr fun A c l rk kk Q h=>by
 obtain⟨Ni,NI,h⟩:=h
 exact fun gv rN s Wz=>ao (by subst_vars;exact Dg.ju) fun s1=>ao (by omega) fun s2 s1 Qf=>ao (by subst_vars;exact Dg.pZ Dg.ju Ni) fun s3=>aB h (congrArg (fun l=>Value.agg (List.toArray l)) (ab (bt (by subst_vars;rfl)) (ab (bt (by subst_vars;rfl)) (ab (bt (by subst_vars;rfl)) (ab (bt (by subst_vars;rfl)) (ab (bt (by subst_vars;rfl)) (ab (bt (by subst_vars;rfl)) (ab (bt (by subst_vars;rfl)) (ab (bt (by subst_vars;rfl)) rfl))))))))) rfl rfl)
def jW:Ctr Un:=⟨[.enc 8],[(0,5)],[.ob 5 []],[],fun f rk kk K=>W26.Ok f∧split (decide ((Dg.aw (W26.n f))=0)) (K ⟨(.tuple #[(.agg #[(.int .u32 ((Dg.sum kk (Dg.load (W26.n f))).a)),(.int .u32 ((Dg.sum kk (Dg.load (W26.n f))).b)),(.int .u32 ((Dg.sum kk (Dg.load (W26.n f))).c)),(.int .u32 ((Dg.sum kk (Dg.load (W26.n f))).d)),(.int .u32 ((Dg.sum kk (Dg.load (W26.n f))).e)),(.int .u32 ((Dg.sum kk (Dg.load (W26.n f))).f)),(.int .u32 ((Dg.sum kk (Dg.load (W26.n f))).g)),(.int .u32 ((Dg.sum kk (Dg.load (W26.n f))).h))]),(.int .i64 0)]),(some (.t [none,none])),[],[],[]⟩) (K ⟨(.tuple #[(.agg #[(.int .u32 0),(.int .u32 0),(.int .u32 0),(.int .u32 0),(.int .u32 0),(.int .u32 0),(.int .u32 0),(.int .u32 0)]),(.int .i64 (Dg.aw (W26.n f)))]),(some (.t [none,none])),[],[],[]⟩)⟩
def EO(f:W26)(rk:Nat→Nat)(kk:List Int)(Q:Ou Un→Prop):Prop:=
 ∀(gv:Nat),
 ∀(s:List U32),s=(W26.n f)→
 ∀(Nc:Nat),
 ((s.length=26∧s.length=26)∧0<26)∧
 dP s∧
 split (decide (Dg.aw s=0)) (
  ∀(rN:Nat→Nat),
  ∀(s1:Dg),s1=(Dg.load s)→
  s1.Ok∧
  Q ⟨(.tuple #[(.agg #[(.int .u32 ((Dg.sum kk s1).a)),(.int .u32 ((Dg.sum kk s1).b)),(.int .u32 ((Dg.sum kk s1).c)),(.int .u32 ((Dg.sum kk s1).d)),(.int .u32 ((Dg.sum kk s1).e)),(.int .u32 ((Dg.sum kk s1).f)),(.int .u32 ((Dg.sum kk s1).g)),(.int .u32 ((Dg.sum kk s1).h))]),(.int .i64 0)]),(some (.t [none,none])),[],[],[]⟩) (
  ∀(dp:Value),
  split ((Dg.aw s) !=0) (
   Q ⟨(.tuple #[(.agg #[(.int .u32 0),(.int .u32 0),(.int .u32 0),(.int .u32 0),(.int .u32 0),(.int .u32 0),(.int .u32 0),(.int .u32 0)]),(.int .i64 (Dg.aw s))]),(some (.t [none,none])),[],[],[]⟩) (
   False))
theorem EP:Vc2 Un prog (bw [(70,iQ),(71,fQ)]) [] Tryz.f23 .leaf [] jW=(∀(f:W26) rk (kk:List Int),∀Q,(jW.body f rk kk Q)→EO f rk kk Q):=by kernel_rfl
theorem EN:LV Un prog 23 jW:=verify Tryz.func23 aa (tb:= [(70,iQ),(71,fQ)]) ⟨tB,oN,trivial⟩ (by kernel_rfl) (EP.mpr fun f rk kk Q h=>by
 obtain⟨Ni,h⟩:=h
 exact fun gv s Wz Nc=>ao (by subst_vars;exact⟨⟨rfl,rfl⟩,by omega⟩) fun s1=>ao (by subst_vars;exact Ni) fun s2=>aq (fun c1 rN s1 Qf=>ao (by subst_vars;exact(Dg.eo Ni (by simpa using c1)).1) fun s3=>aB (bU h (by grind)) (by subst_vars;rfl) rfl rfl) fun c1 dp=>aN (fun c2=>aB (bV h (by grind)) (by subst_vars;rfl) rfl rfl) fun c2=>(by exfalso;omega))
def qd:Ctr Un:=⟨[.one (.hdr)],[(0,11)],[.ob 11 []],[],fun A n c r t K=>((∃es,BEn t A n c es))∧∀(es:List MOW)(A1:Option Addr)(c1:Nat),BEn t A n c es→K ⟨(.tuple #[(.slice A1 ((cm es).length) c1),(.int .i64 0)]),(some (.t [(some (.sl 1 0)),none])),[],[(.lst 1 true 29 A1 c1 (cm es))],[]⟩⟩
theorem ER:LV Un prog 72 qd:=by
 show ∀(A:Option Addr)(n:Nat)(c:Nat)(r:Nat→Nat)(t:BSt),∀Q:Ou Un→Prop,(((∃es,BEn t A n c es))∧∀(es:List MOW)(A1:Option Addr)(c1:Nat),BEn t A n c es→Q ⟨(.tuple #[(.slice A1 ((cm es).length) c1),(.int .i64 0)]),(some (.t [(some (.sl 1 0)),none])),[],[(.lst 1 true 29 A1 c1 (cm es))],[]⟩)→∀(X:Nat→Nat→Prop)(w:World),Sat (U:=Un) [(.ob 11 r t)] X w→av (U:=Un) [(.ob 11 r t)] fr0 []→Calls prog 72 #[(.slice A n c)] w (aS (U:=Un) [(.ob 11 r t)] [] X w Q)
 intro A n c r t Q hQ X w hs hl
 obtain⟨⟨es,hb⟩,hQ⟩:=hQ
 obtain⟨W,hX,hB⟩:=(hs.res 0 _ rfl:cq 11 r t (X 0) w)
 obtain⟨Ww,Oz,hle⟩:=hb
 obtain⟨Z,ho,hz⟩:=hB.has Ww
 refine(ID ho.rd Oz (hB.words Ww) hle).mono ?_
 rintro e w' ⟨u,rfl,A1,c1,rfl,o1,q⟩
 exact aS.sD (Z:=fun k=>w.heap.size≤k∧k<w'.heap.size) hs q (show RS (U:=Un) (fun k=>w.heap.size≤k∧k<w'.heap.size) w' (.lst 1 true 29 A1 c1 (cm es))from⟨o1,fun k hk=>hk.2⟩) (fun k hk=>hk.1) (hQ es A1 c1 ⟨Ww,Oz,hle⟩) (KnO.pair rfl) (fun _ _ h=>by cases h)
def iR:Ctr Un:=⟨[.one (.hdr)],[(0,11),(1,5)],[.ob 11 [],.ob 5 []],[],fun A n c r t rk kk K=>((∃es,BEn t A n c es))∧∀(es:List MOW),BEn t A n c es→K ⟨(.tuple #[(.agg #[(.int .u32 ((Dg.sum kk (Dg.new.add kk (cm es))).a)),(.int .u32 ((Dg.sum kk (Dg.new.add kk (cm es))).b)),(.int .u32 ((Dg.sum kk (Dg.new.add kk (cm es))).c)),(.int .u32 ((Dg.sum kk (Dg.new.add kk (cm es))).d)),(.int .u32 ((Dg.sum kk (Dg.new.add kk (cm es))).e)),(.int .u32 ((Dg.sum kk (Dg.new.add kk (cm es))).f)),(.int .u32 ((Dg.sum kk (Dg.new.add kk (cm es))).g)),(.int .u32 ((Dg.sum kk (Dg.new.add kk (cm es))).h))]),(.int .i64 0)]),(some (.t [none,none])),[],[],[]⟩⟩
def BM(A:Option Addr)(n:Nat)(c:Nat)(r:Nat→Nat)(t:BSt)(rk:Nat→Nat)(kk:List Int)(Q:Ou Un→Prop):Prop:=
 ∀(gv:Nat),
 ((∃es,BEn t A n c es))∧
 ∀(es:List MOW)(A1:Option Addr)(c1:Nat),
 BEn t A n c es→
 ∀(l:List U32),l=(cm es)→
 dP l∧
 l.length≤262144∧
 Q ⟨(.tuple #[(.agg #[(.int .u32 ((Dg.sum kk (Dg.new.add kk l)).a)),(.int .u32 ((Dg.sum kk (Dg.new.add kk l)).b)),(.int .u32 ((Dg.sum kk (Dg.new.add kk l)).c)),(.int .u32 ((Dg.sum kk (Dg.new.add kk l)).d)),(.int .u32 ((Dg.sum kk (Dg.new.add kk l)).e)),(.int .u32 ((Dg.sum kk (Dg.new.add kk l)).f)),(.int .u32 ((Dg.sum kk (Dg.new.add kk l)).g)),(.int .u32 ((Dg.sum kk (Dg.new.add kk l)).h))]),(.int .i64 0)]),(some (.t [none,none])),[],[],[]⟩
theorem BN:Vc2 Un prog (bw [(72,qd),(73,ry)]) [] Tryz.f25 .leaf [] iR=(∀A n c r (t:BSt) rk (kk:List Int),∀Q,(iR.body A n c r t rk kk Q)→BM A n c r t rk kk Q):=by kernel_rfl
theorem BL:LV Un prog 25 iR:=verify Tryz.func25 aa (tb:= [(72,qd),(73,ry)]) ⟨ER,Jp,trivial⟩ (by kernel_rfl) (BN.mpr fun A n c r t rk kk Q h=>by
 obtain⟨Ni,h⟩:=h
 exact fun gv=>ao ‹_› fun s1 es A1 c1 f2 l Vb=>ao (by subst_vars;exact I5 (‹BEn t A n c es›).2.1) fun s3=>ao (by subst_vars;exact(‹BEn t A n c es›).2.2) fun s4=>aB (h es ‹_›) (congrArg (fun l=>Value.tuple (List.toArray l)) (ab (congrArg (fun l=>Value.agg (List.toArray l)) (ab (bt (by grind)) (ab (bt (by grind)) (ab (bt (by grind)) (ab (bt (by grind)) (ab (bt (by grind)) (ab (bt (by grind)) (ab (bt (by grind)) (ab (bt (by grind)) rfl))))))))) (ab rfl rfl))) rfl rfl)
def nA:Ctr Un:=⟨[.one (.sl 0),.one (.int .i64),.agg [.int .i64,.int .u32,.hdr]],[(1,11)],[.lst 7 true 59,.ob 11 []],[0,1],fun p k a A0 n0 c0 A c l r t K=>FC l t p∧(A0=t.last.A∧n0=t.last.l.length∧c0=t.last.c)∧∀(l1:List BkE)(t1:BSt),((qh l t p ⟨k,a,A0,n0,c0,t.last.l⟩ l1 t1∧l1.length=l.length))→K ⟨(.tuple #[]),(some (.t [])),[.lst 7 A c l1,.ob 11 t1],[],[]⟩⟩
theorem B8:LV Un prog 21 nA:=by
 show ∀(p:Int)(k:Int)(a:Int)(A0:Option Addr)(n0:Nat)(c0:Nat)(A:Option Addr)(c:Nat)(l:List BkE)(r:Nat→Nat)(t:BSt),∀Q:Ou Un→Prop,(FC l t p∧(A0=t.last.A∧n0=t.last.l.length∧c0=t.last.c)∧∀(l1:List BkE)(t1:BSt),((qh l t p ⟨k,a,A0,n0,c0,t.last.l⟩ l1 t1∧l1.length=l.length))→Q ⟨(.tuple #[]),(some (.t [])),[.lst 7 A c l1,.ob 11 t1],[],[]⟩)→∀(X:Nat→Nat→Prop)(w:World),Sat (U:=Un) [(.lst 7 true 59 A c l),(.ob 11 r t)] X w→av (U:=Un) [(.lst 7 true 59 A c l),(.ob 11 r t)] fr0 []→Calls prog 21 #[(.slice A l.length c),(.int .i64 p),(.agg #[(.int .i64 k),(.int .u32 a),(.slice A0 n0 c0)])] w (aS (U:=Un) [(.lst 7 true 59 A c l),(.ob 11 r t)] [0,1] X w Q)
 intro p k a A0 n0 c0 A c l r t Q hQ X w hs hl
 obtain⟨ab4,⟨rfl,rfl,rfl⟩,hQ⟩:=hQ
 obtain⟨hO,hOl⟩:Own w (X 0) 59 A l.length c l∧∀k,X 0 k→k<w.heap.size:=hs.res 0 _ rfl
 obtain⟨W,hX,hB⟩:=(hs.res 1 _ rfl:cq 11 r t (X 1) w)
 have hd:∀x,X 0 x→¬X 1 x:=hs.dis 0 1 (by simp) (by simp) (by omega)
 refine(GC (p:=p) (k:=k) (a:=a) hO hOl hB (fun x hx hy=>hd x hx ((hX x).1 hy)) ab4).mono ?_
 rintro e w' ⟨u,rfl,rfl,l1,t1,hN,hO1,hB1,hg,q⟩
 have OI:=hO1.len
 have hO2:Own w' (X 0) 59 A l1.length c l1:=by rw [OI];exact hO1
 exact aS.both (a':=(.lst 7 true 59 A c l1:Res Un)) (b':=(.ob 11 r t1:Res Un)) (Y:=X 0) (Z:=ij W t1) (k:=some (.t [])) hs (q.mono fun x hx=>hx.imp id fun h=>(hX x).1 h) rfl rfl ⟨hO2,fun k hk=>Nat.lt_of_lt_of_le (hOl k hk) q.size⟩ (show RS (U:=Un) (ij W t1) w' (.ob 11 r t1)from(⟨W,fun _=>Iff.rfl,hB1⟩:cq 11 r t1 (ij W t1) w')) (fun k hk=>.inl hk) (fun k hk=>(hg k hk).imp (fun h=>(hX k).1 h) id) (fun k hk NT=>(hg k NT).elim (fun h=>hd k hk ((hX k).1 h)) (fun h=>by have:=hOl k hk;omega)) (hQ l1 t1 ⟨hN,OI⟩) (KnO.tup _ (by simp))
def qg:Ctr Un:=⟨[.one (.any),.one (.int .i64)],[(0,9)],[.ob 9 []],[],fun pv p r s K=>Value.pointer (some (Addr.mk (Sv.pD s) 0 none))=pv∧K ⟨(.tuple #[(.agg #[(.int .i64 ((s.D.entry p).typ)),(.int .i64 ((s.D.entry p).owner)),(.int .i64 ((s.D.entry p).refs)),(.int .i64 ((s.D.entry p).state)),(.bool ((s.D.entry p).bB))]),(.int .i64 (s.D.aR p))]),(some (.t [none,none])),[],[],[]⟩⟩
theorem Fm:LV Un prog 18 qg:=by
 show ∀(pv:Value)(p:Int)(r:Nat→Nat)(s:Sv),∀Q:Ou Un→Prop,(Value.pointer (some (Addr.mk (Sv.pD s) 0 none))=pv∧Q ⟨(.tuple #[(.agg #[(.int .i64 ((s.D.entry p).typ)),(.int .i64 ((s.D.entry p).owner)),(.int .i64 ((s.D.entry p).refs)),(.int .i64 ((s.D.entry p).state)),(.bool ((s.D.entry p).bB))]),(.int .i64 (s.D.aR p))]),(some (.t [none,none])),[],[],[]⟩)→∀(X:Nat→Nat→Prop)(w:World),Sat (U:=Un) [(.ob 9 r s)] X w→av (U:=Un) [(.ob 9 r s)] fr0 []→Calls prog 18 #[pv,(.int .i64 p)] w (aS (U:=Un) [(.ob 9 r s)] [] X w Q)
 intro pv p r s Q hQ X w hs hl
 obtain⟨To,hQ⟩:=hQ
 subst To
 refine svP (rest:= []) (k1:=some (.t [none,none])) rfl hs (fun r1 rm X1 Oi OI e=>?_) hQ (KnO.tup _ (by simp))
 rw [e.1];exact gI p r1 s.D.pd rm s.D.mem (fun o=>o=_) ⟨rfl,rfl⟩ X1 w Oi OI
def kI:Ctr Un:=⟨[.one (.any),.one (.int .i64)],[(0,9)],[.ob 9 []],[],fun pv p r s K=>Value.pointer (some (Addr.mk (Sv.pD s) 0 none))=pv∧∀(x:W26),x=W26.mk (s.D.mem.dgW p)→K ⟨(.agg ⟨W26.c x⟩),none,[],[],[]⟩⟩
theorem xd:LV Un prog 24 kI:=by
 show ∀(pv:Value)(p:Int)(r:Nat→Nat)(s:Sv),∀Q:Ou Un→Prop,(Value.pointer (some (Addr.mk (Sv.pD s) 0 none))=pv∧∀(x:W26),x=W26.mk (s.D.mem.dgW p)→Q ⟨(.agg ⟨W26.c x⟩),none,[],[],[]⟩)→∀(X:Nat→Nat→Prop)(w:World),Sat (U:=Un) [(.ob 9 r s)] X w→av (U:=Un) [(.ob 9 r s)] fr0 []→Calls prog 24 #[pv,(.int .i64 p)] w (aS (U:=Un) [(.ob 9 r s)] [] X w Q)
 intro pv p r s Q hQ X w hs hl
 obtain⟨To,hQ⟩:=hQ
 subst To
 refine svP (rest:= []) (k1:=none) rfl hs (fun r1 rm X1 Oi OI e=>?_) (hQ _ rfl) trivial
 rw [e.1];exact z6 p r1 s.D.pd rm s.D.mem (fun o=>o=_) ⟨rfl,fun x hx=>by rw [hx]⟩ X1 w Oi OI
def ny:Ctr Un:=⟨[.one (.any),.enc 5],[(0,9),(1,11)],[.ob 9 [],.ob 11 []],[0,1],fun pv o r s r2 t K=>Value.pointer (some (Addr.mk (Sv.pD s) 0 none))=pv∧LOp.Ok o∧((o.k=4→s.D.mem.has false o.d=true))∧∀(xo:MOW),((MOW.Ok xo∧opW xo.k xo.a xo.l=DB.ki s.D o))→K ⟨(.agg #[(.int .i64 xo.k),(.int .u32 xo.a),(.slice xo.A xo.n xo.c)]),none,[.ob 9 s,.ob 11 (BSt.mk t.rows (Wt.mk xo.A xo.c xo.l))],[],[]⟩⟩
theorem B7:LV Un prog 22 ny:=by
 show ∀(pv:Value)(o:LOp)(r:Nat→Nat)(s:Sv)(r2:Nat→Nat)(t:BSt),∀Q:Ou Un→Prop,(Value.pointer (some (Addr.mk (Sv.pD s) 0 none))=pv∧LOp.Ok o∧((o.k=4→s.D.mem.has false o.d=true))∧∀(xo:MOW),((MOW.Ok xo∧opW xo.k xo.a xo.l=DB.ki s.D o))→Q ⟨(.agg #[(.int .i64 xo.k),(.int .u32 xo.a),(.slice xo.A xo.n xo.c)]),none,[.ob 9 s,.ob 11 (BSt.mk t.rows (Wt.mk xo.A xo.c xo.l))],[],[]⟩)→∀(X:Nat→Nat→Prop)(w:World),Sat (U:=Un) [(.ob 9 r s),(.ob 11 r2 t)] X w→av (U:=Un) [(.ob 9 r s),(.ob 11 r2 t)] fr0 []→Calls prog 22 #[pv,(.agg #[(.int .i64 o.k),(.int .u32 o.a),(.int .u32 o.b),(.int .u32 o.c),(.int .u32 o.d)])] w (aS (U:=Un) [(.ob 9 r s),(.ob 11 r2 t)] [0,1] X w Q)
 intro pv o r s r2 t Q hQ X w hs hl
 obtain⟨To,ho,hh,hQ⟩:=hQ
 subst To
 have Z4:Sat (U:=Un) [.ob 9 r s] X w:=⟨fun i a ha=>(by
  match i,ha with
  | 0,ha=>exact hs.res 0 a ha
  | i+1,ha=>simp [nth]at ha),fun i j hi hj NJ=>by simp at hi hj;omega⟩
 obtain⟨r1,rm,X1,Oi,OI,⟨e1,e2,e3⟩,Py,_⟩:=mh Z4
 rw [e1]
 obtain⟨W,hWX,hB⟩:=(hs.res 1 _ rfl:cq 11 r2 t (X 1) w)
 have aaz:∀x,X 0 x→¬X 1 x:=hs.dis 0 1 (by simp) (by simp) (by omega)
 have fin:∀(w':World)(X':Nat→Nat→Prop)(out:Ou Un),out.upd= [.ob 0 s.D.mem]→vx (svO r1 rm s.D.pd s.D.mem []) [1] X1 w out w' (svO r1 rm s.D.pd s.D.mem []) X'→∀(V:Nat→Prop)(x:MOW),x.n=x.l.length→Rd w' V x.A x.l.length x.c x.l→(∀k,V k→w.heap.size≤k∧¬X' 0 k∧¬X' 1 k)→(MOW.Ok x∧opW x.k x.a x.l=DB.ki s.D o)→aS (U:=Un) [.ob 9 r s,.ob 11 r2 t] [0,1] X w Q (.returned (.agg #[.int .i64 x.k,.int .u32 x.a,.slice x.A x.n x.c])) w':=by
  intro w' X' out _ hp V x hxn hr hV hx
  have hg:∀i,i<2→∀k,X' i k→X 0 k∨w.heap.size≤k:=fun i hi k hk=>by
   by_cases hm:i∈ [1]
   ·exact(hp.grow i hm k hk).imp (Py i hi k) id
   ·have:=hp.same i (show i<2 by omega) hm
    exact .inl (Py i hi k (this▸hk))
  have q:Ch (X 0) w w':=hp.ch.mono fun k ⟨j,hj,h⟩=>Py j (by have:=List.mem_singleton.1 hj;omega) k h
  have dis:∀k,X' 0 k→¬X' 1 k:=hp.sat.dis 0 1 (by simp) (by simp) (by omega)
  have hu:=Cy (r:=r) (hp.sat.res 0 _ rfl) (hp.sat.res 1 _ rfl) dis e3 rfl
  rw [← e1,← e2,DB.xZ]at hu
  have hB2:ja w' (fun k=>W k∨V k) ⟨t.rows,⟨x.A,x.c,x.l⟩⟩:=(hB.ch q fun k hk h=>aaz k h ((hWX k).1 hk)).next hr fun g q hg h=>by have:=(hB.off g q hg).1;have:=(hV g h).1;omega
  refine aS.both (a':=(.ob 9 r s:Res Un)) (b':=(.ob 11 r2 (⟨t.rows,⟨x.A,x.c,x.l⟩⟩:BSt):Res Un)) (Y:=fun k=>X' 0 k∨X' 1 k) (Z:=ij (fun k=>W k∨V k) ⟨t.rows,⟨x.A,x.c,x.l⟩⟩) (k:=none) hs (q.mono fun k hk=>.inl hk) rfl rfl hu (show RS (U:=Un) (ij (fun k=>W k∨V k) ⟨t.rows,⟨x.A,x.c,x.l⟩⟩) w' (.ob 11 r2 (⟨t.rows,⟨x.A,x.c,x.l⟩⟩:BSt))from(⟨_,fun _=>Iff.rfl,hB2⟩:cq 11 r2 (⟨t.rows,⟨x.A,x.c,x.l⟩⟩:BSt) (ij (fun k=>W k∨V k) ⟨t.rows,⟨x.A,x.c,x.l⟩⟩) w')) (fun k hk=>hk.elim (hg 0 (by omega) k) (hg 1 (by omega) k)) (fun k hk=>?_) (fun k hk NT=>?_) (hQ x hx) trivial
  ·rcases hk with(hk | hk) | hk
   ·exact .inl ((hWX k).1 (.inl hk))
   ·exact .inr (hV k hk).1
   ·exact .inl ((hWX k).1 (.inr hk))
  ·have old:X 1 k→False:=fun h=>by
    have Nu:=hs.lt (i:=1) (by simp) k h
    rcases hk.elim (hg 0 (by omega) k) (hg 1 (by omega) k)with h2 | h2
    ·exact aaz k h2 h
    ·omega
   rcases NT with(h | h) | h
   ·exact old ((hWX k).1 (.inl h))
   ·exact hk.elim (hV k h).2.1 (hV k h).2.2
   ·exact old ((hWX k).1 (.inr h))
 by_cases h4:o.k=4
 ·refine(B4 o r1 s.D.pd rm s.D.mem (fun out=>∃A,out=⟨(.agg #[(.int .i64 3),(.int .u32 o.c),(.slice A (s.D.mem.words false o.d.toNat).length 1024)]),(some (.ag [none,none,(some (.sl 2 0))])),[.ob 0 s.D.mem],[.lst 1 true 29 A 1024 (s.D.mem.words false o.d.toNat)],[]⟩) ⟨rfl,h4,ho,hh h4,fun A=>⟨A,rfl⟩⟩ X1 w Oi OI).mono ?_
  rintro e w' ⟨out,rs',X',rfl,⟨A,rfl⟩,NF,hp⟩
  obtain rfl:svO r1 rm s.D.pd s.D.mem []=rs':=Option.some.inj NF
  obtain⟨hO,hOl⟩:Own w' (X' 2) 29 A (s.D.mem.words false o.d.toNat).length 1024 (s.D.mem.words false o.d.toNat)∧∀k,X' 2 k→k<w'.heap.size:=hp.sat.res 2 _ rfl
  have d:∀i j,i<3→j<3→i≠j→∀k,X' i k→¬X' j k:=hp.sat.dis
  have hlen:(s.D.mem.words false o.d.toNat).length=1024:=Mem.ei _ _ _
  refine fin w' X' _ rfl hp (X' 2) ⟨3,o.c,A,(s.D.mem.words false o.d.toNat).length,1024,(s.D.mem.words false o.d.toNat)⟩ rfl (hO.rd.mono (fun k hk=>hk.1) hOl) (fun k hk=>⟨hp.new 2 (by simp) (by simp) k hk,d 2 0 (by omega) (by omega) (by omega) k hk,d 2 1 (by omega) (by omega) (by omega) k hk⟩) ⟨⟨ho.2.2.1,Mem.iu (Hy (t:=9) (r:=r) (s:=s) (hs.res 0 _ rfl):Sv.Ok s).wf _ _,.inl ⟨rfl,rfl,hlen⟩⟩,by unfold DB.ki;rw [if_pos h4]⟩
 ·refine(BZ o r1 s.D.pd rm s.D.mem (fun out=>out=⟨(.agg #[(.int .i64 (opK o)),(.int .u32 (opA o)),(.slice none 0 0)]),none,[.ob 0 s.D.mem],[],[]⟩) ⟨rfl,h4,rfl⟩ X1 w Oi OI).mono ?_
  rintro e w' ⟨out,rs',X',rfl,rfl,NF,hp⟩
  obtain rfl:svO r1 rm s.D.pd s.D.mem []=rs':=Option.some.inj NF
  refine fin w' X' _ rfl hp (fun _=>False) ⟨opK o,opA o,none,0,0,[]⟩ rfl Rd.nil (fun k hk=>hk.elim) ⟨⟨?_,DB.eB,.inr ⟨?_,rfl,rfl,rfl,rfl⟩⟩,by unfold DB.ki;rw [if_neg h4]⟩
  ·show 0≤opA o∧opA o<4294967296
   unfold opA;have:=ho;unfold LOp.Ok at this;split;omega;split<;>omega
  ·show opK o=1∨opK o=2∨opK o=4
   unfold opK;split;omega;split<;>omega
def iV:Ctr Un:=⟨[.agg [.int .i64,.int .i64],.one (.sl 0)],[(1,5),(2,11)],[.lst 5 false 31,.ob 5 [],.ob 11 []],[2],fun s i A c l rk kk r2 t K=>((∀o∈l,LOp.Ok o))∧l.length≤140737488355328∧∀(t1:BSt),K ⟨(.bool true),none,[.ob 11 t1],[],[]⟩⟩
def nD(s:Int)(i:Int)(A:Option Addr)(c:Nat)(l:List LOp)(rk:Nat→Nat)(kk:List Int)(r2:Nat→Nat)(t:BSt)(Q:Ou Un→Prop):Prop:=
 ∀(gv:Nat),
 split (okM s i) (
  ∀(r:Nat→Nat)(s1:Sv),
  s1.D=DB.new (Mem.fresh s.toNat i.toNat)→
  ∀(s2:Sv),s2=s1→
  Sv.Ok s2→
  ∃J:Bool→Prop,(
   J false)∧∀(NR:Nat→Value)(OR:Bool),J OR→
  split OR (
   Q ⟨(.bool false),none,[.ob 11 t],[],[]⟩) (
   ∀i1:Int,i1=0→
   ∃I:Nat→Option Addr→Int→BSt→Sv→Option Addr→Nat→List BkE→Prop,(∃m,I m (some (Addr.mk (Sv.pD s1) 0 none)) i1 t s2 none 0 ([]:List BkE))∧∀(m:Nat)(Oq:Nat→Value)(d:Option Addr)(i2:Int)(QZ:BSt)(s4:Sv)(A5:Option Addr)(c5:Nat)(l5:List BkE),I m d i2 QZ s4 A5 c5 l5→
   Sv.Ok s4→
   split (decide (i2<(l.length:Int))) (
    (0≤i2∧i2<(l.length:Int))∧
    ∀(No:Nat),
    ∃J1:Bool→Prop,(
     split (decide ((l.getD i2.toNat (LOp.mk 0 0 0 0 0)).k<1)) (
      ∀SB:Bool,SB=true→
      J1 SB) (
      ∀SB:Bool,SB=(decide (((l.getD i2.toNat (LOp.mk 0 0 0 0 0)).k:Int)>5))→
      J1 SB))∧∀(RF:Nat→Value)(SB:Bool),J1 SB→
    split SB (
     Value.pointer (some (Addr.mk (Sv.pD s4) 0 none))=(.pointer d)∧
     LOp.Ok (l.getD i2.toNat (LOp.mk 0 0 0 0 0))∧
     ∀(s3:Sv),s3= {s4 with D:=s4.D.beside (l.getD i2.toNat (LOp.mk 0 0 0 0 0))}→
     Sv.Ok s3→
     Value.pointer (some (Addr.mk (Sv.pD s3) 0 none))=(.pointer d)∧
     ∀(N6:Sv),
     N6.D=s3.D→
     ∀(s5:Sv),s5=N6→
     Sv.Ok s5→
     ∀i3:Int,i3=(i64.wrap (i2+1))→
     ∃m1,m1<m∧I m1 (some (Addr.mk (Sv.pD N6) 0 none)) i3 QZ s5 A5 c5 l5) (
     Value.pointer (some (Addr.mk (Sv.pD s4) 0 none))=(.pointer d)∧
     LOp.Ok (l.getD i2.toNat (LOp.mk 0 0 0 0 0))∧
     ∀(s3:Sv),s3= {s4 with D:=DB.call kk s4.D (l.getD i2.toNat (LOp.mk 0 0 0 0 0))}→
     Sv.Ok s3→
     ∀Sn:Bool,Sn=(((s4.D.bh (l.getD i2.toNat (LOp.mk 0 0 0 0 0))):Int) !=0)→
     split Sn (
      ∀i3:Int,i3=(i64.wrap (i2+1))→
      ∃m1,m1<m∧I m1 d i3 QZ s3 A5 c5 l5) (
      ∀WM:Bool,WM=(((l.getD i2.toNat (LOp.mk 0 0 0 0 0)).k:Int)==1)→
      split WM (
       ∀j:Int,j=0→
       ∃I1:Nat→Int→Option Addr→Nat→List BkE→Prop,(∃m2,I1 m2 j none 0 ([]:List BkE))∧∀(m2:Nat)(Ur:Nat→Value)(j1:Int)(A7:Option Addr)(c7:Nat)(l7:List BkE),I1 m2 j1 A7 c7 l7→
       split (decide (j1<(l5.length:Int))) (
        (0≤j1∧j1<(l5.length:Int))∧
        split ((l5.getD j1.toNat (BkE.mk 0 none 0 0)).p !=(i64.wrap ((l.getD i2.toNat (LOp.mk 0 0 0 0 0)).a))) (
         (0≤j1∧j1<(l5.length:Int))∧
         ∀(WB:Nat),
         ∀(l1:List BkE),l1=([(l5.getD j1.toNat (BkE.mk 0 none 0 0))]:List BkE)→
         ((l7.length+l1.length)*32≤140737488355328)∧
         ∀(A1:Option Addr)(c1:Nat),
         ∀(l2:List BkE),l2=(l7++l1)→
         ∀j2:Int,j2=(i64.wrap (j1+1))→
         ∃m3,m3<m2∧I1 m3 j2 A1 c1 l2) (
         ∀j2:Int,j2=(i64.wrap (j1+1))→
         ∃m3,m3<m2∧I1 m3 j2 A7 c7 l7)) (
        ∀(WB:Nat),
        ∀(l1:List BkE),l1=([BkE.mk (i64.wrap ((l.getD i2.toNat (LOp.mk 0 0 0 0 0)).a)) none 0 0]:List BkE)→
        ((l7.length+l1.length)*32≤140737488355328)∧
        ∀(A1:Option Addr)(c1:Nat),
        ∀(l2:List BkE),l2=(l7++l1)→
        ∀i3:Int,i3=(i64.wrap (i2+1))→
        ∃m1,m1<m∧I m1 d i3 QZ s3 A1 c1 l2)) (
       Value.pointer (some (Addr.mk (Sv.pD s3) 0 none))=(.pointer d)∧
       LOp.Ok (l.getD i2.toNat (LOp.mk 0 0 0 0 0))∧
       (((l.getD i2.toNat (LOp.mk 0 0 0 0 0)).k=4→s3.D.mem.has false (l.getD i2.toNat (LOp.mk 0 0 0 0 0)).d=true))∧
       ∀(xo:MOW),
       ((MOW.Ok xo∧opW xo.k xo.a xo.l=DB.ki s3.D (l.getD i2.toNat (LOp.mk 0 0 0 0 0))))→
       ∀(s5:Sv),s5=s3→
       Sv.Ok s5→
       ∀(s6:BSt),s6=(BSt.mk QZ.rows (Wt.mk xo.A xo.c xo.l))→
       FC l5 s6 (i64.wrap ((l.getD i2.toNat (LOp.mk 0 0 0 0 0)).a))∧
       (xo.A=s6.last.A∧xo.n=s6.last.l.length∧xo.c=s6.last.c)∧
       ∀(l1:List BkE)(t1:BSt),
       ((qh l5 s6 (i64.wrap ((l.getD i2.toNat (LOp.mk 0 0 0 0 0)).a)) ⟨xo.k,xo.a,xo.A,xo.n,xo.c,s6.last.l⟩ l1 t1∧l1.length=l5.length))→
       ∀(l2:List BkE),l2=l1→
       ∀(s7:BSt),s7=t1→
       (some ((.slice A5 l2.length c5):Value)=some (.slice A5 l5.length c5))∧
       ∀i3:Int,i3=(i64.wrap (i2+1))→
       ∃m1,m1<m∧I m1 d i3 s7 s5 A5 c5 l2)))) (
    ∀i3:Int,i3=0→
    ∃I1:Nat→Int→Prop,(∃m2,I1 m2 i3)∧∀(m2:Nat)(Us:Nat→Value)(i4:Int),I1 m2 i4→
    split (decide (i4<(l5.length:Int))) (
     (0≤i4∧i4<(l5.length:Int))∧
     Value.pointer (some (Addr.mk (Sv.pD s4) 0 none))=(.pointer d)∧
     ∀(Qa:Nat),
     ∃J1:Bool→Prop,(
      split ((s4.D.aR ((l5.getD i4.toNat (BkE.mk 0 none 0 0)).p)) !=0) (
       J1 true) (
       split ((s4.D.entry ((l5.getD i4.toNat (BkE.mk 0 none 0 0)).p)).typ !=1) (
        J1 true) (
        J1 ((s4.D.entry ((l5.getD i4.toNat (BkE.mk 0 none 0 0)).p)).state !=1))))∧∀(Ur:Nat→Value)(Zu:Bool),J1 Zu→
     split Zu (
      ∀i5:Int,i5=(i64.wrap (i4+1))→
      ∃m3,m3<m2∧I1 m3 i5) (
      (0≤i4∧i4<(l5.length:Int))∧
      Value.pointer (some (Addr.mk (Sv.pD s4) 0 none))=(.pointer d)∧
      ∀(x:W26),
      x=W26.mk (s4.D.mem.dgW ((l5.getD i4.toNat (BkE.mk 0 none 0 0)).p))→
      W26.Ok (W26.mk (W26.n x))∧
      split (decide ((Dg.aw (W26.n (W26.mk (W26.n x))))=0)) (
       ∀(WB:Nat),
       (0≤i4∧i4<(l5.length:Int))∧
       ((∃es,BEn QZ (BkE.A (l5.getD i4.toNat (BkE.mk 0 none 0 0))) (BkE.n (l5.getD i4.toNat (BkE.mk 0 none 0 0))) (BkE.c (l5.getD i4.toNat (BkE.mk 0 none 0 0))) es))∧
       ∀(es:List MOW),
       BEn QZ (BkE.A (l5.getD i4.toNat (BkE.mk 0 none 0 0))) (BkE.n (l5.getD i4.toNat (BkE.mk 0 none 0 0))) (BkE.c (l5.getD i4.toNat (BkE.mk 0 none 0 0))) es→
       ∀(gv7:Nat),
       ∃J2:Bool→Prop,(
        J2 (!(cv #[(.int .u32 ((Dg.sum kk (Dg.load (W26.n (W26.mk (W26.n x))))).a)),(.int .u32 ((Dg.sum kk (Dg.load (W26.n (W26.mk (W26.n x))))).b)),(.int .u32 ((Dg.sum kk (Dg.load (W26.n (W26.mk (W26.n x))))).c)),(.int .u32 ((Dg.sum kk (Dg.load (W26.n (W26.mk (W26.n x))))).d)),(.int .u32 ((Dg.sum kk (Dg.load (W26.n (W26.mk (W26.n x))))).e)),(.int .u32 ((Dg.sum kk (Dg.load (W26.n (W26.mk (W26.n x))))).f)),(.int .u32 ((Dg.sum kk (Dg.load (W26.n (W26.mk (W26.n x))))).g)),(.int .u32 ((Dg.sum kk (Dg.load (W26.n (W26.mk (W26.n x))))).h))] #[(.int .u32 ((Dg.sum kk (Dg.new.add kk (cm es))).a)),(.int .u32 ((Dg.sum kk (Dg.new.add kk (cm es))).b)),(.int .u32 ((Dg.sum kk (Dg.new.add kk (cm es))).c)),(.int .u32 ((Dg.sum kk (Dg.new.add kk (cm es))).d)),(.int .u32 ((Dg.sum kk (Dg.new.add kk (cm es))).e)),(.int .u32 ((Dg.sum kk (Dg.new.add kk (cm es))).f)),(.int .u32 ((Dg.sum kk (Dg.new.add kk (cm es))).g)),(.int .u32 ((Dg.sum kk (Dg.new.add kk (cm es))).h))])))∧∀(acY:Nat→Value)(S2:Bool),J2 S2→
       split S2 (
        Q ⟨(.bool false),none,[.ob 11 QZ],[],[]⟩) (
        ∀i5:Int,i5=(i64.wrap (i4+1))→
        ∃m3,m3<m2∧I1 m3 i5)) (
       ∀(WB:Nat),
       (0≤i4∧i4<(l5.length:Int))∧
       ((∃es,BEn QZ (BkE.A (l5.getD i4.toNat (BkE.mk 0 none 0 0))) (BkE.n (l5.getD i4.toNat (BkE.mk 0 none 0 0))) (BkE.c (l5.getD i4.toNat (BkE.mk 0 none 0 0))) es))∧
       ∀(es:List MOW),
       BEn QZ (BkE.A (l5.getD i4.toNat (BkE.mk 0 none 0 0))) (BkE.n (l5.getD i4.toNat (BkE.mk 0 none 0 0))) (BkE.c (l5.getD i4.toNat (BkE.mk 0 none 0 0))) es→
       ∀(gv7:Nat),
       ∃J2:Bool→Prop,(
        split ((Dg.aw (W26.n (W26.mk (W26.n x)))) !=0) (
         J2 true) (
         J2 (!(cv #[(.int .u32 0),(.int .u32 0),(.int .u32 0),(.int .u32 0),(.int .u32 0),(.int .u32 0),(.int .u32 0),(.int .u32 0)] #[(.int .u32 ((Dg.sum kk (Dg.new.add kk (cm es))).a)),(.int .u32 ((Dg.sum kk (Dg.new.add kk (cm es))).b)),(.int .u32 ((Dg.sum kk (Dg.new.add kk (cm es))).c)),(.int .u32 ((Dg.sum kk (Dg.new.add kk (cm es))).d)),(.int .u32 ((Dg.sum kk (Dg.new.add kk (cm es))).e)),(.int .u32 ((Dg.sum kk (Dg.new.add kk (cm es))).f)),(.int .u32 ((Dg.sum kk (Dg.new.add kk (cm es))).g)),(.int .u32 ((Dg.sum kk (Dg.new.add kk (cm es))).h))]))))∧∀(acY:Nat→Value)(S2:Bool),J2 S2→
       split S2 (
        Q ⟨(.bool false),none,[.ob 11 QZ],[],[]⟩) (
        ∀i5:Int,i5=(i64.wrap (i4+1))→
        ∃m3,m3<m2∧I1 m3 i5)))) (
     Q ⟨(.bool true),none,[.ob 11 QZ],[],[]⟩)))) (
  ∃J:Bool→Prop,(
   J false)∧∀(NR:Nat→Value)(OR:Bool),J OR→
  split OR (
   Q ⟨(.bool false),none,[.ob 11 t],[],[]⟩) (
   Q ⟨(.bool true),none,[.ob 11 t],[],[]⟩))
theorem nE:Vc2 Un prog (bw [(16,nB),(8,jY),(11,kK),(13,lP),(9,kJ),(22,ny),(21,nA),(18,qg),(24,kI),(23,jW),(25,iR)]) [7,8,10,11,12,50,65,70] Tryz.f5 (.r' (.r' (.two (.two (.node [] (some ⟨[(29,(.one .bool))],[],upN 24 6,[]⟩) [] [] .leaf .leaf) .leaf) (.r' (.r' (.two (.r' (.two (.node [(.s 7,7,59)] (some ⟨[(5,(.one .ptr)),(8,(.one (.int .i64)))],[(7,(.p (.sl 5 0)))],[5]++upN 7 5++upN 32 71,[(2,(.ob 11)),(4,(.ob 9)),(5,(.lst 7))]⟩) [] [] (.r' (.two (.two (.r' (.two (.two (.node [] (some ⟨[(50,(.one .bool))],[],upN 50 9,[]⟩) [] [] .leaf .leaf) (.r' (.r' (.r' (.r' (.two (.r' (.two (.r' (.two (.node [(.s 10,7,59)] (some ⟨[(11,(.one (.int .i64)))],[(10,(.p (.sl 7 0)))],[10,11]++upN 74 22,[(7,(.lst 7))]⟩) [] [] .leaf .leaf) .leaf)) .leaf)) (.node [] none [] [(2,[6]),(5,[6])] .leaf .leaf))))))) .leaf)) .leaf) (.node [(.s 7,1005,0)] none [] [] .leaf .leaf))) .leaf) .leaf)) (.two (.r' (.two (.node [] (some ⟨[(12,(.one (.int .i64)))],[],[4]++upN 12 7++upN 103 59,[]⟩) [] [] (.r' (.two (.two (.r' (.two (.two (.node [] (some ⟨[(130,(.one .bool))],[],upN 119 12,[]⟩) [] [] .leaf .leaf) .leaf) (.r' (.r' (.two (.node [] (some ⟨[(161,(.one .bool))],[],upN 151 11,[]⟩) [] [] .leaf .leaf) .leaf))))) .leaf) .leaf)) .leaf) .leaf)) .leaf))))))) [] iV=(∀s i A c (l:List LOp) rk (kk:List Int) r2 (t:BSt),∀Q,(((∀o∈l,LOp.Ok o))∧l.length≤140737488355328∧∀(t1:BSt),Q ⟨(.bool true),none,[.ob 11 t1],[],[]⟩)→nD s i A c l rk kk r2 t Q):=by kernel_rfl
theorem nC:LV Un prog 5 iV:=verify Tryz.func5 aa (tb:= [(16,nB),(8,jY),(11,kK),(13,lP),(9,kJ),(22,ny),(21,nA),(18,qg),(24,kI),(23,jW),(25,iR)]) ⟨B9,E0,xf,zR,xe,B7,B8,Fm,xd,EN,BL,trivial⟩ (by kernel_rfl) (nE.mpr fun s i A c l rk kk r2 t Q h=>by
 obtain⟨Ni,NI,h⟩:=h
 exact fun gv=>ae (fun c1 r s1 f1 s2 Oj f2=>⟨fun OR=>(OR=false),(by rfl),fun _ OR hx=>ae (fun c2=>(by exfalso;have h9:OR=false:=hx;rw [h9]at c2;cases c2)) fun c2=>allEq<| ⟨fun m d i2 QZ s4 A5 c5 l5=>(m=((l.length:Int) - i2).toNat)∧(0≤i2∧i2≤(l.length:Int))∧(d=some (Addr.mk (Sv.pD s4) 0 none))∧(DB.Val s4.D)∧(DB.Bk kk s4.D l5 QZ),⟨_,rfl,(by omega),(by rw [Oj]),(by rw [Oj,‹s1.D=_›];exact DB.IN _),(DB.Bk.nil)⟩,fun m _ d i2 QZ s4 A5 c5 l5 ⟨hm,hi,hd,hV,hB⟩=>fun f3=>aq (fun c3=>ao (by omega) fun e4 No=>⟨fun SB=>(SB=decide ((l.getD i2.toNat (LOp.mk 0 0 0 0 0)).k<1∨(l.getD i2.toNat (LOp.mk 0 0 0 0 0)).k>5)),aq (fun c4=>allEq<| (by exact(decide_eq_true (.inl c4)).symm)) fun c4=>allEq<| (by exact decide_eq_decide.2 ⟨.inr,fun h=>h.resolve_left c4⟩),fun _ SB ZR=>ae (fun c5=>ao (by rw [hd]) fun e5=>ao (Ni _ (ku (by omega))) fun e6 s3 NY f7=>ao (by(rw [NY];rw [hd])) fun e8 N6 f9 s5 Rw f10=>allEq<| ⟨_,(by rw [aA (by omega)];omega),rfl,(by rw [aA (by omega)];omega),(by(rw [Rw];done)),(by(rw [Rw,‹N6.D=s3.D›,NY];exact DB.tj hV)),(by(rw [Rw,‹N6.D=s3.D›,NY];exact hB.beside hV))⟩) fun c5=>(by(have hk:1≤(l.getD i2.toNat (LOp.mk 0 0 0 0 0)).k∧(l.getD i2.toNat (LOp.mk 0 0 0 0 0)).k≤5:=by rw [c5]at ZR;have:=of_decide_eq_false ZR.symm;omega);(have ho:=Ni _ (ku (d:=LOp.mk 0 0 0 0 0) (show i2.toNat<l.length by omega)));(have Vs:i64.wrap (l.getD i2.toNat (LOp.mk 0 0 0 0 0)).a=(l.getD i2.toNat (LOp.mk 0 0 0 0 0)).a:=aA (by have:=ho.1;omega));exact ao (by rw [hd]) fun e11=>ao (Ni _ (ku (by omega))) fun e12 s3 NY f13=>allEq<| aN (fun c6=>allEq<| ⟨_,(by rw [aA (by omega)];omega),rfl,(by rw [aA (by omega)];omega),(by(rw [NY];exact hd)),(by(rw [NY];exact DB.jS (Ni _ (ku (by omega))) hV (‹Sv.Ok s4› :Sv.Ok s4).wf)),(by(rw [NY];exact hB.no c6))⟩) fun c6=>allEq<| aK (fun c7=>(by have OA:=c7;exact allEq<| ⟨fun m2 j1 A7 c7 l7=>(m2=((l5.length:Int) - j1).toNat)∧(0≤j1)∧(l7=(l5.take j1.toNat).filter (fun b=>decide (b.p≠(l.getD i2.toNat (LOp.mk 0 0 0 0 0)).a))),⟨_,rfl,(by omega),(by rfl)⟩,fun m2 _ j1 A7 c7 l7 ⟨hm,hj,hL⟩=>aq (fun c8=>ao (by omega) fun e14=>aN (fun c9=>ao ‹_› fun e15 WB l1 Ry=>ao (by rw [Ry];exact hB.bytes hL rfl) fun e16 A1 c1 l2 Rx=>allEq<| ⟨_,(by have:=hB.len;rw [aA (by omega)];omega),rfl,(by have:=hB.len;rw [aA (by omega)];omega),(by rw [DB.Dm (by omega) hB.len];(rw [if_neg (by rw [Vs]at c9;exact c9),← hL,Rx,Ry];done))⟩) fun c9=>allEq<| ⟨_,(by have:=hB.len;rw [aA (by omega)];omega),rfl,(by have:=hB.len;rw [aA (by omega)];omega),(by rw [DB.Dm (by omega) hB.len];(rw [if_pos (by rw [Vs]at c9;exact c9),← hL,List.append_nil]))⟩) fun c8 WB l1 Ry=>ao (by rw [Ry];exact hB.bytes hL rfl) fun e17 A1 c1 l2 Rx=>allEq<| ⟨_,(by rw [aA (by omega)];omega),rfl,(by rw [aA (by omega)];omega),(by(rw [NY];exact hd)),(by(rw [NY];exact DB.jS (Ni _ (ku (by omega))) hV (‹Sv.Ok s4› :Sv.Ok s4).wf)),(by(rw [NY,Rx,Ry,Vs];exact hB.Kx hV (‹Sv.Ok s4› :Sv.Ok s4).wf ho OA c6 hL c8))⟩⟩)) fun c7=>ao (by(rw [NY];rw [hd])) fun e18=>ao (Ni _ (ku (by omega))) fun e19=>ao (by intro h4;rw [NY];exact DB.Ha ho c6 h4) fun e20 xo f21 s5 Rw f22 s6 VZ=>ao (by rw [VZ,Vs];exact hB.MN (‹Sv.Ok s4› :Sv.Ok s4).wf.2.1 (DB.Jb hV (‹Sv.Ok s4› :Sv.Ok s4).wf ho c7 c6)) fun e23=>ao (by rw [VZ];exact⟨rfl,f21.1.len,rfl⟩) fun e24 l1 t1 f25 l2 Rx s7 acw=>ao (by rw [Rx,f25.2]) fun e26=>allEq<| ⟨_,(by rw [aA (by omega)];omega),rfl,(by rw [aA (by omega)];omega),(by(rw [Rw,NY];exact hd)),(by(rw [Rw,NY];exact DB.jS (Ni _ (ku (by omega))) hV (‹Sv.Ok s4› :Sv.Ok s4).wf)),(by(rw [Rw,NY,acw,Rx];exact(hB.last (y:=⟨xo.A,xo.c,xo.l⟩)).LS hV (‹Sv.Ok s4› :Sv.Ok s4).wf ho c7 hk c6 f21.1 (f21.2.trans (by rw [NY];exact DB.Bq ho c7 c6)) (by have h9:=f25.1;rw [VZ,Vs]at h9;exact h9)))⟩)⟩) fun c3=>allEq<| ⟨fun m2 i4=>(m2=((l5.length:Int) - i4).toNat)∧(0≤i4),⟨_,rfl,(by omega)⟩,fun m2 _ i4 ⟨hm,hi4⟩=>aq (fun Uq=>ao (by omega) fun e27=>ao (by rw [hd]) fun e28 Qa=>gh ((((s4.D.aR ((l5.getD i4.toNat (BkE.mk 0 none 0 0)).p)):Int) !=0) || ((((s4.D.entry ((l5.getD i4.toNat (BkE.mk 0 none 0 0)).p)).typ:Int) !=1) || (((s4.D.entry ((l5.getD i4.toNat (BkE.mk 0 none 0 0)).p)).state:Int) !=1))) (ae (fun c11=>(by grind)) fun c11=>ae (fun c12=>(by grind)) fun c12=>(by grind))<| cQ (fun TM=>allEq<| ⟨_,(by have:=hB.len;rw [aA (by omega)];omega),rfl,(by have:=hB.len;rw [aA (by omega)];omega)⟩) fun TM=>(by have hb9:=TM.2;simp at hb9;(have TK:DB.aE s4.D (l5.getD i4.toNat (BkE.mk 0 none 0 0)).p=0:=DB.Hf (by simpa using TM.1) hb9.1 hb9.2);(have P4:=hB.fin hV (‹Sv.Ok s4› :Sv.Ok s4).wf.2.1 (b:=(l5.getD i4.toNat (BkE.mk 0 none 0 0))) rfl ⟨by omega,Uq⟩ TK);exact ao ‹_› fun e29=>ao (by rw [hd]) fun e30 x f31=>(by(have abM:W26.n x=s4.D.mem.dgW (l5.getD i4.toNat (BkE.mk 0 none 0 0)).p:=by rw [‹x=_›];exact W26.Gt (Mem.dH _ _));(have hxx:W26.n (W26.mk (W26.n x))=s4.D.mem.dgW (l5.getD i4.toNat (BkE.mk 0 none 0 0)).p:=by rw [abM];exact W26.nn (Mem.dH _ _));exact ao (by show dP _;rw [hxx];exact Mem.jn (‹Sv.Ok s4› :Sv.Ok s4).wf _) fun e32=>aq (fun c14 WB=>ao ‹_› fun e33=>ao (P4.2.1) fun e34 es f35 gv7=>gh (!(cv #[(.int .u32 ((Dg.sum kk (Dg.load (W26.n (W26.mk (W26.n x))))).a)),(.int .u32 ((Dg.sum kk (Dg.load (W26.n (W26.mk (W26.n x))))).b)),(.int .u32 ((Dg.sum kk (Dg.load (W26.n (W26.mk (W26.n x))))).c)),(.int .u32 ((Dg.sum kk (Dg.load (W26.n (W26.mk (W26.n x))))).d)),(.int .u32 ((Dg.sum kk (Dg.load (W26.n (W26.mk (W26.n x))))).e)),(.int .u32 ((Dg.sum kk (Dg.load (W26.n (W26.mk (W26.n x))))).f)),(.int .u32 ((Dg.sum kk (Dg.load (W26.n (W26.mk (W26.n x))))).g)),(.int .u32 ((Dg.sum kk (Dg.load (W26.n (W26.mk (W26.n x))))).h))] #[(.int .u32 ((Dg.sum kk (Dg.new.add kk (cm es))).a)),(.int .u32 ((Dg.sum kk (Dg.new.add kk (cm es))).b)),(.int .u32 ((Dg.sum kk (Dg.new.add kk (cm es))).c)),(.int .u32 ((Dg.sum kk (Dg.new.add kk (cm es))).d)),(.int .u32 ((Dg.sum kk (Dg.new.add kk (cm es))).e)),(.int .u32 ((Dg.sum kk (Dg.new.add kk (cm es))).f)),(.int .u32 ((Dg.sum kk (Dg.new.add kk (cm es))).g)),(.int .u32 ((Dg.sum kk (Dg.new.add kk (cm es))).h))])) ((by grind))<| dK (fun c15=>(by exfalso;rw [hxx,P4.2.2 _ f35]at c15;simp [cv,eqL,nI]at c15)) fun c15=>allEq<| ⟨_,(by have:=hB.len;rw [aA (by omega)];omega),rfl,(by have:=hB.len;rw [aA (by omega)];omega)⟩) fun c14=>(by exfalso;exact c14 (by rw [hxx];exact P4.1))))) fun Uq=>(h QZ)⟩⟩⟩) fun c1=>⟨fun OR=>(OR=false),(by rfl),fun _ OR hx=>ae (fun c16=>(by exfalso;have h9:OR=false:=hx;rw [h9]at c16;cases c16)) fun c16=>(h t)⟩)
end
end Go.Proofs.YtinhphjfnedhgaaGreatDoor
namespace Go.Proofs.YtinhphjfnedhgaaGreatDoor
open Go.Proofs.Tryz (prog)
open Go Go.RowKit V Go.ChangeShapes Go.WideShapes Go.ChangeAt
open Go.IntKind (i64 u32 u64)
open Enc (enc)
theorem IW:ownKnob prog.godebug=none:=by kernel_rfl
theorem qw:laidOutB prog=true:=by kernel_rfl
theorem IX:prog.bytesOf 31=24:=by kernel_rfl
theorem KU:prog.cellsOf 31=5:=by kernel_rfl
theorem Bb:prog.cellsOf 3=1:=by kernel_rfl
theorem sN:prog.cellsOf 29=1:=by kernel_rfl
def MP:DataW Unit→List Int
 | .agg l=>l.filterMap fun d=>match d with
  | .lit (.int _ x)=>some x
  | _=>none
 | _=>[]
def kR:List Int:=MP Rows.laid_warden_sha_rounds
theorem IZ:Rows.laid_warden_sha_rounds (H:=Unit)= .agg (kR.map fun x=>.lit (.int .u32 x)):=by kernel_rfl
theorem GH:kR.length=64:=by kernel_rfl
theorem C6:prog.globalNamed "warden/sha.rounds" =some 0:=by kernel_rfl
theorem IL {W:World}(h:laidMetH prog Rows.buildMeasuresRow.laid W):kX W 0 kR:=by
 rw [MakeChecks.laidMetH_plain _ _ _ (by kernel_rfl)]at h
 obtain⟨ps,⟨g0,t0,Wc,f0,p0,q0,hg0,ht0,hv0,hd0,hq0,e0⟩,_,hc⟩:=h
 obtain rfl:=Option.some.inj (C6.symm.trans hg0)
 obtain rfl:=Option.some.inj ((show(prog.globals[0]?).map (·.type)=some 287 by kernel_rfl).symm.trans ht0)
 rw [IZ]at hd0
 have c0:=D7 Tryz.underlying287 Tryz.underlying29 sN hd0 (by kernel_rfl)
 obtain⟨Wc⟩:=Wc
 simp only at c0
 subst c0
 have s0:∀x:Nat,MemPlace.row ⟨0,0,none⟩ (kR.map (Value.int .u32)).toArray.size ⊆ ps:=fun _=>by rw [e0];intro y hy;simp only [List.mem_append];exact .inl (.inl hy)
 have z0:0<(kR.map (Value.int .u32)).toArray.size:=by simp [GH]
 exact⟨GH,Gg C6 hv0 z0 (s0 0) hc⟩
theorem GX(os:Os)(args:Array Value):laidMetH prog Rows.buildMeasuresRow.laid ((World.doorLaid prog 400 os).forCall (fun _ _=>0) ⟨#[],args,[]⟩).memory:=
 laidMetH_of_parts3 (fuel:=8) (laidMet_of_run' 8 (by kernel_rfl) (by kernel_rfl)) (by kernel_rfl) (by kernel_rfl)
set_option maxRecDepth 100000 in
theorem Ba(os:Os)(started:os.Started)(H:Type)(enc:TypeId×Value→H):
 ReturnsInHanded {} Tryz.checked os 5 .any (fun w args=>(Rows.buildMeasuresSpec.pre enc prog Tryz.f5 [] false w args∧laidMetH prog Rows.buildMeasuresRow.laid w)∧sizedMet enc prog Tryz.f5 (OpenSpec.ofChange Rows.buildMeasuresSpec) false w args)
  (Rows.buildMeasuresSpec.post enc prog Tryz.f5 false true false false):=by
 refine returnsInHanded_of_change_and (C:=Tryz.checked) (X:=fun w _=>laidMetH prog Rows.buildMeasuresRow.laid w) (fun _ _ _ hh h=>h.of_heap hh) IW started (by kernel_rfl) Tryz.func5
  (ChangeSpec.witness_shaped (enc:=enc) (C:=Tryz.checked) (os:=os) (X:=fun w _=>laidMetH prog Rows.buildMeasuresRow.laid w) false (World.doorLaid prog 400 os) #[.agg #[.int .i64 1,.int .i64 1],.slice none 0 0] 8 rfl (World.shaped_of_RefB (by kernel_rfl) (by kernel_rfl)) (by kernel_rfl) (by kernel_rfl) (by kernel_rfl) (GX os _)) ?_
 intro W base args ds gs before UQ hW _ ZY hL _
 have NA:(DataW.weightsEach prog (Tryz.f5.params.toList++Rows.buildMeasuresSpec.plain.varTypes prog) (ds++gs)).all (· ≤reachBytes)=true:=ZY
 clear ZY
 have Vt:∀(j:Nat) t v,Tryz.f5.params[j]? =some t→args[j]? =some v→Value.okWide prog W .any base t v:=UQ
 have hW':=hW
 obtain⟨p,q,hA0,hV,rfl,_,_⟩:=hW
 have hA:DataW.TrodAll enc prog W 0 (fun _=>true) true Tryz.f5.params.toList args.toList ds p:=hA0
 rw [Tryz.params5]at hA Vt NA
 obtain⟨v0,v1,d0,d1,p0,p1,rfl,rfl,rfl,h0,h1⟩:=trodAll_two hA
 obtain⟨rfl,rfl⟩:=trodVars_none hV
 obtain⟨x0,x1,rfl⟩:=Gh Tryz.underlying23 ⟨rfl,rfl⟩ ⟨Bb,Bb⟩ Tryz.underlying3 Tryz.underlying3 (by kernel_rfl) (Vt 0 23 v0 rfl rfl) h0
 obtain⟨A,n,c,l,rfl,hr,hw,VR,hs⟩:=Gi Tryz.underlying24 Tryz.underlying31 KU ⟨rfl,rfl,rfl,rfl,rfl⟩ ⟨Bb,sN,sN,sN,sN⟩ Tryz.underlying3 Tryz.underlying29 Tryz.underlying29 Tryz.underlying29 Tryz.underlying29 (Vt 1 24 v1 rfl rfl) h1
 clear hA0 UQ
 simp only [List.append_nil]at hW'
 have Nu:∀x∈p0++p1,x.block<W.heap.size:=fun x hx=>by simpa using hW'.lt x hx
 have VF:=hr.len
 subst VF
 have b0:c*24≤140737488351232:=by
  rcases hs with rfl | ⟨el,sp,rfl,hlen⟩
  ·omega
  ·have:=sized_slice NA (j:=1) (t:=24) (e:=31) rfl rfl Tryz.underlying24
   rw [IX,hlen]at this
   simpa [reachBytes]using this
 have hR1:=IL hL
 have ne:∀g cs T,(∀v∈cs.toList,∀x,v≠ .int .i64 x)→Blk W g cs T→¬(0<l.length∧∃p,A=some p∧g=p.block):=fun g cs T Of hb ⟨h0,p,hp,hg⟩=>by
  obtain⟨x,hx⟩:=VR p hp h0
  exact Of _ (cell_of hb (by rw [V.block_add];exact hg.symm) hx) x rfl
 have n1:∀g,(∃T,Blk W g (bR kR) T)→¬(0<l.length∧∃p,A=some p∧g=p.block):=fun g ⟨T,hb⟩=>ne g _ T (fun v hv x e=>by
  subst e
  have hv:Value.int .i64 x∈kR.map (Value.int .u32):=hv
  obtain⟨y,_,hy⟩:=List.mem_map.1 hv
  cases hy) hb
 let X:Nat→Nat→Prop:=fun i=>if i=0 then fun k=>0<l.length∧∃p,A=some p∧k=p.block else if i=1 then fun k=>k=0 else fun _=>False
 have hsat:Sat (U:=Un) [.lst 5 false 31 A c l,.ob 5 (fun _=>0) kR,.ob 11 (fun _=>0) BSt.nil] X W:=⟨fun i r Qe=>by
  match i with
  | 0=>simp only [nth,Option.some.injEq]at Qe;subst Qe;exact hr
  | 1=>simp only [nth,Option.some.injEq]at Qe;subst Qe;exact(⟨fun k=>⟨fun h=>h,fun h=>h⟩,hR1⟩:(∀k,k=0↔X 1 k)∧kX W 0 kR)
  | 2=>simp only [nth,Option.some.injEq]at Qe;subst Qe;exact(⟨fun _=>False,fun k=>⟨fun h=>h.elim (fun h=>h) (fun⟨_,h⟩=>by cases h),fun h=>h.elim⟩,ja.nil⟩:cq 11 (fun _=>0) BSt.nil (X 2) W)
  | i+3=>simp [nth]at Qe,fun i j hi hj NJ k k1 k2=>by
  have hi:i<3:=hi
  have hj:j<3:=hj
  have a0:∀k,X 1 k→k=0:=fun _ h=>h
  have m1:¬X 0 0:=n1 _ hR1.blk
  match i,hi,j,hj with
  | 0,_,0,_ | 1,_,1,_ | 2,_,2,_=>exact NJ rfl
  | 2,_,0,_ | 2,_,1,_=>exact k1
  | 0,_,2,_ | 1,_,2,_=>exact k2
  | 0,_,1,_=>rw [a0 k k2]at k1;exact m1 k1
  | 1,_,0,_=>rw [a0 k k1]at k2;exact m1 k2⟩
 have Uk:l.length≤c:=hr.cap
 have TI:l.length≤140737488355328:=by omega
 refine(nC x0 x1 A c l (fun _=>0) kR (fun _=>0) BSt.nil (fun o=>∃t1:BSt,o=⟨.bool true,none,[.ob 11 t1],[],[]⟩) ⟨hw,TI,fun t1=>⟨t1,rfl⟩⟩ X W hsat (fun _ _ h=>by cases h)).mono ?_
 rintro e W' ⟨out,rs',X',rfl,⟨t1,rfl⟩,NF,hp⟩
 have Rj:Pu W W':=hp.ch.mono fun k ⟨j,hj,h⟩=>by
  obtain rfl:=List.mem_singleton.1 hj
  exact h
 have hn:Below W.heap.size W W':=⟨Rj.kept.os,Rj.kept.tape,Rj.kept.output,Rj.kept.size,fun k hk=>Rj.kept.block k ⟨hk,fun h=>h⟩⟩
 refine⟨_,rfl,_,_,_,[],p0++p1,[],hW',trodAll_mk1 (shut_bool Tryz.underlying4 _),?_,rfl,hn.frame _,fun h=>by cases h⟩
 exact trodAll_mk2 (Below.trod qw (by kernel_rfl) (of_decide_eq_true (by kernel_rfl)) h0 hn (fun x hx=>Nu x (List.mem_append_left _ hx)))
  (Below.trod qw (by kernel_rfl) (of_decide_eq_true (by kernel_rfl)) h1 hn (fun x hx=>Nu x (List.mem_append_right _ hx)))
theorem oK:Rows.BuildMeasuresSaid:=
 OpenClaim.holds_of_wide 5 Tryz.f5 rfl rfl rfl rfl rfl rfl rfl ⟨rfl,rfl,rfl,rfl,rfl⟩ rfl rfl rfl rfl rfl (by kernel_rfl) Tryz.func5 (by kernel_rfl)
  (of_decide_eq_true (by kernel_rfl)) (by unfold Func.isWrapper;(rw [if_neg (by decide+kernel)];exact⟨rfl,rfl⟩))
  (fun os started H enc _=>Ba os started H enc)
end Go.Proofs.YtinhphjfnedhgaaGreatDoor
namespace Go.Proofs.YtinhphjfnedhgaaGreatDoor
open Go.Proofs.Tryz (prog)
open Go
theorem buildMeasures_card:Rows.BuildMeasuresCardSaid:=
 Claim7.holds_tied_plain_at .later [] [.data] true (true, "4005ff82abade87380ae656bae1277cdf77dd5fa8f92b5447bbfc42810012e7b") true
  oK (fun _ h=>by cases h) (by kernel_rfl) (fun _ h=>by cases h) buildMeasures_row_tie rfl ⟨rfl,rfl⟩ (by kernel_rfl) rfl
  (fun f fn hf U0=>by
   obtain rfl:f=5:=Option.some.inj ((show prog.funcNamed "warden/wardenlaw17.BuildMeasures" =some 5 by kernel_rfl).symm.trans hf) |>.symm
   obtain rfl:fn=Tryz.f5:=(Option.some.inj (Tryz.func5.symm.trans U0)).symm
   exact⟨by kernel_rfl,fun j t ht=>by
    rw [Tryz.params5]at ht
    have h3:t=23∨t=24:=by
     rcases j with _ | _ | j
     ·left;simpa using ht.symm
     ·right;simpa using ht.symm
     ·simp at ht
    rcases h3 with rfl | rfl
    ·exact(show prog.wantsStandIn 23=false by kernel_rfl)
    ·exact(show prog.wantsStandIn 24=false by kernel_rfl)⟩)
  (by kernel_rfl)
#print axioms buildMeasures_card
end Go.Proofs.YtinhphjfnedhgaaGreatDoor
