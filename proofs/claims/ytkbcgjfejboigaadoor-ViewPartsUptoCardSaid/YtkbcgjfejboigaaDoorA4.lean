/- ViewParts returns true for every input of bulk at most 1048576; each argument reads behind the call as it read before. -/
import Derived.Test.YtkbcgjfejboigaaDoorA3
import Derived.Test.YtkbcgjfejboigaaDoorRows
import Derived.ProofKit
import Derived.SizedLaws
import Derived.OpenShut
import Derived.LaidMore
import Derived.MakeChecks
import Derived.Handed
import Derived.Deep.SlicePairs
import Derived.Carry
import Derived.LaidHandle
import Derived.LaidLaws
import Derived.JoinedCond
import Derived.Test.YtkbcgjfejboigaaDoorTie
import Derived.Test.YtkbcgjfejboigaaDoorCards
import Derived.SevenTiedAt
set_option linter.unusedVariables false
set_option linter.unusedSimpArgs false
namespace Go.Proofs.YtkbcgjfejboigaaDoor
open Go Go.RowKit V
open Go.IntKind (i64 u32 u64)
open Enc (enc)
section
set_option maxRecDepth 10000
def bL(m:Mem)(s:Bool)(p:Int):List Int:=(List.range 1024).map fun o:Nat=>m.eL s p (o:Int)
theorem cU(m:Mem)(s:Bool)(p:Int):(bL m s p).length=1024:=by unfold bL;rw [List.length_map,List.length_range]
theorem jR {m:Mem} {s:Bool} {p:Int} {k:Nat}(h:k<1024):(bL m s p)[k]? =some (m.eL s p (k:Int)):=by
 unfold bL
 rw [List.getElem?_map,List.getElem?_range h];rfl
def dZ(l:List Int)(k:Nat):List Int:=l.take k++List.replicate (l.length - k) 0
theorem pI {l:List Int} {k:Nat}(h:k≤l.length):(dZ l k).length=l.length:=by unfold dZ;rw [List.length_append,List.length_take,List.length_replicate];omega
theorem nr {l:List Int} {k:Nat} {x:Int}(h:l[k]? =some x):(dZ l k).set k x=dZ l (k+1):=by
 have hk:k<l.length:=(List.getElem?_eq_some_iff.1 h).1
 unfold dZ
 rw [List.set_append_right _ _ (by rw [List.length_take];omega),List.length_take,show k - min k l.length=0 by omega,show l.length - k=(l.length - (k+1))+1 by omega,List.replicate_succ,List.set_cons_zero,List.take_add_one,h]
 simp
theorem pK(l:List Int):dZ l l.length=l:=by unfold dZ;simp
theorem nq(l:List Int):dZ l 0=List.replicate l.length 0:=by unfold dZ;simp
theorem ox {w:World} {L:cS} {m:Mem}(h:bF w L m)(s:Bool)(p:Int):
 Calls Tryd.prog 40 #[ptr L.g,fr s p] w fun e w'=>∃v,e= .returned v∧v= .agg (aW (bL m s p))∧Pu w w':=by
 refine jo _ _ _ ?_
 refine mkd fun gv w1 m1=>mkd fun wD w2 m2=>mkd fun wY w3 m3=>?_
 have q3:Pu w w3:=((show Pu w w1 from m1.pu).made m2).made m3
 have b0:=m3.old (m2.old m1.blk)
 have b1:=m3.old m2.blk
 have b2:=m3.blk
 have s0:=m1.num
 have s1:=m2.num
 have s2:=m3.num
 have z0:=m1.size
 have z1:=m2.size
 have hl:=cU m s p
 refine⟨fun mz i w4=>∃k:Nat,i=(k:Int)∧k≤1024∧mz=1024 - k∧Blk w4 gv #[.bool s,.int .i64 p] _∧Blk w4 wD (Array.replicate 1024 (.int .u32 0)) _∧Blk w4 wY (aW (dZ (bL m s p) k)) _∧Pu w w4,⟨_,0,rfl,Nat.zero_le _,rfl,b0,b1,b2.cast (by rw [nq,hl,ie]),q3⟩,?_⟩
 rintro mz _ _ w4 ⟨k,rfl,hk,rfl,c0,c1,c2,q4⟩
 refine aH (fun hb=>?_) (fun hb=>?_)
 ·have hk:k<1024:=by omega
  refine⟨_,_,⟨c0.at rfl,c0.at rfl⟩,(uc (h.pu q4) s p (k:Int)).mono ?_⟩
  rintro e w5 ⟨_,rfl,rfl,q5⟩
  refine⟨_,rfl,by omega,?_⟩
  rw [Int.toNat_natCast,Nat.mul_one]
  refine aI (q5.blk c2) (by rw [bt,pI (by omega)];show k+1≤_;omega) fun w6 s6=>?_
  refine⟨1024 - (k+1),by omega,k+1,by rw [aM (by omega)];omega,by omega,rfl,s6.old (q5.blk c0) (by omega),s6.old (q5.blk c1) (by omega),?_,(q4.trans q5).stored s6 (.inr (by omega))⟩
  have:=s6.blk
  rwa [ic,nr (jR hk)]at this
 ·obtain rfl:k=1024:=by omega
  have MA:dZ (bL m s p) 1024=bL m s p:=by have:=pK (bL m s p);rwa [hl]at this
  rw [MA]at c2
  refine⟨aW (bL m s p),⟨by rw [bt,hl],fun i u hu=>c2.at hu⟩,by rw [bt,hl],fc,?_⟩
  refine aJ c1 (by rw [dX,List.length_map,hl];simp) fun w5 s5=>?_
  refine⟨aW (bL m s p),⟨by rw [bt,hl],fun i u hu=>s5.blk.at (by simpa using hu)⟩,rfl,q4.stored s5 (.inr (by omega))⟩
def DB.findF(D:DB)(b:Int):Int:=match (List.range D.S).find? (fun p=>decide ((D.ent p).typ=1) && decide (D.mem.eL true (p:Int) 1=b))with
 | some p=>(p:Int)
 | none=> -1
theorem rf {w:World} {L:cS} {m:Mem}(h:bF w L m)(s:Bool)(p o:Int):0≤m.eL s p o∧m.eL s p o<4294967296:=by
 unfold Mem.eL
 split
 ·exact h.u32 _ _ _
 ·omega
theorem uo {w:World} {L:dL} {D:DB}(h:DBP w L D)(b:Int):
 Calls Tryd.prog 43 #[.pointer (some (Addr.mk L.g 0 none)),.int .i64 b] w fun e w'=>∃v,e= .returned v∧v= .int .i64 (D.findF b)∧Pu w w':=by
 refine kX _ _ ?_
 refine(nD h).mono ?_
 rintro e w ⟨_,rfl,rfl,rfl⟩
 have BX:=h.S64
 refine⟨_,rfl,fun mz i w1=>∃k:Nat,i=(k:Int)∧k≤D.S∧mz=D.S - k∧(∀j,j<k→¬((D.ent j).typ=1∧D.mem.eL true (j:Int) 1=b))∧Pu w w1,⟨_,0,rfl,Nat.zero_le _,rfl,fun j hj=>absurd hj (by omega),Ch.refl _ _⟩,?_⟩
 rintro mz _ _ w1 ⟨k,rfl,hk,rfl,hs,q1⟩
 refine aH (fun hb=>?_) (fun hb=>?_)
 ·have MV:k<D.S:=by omega
  have Gs:D.has (k:Int)=true:=by simp [DB.has];omega
  have he:D.entry (k:Int)=D.ent k:=by unfold DB.entry DB.at_;rw [if_pos Gs,Int.toNat_natCast]
  refine(rK (h.pu q1) (k:Int)).mono ?_
  rintro e w2 ⟨_,rfl,rfl,q2⟩
  rw [he]
  refine⟨_,_,_,_,_,_,rfl,?_⟩
  refine mkd fun gv w3 m3=>?_
  refine aJ m3.blk rfl fun w4 s4=>?_
  have p4:Pu w w4:=((q1.trans q2).made m3).stored s4 (.inr (by have:=m3.num;have:=(q1.trans q2).size;omega))
  have b4:=s4.blk
  refine⟨fun x w5=>x=decide ((D.ent k).typ=1∧D.mem.eL true (k:Int) 1=b)∧Pu w w5,?_,?_⟩
  ·refine⟨_,b4.at0 rfl,bq (fun h1=>?_) (fun h1=>⟨by simp [h1],p4⟩)⟩
   refine(fk (h.pu p4)).mono ?_
   rintro e w4 ⟨_,rfl,rfl,rfl⟩
   refine⟨_,rfl,(uQ (h.pu p4) true (k:Int) 1).mono ?_⟩
   rintro e w5 ⟨_,rfl,rfl,q5⟩
   have hr:=rf h.mem true (k:Int) 1
   refine⟨_,rfl,?_,p4.trans q5⟩
   rw [aM (by omega),Bool.eq_iff_iff]
   simp [h1]
  rintro _ _ w5 ⟨rfl,q5⟩
  refine aH (fun h1=>⟨?_,q5⟩) (fun h1=>?_)
  ·have:(List.range D.S).find? (fun p=>decide ((D.ent p).typ=1) && decide (D.mem.eL true (p:Int) 1=b))=some k:=by
    rw [List.find?_range_eq_some]
    refine⟨by simp [h1],List.mem_range.2 MV,fun j hj=>?_⟩
    have:=hs j hj
    simp only [Bool.not_eq_true',Bool.and_eq_false_iff,decide_eq_false_iff_not]
    by_cases h2:(D.ent j).typ=1
    ·exact .inr fun h3=>this ⟨h2,h3⟩
    ·exact .inl h2
   unfold DB.findF
   rw [this]
  ·refine⟨D.S - (k+1),by omega,k+1,by rw [aM (by omega)];omega,by omega,rfl,fun j hj=>?_,q5⟩
   rcases Nat.lt_succ_iff_lt_or_eq.1 hj with hj | rfl
   ·exact hs j hj
   ·exact h1
 ·refine⟨?_,q1⟩
  have:(List.range D.S).find? (fun p=>decide ((D.ent p).typ=1) && decide (D.mem.eL true (p:Int) 1=b))=none:=by
   rw [List.find?_eq_none]
   intro j hj
   have hj:=List.mem_range.1 hj
   have:=hs j (by omega)
   simpa using this
  unfold DB.findF
  rw [this]
theorem vu:SN Tryd.prog 47 22 (.int .u32 0) 1 4:=(S1.of (by kernel_rfl) (by kernel_rfl) rfl:S1 Tryd.prog 47 22 (.int .u32 0) 4).sn
theorem qz {w:World} {Z:Nat→Prop} {p:Addr} {n c:Nat} {l:List U32}(h:Rd w Z (some p) n c l)(h0:0<n)(hn:n≤1048576):
 Calls Tryd.prog 41 #[.slice (some p) n c] w fun e w'=>∃v,e= .returned v∧∃A' c',v= .slice A' n c'∧Own w' (fun k=>w.heap.size≤k) 22 A' n c' l∧Pu w w':=by
 refine cl _ _ _ ?_
 refine cv ?_
 refine mkd fun gv w1 m1=>?_
 have h1:Rd w1 (fun k=>k=gv) (some (Addr.mk gv 0 none)) 0 0 ([]:List U32):=⟨rfl,Nat.le_refl _,fun k hk=>hk▸m1.blk.lt,fun i x hx=>by simp at hx⟩
 refine Rd.vS vu h1 (h.pu m1.pu) h0 (by omega) (by omega) fun A' c' w2 o2 q2=>?_
 rw [Nat.zero_add,List.nil_append]at o2
 refine⟨A',c',by rw [Nat.zero_add],?_,m1.pu.trans q2⟩
 exact o2.mono fun k hk=>by have:=m1.size;omega
namespace V
theorem Own.one {α:Type} [Enc α] {w:World} {Z:Nat→Prop} {e:TypeId} {A:Option Addr} {n c:Nat} {l:List α}(h:Own w Z e A n c l)(hn:0<n):∃g cs,A=some (Addr.mk g 0 none)∧Z g∧Blk w g cs e∧Own w (fun k=>k=g) e A n c l:=by
 obtain⟨g,cur,hA,hZ,hb,_⟩:=h.own.blk hn
 exact⟨g,cur,hA,hZ,hb,⟨h.own.1,fun a ha=>by rw [hA]at ha;injection ha with ha;rw [← ha]⟩,h.len⟩
end V
end
section
set_option maxRecDepth 10000
def DB.l7(D:DB)(of:Int)(p:Nat):Bool:=decide (0≤of∧(D.ent p).owner=of∧((D.ent p).typ=5∨(D.ent p).typ=2))
def DB.dS(D:DB)(of:Int)(p:Nat):List Int:=if(p:Int)=of then(bL D.mem true p).set 2 0 else bL D.mem true p
def DB.bR(D:DB)(of:Int)(p:Nat):SnV:=⟨(D.ent p).w0,(D.ent p).w1,D.l7 of p,if D.l7 of p then []else(D.dS of p).map U32.mk⟩
theorem ng(D:DB)(of:Int)(p:Nat):(D.dS of p).length=1024:=by
 unfold DB.dS
 split
 ·rw [List.length_set,cU]
 ·exact cU _ _ _
def gJ(base:Nat)(w:World)(A:Option Addr)(n c:Nat)(l:List U32):Prop:=∃Z,Rd w Z A n c l∧n<big∧∀k,Z k→base≤k∧∃cs,Blk w k cs 22
theorem gJ.ch {base:Nat} {w w':World} {X:Nat→Prop} {A:Option Addr} {n c:Nat} {l:List U32}(h:gJ base w A n c l)(q:Ch X w w')(hX:∀k,X k→base≤k→∀cs,¬Blk w k cs 22):gJ base w' A n c l:=by
 obtain⟨Z,h1,h2,h3⟩:=h
 exact⟨Z,h1.ch q fun k hk hx=>by obtain⟨hb,cs,hc⟩:=h3 k hk;exact hX k hx hb cs hc,h2,fun k hk=>by obtain⟨hb,cs,hc⟩:=h3 k hk;exact⟨hb,cs,q.blk hc fun hx=>hX k hx hb cs hc⟩⟩
theorem gJ.pu {base:Nat} {w w':World} {A:Option Addr} {n c:Nat} {l:List U32}(h:gJ base w A n c l)(q:Pu w w'):gJ base w' A n c l:=h.ch q (by simp)
def nm(base:Nat)(D:DB)(of:Int):Ys:=⟨D.S,fun i x A=>i<D.S∧∃A' n' c',x= [.int .i64 (i:Int),.agg #[.int .u32 (D.bR of i).e0,.int .u32 (D.bR of i).e1,.bool (D.bR of i).hid,.slice A' n' c']]∧gJ base A A' n' c' (D.bR of i).l⟩
def dL.XS(L:dL)(g0 g1:Nat):Nat→Prop:=fun k=>L.X k∨k=g0∨k=g1
theorem um {w:World}(p:Option Addr)(of:Int):
 Calls Tryd.prog 42 #[.pointer p,.int .i64 of] w fun e w'=>∃v,e= .returned v∧∃g0 g1 T0 T1,v= .func (.func 53) #[] #[.pointer (some (Addr.mk g0 0 none)),.pointer (some (Addr.mk g1 0 none))]∧Blk w' g0 #[.pointer p] T0∧Blk w' g1 #[.int .i64 of] T1∧(w.heap.size≤g0∧w.heap.size≤g1)∧Pu w w':=by
 refine kU _ _ ?_
 refine mkd fun gv w1 m=>mkd fun wD w2 m1=>?_
 have:=m.num
 have:=m1.num
 have:=m.size
 exact⟨gv,wD,_,_,rfl,m1.old m.blk,m1.blk,⟨by omega,by omega⟩,(show Pu w w1 from m.pu).made m1⟩
theorem tU {w:World} {g:Nat} {l:List Int} {T:TypeId}(hb:Blk w g (aW l) T) {n:Nat}(hl:l.length=n):Rd w (fun k=>k=g) (some (Addr.mk g 0 none)) n n (l.map U32.mk):=
 tT (o:=0) hb (by rw [List.length_map,hl]) fun i x hx=>by
  rw [List.getElem?_map]at hx
  cases hi:l[i]? with
  | none=>rw [hi]at hx;simp at hx
  | some y=>
   rw [hi]at hx
   simp only [Option.map_some,Option.some.injEq]at hx
   subst hx
   have yQ:i<l.length:=(List.getElem?_eq_some_iff.1 hi).1
   rw [Nat.zero_add]
   refine hb.cell ?_
   rw [fe yQ,List.getD_eq_getElem?_getD,hi];rfl
set_option maxHeartbeats 1000000 in
theorem qO {L:dL} {D:DB} {w:World} {g0 g1:Nat} {T0 T1:TypeId} {of:Int}(h:DBP w L D)(b0:Blk w g0 #[.pointer (some (Addr.mk L.g 0 none))] T0)(b1:Blk w g1 #[.int .i64 of] T1):
 Iter Tryd.prog 53 #[.pointer (some (Addr.mk g0 0 none)),.pointer (some (Addr.mk g1 0 none))] (nm w.heap.size D of) (L.XS g0 g1) (fun _ A=>Kept (L.XS g0 g1) w A):=by
 have yQ:∀k,L.XS g0 g1 k→k<w.heap.size:=fun k hk=>hk.elim (h.lt k) fun e=>e.elim (fun e=>e▸b0.lt) (fun e=>e▸b1.lt)
 have BX:=h.S64
 refine pQ yQ fun l J Jx W sJ sJx j0 d0 hy=>?_
 rw [show(nm w.heap.size D of).n=D.S from rfl]
 have pJ:∀ {i A B},J i A→Pu A B→J i B:=fun a q=>sJ _ _ _ a (q.mono fun _ h=>h.elim)
 have dQ:∀ {A B},Kept (L.XS g0 g1) w A→Pu A B→Kept (L.XS g0 g1) w B:=fun a q=>a.trans (q.dQ fun k hk=>Nat.lt_of_lt_of_le (yQ k hk) a.size)
 have ld0:∀ {A},Kept (L.XS g0 g1) w A→A.cell? (Addr.mk g0 0 none)=some (.pointer (some (Addr.mk L.g 0 none))):=fun a=>by rw [a.cell (p:=Addr.mk g0 0 none) (.inr (.inl rfl))];exact b0.at0 rfl
 have NC:∀ {A},Kept (L.XS g0 g1) w A→A.cell? (Addr.mk g1 0 none)=some (.int .i64 of):=fun a=>by rw [a.cell (p:=Addr.mk g1 0 none) (.inr (.inr rfl))];exact b1.at0 rfl
 have it:∀ {A},Kept (L.XS g0 g1) w A→DBP A L D:=fun k=>h.ch (Ch.tc k) fun _ hx hn=>hn (.inl hx)
 refine Calls.mono (P:=Tryd.prog) (iN (.func (.yield l) #[] #[]) (Addr.mk g0 0 none) (Addr.mk g1 0 none) (R:=fun _ B=>(J D.S B∧Kept (L.XS g0 g1) w B)∨∃i,Jx i B∧Kept (L.XS g0 g1) w B) ?_) (fun e B hh=>by obtain⟨v,h1,h2⟩:=hh;exact⟨⟨v,h1⟩,h2⟩)
 refine⟨_,ld0 d0,Calls.mono (nD (it d0)) ?_⟩
 rintro e W ⟨_,rfl,rfl,rfl⟩
 refine⟨_,rfl,?_⟩
 refine⟨fun mz x A=>∃k:Nat,x=(k:Int)∧k≤D.S∧mz=D.S - k∧J k A∧Kept (L.XS g0 g1) w A,⟨_,0,rfl,Nat.zero_le _,rfl,j0,d0⟩,?_⟩
 rintro mz _ _ A ⟨k,rfl,hk,rfl,hj,hd⟩
 refine aH (fun c1=>?_) (fun c1=>?_)
 ·have MV:k<D.S:=by omega
  have Gs:D.has (k:Int)=true:=by simp [DB.has];omega
  have he:D.entry (k:Int)=D.ent k:=by unfold DB.entry DB.at_;rw [if_pos Gs,Int.toNat_natCast]
  have zd:(D.ent k).ok=true:=(h.ok.ent k MV).1
  refine⟨_,ld0 hd,Calls.mono (rK (it hd) (k:Int)) ?_⟩
  rw [he]
  rintro e A1 ⟨_,rfl,rfl,q1⟩
  refine⟨_,_,_,_,_,_,rfl,?_⟩
  refine mkd fun ge A2 m2=>?_
  refine aJ m2.blk rfl fun A3 s3=>?_
  refine mkd fun gs A4 m4=>?_
  refine aJ m4.blk rfl fun A5 s5=>?_
  have n2:=m2.num
  have n4:=m4.num
  have z1:=q1.size
  have z2:=m2.size
  have z3:=s3.ch.size
  have z4:=m4.size
  have z5:=s5.ch.size
  have p5:Pu A A5:=(((q1.made m2).stored s3 (.inr (by omega))).made m4).stored s5 (.inr (by omega))
  have ne:ge≠gs:=by omega
  have be:Blk A5 ge _ _:=s5.old (m4.old s3.blk) ne
  refine⟨_,_,_,_,_,⟨be.at rfl,be.at rfl,be.at rfl,be.at rfl,be.at rfl⟩,Calls.mono (oN _ _ _ _ _) ?_⟩
  rw [show Ent.mk (D.ent k).typ (D.ent k).owner (D.ent k).refs (D.ent k).state (D.ent k).ck=D.ent k from rfl,if_pos zd,if_pos zd,if_pos zd]
  rintro e A6 ⟨_,rfl,rfl,q6⟩
  refine⟨_,_,_,rfl,aI (q6.blk s5.blk) (by simp) fun A7 s7=>?_⟩
  have z6:=q6.size
  have z7:=s7.ch.size
  have be:=s7.old (q6.blk be) ne
  have bs:Blk A7 gs #[.int .u32 (D.ent k).w0,.int .u32 (D.ent k).w1,.bool false,.slice none 0 0] _:=s7.blk
  have p7:Pu A A7:=(p5.trans q6).stored s7 (.inr (by omega))
  have d7:=dQ hd p7
  have j7:=pJ hj p7
  refine⟨fun x B=>x=D.l7 of k∧B=A7,?_,?_⟩
  ·refine⟨_,NC d7,aH (fun h1=>?_) (fun h1=>⟨by unfold DB.l7;rw [decide_eq_false (fun h=>h1 h.1)],rfl⟩)⟩
   refine⟨_,be.at rfl,_,NC d7,bq (fun h2=>?_) (fun h2=>⟨by unfold DB.l7;rw [decide_eq_false (fun h=>h2 h.2.1)],rfl⟩)⟩
   refine⟨_,be.at0 rfl,bq (fun h3=>⟨by unfold DB.l7;rw [decide_eq_true ⟨h1,h2,.inl h3⟩],rfl⟩) (fun h3=>?_)⟩
   refine⟨_,be.at0 rfl,?_,rfl⟩
   unfold DB.l7
   rw [Bool.eq_iff_iff]
   simp [show 0≤of from h1,h2,h3]
  rintro _ _ A7 ⟨rfl,rfl⟩
  have fin:∀(B:World)(A':Option Addr)(n' c':Nat),Pu A B→gJ w.heap.size B A' n' c' (D.bR of k).l→YieldAt Fence.wide 0 Tryd.prog l #[.int .i64 (k:Int),.agg #[.int .u32 (D.ent k).w0,.int .u32 (D.ent k).w1,.bool (D.l7 of k),.slice A' n' c']] B fun e B=>(e= .returned (.bool true)∧J (k+1) B∧Kept (L.XS g0 g1) w B)∨(e= .returned (.bool false)∧Jx (k+1) B∧Kept (L.XS g0 g1) w B):=fun B A' n' c' pB hw=>
   cO (hy k _ B ⟨MV,A',n',c',rfl,hw⟩ (pJ hj pB) (dQ hd pB)) fun e C hC=>hC.imp (fun h=>⟨h.1,h.2.1,(dQ hd pB).trans h.2.2⟩) (fun h=>⟨h.1,h.2.1,(dQ hd pB).trans h.2.2⟩)
  refine aE (fun hh=>?_) (fun hh=>?_)
  ·refine aI bs (by simp) fun A8 s8=>?_
   have b8:Blk A8 gs #[.int .u32 (D.ent k).w0,.int .u32 (D.ent k).w1,.bool true,.slice none 0 0] _:=s8.blk
   refine⟨_,_,_,_,_,_,⟨b8.at rfl,b8.at rfl,b8.at rfl,b8.at rfl⟩,?_⟩
   have hw8:gJ w.heap.size A8 none 0 0 (D.bR of k).l:=⟨fun _=>False,by simp only [DB.bR,hh,if_true];exact Rd.nil,by unfold big;omega,fun _ h=>h.elim⟩
   have hf:=fin A8 none 0 0 (p7.stored s8 (.inr (by omega))) hw8
   rw [hh]at hf
   refine cO hf ?_
   rintro e B (⟨rfl,EF,zS⟩ | ⟨rfl,EF,zS⟩)
   ·exact⟨_,rfl,cv ⟨D.S - (k+1),by omega,k+1,by rw [aM (by omega)];omega,by omega,rfl,EF,zS⟩⟩
   ·exact⟨_,rfl,bK (.inr ⟨_,EF,zS⟩)⟩
  refine⟨_,ld0 d7,Calls.mono (fk (it d7)) ?_⟩
  rintro e A7 ⟨_,rfl,rfl,rfl⟩
  refine⟨_,rfl,Calls.mono (ox (it d7).mem true (k:Int)) ?_⟩
  rintro e A8 ⟨_,rfl,rfl,q8⟩
  refine⟨_,rfl,?_⟩
  refine mkd fun gw A9 m9=>?_
  have n9:=m9.num
  have z8:=q8.size
  have z9:=m9.size
  have hl:=cU D.mem true (k:Int)
  refine⟨by rw [bt,hl],fc,aJ m9.blk (by rw [dX,List.length_map,hl];simp) fun OL Ey=>?_⟩
  have z10:=Ey.ch.size
  have EM:Pu A OL:=((p7.trans q8).made m9).stored Ey (.inr (by omega))
  have bw:Blk OL gw (aW (bL D.mem true (k:Int))) _:=Ey.blk
  have ME:=Ey.old (m9.old (q8.blk bs)) (by omega)
  have d10:=dQ hd EM
  have tail:∀(B:World)(T:TypeId),Blk B gw (aW (D.dS of k)) T→Blk B gs #[.int .u32 (D.ent k).w0,.int .u32 (D.ent k).w1,.bool false,.slice none 0 0] 66→Pu A B→∀R:Ending→World→Prop,
   (∀e C A' c',e=Ending.returned (.slice A' 1024 c')→Blk C gs #[.int .u32 (D.ent k).w0,.int .u32 (D.ent k).w1,.bool false,.slice none 0 0] 66→Pu A C→gJ w.heap.size C A' 1024 c' (D.bR of k).l→R e C)→
   Calls Tryd.prog 41 #[.slice (some (Addr.mk gw 0 none)) 1024 1024] B R:=fun B T hb hbs pB R hR=>by
   refine Calls.mono (qz (tU hb (ng D of k)) (by omega) (by omega)) ?_
   rintro e C ⟨_,rfl,A',c',rfl,ho,qc⟩
   refine hR _ C A' c' rfl (qc.blk hbs) (pB.trans qc) ?_
   obtain⟨gx,cs,_,hgx,hbx,hox⟩:=ho.one (by omega)
   have hgx:B.heap.size≤gx:=hgx
   have hBz:=pB.size
   have hAz:=hd.size
   refine⟨fun k=>k=gx∧k<C.heap.size,?_,by unfold big;omega,fun j hj=>⟨by have:=hj.1;omega,cs,hj.1▸hbx⟩⟩
   have:=hox.rd
   simp only [DB.bR,hh,Bool.false_eq_true,if_false]
   exact this
  refine⟨_,NC d10,bq (fun heq=>?_) (fun xi=>?_)⟩
  ·refine⟨by omega,aI bw (by rw [bt,hl];decide) fun A11 GP=>?_⟩
   have z11:=GP.ch.size
   have OK:=GP.blk
   rw [ic]at OK
   have ew:(bL D.mem true (k:Int)).set (Int.toNat 2*1) 0=D.dS of k:=by unfold DB.dS;rw [if_pos heq];rfl
   rw [ew]at OK
   rintro _ rfl _ rfl _ rfl
   refine tail A11 _ OK (GP.old ME (by omega)) (EM.stored GP (.inr (by omega))) _ ?_
   rintro _ C A' c' rfl Mw pC NG
   refine⟨_,_,_,rfl,aI Mw (by simp) fun C2 zn=>?_⟩
   have Fa:Blk C2 gs #[.int .u32 (D.ent k).w0,.int .u32 (D.ent k).w1,.bool false,.slice A' 1024 c'] _:=zn.blk
   refine⟨_,_,_,_,_,_,⟨Fa.at rfl,Fa.at rfl,Fa.at rfl,Fa.at rfl⟩,?_⟩
   have hf:=fin C2 A' 1024 c' (pC.stored zn (.inr (by omega))) (NG.ch zn.ch fun j hj _ cs hb=>by subst hj;have:=(Mw.inj hb).2;revert this;decide)
   rw [hh]at hf
   refine cO hf ?_
   rintro e B (⟨rfl,EF,zS⟩ | ⟨rfl,EF,zS⟩)
   ·exact⟨_,rfl,cv ⟨D.S - (k+1),by omega,k+1,by rw [aM (by omega)];omega,by omega,rfl,EF,zS⟩⟩
   ·exact⟨_,rfl,bK (.inr ⟨_,EF,zS⟩)⟩
  ·rintro _ rfl _ rfl _ rfl
   have ew:bL D.mem true (k:Int)=D.dS of k:=by unfold DB.dS;rw [if_neg xi]
   rw [ew]at bw
   refine tail OL _ bw ME EM _ ?_
   rintro _ C A' c' rfl Mw pC NG
   refine⟨_,_,_,rfl,aI Mw (by simp) fun C2 zn=>?_⟩
   have Fa:Blk C2 gs #[.int .u32 (D.ent k).w0,.int .u32 (D.ent k).w1,.bool false,.slice A' 1024 c'] _:=zn.blk
   refine⟨_,_,_,_,_,_,⟨Fa.at rfl,Fa.at rfl,Fa.at rfl,Fa.at rfl⟩,?_⟩
   have hf:=fin C2 A' 1024 c' (pC.stored zn (.inr (by omega))) (NG.ch zn.ch fun j hj _ cs hb=>by subst hj;have:=(Mw.inj hb).2;revert this;decide)
   rw [hh]at hf
   refine cO hf ?_
   rintro e B (⟨rfl,EF,zS⟩ | ⟨rfl,EF,zS⟩)
   ·exact⟨_,rfl,cv ⟨D.S - (k+1),by omega,k+1,by rw [aM (by omega)];omega,by omega,rfl,EF,zS⟩⟩
   ·exact⟨_,rfl,bK (.inr ⟨_,EF,zS⟩)⟩
 ·exact .inl ⟨by rw [show D.S=k by omega];exact hj,hd⟩
end
section
set_option maxRecDepth 10000
def DB.rB(D:DB):List (List U32):=(List.range D.mem.I).map fun p:Nat=>(bL D.mem false p).map U32.mk
def DB.sU(D:DB)(of:Int):List SnV:=(List.range D.S).map (D.bR of)
theorem l6 {D:DB} {k:Nat}(h:k<D.mem.I):D.rB.getD k []=(bL D.mem false k).map U32.mk:=by
 unfold DB.rB
 rw [List.getD_eq_getElem?_getD,List.getElem?_map,List.getElem?_range h];rfl
theorem rb {D:DB} {of:Int} {k:Nat}(h:k<D.S):(D.sU of)[k]? =some (D.bR of k):=by
 unfold DB.sU
 rw [List.getElem?_map,List.getElem?_range h];rfl
theorem wc:SN Tryd.prog 24 47 (.slice none 0 0) 1 24:=s1L.sn
theorem v8:SN Tryd.prog 25 66 (.agg #[.int .u32 0,.int .u32 0,.bool false,.slice none 0 0]) 4 40:=SN.of (by kernel_rfl) (by kernel_rfl) (by rfl) (by omega)
set_option maxHeartbeats 2000000 in
theorem vZ {w:World} {g:Nat} {r:Rg} {L:dL} {D:DB}(h:fU w g r L D)(b:Int):
 Calls Tryd.prog 24 #[.pointer (some (Addr.mk g 0 none)),.int .i64 b] w fun e w'=>∃v,e= .returned v∧∃A c A' c',v= .agg (bU D.aO r A D.mem.I c A' D.S c')∧(∃Z,LL w' Z A D.mem.I c D.rB)∧(∃Z,PL w' Z A' D.S c' (D.sU (D.findF b)))∧Pu w w':=by
 have BX:=h.db.S64
 have hI64:D.mem.I≤64:=h.db.mem.most.2
 refine nP _ _ ?_
 refine mkd fun gv w1 m1=>?_
 have z0:=m1.size
 have n0:=m1.num
 refine(wk (h.pu m1.pu)).mono ?_
 rintro e w1 ⟨_,rfl,rfl,rfl⟩
 refine⟨_,rfl,(tx (h.pu m1.pu).db).mono ?_⟩
 rintro e w1 ⟨_,rfl,rfl,rfl⟩
 refine⟨_,rfl,(lZ (h.pu m1.pu)).mono ?_⟩
 rintro e w3 ⟨_,rfl,rfl,q3⟩
 have z3:=q3.size
 refine⟨_,_,_,_,_,_,_,_,_,_,_,_,_,_,_,rfl,?_⟩
 refine mkd fun wD w4 m4=>?_
 have z4:=m4.size
 have n4:=m4.num
 refine aJ m4.blk rfl fun w5 s5=>?_
 have z5:=s5.ch.size
 have p5:Pu w w5:=(((show Pu w w1 from m1.pu).trans q3).made m4).stored s5 (.inr (by omega))
 have b0:Blk w5 gv (bU 0 Rg.zero none 0 0 none 0 0) 27:=s5.old (m4.old (q3.blk m1.blk)) (by omega)
 have b1:Blk w5 wD (bU D.aO r none 0 0 none 0 0) 27:=s5.blk
 refine(fk (h.pu p5).db).mono ?_
 rintro e w5 ⟨_,rfl,rfl,rfl⟩
 refine⟨_,rfl,(pP (h.pu p5).db.mem).mono ?_⟩
 rintro e w5 ⟨_,rfl,rfl,rfl⟩
 refine⟨_,rfl,?_⟩
 have FO:=h.db.lt
 have zz:w.heap.size≤w5.heap.size:=p5.size
 refine⟨fun mz x W=>∃k:Nat,x=(k:Int)∧k≤D.mem.I∧mz=D.mem.I - k∧Pu w W∧w5.heap.size≤W.heap.size∧Blk W gv (bU 0 Rg.zero none 0 0 none 0 0) 27∧
  ∃A C hs,∃Zl Zw:Nat→Prop,Blk W wD (bU D.aO r A k C none 0 0) 27∧Own W Zl 47 A k C hs∧(∀j,Zl j→w5.heap.size≤j∧j<W.heap.size)∧(∀j,Zw j→w5.heap.size≤j∧j<W.heap.size∧¬Zl j)∧∀(j:Nat)(y:Hd),hs[j]? =some y→j<k∧Rd W Zw y.A y.n y.c ((bL D.mem false j).map U32.mk)∧y.n<big,
  ⟨_,0,rfl,Nat.zero_le _,rfl,p5,Nat.le_refl _,b0,none,0,[],fun _=>False,fun _=>False,b1,Own.nil,fun _ h=>h.elim,fun _ h=>h.elim,fun j y hy=>by simp at hy⟩,?_⟩
 rintro mz _ _ w8 ⟨k,rfl,hk,rfl,p8,z8,b0,A,C,hs,Zl,Zw,b1,ho,Gy,G1,N5⟩
 refine aH (fun c1=>?_) (fun c1=>?_)
 ·have hkI:k<D.mem.I:=by omega
  refine(fk (h.pu p8).db).mono ?_
  rintro e w8 ⟨_,rfl,rfl,rfl⟩
  refine⟨_,rfl,(ox (h.pu p8).db.mem false (k:Int)).mono ?_⟩
  rintro e Ex ⟨_,rfl,rfl,zN⟩
  have z10:=zN.size
  refine⟨_,rfl,?_⟩
  refine mkd fun wV zt m11=>?_
  have z11:=m11.size
  have n11:=m11.num
  have hl:=cU D.mem false (k:Int)
  refine⟨by rw [bt,hl],fc,aJ m11.blk (by rw [dX,List.length_map,hl];simp) fun xF zn=>?_⟩
  have z12:=zn.ch.size
  have z12':xF.drew.heap.size=xF.heap.size:=rfl
  have bw:Blk xF wV (aW (bL D.mem false (k:Int))) _:=zn.blk
  have zM:Pu w8 xF.drew:=((zN.made m11).stored zn (.inr (by omega))).trans (Pu.aG _)
  have GK:=zM.blk b1
  have EN:=b1.lt
  have BD:((Addr.mk wD 0 none).add 16).block<xF.drew.heap.size:=by rw [block_add];show wD<_;omega
  refine⟨fun _ k=>k<xF.drew.heap.size,BD,_,_,_,GK.at rfl,?_⟩
  rintro _ rfl _ rfl _ rfl
  refine Calls.mono (qz (tU bw.drew hl) (by omega) (by omega)) ?_
  rintro e yU ⟨_,rfl,A2,c2,rfl,o2,Bj⟩
  have z13:=Bj.size
  refine⟨_,_,_,rfl,aT Bj (fun _ h=>h.elim) (Nat.le_refl _),fun _ k=>k<xF.drew.heap.size,fun _ _ h=>h,?_⟩
  refine mkd fun xU zm m14=>?_
  have z14:=m14.size
  have n14:=m14.num
  refine⟨aT m14.pu (fun _ h=>h.elim) z13,fun _ k=>k<xF.drew.heap.size,fun _ _ h=>h,?_⟩
  have yI:Pu w8 zm:=(zM.trans Bj).made m14
  have NT:=(ho.pu yI).mono (Y:=fun j=>Zl j∨j=zm.heap.size) fun j hj=>.inl hj
  refine Own.app NT wc m14.blk (x:=⟨A2,1024,c2⟩) rfl (by omega) (by omega) (.inr rfl) fun A3 c3 Bu o3 AU=>?_
  have z15:=AU.size
  refine⟨fun _ k=>k<xF.drew.heap.size,fun _ _ h=>h,?_⟩
  have hnl:∀j,(Zl j∨j=zm.heap.size)→j≠wD:=fun j hj e=>hj.elim (fun hj=>by have:=(Gy j hj).1;omega) (fun hj=>by omega)
  have NV:∀j,(Zl j∨j=zm.heap.size)→j≠gv:=fun j hj e=>hj.elim (fun hj=>by have:=(Gy j hj).1;omega) (fun hj=>by omega)
  refine aI (AU.blk (yI.blk b1) fun hx=>hnl _ hx rfl) (by simp) fun GO Bv=>?_
  have z16:=Bv.ch.size
  refine⟨fun _ k=>k<xF.drew.heap.size,fun _ _ h=>h,D.mem.I - (k+1),by omega,k+1,by rw [aM (by omega)];omega,by omega,rfl,?_,by omega,?_,?_⟩
  ·exact((p8.trans yI).call AU fun j hj=>.inr (hj.elim (fun hj=>by have:=(Gy j hj).1;omega) (fun hj=>by omega))).stored Bv (.inr (by omega))
  ·exact Bv.old (AU.blk (yI.blk b0) fun hx=>NV _ hx rfl) (by omega)
  obtain⟨gl,cs,hAl,Mo,G0,NS⟩:=o3.one (by omega)
  have hbl':=G0.lt
  have Mn:w5.heap.size≤gl:=Mo.elim (fun hj=>(Gy gl hj).1) (fun hj=>by omega)
  refine⟨A3,c3,_,fun j=>j=gl,fun j=>Zw j∨(xF.heap.size≤j∧j<yU.heap.size),Bv.blk,NS.ch Bv.ch (fun j hj e=>by omega),fun j hj=>by omega,fun j hj=>?_,fun j y hy=>?_⟩
  ·rcases hj with hj | hj
   ·have:=G1 j hj
    refine⟨this.1,by omega,fun e=>?_⟩
    subst e
    exact Mo.elim this.2.2 (fun e=>by omega)
   ·refine⟨by omega,by omega,fun e=>?_⟩
    subst e
    exact Mo.elim (fun hx=>by have:=(Gy _ hx).2;omega) (fun e=>by omega)
  ·have hlh:=ho.len
   have GR:∀j,Zw j∨(xF.heap.size≤j∧j<yU.heap.size)→j<GO.heap.size:=fun j hj=>hj.elim (fun hj=>by have:=(G1 j hj).2.1;omega) (fun hj=>by omega)
   by_cases hj:j<k
   ·rw [List.getElem?_append_left (by omega)]at hy
    obtain⟨g1,g2,g3⟩:=N5 j y hy
    refine⟨by omega,?_,g3⟩
    have r1:Rd Bu Zw y.A y.n y.c ((bL D.mem false j).map U32.mk):=(g2.pu yI).ch AU fun i hi hx=>hx.elim (G1 i hi).2.2 (fun e=>by have:=(G1 i hi).2.1;omega)
    exact(r1.ch Bv.ch fun i hi e=>by have:=(G1 i hi).1;omega).mono (fun i hi=>.inl hi) GR
   ·have Gr:j=k:=by
     have:=(List.getElem?_eq_some_iff.1 hy).1
     rw [List.length_append]at this
     simp only [List.length_cons,List.length_nil]at this
     omega
    subst Gr
    rw [List.getElem?_append_right (by omega),hlh,Nat.sub_self]at hy
    simp only [List.getElem?_cons_zero,Option.some.injEq]at hy
    subst hy
    refine⟨by omega,?_,by unfold big;show 1024<_;omega⟩
    have r1:=o2.rd
    have r2:Rd Bu (fun k=>xF.drew.heap.size≤k∧k<yU.heap.size) A2 1024 c2 ((bL D.mem false j).map U32.mk):=(r1.pu m14.pu).ch AU fun i hi hx=>hx.elim (fun hx=>by have:=(Gy i hx).2;have:=hi.1;omega) (fun e=>by have:=hi.2;omega)
    exact(r2.ch Bv.ch fun i hi e=>by have:=hi.1;omega).mono (fun i hi=>.inr hi) GR
 have hkI:k=D.mem.I:=by omega
 subst hkI
 refine(uo (h.pu p8).db b).mono ?_
 rintro e w9 ⟨_,rfl,rfl,q9⟩
 have z9:=q9.size
 refine⟨_,rfl,(um _ _).mono ?_⟩
 rintro e Ex ⟨_,rfl,g0,g1,T0,T1,rfl,c0,c1,⟨hg0,EN⟩,zN⟩
 have z10:=zN.size
 refine⟨_,rfl,_,_,rfl,by kernel_rfl,?_⟩
 intro l dl zt hdl hl k11 hl11 hdo
 have E1:Pu Ex zt:=⟨k11.mono fun _ h=>h.1⟩
 have z11:=E1.size
 have c0l:=c0.lt
 have c1l:=c1.lt
 have Gj:Pu w zt:=((p8.trans q9).trans zN).trans E1
 have E0:Pu w8 zt:=(q9.trans zN).trans E1
 have Of:=(h.pu Gj).db
 have hX:∀k,L.XS g0 g1 k→k<Ex.heap.size:=fun k hk=>hk.elim (fun hx=>by have:=FO k hx;omega) (fun e=>e.elim (fun e=>e▸c0l) (fun e=>e▸c1l))
 have BV:∀k,L.XS g0 g1 k∨k=l→k<w.heap.size∨(w9.heap.size≤k∧k<zt.heap.size):=fun k hk=>hk.elim (fun hx=>hx.elim (fun hx=>.inl (FO k hx)) (fun e=>e.elim (fun e=>.inr (by omega)) (fun e=>.inr (by omega)))) (fun e=>.inr (by omega))
 obtain⟨of,hof⟩:∃of,of=D.findF b:=⟨_,rfl⟩
 rw [← hof]at c1 ⊢
 have hg0v:=b0.lt
 have hg1v:=b1.lt
 have nv:gv<w5.heap.size∧wD<w5.heap.size∧w.heap.size≤gv∧w.heap.size≤wD:=⟨by omega,by omega,by omega,by omega⟩
 have EI:∀j,Zl j→j<w9.heap.size∧w5.heap.size≤j:=fun j hj=>by have:=Gy j hj;omega
 have My:∀j,Zw j→j<w9.heap.size∧w5.heap.size≤j:=fun j hj=>by have:=G1 j hj;omega
 have Oj:∀k,L.XS g0 g1 k∨k=l→k≠dl:=fun k hk e=>hk.elim (fun hx=>by have:=hX k hx;omega) (fun e2=>by omega)
 let J:Nat→World→Prop:=fun i W=>Ch (L.XS g0 g1) w W∧zt.heap.size≤W.heap.size∧Blk W gv (bU 0 Rg.zero none 0 0 none 0 0) 27∧W.heap[dl]? =some (.deferred (some []))∧Rd W (fun k=>Zl k∧k<w8.heap.size) A D.mem.I C hs∧
  (∀(j:Nat)(y:Hd),hs[j]? =some y→Rd W Zw y.A y.n y.c ((bL D.mem false j).map U32.mk))∧
  ∃A2 C2 xs,∃Z2:Nat→Prop,Blk W wD (bU D.aO r A D.mem.I C A2 i C2) 27∧Own W Z2 66 A2 i C2 xs∧(∀j,Z2 j→zt.heap.size≤j∧∃cs,Blk W j cs 66)∧
   ∀(j:Nat)(x:Sn),xs[j]? =some x→j<i∧(D.bR of j).e0=x.e0∧(D.bR of j).e1=x.e1∧(D.bR of j).hid=x.hid∧gJ zt.heap.size W x.A x.n x.c (D.bR of j).l
 have Jch:∀ {i:Nat} {U V:World},J i U→Ch (fun k=>L.XS g0 g1 k∨k=l) U V→J i V:=fun {i U V} hJ q=>by
  obtain⟨a1,a2,a3,a4,a5,a6,A2,C2,xs,Z2,a7,a8,a9,MG⟩:=hJ
  have hn:∀k,w5.heap.size≤k→k<w9.heap.size→¬(L.XS g0 g1 k∨k=l):=fun k h1 h2 hk=>(BV k hk).elim (fun h=>by omega) (fun h=>by omega)
  have hv:∀k,k=gv∨k=wD→¬(L.XS g0 g1 k∨k=l):=fun k h1 hk=>(BV k hk).elim (fun h=>by omega) (fun h=>by omega)
  refine⟨a1.call q fun k hk=>hk.elim .inl fun e=>.inr (by omega),Nat.le_trans a2 q.size,q.blk a3 (hv _ (.inl rfl)),q.obj a4 (fun hk=>Oj _ hk rfl),a5.ch q fun k hk=>hn k (EI k hk.1).2 (EI k hk.1).1,fun j y hy=>(a6 j y hy).ch q fun k hk=>hn k (My k hk).2 (My k hk).1,A2,C2,xs,Z2,q.blk a7 (hv _ (.inr rfl)),a8.ch q fun k hk hx=>?_,fun j hj=>?_,fun j x hx=>?_⟩
  ·have:=(a9 k hk).1
   exact(BV k hx).elim (fun h=>by omega) (fun h=>by omega)
  ·obtain⟨h1,cs,h2⟩:=a9 j hj
   exact⟨h1,cs,q.blk h2 fun hx=>(BV j hx).elim (fun h=>by omega) (fun h=>by omega)⟩
  ·obtain⟨h1,h2,h3,h4,h5⟩:=MG j x hx
   exact⟨h1,h2,h3,h4,h5.ch q fun k hk hb cs _=>(BV k hk).elim (fun h=>by omega) (fun h=>by omega)⟩
 have sJ:mu (L.XS g0 g1) l J:=sK fun i A B hj q=>Jch hj q
 have lt8:∀k,(Zl k∧k<w8.heap.size)→k<w8.heap.size:=fun k hk=>hk.2
 have rd0:Rd w8 (fun k=>Zl k∧k<w8.heap.size) A D.mem.I C hs:=ho.rd
 refine⟨nm zt.heap.size D of,L.XS g0 g1,_,J,fun _ _=>False,fun _ _ _=>False,qO Of (E1.blk c0) (E1.blk c1),hX,?_,⟨sJ,fun _ _ _ h _=>h,fun _ _ _ _ h _=>h⟩,Kept.refl _ _,?_,?_,?_,fun _ _ h _=>h.elim,trivial⟩
 ·rintro i x W ⟨_,A',n',c',rfl,_⟩
  exact⟨_,_,_,_,_,_,_,rfl⟩
 ·exact⟨Gj.mono fun _ h=>h.elim,Nat.le_refl _,E0.blk b0,hdo,rd0.pu E0,fun j y hy=>(N5 j y hy).2.1.pu E0,none,0,[],fun _=>False,E0.blk b1,Own.nil,fun _ h=>h.elim,fun j x hx=>by simp at hx⟩
 ·rintro i U hJ hD Ar xa xb xc xA xN xC ⟨hiS,A',n',c',hx,hwd⟩
  simp only [List.cons.injEq,Value.agg.injEq,Array.mk.injEq,Value.int.injEq,Value.bool.injEq,Value.slice.injEq,true_and,and_true]at hx
  obtain⟨_,rfl,rfl,rfl,rfl,rfl,rfl⟩:=hx
  have szU:zt.heap.size≤U.heap.size:=hJ.2.1
  refine mkd fun wV yU m13=>?_
  have n13:=m13.num
  have z13:=m13.size
  refine aJ m13.blk rfl fun zm Nw=>?_
  have z14:=Nw.ch.size
  have yI:Pu U zm:=(show Pu U yU from m13.pu).stored Nw (.inr (by omega))
  have xS:∀k,L.XS g0 g1 k∨k=l→k<U.heap.size:=fun k hk=>(BV k hk).elim (fun h=>by omega) (fun h=>by omega)
  refine⟨yI.dQ xS,fun xF k12=>?_⟩
  have zM:Ch (fun k=>k=l) zm xF:=⟨k12⟩
  have z12:=zM.size
  have qa:Ch (fun k=>k=l) U xF:=(yI.mono fun _ h=>h.elim).trans zM
  have b3:Blk xF wV #[.int .u32 (D.bR of i).e0,.int .u32 (D.bR of i).e1,.bool (D.bR of i).hid,.slice xA xN xC] _:=zM.blk Nw.blk (by omega)
  have NH:gJ zt.heap.size xF xA xN xC (D.bR of i).l:=(hwd.pu yI).ch zM fun k hk hb cs _=>by omega
  obtain⟨a1,a2,a3,a4,a5,a6,A2,C2,xs,Z2,a7,a8,a9,MG⟩:=Jch hJ (qa.mono fun k hk=>.inr hk)
  refine⟨_,_,_,a7.at rfl,_,_,_,_,_,_,⟨b3.at rfl,b3.at rfl,b3.at rfl,b3.at rfl⟩,?_⟩
  refine mkd fun xU Bu m15=>?_
  have n15:=m15.num
  have z15:=m15.size
  have BS:=a8.len
  have GR:∀j,Z2 j∨j=Bu.heap.size→zt.heap.size≤j:=fun j hj=>hj.elim (fun hj=>(a9 j hj).1) (fun hj=>by omega)
  refine Own.app ((a8.pu m15.pu).mono (Y:=fun j=>Z2 j∨j=Bu.heap.size) fun j hj=>.inl hj) v8 m15.blk (x:=⟨(D.bR of i).e0,(D.bR of i).e1,(D.bR of i).hid,xA,xN,xC⟩) rfl (by omega) (by omega) (.inr rfl) fun A3 c3 GO o3 LO=>?_
  have z16:=LO.size
  have NW:¬(Z2 wD∨wD=Bu.heap.size):=fun hj=>by have:=GR _ hj;omega
  refine aI (LO.blk (m15.old a7) NW) (by simp) fun Nv LJ=>?_
  have z17:=LJ.ch.size
  have qT:Ch (fun k=>(Z2 k∨k=Bu.heap.size)∨k=wD) xF Nv:=((m15.pu.mono fun _ h=>h.elim).call LO fun k hk=>.inl (.inl hk)).stored LJ (.inl (.inr rfl))
  have GX:∀k,((Z2 k∨k=Bu.heap.size)∨k=wD)→zt.heap.size≤k∨k=wD:=fun k hk=>hk.imp (GR k) id
  refine⟨qT.dQ fun k hk=>⟨by have:=xS k hk;omega,fun hx=>(GX k hx).elim (fun h=>(BV k hk).elim (fun h=>by omega) (fun h=>by omega)) (fun h=>(BV k hk).elim (fun h=>by omega) (fun h=>by omega))⟩,?_⟩
  obtain⟨gl,cs,hAl,Mo,G0,NS⟩:=o3.one (by omega)
  have Mn:=GR gl Mo
  have hT:∀k,((Z2 k∨k=Bu.heap.size)∨k=wD)→zt.heap.size≤k→∀cs,¬Blk xF k cs 22:=fun k hk hb cs hc=>by
   rcases hk with(hk | hk) | hk
   ·obtain⟨_,cs2,Cg⟩:=a9 k hk
    have:=(hc.inj Cg).2
    revert this;decide
   ·have:=hc.lt;omega
   ·omega
  refine⟨(a1.call qT fun k hk=>.inr ((GX k hk).elim (fun h=>by omega) (fun h=>by omega))),by omega,qT.blk a3 (fun hx=>(GX _ hx).elim (fun h=>by omega) (fun h=>by omega)),?_,a5.ch qT (fun k hk hx=>(GX k hx).elim (fun h=>by have:=EI k hk.1;omega) (fun h=>by have:=EI k hk.1;omega)),fun j y hy=>(a6 j y hy).ch qT (fun k hk hx=>(GX k hx).elim (fun h=>by have:=My k hk;omega) (fun h=>by have:=My k hk;omega)),A3,c3,_,fun k=>k=gl,LJ.blk,NS.ch LJ.ch (fun k hk e=>by omega),fun j hj=>?_,fun j x hx=>?_⟩
  ·exact qT.obj a4 fun hx=>(GX _ hx).elim (fun h=>by omega) (fun h=>by omega)
  ·subst hj
   exact⟨Mn,cs,LJ.old G0 (by omega)⟩
  ·by_cases hj:j<i
   ·rw [List.getElem?_append_left (by omega)]at hx
    obtain⟨h1,h2,h3,h4,h5⟩:=MG j x hx
    exact⟨by omega,h2,h3,h4,h5.ch qT hT⟩
   ·have Cf:j=i:=by
     have:=(List.getElem?_eq_some_iff.1 hx).1
     rw [List.length_append]at this
     simp only [List.length_cons,List.length_nil]at this
     omega
    subst Cf
    rw [List.getElem?_append_right (by omega),BS,Nat.sub_self]at hx
    simp only [List.getElem?_cons_zero,Option.some.injEq]at hx
    subst hx
    exact⟨by omega,rfl,rfl,rfl,NH.ch qT hT⟩
 ·rintro W ⟨a1,a2,a3,a4,a5,a6,A2,C2,xs,Z2,a7,a8,a9,MG⟩ hD
  have pW:Pu w W:=Pu.join Gj hD a1
  have a7:Blk W wD (bU D.aO r A D.mem.I C A2 D.S C2) 27:=a7
  have a8:Own W Z2 66 A2 D.S C2 xs:=a8
  refine⟨_,_,_,_,_,_,_,_,_,_,_,_,_,_,_,_,_,_,_,_,_,_,⟨a7.at rfl,a7.at rfl,a7.at rfl,a7.at rfl,a7.at rfl,a7.at rfl,a7.at rfl,a7.at rfl,a7.at rfl,a7.at rfl,a7.at rfl,a7.at rfl,a7.at rfl,a7.at rfl,a7.at rfl,a7.at rfl,a7.at rfl,a7.at rfl⟩,?_⟩
  refine aJ a3 rfl fun GN LI=>?_
  have z18:=LI.ch.size
  have b18:Blk GN gv (bU D.aO r A D.mem.I C A2 D.S C2) 27:=LI.blk
  have qp:Ch (fun k=>k=dl) GN (GN.putObj dl (.deferred none)):=Pu.put _ _ _ _ rfl
  have zp:=qp.size
  have zX:=qp.blk b18 (by omega)
  refine⟨?_,?_⟩
  ·exact LI.ch.obj a4 (by omega)
  refine⟨_,_,_,_,_,_,_,_,_,_,_,_,_,_,_,_,_,_,_,_,_,_,⟨zX.at rfl,zX.at rfl,zX.at rfl,zX.at rfl,zX.at rfl,zX.at rfl,zX.at rfl,zX.at rfl,zX.at rfl,zX.at rfl,zX.at rfl,zX.at rfl,zX.at rfl,zX.at rfl,zX.at rfl,zX.at rfl,zX.at rfl,zX.at rfl⟩,?_⟩
  have qW:Ch (fun k=>k=gv∨k=dl) W (GN.putObj dl (.deferred none)):=(LI.ch.mono fun _ h=>.inl h).call qp fun k hk=>.inl (.inr hk)
  have zW:=qW.size
  refine⟨A,C,A2,C2,rfl,⟨fun k=>k<(GN.putObj dl (.deferred none)).heap.size,?_⟩,⟨fun k=>k<(GN.putObj dl (.deferred none)).heap.size,?_⟩,(pW.stored LI (.inr (by omega))).call qp fun k hk=>.inr (by omega)⟩
  ·refine⟨by unfold DB.rB;simp,by unfold big;omega,hs,(a5.ch qW fun k hk hx=>by have:=EI k hk.1;omega).mono (fun k hk=>by have:=a5.lt k hk;omega) (fun _ h=>h),fun j y hy=>?_⟩
   obtain⟨h1,_,h3⟩:=N5 j y hy
   have h2:=a6 j y hy
   rw [l6 h1]
   exact⟨(h2.ch qW fun k hk hx=>by have:=My k hk;omega).mono (fun k hk=>by have:=h2.lt k hk;omega) (fun _ h=>h),h3⟩
  ·have hr:=a8.rd
   refine⟨by unfold DB.sU;simp,by unfold big;omega,xs,(hr.ch qW fun k hk hx=>by have:=(a9 k hk.1).1;omega).mono (fun k hk=>by have:=hk.2;omega) (fun _ h=>h),fun j x hx=>?_⟩
   obtain⟨h1,h2,h3,h4,Z,h5,h6,h7⟩:=MG j x hx
   refine⟨D.bR of j,rb h1,h2,h3,h4,(h5.ch qW fun k hk hx=>by have:=(h7 k hk).1;omega).mono (fun k hk=>by have:=h5.lt k hk;omega) (fun _ h=>h),h6⟩
end
section
set_option maxRecDepth 10000
theorem kN {f:Nat→ByteArray}:∀ {n:Nat},cQ f n=emp↔∀j,j<n→f j=emp
 | 0=>⟨fun _ j hj=>absurd hj (by omega),fun _=>rfl⟩
 | n+1=>by
  refine⟨fun h j hj=>?_,fun h=>cx h⟩
  rw [cQ]at h
  split at h
  ·rename_i h0
   rcases Nat.lt_succ_iff_lt_or_eq.1 hj with hj | rfl
   ·exact kN.1 h0 j hj
   ·exact h
  ·rename_i h0;exact absurd h h0
section
variable {w:World} {Z1 Z2 Z3 Z4:Nat→Prop} {A A' B B':Option Addr} {n c n' c' m d m' d':Nat}
theorem qZ {aa ab ba bb:Int} {I J:List (List U32)} {S T:List SnV}(hi:LL w Z1 A n c I)(hp:PL w Z2 A' n' c' S)(gi:LL w Z3 B m d J)(gp:PL w Z4 B' m' d' T):
 Calls Tryd.prog 11 #[.agg #[.int .u32 aa,.int .u32 ab,.slice A n c,.slice A' n' c'],.agg #[.int .u32 ba,.int .u32 bb,.slice B m d,.slice B' m' d']] w fun e w'=>∃v,e= .returned v∧
  v= .bool (decide (aa=ba∧ab=bb∧I.length=J.length∧S.length=T.length∧(∀j,j<I.length→cP (I.getD j []) (J.getD j [])=emp)∧∀j,j<S.length→dz (S.getD j sn0) (T.getD j sn0)=emp))∧Pu w w':=by
 have li:=hi.len
 have lj:=gi.len
 have lp:=hp.len
 have lq:=gp.len
 have ti:=hi.lt
 have tp:=hp.lt
 unfold big at ti tp
 refine iW _ _ _ _ _ _ _ _ _ _ _ _ _ _ _ _ ?_
 refine mkd fun gv wv m0=>?_
 refine mkd fun wD wC m1=>?_
 have b0:=m1.old m0.blk
 have b1:=m1.blk
 have q:Pu w wC:=(show Pu w wv from m0.pu).made m1
 obtain⟨r,hr⟩:∃r,r=decide (aa=ba∧ab=bb∧I.length=J.length∧S.length=T.length∧(∀j,j<I.length→cP (I.getD j []) (J.getD j [])=emp)∧∀j,j<S.length→dz (S.getD j sn0) (T.getD j sn0)=emp):=⟨_,rfl⟩
 rw [← hr]
 refine⟨fun x w2=>x=(! decide (aa=ba∧ab=bb∧I.length=J.length∧S.length=T.length))∧w2=wC,?_,?_⟩
 ·refine⟨_,b0.at rfl,_,b1.at rfl,aU (fun h1=>⟨by simp [h1],rfl⟩) (fun h1=>?_)⟩
  refine⟨_,b0.at rfl,_,b1.at rfl,aU (fun h2=>⟨by simp [h2],rfl⟩) (fun h2=>?_)⟩
  refine⟨_,_,_,b0.at rfl,_,_,_,b1.at rfl,aU (fun h3=>⟨by simp [show ¬I.length=J.length by omega],rfl⟩) (fun h3=>?_)⟩
  refine⟨_,_,_,b0.at rfl,_,_,_,b1.at rfl,?_,rfl⟩
  rw [Bool.eq_iff_iff]
  simp [h1,h2,show I.length=J.length by omega,lp,lq]
  omega
 rintro _ _ wC ⟨rfl,rfl⟩
 refine eI (fun xi=>⟨?_,q⟩) (fun heq=>?_)
 ·rw [hr]
  refine congrArg Value.bool (Eq.symm (decide_eq_false ?_))
  exact fun h=>xi ⟨h.1,h.2.1,h.2.2.1,h.2.2.2.1⟩
 obtain⟨h1,h2,h3,h4⟩:=heq
 rintro _ rfl
 refine⟨fun mz i w3=>∃k:Nat,i=(k:Int)∧k≤n∧mz=n - k∧(∀j,j<k→cP (I.getD j []) (J.getD j [])=emp)∧Pu wC w3,⟨_,0,rfl,Nat.zero_le _,rfl,fun j hj=>absurd hj (by omega),Ch.refl _ _⟩,?_⟩
 rintro mz _ _ w3 ⟨k,rfl,hk,rfl,hs,q4⟩
 have d0:=q4.blk b0
 have d1:=q4.blk b1
 have q5:=q.trans q4
 refine⟨_,_,_,d0.at rfl,aH (fun BE=>?_) (fun BE=>?_)⟩
 ·have zq:k<n:=by omega
  have q6:Pu w w3.drew:=q5.trans (Pu.aG w3)
  obtain⟨p,A1,n1,OJ,Y,hA,E7,hc,E6,hn⟩:=(hi.pu q6).at (i:=k) zq
  obtain⟨p',A2,n2,OC,Y2,yz,Bz,BW,xT,BU⟩:=(gi.pu q6).at (i:=k) (by omega)
  have BD:∀i:Nat,((Addr.mk gv 0 none).add i).block<w3.drew.heap.size:=fun i=>by rw [block_add];exact d0.lt
  have BC:∀i:Nat,((Addr.mk wD 0 none).add i).block<w3.drew.heap.size:=fun i=>by rw [block_add];exact d1.lt
  refine⟨fun _ k=>k<w3.drew.heap.size,BD _,_,_,_,d0.drew.at rfl,by omega,aw p hA ⟨by rw [block_add];exact E7,_,_,_,hc,BC _,_,_,_,d1.drew.at rfl,by omega,aw p' yz ⟨by rw [block_add];exact Bz,_,_,_,BW,?_⟩⟩⟩
  refine Calls.mono (ik E6 xT hn) ?_
  rintro e w4 ⟨_,rfl,rfl,q7⟩
  refine⟨_,rfl,aT q7 (fun _ h=>h.elim) (Nat.le_refl _),fun _ k=>k<w3.drew.heap.size,fun _ _ h=>h,?_⟩
  refine cm (fun xi=>⟨?_,q6.trans q7⟩) (fun he=>?_)
  ·rw [hr]
   refine congrArg Value.bool (Eq.symm (decide_eq_false ?_))
   exact fun h=>xi (h.2.2.2.2.1 k (by omega))
  rintro _ rfl
  refine⟨n - (k+1),by omega,k+1,by rw [aM (by omega)];omega,by omega,rfl,fun j hj=>?_,(q4.trans (Pu.aG w3)).trans q7⟩
  rcases Nat.lt_succ_iff_lt_or_eq.1 hj with hj | rfl
  ·exact hs j hj
  ·exact he
 have hA:∀j,j<I.length→cP (I.getD j []) (J.getD j [])=emp:=fun j hj=>hs j (by omega)
 rintro _ rfl
 refine⟨fun mz i w4=>∃k:Nat,i=(k:Int)∧k≤n'∧mz=n' - k∧(∀j,j<k→dz (S.getD j sn0) (T.getD j sn0)=emp)∧Pu w3 w4,⟨_,0,rfl,Nat.zero_le _,rfl,fun j hj=>absurd hj (by omega),Ch.refl _ _⟩,?_⟩
 rintro mz _ _ w4 ⟨k,rfl,hk,rfl,EC,q6⟩
 have e0:=q6.blk d0
 have e1:=q6.blk d1
 have q7:=q5.trans q6
 refine⟨_,_,_,e0.at rfl,aH (fun BE=>?_) (fun BE=>?_)⟩
 ·have zq:k<n':=by omega
  have q8:Pu w w4.drew:=q7.trans (Pu.aG w4)
  obtain⟨p,x,Y,A1,n1,OJ,yz,E7,hx,FX,FW,Cg,yR,E6,hn⟩:=(hp.pu q8).at (i:=k) zq
  obtain⟨p',y,Y2,A2,n2,OC,Ow,Bz,hy,FU,hd1,Mu,FT,xT,BU⟩:=(gp.pu q8).at (i:=k) (by omega)
  have ga:S.getD k sn0=x:=by rw [List.getD_eq_getElem?_getD,hx];rfl
  have gb:T.getD k sn0=y:=by rw [List.getD_eq_getElem?_getD,hy];rfl
  have BD:∀i:Nat,((Addr.mk gv 0 none).add i).block<w4.drew.heap.size:=fun i=>by rw [block_add];exact e0.lt
  have BC:∀i:Nat,((Addr.mk wD 0 none).add i).block<w4.drew.heap.size:=fun i=>by rw [block_add];exact e1.lt
  refine⟨fun _ k=>k<w4.drew.heap.size,BD _,_,_,_,e0.drew.at rfl,by omega,aw p yz ⟨by rw [block_add];exact E7,_,_,_,_,_,_,⟨FX,FW,Cg,yR⟩,BC _,_,_,_,e1.drew.at rfl,by omega,aw p' Ow ⟨by rw [block_add];exact Bz,_,_,_,_,_,_,⟨FU,hd1,Mu,FT⟩,?_⟩⟩⟩
  refine Calls.mono (lO E6 xT hn) ?_
  rintro e w5 ⟨_,rfl,rfl,q9⟩
  refine⟨_,rfl,aT q9 (fun _ h=>h.elim) (Nat.le_refl _),fun _ k=>k<w4.drew.heap.size,fun _ _ h=>h,?_⟩
  refine cm (fun xi=>⟨?_,q8.trans q9⟩) (fun he=>?_)
  ·rw [hr]
   refine congrArg Value.bool (Eq.symm (decide_eq_false ?_))
   exact fun h=>xi (by have:=h.2.2.2.2.2 k (by omega);rw [ga,gb]at this;exact this)
  rintro _ rfl
  refine⟨n' - (k+1),by omega,k+1,by rw [aM (by omega)];omega,by omega,rfl,fun j hj=>?_,(q6.trans (Pu.aG w4)).trans q9⟩
  rcases Nat.lt_succ_iff_lt_or_eq.1 hj with hj | rfl
  ·exact EC j hj
  ·rw [ga,gb];exact he
 ·refine⟨?_,q7⟩
  rw [hr]
  refine congrArg Value.bool (Eq.symm (decide_eq_true ?_))
  exact⟨h1,h2,h3,h4,hA,fun j hj=>EC j (by omega)⟩
end
theorem told_eq(what:ByteArray)(j:Nat)(a b:List U32):dp what j a b=if cP a b=emp then emp else((what++fA)++num j)++plF (cP a b):=by
 unfold dp cP prt
 by_cases hl:a.length=b.length
 ·rw [if_pos hl,if_pos hl]
  rcases cW a b with h | ⟨k,h,_⟩
  ·rw [if_pos h,if_pos (show apt a b<0 by omega),if_pos rfl]
  ·have xi:jN++num (apt a b).toNat≠emp:=eM (by decide)
   rw [if_neg (show ¬apt a b= -1 by omega),if_neg (show ¬apt a b= -2 by omega),if_neg (show ¬apt a b<0 by omega),if_neg xi]
   have hm:plF (jN++num (apt a b).toNat)=jN++num (apt a b).toNat:=by
    unfold plF
    refine if_neg fun e=>?_
    have h2:=congrArg ByteArray.size e
    rw [aV]at h2
    have h3:6+(num (apt a b).toNat).size=1:=h2
    omega
   rw [hm,u4]
 ·rw [if_neg hl,if_neg hl,if_neg (by decide),if_pos rfl]
  rw [if_neg (by decide),show plF lH=emp from rfl,tB]
theorem ins_eq(A B:List (List U32)):dC A B=if A.length=B.length then cQ (dIn A B) A.length else cA:=by
 unfold dC
 split
 ·exact fJ fun j _=>by rw [told_eq];rfl
 ·rfl
theorem pg_eq(j:Nat)(x y:SnV):pgF j x y=if dz x y=emp then emp else(ux++num j)++plF (dz x y):=by
 unfold pgF dz
 split
 ·rw [if_neg (by decide),show plF kD=kD from rfl];rfl
 ·split
  ·rw [if_neg (by decide),show plF e8=e8 from rfl];rfl
  ·rw [told_eq];rfl
theorem seen_eq(A B:List SnV):dq A B=if A.length=B.length then cQ (dPg A B) A.length else np:=by
 unfold dq
 split
 ·exact fJ fun j _=>by rw [pg_eq];rfl
 ·rfl
theorem part_eq(V W:Vw):fh V W=pU V W:=by
 unfold fh pU
 rw [il,ins_eq,seen_eq]
 by_cases h1:V.aO=W.aO
 ·rw [if_neg (c:=¬V.aO=W.aO) (fun h=>h h1),if_neg (c:=¬V.aO=W.aO) (fun h=>h h1)]
  by_cases h2:0≤apt V.bM.l W.bM.l
  ·rw [if_pos h2,if_pos h2]
  ·rw [if_neg h2,if_neg h2]
   by_cases h3:V.ins.length=W.ins.length
   ·rw [if_pos h3,if_neg (c:=¬V.ins.length=W.ins.length) (fun h=>h h3)]
    by_cases h4:cQ (dIn V.ins W.ins) V.ins.length=emp
    ·rw [if_neg (c:=¬cQ (dIn V.ins W.ins) V.ins.length=emp) (fun h=>h h4),if_neg (c:=¬cQ (dIn V.ins W.ins) V.ins.length=emp) (fun h=>h h4)]
     by_cases h5:V.pgs.length=W.pgs.length
     ·rw [if_pos h5,if_neg (c:=¬V.pgs.length=W.pgs.length) (fun h=>h h5)]
     ·rw [if_neg h5,if_pos h5]
    ·rw [if_pos h4,if_pos h4]
   ·rw [if_neg h3,if_pos (by decide),if_pos h3]
 ·rw [if_pos h1,if_pos h1]
theorem lS(a:List U32):prt a a= -1:=by rw [prt,if_pos rfl,fp]
theorem jJ(what:ByteArray)(j:Nat)(a:List U32):dp what j a a=emp:=by rw [dp,lS,if_pos rfl]
theorem l5(A:List (List U32)):dC A A=emp:=by rw [dC,if_pos rfl];exact cx fun j _=>jJ _ _ _
theorem jM(A:List SnV):dq A A=emp:=by
 rw [dq,if_pos rfl]
 refine cx fun j _=>?_
 rw [pgF,if_neg (fun h=>h ⟨rfl,rfl⟩),if_neg (fun h=>h rfl)];exact jJ _ _ _
theorem pH(V:Vw):fh V V=emp:=by
 unfold fh
 rw [if_neg (fun h=>h rfl),lS,if_neg (by decide),l5,if_neg (fun h=>h rfl),jM]
theorem rC(A B:List (List U32))(j:Nat):dIn A B j=emp↔cP (A.getD j []) (B.getD j [])=emp:=by
 unfold dIn
 split
 ·rename_i h;exact⟨fun _=>h,fun _=>rfl⟩
 ·rename_i h;exact⟨fun e=>absurd e (eM (by rw [aV];show ¬9+_=0;omega)),fun e=>absurd e h⟩
theorem re(A B:List SnV)(j:Nat):dPg A B j=emp↔dz (A.getD j sn0) (B.getD j sn0)=emp:=by
 unfold dPg
 split
 ·rename_i h;exact⟨fun _=>h,fun _=>rfl⟩
 ·rename_i h;exact⟨fun e=>absurd e (eM (by rw [aV];show ¬5+_=0;omega)),fun e=>absurd e h⟩
theorem tk(A B:List (List U32)):dC A B=emp↔A.length=B.length∧∀j,j<A.length→cP (A.getD j []) (B.getD j [])=emp:=by
 rw [ins_eq]
 split
 ·rename_i h;rw [kN];exact⟨fun g=>⟨h,fun j hj=>(rC A B j).1 (g j hj)⟩,fun g j hj=>(rC A B j).2 (g.2 j hj)⟩
 ·rename_i h;exact⟨fun e=>absurd e (by decide),fun g=>absurd g.1 h⟩
theorem qN(A B:List SnV):dq A B=emp↔A.length=B.length∧∀j,j<A.length→dz (A.getD j sn0) (B.getD j sn0)=emp:=by
 rw [seen_eq]
 split
 ·rename_i h;rw [kN];exact⟨fun g=>⟨h,fun j hj=>(re A B j).1 (g j hj)⟩,fun g j hj=>(re A B j).2 (g.2 j hj)⟩
 ·rename_i h;exact⟨fun e=>absurd e (by decide),fun g=>absurd g.1 h⟩
theorem alike_eq(aa ab ba bb:Int)(I J:List (List U32))(S T:List SnV):
 decide (aa=ba∧ab=bb∧dC I J=emp∧dq S T=emp)=decide (aa=ba∧ab=bb∧I.length=J.length∧S.length=T.length∧(∀j,j<I.length→cP (I.getD j []) (J.getD j [])=emp)∧∀j,j<S.length→dz (S.getD j sn0) (T.getD j sn0)=emp):=by
 rw [decide_eq_decide,tk,qN]
 exact⟨fun⟨a,b,⟨c,d⟩,e,f⟩=>⟨a,b,c,e,d,f⟩,fun⟨a,b,c,e,d,f⟩=>⟨a,b,⟨c,d⟩,e,f⟩⟩
theorem nI(aa ab:Int)(I:List (List U32))(S:List SnV):decide (aa=aa∧ab=ab∧dC I I=emp∧dq S S=emp)=true:=
 decide_eq_true ⟨rfl,rfl,l5 I,jM S⟩
end
section
set_option maxRecDepth 10000
def fz:DB:=(lY 2 1).bJ ((lY 2 1).mem.write false 0 3 9)
theorem lE:fz.mem.I=1:=by decide
theorem qP:fz.S=2:=by decide
theorem lD:fz.mem.eL false 0 3=9:=by decide
theorem Rd.hd1 {w:World} {Z:Nat→Prop} {A:Option Addr} {n c:Nat} {l:List U32}(h:Rd w Z A n c l) {i:Nat}(hi:i<n):∃p x,A=some p∧l[i]? =some x∧w.cell? (p.add (i*1))=some (.int .u32 x.v):=by
 obtain⟨p,x,h1,h2,h3⟩:=h.at1 hi
 rw [Int.toNat_natCast]at h3
 exact⟨p,x,h1,h2,h3⟩
theorem tf {w:World} {K:List Int}(hk:cR w 1 K):
 Calls Tryd.prog 8 #[] w fun e w'=>∃v,e= .returned v∧v= .bool true∧Pu w w':=by
 refine jz ?_
 refine Calls.mono (vD hk 2 1 (by omega) (by omega) ⟨0,0,0,0,0,0,0,0⟩ none 0) ?_
 rintro e w1 ⟨_,rfl,g,L,rfl,h1,BV,q1⟩
 refine⟨_,_,rfl,fun b w'=>b=false∧w'=w1,?_,?_⟩
 ·refine cv ?_
  refine Calls.mono (P:=Tryd.prog) (lf _ (R:=fun v w'=>v= .int .i64 0∧w'=w1) ⟨rfl,rfl⟩) ?_
  rintro e w2 ⟨_,rfl,rfl,rfl⟩
  exact⟨_,rfl,rfl,rfl⟩
 rintro _ _ w1 ⟨rfl,rfl⟩
 refine cv ?_
 refine Calls.mono (td h1 0 3 9 (by omega)) ?_
 rintro e w2 ⟨_,rfl,rfl,h2,q2⟩
 refine⟨_,rfl,Calls.mono (vZ h2 0) ?_⟩
 have hD:(lY 2 1).bJ ((lY 2 1).mem.write false 0 3 9)=fz:=rfl
 rw [hD]
 rintro e w3 ⟨_,rfl,A,c,A',c',rfl,⟨Z,hL⟩,⟨Z',hP⟩,q3⟩
 rw [lE]at hL ⊢
 rw [qP]at hP ⊢
 refine⟨_,_,_,_,_,_,_,_,_,_,_,_,_,_,_,_,_,_,_,_,_,_,rfl,?_⟩
 refine mkd fun wD w4 m4=>?_
 have n4:=m4.num
 refine aJ m4.blk rfl fun w5 s5=>?_
 have b5:=s5.blk
 have hq:Pu w3 w5:=(show Pu w3 w4 from m4.pu).stored s5 (.inr (by omega))
 have p5:Pu w w5:=((q1.call q2 fun k hk=>.inr (BV k (L.inM k hk))).trans q3).trans hq
 have hL5:=hL.pu hq
 obtain⟨p,A1,n1,c1,Y,rfl,_,hc,hr,_⟩:=hL5.at (i:=0) (by omega)
 have hi0:fz.rB.getD 0 []=(bL fz.mem false (0:Nat)).map U32.mk:=l6 (by rw [lE];omega)
 rw [hi0]at hr
 have hn1:n1=1024:=by have:=hr.len;rw [List.length_map,cU]at this;exact this.symm
 subst hn1
 obtain⟨p2,x,rfl,hx,hx2⟩:=hr.at1 (i:=3) (by omega)
 have hx9:x.v=9:=by
  rw [List.getElem?_map,jR (by omega)]at hx
  simp only [Option.map_some,Option.some.injEq]at hx
  rw [← hx];exact lD
 rw [hx9]at hx2
 refine⟨fun b w'=>b=true∧w'=w5,?_,?_⟩
 ·refine⟨_,_,_,b5.at rfl,bK ?_⟩
  refine⟨_,_,_,b5.at rfl,⟨by omega,by decide⟩,aw _ rfl ⟨_,_,_,hc,bK ?_⟩⟩
  refine⟨_,_,_,b5.at rfl,⟨by omega,by decide⟩,aw _ rfl ⟨_,_,_,hc,⟨by omega,by decide⟩,aw _ rfl ⟨_,hx2,bK ?_⟩⟩⟩
  exact⟨_,_,_,b5.at rfl,rfl,rfl⟩
 rintro _ _ w5 ⟨rfl,rfl⟩
 exact⟨rfl,p5⟩
end
section
set_option maxRecDepth 10000
@[reducible] def sL(c v:Int)(A:Option Addr)(n d:Nat)(A':Option Addr)(n' d':Nat):Array Value:= #[.int .u32 c,.int .u32 v,.slice A n d,.slice A' n' d']
set_option maxHeartbeats 2000000 in
theorem kL {w:World} {K:List Int} {Z1 Z2 Z3 Z4:Nat→Prop} {V W:Vw} {A A' B B':Option Addr} {n c n' c' m d m' d':Nat} {k0 k1 v0 v1:Int}(hk:cR w 1 K)(ht:Tab w)
 (hi:LL w Z1 A n c V.ins)(hp:PL w Z2 A' n' c' V.pgs)(gi:LL w Z3 B m d W.ins)(gp:PL w Z4 B' m' d' W.pgs):
 Calls Tryd.prog 3 #[.agg (bU V.aO V.bM A n c A' n' c'),.agg (bU W.aO W.bM B m d B' m' d'),.agg #[.int .u32 k0,.int .u32 k1],.agg #[.int .u32 v0,.int .u32 v1]] w fun e w'=>∃v,e= .returned v∧v= .bool true∧Pu w w':=by
 refine eW _ _ _ _ _ _ _ _ _ _ _ _ _ _ _ _ _ _ _ _ _ _ _ _ _ _ _ _ _ _ _ _ _ _ _ _ _ _ _ _ _ _ _ _ _ _ _ _ ?_
 refine mkd fun ga w1 m1=>mkd fun gb w2 m2=>mkd fun gc w3 m3=>mkd fun gd w4 m4=>?_
 have z1:=m1.size
 have z2:=m2.size
 have z3:=m3.size
 have z4:=m4.size
 have n1:=m1.num
 have n2:=m2.num
 have n3:=m3.num
 have n4:=m4.num
 have q4:Pu w w4.drew:=(((show Pu w w1 from m1.pu).made m2).made m3).made m4 |>.trans (Pu.aG _)
 have ba:Blk w4.drew ga _ _:=(m4.old (m3.old (m2.old m1.blk))).drew
 have bb:Blk w4.drew gb _ _:=(m4.old (m3.old m2.blk)).drew
 have bc:Blk w4.drew gc _ _:=(m4.old m3.blk).drew
 have bd:Blk w4.drew gd _ _:=m4.blk.drew
 refine⟨fun _ k=>k<w4.drew.heap.size,ba.lt,_,_,_,_,_,_,_,_,_,_,_,_,_,_,_,_,_,_,_,_,_,_,⟨ba.at rfl,ba.at rfl,ba.at rfl,ba.at rfl,ba.at rfl,ba.at rfl,ba.at rfl,ba.at rfl,ba.at rfl,ba.at rfl,ba.at rfl,ba.at rfl,ba.at rfl,ba.at rfl,ba.at rfl,ba.at rfl,ba.at rfl,ba.at rfl⟩,bb.lt,?_⟩
 refine⟨_,_,_,_,_,_,_,_,_,_,_,_,_,_,_,_,_,_,_,_,_,_,⟨bb.at rfl,bb.at rfl,bb.at rfl,bb.at rfl,bb.at rfl,bb.at rfl,bb.at rfl,bb.at rfl,bb.at rfl,bb.at rfl,bb.at rfl,bb.at rfl,bb.at rfl,bb.at rfl,bb.at rfl,bb.at rfl,bb.at rfl,bb.at rfl⟩,?_⟩
 refine Calls.mono (iw (hp.pu q4)) ?_
 rintro e w5 ⟨_,rfl,A2,c2,Z5,rfl,hp5,q5⟩
 refine⟨_,_,_,_,_,_,_,_,_,_,_,_,_,_,_,_,_,_,_,_,_,_,rfl,aT q5 (fun _ h=>h.elim) (Nat.le_refl _),fun _ k=>k<w4.drew.heap.size,fun _ _ h=>h,?_⟩
 refine Calls.mono (iw ((gp.pu q4).pu q5)) ?_
 rintro e w6 ⟨_,rfl,B2,d2,Z6,rfl,gp6,q6⟩
 have q46:Pu w4.drew w6:=q5.trans q6
 have p6:Pu w w6:=q4.trans q46
 refine⟨_,_,_,_,_,_,_,_,_,_,_,_,_,_,_,_,_,_,_,_,_,_,rfl,fun _ k=>k<w4.drew.heap.size,fun _ _ h=>h,?_⟩
 refine Calls.mono (sP (hi.pu p6) (hp5.pu q6) (gi.pu p6) gp6) ?_
 rintro e w7 ⟨_,rfl,rfl,q7⟩
 have MK:Pu w4.drew w7:=q46.trans q7
 have p7:Pu w w7:=q4.trans MK
 refine⟨_,rfl,fun _ k=>k<w4.drew.heap.size,fun _ _ h=>h,?_⟩
 refine⟨fun b W=>b=false∧Pu w4.drew W,?_,?_⟩
 ·have ba:=MK.blk ba
  have bb:=MK.blk bb
  refine⟨_,_,_,_,_,_,_,_,_,_,_,_,_,_,_,_,_,_,_,_,_,_,⟨ba.at rfl,ba.at rfl,ba.at rfl,ba.at rfl,ba.at rfl,ba.at rfl,ba.at rfl,ba.at rfl,ba.at rfl,ba.at rfl,ba.at rfl,ba.at rfl,ba.at rfl,ba.at rfl,ba.at rfl,ba.at rfl,ba.at rfl,ba.at rfl⟩,?_⟩
  refine⟨_,_,_,_,_,_,_,_,_,_,_,_,_,_,_,_,_,_,_,_,_,_,⟨bb.at rfl,bb.at rfl,bb.at rfl,bb.at rfl,bb.at rfl,bb.at rfl,bb.at rfl,bb.at rfl,bb.at rfl,bb.at rfl,bb.at rfl,bb.at rfl,bb.at rfl,bb.at rfl,bb.at rfl,bb.at rfl,bb.at rfl,bb.at rfl⟩,?_⟩
  refine Calls.mono (qE (hi.pu p7) (hp.pu p7) (gi.pu p7) (gp.pu p7) (ht.pu p7)) ?_
  rintro e w8 ⟨_,rfl,rfl,q8⟩
  rw [part_eq]
  refine⟨_,rfl,cm (fun h=>absurd rfl h) (fun _=>?_)⟩
  have p8:=p7.trans q8
  have ba:=q8.blk ba
  have bb:=q8.blk bb
  refine⟨_,_,_,_,_,_,_,_,_,_,_,_,_,_,_,_,_,_,_,_,_,_,⟨ba.at rfl,ba.at rfl,ba.at rfl,ba.at rfl,ba.at rfl,ba.at rfl,ba.at rfl,ba.at rfl,ba.at rfl,ba.at rfl,ba.at rfl,ba.at rfl,ba.at rfl,ba.at rfl,ba.at rfl,ba.at rfl,ba.at rfl,ba.at rfl⟩,?_⟩
  refine⟨_,_,_,_,_,_,_,_,_,_,_,_,_,_,_,_,_,_,_,_,_,_,⟨bb.at rfl,bb.at rfl,bb.at rfl,bb.at rfl,bb.at rfl,bb.at rfl,bb.at rfl,bb.at rfl,bb.at rfl,bb.at rfl,bb.at rfl,bb.at rfl,bb.at rfl,bb.at rfl,bb.at rfl,bb.at rfl,bb.at rfl,bb.at rfl⟩,?_⟩
  refine Calls.mono (qD (hi.pu p8) (hp.pu p8) (gi.pu p8) (gp.pu p8) (ht.pu p8)) ?_
  rintro e w9 ⟨_,rfl,rfl,q9⟩
  refine⟨_,rfl,?_⟩
  rw [rR,part_eq]
  refine hH (fun h=>absurd rfl h) (fun _=>?_)
  have p9:=p8.trans q9
  have ba:=q9.blk ba
  refine⟨_,_,_,_,_,_,_,_,_,_,_,_,_,_,_,_,_,_,_,_,_,_,⟨ba.at rfl,ba.at rfl,ba.at rfl,ba.at rfl,ba.at rfl,ba.at rfl,ba.at rfl,ba.at rfl,ba.at rfl,ba.at rfl,ba.at rfl,ba.at rfl,ba.at rfl,ba.at rfl,ba.at rfl,ba.at rfl,ba.at rfl,ba.at rfl⟩,?_⟩
  refine⟨_,_,_,_,_,_,_,_,_,_,_,_,_,_,_,_,_,_,_,_,_,_,⟨ba.at rfl,ba.at rfl,ba.at rfl,ba.at rfl,ba.at rfl,ba.at rfl,ba.at rfl,ba.at rfl,ba.at rfl,ba.at rfl,ba.at rfl,ba.at rfl,ba.at rfl,ba.at rfl,ba.at rfl,ba.at rfl,ba.at rfl,ba.at rfl⟩,?_⟩
  refine Calls.mono (qD (hi.pu p9) (hp.pu p9) (hi.pu p9) (hp.pu p9) (ht.pu p9)) ?_
  rintro e Ex ⟨_,rfl,rfl,zN⟩
  rw [pH]
  refine⟨_,rfl,cv ?_⟩
  refine Calls.mono (tf (hk.pu (p9.trans zN))) ?_
  rintro e zt ⟨_,rfl,rfl,E1⟩
  exact⟨_,rfl,rfl,(((MK.trans q8).trans q9).trans zN).trans E1⟩
 rintro _ _ w8 ⟨rfl,LM⟩
 refine cv ?_
 have ba:=LM.blk ba
 have bb:=LM.blk bb
 have bc:=LM.blk bc
 have bd:=LM.blk bd
 have p8:Pu w w8:=q4.trans LM
 refine⟨by decide,_,bc.at rfl,by decide,_,bd.at rfl,_,_,_,ba.at rfl,_,_,_,ba.at rfl,?_⟩
 refine mkd fun gx w9 m9=>?_
 have n9:=m9.num
 have y9:=m9.size
 refine aJ m9.blk rfl fun Ex Ey=>?_
 have y10:=Ey.ch.size
 have bx:Blk Ex gx (sL k0 v0 A n c A' n' c') _:=Ey.blk
 have zN:Pu w8 Ex:=(show Pu w8 w9 from m9.pu).stored Ey (.inr (by omega))
 have ba:=zN.blk ba
 have bb:=zN.blk bb
 have bc:=zN.blk bc
 have bd:=zN.blk bd
 refine⟨by decide,_,bc.at rfl,by decide,_,bd.at rfl,_,_,_,bb.at rfl,_,_,_,bb.at rfl,?_⟩
 refine mkd fun gy zt m11=>?_
 have n11:=m11.num
 have y11:=m11.size
 refine aJ m11.blk rfl fun xF zn=>?_
 have y12:=zn.ch.size
 have bY:Blk xF gy (sL k1 v1 B m d B' m' d') _:=zn.blk
 have zM:Pu Ex xF:=(show Pu Ex zt from m11.pu).stored zn (.inr (by omega))
 have ba:=zM.blk ba
 have bb:=zM.blk bb
 have bc:=zM.blk bc
 have bd:=zM.blk bd
 have bx:=zM.blk bx
 have FH:Pu w xF.drew:=((p8.trans zN).trans zM).trans (Pu.aG _)
 have BV:∀k,Z2 k→k<w.heap.size:=hp.lo
 have NY:∀k,Z4 k→k<w.heap.size:=gp.lo
 have zw:w.heap.size≤xF.heap.size:=FH.size
 refine⟨fun P U=>∃g T A3 c3 Z,P=some (Addr.mk g 0 none)∧Blk U g (sL k0 v0 A n c A3 n' c3) T∧PL U Z A3 n' c3 V.pgs∧Pu xF.drew U,?_,?_⟩
 ·refine⟨fun _ k=>k<xF.drew.heap.size,by decide,bc.drew.lt,_,bc.drew.at rfl,by decide,bd.drew.lt,_,bd.drew.at rfl,ba.drew.lt,_,_,_,ba.drew.at rfl,ba.drew.lt,_,_,_,ba.drew.at rfl,?_,?_⟩
  ·refine Calls.mono (dh (hp.pu FH)) ?_
   rintro e yU ⟨_,rfl,A3,c3,Z,rfl,h13,hz,Bj⟩
   have M5:=Bj.size
   refine⟨_,_,_,rfl,aT Bj (fun _ h=>h.elim) (Nat.le_refl _),fun _ k=>k<xF.drew.heap.size,fun _ _ h=>h,?_⟩
   refine mkd fun gp zm m14=>?_
   have n14:=m14.num
   have MI:=m14.size
   have e12:xF.drew.heap.size=xF.heap.size:=rfl
   refine⟨aT m14.pu (fun _ h=>h.elim) M5,fun _ k=>k<xF.drew.heap.size,fun _ _ h=>h,?_⟩
   refine aJ m14.blk rfl fun Bu EZ=>?_
   refine⟨fun _ k=>k<xF.drew.heap.size,fun _ _ h=>h,gp,_,A3,c3,Z,rfl,EZ.blk,(h13.pu m14.pu).ch EZ.ch (fun k hk e=>by have:=h13.lo k hk;omega),(Bj.made m14).stored EZ (.inr (by omega))⟩
  ·refine mkd fun gp yU m13=>?_
   have n13:=m13.num
   have M5:=m13.size
   have e12:xF.drew.heap.size=xF.heap.size:=rfl
   refine⟨aT m13.pu (fun _ h=>h.elim) (Nat.le_refl _),fun _ k=>k<xF.drew.heap.size,fun _ _ h=>h,?_⟩
   refine Calls.mono (dh ((hp.pu FH).pu m13.pu)) ?_
   rintro e zm ⟨_,rfl,A3,c3,Z,rfl,M3,hz,yI⟩
   have MI:=yI.size
   refine⟨_,_,_,rfl,aT yI (fun _ h=>h.elim) (by omega),fun _ k=>k<xF.drew.heap.size,fun _ _ h=>h,?_⟩
   refine aJ (yI.blk m13.blk) rfl fun Bu EZ=>?_
   refine⟨fun _ k=>k<xF.drew.heap.size,fun _ _ h=>h,gp,_,A3,c3,Z,rfl,EZ.blk,M3.ch EZ.ch (fun k hk e=>(hz k hk).elim (fun h=>by have:=BV k h;omega) (fun h=>by omega)),((show Pu xF.drew yU from m13.pu).trans yI).stored EZ (.inr (by omega))⟩
 rintro _ _ yU ⟨gP,TP,A3,c3,ZP,rfl,bP,hP,Bj⟩
 have e12:xF.drew.heap.size=xF.heap.size:=rfl
 have M5:=Bj.size
 have ba:=Bj.blk ba.drew
 have bb:=Bj.blk bb.drew
 have bc:=Bj.blk bc.drew
 have bd:=Bj.blk bd.drew
 have bx:=Bj.blk bx.drew
 have bY:=Bj.blk bY.drew
 have B8:Pu w yU.drew:=(FH.trans Bj).trans (Pu.aG _)
 refine⟨fun P U=>∃g T A4 c4 Z,P=some (Addr.mk g 0 none)∧Blk U g (sL k1 v1 B m d A4 m' c4) T∧PL U Z A4 m' c4 W.pgs∧Pu yU.drew U,?_,?_⟩
 ·refine⟨fun _ k=>k<yU.drew.heap.size,by decide,bc.drew.lt,_,bc.drew.at rfl,by decide,bd.drew.lt,_,bd.drew.at rfl,bb.drew.lt,_,_,_,bb.drew.at rfl,bb.drew.lt,_,_,_,bb.drew.at rfl,?_,?_⟩
  ·refine Calls.mono (dh (gp.pu B8)) ?_
   rintro e zm ⟨_,rfl,A4,c4,Z,rfl,M3,hz,yI⟩
   have MI:=yI.size
   refine⟨_,_,_,rfl,aT yI (fun _ h=>h.elim) (Nat.le_refl _),fun _ k=>k<yU.drew.heap.size,fun _ _ h=>h,?_⟩
   refine mkd fun gq Bu m15=>?_
   have n15:=m15.num
   have y15:=m15.size
   have e13:yU.drew.heap.size=yU.heap.size:=rfl
   refine⟨aT m15.pu (fun _ h=>h.elim) MI,fun _ k=>k<yU.drew.heap.size,fun _ _ h=>h,?_⟩
   refine aJ m15.blk rfl fun GO Bv=>?_
   refine⟨fun _ k=>k<yU.drew.heap.size,fun _ _ h=>h,gq,_,A4,c4,Z,rfl,Bv.blk,(M3.pu m15.pu).ch Bv.ch (fun k hk e=>by have:=M3.lo k hk;omega),(yI.made m15).stored Bv (.inr (by omega))⟩
  ·refine mkd fun gq zm m14=>?_
   have n14:=m14.num
   have MI:=m14.size
   have e13:yU.drew.heap.size=yU.heap.size:=rfl
   refine⟨aT m14.pu (fun _ h=>h.elim) (Nat.le_refl _),fun _ k=>k<yU.drew.heap.size,fun _ _ h=>h,?_⟩
   refine Calls.mono (dh ((gp.pu B8).pu m14.pu)) ?_
   rintro e Bu ⟨_,rfl,A4,c4,Z,rfl,h15,hz,AU⟩
   have y15:=AU.size
   refine⟨_,_,_,rfl,aT AU (fun _ h=>h.elim) (by omega),fun _ k=>k<yU.drew.heap.size,fun _ _ h=>h,?_⟩
   refine aJ (AU.blk m14.blk) rfl fun GO Bv=>?_
   refine⟨fun _ k=>k<yU.drew.heap.size,fun _ _ h=>h,gq,_,A4,c4,Z,rfl,Bv.blk,h15.ch Bv.ch (fun k hk e=>(hz k hk).elim (fun h=>by have:=NY k h;omega) (fun h=>by omega)),((show Pu yU.drew zm from m14.pu).trans AU).stored Bv (.inr (by omega))⟩
 rintro _ _ zm ⟨gQ,TQ,A4,c4,ZQ,rfl,bQ,hQ,yI⟩
 have bx:=(yI.blk bx.drew).drew
 have bY:=(yI.blk bY.drew).drew
 have bP:=(yI.blk bP.drew).drew
 have bQ:=bQ.drew
 have zO:Pu w zm.drew:=(B8.trans yI).trans (Pu.aG _)
 have hP:=((hP.pu (Pu.aG _)).pu yI).pu (Pu.aG _)
 have hQ:=hQ.pu (Pu.aG _)
 refine⟨fun b U=>b=true∧Pu zm.drew U,?_,fun _ b U hb=>⟨by rw [hb.1],zO.trans hb.2⟩⟩
 refine⟨fun _ k=>k<zm.drew.heap.size,bx.lt,_,_,_,_,_,_,_,_,⟨bx.at rfl,bx.at rfl,bx.at rfl,bx.at rfl⟩,bY.lt,?_⟩
 refine⟨_,_,_,_,_,_,_,_,⟨bY.at rfl,bY.at rfl,bY.at rfl,bY.at rfl⟩,aw _ rfl ⟨bP.lt,_,_,_,_,_,_,_,_,⟨bP.at rfl,bP.at rfl,bP.at rfl,bP.at rfl⟩,aw _ rfl ⟨bQ.lt,_,_,_,_,_,_,_,_,⟨bQ.at rfl,bQ.at rfl,bQ.at rfl,bQ.at rfl⟩,?_⟩⟩⟩
 refine Calls.mono (oz (hi.pu zO) (hp.pu zO) (gi.pu zO) (gp.pu zO) (ht.pu zO)) ?_
 rintro e Bu ⟨_,rfl,rfl,AU⟩
 refine⟨_,rfl,aT AU (fun _ h=>h.elim) (Nat.le_refl _),fun _ k=>k<zm.drew.heap.size,fun _ _ h=>h,?_⟩
 have MQ:=zO.trans AU
 refine Calls.mono (qZ (hi.pu MQ) (hP.pu AU) (gi.pu MQ) (hQ.pu AU)) ?_
 rintro e GO ⟨_,rfl,rfl,LO⟩
 refine⟨_,rfl,fun _ k=>k<zm.drew.heap.size,fun _ _ h=>h,?_⟩
 rw [alike_eq]
 have bx0:=bx.lt
 have BP:=AU.trans LO
 have Bw:=zO.trans BP
 have bx:=Pu.blk BP bx
 refine aE (fun _=>?_) (fun h=>by simp at h)
 have BS:gx<zm.drew.heap.size:=bx0
 refine⟨BS,_,_,_,_,_,_,_,_,⟨bx.at rfl,bx.at rfl,bx.at rfl,bx.at rfl⟩,BS,_,_,_,_,_,_,_,_,⟨bx.at rfl,bx.at rfl,bx.at rfl,bx.at rfl⟩,?_⟩
 refine Calls.mono (oz (hi.pu Bw) (hp.pu Bw) (hi.pu Bw) (hp.pu Bw) (ht.pu Bw)) ?_
 rintro e Nv ⟨_,rfl,rfl,LN⟩
 rw [nI]
 exact⟨_,rfl,aT LN (fun _ h=>h.elim) BP.size,fun _ k=>k<zm.drew.heap.size,fun _ _ h=>h,rfl,BP.trans LN⟩
end
end Go.Proofs.YtkbcgjfejboigaaDoor
namespace Go.Proofs.YtkbcgjfejboigaaDoor
open Go Go.RowKit V Go.ChangeShapes Go.WideShapes Go.ChangeAt
open Go.IntKind (i64 u32 u64)
open Enc (enc)
section
theorem rO {H:Type}(d:DataW H):1≤Rows.uptoBulk d:=by
 cases d with
 | lit x=>cases x<;>simp [Rows.uptoBulk]
 | _=>simp [Rows.uptoBulk]
theorem fo {H:Type}:∀l:List (DataW H),l.length≤Rows.uptoBulkAll l
 | []=>Nat.zero_le _
 | d::r=>by
  have h1:=fo r
  have h2:=rO d
  simp only [Rows.uptoBulkAll,List.length_cons];omega
theorem eo {H:Type}:∀ {l:List (DataW H)} {d:DataW H},d∈l→Rows.uptoBulk d≤Rows.uptoBulkAll l
 | e::r,d,h=>by
  simp only [Rows.uptoBulkAll]
  rcases List.mem_cons.1 h with rfl | h
  ·omega
  ·have:=eo h;omega
section
variable {P:Program} {W:World} {H:Type} {enc:TypeId×Value→H}
theorem im {u u2:TypeId} {n:Nat} {cs:List Value} {d:DataW H} {p:List MemPlace}(hu:P.underlying u=some (.slice u2))(h2:P.underlying u2=some (.int .u32))(c2:P.cellsOf u2=1)(h:DataW.trod enc P W 0 (fun _=>true) true n u cs=some (d,p)):
 ∃(x:Hd)(l:List U32),cs= [.slice x.A x.n x.c]∧x.n=l.length∧Rd W (fun k=>k<W.heap.size) x.A x.n x.c l∧l.length≤Rows.uptoBulk d:=by
 rcases Go.Deep.open_slice hu h with⟨zg,hx⟩ | ⟨a,len,cap,m,n,D,Pl,zg,_,hl,hm,FN,hx,xD⟩
 ·exact⟨⟨none,0,0⟩,[],zg,rfl,⟨rfl,Nat.le_refl _,fun _ h=>h,fun i x hi=>by cases hi⟩,Nat.zero_le _⟩
 ·simp only [if_true]at FN
  subst FN
  simp only [Prod.mk.injEq]at hx
  have each:∀i,i<m→∃x:U32,W.cell? (a.add (i*1))=some (.int .u32 x.v):=by
   intro i hi
   obtain⟨cs',h1,h3⟩:=xD i hi
   rw [c2]at h1
   obtain⟨_,hlen,hc⟩:=World.cells?_some h1
   obtain⟨z,e0,_,_⟩:=DataW.trod_int h2 h3
   subst e0
   exact⟨⟨z⟩,hc 0 (by omega)⟩
  have:Inhabited U32:=⟨⟨0⟩⟩
  obtain⟨q,hq⟩:=Go.Deep.choose_lt each
  have hlen:((List.range len).map q).length=len:=by rw [List.length_map,List.length_range]
  refine⟨⟨some a,len,m⟩,(List.range len).map q,zg,hlen.symm,⟨hlen,hl,fun _ h=>h,fun i x hi=>?_⟩,?_⟩
  ·have Ca:i<len:=by
    rcases Nat.lt_or_ge i len with h | h
    ·exact h
    ·rw [List.getElem?_eq_none (by simpa using h)]at hi;cases hi
   rw [List.getElem?_map,List.getElem?_range Ca]at hi
   injection hi with hi
   subst hi
   have h1:=hq i (by omega)
   refine⟨a,rfl,?_,fun j hj=>?_⟩
   ·have:=World.block_lt_of_cell? W _ h1
    rwa [V.block_add]at this
   ·have hj:j=0:=by have:Enc.size U32=1:=rfl;omega
    subst hj
    exact h1
  ·rw [hx.1]
   have:=fo ((List.range len).map D)
   simp only [Rows.uptoBulk,List.length_map,List.length_range]at this ⊢
   omega
theorem jT {n:Nat} {e:TypeId} {k:IntKind} {t:TypeId} {fuel base:Nat} {sp:Nat→Bool} {held:Bool} {cs:List Value} {l:List Int} {q:List MemPlace}(ht:P.underlying t=some (.array n e))(ue:P.underlying e=some (.int k))(ce:P.cellsOf e=1)
 (h:DataW.trod enc P W base sp held fuel t cs=some (.agg (l.map fun x=>.lit (.int k x)),q))(hct:P.cellsOf t=n):cs=l.map (Value.int k):=by
 obtain⟨xs,m,rfl,hx,hl,BS,Oe⟩:=DataW.trod_array ht h
 have hc:cs.length=n:=hl.trans hct
 simp only [Prod.mk.injEq,DataW.agg.injEq]at hx
 have hn:l.length=n:=by have:=congrArg List.length hx.1;simpa [BS]using this
 refine List.ext_getElem? fun i=>?_
 by_cases hi:i<n
 ·have h1:=Oe i hi
  rw [ce,Nat.mul_one]at h1
  have FQ:i<cs.length:=by omega
  rw [show(cs.drop i).take 1= [cs[i]]from by rw [List.drop_eq_getElem_cons FQ];rfl]at h1
  have hi3:i<xs.length:=by omega
  rw [List.getElem?_eq_getElem hi3]at h1
  obtain⟨x,e1,e2,_⟩:=DataW.trod_int ue h1
  have e3:=congrArg (fun z=>z[i]?) hx.1
  simp only [List.getElem?_map,List.getElem?_eq_getElem hi3,Option.map_some,e2]at e3
  have hi4:i<l.length:=by omega
  simp only [List.getElem?_eq_getElem hi4,Option.map_some,Option.some.injEq]at e3
  injection e3 with e3
  injection e3 with _ e3
  injection e1 with e1 _
  rw [List.getElem?_eq_getElem FQ,e1,List.getElem?_map,List.getElem?_eq_getElem hi4,Option.map_some,e3]
 ·rw [List.getElem?_eq_none (by omega),List.getElem?_eq_none (by simp;omega)]
theorem lT {n:String} {g:Nat} {cs:Array Value} {ps:List MemPlace}(hg:P.globalNamed n=some g)(hv:W.var? P n=some cs)(h0:0<cs.size)(NQ:MemPlace.row ⟨g,0,none⟩ cs.size ⊆ ps)(hc:∀b off,MemPlace.cell b off∈ps→(∃c t,W.heap[b]? =some (.cells c t (0,0)))∧∀u v,W.cell? ⟨b,off,none⟩=some (.iface u v)→Value.okWide P W .any 0 u v):∃T,Blk W g cs T:=by
 have h1:MemPlace.cell g 0∈ps:=NQ (by unfold MemPlace.row;exact List.mem_map.2 ⟨0,List.mem_range.2 h0,rfl⟩)
 obtain⟨⟨c,t,h2⟩,_⟩:=hc _ _ h1
 unfold World.var? at hv
 rw [hg]at hv
 simp only [Option.bind_some,h2,Option.some.injEq]at hv
 subst hv
 exact⟨t,h2⟩
theorem fG {n:Nat} {t e:TypeId} {fuel base:Nat} {sp:Nat→Bool} {held:Bool} {cs:List Value} {x:DataW H×List MemPlace}(ht:P.underlying t=some (.array n e))(ue:P.underlying e=some (.int .u32))(ce:P.cellsOf e=1)(ct:P.cellsOf t=n)
 (h:DataW.trod enc P W base sp held fuel t cs=some x):∃l:List Int,cs=l.map (Value.int .u32)∧l.length=n:=by
 obtain⟨xs,m,_,hx,hl,BS,Oe⟩:=DataW.trod_array ht h
 have hc:cs.length=n:=hl.trans ct
 have each:∀i:Nat,i<n→∃x:Int,cs[i]? =some (.int .u32 x):=by
  intro i hi
  have h1:=Oe i hi
  have FQ:i<cs.length:=by omega
  rw [ce,Nat.mul_one]at h1
  rw [show(cs.drop i).take 1= [cs[i]]from by rw [List.drop_eq_getElem_cons FQ];rfl,List.getElem?_eq_getElem (show i<xs.length by omega)]at h1
  obtain⟨x,e1,_,_⟩:=DataW.trod_int ue h1
  injection e1 with e1 _
  exact⟨x,by rw [List.getElem?_eq_getElem FQ,e1]⟩
 obtain⟨q,hq⟩:=Go.Deep.choose_lt each
 refine⟨(List.range n).map q,List.ext_getElem? fun i=>?_,by rw [List.length_map,List.length_range]⟩
 by_cases hi:i<n
 ·rw [hq i hi,List.getElem?_map,List.getElem?_map,List.getElem?_range hi];rfl
 ·rw [List.getElem?_eq_none (by omega),List.getElem?_eq_none (by simp;omega)]
theorem sW {t u u2:TypeId} {fuel:Nat} {cs:List Value} {d:DataW H} {p:List MemPlace}(ht:P.underlying t=some (.slice u))(hu:P.underlying u=some (.slice u2))(cu:P.cellsOf u=1)(h2:P.underlying u2=some (.int .u32))(c2:P.cellsOf u2=1)
 (hf:DataW.trod enc P W 0 (fun _=>true) true fuel t cs=some (d,p)):
 ∃A n c ls,cs= [.slice A n c]∧(Rows.uptoBulk d≤1048576→LL W (fun k=>k<W.heap.size) A n c ls):=by
 rcases Go.Deep.open_slice ht hf with⟨zg,hx⟩ | ⟨a,len,cap,m,n,D,Pl,zg,_,hl,hm,FN,hx,xD⟩
 ·exact⟨none,0,0,[],zg,fun _=>⟨rfl,by unfold big;omega,[],⟨rfl,Nat.le_refl _,fun _ h=>h,fun i x hi=>by cases hi⟩,fun k h hk=>by cases hk⟩⟩
 ·simp only [if_true]at FN
  subst FN
  simp only [Prod.mk.injEq]at hx
  have each:∀i,i<m→∃x:Hd×List U32,W.cell? (a.add (i*1))=some (.slice x.1.A x.1.n x.1.c)∧x.1.n=x.2.length∧Rd W (fun k=>k<W.heap.size) x.1.A x.1.n x.1.c x.2∧x.2.length≤Rows.uptoBulk (D i):=by
   intro i hi
   obtain⟨cs',h1,h3⟩:=xD i hi
   rw [cu]at h1
   obtain⟨_,hlen,hc⟩:=World.cells?_some h1
   obtain⟨x,l,e0,e1,e2,e3⟩:=im hu h2 c2 h3
   subst e0
   exact⟨(x,l),hc 0 (by omega),e1,e2,e3⟩
  have:Inhabited (Hd×List U32):=⟨(⟨none,0,0⟩,[])⟩
  obtain⟨q,hq⟩:=Go.Deep.choose_lt each
  refine⟨some a,len,m,(List.range len).map fun i=>(q i).2,zg,fun hb=>?_⟩
  rw [hx.1]at hb
  simp only [Rows.uptoBulk]at hb
  have hlen:=fo ((List.range len).map D)
  rw [List.length_map,List.length_range]at hlen
  refine⟨by rw [List.length_map,List.length_range],by unfold big;omega,(List.range len).map fun i=>(q i).1,⟨by rw [List.length_map,List.length_range],hl,fun _ h=>h,fun i x hi=>?_⟩,fun k h hk=>?_⟩
  ·have Ca:i<len:=by
    rcases Nat.lt_or_ge i len with h | h
    ·exact h
    ·rw [List.getElem?_eq_none (by simpa using h)]at hi;cases hi
   rw [List.getElem?_map,List.getElem?_range Ca]at hi
   injection hi with hi
   subst hi
   have h1:=(hq i (by omega)).1
   refine⟨a,rfl,?_,fun j hj=>?_⟩
   ·have:=World.block_lt_of_cell? W _ h1
    rwa [V.block_add]at this
   ·have hj:j=0:=by have:Enc.size Hd=1:=rfl;omega
    subst hj
    exact h1
  ·have Ca:k<len:=by
    rcases Nat.lt_or_ge k len with h | h
    ·exact h
    ·rw [List.getElem?_eq_none (by simpa using h)]at hk;cases hk
   rw [List.getElem?_map,List.getElem?_range Ca]at hk
   injection hk with hk
   subst hk
   obtain⟨_,e1,e2,e3⟩:=hq k (by omega)
   have h4:=eo (List.mem_map_of_mem (f:=D) (List.mem_range.2 Ca))
   refine⟨?_,by unfold big;show(q k).1.n<_;omega⟩
   rw [List.getD_eq_getElem?_getD,List.getElem?_map,List.getElem?_range Ca]
   exact e2
theorem sV {t u e2:TypeId} {f0 f1 f2:Field} {fuel:Nat} {cs:List Value} {d:DataW H} {p:List MemPlace}(ht:P.underlying t=some (.slice u))(hu:P.underlying u=some (.struct #[f0,f1,f2]))(cu:P.cellsOf u=4)
 (o:f0.offset=0∧f1.offset=2∧f2.offset=3)(c:P.cellsOf f0.type=2∧P.cellsOf f1.type=1∧P.cellsOf f2.type=1)
 (u0:P.underlying f0.type=some (.array 2 e2))(ue:P.underlying e2=some (.int .u32))(ce:P.cellsOf e2=1)(u1:P.underlying f1.type=some .bool)(u2:P.underlying f2.type=some (.slice e2))
 (hf:DataW.trod enc P W 0 (fun _=>true) true fuel t cs=some (d,p)):
 ∃A n c ps,cs= [.slice A n c]∧(Rows.uptoBulk d≤1048576→PL W (fun k=>k<W.heap.size) A n c ps):=by
 rcases Go.Deep.open_slice ht hf with⟨zg,hx⟩ | ⟨a,len,cap,m,n,D,Pl,zg,_,hl,hm,FN,hx,xD⟩
 ·exact⟨none,0,0,[],zg,fun _=>⟨rfl,by unfold big;omega,[],⟨rfl,Nat.le_refl _,fun _ h=>h,fun i x hi=>by cases hi⟩,fun k h hk=>by cases hk⟩⟩
 ·simp only [if_true]at FN
  subst FN
  simp only [Prod.mk.injEq]at hx
  have each:∀i,i<m→∃x:Sn×List U32,(∀j,j<4→W.cell? ((a.add (i*4)).add j)=(V.Enc.enc x.1:List Value)[j]?)∧x.1.n=x.2.length∧Rd W (fun k=>k<W.heap.size) x.1.A x.1.n x.1.c x.2∧x.2.length≤Rows.uptoBulk (D i):=by
   intro i hi
   obtain⟨cs',h1,h3⟩:=xD i hi
   rw [cu]at h1
   obtain⟨_,hlen,hc⟩:=World.cells?_some h1
   obtain⟨xs,k,hk,zP,_,BS,FR⟩:=DataW.trod_struct hu h3
   obtain⟨o0,o1,o2⟩:=o
   obtain⟨c0,c1,c2⟩:=c
   match xs,BS,cs',hlen with
   | [y0,y1,y2],_,[v0,v1,v2,v3],_=>
    have g0:=FR 0 f0 rfl
    have g1:=FR 1 f1 rfl
    have g2:=FR 2 f2 rfl
    simp [o0,o1,o2,c0,c1,c2]at g0 g1 g2
    obtain⟨l,zo,Mf⟩:=fG u0 ue ce c0 g0
    obtain⟨b,e1,_⟩:=DataW.trod_bool u1 g1
    obtain⟨y2,q2⟩:=y2
    obtain⟨x,wl,Mz,e3,e4,e5⟩:=im u2 ue ce g2
    match l,Mf with
    | [w0,w1],_=>
     simp only [List.map_cons,List.map_nil,List.cons.injEq,and_true]at zo e1 Mz
     obtain⟨rfl,rfl⟩:=zo
     subst e1 Mz
     refine⟨(⟨w0,w1,b,x.A,x.n,x.c⟩,wl),fun j hj=>hc j hj,e3,e4,?_⟩
     simp only [Prod.mk.injEq]at zP
     rw [zP.1]
     simp only [Rows.uptoBulk,Rows.uptoBulkAll,List.map_cons,List.map_nil]
     omega
  have:Inhabited (Sn×List U32):=⟨(⟨0,0,false,none,0,0⟩,[])⟩
  obtain⟨q,hq⟩:=Go.Deep.choose_lt each
  refine⟨some a,len,m,(List.range len).map fun i=>⟨(q i).1.e0,(q i).1.e1,(q i).1.hid,(q i).2⟩,zg,fun hb=>?_⟩
  rw [hx.1]at hb
  simp only [Rows.uptoBulk]at hb
  have hlen:=fo ((List.range len).map D)
  rw [List.length_map,List.length_range]at hlen
  refine⟨by rw [List.length_map,List.length_range],by unfold big;omega,(List.range len).map fun i=>(q i).1,⟨by rw [List.length_map,List.length_range],hl,fun _ h=>h,fun i x hi=>?_⟩,fun k h hk=>?_⟩
  ·have Ca:i<len:=by
    rcases Nat.lt_or_ge i len with h | h
    ·exact h
    ·rw [List.getElem?_eq_none (by simpa using h)]at hi;cases hi
   rw [List.getElem?_map,List.getElem?_range Ca]at hi
   injection hi with hi
   subst hi
   have h1:=(hq i (by omega)).1
   refine⟨a,rfl,?_,h1⟩
   have h2:W.cell? ((a.add (i*4)).add 0)=some (.int .u32 (q i).1.e0):=h1 0 (by omega)
   have:=World.block_lt_of_cell? W _ h2
   rwa [V.block_add,V.block_add]at this
  ·have Ca:k<len:=by
    rcases Nat.lt_or_ge k len with h | h
    ·exact h
    ·rw [List.getElem?_eq_none (by simpa using h)]at hk;cases hk
   rw [List.getElem?_map,List.getElem?_range Ca]at hk
   injection hk with hk
   subst hk
   obtain⟨_,e1,e2,e3⟩:=hq k (by omega)
   have h4:=eo (List.mem_map_of_mem (f:=D) (List.mem_range.2 Ca))
   refine⟨_,by rw [List.getElem?_map,List.getElem?_range Ca];rfl,rfl,rfl,rfl,e2,by unfold big;show(q k).1.n<_;omega⟩
theorem lU {t e:TypeId} {v:Value} {d:DataW H} {p:List MemPlace}(ht:P.underlying t=some (.array 2 e))(ue:P.underlying e=some (.int .u32))(ce:P.cellsOf e=1)(ct:P.cellsOf t=2) {base:Nat}(hv:Value.okWide P W .any base t v)(h:DataW.Trod enc P W 0 (fun _=>true) true t v d p):
 ∃a b:Int,v= .agg #[.int .u32 a,.int .u32 b]:=by
 simp only [Value.okWide,ht]at hv
 obtain⟨⟨cs⟩,rfl,hc,_⟩:=hv
 obtain⟨fuel,hf⟩:=h
 obtain⟨l,hl,Mf⟩:=fG ht ue ce ct hf
 match l,Mf with
 | [a,b],_=>
  have:cs= [.int .u32 a,.int .u32 b]:=hl
  exact⟨a,b,by rw [this]⟩
theorem jS {t e2 uL uP:TypeId} {f0 f1 f2 f3 g0 g1 g2:Field} {v:Value} {d:DataW H} {p:List MemPlace}(ht:P.underlying t=some (.struct #[f0,f1,f2,f3]))(ct:P.cellsOf t=18)
 (o:f0.offset=0∧f1.offset=1∧f2.offset=16∧f3.offset=17)(c:P.cellsOf f0.type=1∧P.cellsOf f1.type=15∧P.cellsOf f2.type=1∧P.cellsOf f3.type=1)
 (u0:P.underlying f0.type=some (.int .i64))(u1:P.underlying f1.type=some (.array 15 e2))(ue:P.underlying e2=some (.int .u32))(ce:P.cellsOf e2=1)
 (u2:P.underlying f2.type=some (.slice uL))(hu:P.underlying uL=some (.slice e2))(cu:P.cellsOf uL=1)
 (u3:P.underlying f3.type=some (.slice uP))(hp:P.underlying uP=some (.struct #[g0,g1,g2]))(cp:P.cellsOf uP=4)
 (og:g0.offset=0∧g1.offset=2∧g2.offset=3)(cg:P.cellsOf g0.type=2∧P.cellsOf g1.type=1∧P.cellsOf g2.type=1)
 (v0:P.underlying g0.type=some (.array 2 e2))(v1:P.underlying g1.type=some .bool)(v2:P.underlying g2.type=some (.slice e2))
 {base:Nat}(hv:Value.okWide P W .any base t v)(h:DataW.Trod enc P W 0 (fun _=>true) true t v d p):
 ∃(V:Vw)(A:Option Addr)(n c:Nat)(A':Option Addr)(n' c':Nat),v= .agg (bU V.aO V.bM A n c A' n' c')∧(Rows.uptoBulk d≤1048576→LL W (fun k=>k<W.heap.size) A n c V.ins∧PL W (fun k=>k<W.heap.size) A' n' c' V.pgs):=by
 simp only [Value.okWide,ht]at hv
 obtain⟨⟨cs⟩,rfl,hc,_⟩:=hv
 rw [ct]at hc
 have hc:cs.length=18:=hc
 obtain⟨fuel,hf⟩:=h
 obtain⟨xs,k,hk,zP,_,BS,FR⟩:=DataW.trod_struct ht hf
 obtain⟨o0,o1,o2,o3⟩:=o
 obtain⟨c0,c1,c2,c3⟩:=c
 match xs,BS,cs,hc with
 | [y0,y1,(y2,q2),(y3,q3)],_,[w0,w1,w2,w3,w4,w5,w6,w7,w8,w9,Ex,zt,xF,yU,zm,Bu,GO,Nv],_=>
  have g0:=FR 0 f0 rfl
  have g1:=FR 1 f1 rfl
  have g2:=FR 2 f2 rfl
  have g3:=FR 3 f3 rfl
  simp [o0,o1,o2,o3,c0,c1,c2,c3,Value.cells]at g0 g1 g2 g3
  obtain⟨b,e0,_,_⟩:=DataW.trod_int u0 g0
  obtain⟨l,zo,Mf⟩:=fG u1 ue ce c1 g1
  obtain⟨A,n,c,ls,Mz,h2⟩:=sW u2 hu cu ue ce g2
  obtain⟨A',n',c',ps,e3',h3⟩:=sV u3 hp cp og cg v0 ue ce v1 v2 g3
  match l,Mf with
  | [r0,r1,r2,r3,r4,r5,r6,r7,r8,r9,r10,r11,r12,r13,r14],_=>
   simp only [List.map_cons,List.map_nil,List.cons.injEq,and_true]at zo e0 Mz e3'
   obtain⟨rfl,rfl,rfl,rfl,rfl,rfl,rfl,rfl,rfl,rfl,rfl,rfl,rfl,rfl,rfl⟩:=zo
   subst e0 Mz e3'
   refine⟨⟨b,⟨r0,r1,r2,r3,r4,r5,r6,r7,r8,r9,r10,r11,r12,r13,r14⟩,ls,ps⟩,A,n,c,A',n',c',rfl,fun hb=>?_⟩
   simp only [Prod.mk.injEq]at zP
   rw [zP.1]at hb
   simp only [Rows.uptoBulk,Rows.uptoBulkAll,List.map_cons,List.map_nil]at hb
   exact⟨h2 (by omega),h3 (by omega)⟩
end
end
section
theorem te:ownKnob Tryd.prog.godebug=none:=by kernel_rfl
theorem dv:laidOutB Tryd.prog=true:=by kernel_rfl
theorem iv:Tryd.prog.cellsOf 22=1:=by kernel_rfl
def wo:DataW Unit→List Int
 | .agg l=>l.filterMap fun d=>match d with
  | .lit (.int _ x)=>some x
  | _=>none
 | _=>[]
def kR:List Int:=wo Rows.laid_warden_sha_rounds
theorem th:Rows.laid_warden_sha_rounds (H:=Unit)= .agg (kR.map fun x=>.lit (.int .u32 x)):=by kernel_rfl
theorem rz:kR.length=64:=by kernel_rfl
theorem sQ:Rows.laid_internal_strconv_uint64pow10 (H:=Unit)= .agg (Lib.pow10Tab.map fun x=>.lit (.int .u64 x)):=by kernel_rfl
theorem oL:Tryd.prog.globalNamed "warden/sha.rounds" =some 1:=by kernel_rfl
def uD:String:=(Rows.viewPartsUptoRow.laid.map (·.1)).getD 2 default
theorem vL:Tryd.prog.globalNamed uD=some 0:=by kernel_rfl
theorem s9 {W:World}(h:laidMetH Tryd.prog Rows.viewPartsUptoRow.laid W):cR W 1 kR∧Tab W:=by
 rw [MakeChecks.laidMetH_plain _ _ _ (by kernel_rfl)]at h
 obtain⟨ps,⟨ga,ta,csa,fa,pa,qa,hga,hta,hva,hda,⟨gb,tb,csb,fb,pb,qb,hgb,htb,hvb,hdb,⟨g0,t0,cs0,f0,p0,q0,hg0,ht0,hv0,FU,⟨g1,t1,cs1,f1,p1,q1,EN,ht1,hv1,hd1,hq1,e1⟩,e0⟩,eb⟩,ea⟩,_,hc⟩:=h
 obtain rfl:=Option.some.inj (vL.symm.trans hg0)
 obtain rfl:=Option.some.inj (oL.symm.trans EN)
 obtain rfl:=Option.some.inj ((show(Tryd.prog.globals[0]?).map (·.type)=some 142 by kernel_rfl).symm.trans ht0)
 obtain rfl:=Option.some.inj ((show(Tryd.prog.globals[1]?).map (·.type)=some 158 by kernel_rfl).symm.trans ht1)
 rw [sQ]at FU
 rw [th]at hd1
 have c0:=jT Tryd.underlying142 Tryd.underlying118 (by kernel_rfl) FU (by kernel_rfl)
 have c1:=jT Tryd.underlying158 Tryd.underlying22 iv hd1 (by kernel_rfl)
 obtain⟨cs0⟩:=cs0
 obtain⟨cs1⟩:=cs1
 simp only at c0 c1
 subst c0 c1
 have s0:MemPlace.row ⟨0,0,none⟩ (Lib.pow10Tab.map (Value.int .u64)).toArray.size ⊆ ps:=by rw [ea,eb,e0];intro y hy;simp only [List.mem_append];exact .inr (.inr (.inl (.inl hy)))
 have s1:MemPlace.row ⟨1,0,none⟩ (kR.map (Value.int .u32)).toArray.size ⊆ ps:=by rw [ea,eb,e0,e1];intro y hy;simp only [List.mem_append];exact .inr (.inr (.inr (.inl (.inl hy))))
 have z0:0<(Lib.pow10Tab.map (Value.int .u64)).toArray.size:=by decide
 have z1:0<(kR.map (Value.int .u32)).toArray.size:=by simp [rz]
 exact⟨⟨rz,lT oL hv1 z1 s1 hc⟩,lT vL hv0 z0 s0 hc⟩
theorem rJ(os:Os)(args:Array Value):laidMetH Tryd.prog Rows.viewPartsUptoRow.laid ((World.doorLaid Tryd.prog 400 os).forCall (fun _ _=>0) ⟨#[],args,[]⟩).memory:=
 laidMetH_of_parts3 (fuel:=8) (laidMet_of_run' 8 (by kernel_rfl) (by kernel_rfl)) (by kernel_rfl) (by kernel_rfl)
section
variable {H:Type} {enc:TypeId×Value→H}
theorem lX {a:Assume} {C:Checked} {os:Os} {f:FuncId} {fn:Func} {s:OpenSpec} {k:(H:Type)→List (DataW H)→Bool}(hk:s.cond=some k) {F:Stop.Interp} {conds:List PathCond} {apart fresh handsOn again:Bool} {X:World→Array Value→Prop}
 (hX:∀(w w':World)(args:Array Value),w.heap=w'.heap→X w args→X w' args)
 (own:ownKnob C.prog.godebug=none)(started:os.Started)(noInit:C.prog.inits.idxOf? f=none)(EG:C.prog.funcs[f]? =some fn)
 (witness:∃(w:World)(tape:Tape)(i:Input),w.os=os∧(w.forCall tape i).Shaped C.prog∧i.vars= []∧Input.okWide C.prog (w.forCall tape i) .any w.heap.size f i∧
  ((s.pre enc C.prog fn conds apart (w.forCall tape i).memory i.args∧X (w.forCall tape i).memory i.args)∧sizedMet enc C.prog fn s apart (w.forCall tape i).memory i.args)∧a.holds C.prog (lone (Frame.enter C.prog f i.args .normal) [] (w.forCall tape i)))
 (contract:∀(W:World)(base:Nat)(args:Array Value)(ds gs:List (DataW H))(before:List MemPlace),
  (∀(j:Nat) t v,fn.params[j]? =some t→args[j]? =some v→Value.okWide C.prog W .any base t v)→
  DataW.Whole enc C.prog fn.params.toList s.vars apart W args.toList ds gs before→
  k H (ds++gs)=true→X W args→
  Calls C.prog f args W fun e W'=>∃v,e= .returned v∧(s.at F).post enc C.prog fn apart fresh handsOn again W args v W'):
 ReturnsInHanded a C os f .any (fun w args=>(s.pre enc C.prog fn conds apart w args∧X w args)∧sizedMet enc C.prog fn s apart w args) ((s.at F).post enc C.prog fn apart fresh handsOn again):=by
 refine returnsInHanded_of_calls own started noInit witness ?_
 intro w tape i _ _ _ zd Gn N8
 obtain⟨_,_,_,fn',Oc,_,_,_,_,Bx⟩:=zd
 have e:fn'=fn:=Option.some.inj (Oc.symm.trans EG)
 subst e
 obtain⟨⟨Gn,hx⟩,hz⟩:=Gn
 obtain⟨ds,gs,before,hw,hc,hkk⟩:=(OpenSpec.pre_some hk conds apart _ _).1 Gn
 have hw':=DataW.Whole.of_heap (w':=w.forCall tape i) (by rfl) hw
 refine(contract (w.forCall tape i) w.heap.size i.args ds gs before Bx hw' hkk (hX _ _ _ (by rfl) hx)).mono fun e W' ⟨v,he,hp⟩=>?_
 subst he
 exact ChangeSpec.post_blind hp
end
abbrev uS:OpenSpec:=Rows.OpenSpec.upto Rows.viewPartsSpec
set_option maxRecDepth 100000 in
theorem nw(os:Os)(started:os.Started)(H:Type)(enc:TypeId×Value→H)(F:Stop.Interp):
 ReturnsInHanded {} Tryd.checked os 3 .any (fun w args=>(uS.pre enc Tryd.prog Tryd.f3 [] false w args∧laidMetH Tryd.prog Rows.viewPartsUptoRow.laid w)∧sizedMet enc Tryd.prog Tryd.f3 uS false w args)
  ((uS.at F).post enc Tryd.prog Tryd.f3 false true false false):=by
 refine lX (C:=Tryd.checked) (s:=uS) (k:=Rows.uptoSmall) rfl (X:=fun w _=>laidMetH Tryd.prog Rows.viewPartsUptoRow.laid w) (fun _ _ _ hh h=>h.of_heap hh) te started (by kernel_rfl) Tryd.func3 ?_ ?_
 ·have hx:DataW.whole enc Tryd.prog ((World.doorLaid Tryd.prog 400 os).forCall (fun _ _=>0) ⟨#[],#[(.agg #[.int .i64 0,.int .u32 0,.int .u32 0,.int .u32 0,.int .u32 0,.int .u32 0,.int .u32 0,.int .u32 0,.int .u32 0,.int .u32 0,.int .u32 0,.int .u32 0,.int .u32 0,.int .u32 0,.int .u32 0,.int .u32 0,.slice none 0 0,.slice none 0 0]),(.agg #[.int .i64 0,.int .u32 0,.int .u32 0,.int .u32 0,.int .u32 0,.int .u32 0,.int .u32 0,.int .u32 0,.int .u32 0,.int .u32 0,.int .u32 0,.int .u32 0,.int .u32 0,.int .u32 0,.int .u32 0,.int .u32 0,.slice none 0 0,.slice none 0 0]),(.agg #[.int .u32 0,.int .u32 0]),(.agg #[.int .u32 0,.int .u32 0])],[]⟩).memory Tryd.f3.params.toList uS.vars false [(.agg #[.int .i64 0,.int .u32 0,.int .u32 0,.int .u32 0,.int .u32 0,.int .u32 0,.int .u32 0,.int .u32 0,.int .u32 0,.int .u32 0,.int .u32 0,.int .u32 0,.int .u32 0,.int .u32 0,.int .u32 0,.int .u32 0,.slice none 0 0,.slice none 0 0]),(.agg #[.int .i64 0,.int .u32 0,.int .u32 0,.int .u32 0,.int .u32 0,.int .u32 0,.int .u32 0,.int .u32 0,.int .u32 0,.int .u32 0,.int .u32 0,.int .u32 0,.int .u32 0,.int .u32 0,.int .u32 0,.int .u32 0,.slice none 0 0,.slice none 0 0]),(.agg #[.int .u32 0,.int .u32 0]),(.agg #[.int .u32 0,.int .u32 0])] 8=some ([(.agg [.lit (.int .i64 0),.agg [.lit (.int .u32 0),.lit (.int .u32 0),.lit (.int .u32 0),.lit (.int .u32 0),.lit (.int .u32 0),.lit (.int .u32 0),.lit (.int .u32 0),.lit (.int .u32 0),.lit (.int .u32 0),.lit (.int .u32 0),.lit (.int .u32 0),.lit (.int .u32 0),.lit (.int .u32 0),.lit (.int .u32 0),.lit (.int .u32 0)],.nil,.nil]),(.agg [.lit (.int .i64 0),.agg [.lit (.int .u32 0),.lit (.int .u32 0),.lit (.int .u32 0),.lit (.int .u32 0),.lit (.int .u32 0),.lit (.int .u32 0),.lit (.int .u32 0),.lit (.int .u32 0),.lit (.int .u32 0),.lit (.int .u32 0),.lit (.int .u32 0),.lit (.int .u32 0),.lit (.int .u32 0),.lit (.int .u32 0),.lit (.int .u32 0)],.nil,.nil]),(.agg [.lit (.int .u32 0),.lit (.int .u32 0)]),(.agg [.lit (.int .u32 0),.lit (.int .u32 0)])],[],[]):=by kernel_rfl
  have zd:Input.okWideB Tryd.prog ((World.doorLaid Tryd.prog 400 os).forCall (fun _ _=>0) ⟨#[],#[(.agg #[.int .i64 0,.int .u32 0,.int .u32 0,.int .u32 0,.int .u32 0,.int .u32 0,.int .u32 0,.int .u32 0,.int .u32 0,.int .u32 0,.int .u32 0,.int .u32 0,.int .u32 0,.int .u32 0,.int .u32 0,.int .u32 0,.slice none 0 0,.slice none 0 0]),(.agg #[.int .i64 0,.int .u32 0,.int .u32 0,.int .u32 0,.int .u32 0,.int .u32 0,.int .u32 0,.int .u32 0,.int .u32 0,.int .u32 0,.int .u32 0,.int .u32 0,.int .u32 0,.int .u32 0,.int .u32 0,.int .u32 0,.slice none 0 0,.slice none 0 0]),(.agg #[.int .u32 0,.int .u32 0]),(.agg #[.int .u32 0,.int .u32 0])],[]⟩) 3 ⟨#[],#[(.agg #[.int .i64 0,.int .u32 0,.int .u32 0,.int .u32 0,.int .u32 0,.int .u32 0,.int .u32 0,.int .u32 0,.int .u32 0,.int .u32 0,.int .u32 0,.int .u32 0,.int .u32 0,.int .u32 0,.int .u32 0,.int .u32 0,.slice none 0 0,.slice none 0 0]),(.agg #[.int .i64 0,.int .u32 0,.int .u32 0,.int .u32 0,.int .u32 0,.int .u32 0,.int .u32 0,.int .u32 0,.int .u32 0,.int .u32 0,.int .u32 0,.int .u32 0,.int .u32 0,.int .u32 0,.int .u32 0,.int .u32 0,.slice none 0 0,.slice none 0 0]),(.agg #[.int .u32 0,.int .u32 0]),(.agg #[.int .u32 0,.int .u32 0])],[]⟩=true:=by kernel_rfl
  refine⟨World.doorLaid Tryd.prog 400 os,fun _ _=>0,⟨#[],#[(.agg #[.int .i64 0,.int .u32 0,.int .u32 0,.int .u32 0,.int .u32 0,.int .u32 0,.int .u32 0,.int .u32 0,.int .u32 0,.int .u32 0,.int .u32 0,.int .u32 0,.int .u32 0,.int .u32 0,.int .u32 0,.int .u32 0,.slice none 0 0,.slice none 0 0]),(.agg #[.int .i64 0,.int .u32 0,.int .u32 0,.int .u32 0,.int .u32 0,.int .u32 0,.int .u32 0,.int .u32 0,.int .u32 0,.int .u32 0,.int .u32 0,.int .u32 0,.int .u32 0,.int .u32 0,.int .u32 0,.int .u32 0,.slice none 0 0,.slice none 0 0]),(.agg #[.int .u32 0,.int .u32 0]),(.agg #[.int .u32 0,.int .u32 0])],[]⟩,rfl,World.shaped_of_RefB (by kernel_rfl) (by kernel_rfl),(Input.okWide_of_okWideB (base:=0) zd).1,(Input.okWide_of_okWideB zd).2,
   ⟨⟨(OpenSpec.pre_some rfl [] false _ _).2 ⟨_,_,_,DataW.Whole_of_whole hx,by kernel_rfl,by kernel_rfl⟩,rJ os _⟩,by kernel_rfl,_,_,_,DataW.Whole_of_whole hx,by kernel_rfl⟩,?_⟩
  simp only [Assume.holds]
  exact⟨by simp,by simp,fun _=>Modest.zero,by simp,by simp⟩
 intro W base args ds gs before FK hW hk hL
 have Bx:∀(j:Nat) t v,Tryd.f3.params[j]? =some t→args[j]? =some v→Value.okWide Tryd.prog W .any base t v:=FK
 have Ol:=hW
 obtain⟨p,q,hA0,hV,rfl,_,_⟩:=hW
 have hA:DataW.TrodAll enc Tryd.prog W 0 (fun _=>true) true Tryd.f3.params.toList args.toList ds p:=hA0
 rw [Tryd.params3]at hA Bx
 obtain⟨v0,v1,v2,v3,d0,d1,d2,d3,p0,p1,p2,p3,rfl,rfl,rfl,h0,h1,h2,h3⟩:=trodAll_four hA
 obtain⟨rfl,rfl⟩:=trodVars_none hV
 obtain⟨V1,A,n,c,A',n',c',rfl,hs0⟩:=jS Tryd.underlying27 (by kernel_rfl) ⟨rfl,rfl,rfl,rfl⟩ ⟨by kernel_rfl,by kernel_rfl,by kernel_rfl,by kernel_rfl⟩ Tryd.underlying3 Tryd.underlying23 Tryd.underlying22 iv Tryd.underlying24 Tryd.underlying47 (by kernel_rfl) Tryd.underlying25 Tryd.underlying66 (by kernel_rfl) ⟨rfl,rfl,rfl⟩ ⟨by kernel_rfl,by kernel_rfl,by kernel_rfl⟩ Tryd.underlying28 Tryd.underlying4 Tryd.underlying47 (Bx 0 27 v0 rfl rfl) h0
 obtain⟨V2,B,m,d,B',m',d',rfl,hs1⟩:=jS Tryd.underlying27 (by kernel_rfl) ⟨rfl,rfl,rfl,rfl⟩ ⟨by kernel_rfl,by kernel_rfl,by kernel_rfl,by kernel_rfl⟩ Tryd.underlying3 Tryd.underlying23 Tryd.underlying22 iv Tryd.underlying24 Tryd.underlying47 (by kernel_rfl) Tryd.underlying25 Tryd.underlying66 (by kernel_rfl) ⟨rfl,rfl,rfl⟩ ⟨by kernel_rfl,by kernel_rfl,by kernel_rfl⟩ Tryd.underlying28 Tryd.underlying4 Tryd.underlying47 (Bx 1 27 v1 rfl rfl) h1
 obtain⟨k0,k1,rfl⟩:=lU Tryd.underlying28 Tryd.underlying22 iv (by kernel_rfl) (Bx 2 28 v2 rfl rfl) h2
 obtain⟨x0,x1,rfl⟩:=lU Tryd.underlying28 Tryd.underlying22 iv (by kernel_rfl) (Bx 3 28 v3 rfl rfl) h3
 clear hA0 FK
 have hk:decide (Rows.uptoBulkAll ([d0,d1,d2,d3]++ [])≤1048576)=true:=hk
 have hk:=of_decide_eq_true hk
 obtain⟨hi,hp⟩:=hs0 (by have:=eo (l:= [d0,d1,d2,d3]++ []) (d:=d0) (by simp);omega)
 obtain⟨gi,gp⟩:=hs1 (by have:=eo (l:= [d0,d1,d2,d3]++ []) (d:=d1) (by simp);omega)
 simp only [List.append_nil,List.nil_append]at Ol
 have yQ:∀x∈p0++p1++p2++p3,x.block<W.heap.size:=fun x hx=>by simpa using Ol.lt x (by simpa using hx)
 obtain⟨hR,hT⟩:=s9 hL
 refine(kL (k0:=k0) (k1:=k1) (v0:=x0) (v1:=x1) hR hT hi hp gi gp).mono ?_
 rintro e W' ⟨_,rfl,rfl,ED⟩
 have hn:Below W.heap.size W W':=⟨ED.kept.os,ED.kept.tape,ED.kept.output,ED.kept.size,fun k hk=>ED.kept.block k ⟨hk,fun h=>h⟩⟩
 refine⟨_,rfl,_,_,_,[],p0++(p1++(p2++p3)),[],Ol,trodAll_mk1 (shut_bool Tryd.underlying4 _),?_,rfl,hn.frame _,fun h=>by cases h⟩
 have:=trodAll_mk4 (Below.trod dv (by kernel_rfl) (of_decide_eq_true (by kernel_rfl)) h0 hn (fun x hx=>yQ x (by simp [hx])))
  (Below.trod dv (by kernel_rfl) (of_decide_eq_true (by kernel_rfl)) h1 hn (fun x hx=>yQ x (by simp [hx])))
  (Below.trod dv (by kernel_rfl) (of_decide_eq_true (by kernel_rfl)) h2 hn (fun x hx=>yQ x (by simp [hx])))
  (Below.trod dv (by kernel_rfl) (of_decide_eq_true (by kernel_rfl)) h3 hn (fun x hx=>yQ x (by simp [hx])))
 simp only [List.append_nil]at this ⊢
 exact this
theorem eY:Rows.ViewPartsUptoSaid:=
 OpenClaim.holds_of_cond 3 Tryd.f3 rfl rfl rfl rfl rfl rfl rfl ⟨rfl,rfl,rfl,rfl,rfl⟩ rfl rfl rfl rfl rfl (by kernel_rfl) Tryd.func3 (by kernel_rfl)
  (of_decide_eq_true (by kernel_rfl)) (by unfold Func.isWrapper;(rw [if_neg (by decide+kernel)];exact⟨rfl,rfl⟩))
  (fun os started H enc _ F=>nw os started H enc F)
end
end Go.Proofs.YtkbcgjfejboigaaDoor
namespace Go.Proofs.YtkbcgjfejboigaaDoor
open Go
theorem viewPartsUpto_card:Rows.ViewPartsUptoCardSaid:=
 Claim7.holds_tied_plain_at .later [] [.data,.data,.data,.data] true Rows.viewPartsUptoCard.stood.harness false
  eY (fun _ h=>by cases h) (by kernel_rfl) (fun _ h=>by cases h) viewPartsUpto_row_tie rfl ⟨rfl,rfl⟩ (by kernel_rfl) rfl
  (fun f fn hf EG=>by
   obtain rfl:f=3:=Option.some.inj ((show Tryd.prog.funcNamed "warden/wardenlaw25.ViewParts" =some 3 by kernel_rfl).symm.trans hf) |>.symm
   obtain rfl:fn=Tryd.f3:=(Option.some.inj (Tryd.func3.symm.trans EG)).symm
   exact⟨by kernel_rfl,fun j t ht=>by
    rw [Tryd.params3]at ht
    have h3:t=27∨t=28:=by
     rcases j with _ | _ | _ | _ | j
     ·left;simpa using ht.symm
     ·left;simpa using ht.symm
     ·right;simpa using ht.symm
     ·right;simpa using ht.symm
     ·simp at ht
    rcases h3 with rfl | rfl
    ·exact(show Tryd.prog.wantsStandIn 27=false by kernel_rfl)
    ·exact(show Tryd.prog.wantsStandIn 28=false by kernel_rfl)⟩)
  (by kernel_rfl)
#print axioms viewPartsUpto_card
end Go.Proofs.YtkbcgjfejboigaaDoor
