/- SvcQuotes returns true for every input; each argument reads behind the call as it read before. -/
import Derived.Test.YtfmcaoaaiganbaaGreatDoorU4
import Derived.KernelRfl
import Derived.Maps.Own
set_option linter.unusedVariables false
set_option linter.unusedSimpArgs false
namespace Go.Proofs.YtfmcaoaaiganbaaGreatDoor
open Go.Proofs.Tryz (prog)
open Go Go.RowKit V
open Go.IntKind (i64 u32 u64)
section
set_option maxRecDepth 100000
set_option maxHeartbeats 1000000
attribute [local irreducible] Vc2 VcD
def Av:Ctr Un:=⟨[.one (.int .i64),.one (.int .i64)],[],[],[],fun s i K=>((1≤(s:Int)∧(s:Int)≤64)∧(1≤(i:Int)∧(i:Int)≤64))∧∀(rN:Nat→Nat),K ⟨(.tuple #[(.pointer (some (Addr.mk (rN 0) 0 none))),(.int .i64 0)]),(some (.t [(some (.obj 0 0 0)),none])),[],[(.ob 0 rN (Mem.fresh s.toNat i.toNat))],[]⟩⟩
theorem Lk:LV Un prog 35 Av:=by
 show ∀(s:Int)(i:Int),∀Q:Ou Un→Prop,(((1≤(s:Int)∧(s:Int)≤64)∧(1≤(i:Int)∧(i:Int)≤64))∧∀(rN:Nat→Nat),Q ⟨(.tuple #[(.pointer (some (Addr.mk (rN 0) 0 none))),(.int .i64 0)]),(some (.t [(some (.obj 0 0 0)),none])),[],[(.ob 0 rN (Mem.fresh s.toNat i.toNat))],[]⟩)→∀(X:Nat→Nat→Prop)(w:World),Sat (U:=Un) [] X w→aE (U:=Un) [] fr0 []→Calls prog 35 #[(.int .i64 s),(.int .i64 i)] w (bP (U:=Un) [] [] X w Q)
 intro s i Q hQ X w hs hl
 obtain⟨⟨h1,h2⟩,hQ⟩:=hQ
 refine(ML s i h1 h2).mono ?_
 rintro e w' ⟨u,rfl,L,rfl,hM,hf,q⟩
 exact bP.JL (Z:=L.X) hs q (show RS (U:=Un) L.X w' (.ob 0 (fun _=>L.g) (Mem.fresh s.toNat i.toNat))from(⟨L,rfl,fun _=>Iff.rfl,hM⟩:dI 0 (fun _=>L.g) (Mem.fresh s.toNat i.toNat) L.X w')) hf (hQ (fun _=>L.g)) (KnO.pair rfl) (fun _ _ h=>by cases h)
def rD:Ctr Un:=⟨[.one (.int .i64),.one (.int .i64)],[],[],[],fun s i K=>((1≤(s:Int)∧(s:Int)≤64)∧(1≤(i:Int)∧(i:Int)≤64))∧∀(rN:Nat→Nat),K ⟨(.tuple #[(.pointer (some (Addr.mk (rN 0) 0 none))),(.int .i64 0)]),(some (.t [(some (.obj 0 0 0)),none])),[],[(.ob 2 rN (Mem.fresh s.toNat i.toNat))],[]⟩⟩
theorem G3:LV Un prog 38 rD:=by
 show ∀(s:Int)(i:Int),∀Q:Ou Un→Prop,(((1≤(s:Int)∧(s:Int)≤64)∧(1≤(i:Int)∧(i:Int)≤64))∧∀(rN:Nat→Nat),Q ⟨(.tuple #[(.pointer (some (Addr.mk (rN 0) 0 none))),(.int .i64 0)]),(some (.t [(some (.obj 0 0 0)),none])),[],[(.ob 2 rN (Mem.fresh s.toNat i.toNat))],[]⟩)→∀(X:Nat→Nat→Prop)(w:World),Sat (U:=Un) [] X w→aE (U:=Un) [] fr0 []→Calls prog 38 #[(.int .i64 s),(.int .i64 i)] w (bP (U:=Un) [] [] X w Q)
 intro s i Q hQ X w hs hl
 obtain⟨⟨h1,h2⟩,hQ⟩:=hQ
 refine(KC s i h1 h2).mono ?_
 rintro e w' ⟨u,rfl,g,L,rfl,hM,hf,q⟩
 exact bP.JL (Z:=L.X) hs q (show RS (U:=Un) L.X w' (.ob 2 (fun _=>g) (Mem.fresh s.toNat i.toNat))from(⟨L,fun _=>Iff.rfl,hM⟩:dI 2 (fun _=>g) (Mem.fresh s.toNat i.toNat) L.X w')) hf (hQ (fun _=>g)) (KnO.pair rfl) (fun _ _ h=>by cases h)
def AO:Ctr Un:=⟨[.one (.obj 0 0)],[],[.ob 0 []],[0],fun rm m K=>1≤m.S∧∀(rN:Nat→Nat),K ⟨(.pointer (some (Addr.mk (rN 0) 0 none))),(some (.p (.obj 1 0 0))),[.ob 0 (m.cl m.S)],[(.ob 1 rN ((DB.new m).pd))],[(.l 1 1,.p (.obj 0 0 0))]⟩⟩
theorem Lm:LV Un prog 37 AO:=by
 show ∀(rm:Nat→Nat)(m:Mem),∀Q:Ou Un→Prop,(1≤m.S∧∀(rN:Nat→Nat),Q ⟨(.pointer (some (Addr.mk (rN 0) 0 none))),(some (.p (.obj 1 0 0))),[.ob 0 (m.cl m.S)],[(.ob 1 rN ((DB.new m).pd))],[(.l 1 1,.p (.obj 0 0 0))]⟩)→∀(X:Nat→Nat→Prop)(w:World),Sat (U:=Un) [(.ob 0 rm m)] X w→aE (U:=Un) [(.ob 0 rm m)] fr0 []→Calls prog 37 #[(.pointer (some (Addr.mk (rm 0) 0 none)))] w (bP (U:=Un) [(.ob 0 rm m)] [0] X w Q)
 intro rm m Q hQ X w hs hl
 obtain⟨hS,hQ⟩:=hQ
 obtain⟨L,hg,hM,hX⟩:=tu hs
 rw [hg]
 refine(MZ hM hS).mono ?_
 rintro e w' ⟨u,rfl,g,a,rfl,hM2,hD,⟨hb1,RQ⟩,q⟩
 have NO:∀k,L.X k→k<w.heap.size:=hM.lt
 exact bP.KI (k:=some (.p (.obj 1 0 0))) (kc:= [(.l 1 1,.p (.obj 0 0 0))]) (Z0:=X 0) (Z1:=fun k=>k=g∨k=a) (q.mono fun k hk=>(hX k).1 hk) (show dI 0 rm (m.cl m.S) (X 0) w' from⟨L,hg,hX,hM2⟩) (fun k hk=>.inl hk) (show RS (U:=Un) (fun k=>k=g∨k=a) w' (.ob 1 (fun i=>if i=0 then g else L.g) (DB.new m).pd)from(⟨a,fun k=>Iff.rfl,hD.pd⟩:dI 1 (fun i=>if i=0 then g else L.g) (DB.new m).pd (fun k=>k=g∨k=a) w'))
  (fun k hk=>by rcases hk with rfl | rfl;exact hb1;exact RQ) (fun k hk Ol=>by have:=NO k ((hX k).2 hk);rcases Ol with rfl | rfl<;>omega) (hQ (fun i=>if i=0 then g else L.g)) rfl (FF ⟨_,_,_,rfl,show some (Value.pointer (some ⟨rm 0,0,none⟩))=some (.pointer (some ⟨L.g,0,none⟩))by rw [hg]⟩)
end
end Go.Proofs.YtfmcaoaaiganbaaGreatDoor
namespace Go.Proofs.YtfmcaoaaiganbaaGreatDoor
open Go.Proofs.Tryz (prog)
open Go Go.RowKit V
open Go.IntKind (i64 u32 u64)
structure G4(w:World)(a n:Nat)(pg:Nat→Nat)(f:Nat→Nat→Int):Prop where
 row:∃T cs,Blk w a cs T∧∀i,i<n→cs[i]? =some (ptr (pg i))
 pgs:∀i,i<n→gZ w (pg i) (f i)
theorem G4.pu {w w':World} {a n:Nat} {pg:Nat→Nat} {f:Nat→Nat→Int}(h:G4 w a n pg f)(q:Pu w w'):G4 w' a n pg f:=by
 obtain⟨⟨T,cs,hr,h2⟩,h3⟩:=h
 exact⟨⟨T,cs,q.blk hr,h2⟩,fun i hi=>(h3 i hi).pu q⟩
def Gn(n n':Nat)(f g:Nat→Nat→Int):Bool:=decide (n=n') && (List.range n).all fun i=>(List.range 1024).all fun o=>f i o==g i o
def Mem.same(m o:Mem):Bool:=Gn m.S o.S (m.pg true) (o.pg true) && Gn m.I o.I (m.pg false) (o.pg false)
section
namespace Mem
def rd(m:Mem)(s:Bool)(p o:Int):Mem:=if m.has s p && bZ o then m.tick 1 else m
def copy(m:Mem)(s:Bool)(p:Int)(s':Bool)(p':Int):Mem:=if m.has s p && m.has s' p' then(m.tick 2048).fill s p.toNat (m.pg s' p'.toNat)else m
def words(m:Mem)(s:Bool)(p:Nat):List U32:=(List.range 1024).map fun o=>U32.mk (m.pg s p o)
end Mem
section
variable {w:World} {L:fi} {m:Mem}
theorem JQ(h:cS w L m)(s:Bool)(p o:Int):
 Calls prog 189 #[ptr L.g,fr s p,.int .i64 o] w fun e w'=>∃v,e= .returned v∧v= .tuple #[.int .u32 (m.aT s p o),.int .i64 (m.err s p o)]∧cS w' L (m.rd s p o)∧Ch L.X w w':=by
 refine yG _ s p o ?_
 intro g1 w1 hg hw
 have hM:=made hg hw
 refine⟨_,_,⟨hM.blk.at rfl,hM.blk.at rfl⟩,(JP (h.pu hM.pu) s p o).mono ?_⟩
 rintro e w2 ⟨_,rfl,⟨hh,rfl,h2,hc⟩ | ⟨hh,rfl,he,hp⟩⟩
 ·refine⟨_,_,rfl,ao (fun hb=>by simp at hb) (fun _=>?_)⟩
  have U4:Ch L.X w w2:=((Ch.refl _ w).made hM).trans hc
  have hh':=hh
  simp only [Bool.and_eq_true]at hh
  have hi:=Mem.dt hh.1
  have ho:=Mem.ef hh.2
  obtain⟨T,cs,hr,ND,Pm⟩:=h2.pgs s p.toNat (by simpa using hi)
  refine au _ rfl ⟨_,hr.cell (Pm _ (by omega)),?_,?_,U4⟩
  ·simp [Mem.aT,Mem.err,hh.1,hh.2,Mem.tick]
  ·simpa [Mem.rd,hh']using h2
 ·refine⟨_,_,rfl,ao (fun _=>⟨?_,?_,(hM.pu.trans hp).mono (by simp)⟩) (fun hb=>absurd (by simpa using hb) he)⟩
  ·simp [Mem.aT,hh]
  ·simpa [Mem.rd,hh]using (h.pu hM.pu).pu hp
end
end
section
theorem Mem.nH(m:Mem)(s:Bool)(p:Nat):(m.words s p).length=1024:=by rw [Mem.words,List.length_map,List.length_range]
theorem Mem.JH(m:Mem)(s:Bool)(p o:Int):m.rd s p o=m:=by unfold Mem.rd;split<;>rfl
section
variable {w:World} {g:Nat} {L:fh} {m:Mem}
end
end
end Go.Proofs.YtfmcaoaaiganbaaGreatDoor
namespace Go.Proofs.YtfmcaoaaiganbaaGreatDoor
open Go.Proofs.Tryz (prog)
open Go Go.RowKit V
open Go.IntKind (i64 u32 u64)
section
set_option maxRecDepth 100000
set_option maxHeartbeats 1000000
attribute [local irreducible] Vc2 VcD
def gA:Ctr Un:=⟨[.one (.obj 0 0),.agg [.bool,.int .i64],.one (.int .i64)],[],[.ob 0 []],[0],fun fa fb off rm m K=>K ⟨(.tuple #[(.int .u32 (m.aT fa fb off)),(.int .i64 (m.err fa fb off))]),(some (.t [none,none])),[.ob 0 m],[],[]⟩⟩
theorem pK:LV Un prog 189 gA:=by
 show ∀(fa:Bool)(fb:Int)(off:Int)(rm:Nat→Nat)(m:Mem),∀Q:Ou Un→Prop,(Q ⟨(.tuple #[(.int .u32 (m.aT fa fb off)),(.int .i64 (m.err fa fb off))]),(some (.t [none,none])),[.ob 0 m],[],[]⟩)→∀(X:Nat→Nat→Prop)(w:World),Sat (U:=Un) [(.ob 0 rm m)] X w→aE (U:=Un) [(.ob 0 rm m)] fr0 []→Calls prog 189 #[(.pointer (some (Addr.mk (rm 0) 0 none))),(.agg #[(.bool fa),(.int .i64 fb)]),(.int .i64 off)] w (bP (U:=Un) [(.ob 0 rm m)] [0] X w Q)
 intro fa fb off rm m Q hQ X w hs hl
 obtain⟨L,hg,hM,hX⟩:=tu hs
 rw [hg]
 refine(JQ hM fa fb off).mono ?_
 rintro e w' ⟨u,rfl,rfl,h2,q⟩
 rw [Mem.JH]at h2
 exact bP.one (Z:=X 0) (q.mono fun k hk=>(hX k).1 hk) (show dI 0 rm _ (X 0) w' from⟨L,hg,hX,h2⟩) (fun k hk=>.inl hk) hQ (KnO.tup _ (by simp))
end
end Go.Proofs.YtfmcaoaaiganbaaGreatDoor
namespace Go.Proofs.YtfmcaoaaiganbaaGreatDoor
open Go.Proofs.Tryz (prog)
open Go Go.RowKit V
open Go.IntKind (i64 u32 u64)
def ia(f:Int→Bool)(lo hi:Int):Bool:=(List.range (hi - lo).toNat).all fun i=>f (lo+(i:Int))
theorem cq {f:Int→Bool} {lo hi:Int}:ia f lo hi=true↔∀x,lo≤x→x<hi→f x=true:=by
 unfold ia
 rw [List.all_eq_true]
 constructor
 ·intro h x h1 h2
  have:=h (x - lo).toNat (List.mem_range.2 (by omega))
  rwa [show lo+(((x - lo).toNat:Nat):Int)=x by omega]at this
 ·intro h i hi
  have:=List.mem_range.1 hi
  exact h _ (by omega) (by omega)
theorem jc {f:Int→Bool} {lo hi:Int}(h:hi≤lo):ia f lo hi=true:=cq.2 fun x h1 h2=>by omega
theorem fv {f:Int→Bool} {lo hi:Int}(h:ia f lo hi=true)(hf:f hi=true) {Oy:Int}(e:Oy=hi+1):ia f lo Oy=true:=
 cq.2 fun x h1 h2=>by
  by_cases hx:x=hi
  ·subst hx;exact hf
  ·exact cq.1 h x h1 (by omega)
theorem gS {f:Int→Bool} {lo hi x:Int}(h1:lo≤x)(h2:x<hi)(hf:f x=false):ia f lo hi=false:=by
 cases h:ia f lo hi
 ·rfl
 ·have:=cq.1 h x h1 h2
  rw [hf]at this
  exact this.symm
def cO(f:Int→Bool)(n:Int):Int:=(((List.range n.toNat).countP fun(i:Nat)=>f (i:Int):Nat):Int)
theorem Dh {f:Int→Bool}:cO f 0=0:=rfl
theorem dD {f:Int→Bool} {n:Int}(h:0≤n):cO f (n+1)=cO f n+(if f n then 1 else 0):=by
 unfold cO
 rw [show(n+1).toNat=n.toNat+1 by omega,List.range_succ,List.countP_append,Int.natCast_add]
 congr 1
 rw [List.countP_cons,List.countP_nil,show((n.toNat:Nat):Int)=n by omega]
 cases f n<;>simp
theorem ir {f:Int→Bool} {n:Int}:0≤cO f n:=by unfold cO;omega
theorem mY {f:Int→Bool} {n:Int}(h:0≤n):cO f n≤n:=by
 unfold cO
 have:=List.countP_le_length (p:=fun i=>f ((i:Nat):Int)) (l:=List.range n.toNat)
 rw [List.length_range]at this
 omega
theorem qM {f g:Int→Bool} {n:Int}(h:∀x,0≤x→x<n→f x=g x):cO f n=cO g n:=by
 unfold cO
 congr 1
 apply List.countP_congr
 intro i hi
 have:=List.mem_range.1 hi
 rw [h _ (by omega) (by omega)]
namespace DB
def word(D:DB)(p o:Int):Int:=D.mem.aT true p o
def zero(D:DB)(p lo hi:Int):Bool:=ia (fun o=>D.word p o==0) lo hi
def is(D:DB)(p t:Int):Bool:=D.has p && (D.at_ p).typ==t
def of(D:DB)(p t o:Int):Bool:=D.is p t && (D.at_ p).owner==o
def alive(D:DB)(p:Int):Bool:=D.is (D.at_ p).owner 1 && (D.at_ (D.at_ p).owner).state !=3
def some_(D:DB)(p lo:Int)(n:Nat):List U32:=(List.range n).map fun(i:Nat)=>⟨D.word p (lo+(i:Int))⟩
def jq(D:DB)(p:Int):Bool:=
 decide (D.word p 1<D.aD) && decide (D.word p 2≤4096) && ia (fun q=>!((D.at_ q).typ==1 && D.word q 1==D.word p 1)) 0 p
def EG(D:DB)(p:Int):Bool:=Dg.cj (D.some_ p 11 26)==0 && D.zero p 3 11
def ur(D:DB)(p:Int):Bool:=
 D.zero p 37 1024 && (if(D.at_ p).state=1 then D.EG p else if(D.at_ p).state=2 then D.zero p 11 37 else D.EG p || D.zero p 11 37)
def uu(D:DB)(p:Int):Bool:=(D.at_ p).state==3 || (cO (fun q=>D.of q 3 p) D.S==1 && D.of (D.word p 0) 3 p)
def named(D:DB)(p:Int)(n q:Int):Int:=cO (fun i=>D.word p i !=0 && aN (D.word p i)==q) n
def jz(D:DB)(p i:Int):Bool:=D.word p i==0 || (eX (D.word p i)==0 && D.of (aN (D.word p i)) 4 (D.at_ p).owner)
def jo(D:DB)(p:Int):Bool:=
 D.zero p 256 1024 && (ia (D.jz p) 0 256 && ia (fun q=>!(decide (D.named p 256 q>1) || (D.of q 4 (D.at_ p).owner && D.named p 256 q==0))) 0 D.S)
def mP(D:DB)(p j:Int):Bool:=
 D.word p j==0 || (eQ (D.word p j)==0 && (if(bD (D.word p j)).aX then D.of (bD (D.word p j)).ay 5 (D.at_ p).owner else decide ((bD (D.word p j)).ay<D.mem.I)))
def sV(D:DB)(p:Int):Bool:=ia (D.mP p) 0 1024
def jD(D:DB)(p q j:Int):Bool:=eQ (D.word q j)==0 && ((bD (D.word q j)).aX && (bD (D.word q j)).ay==p)
def ik(D:DB)(p n:Int):Int:=((List.range n.toNat).map fun(q:Nat)=>if D.of (q:Int) 4 (D.at_ p).owner then cO (D.jD p (q:Int)) 1024 else 0).sum
def sU(D:DB)(p:Int):Bool:=D.ik p D.S==1
def po(D:DB)(p:Int):Bool:=
 D.zero p 18 1024 && (if(D.at_ p).br then File.fm (D.some_ p 1 17)==0 && !(D.is (D.at_ p).owner 1 && (D.at_ (D.at_ p).owner).state==1)else D.zero p 1 18)
def clause(D:DB)(c p:Int):Bool:=
 let t:=(D.at_ p).typ
 if c=1 then t !=1 || (D.at_ p).owner==p
 else if c=2 then t !=0 || D.zero p 0 1024
 else if c=3 then t==1 || (t==0 || D.is (D.at_ p).owner 1)
 else if c=4 then t !=1 || (D.at_ p).refs==((D.dE p D.S).length:Int)
 else if c=5 then t !=1 || D.jq p
 else if c=6 then t !=1 || D.ur p
 else if c=7 then t !=1 || D.uu p
 else if c=8 then t !=3 || (!D.alive p || D.jo p)
 else if c=9 then t !=4 || (!D.alive p || D.sV p)
 else if c=10 then t !=5 || (!D.alive p || D.sU p)
 else if c=11 then t !=2 || D.po p
 else t !=6 || D.zero p 0 1024
def jC(D:DB)(c:Int):Bool:=ia (D.clause c) 0 D.S
def uO(f:Int→Bool):Nat→Int→Int
 | 0,p=>p
 | n+1,p=>if f p then uO f n (p+1)else p
def fC(D:DB):Nat→Int→Int×Int
 | 0,_=>(0,0)
 | n+1,c=>if D.jC c then fC D n (c+1)else(c,uO (D.clause c) D.S 0)
def broken(D:DB):Int×Int:=D.fC 12 1
end DB
theorem DB.leastN_eq {f:Int→Bool}:∀ {n:Nat} {lo x:Int},ia f lo x=true→f x=false→lo≤x→x<lo+n→uO f n lo=x
 | 0,lo,x,_,_,h1,h2=>by omega
 | n+1,lo,x,h,hf,h1,h2=>by
  unfold uO
  by_cases hx:lo=x
  ·subst hx;rw [hf];rfl
  ·rw [if_pos (cq.1 h lo (by omega) (by omega))]
   exact leastN_eq (cq.2 fun y a b=>cq.1 h y (by omega) b) hf (by omega) (by omega)
theorem xu {f g:Int→Bool} {n:Int}(h0:0≤n)(h:∀x,0≤x→x<n→f x=true→g x=true):cO f n≤cO g n∧(cO f n=cO g n→∀x,0≤x→x<n→g x=true→f x=true):=by
 obtain⟨m,rfl⟩:=Int.eq_ofNat_of_zero_le h0
 induction m with
 | zero=>exact⟨Int.le_refl _,fun _ x a b=>by omega⟩
 | succ m ih=>
  have h1:=ih (by omega) (fun x a b=>h x a (by omega))
  have e1:=dD (f:=f) (n:=(m:Int)) (by omega)
  have e2:=dD (f:=g) (n:=(m:Int)) (by omega)
  have hm:=h (m:Int) (by omega) (by omega)
  rw [show((m+1:Nat):Int)=(m:Int)+1 by omega,e1,e2]
  cases hf:f (m:Int)<;>cases hg:g (m:Int)<;>simp only [hf,hg,if_true,Bool.false_eq_true,if_false]at hm ⊢
  ·refine⟨by omega,fun e x a b hx=>?_⟩
   by_cases hxm:x=m
   ·subst hxm;rw [hg]at hx;exact absurd hx (by simp)
   ·exact h1.2 (by omega) x a (by omega) hx
  ·exact⟨by omega,fun e=>by omega⟩
  ·exact absurd (hm trivial) (by simp)
  ·refine⟨by omega,fun e x a b hx=>?_⟩
   by_cases hxm:x=m
   ·subst hxm;exact hf
   ·exact h1.2 (by omega) x a (by omega) hx
theorem Gi {x:Int}(hx:0≤x∧x<4294967296):u32.wrap (BitVec.ofInt u32.bits x &&& BitVec.ofInt u32.bits 1023).toNat=x % 1024:=by
 rw [pH hx (by omega)]
 exact nW 10 hx.1
theorem dw {m:Mem}(h:m.Wf)(s:Bool)(p o:Int):0≤m.aT s p o∧m.aT s p o<4294967296:=by
 unfold Mem.aT
 split
 ·exact h.1 _ _ _
 ·omega
def fj(v:Int):Int:=if 1073741824≤v∨v % 4≠0 then 91 else 0
def vaI(v:Int):Int:=if fj v=0 then v / 4194304 else 0
def vaJ(v:Int):Int:=if fj v=0 then v / 4096 % 1024 else 0
def vaO(v:Int):Int:=if fj v=0 then v / 4 % 1024 else 0
def JN(v:Int):Int:=if v % 4096≠0∨1073741824≤v then 91 else 0
def mgW(v:Int)(a b:Bool):Int:=if JN v=0 then v+1+(if a then 2 else 0)+(if b then 4 else 0)else 0
def H6(w:Int):Bool:=decide (JN (w - w % 4096)=0∧mgW (w - w % 4096) (decide (w / 2 % 2=1)) (decide (w / 4 % 2=1))=w)
def JI(w:Int):Int:=if H6 w then 0 else 142
def wo(w:Int):Int:=if H6 w then w - w % 4096 else 0
def paW(w:Int):Bool:=H6 w && decide (w / 2 % 2=1)
def paX(w:Int):Bool:=H6 w && decide (w / 4 % 2=1)
namespace DB
def fQ(d:DB)(s:Int):Int:=
 if !d.has s then 5 else if(d.at_ s).typ≠1 then 124 else if(d.at_ s).state=3 then 3 else if d.of (d.word s 0) 3 s then 0 else 124
def tbl(d:DB)(s:Int):Int:=if d.fQ s=0 then d.word s 0 else 0
def Gs(d:DB)(s i q:Int):Int:=
 if d.fQ s≠0 then d.fQ s else if i<0∨256≤i then 4 else if !d.has q then 5 else if !d.of q 4 s then 124 else if d.word (d.tbl s) i≠0 then 140 else 0
def add(d:DB)(s i q:Int):DB:=if d.Gs s i q=0 then d.mK (·.write true (d.tbl s) i (fY q))else d
def Bi(d:DB)(s w:Int):Bool:=eX w==0 && d.of (aN w) 4 s
def gM(d:DB)(s va:Int):Int:=
 if d.fQ s≠0 then d.fQ s else if fj va≠0 then 91 else if d.Bi s (d.word (d.tbl s) (vaI va))then 0 else 141
def plP(d:DB)(s va:Int):Int:=aN (d.word (d.tbl s) (vaI va))
def eC(d:DB)(s va:Int):Int:=if d.gM s va≠0 then d.gM s va else if d.word (d.plP s va) (vaJ va)≠0 then 140 else 0
def Fb(d:DB)(s va:Int)(p:Mp):Int:=if d.eC s va≠0 then d.eC s va else p.err
def put(d:DB)(s va:Int)(p:Mp):DB:=if d.Fb s va p=0 then d.mK (·.write true (d.plP s va) (vaJ va) p.word)else d
end DB
end Go.Proofs.YtfmcaoaaiganbaaGreatDoor
namespace Go.Proofs.YtfmcaoaaiganbaaGreatDoor
open Go.Proofs.Tryz (prog)
open Go Go.RowKit V
open Go.IntKind (i64 u32 u64)
section
set_option maxRecDepth 100000
def yx(ca:Option Addr)(cb:Int)(cc:Int)(R:aC)(w:World):Prop:=
 ∀(gv:Nat)(wv:World),gv=w.heap.size→wv=w.alloc (.cells #[(.pointer ca),(.int .i64 cb),(.int .i64 cc)] 262)→
 ∃x7:Option Addr,wv.cell? ((Addr.mk gv 0 none).add 0)=some (.pointer x7)∧
 ∃x9:Int,wv.cell? ((Addr.mk gv 0 none).add 1)=some (.int .i64 x9)∧
 ∃Nj:Int,wv.cell? ((Addr.mk gv 0 none).add 2)=some (.int .i64 Nj)∧
 Calls prog 189 #[(.pointer x7),(.agg #[(.bool true),(.int .i64 x9)]),(.int .i64 Nj)] wv fun e M5=>
 ∃OC:Int,∃Ow:Int,e= .returned (.tuple #[(.int .u32 OC),(.int .i64 Ow)])∧
 R (.int .u32 OC) M5
def G8:Ann:= .leaf
theorem PRead_eq(ca:Option Addr)(cb:Int)(cc:Int)(R:aC)(w:World):yx ca cb cc R w=vcF prog aH [] Tryz.f185 G8 [(.agg #[(.pointer ca),(.int .i64 cb),(.int .i64 cc)])] R none w:=by kernel_rfl
theorem yy(ca:Option Addr)(cb:Int)(cc:Int) {R:aC} {w:World}(h:yx ca cb cc R w):Calls prog 185 #[(.agg #[(.pointer ca),(.int .i64 cb),(.int .i64 cc)])] w fun e w'=>∃v,e= .returned v∧R v w':=
 ar Tryz.func185 aw aj ((PRead_eq ca cb cc R w).mp h)
end
end Go.Proofs.YtfmcaoaaiganbaaGreatDoor
namespace Go.Proofs.YtfmcaoaaiganbaaGreatDoor
open Go.Proofs.Tryz (prog)
open Go Go.RowKit V
open Go.IntKind (i64 u32 u64)
section
section
variable {w:World} {L:fi} {m:Mem}
theorem LF(h:cS w L m)(p o:Int):
 Calls prog 185 #[.agg #[ptr L.g,.int .i64 p,.int .i64 o]] w fun e w'=>∃v,e= .returned v∧v= .int .u32 (m.aT true p o)∧cS w' L m∧Ch L.X w w':=by
 refine yy _ p o ?_
 intro g1 w1 hg hw
 have hM:=made hg hw
 refine⟨_,hM.blk.at rfl,_,hM.blk.at rfl,_,hM.blk.at rfl,(JQ (h.pu hM.pu) true p o).mono ?_⟩
 rintro e w2 ⟨_,rfl,rfl,h2,q⟩
 rw [Mem.JH]at h2
 exact⟨_,_,rfl,rfl,h2,((Ch.refl _ w).made hM).trans q⟩
end
end
end Go.Proofs.YtfmcaoaaiganbaaGreatDoor
namespace Go.Proofs.YtfmcaoaaiganbaaGreatDoor
open Go.Proofs.Tryz (prog)
open Go Go.RowKit V
open Go.IntKind (i64 u32 u64)
section
set_option maxRecDepth 100000
set_option maxHeartbeats 1000000
attribute [local irreducible] Vc2 VcD
attribute [local grind=] Pd.cI Pd.cg Pd.iH Pd.iS Pd.gi Pd.eJ Pd.eY Pd.fw Pd.lB
attribute [local grind .] Pd.Ok.ent
attribute [local grind→] Pd.Ok.eg
theorem fD {E:Pd} {m:Mem}(h:m.Wf)(p o:Int):0≤(E.on m).word p o∧(E.on m).word p o<4294967296:=by
 show 0≤m.aT true p o∧m.aT true p o<_
 unfold Mem.aT
 split
 ·exact h.1 _ _ _
 ·omega
theorem uK(D:DB)(p:Int) {n:Int}(h:0≤n):D.ik p (n+1)=D.ik p n+(if D.of n 4 (D.at_ p).owner then cO (D.jD p n) 1024 else 0):=by
 unfold DB.ik
 rw [show(n+1).toNat=n.toNat+1 by omega,List.range_succ,List.map_append,List.sum_append]
 simp only [List.map_cons,List.map_nil,List.sum_cons,List.sum_nil,Int.add_zero,show((n.toNat:Nat):Int)=n by omega]
structure za(D:DB)(p:Int)(l:List I64)(n:Int):Prop where
 len:l.length=D.S
 val:∀q:Int,0≤q→q<(D.S:Int)→(l.getD q.toNat (I64.mk 0)).v=D.named p n q
theorem gO(D:DB)(p q:Int) {n:Int}(h:0≤n):D.named p (n+1) q=D.named p n q+(if D.word p n !=0 && aN (D.word p n)==q then 1 else 0):=dD h
theorem za.zero(D:DB)(p:Int)(n:Nat)(h:n=D.S):za D p (List.replicate n (I64.mk 0)) 0:=
 ⟨by simp [h],fun q h1 h2=>by rw [List.getD_eq_getElem?_getD,List.getElem?_replicate,if_pos (by omega)];rfl⟩
theorem za.skip {D:DB} {p n:Int} {l:List I64}(h:za D p l n)(h0:0≤n)(hw:D.word p n=0):za D p l (n+1):=
 ⟨h.len,fun q h1 h2=>by rw [h.val q h1 h2,gO D p q h0,hw];simp⟩
theorem za.put {D:DB} {p n:Int} {l:List I64}(h:za D p l n)(h0:0≤n∧n<256)(hw:¬D.word p n=0)(hp:0≤aN (D.word p n)∧aN (D.word p n)<(D.S:Int)):
 za D p (l.set (aN (D.word p n)).toNat (I64.mk (i64.wrap ((l.getD (aN (D.word p n)).toNat (I64.mk 0)).v+1)))) (n+1):=by
 refine⟨by simp [h.len],fun q h1 h2=>?_⟩
 have hr:=mY (f:=fun i=>D.word p i !=0 && aN (D.word p i)==aN (D.word p n)) h0.1
 have W3:=ir (f:=fun i=>D.word p i !=0 && aN (D.word p i)==aN (D.word p n)) (n:=n)
 have hv:=h.val _ hp.1 hp.2
 rw [gO D p q h0.1,List.getD_eq_getElem?_getD,List.getElem?_set]
 by_cases hq:aN (D.word p n)=q
 ·subst hq
  rw [if_pos rfl,if_pos (by rw [h.len];omega)]
  show i64.wrap _=_
  rw [hv]
  unfold DB.named at *
  rw [aq (by omega)]
  simp [hw]
 ·rw [if_neg (by omega),← List.getD_eq_getElem?_getD,h.val q h1 h2]
  simp [hq]
theorem vQ {E:Pd} {m:Mem}(h:m.Wf)(p lo:Int)(n:Nat):∀x∈(E.on m).some_ p lo n,0≤x.v∧x.v<4294967296:=by
 intro x hx
 obtain⟨i,_,rfl⟩:=List.mem_map.1 hx
 exact fD h p _
end
section
set_option maxRecDepth 100000
set_option maxHeartbeats 1000000
attribute [local irreducible] Vc2 VcD
attribute [local grind=] Pd.cI Pd.cg Pd.iH Pd.iS Pd.gi Pd.eJ Pd.eY Pd.fw Pd.lB Pd.rY
attribute [local grind .] Pd.Ok.ent
attribute [local grind→] Pd.Ok.eg
def gU:Ctr Un:=⟨[.one (.int .u32)],[],[],[],fun v K=>(0≤(v:Int)∧(v:Int)<4294967296)∧K ⟨(.tuple #[(.int .i64 (vaI v)),(.int .i64 (vaJ v)),(.int .i64 (vaO v)),(.int .i64 (fj v))]),(some (.t [none,none,none,none])),[],[],[]⟩⟩
def Gw(v:Int)(Q:Ou Un→Prop):Prop:=
 ∃J:Bool→Prop,(
  split (decide (v≥1073741824)) (
   J true) (
   J ((v.tmod 4) !=0)))∧∀(OO:Nat→Value)(Nj:Bool),J Nj→
 split Nj (
  Q ⟨(.tuple #[(.int .i64 0),(.int .i64 0),(.int .i64 0),(.int .i64 91)]),(some (.t [none,none,none,none])),[],[],[]⟩) (
  Q ⟨(.tuple #[(.int .i64 (i64.wrap (v.fdiv (2 ^ 22)))),(.int .i64 (i64.wrap (u32.wrap (BitVec.ofInt u32.bits (v.fdiv (2 ^ 12)) &&& BitVec.ofInt u32.bits 1023).toNat))),(.int .i64 (i64.wrap (u32.wrap (BitVec.ofInt u32.bits (v.fdiv (2 ^ 2)) &&& BitVec.ofInt u32.bits 1023).toNat))),(.int .i64 0)]),(some (.t [none,none,none,none])),[],[],[]⟩)
theorem Gx:Vc2 Un prog (aU []) [] Tryz.f220 (.r' (.two (.two (.node [] (some ⟨[(12,(.one .bool))],[],upN 6 7,[]⟩) [] [] .leaf .leaf) .leaf) .leaf)) [] gU=(∀v,∀Q,(gU.body v Q)→Gw v Q):=by kernel_rfl
theorem xT:LV Un prog 220 gU:=verify Tryz.func220 aj (tb:= []) trivial (by kernel_rfl) (Gx.mpr fun v Q h=>by
 obtain⟨NF,h⟩:=h
 exact bS ((decide ((v:Int)≥1073741824)) || (((v:Int).tmod 4:Int) !=0)) (ao (fun c1=>(by grind)) fun c1=>(by grind))<| aW (fun c2=>aL h (by(have tm:=Int.tmod_eq_emod_of_nonneg (a:=v) (b:=4) NF.1);rw [tm]at c2;(have h:fj v=91:=by grind [fj]);simp [vaI,vaJ,vaO,h]) rfl rfl) fun c2=>aL h (by(have tm:=Int.tmod_eq_emod_of_nonneg (a:=v) (b:=4) NF.1);rw [tm]at c2;(have h:fj v=0:=by grind [fj]);rw [lF,lF,lF,Gi (x:=v / 2 ^ 12) (by omega),Gi (x:=v / 2 ^ 2) (by omega),aq (by omega),aq (by omega),aq (by omega)];simp [vaI,vaJ,vaO,h]) rfl rfl)
def vn:Ctr Un:=⟨[.agg [.any,.int .i64,.int .i64]],[(0,0)],[.ob 0 []],[0],fun pv ay off rm m K=>pv=Value.pointer (some (Addr.mk (rm 0) 0 none))∧K ⟨(.int .u32 (m.aT true ay off)),none,[.ob 0 m],[],[]⟩⟩
theorem Jm:LV Un prog 185 vn:=by
 show ∀(pv:Value)(ay:Int)(off:Int)(rm:Nat→Nat)(m:Mem),∀Q:Ou Un→Prop,(pv=Value.pointer (some (Addr.mk (rm 0) 0 none))∧Q ⟨(.int .u32 (m.aT true ay off)),none,[.ob 0 m],[],[]⟩)→∀(X:Nat→Nat→Prop)(w:World),Sat (U:=Un) [(.ob 0 rm m)] X w→aE (U:=Un) [(.ob 0 rm m)] fr0 []→Calls prog 185 #[(.agg #[pv,(.int .i64 ay),(.int .i64 off)])] w (bP (U:=Un) [(.ob 0 rm m)] [0] X w Q)
 intro pv ay off rm m Q hQ X w hs hl
 obtain⟨rfl,hQ⟩:=hQ
 obtain⟨L,hg,hM,hX⟩:=tu hs
 rw [hg]
 refine(LF hM ay off).mono ?_
 rintro e w' ⟨u,rfl,rfl,h2,q⟩
 exact bP.one (Z:=X 0) (q.mono fun k hk=>(hX k).1 hk) (show dI 0 rm _ (X 0) w' from⟨L,hg,hX,h2⟩) (fun k hk=>.inl hk) hQ trivial
def yz:Ctr Un:=⟨[.one (.obj 0 0),.one (.int .i64),.one (.int .i64)],[],[.ob 1 [(1,1,0)],.ob 0 []],[],fun ay off r E rm m K=>K ⟨(.agg #[(.func (.func 185) #[(.agg #[(.pointer (some (Addr.mk (rm 0) 0 none))),(.int .i64 ay),(.int .i64 off)])] #[]),(.func (.func 186) #[(.agg #[(.pointer (some (Addr.mk (rm 0) 0 none))),(.int .i64 ay),(.int .i64 off)])] #[])]),none,[],[],[]⟩⟩
def Ms(ay:Int)(off:Int)(r:Nat→Nat)(E:Pd)(rm:Nat→Nat)(m:Mem)(Q:Ou Un→Prop):Prop:=
 Pd.Ok E→
 Mem.Wf m→
 ∀(gv:Nat),
 (some (.pointer (some (Addr.mk (rm 0) 0 none))):Option Value)=some (.pointer (some (Addr.mk (rm 0) 0 none)))∧
 ∀(Nd:Nat),
 Q ⟨(.agg #[(.func (.func 185) #[(.agg #[(.pointer (some (Addr.mk (rm 0) 0 none))),(.int .i64 ay),(.int .i64 off)])] #[]),(.func (.func 186) #[(.agg #[(.pointer (some (Addr.mk (rm 0) 0 none))),(.int .i64 ay),(.int .i64 off)])] #[])]),none,[],[],[]⟩
theorem Mt:Vc2 Un prog (aU [(32,dg)]) [] Tryz.f134 .leaf [] yz=(∀ay off r (E:Pd) rm (m:Mem),∀Q,(yz.body ay off r E rm m Q)→Ms ay off r E rm m Q):=by kernel_rfl
theorem Mr:LV Un prog 134 yz:=verify Tryz.func134 aj (tb:= [(32,dg)]) ⟨jk,trivial⟩ (by kernel_rfl) (Mt.mpr fun ay off r E rm m Q h f1 f2 gv=>ak (by rfl) fun s3 Nd=>h)
def nB:Ctr Un:=⟨[.one (.obj 0 0),.one (.int .i64),.one (.int .i64),.one (.int .i64)],[],[.ob 1 [(1,1,0)],.ob 0 []],[],fun s p t r E rm m K=>E.n=m.S∧K ⟨(.bool ((E.on m).of p t s)),none,[],[],[]⟩⟩
def Jo(s:Int)(p:Int)(t:Int)(r:Nat→Nat)(E:Pd)(rm:Nat→Nat)(m:Mem)(Q:Ou Un→Prop):Prop:=
 Pd.Ok E→
 Mem.Wf m→
 E.n=m.S∧
 ∀(gv:Nat),
 ∃J:Bool→Prop,(
  split (((E.on m).bq p)==0) (
   split (((E.on m).entry p).typ==t) (
    J (((E.on m).entry p).owner==s)) (
    J false)) (
   J false))∧∀(Nt:Nat→Value)(x8:Bool),J x8→
 Q ⟨(.bool x8),none,[],[],[]⟩
theorem Jp:Vc2 Un prog (aU [(71,ff)]) [] Tryz.f135 (.r' (.r' (.two (.node [] (some ⟨[(8,(.one .bool))],[],[8]++upN 17 14,[]⟩) [] [] .leaf .leaf) .leaf))) [] nB=(∀s p t r (E:Pd) rm (m:Mem),∀Q,(nB.body s p t r E rm m Q)→Jo s p t r E rm m Q):=by kernel_rfl
section
attribute [local grind=] DB.entry DB.bq DB.of DB.is
theorem Jn:LV Un prog 135 nB:=verify Tryz.func135 aj (tb:= [(71,ff)]) ⟨nG,trivial⟩ (by kernel_rfl) (Jp.mpr fun s p t r E rm m Q h=>by
 obtain⟨NF,h⟩:=h
 exact fun f1 f2=>ak ‹_› fun s3 gv=>bS (((((E.on m).bq p):Int)==0) && (((((E.on m).entry p).typ:Int)==t) && ((((E.on m).entry p).owner:Int)==s))) (ao (fun c1=>ao (fun c2=>(by grind)) fun c2=>(by grind)) fun c1=>(by grind))<| bG h (by grind))
end
def kF:Ctr Un:=⟨[.one (.obj 0 0),.one (.int .i64)],[],[.ob 1 [(1,1,0)],.ob 0 []],[1],fun s r E rm m K=>E.n=m.S∧K ⟨(.tuple #[(.int .i64 ((E.on m).tbl s)),(.int .i64 ((E.on m).fQ s))]),(some (.t [none,none])),[.ob 0 m],[],[]⟩⟩
def G6(s:Int)(r:Nat→Nat)(E:Pd)(rm:Nat→Nat)(m:Mem)(Q:Ou Un→Prop):Prop:=
 Pd.Ok E→
 Mem.Wf m→
 E.n=m.S∧
 ∀(gv:Nat),
 ∀NQ:Bool,NQ=((((E.on m).bq s):Int) !=0)→
 split NQ (
  Q ⟨(.tuple #[(.int .i64 0),(.int .i64 5)]),(some (.t [none,none])),[.ob 0 m],[],[]⟩) (
  ∀Po:Bool,Po=((((E.on m).entry s).typ:Int) !=1)→
  split Po (
   Q ⟨(.tuple #[(.int .i64 0),(.int .i64 124)]),(some (.t [none,none])),[.ob 0 m],[],[]⟩) (
   ∀NI:Bool,NI=((((E.on m).entry s).state:Int)==3)→
   split NI (
    Q ⟨(.tuple #[(.int .i64 0),(.int .i64 3)]),(some (.t [none,none])),[.ob 0 m],[],[]⟩) (
    (.pointer (some (Addr.mk (rm 0) 0 none)))=Value.pointer (some (Addr.mk (rm 0) 0 none))∧
    ∀(m1:Mem),m1=m→
    Mem.Wf m1→
    ∃J:Bool→Prop,(
     E.n=m1.S∧
     split (decide ((i64.wrap (m.aT true s 0))≥(E.on m1).S)) (
      J true) (
      E.n=m1.S∧
      J (!((E.on m1).of (i64.wrap (m.aT true s 0)) 3 s))))∧∀(Nt:Nat→Value)(PA:Bool),J PA→
    split PA (
     Q ⟨(.tuple #[(.int .i64 0),(.int .i64 124)]),(some (.t [none,none])),[.ob 0 m1],[],[]⟩) (
     Q ⟨(.tuple #[(.int .i64 (i64.wrap (m.aT true s 0))),(.int .i64 0)]),(some (.t [none,none])),[.ob 0 m1],[],[]⟩))))
theorem G7:Vc2 Un prog (aU [(71,ff),(134,yz),(185,vn),(70,kO),(135,nB)]) [15,18,22] Tryz.f76 (.r' (.r' (.r' (.r' (.two (.two (.node [] (some ⟨[(43,(.one .bool))],[],upN 31 13,[]⟩) [] [] .leaf .leaf) .leaf) .leaf))))) [] kF=(∀s r (E:Pd) rm (m:Mem),∀Q,(kF.body s r E rm m Q)→G6 s r E rm m Q):=by kernel_rfl
section
attribute [local grind=] DB.entry DB.bq DB.of DB.is DB.tbl DB.fQ DB.word
theorem G5:LV Un prog 76 kF:=verify Tryz.func76 aj (tb:= [(71,ff),(134,yz),(185,vn),(70,kO),(135,nB)]) ⟨nG,Mr,Jm,yW,Jn,trivial⟩ (by kernel_rfl) (G7.mpr fun s r E rm m Q h=>by
 obtain⟨NF,h⟩:=h
 exact fun f1 f2=>(by(have hwr:=fun(p o:Int)=>fD (E:=E) f2 p o);(have hwi:=fun(p o:Int)=>aq (x:=m.aT true p o) (by have:=hwr p o;simp only [DB.word,Pd.eJ]at this;omega));exact ak ‹_› fun s3 gv=>allEq<| aV (fun c1=>aL h (congrArg (fun l=>Value.tuple (List.toArray l)) (ai (bj (by grind)) (ai (bj (by grind)) rfl))) rfl rfl) fun c1=>allEq<| aV (fun c2=>aL h (congrArg (fun l=>Value.tuple (List.toArray l)) (ai (bj (by grind)) (ai (bj (by grind)) rfl))) rfl rfl) fun c2=>allEq<| aO (fun c3=>aL h (congrArg (fun l=>Value.tuple (List.toArray l)) (ai (bj (by grind)) (ai (bj (by grind)) rfl))) rfl rfl) fun c3=>ak (by grind) fun s4 m1 Nq f5=>bS ((decide ((i64.wrap (m.aT true s 0):Int)≥((E.on m1).S:Int))) || (!((E.on m1).of (i64.wrap (m.aT true s 0)) 3 s))) (ak (by grind) fun s6=>ao (fun c4=>(by grind)) fun c4=>ak ‹_› fun s7=>(by grind))<| aW (fun c5=>(by subst Nq;have hwq:=hwi s 0;exact aL h (congrArg (fun l=>Value.tuple (List.toArray l)) (ai (bj (by grind)) (ai (bj (by grind)) rfl))) (ai (uO0 (by grind)) rfl) rfl)) fun c5=>(by subst Nq;have hwq:=hwi s 0;exact aL h (congrArg (fun l=>Value.tuple (List.toArray l)) (ai (bj (by grind)) (ai (bj (by grind)) rfl))) (ai (uO0 (by grind)) rfl) rfl)))
end
section
attribute [local grind=] DB.entry DB.bq DB.of DB.is DB.Bi
end
section
attribute [local grind=] DB.entry DB.bq DB.of DB.is DB.word DB.Gs DB.add Pd.ka Mem.dJ
end
section
attribute [local grind=] DB.entry DB.bq DB.of DB.is DB.word DB.gM DB.plP DB.eC
end
section
attribute [local grind=] DB.entry DB.bq DB.of DB.is DB.word DB.gM DB.plP DB.eC
end
section
attribute [local grind=] DB.entry DB.bq DB.of DB.is DB.word DB.gM DB.plP DB.eC
end
section
attribute [local grind=] DB.entry DB.bq DB.of DB.is DB.word DB.gM DB.plP DB.eC DB.Fb DB.put Pd.ka Mem.dJ
end
end
end Go.Proofs.YtfmcaoaaiganbaaGreatDoor
namespace Go.Proofs.YtfmcaoaaiganbaaGreatDoor
open Go.Proofs.Tryz (prog)
open Go Go.RowKit V
open Go.IntKind (i64 u32 u64)
namespace Mem
def lA(m:Mem)(l1 i:Int):Int:=if m.err true l1 i≠0 then m.err true l1 i else if eX (m.aT true l1 i)=0∧m.has true (aN (m.aT true l1 i))=false then 90 else eX (m.aT true l1 i)
def tbP(m:Mem)(l1 i:Int):Int:=if m.lA l1 i=0 then aN (m.aT true l1 i)else 0
def mI(m:Mem)(l2 j:Int):Int:=if m.err true l2 j≠0 then m.err true l2 j else if eQ (m.aT true l2 j)=0∧m.has (bD (m.aT true l2 j)).aX (bD (m.aT true l2 j)).ay=false then 90 else eQ (m.aT true l2 j)
def pcM(m:Mem)(l2 j:Int):Mp:=if m.mI l2 j=0 then bD (m.aT true l2 j)else Mp.nil
def ox(m:Mem)(l1 va:Int):Int:=if fj va≠0 then fj va else if m.lA l1 (vaI va)≠0 then m.lA l1 (vaI va)else m.mI (m.tbP l1 (vaI va)) (vaJ va)
def wkM(m:Mem)(l1 va:Int):Mp:=if fj va=0∧m.lA l1 (vaI va)=0 then m.pcM (m.tbP l1 (vaI va)) (vaJ va)else Mp.nil
def jP(m:Mem)(l1 va a:Int):Int:=if m.ox l1 va≠0 then m.ox l1 va else if a=0∨(a=1∧(m.wkM l1 va).write=true)∨(a=2∧(m.wkM l1 va).exec=true)then 0 else 93
def trS(m:Mem)(l1 va a:Int):Bool:=m.jP l1 va a==0 && (m.wkM l1 va).aX
def trP(m:Mem)(l1 va a:Int):Int:=if m.jP l1 va a=0 then(m.wkM l1 va).ay else 0
def trO(m:Mem)(l1 va a:Int):Int:=if m.jP l1 va a=0 then vaO va else 0
end Mem
theorem zz {w:Int}(h:¬eX w=0):aN w=0:=by unfold eX at h;unfold aN;split at h<;>first | (subst_vars;rfl) | (split at h<;>grind)
theorem jx {w:Int}(h:¬eQ w=0):bD w=Mp.nil:=by
 unfold eQ at h
 unfold bD
 grind
end Go.Proofs.YtfmcaoaaiganbaaGreatDoor
namespace Go.Proofs.YtfmcaoaaiganbaaGreatDoor
open Go.Proofs.Tryz (prog)
open Go Go.RowKit V
open Go.IntKind (i64 u32 u64)
section
set_option maxRecDepth 100000
set_option maxHeartbeats 1000000
attribute [local irreducible] Vc2 VcD
def eL:Ctr Un:=⟨[.one (.int .i64)],[],[],[],fun p K=>K ⟨(.agg #[(.bool true),(.int .i64 p)]),none,[],[],[]⟩⟩
def z9(p:Int)(Q:Ou Un→Prop):Prop:=
 ∀(gv:Nat),
 Q ⟨(.agg #[(.bool true),(.int .i64 p)]),none,[],[],[]⟩
theorem Aa:Vc2 Un prog (aU []) [] Tryz.f237 .leaf [] eL=(∀p,∀Q,(eL.body p Q)→z9 p Q):=by kernel_rfl
theorem qX:LV Un prog 237 eL:=verify Tryz.func237 aj (tb:= []) trivial (by kernel_rfl) (Aa.mpr fun p Q h gv=>h)
def ku:Ctr Un:=⟨[.one (.obj 0 0),.one (.int .i64),.one (.int .i64)],[],[.ob 0 []],[0],fun l1 i rm m K=>K ⟨(.tuple #[(.int .i64 (m.tbP l1 i)),(.int .i64 (m.lA l1 i))]),(some (.t [none,none])),[.ob 0 m],[],[]⟩⟩
def Gu(l1:Int)(i:Int)(rm:Nat→Nat)(m:Mem)(Q:Ou Un→Prop):Prop:=
 Mem.Wf m→
 ∀(m1:Mem),m1=m→
 Mem.Wf m1→
 split ((m.err true l1 i) !=0) (
  Q ⟨(.tuple #[(.int .i64 0),(.int .i64 (m.err true l1 i))]),(some (.t [none,none])),[.ob 0 m1],[],[]⟩) (
  (0≤(m.aT true l1 i)∧(m.aT true l1 i)<4294967296)∧
  ∃J:Bool→Prop,(
   split ((eX (m.aT true l1 i))==0) (
    J (!(m1.has true (aN (m.aT true l1 i))))) (
    J false))∧∀(OO:Nat→Value)(Vk:Bool),J Vk→
  split Vk (
   Q ⟨(.tuple #[(.int .i64 0),(.int .i64 90)]),(some (.t [none,none])),[.ob 0 m1],[],[]⟩) (
   Q ⟨(.tuple #[(.int .i64 (aN (m.aT true l1 i))),(.int .i64 (eX (m.aT true l1 i)))]),(some (.t [none,none])),[.ob 0 m1],[],[]⟩))
theorem Gv:Vc2 Un prog (aU [(237,eL),(189,gA),(181,cU),(183,mm)]) [] Tryz.f231 (.r' (.r' (.r' (.r' (.two (.two (.node [] (some ⟨[(35,(.one .bool))],[],upN 27 9,[]⟩) [] [] .leaf .leaf) .leaf) .leaf))))) [] ku=(∀l1 i rm (m:Mem),∀Q,(ku.body l1 i rm m Q)→Gu l1 i rm m Q):=by kernel_rfl
section
attribute [local grind=] Mem.lA Mem.tbP
theorem Gt:LV Un prog 231 ku:=verify Tryz.func231 aj (tb:= [(237,eL),(189,gA),(181,cU),(183,mm)]) ⟨qX,pK,lH,Aw,trivial⟩ (by kernel_rfl) (Gv.mpr fun l1 i rm m Q h f1 m1 Nq f2=>aV (fun c1=>aL h (congrArg (fun l=>Value.tuple (List.toArray l)) (ai (bj (by(grind))) (ai (bj (by(grind))) rfl))) (ai (uO0 (by(grind))) rfl) rfl) fun c1=>ak (dw ‹_› _ _ _) fun s3=>bS ((((eX (m.aT true l1 i)):Int)==0) && (!(m1.has true (aN (m.aT true l1 i))))) (ao (fun c2=>(by grind)) fun c2=>(by grind))<| cE (fun c3=>aL h (congrArg (fun l=>Value.tuple (List.toArray l)) (ai (bj (by(grind))) (ai (bj (by(grind))) rfl))) (ai (uO0 (by(grind))) rfl) rfl) fun c3=>aL h (congrArg (fun l=>Value.tuple (List.toArray l)) (ai (bj (by(grind [zz]))) (ai (bj (by(grind))) rfl))) (ai (uO0 (by(grind))) rfl) rfl)
end
def kz:Ctr Un:=⟨[.one (.obj 0 0),.one (.int .i64),.one (.int .i64)],[],[.ob 0 []],[0],fun l2 j rm m K=>K ⟨(.tuple #[(.agg #[(.bool ((m.pcM l2 j).aX)),(.int .i64 ((m.pcM l2 j).ay)),(.bool ((m.pcM l2 j).write)),(.bool ((m.pcM l2 j).exec))]),(.int .i64 (m.mI l2 j))]),(some (.t [none,none])),[.ob 0 m],[],[]⟩⟩
def Gz(l2:Int)(j:Int)(rm:Nat→Nat)(m:Mem)(Q:Ou Un→Prop):Prop:=
 Mem.Wf m→
 ∀(gv:Nat),
 ∀(m1:Mem),m1=m→
 Mem.Wf m1→
 split ((m.err true l2 j) !=0) (
  Q ⟨(.tuple #[(.agg #[(.bool false),(.int .i64 0),(.bool false),(.bool false)]),(.int .i64 (m.err true l2 j))]),(some (.t [none,none])),[.ob 0 m1],[],[]⟩) (
  (0≤(m.aT true l2 j)∧(m.aT true l2 j)<4294967296)∧
  ∀(Nd:Nat),
  ∃J:Bool→Prop,(
   split ((eQ (m.aT true l2 j))==0) (
    J (!(m1.has ((bD (m.aT true l2 j)).aX) ((bD (m.aT true l2 j)).ay)))) (
    J false))∧∀(Pw:Nat→Value)(OI:Bool),J OI→
  split OI (
   Q ⟨(.tuple #[(.agg #[(.bool false),(.int .i64 0),(.bool false),(.bool false)]),(.int .i64 90)]),(some (.t [none,none])),[.ob 0 m1],[],[]⟩) (
   Q ⟨(.tuple #[(.agg #[(.bool ((bD (m.aT true l2 j)).aX)),(.int .i64 ((bD (m.aT true l2 j)).ay)),(.bool ((bD (m.aT true l2 j)).write)),(.bool ((bD (m.aT true l2 j)).exec))]),(.int .i64 (eQ (m.aT true l2 j)))]),(some (.t [none,none])),[.ob 0 m1],[],[]⟩))
theorem GA:Vc2 Un prog (aU [(237,eL),(189,gA),(182,bY),(183,mm)]) [] Tryz.f232 (.r' (.r' (.r' (.r' (.two (.two (.node [] (some ⟨[(36,(.one .bool))],[],upN 28 9,[]⟩) [] [] .leaf .leaf) .leaf) .leaf))))) [] kz=(∀l2 j rm (m:Mem),∀Q,(kz.body l2 j rm m Q)→Gz l2 j rm m Q):=by kernel_rfl
section
attribute [local grind=] Mem.mI Mem.pcM Mp.nil
theorem Gy:LV Un prog 232 kz:=verify Tryz.func232 aj (tb:= [(237,eL),(189,gA),(182,bY),(183,mm)]) ⟨qX,pK,gV,Aw,trivial⟩ (by kernel_rfl) (GA.mpr fun l2 j rm m Q h f1 gv m1 Nq f2=>aV (fun c1=>aL h (congrArg (fun l=>Value.tuple (List.toArray l)) (ai (congrArg (fun l=>Value.agg (List.toArray l)) (ai (eQb (by(grind))) (ai (bj (by(grind))) (ai (eQb (by(grind))) (ai (eQb (by(grind))) rfl))))) (ai (bj (by(grind))) rfl))) (ai (uO0 (by(grind))) rfl) rfl) fun c1=>ak (dw ‹_› _ _ _) fun s3 Nd=>bS ((((eQ (m.aT true l2 j)):Int)==0) && (!(m1.has ((bD (m.aT true l2 j)).aX) ((bD (m.aT true l2 j)).ay)))) (ao (fun c2=>(by grind)) fun c2=>(by grind))<| cE (fun c3=>aL h (congrArg (fun l=>Value.tuple (List.toArray l)) (ai (congrArg (fun l=>Value.agg (List.toArray l)) (ai (eQb (by(grind))) (ai (bj (by(grind))) (ai (eQb (by(grind))) (ai (eQb (by(grind))) rfl))))) (ai (bj (by(grind))) rfl))) (ai (uO0 (by(grind))) rfl) rfl) fun c3=>aL h (congrArg (fun l=>Value.tuple (List.toArray l)) (ai (congrArg (fun l=>Value.agg (List.toArray l)) (ai (eQb (by(grind [jx]))) (ai (bj (by(grind [jx]))) (ai (eQb (by(grind [jx]))) (ai (eQb (by(grind [jx]))) rfl))))) (ai (bj (by(grind))) rfl))) (ai (uO0 (by(grind))) rfl) rfl)
end
def ng:Ctr Un:=⟨[.one (.obj 0 0),.one (.int .i64),.one (.int .u32)],[],[.ob 0 []],[0],fun l1 va rm m K=>(0≤(va:Int)∧(va:Int)<4294967296)∧K ⟨(.tuple #[(.agg #[(.bool ((m.wkM l1 va).aX)),(.int .i64 ((m.wkM l1 va).ay)),(.bool ((m.wkM l1 va).write)),(.bool ((m.wkM l1 va).exec))]),(.int .i64 (m.ox l1 va))]),(some (.t [none,none])),[.ob 0 m],[],[]⟩⟩
def IP(l1:Int)(va:Int)(rm:Nat→Nat)(m:Mem)(Q:Ou Un→Prop):Prop:=
 Mem.Wf m→
 ∀(gv:Nat),
 (0≤va∧va<4294967296)∧
 split ((fj va) !=0) (
  Q ⟨(.tuple #[(.agg #[(.bool false),(.int .i64 0),(.bool false),(.bool false)]),(.int .i64 (fj va))]),(some (.t [none,none])),[.ob 0 m],[],[]⟩) (
  ∀(m1:Mem),m1=m→
  Mem.Wf m1→
  split ((m.lA l1 (vaI va)) !=0) (
   Q ⟨(.tuple #[(.agg #[(.bool false),(.int .i64 0),(.bool false),(.bool false)]),(.int .i64 (m.lA l1 (vaI va)))]),(some (.t [none,none])),[.ob 0 m1],[],[]⟩) (
   ∀(m2:Mem),m2=m1→
   Mem.Wf m2→
   Q ⟨(.tuple #[(.agg #[(.bool ((m1.pcM (m.tbP l1 (vaI va)) (vaJ va)).aX)),(.int .i64 ((m1.pcM (m.tbP l1 (vaI va)) (vaJ va)).ay)),(.bool ((m1.pcM (m.tbP l1 (vaI va)) (vaJ va)).write)),(.bool ((m1.pcM (m.tbP l1 (vaI va)) (vaJ va)).exec))]),(.int .i64 (m1.mI (m.tbP l1 (vaI va)) (vaJ va)))]),(some (.t [none,none])),[.ob 0 m2],[],[]⟩))
theorem IQ:Vc2 Un prog (aU [(220,gU),(231,ku),(232,kz)]) [] Tryz.f219 .leaf [] ng=(∀l1 va rm (m:Mem),∀Q,(ng.body l1 va rm m Q)→IP l1 va rm m Q):=by kernel_rfl
section
attribute [local grind=] Mem.ox Mem.wkM Mp.nil Mem.pcM
theorem IN:LV Un prog 219 ng:=verify Tryz.func219 aj (tb:= [(220,gU),(231,ku),(232,kz)]) ⟨xT,Gt,Gy,trivial⟩ (by kernel_rfl) (IQ.mpr fun l1 va rm m Q h=>by
 obtain⟨NF,h⟩:=h
 exact fun f1 gv=>ak ‹_› fun s2=>aV (fun c1=>aL h (congrArg (fun l=>Value.tuple (List.toArray l)) (ai (congrArg (fun l=>Value.agg (List.toArray l)) (ai (eQb (by grind)) (ai (bj (by grind)) (ai (eQb (by grind)) (ai (eQb (by grind)) rfl))))) (ai (bj (by grind)) rfl))) rfl rfl) fun c1 m1 Nq f3=>aV (fun c2=>aL h (congrArg (fun l=>Value.tuple (List.toArray l)) (ai (congrArg (fun l=>Value.agg (List.toArray l)) (ai (eQb (by grind)) (ai (bj (by grind)) (ai (eQb (by grind)) (ai (eQb (by grind)) rfl))))) (ai (bj (by grind)) rfl))) (ai (uO0 (by grind)) rfl) rfl) fun c2 m2 Q1 f4=>aL h (congrArg (fun l=>Value.tuple (List.toArray l)) (ai (congrArg (fun l=>Value.agg (List.toArray l)) (ai (eQb (by grind)) (ai (bj (by grind)) (ai (eQb (by grind)) (ai (eQb (by grind)) rfl))))) (ai (bj (by grind)) rfl))) (ai (uO0 (by grind)) rfl) rfl)
end
def fe:Ctr Un:=⟨[.one (.obj 0 0),.one (.int .i64),.one (.int .u32),.one (.int .i64)],[],[.ob 0 []],[0],fun l1 va a rm m K=>(0≤(va:Int)∧(va:Int)<4294967296)∧K ⟨(.tuple #[(.agg #[(.bool (m.trS l1 va a)),(.int .i64 (m.trP l1 va a))]),(.int .i64 (m.trO l1 va a)),(.int .i64 (m.jP l1 va a))]),(some (.t [none,none,none])),[.ob 0 m],[],[]⟩⟩
def ve(l1:Int)(va:Int)(a:Int)(rm:Nat→Nat)(m:Mem)(Q:Ou Un→Prop):Prop:=
 Mem.Wf m→
 ∀(gv:Nat),
 (0≤va∧va<4294967296)∧
 ∀(m1:Mem),m1=m→
 Mem.Wf m1→
 ∀(Nd:Nat),
 split ((m.ox l1 va) !=0) (
  Q ⟨(.tuple #[(.agg #[(.bool false),(.int .i64 0)]),(.int .i64 0),(.int .i64 (m.ox l1 va))]),(some (.t [none,none,none])),[.ob 0 m1],[],[]⟩) (
  ∃J:Bool→Prop,(
   split (a !=0) (
    split (a !=1) (
     split (a !=2) (
      J true) (
      J (!((m.wkM l1 va).exec)))) (
     split (!((m.wkM l1 va).write)) (
      split (a !=2) (
       J true) (
       J (!((m.wkM l1 va).exec)))) (
      J false))) (
    J false))∧∀(Pw:Nat→Value)(x47:Bool),J x47→
  split x47 (
   Q ⟨(.tuple #[(.agg #[(.bool false),(.int .i64 0)]),(.int .i64 0),(.int .i64 93)]),(some (.t [none,none,none])),[.ob 0 m1],[],[]⟩) (
   (0≤va∧va<4294967296)∧
   Q ⟨(.tuple #[(.agg #[(.bool ((m.wkM l1 va).aX)),(.int .i64 ((m.wkM l1 va).ay))]),(.int .i64 (vaO va)),(.int .i64 0)]),(some (.t [none,none,none])),[.ob 0 m1],[],[]⟩))
theorem vf:Vc2 Un prog (aU [(219,ng),(220,gU)]) [] Tryz.f188 (.r' (.r' (.r' (.two (.two (.node [] (some ⟨[(47,(.one .bool))],[],upN 28 20,[]⟩) [] [] .leaf .leaf) .leaf) .leaf)))) [] fe=(∀l1 va a rm (m:Mem),∀Q,(fe.body l1 va a rm m Q)→ve l1 va a rm m Q):=by kernel_rfl
section
attribute [local grind=] Mem.jP Mem.trS Mem.trP Mem.trO
theorem vd:LV Un prog 188 fe:=verify Tryz.func188 aj (tb:= [(219,ng),(220,gU)]) ⟨IN,xT,trivial⟩ (by kernel_rfl) (vf.mpr fun l1 va a rm m Q h=>by
 obtain⟨NF,h⟩:=h
 exact fun f1 gv=>ak ‹_› fun s2 m1 Nq f3 Nd=>aV (fun c1=>aL h (congrArg (fun l=>Value.tuple (List.toArray l)) (ai (congrArg (fun l=>Value.agg (List.toArray l)) (ai (eQb (by grind)) (ai (bj (by grind)) rfl))) (ai (bj (by grind)) (ai (bj (by grind)) rfl)))) (ai (uO0 (by grind)) rfl) rfl) fun c1=>bS (((a:Int) !=0) && (if((a:Int) !=1)=true then(((a:Int) !=2) || (!((m.wkM l1 va).exec)))else((!((m.wkM l1 va).write)) && (((a:Int) !=2) || (!((m.wkM l1 va).exec)))))) (ao (fun c2=>ao (fun c3=>ao (fun c4=>(by grind)) fun c4=>(by grind)) fun c3=>ao (fun c5=>ao (fun c6=>(by grind)) fun c6=>(by grind)) fun c5=>(by grind)) fun c2=>(by grind))<| cE (fun c7=>aL h (congrArg (fun l=>Value.tuple (List.toArray l)) (ai (congrArg (fun l=>Value.agg (List.toArray l)) (ai (eQb (by grind)) (ai (bj (by grind)) rfl))) (ai (bj (by grind)) (ai (bj (by grind)) rfl)))) (ai (uO0 (by grind)) rfl) rfl) fun c7=>ak ‹_› fun s4=>aL h (congrArg (fun l=>Value.tuple (List.toArray l)) (ai (congrArg (fun l=>Value.agg (List.toArray l)) (ai (eQb (by grind)) (ai (bj (by grind)) rfl))) (ai (bj (by grind)) (ai (bj (by grind)) rfl)))) (ai (uO0 (by grind)) rfl) rfl)
end
end
end Go.Proofs.YtfmcaoaaiganbaaGreatDoor
namespace Go.Proofs.YtfmcaoaaiganbaaGreatDoor
open Go.Proofs.Tryz (prog)
open Go Go.RowKit V
open Go.IntKind (i64 u32 u64)
theorem MX(a:Mp)(p:Int)(x y:Bool):bp #[.bool a.aX,.int .i64 a.ay,.bool a.write,.bool a.exec] #[.bool true,.int .i64 p,.bool x,.bool y]=decide (a=⟨true,p,x,y⟩):=by
 obtain⟨s,q,u,v⟩:=a
 rw [Bool.eq_iff_iff]
 simp [bp,eqL,jN]
namespace DB
theorem tl(D:DB):D.pd.on D.mem=D:=rfl
theorem KF(D:DB):D.pd.n=D.mem.S:=rfl
def zG(d:DB)(w:Int):Int:=if eQ w≠0 then eQ w else if d.mem.has (bD w).aX (bD w).ay then 0 else 90
def mpd(d:DB)(w:Int):Mp:=if d.zG w=0 then bD w else Mp.nil
def Gf(d:DB)(s va:Int):Int:=if d.gM s va≠0 then d.gM s va else d.zG (d.word (d.plP s va) (vaJ va))
def atM(d:DB)(s va:Int):Mp:=if d.gM s va≠0 then Mp.nil else d.mpd (d.word (d.plP s va) (vaJ va))
def F2(d:DB)(s va:Int):Int:=if d.gM s va≠0 then d.gM s va else if d.word (d.plP s va) (vaJ va)=0 then 92 else 0
def cut(d:DB)(s va:Int):DB:=if d.F2 s va=0 then d.mK (·.write true (d.plP s va) (vaJ va) 0)else d
def fR(d:DB)(s t r:Int):Int:=if r<(d.S:Int)∧(d.entry r).typ=t∧(d.entry r).owner=s then r else -1
def KQ(d:DB)(s r w:Int):Int:=
 if d.fR s 6 r<0 then 18 else if JI w≠0 then 6 else if d.eC s (wo w)=0 then 0 else if d.eC s (wo w)=140 then 7 else 21
def MK(d:DB)(s r w:Int):DB:=if d.KQ s r w=0 then(d.zk (d.fR s 6 r) 5).put s (wo w) ⟨true,d.fR s 6 r,paW w,paX w⟩else d
def Kc(d:DB)(s r w:Int):Int:=
 if d.fR s 5 r<0 then 19 else if JI w≠0 then 6 else if d.Gf s (wo w)=141 then 21 else if d.Gf s (wo w)=0∧d.atM s (wo w)=⟨true,d.fR s 5 r,paW w,paX w⟩then 0 else 7
def Mz(d:DB)(s r w:Int):DB:=if d.Kc s r w=0 then(d.cut s (wo w)).zk (d.fR s 5 r) 6 else d
def EJ(d:DB)(t:Int):Prop:=d.bq t=0∧(d.entry t).typ=2∧d.bq (d.entry t).owner=0∧(d.entry (d.entry t).owner).typ=1∧(d.entry (d.entry t).owner).state=2∧d.fQ (d.entry t).owner=0
end DB
end Go.Proofs.YtfmcaoaaiganbaaGreatDoor
namespace Go.Proofs.YtfmcaoaaiganbaaGreatDoor
open Go.Proofs.Tryz (prog)
open Go Go.RowKit V
open Go.IntKind (i64 u32 u64)
section
set_option maxRecDepth 100000
def ri(R:aC)(w:World):Prop:=
 ∃x1:Option Nat,∃wv,(Instr.makeMap 148 none:Sem Value).run prog w= .ok (.map x1) wv∧
 ∃M5:World,(Instr.mapUpdate 148 (.map x1) (.int .u32 1) (.func (.func 136) #[] #[]):Sem Unit).run prog wv= .ok () M5∧
 ∃M6:World,(Instr.mapUpdate 148 (.map x1) (.int .u32 2) (.func (.func 137) #[] #[]):Sem Unit).run prog M5= .ok () M6∧
 ∃Na:World,(Instr.mapUpdate 148 (.map x1) (.int .u32 3) (.func (.func 138) #[] #[]):Sem Unit).run prog M6= .ok () Na∧
 ∃Nc:World,(Instr.mapUpdate 148 (.map x1) (.int .u32 4) (.func (.func 139) #[] #[]):Sem Unit).run prog Na= .ok () Nc∧
 ∃No:World,(Instr.mapUpdate 148 (.map x1) (.int .u32 5) (.func (.func 140) #[] #[]):Sem Unit).run prog Nc= .ok () No∧
 ∃NU:World,(Instr.mapUpdate 148 (.map x1) (.int .u32 6) (.func (.func 141) #[] #[]):Sem Unit).run prog No= .ok () NU∧
 ∃NL:World,(Instr.mapUpdate 148 (.map x1) (.int .u32 7) (.func (.func 142) #[] #[]):Sem Unit).run prog NU= .ok () NL∧
 R (.map x1) NL
def Af:Ann:= .leaf
theorem SvCalls_eq(R:aC)(w:World):ri R w=vcF prog aH [] Tryz.f77 Af [] R none w:=by kernel_rfl
theorem sx {R:aC} {w:World}(h:ri R w):Calls prog 77 #[] w fun e w'=>∃v,e= .returned v∧R v w':=
 ar Tryz.func77 aw aj ((SvCalls_eq R w).mp h)
end
end Go.Proofs.YtfmcaoaaiganbaaGreatDoor
namespace Go.Proofs.YtfmcaoaaiganbaaGreatDoor
open Go.Proofs.Tryz (prog)
open Go Go.RowKit V
open Go.IntKind (i64 u32 u64)
def Fl.r0(f:Fl)(x:Int):Fl:=⟨U32.mk x::aI (fun j=>U32.mk (f.rs.getD (j+1) (U32.mk 0)).v) (upN 0 14),f.pc,f.z,f.n,f.l⟩
def Fl.start(pc a b c:Int):Fl:=⟨[U32.mk a,U32.mk b,U32.mk c,U32.mk 0,U32.mk 0,U32.mk 0,U32.mk 0,U32.mk 0,U32.mk 0,U32.mk 0,U32.mk 0,U32.mk 0,U32.mk 0,U32.mk 0,U32.mk 0],pc,false,false,false⟩
theorem HQ(w:World):Calls prog 77 #[] w fun e w'=>∃v,e= .returned v∧∃g,v= .map (some g)∧ml w' g clL∧w.heap.size≤g∧Pu w w':=by
 refine sx ?_
 have tm:prog.underlying 148=some (.map 23 146):=by kernel_rfl
 have tk:prog.underlying 23=some (.int .u32):=by kernel_rfl
 have h0:=ml.made w
 obtain⟨w1,r1,h1,c1⟩:=gK (v:= .func (.func 136) #[] #[]) tm tk h0 (i:=1) rfl
 obtain⟨w2,r2,h2,c2⟩:=gK (v:= .func (.func 137) #[] #[]) tm tk h1 (i:=2) rfl
 obtain⟨w3,r3,h3,c3⟩:=gK (v:= .func (.func 138) #[] #[]) tm tk h2 (i:=3) rfl
 obtain⟨w4,r4,h4,c4⟩:=gK (v:= .func (.func 139) #[] #[]) tm tk h3 (i:=4) rfl
 obtain⟨w5,r5,h5,c5⟩:=gK (v:= .func (.func 140) #[] #[]) tm tk h4 (i:=5) rfl
 obtain⟨w6,r6,h6,c6⟩:=gK (v:= .func (.func 141) #[] #[]) tm tk h5 (i:=6) rfl
 obtain⟨w7,r7,h7,c7⟩:=gK (v:= .func (.func 142) #[] #[]) tm tk h6 (i:=7) rfl
 refine⟨some w.heap.size,_,run_makeMap ..,w1,r1,w2,r2,w3,r3,w4,r4,w5,r5,w6,r6,w7,r7,w.heap.size,rfl,h7,Nat.le_refl _,?_⟩
 have p0:Pu w (w.alloc (.map #[] 0)):=⟨⟨rfl,rfl,rfl,(by show _≤(w.heap.push _).size;rw [Array.size_push];omega),fun k hk=>(MapKept.heap_alloc w _).2 k hk.1⟩⟩
 have q:∀k,k=w.heap.size→False∨w.heap.size≤k:=fun k e=>.inr (by omega)
 exact((((((p0.call c1 q).call c2 q).call c3 q).call c4 q).call c5 q).call c6 q).call c7 q
def Nst.draw(s:Nst)(birth taken:Int):Int:=
 if birth<0∨(s.hs.length:Int)≤birth∨taken<0∨((s.l birth.toNat).length:Int)≤taken then 0 else((s.l birth.toNat).getD taken.toNat (U32.mk 0)).v
def Mem.drawn(m:Mem)(sp:Int):Mem:=if m.aT true sp 2<4096 then m.write true sp 2 (u32.wrap (m.aT true sp 2+1))else m
section
def jR(f:Nat→Int)(n k:Nat):List U32:=(List.range k).map (fun i=>U32.mk (f i))++List.replicate (n - k) (U32.mk 0)
theorem mW {f:Nat→Int} {n k:Nat}(hk:k≤n):(jR f n k).length=n:=by unfold jR;simp;omega
theorem k8 {f:Nat→Int} {n:Nat} {i:Int} {l:List U32}(hl:l=jR f n i.toNat)(hi:0≤i∧i<(n:Int))(hn:n<1000000) {x:Int}(hx:x=f i.toNat):l.set i.toNat (U32.mk x)=jR f n (i64.wrap (i+1)).toNat:=by
 subst hl hx
 obtain⟨k,rfl⟩:∃k:Nat,i=(k:Int):=⟨i.toNat,by omega⟩
 rw [aq (by omega),show((k:Int)+1).toNat=k+1 by omega,Int.toNat_natCast]
 unfold jR
 rw [List.set_append_right _ _ (by simp),List.range_succ,List.map_append,List.append_assoc]
 congr 1
 rw [show n - k=(n - (k+1))+1 by omega,List.replicate_succ]
 simp
theorem wZ {f:Nat→Int} {n k i:Nat}(hi:i<k):((jR f n k).getD i (U32.mk 0)).v=f i:=by
 unfold jR
 rw [List.getD_eq_getElem?_getD,List.getElem?_append_left (by simp;omega),List.getElem?_map,List.getElem?_range hi];rfl
theorem FR {f:Nat→Int} {n k:Nat}(h:∀i,0≤f i∧f i<4294967296)(j:Nat):0≤((jR f n k).getD j (U32.mk 0)).v∧((jR f n k).getD j (U32.mk 0)).v<4294967296:=by
 rw [List.getD_eq_getElem?_getD]
 cases hj:(jR f n k)[j]? with
 | none=>exact⟨by decide,by decide⟩
 | some x=>
  rcases List.mem_append.1 (List.mem_of_getElem? hj)with hx | hx
  ·obtain⟨i,_,rfl⟩:=List.mem_map.1 hx
   exact h i
  ·rw [List.eq_of_mem_replicate hx];exact⟨by decide,by decide⟩
namespace Mem
def aM(m:Mem)(s:Int):S8:=⟨m.aT true s 3,m.aT true s 4,m.aT true s 5,m.aT true s 6,m.aT true s 7,m.aT true s 8,m.aT true s 9,m.aT true s 10⟩
theorem Il {m:Mem}(h:m.Wf)(s:Int):(m.aM s).ok:=⟨dw h _ _ _,dw h _ _ _,dw h _ _ _,dw h _ _ _,dw h _ _ _,dw h _ _ _,dw h _ _ _,dw h _ _ _⟩
def vA(va i:Int):Int:=u32.wrap (va+u32.wrap (4*u32.wrap i))
def HN(m:Mem)(tb va i:Int):Int:=m.jP tb (vA va i) 0
def vW(m:Mem)(tb va i:Int):Int:=m.aT (m.trS tb (vA va i) 0) (m.trP tb (vA va i) 0) (m.trO tb (vA va i) 0)
def vOk(m:Mem)(tb va:Int):Bool:=(List.range 24).all fun i=>m.HN tb va (i:Int)==0
def vS(m:Mem)(tb va k:Int):S8:=⟨m.vW tb va k,m.vW tb va (k+1),m.vW tb va (k+2),m.vW tb va (k+3),m.vW tb va (k+4),m.vW tb va (k+5),m.vW tb va (k+6),m.vW tb va (k+7)⟩
def vF(m:Mem)(tb va:Int)(k:Nat):List U32:=jR (fun i=>m.vW tb va (i:Int)) 24 k
theorem kQ {m:Mem} {tb va:Int}:m.vOk tb va=true↔∀i,i<24→m.HN tb va (i:Nat)=0:=by
 unfold vOk
 rw [List.all_eq_true]
 simp only [List.mem_range,beq_iff_eq]
def vR(kk:List Int)(key:S8)(m:Mem)(tb va:Int):Int:=if m.vOk tb va=true then(if bO kk key (m.vS tb va 0) (m.vS tb va 8)=m.vS tb va 16 then 1 else 0)else va
theorem zg {kk:List Int} {key:S8} {m:Mem} {tb va:Int}(h:m.vOk tb va=false):m.vR kk key tb va=va:=by unfold vR;rw [h];rfl
theorem Ka {kk:List Int} {key:S8} {m:Mem} {tb va:Int}(h:m.vOk tb va=true)(h2:bO kk key (m.vS tb va 0) (m.vS tb va 8)=m.vS tb va 16):m.vR kk key tb va=1:=by unfold vR;rw [if_pos h,if_pos h2]
theorem Lt {kk:List Int} {key:S8} {m:Mem} {tb va:Int}(h:m.vOk tb va=true)(h2:¬bO kk key (m.vS tb va 0) (m.vS tb va 8)=m.vS tb va 16):m.vR kk key tb va=0:=by unfold vR;rw [if_pos h,if_neg h2]
end Mem
def Fl.s8(f:Fl):S8:=⟨(f.rs.getD 1 (U32.mk 0)).v,(f.rs.getD 2 (U32.mk 0)).v,(f.rs.getD 3 (U32.mk 0)).v,(f.rs.getD 4 (U32.mk 0)).v,(f.rs.getD 5 (U32.mk 0)).v,(f.rs.getD 6 (U32.mk 0)).v,(f.rs.getD 7 (U32.mk 0)).v,(f.rs.getD 8 (U32.mk 0)).v⟩
def Fl.lay(f:Fl)(s:S8):Fl:=⟨[U32.mk (f.rs.getD 0 (U32.mk 0)).v,U32.mk s.a,U32.mk s.b,U32.mk s.c,U32.mk s.d,U32.mk s.e,U32.mk s.f,U32.mk s.g,U32.mk s.h,U32.mk (f.rs.getD 9 (U32.mk 0)).v,U32.mk (f.rs.getD 10 (U32.mk 0)).v,U32.mk (f.rs.getD 11 (U32.mk 0)).v,U32.mk (f.rs.getD 12 (U32.mk 0)).v,U32.mk (f.rs.getD 13 (U32.mk 0)).v,U32.mk (f.rs.getD 14 (U32.mk 0)).v],f.pc,f.z,f.n,f.l⟩
def Fl.r1(f:Fl)(x:Int):Fl:=⟨U32.mk (f.rs.getD 0 (U32.mk 0)).v::U32.mk x::aI (fun j=>U32.mk (f.rs.getD (j+2) (U32.mk 0)).v) (upN 0 13),f.pc,f.z,f.n,f.l⟩
def Fl.Rg(f:Fl):Prop:=∀j,0≤(f.rs.getD j (U32.mk 0)).v∧(f.rs.getD j (U32.mk 0)).v<4294967296
theorem Fl.Rg.s8 {f:Fl}(h:f.Rg):f.s8.ok:=⟨h _,h _,h _,h _,h _,h _,h _,h _⟩
theorem Fl.Rg.norm {f:Fl}(h:f.Rg):(Fl.norm f).Rg:=by
 intro j
 have e:(Fl.norm f).rs=aI (fun i=>U32.mk (f.rs.getD i (U32.mk 0)).v) (upN 0 15):=rfl
 rw [e,List.getD_eq_getElem?_getD]
 cases hj:(aI (fun i=>U32.mk (f.rs.getD i (U32.mk 0)).v) (upN 0 15))[j]? with
 | none=>exact⟨by decide,by decide⟩
 | some x=>
  rw [← aK,bo]at hj
  cases hn:nth (upN 0 15) j with
  | none=>rw [hn]at hj;cases hj
  | some i=>rw [hn]at hj;injection hj with hj;rw [← hj];exact h i
namespace DB
def Kk(d:DB)(s tb r i:Int):Int:=if d.fR s 6 r<0 then 18 else if i>255 then 16 else if d.word tb i≠0 then 7 else 0
def MB(d:DB)(s tb r i:Int):DB:=if d.Kk s tb r i=0 then(d.zk (d.fR s 6 r) 4).add s i (d.fR s 6 r)else d
def zm(d:DB)(tb s n r w:Int):Int:=if n=1∨n=6∨n=7 then 0 else if n=2 then(if d.mem.vOk tb r=true then 0 else 20)else if n=3 then d.KQ s r w else if n=4 then d.Kc s r w else if n=5 then d.Kk s tb r w else 15
def Bf(d:DB)(kk:List Int)(key:S8)(ns:Nst)(tb s n:Int)(f:Fl):Fl:=
 if n=1 then f.lay (bO kk key (d.mem.aM s) f.s8)
 else if n=2 then f.r1 (d.mem.vR kk key tb (f.rs.getD 1 (U32.mk 0)).v)
 else if n=6 then f.r1 (ns.draw (d.mem.aT true s 1) (d.mem.aT true s 2))
 else if n=7 then f.lay (d.mem.aM s)else f
abbrev mw(d:DB)(t:Int):Int:=(d.entry t).owner
def eu(d:DB)(t:Int):Int:=if d.bq t=0∧(d.entry t).typ=2∧d.bq (d.mw t)=0∧(d.entry (d.mw t)).typ=1∧(d.entry (d.mw t)).state=2∧d.fQ (d.mw t)=0 then 0 else 124
def svF(d:DB)(kk:List Int)(key:S8)(ns:Nst)(t n:Int)(f:Fl):Fl:=
 if d.eu t=0 then(if n=0 then Fl.norm f else(d.Bf kk key ns (d.tbl (d.mw t)) (d.mw t) n f).r0 (d.zm (d.tbl (d.mw t)) (d.mw t) n (f.rs.getD 1 (U32.mk 0)).v (f.rs.getD 2 (U32.mk 0)).v))else Fl.zero
section
variable {d:DB} {kk:List Int} {key:S8} {ns:Nst} {t n tb s r w:Int} {f:Fl}
theorem vO(h:d.eu t=0)(hn:n=0):d.svF kk key ns t n f=Fl.norm f:=by unfold svF;rw [if_pos h,if_pos hn]
theorem jY(h:d.eu t=0)(hn:¬n=0):d.svF kk key ns t n f=(d.Bf kk key ns (d.tbl (d.mw t)) (d.mw t) n f).r0 (d.zm (d.tbl (d.mw t)) (d.mw t) n (f.rs.getD 1 (U32.mk 0)).v (f.rs.getD 2 (U32.mk 0)).v):=by unfold svF;rw [if_pos h,if_neg hn]
theorem my:d.svF kk key ns t n (Fl.norm f)=d.svF kk key ns t n f:=by
 by_cases h0:d.eu t=0
 ·by_cases hn:n=0
  ·rw [vO h0 hn,vO h0 hn];rfl
  ·rw [jY h0 hn,jY h0 hn]
   unfold Bf
   by_cases h1:n=1
   ·rw [if_pos h1,if_pos h1];rfl
   rw [if_neg h1,if_neg h1]
   by_cases h2:n=2
   ·rw [if_pos h2,if_pos h2];rfl
   rw [if_neg h2,if_neg h2]
   by_cases h6:n=6
   ·rw [if_pos h6,if_pos h6];rfl
   rw [if_neg h6,if_neg h6]
   by_cases h7:n=7
   ·rw [if_pos h7,if_pos h7];rfl
   rw [if_neg h7,if_neg h7];rfl
 ·unfold svF;rw [if_neg h0,if_neg h0]
theorem Kl:(d.svF kk key ns t n f).Ok:=by unfold svF;split;split;rfl;rfl;rfl
theorem uy:Fl.norm (d.svF kk key ns t n f)=d.svF kk key ns t n f:=Fl.norm_eq Kl
end
end DB
end
end Go.Proofs.YtfmcaoaaiganbaaGreatDoor
namespace Go.Proofs.YtfmcaoaaiganbaaGreatDoor
open Go.Proofs.Tryz (prog)
open Go Go.RowKit V
open Go.IntKind (i64 u32 u64)
section
set_option maxRecDepth 100000
set_option maxHeartbeats 1000000
attribute [local irreducible] Vc2 VcD
attribute [local grind=] Pd.cI Pd.cg Pd.iH Pd.iS Pd.gi Pd.eJ Pd.eY Pd.fw Pd.lB Pd.rY
attribute [local grind .] Pd.Ok.ent
attribute [local grind→] Pd.Ok.eg
def AZ:Ctr Un:=⟨[.agg [.int .u32,.int .u32,.int .u32,.int .u32,.int .u32,.int .u32,.int .u32,.int .u32],.agg [.int .u32,.int .u32,.int .u32,.int .u32,.int .u32,.int .u32,.int .u32,.int .u32],.agg [.int .u32,.int .u32,.int .u32,.int .u32,.int .u32,.int .u32,.int .u32,.int .u32]],[(0,5)],[.ob 5 []],[],fun k0 k1 k2 k3 k4 k5 k6 k7 e0 e1 e2 e3 e4 e5 e6 e7 d0 d1 d2 d3 d4 d5 d6 d7 rk kk K=>(S8.mk e0 e1 e2 e3 e4 e5 e6 e7).ok∧(S8.mk d0 d1 d2 d3 d4 d5 d6 d7).ok∧K ⟨(.agg #[(.int .u32 ((bO kk (S8.mk k0 k1 k2 k3 k4 k5 k6 k7) (S8.mk e0 e1 e2 e3 e4 e5 e6 e7) (S8.mk d0 d1 d2 d3 d4 d5 d6 d7)).a)),(.int .u32 ((bO kk (S8.mk k0 k1 k2 k3 k4 k5 k6 k7) (S8.mk e0 e1 e2 e3 e4 e5 e6 e7) (S8.mk d0 d1 d2 d3 d4 d5 d6 d7)).b)),(.int .u32 ((bO kk (S8.mk k0 k1 k2 k3 k4 k5 k6 k7) (S8.mk e0 e1 e2 e3 e4 e5 e6 e7) (S8.mk d0 d1 d2 d3 d4 d5 d6 d7)).c)),(.int .u32 ((bO kk (S8.mk k0 k1 k2 k3 k4 k5 k6 k7) (S8.mk e0 e1 e2 e3 e4 e5 e6 e7) (S8.mk d0 d1 d2 d3 d4 d5 d6 d7)).d)),(.int .u32 ((bO kk (S8.mk k0 k1 k2 k3 k4 k5 k6 k7) (S8.mk e0 e1 e2 e3 e4 e5 e6 e7) (S8.mk d0 d1 d2 d3 d4 d5 d6 d7)).e)),(.int .u32 ((bO kk (S8.mk k0 k1 k2 k3 k4 k5 k6 k7) (S8.mk e0 e1 e2 e3 e4 e5 e6 e7) (S8.mk d0 d1 d2 d3 d4 d5 d6 d7)).f)),(.int .u32 ((bO kk (S8.mk k0 k1 k2 k3 k4 k5 k6 k7) (S8.mk e0 e1 e2 e3 e4 e5 e6 e7) (S8.mk d0 d1 d2 d3 d4 d5 d6 d7)).g)),(.int .u32 ((bO kk (S8.mk k0 k1 k2 k3 k4 k5 k6 k7) (S8.mk e0 e1 e2 e3 e4 e5 e6 e7) (S8.mk d0 d1 d2 d3 d4 d5 d6 d7)).h))]),none,[],[],[]⟩⟩
theorem Lo:LV Un prog 187 AZ:=by
 show ∀(k0:Int)(k1:Int)(k2:Int)(k3:Int)(k4:Int)(k5:Int)(k6:Int)(k7:Int)(e0:Int)(e1:Int)(e2:Int)(e3:Int)(e4:Int)(e5:Int)(e6:Int)(e7:Int)(d0:Int)(d1:Int)(d2:Int)(d3:Int)(d4:Int)(d5:Int)(d6:Int)(d7:Int)(rk:Nat→Nat)(kk:List Int),∀Q:Ou Un→Prop,((S8.mk e0 e1 e2 e3 e4 e5 e6 e7).ok∧(S8.mk d0 d1 d2 d3 d4 d5 d6 d7).ok∧Q ⟨(.agg #[(.int .u32 ((bO kk (S8.mk k0 k1 k2 k3 k4 k5 k6 k7) (S8.mk e0 e1 e2 e3 e4 e5 e6 e7) (S8.mk d0 d1 d2 d3 d4 d5 d6 d7)).a)),(.int .u32 ((bO kk (S8.mk k0 k1 k2 k3 k4 k5 k6 k7) (S8.mk e0 e1 e2 e3 e4 e5 e6 e7) (S8.mk d0 d1 d2 d3 d4 d5 d6 d7)).b)),(.int .u32 ((bO kk (S8.mk k0 k1 k2 k3 k4 k5 k6 k7) (S8.mk e0 e1 e2 e3 e4 e5 e6 e7) (S8.mk d0 d1 d2 d3 d4 d5 d6 d7)).c)),(.int .u32 ((bO kk (S8.mk k0 k1 k2 k3 k4 k5 k6 k7) (S8.mk e0 e1 e2 e3 e4 e5 e6 e7) (S8.mk d0 d1 d2 d3 d4 d5 d6 d7)).d)),(.int .u32 ((bO kk (S8.mk k0 k1 k2 k3 k4 k5 k6 k7) (S8.mk e0 e1 e2 e3 e4 e5 e6 e7) (S8.mk d0 d1 d2 d3 d4 d5 d6 d7)).e)),(.int .u32 ((bO kk (S8.mk k0 k1 k2 k3 k4 k5 k6 k7) (S8.mk e0 e1 e2 e3 e4 e5 e6 e7) (S8.mk d0 d1 d2 d3 d4 d5 d6 d7)).f)),(.int .u32 ((bO kk (S8.mk k0 k1 k2 k3 k4 k5 k6 k7) (S8.mk e0 e1 e2 e3 e4 e5 e6 e7) (S8.mk d0 d1 d2 d3 d4 d5 d6 d7)).g)),(.int .u32 ((bO kk (S8.mk k0 k1 k2 k3 k4 k5 k6 k7) (S8.mk e0 e1 e2 e3 e4 e5 e6 e7) (S8.mk d0 d1 d2 d3 d4 d5 d6 d7)).h))]),none,[],[],[]⟩)→∀(X:Nat→Nat→Prop)(w:World),Sat (U:=Un) [(.ob 5 rk kk)] X w→aE (U:=Un) [(.ob 5 rk kk)] fr0 []→Calls prog 187 #[(.agg #[(.int .u32 k0),(.int .u32 k1),(.int .u32 k2),(.int .u32 k3),(.int .u32 k4),(.int .u32 k5),(.int .u32 k6),(.int .u32 k7)]),(.agg #[(.int .u32 e0),(.int .u32 e1),(.int .u32 e2),(.int .u32 e3),(.int .u32 e4),(.int .u32 e5),(.int .u32 e6),(.int .u32 e7)]),(.agg #[(.int .u32 d0),(.int .u32 d1),(.int .u32 d2),(.int .u32 d3),(.int .u32 d4),(.int .u32 d5),(.int .u32 d6),(.int .u32 d7)])] w (bP (U:=Un) [(.ob 5 rk kk)] [] X w Q)
 intro k0 k1 k2 k3 k4 k5 k6 k7 e0 e1 e2 e3 e4 e5 e6 e7 d0 d1 d2 d3 d4 d5 d6 d7 rk kk Q hQ X w hs hl
 obtain⟨hm,hd,hQ⟩:=hQ
 obtain⟨hX2,hK⟩:=(hs.res 0 _ rfl:dI 5 rk kk (X 0) w)
 refine(Mj (k:=(S8.mk k0 k1 k2 k3 k4 k5 k6 k7)) hK hm hd).mono ?_
 rintro e w' ⟨u,rfl,rfl,q⟩
 exact bP.pu hs q hQ trivial
def ou:Ctr Un:=⟨[.agg [.int .u32,.int .u32,.int .u32,.int .u32,.int .u32,.int .u32,.int .u32,.int .u32],.agg [.int .u32,.int .u32,.int .u32,.int .u32,.int .u32,.int .u32,.int .u32,.int .u32],.agg [.int .u32,.int .u32,.int .u32,.int .u32,.int .u32,.int .u32,.int .u32,.int .u32],.agg [.int .u32,.int .u32,.int .u32,.int .u32,.int .u32,.int .u32,.int .u32,.int .u32]],[(0,5)],[.ob 5 []],[],fun k0 k1 k2 k3 k4 k5 k6 k7 e0 e1 e2 e3 e4 e5 e6 e7 d0 d1 d2 d3 d4 d5 d6 d7 t0 t1 t2 t3 t4 t5 t6 t7 rk kk K=>(S8.mk e0 e1 e2 e3 e4 e5 e6 e7).ok∧(S8.mk d0 d1 d2 d3 d4 d5 d6 d7).ok∧(S8.mk t0 t1 t2 t3 t4 t5 t6 t7).ok∧K ⟨(.bool (decide (bO kk (S8.mk k0 k1 k2 k3 k4 k5 k6 k7) (S8.mk e0 e1 e2 e3 e4 e5 e6 e7) (S8.mk d0 d1 d2 d3 d4 d5 d6 d7)=(S8.mk t0 t1 t2 t3 t4 t5 t6 t7)))),none,[],[],[]⟩⟩
theorem Ey:LV Un prog 190 ou:=by
 show ∀(k0:Int)(k1:Int)(k2:Int)(k3:Int)(k4:Int)(k5:Int)(k6:Int)(k7:Int)(e0:Int)(e1:Int)(e2:Int)(e3:Int)(e4:Int)(e5:Int)(e6:Int)(e7:Int)(d0:Int)(d1:Int)(d2:Int)(d3:Int)(d4:Int)(d5:Int)(d6:Int)(d7:Int)(t0:Int)(t1:Int)(t2:Int)(t3:Int)(t4:Int)(t5:Int)(t6:Int)(t7:Int)(rk:Nat→Nat)(kk:List Int),∀Q:Ou Un→Prop,((S8.mk e0 e1 e2 e3 e4 e5 e6 e7).ok∧(S8.mk d0 d1 d2 d3 d4 d5 d6 d7).ok∧(S8.mk t0 t1 t2 t3 t4 t5 t6 t7).ok∧Q ⟨(.bool (decide (bO kk (S8.mk k0 k1 k2 k3 k4 k5 k6 k7) (S8.mk e0 e1 e2 e3 e4 e5 e6 e7) (S8.mk d0 d1 d2 d3 d4 d5 d6 d7)=(S8.mk t0 t1 t2 t3 t4 t5 t6 t7)))),none,[],[],[]⟩)→∀(X:Nat→Nat→Prop)(w:World),Sat (U:=Un) [(.ob 5 rk kk)] X w→aE (U:=Un) [(.ob 5 rk kk)] fr0 []→Calls prog 190 #[(.agg #[(.int .u32 k0),(.int .u32 k1),(.int .u32 k2),(.int .u32 k3),(.int .u32 k4),(.int .u32 k5),(.int .u32 k6),(.int .u32 k7)]),(.agg #[(.int .u32 e0),(.int .u32 e1),(.int .u32 e2),(.int .u32 e3),(.int .u32 e4),(.int .u32 e5),(.int .u32 e6),(.int .u32 e7)]),(.agg #[(.int .u32 d0),(.int .u32 d1),(.int .u32 d2),(.int .u32 d3),(.int .u32 d4),(.int .u32 d5),(.int .u32 d6),(.int .u32 d7)]),(.agg #[(.int .u32 t0),(.int .u32 t1),(.int .u32 t2),(.int .u32 t3),(.int .u32 t4),(.int .u32 t5),(.int .u32 t6),(.int .u32 t7)])] w (bP (U:=Un) [(.ob 5 rk kk)] [] X w Q)
 intro k0 k1 k2 k3 k4 k5 k6 k7 e0 e1 e2 e3 e4 e5 e6 e7 d0 d1 d2 d3 d4 d5 d6 d7 t0 t1 t2 t3 t4 t5 t6 t7 rk kk Q hQ X w hs hl
 obtain⟨hm,hd,ht,hQ⟩:=hQ
 obtain⟨hX2,hK⟩:=(hs.res 0 _ rfl:dI 5 rk kk (X 0) w)
 refine(IM (k:=(S8.mk k0 k1 k2 k3 k4 k5 k6 k7)) hK hm hd ht).mono ?_
 rintro e w' ⟨u,rfl,rfl,q⟩
 exact bP.pu hs q hQ trivial
def vq:Ctr Un:=⟨[.one (.sl 0),.one (.sl 1)],[(2,5)],[.ob 7 [],.lst 1 false 23,.ob 5 []],[],fun r lk A c l rk kk K=>lk.length≤16∧l.length≤1099511627776∧(∀x∈l,0≤x.v∧x.v<4294967296)∧K ⟨(.agg #[(.int .u32 ((cp kk lk l).a)),(.int .u32 ((cp kk lk l).b)),(.int .u32 ((cp kk lk l).c)),(.int .u32 ((cp kk lk l).d)),(.int .u32 ((cp kk lk l).e)),(.int .u32 ((cp kk lk l).f)),(.int .u32 ((cp kk lk l).g)),(.int .u32 ((cp kk lk l).h))]),none,[],[],[]⟩⟩
theorem Jt:LV Un prog 20 vq:=by
 show ∀(r:Nat→Nat)(lk:List U32)(A:Option Addr)(c:Nat)(l:List U32)(rk:Nat→Nat)(kk:List Int),∀Q:Ou Un→Prop,(lk.length≤16∧l.length≤1099511627776∧(∀x∈l,0≤x.v∧x.v<4294967296)∧Q ⟨(.agg #[(.int .u32 ((cp kk lk l).a)),(.int .u32 ((cp kk lk l).b)),(.int .u32 ((cp kk lk l).c)),(.int .u32 ((cp kk lk l).d)),(.int .u32 ((cp kk lk l).e)),(.int .u32 ((cp kk lk l).f)),(.int .u32 ((cp kk lk l).g)),(.int .u32 ((cp kk lk l).h))]),none,[],[],[]⟩)→∀(X:Nat→Nat→Prop)(w:World),Sat (U:=Un) [(.ob 7 r lk),(.lst 1 false 23 A c l),(.ob 5 rk kk)] X w→aE (U:=Un) [(.ob 7 r lk),(.lst 1 false 23 A c l),(.ob 5 rk kk)] fr0 []→Calls prog 20 #[(.slice (some (Addr.mk (r 0) 0 none)) lk.length lk.length),(.slice A l.length c)] w (bP (U:=Un) [(.ob 7 r lk),(.lst 1 false 23 A c l),(.ob 5 rk kk)] [] X w Q)
 intro r lk A c l rk kk Q hQ X w hs hl
 obtain⟨h16,Qu,hr,hQ⟩:=hQ
 have h0:=Bm (show dI 7 r lk (X 0) w from hs.res 0 _ rfl).1 (show dI 7 r lk (X 0) w from hs.res 0 _ rfl).2
 have h1:Rd w (X 1) A l.length c l:=hs.res 1 _ rfl
 obtain⟨hX2,hK⟩:=(hs.res 2 _ rfl:dI 5 rk kk (X 2) w)
 refine(JU h0 h1 hK h16 Qu hr).mono ?_
 rintro e w' ⟨u,rfl,rfl,q⟩
 exact bP.pu hs q hQ trivial
def kK:Ctr Un:=⟨[.one (.int .u32),.one (.int .u32),.one (.int .u32),.one (.int .u32)],[],[],[],fun pc a b c K=>K ⟨(.agg ⟨Fl.cells (Fl.start pc a b c)⟩),none,[],[],[]⟩⟩
def Hr(pc:Int)(a:Int)(b:Int)(c:Int)(Q:Ou Un→Prop):Prop:=
 ∀(gv:Nat),
 ∀(s:Fl),s=Fl.zero→
 Fl.Ok s→
 ∀(Nd:Nat),
 ∀(s1:Fl),s1=Fl.zero→
 Fl.Ok s1→
 True∧
 ∀(s2:Fl),s2=(Fl.mk [U32.mk 0,U32.mk 0,U32.mk 0,U32.mk 0,U32.mk 0,U32.mk 0,U32.mk 0,U32.mk 0,U32.mk 0,U32.mk 0,U32.mk 0,U32.mk 0,U32.mk 0,U32.mk 0,U32.mk 0] pc false false false)→
 Fl.Ok s2→
 ((0≤(0:Int)∧(0:Int)<((Fl.rs s2).length:Int))∧(0:Int)<(15:Int))∧
 True∧
 ∀(s3:Fl),s3=(Fl.nK s2 (Int.toNat 0) (U32.mk a))→
 Fl.Ok s3→
 ((0≤(1:Int)∧(1:Int)<((Fl.rs s3).length:Int))∧(1:Int)<(15:Int))∧
 True∧
 ∀(s4:Fl),s4=(Fl.nK s3 (Int.toNat 1) (U32.mk b))→
 Fl.Ok s4→
 ((0≤(2:Int)∧(2:Int)<((Fl.rs s4).length:Int))∧(2:Int)<(15:Int))∧
 True∧
 ∀(s5:Fl),s5=(Fl.nK s4 (Int.toNat 2) (U32.mk c))→
 Fl.Ok s5→
 True∧
 True∧
 ∀(s6:Fl),s6=(Fl.norm s5)→
 Fl.Ok s6→
 True∧
 Q ⟨(.agg ⟨Fl.cells s6⟩),none,[],[],[]⟩
theorem Hs:Vc2 Un prog (aU []) [] Tryz.f18 .leaf [] kK=(∀pc a b c,∀Q,(kK.body pc a b c Q)→Hr pc a b c Q):=by kernel_rfl
section
attribute [local grind=] Fl.Ok
theorem Hq:LV Un prog 18 kK:=verify Tryz.func18 aj (tb:= []) trivial (by kernel_rfl) (Hs.mpr fun pc a b c Q h gv s OM f1 Nd s1 NA f2=>ak trivial fun _ s2 PH f4=>ak (by grind) fun s5=>ak trivial fun _ s3 QA f7=>ak (by grind) fun s8=>ak trivial fun _ s4 O1 f10=>ak (by grind) fun OW=>ak trivial fun _ s5 Qo f13=>ak trivial fun _=>ak trivial fun _ s6 U6 f16=>ak trivial fun _=>aL h (congrArg (fun s:Fl=>Value.agg ⟨Fl.cells s⟩) (by subst_vars;rfl)) rfl rfl)
end
section
attribute [local grind=] Nst.draw
end
def od:Ctr Un:=⟨[],[],[],[],fun K=>∀(rN:Nat→Nat),K ⟨(Value.map (some (rN 0))),none,[],[(.ob 12 rN ())],[]⟩⟩
theorem DM:LV Un prog 77 od:=by
 show ∀Q:Ou Un→Prop,(∀(rN:Nat→Nat),Q ⟨(Value.map (some (rN 0))),none,[],[(.ob 12 rN ())],[]⟩)→∀(X:Nat→Nat→Prop)(w:World),Sat (U:=Un) [] X w→aE (U:=Un) [] fr0 []→Calls prog 77 #[] w (bP (U:=Un) [] [] X w Q)
 intro Q hQ X w hs hl
 refine(HQ w).mono ?_
 rintro e w' ⟨u,rfl,g,rfl,hm,hg,q⟩
 exact bP.more (Z:=fun k=>k=g) hs q (show RS (U:=Un) _ w' (.ob 12 (fun _=>g) ())from⟨fun _=>Iff.rfl,hm⟩) (fun k hk=>hk▸hg) (hQ fun _=>g) trivial
section
attribute [local grind=] DB.mpd DB.zG
end
section
attribute [local grind=] DB.entry DB.bq DB.of DB.is DB.word DB.gM DB.plP DB.eC DB.Gf DB.atM
end
section
attribute [local grind=] DB.entry DB.bq DB.of DB.is DB.word DB.gM DB.plP DB.eC DB.F2 DB.cut Pd.ka Mem.dJ
end
def kC:Ctr Un:=⟨[.one (.ptr 0),.one (.int .i64)],[],[.blk [.obj 1 0,.int .i64,.any,.any,.any,.any,.any,.any,.any,.any,.any,.any,.any,.any,.any,.any,.any,.any,.any,.any,.any,.any,.any,.any,.any,.any,.any,.any,.any,.any,.any] 145,.ob 1 [(1,2,0)],.ob 0 []],[2],fun off g sp y0 y1 y2 y3 y4 y5 y6 y7 y8 y9 XB XA Xz Xy Xx Xw Xv Xu Xt Xr Xq Xp Xo Xn Xm Xk Xj Xi Xh r E rm m K=>K ⟨(.int .u32 (m.aT true sp off)),none,[.ob 0 m],[],[]⟩⟩
def GW(off:Int)(g:Nat)(sp:Int)(y0:Value)(y1:Value)(y2:Value)(y3:Value)(y4:Value)(y5:Value)(y6:Value)(y7:Value)(y8:Value)(y9:Value)(XB:Value)(XA:Value)(Xz:Value)(Xy:Value)(Xx:Value)(Xw:Value)(Xv:Value)(Xu:Value)(Xt:Value)(Xr:Value)(Xq:Value)(Xp:Value)(Xo:Value)(Xn:Value)(Xm:Value)(Xk:Value)(Xj:Value)(Xi:Value)(Xh:Value)(r:Nat→Nat)(E:Pd)(rm:Nat→Nat)(m:Mem)(Q:Ou Un→Prop):Prop:=
 Pd.Ok E→
 Mem.Wf m→
 ∀(m1:Mem),m1=m→
 Mem.Wf m1→
 Q ⟨(.int .u32 (m.aT true sp off)),none,[.ob 0 m1],[],[]⟩
theorem GX:Vc2 Un prog (aU [(32,dg),(189,gA)]) [] Tryz.f198 (.r' (.two (.node [] none [] [(3,[0]),(8,[0])] .leaf .leaf) .leaf)) [] kC=(∀off g sp y0 y1 y2 y3 y4 y5 y6 y7 y8 y9 XB XA Xz Xy Xx Xw Xv Xu Xt Xr Xq Xp Xo Xn Xm Xk Xj Xi Xh r (E:Pd) rm (m:Mem),∀Q,(kC.body off g sp y0 y1 y2 y3 y4 y5 y6 y7 y8 y9 XB XA Xz Xy Xx Xw Xv Xu Xt Xr Xq Xp Xo Xn Xm Xk Xj Xi Xh r E rm m Q)→GW off g sp y0 y1 y2 y3 y4 y5 y6 y7 y8 y9 XB XA Xz Xy Xx Xw Xv Xu Xt Xr Xq Xp Xo Xn Xm Xk Xj Xi Xh r E rm m Q):=by kernel_rfl
theorem GV:LV Un prog 198 kC:=verify Tryz.func198 aj (tb:= [(32,dg),(189,gA)]) ⟨jk,pK,trivial⟩ (by kernel_rfl) (GX.mpr fun off g sp y0 y1 y2 y3 y4 y5 y6 y7 y8 y9 XB XA Xz Xy Xx Xw Xv Xu Xt Xr Xq Xp Xo Xn Xm Xk Xj Xi Xh r E rm m Q h f1 f2 m1 Nq f3=>aL h rfl (ai (uO0 (by grind)) rfl) rfl)
def cy:Ctr Un:=⟨[.one (.ptr 0)],[],[.blk [.obj 1 0,.int .i64,.int .i64,.int .u32,.int .u32,.int .u32,.int .u32,.int .u32,.int .u32,.int .u32,.int .u32,.int .u32,.int .u32,.int .u32,.int .u32,.int .u32,.int .u32,.int .u32,.int .u32,.bool,.bool,.bool,.int .u32,.int .u32,.int .u32,.int .u32,.int .u32,.int .u32,.int .u32,.int .u32,.hdr] 145,.ob 1 [(1,2,0)],.ob 0 []],[2],fun g sp tb x0 x1 x2 x3 x4 x5 x6 x7 x8 x9 Nf Nm Nj On Nn pc fz fn fl k0 k1 k2 k3 k4 k5 k6 k7 sA sN sC r E rm m K=>K ⟨(.agg #[(.int .u32 ((m.aM sp).a)),(.int .u32 ((m.aM sp).b)),(.int .u32 ((m.aM sp).c)),(.int .u32 ((m.aM sp).d)),(.int .u32 ((m.aM sp).e)),(.int .u32 ((m.aM sp).f)),(.int .u32 ((m.aM sp).g)),(.int .u32 ((m.aM sp).h))]),none,[.ob 0 m],[],[]⟩⟩
def o8(g:Nat)(sp:Int)(tb:Int)(x0:Int)(x1:Int)(x2:Int)(x3:Int)(x4:Int)(x5:Int)(x6:Int)(x7:Int)(x8:Int)(x9:Int)(Nf:Int)(Nm:Int)(Nj:Int)(On:Int)(Nn:Int)(pc:Int)(fz:Bool)(fn:Bool)(fl:Bool)(k0:Int)(k1:Int)(k2:Int)(k3:Int)(k4:Int)(k5:Int)(k6:Int)(k7:Int)(sA:Option Addr)(sN:Nat)(sC:Nat)(r:Nat→Nat)(E:Pd)(rm:Nat→Nat)(m:Mem)(Q:Ou Un→Prop):Prop:=
 Pd.Ok E→
 Mem.Wf m→
 ∀(gv:Nat),
 ∀(s:List U32),s=([U32.mk 0,U32.mk 0,U32.mk 0,U32.mk 0,U32.mk 0,U32.mk 0,U32.mk 0,U32.mk 0]:List U32)→
 ∃I:Nat→Int→Mem→List U32→Prop,(∃m1,I m1 0 m s)∧∀(m1:Nat)(Nt:Nat→Value)(Px:Int)(s2:Mem)(s3:List U32),I m1 Px s2 s3→
 Mem.Wf s2→
 split (decide (Px<8)) (
  ∀(m3:Mem),m3=s2→
  Mem.Wf m3→
  ((0≤Px∧Px<(s3.length:Int))∧Px<(8:Int))∧
  True∧
  ∀(s1:List U32),s1=(List.set s3 Px.toNat (U32.mk (s2.aT true sp (i64.wrap (3+Px)))))→
  ∃m2,m2<m1∧I m2 (i64.wrap (Px+1)) m3 s1) (
  (8≤s3.length)∧
  (s3.length=8)∧
  ∀(s1:List U32),s1=([U32.mk ((s3.getD 0 (U32.mk 0)).v),U32.mk ((s3.getD 1 (U32.mk 0)).v),U32.mk ((s3.getD 2 (U32.mk 0)).v),U32.mk ((s3.getD 3 (U32.mk 0)).v),U32.mk ((s3.getD 4 (U32.mk 0)).v),U32.mk ((s3.getD 5 (U32.mk 0)).v),U32.mk ((s3.getD 6 (U32.mk 0)).v),U32.mk ((s3.getD 7 (U32.mk 0)).v)]:List U32)→
  (8≤s1.length)∧
  Q ⟨(.agg #[(.int .u32 ((s1.getD 0 (U32.mk 0)).v)),(.int .u32 ((s1.getD 1 (U32.mk 0)).v)),(.int .u32 ((s1.getD 2 (U32.mk 0)).v)),(.int .u32 ((s1.getD 3 (U32.mk 0)).v)),(.int .u32 ((s1.getD 4 (U32.mk 0)).v)),(.int .u32 ((s1.getD 5 (U32.mk 0)).v)),(.int .u32 ((s1.getD 6 (U32.mk 0)).v)),(.int .u32 ((s1.getD 7 (U32.mk 0)).v))]),none,[.ob 0 s2],[],[]⟩)
theorem pf:Vc2 Un prog (aU [(198,kC)]) [] Tryz.f144 (.r' (.two (.r' (.two (.node [] (some ⟨[(4,(.one (.int .i64)))],[],upN 3 11,[(2,(.ob 0)),(3,(.ob 7))]⟩) [] [] .leaf .leaf) .leaf)) .leaf)) [] cy=(∀g sp tb x0 x1 x2 x3 x4 x5 x6 x7 x8 x9 Nf Nm Nj On Nn pc fz fn fl k0 k1 k2 k3 k4 k5 k6 k7 sA sN sC r (E:Pd) rm (m:Mem),∀Q,(cy.body g sp tb x0 x1 x2 x3 x4 x5 x6 x7 x8 x9 Nf Nm Nj On Nn pc fz fn fl k0 k1 k2 k3 k4 k5 k6 k7 sA sN sC r E rm m Q)→o8 g sp tb x0 x1 x2 x3 x4 x5 x6 x7 x8 x9 Nf Nm Nj On Nn pc fz fn fl k0 k1 k2 k3 k4 k5 k6 k7 sA sN sC r E rm m Q):=by kernel_rfl
theorem jT:LV Un prog 144 cy:=verify Tryz.func144 aj (tb:= [(198,kC)]) ⟨GV,trivial⟩ (by kernel_rfl) (pf.mpr fun g sp tb x0 x1 x2 x3 x4 x5 x6 x7 x8 x9 Nf Nm Nj On Nn pc fz fn fl k0 k1 k2 k3 k4 k5 k6 k7 sA sN sC r E rm m Q h f1 f2 gv s OM=>⟨fun m1 Px s2 s3=>(m1=(8 - Px).toNat)∧(0≤Px∧Px≤8)∧(s2=m)∧(s3=jR (fun i=>m.aT true sp (3+(i:Int))) 8 Px.toNat),⟨_,rfl,(by omega),(by rfl),‹_›⟩,fun m1 _ Px s2 s3 ⟨hm,hi,hM,hL⟩=>fun f3=>ax (fun c1 m3 Np f4=>ak (by exact⟨⟨hi.1,by rw [hL,mW (by omega)];omega⟩,by omega⟩) fun s5=>ak trivial fun _ s1 NA=>⟨_,(by rw [aq (by omega)];omega),rfl,(by rw [aq (by omega)];omega),(by subst_vars;rfl),(by(have e8:i64.wrap (3+Px)=3+Px:=aq (by omega));(have e9:((Px.toNat:Nat):Int)=Px:=by omega);rw [NA];exact k8 hL ⟨hi.1,by omega⟩ (by decide) (by rw [hM,e8,e9]))⟩) fun c1=>ak (by(have e8:Px.toNat=8:=by omega);rw [hL,e8,mW (Nat.le_refl 8)];exact Nat.le_refl 8) fun s7=>ak (by(have e8:Px.toNat=8:=by omega);rw [hL,e8,mW (Nat.le_refl 8)]) fun s8 s1 NA=>ak (by rw [NA];exact Nat.le_refl 8) fun s9=>aL h (congrArg (fun l=>Value.agg (List.toArray l)) (ai (bU (by(have e8:Px.toNat=8:=by omega);rw [NA,hL,e8];rfl)) (ai (bU (by(have e8:Px.toNat=8:=by omega);rw [NA,hL,e8];rfl)) (ai (bU (by(have e8:Px.toNat=8:=by omega);rw [NA,hL,e8];rfl)) (ai (bU (by(have e8:Px.toNat=8:=by omega);rw [NA,hL,e8];rfl)) (ai (bU (by(have e8:Px.toNat=8:=by omega);rw [NA,hL,e8];rfl)) (ai (bU (by(have e8:Px.toNat=8:=by omega);rw [NA,hL,e8];rfl)) (ai (bU (by(have e8:Px.toNat=8:=by omega);rw [NA,hL,e8];rfl)) (ai (bU (by(have e8:Px.toNat=8:=by omega);rw [NA,hL,e8];rfl)) rfl))))))))) (ai (uO0 (hM.symm)) rfl) rfl⟩)
def jK:Ctr Un:=⟨[.one (.ptr 0),.agg [.int .u32,.int .u32,.int .u32,.int .u32,.int .u32,.int .u32,.int .u32,.int .u32]],[],[.blk [.obj 1 0,.int .i64,.int .i64,.int .u32,.int .u32,.int .u32,.int .u32,.int .u32,.int .u32,.int .u32,.int .u32,.int .u32,.int .u32,.int .u32,.int .u32,.int .u32,.int .u32,.int .u32,.int .u32,.bool,.bool,.bool,.int .u32,.int .u32,.int .u32,.int .u32,.int .u32,.int .u32,.int .u32,.int .u32,.hdr] 145,.ob 1 [(1,2,0)],.ob 0 []],[0],fun w0 w1 w2 w3 w4 w5 w6 w7 g sp tb x0 x1 x2 x3 x4 x5 x6 x7 x8 x9 Nf Nm Nj On Nn pc fz fn fl k0 k1 k2 k3 k4 k5 k6 k7 sA sN sC r E rm m K=>K ⟨(.tuple #[]),(some (.t [])),[.blk [(.pointer (some (Addr.mk (r 0) 0 none))),(.int .i64 sp),(.int .i64 tb),(.int .u32 x0),(.int .u32 w0),(.int .u32 w1),(.int .u32 w2),(.int .u32 w3),(.int .u32 w4),(.int .u32 w5),(.int .u32 w6),(.int .u32 w7),(.int .u32 x9),(.int .u32 Nf),(.int .u32 Nm),(.int .u32 Nj),(.int .u32 On),(.int .u32 Nn),(.int .u32 pc),(.bool fz),(.bool fn),(.bool fl),(.int .u32 k0),(.int .u32 k1),(.int .u32 k2),(.int .u32 k3),(.int .u32 k4),(.int .u32 k5),(.int .u32 k6),(.int .u32 k7),(.slice sA sN sC)]],[],[(.c 0 0,.p (.obj 1 0 0))]⟩⟩
def I9(w0:Int)(w1:Int)(w2:Int)(w3:Int)(w4:Int)(w5:Int)(w6:Int)(w7:Int)(g:Nat)(sp:Int)(tb:Int)(x0:Int)(x1:Int)(x2:Int)(x3:Int)(x4:Int)(x5:Int)(x6:Int)(x7:Int)(x8:Int)(x9:Int)(Nf:Int)(Nm:Int)(Nj:Int)(On:Int)(Nn:Int)(pc:Int)(fz:Bool)(fn:Bool)(fl:Bool)(k0:Int)(k1:Int)(k2:Int)(k3:Int)(k4:Int)(k5:Int)(k6:Int)(k7:Int)(sA:Option Addr)(sN:Nat)(sC:Nat)(r:Nat→Nat)(E:Pd)(rm:Nat→Nat)(m:Mem)(Q:Ou Un→Prop):Prop:=
 Pd.Ok E→
 Mem.Wf m→
 ∀(gv:Nat),
 ∀(s:List U32),s=([U32.mk w0,U32.mk w1,U32.mk w2,U32.mk w3,U32.mk w4,U32.mk w5,U32.mk w6,U32.mk w7]:List U32)→
 ((s.length=8∧s.length=8)∧0<8)∧
 (0<8∧8≤s.length)∧
 Q ⟨(.tuple #[]),(some (.t [])),[.blk [(.pointer (some (Addr.mk (r 0) 0 none))),(.int .i64 sp),(.int .i64 tb),(.int .u32 x0),(.int .u32 ((s.getD (0+0) (U32.mk 0)).v)),(.int .u32 ((s.getD (0+1) (U32.mk 0)).v)),(.int .u32 ((s.getD (0+2) (U32.mk 0)).v)),(.int .u32 ((s.getD (0+3) (U32.mk 0)).v)),(.int .u32 ((s.getD (0+4) (U32.mk 0)).v)),(.int .u32 ((s.getD (0+5) (U32.mk 0)).v)),(.int .u32 ((s.getD (0+6) (U32.mk 0)).v)),(.int .u32 ((s.getD (0+7) (U32.mk 0)).v)),(.int .u32 x9),(.int .u32 Nf),(.int .u32 Nm),(.int .u32 Nj),(.int .u32 On),(.int .u32 Nn),(.int .u32 pc),(.bool fz),(.bool fn),(.bool fl),(.int .u32 k0),(.int .u32 k1),(.int .u32 k2),(.int .u32 k3),(.int .u32 k4),(.int .u32 k5),(.int .u32 k6),(.int .u32 k7),(.slice sA sN sC)]],[],[(.c 0 0,.p (.obj 1 0 0))]⟩
theorem Ja:Vc2 Un prog (aU []) [] Tryz.f143 .leaf [] jK=(∀w0 w1 w2 w3 w4 w5 w6 w7 g sp tb x0 x1 x2 x3 x4 x5 x6 x7 x8 x9 Nf Nm Nj On Nn pc fz fn fl k0 k1 k2 k3 k4 k5 k6 k7 sA sN sC r (E:Pd) rm (m:Mem),∀Q,(jK.body w0 w1 w2 w3 w4 w5 w6 w7 g sp tb x0 x1 x2 x3 x4 x5 x6 x7 x8 x9 Nf Nm Nj On Nn pc fz fn fl k0 k1 k2 k3 k4 k5 k6 k7 sA sN sC r E rm m Q)→I9 w0 w1 w2 w3 w4 w5 w6 w7 g sp tb x0 x1 x2 x3 x4 x5 x6 x7 x8 x9 Nf Nm Nj On Nn pc fz fn fl k0 k1 k2 k3 k4 k5 k6 k7 sA sN sC r E rm m Q):=by kernel_rfl
theorem B5:LV Un prog 143 jK:=verify Tryz.func143 aj (tb:= []) trivial (by kernel_rfl) (Ja.mpr fun w0 w1 w2 w3 w4 w5 w6 w7 g sp tb x0 x1 x2 x3 x4 x5 x6 x7 x8 x9 Nf Nm Nj On Nn pc fz fn fl k0 k1 k2 k3 k4 k5 k6 k7 sA sN sC r E rm m Q h f1 f2 gv s OM=>ak (by subst OM;exact⟨⟨rfl,rfl⟩,by decide⟩) fun s3=>ak (by subst OM;exact⟨by decide,Nat.le_refl 8⟩) fun s4=>aL h rfl (ai (congrArg Upd.blk (ai rfl (ai rfl (ai rfl (ai rfl (ai (bU (by subst OM;rfl)) (ai (bU (by subst OM;rfl)) (ai (bU (by subst OM;rfl)) (ai (bU (by subst OM;rfl)) (ai (bU (by subst OM;rfl)) (ai (bU (by subst OM;rfl)) (ai (bU (by subst OM;rfl)) (ai (bU (by subst OM;rfl)) (ai rfl (ai rfl (ai rfl (ai rfl (ai rfl (ai rfl (ai rfl (ai rfl (ai rfl (ai rfl (ai rfl (ai rfl (ai rfl (ai rfl (ai rfl (ai rfl (ai rfl (ai rfl (ai rfl rfl)))))))))))))))))))))))))))))))) rfl) rfl)
def gX:Ctr Un:=⟨[.one (.ptr 0)],[(3,5)],[.blk [.obj 1 0,.int .i64,.int .i64,.int .u32,.int .u32,.int .u32,.int .u32,.int .u32,.int .u32,.int .u32,.int .u32,.int .u32,.int .u32,.int .u32,.int .u32,.int .u32,.int .u32,.int .u32,.int .u32,.bool,.bool,.bool,.int .u32,.int .u32,.int .u32,.int .u32,.int .u32,.int .u32,.int .u32,.int .u32,.hdr] 145,.ob 1 [(1,2,0)],.ob 0 [],.ob 5 []],[0,2],fun g sp tb x0 x1 x2 x3 x4 x5 x6 x7 x8 x9 Nf Nm Nj On Nn pc fz fn fl k0 k1 k2 k3 k4 k5 k6 k7 sA sN sC r E rm m rk kk K=>(S8.mk x1 x2 x3 x4 x5 x6 x7 x8).ok∧K ⟨(.int .u32 0),none,[.blk [(.pointer (some (Addr.mk (r 0) 0 none))),(.int .i64 sp),(.int .i64 tb),(.int .u32 x0),(.int .u32 ((bO kk (S8.mk k0 k1 k2 k3 k4 k5 k6 k7) (m.aM sp) (S8.mk x1 x2 x3 x4 x5 x6 x7 x8)).a)),(.int .u32 ((bO kk (S8.mk k0 k1 k2 k3 k4 k5 k6 k7) (m.aM sp) (S8.mk x1 x2 x3 x4 x5 x6 x7 x8)).b)),(.int .u32 ((bO kk (S8.mk k0 k1 k2 k3 k4 k5 k6 k7) (m.aM sp) (S8.mk x1 x2 x3 x4 x5 x6 x7 x8)).c)),(.int .u32 ((bO kk (S8.mk k0 k1 k2 k3 k4 k5 k6 k7) (m.aM sp) (S8.mk x1 x2 x3 x4 x5 x6 x7 x8)).d)),(.int .u32 ((bO kk (S8.mk k0 k1 k2 k3 k4 k5 k6 k7) (m.aM sp) (S8.mk x1 x2 x3 x4 x5 x6 x7 x8)).e)),(.int .u32 ((bO kk (S8.mk k0 k1 k2 k3 k4 k5 k6 k7) (m.aM sp) (S8.mk x1 x2 x3 x4 x5 x6 x7 x8)).f)),(.int .u32 ((bO kk (S8.mk k0 k1 k2 k3 k4 k5 k6 k7) (m.aM sp) (S8.mk x1 x2 x3 x4 x5 x6 x7 x8)).g)),(.int .u32 ((bO kk (S8.mk k0 k1 k2 k3 k4 k5 k6 k7) (m.aM sp) (S8.mk x1 x2 x3 x4 x5 x6 x7 x8)).h)),(.int .u32 x9),(.int .u32 Nf),(.int .u32 Nm),(.int .u32 Nj),(.int .u32 On),(.int .u32 Nn),(.int .u32 pc),(.bool fz),(.bool fn),(.bool fl),(.int .u32 k0),(.int .u32 k1),(.int .u32 k2),(.int .u32 k3),(.int .u32 k4),(.int .u32 k5),(.int .u32 k6),(.int .u32 k7),(.slice sA sN sC)],.ob 0 m],[],[(.c 0 0,.p (.obj 1 0 0))]⟩⟩
def Ah(g:Nat)(sp:Int)(tb:Int)(x0:Int)(x1:Int)(x2:Int)(x3:Int)(x4:Int)(x5:Int)(x6:Int)(x7:Int)(x8:Int)(x9:Int)(Nf:Int)(Nm:Int)(Nj:Int)(On:Int)(Nn:Int)(pc:Int)(fz:Bool)(fn:Bool)(fl:Bool)(k0:Int)(k1:Int)(k2:Int)(k3:Int)(k4:Int)(k5:Int)(k6:Int)(k7:Int)(sA:Option Addr)(sN:Nat)(sC:Nat)(r:Nat→Nat)(E:Pd)(rm:Nat→Nat)(m:Mem)(rk:Nat→Nat)(kk:List Int)(Q:Ou Un→Prop):Prop:=
 Pd.Ok E→
 Mem.Wf m→
 ∀(m1:Mem),m1=m→
 Mem.Wf m1→
 (S8.mk ((m.aM sp).a) ((m.aM sp).b) ((m.aM sp).c) ((m.aM sp).d) ((m.aM sp).e) ((m.aM sp).f) ((m.aM sp).g) ((m.aM sp).h)).ok∧
 (S8.mk x1 x2 x3 x4 x5 x6 x7 x8).ok∧
 Q ⟨(.int .u32 0),none,[.blk [(.pointer (some (Addr.mk (r 0) 0 none))),(.int .i64 sp),(.int .i64 tb),(.int .u32 x0),(.int .u32 ((bO kk (S8.mk k0 k1 k2 k3 k4 k5 k6 k7) (S8.mk ((m.aM sp).a) ((m.aM sp).b) ((m.aM sp).c) ((m.aM sp).d) ((m.aM sp).e) ((m.aM sp).f) ((m.aM sp).g) ((m.aM sp).h)) (S8.mk x1 x2 x3 x4 x5 x6 x7 x8)).a)),(.int .u32 ((bO kk (S8.mk k0 k1 k2 k3 k4 k5 k6 k7) (S8.mk ((m.aM sp).a) ((m.aM sp).b) ((m.aM sp).c) ((m.aM sp).d) ((m.aM sp).e) ((m.aM sp).f) ((m.aM sp).g) ((m.aM sp).h)) (S8.mk x1 x2 x3 x4 x5 x6 x7 x8)).b)),(.int .u32 ((bO kk (S8.mk k0 k1 k2 k3 k4 k5 k6 k7) (S8.mk ((m.aM sp).a) ((m.aM sp).b) ((m.aM sp).c) ((m.aM sp).d) ((m.aM sp).e) ((m.aM sp).f) ((m.aM sp).g) ((m.aM sp).h)) (S8.mk x1 x2 x3 x4 x5 x6 x7 x8)).c)),(.int .u32 ((bO kk (S8.mk k0 k1 k2 k3 k4 k5 k6 k7) (S8.mk ((m.aM sp).a) ((m.aM sp).b) ((m.aM sp).c) ((m.aM sp).d) ((m.aM sp).e) ((m.aM sp).f) ((m.aM sp).g) ((m.aM sp).h)) (S8.mk x1 x2 x3 x4 x5 x6 x7 x8)).d)),(.int .u32 ((bO kk (S8.mk k0 k1 k2 k3 k4 k5 k6 k7) (S8.mk ((m.aM sp).a) ((m.aM sp).b) ((m.aM sp).c) ((m.aM sp).d) ((m.aM sp).e) ((m.aM sp).f) ((m.aM sp).g) ((m.aM sp).h)) (S8.mk x1 x2 x3 x4 x5 x6 x7 x8)).e)),(.int .u32 ((bO kk (S8.mk k0 k1 k2 k3 k4 k5 k6 k7) (S8.mk ((m.aM sp).a) ((m.aM sp).b) ((m.aM sp).c) ((m.aM sp).d) ((m.aM sp).e) ((m.aM sp).f) ((m.aM sp).g) ((m.aM sp).h)) (S8.mk x1 x2 x3 x4 x5 x6 x7 x8)).f)),(.int .u32 ((bO kk (S8.mk k0 k1 k2 k3 k4 k5 k6 k7) (S8.mk ((m.aM sp).a) ((m.aM sp).b) ((m.aM sp).c) ((m.aM sp).d) ((m.aM sp).e) ((m.aM sp).f) ((m.aM sp).g) ((m.aM sp).h)) (S8.mk x1 x2 x3 x4 x5 x6 x7 x8)).g)),(.int .u32 ((bO kk (S8.mk k0 k1 k2 k3 k4 k5 k6 k7) (S8.mk ((m.aM sp).a) ((m.aM sp).b) ((m.aM sp).c) ((m.aM sp).d) ((m.aM sp).e) ((m.aM sp).f) ((m.aM sp).g) ((m.aM sp).h)) (S8.mk x1 x2 x3 x4 x5 x6 x7 x8)).h)),(.int .u32 x9),(.int .u32 Nf),(.int .u32 Nm),(.int .u32 Nj),(.int .u32 On),(.int .u32 Nn),(.int .u32 pc),(.bool fz),(.bool fn),(.bool fl),(.int .u32 k0),(.int .u32 k1),(.int .u32 k2),(.int .u32 k3),(.int .u32 k4),(.int .u32 k5),(.int .u32 k6),(.int .u32 k7),(.slice sA sN sC)],.ob 0 m1],[],[(.c 0 0,.p (.obj 1 0 0))]⟩
theorem Ai:Vc2 Un prog (aU [(144,cy),(187,AZ),(143,jK)]) [] Tryz.f136 (.r' (.two (.node [] none [] [(6,[0]),(18,[0])] .leaf .leaf) .leaf)) [] gX=(∀g sp tb x0 x1 x2 x3 x4 x5 x6 x7 x8 x9 Nf Nm Nj On Nn pc fz fn fl k0 k1 k2 k3 k4 k5 k6 k7 sA sN sC r (E:Pd) rm (m:Mem) rk (kk:List Int),∀Q,(gX.body g sp tb x0 x1 x2 x3 x4 x5 x6 x7 x8 x9 Nf Nm Nj On Nn pc fz fn fl k0 k1 k2 k3 k4 k5 k6 k7 sA sN sC r E rm m rk kk Q)→Ah g sp tb x0 x1 x2 x3 x4 x5 x6 x7 x8 x9 Nf Nm Nj On Nn pc fz fn fl k0 k1 k2 k3 k4 k5 k6 k7 sA sN sC r E rm m rk kk Q):=by kernel_rfl
theorem Ag:LV Un prog 136 gX:=verify Tryz.func136 aj (tb:= [(144,cy),(187,AZ),(143,jK)]) ⟨jT,Lo,B5,trivial⟩ (by kernel_rfl) (Ai.mpr fun g sp tb x0 x1 x2 x3 x4 x5 x6 x7 x8 x9 Nf Nm Nj On Nn pc fz fn fl k0 k1 k2 k3 k4 k5 k6 k7 sA sN sC r E rm m rk kk Q h=>by
 obtain⟨NF,h⟩:=h
 exact fun f1 f2 m1 Nq f3=>ak (Mem.Il ‹_› sp) fun s4=>ak ‹_› fun s5=>aL h rfl (ai (congrArg Upd.blk (ai rfl (ai rfl (ai rfl (ai rfl (ai (bU (by grind)) (ai (bU (by grind)) (ai (bU (by grind)) (ai (bU (by grind)) (ai (bU (by grind)) (ai (bU (by grind)) (ai (bU (by grind)) (ai (bU (by grind)) (ai rfl (ai rfl (ai rfl (ai rfl (ai rfl (ai rfl (ai rfl (ai rfl (ai rfl (ai rfl (ai rfl (ai rfl (ai rfl (ai rfl (ai rfl (ai rfl (ai rfl (ai rfl (ai rfl rfl)))))))))))))))))))))))))))))))) (ai (uO0 (by grind)) rfl)) rfl)
def fP:Ctr Un:=⟨[.one (.ptr 0)],[],[.blk [.obj 1 0,.int .i64,.int .i64,.int .u32,.int .u32,.int .u32,.int .u32,.int .u32,.int .u32,.int .u32,.int .u32,.int .u32,.int .u32,.int .u32,.int .u32,.int .u32,.int .u32,.int .u32,.int .u32,.bool,.bool,.bool,.int .u32,.int .u32,.int .u32,.int .u32,.int .u32,.int .u32,.int .u32,.int .u32,.hdr] 145,.ob 1 [(1,2,0)],.ob 0 []],[0,2],fun g sp tb x0 x1 x2 x3 x4 x5 x6 x7 x8 x9 Nf Nm Nj On Nn pc fz fn fl k0 k1 k2 k3 k4 k5 k6 k7 sA sN sC r E rm m K=>K ⟨(.int .u32 0),none,[.blk [(.pointer (some (Addr.mk (r 0) 0 none))),(.int .i64 sp),(.int .i64 tb),(.int .u32 x0),(.int .u32 ((m.aM sp).a)),(.int .u32 ((m.aM sp).b)),(.int .u32 ((m.aM sp).c)),(.int .u32 ((m.aM sp).d)),(.int .u32 ((m.aM sp).e)),(.int .u32 ((m.aM sp).f)),(.int .u32 ((m.aM sp).g)),(.int .u32 ((m.aM sp).h)),(.int .u32 x9),(.int .u32 Nf),(.int .u32 Nm),(.int .u32 Nj),(.int .u32 On),(.int .u32 Nn),(.int .u32 pc),(.bool fz),(.bool fn),(.bool fl),(.int .u32 k0),(.int .u32 k1),(.int .u32 k2),(.int .u32 k3),(.int .u32 k4),(.int .u32 k5),(.int .u32 k6),(.int .u32 k7),(.slice sA sN sC)],.ob 0 m],[],[(.c 0 0,.p (.obj 1 0 0))]⟩⟩
def yk(g:Nat)(sp:Int)(tb:Int)(x0:Int)(x1:Int)(x2:Int)(x3:Int)(x4:Int)(x5:Int)(x6:Int)(x7:Int)(x8:Int)(x9:Int)(Nf:Int)(Nm:Int)(Nj:Int)(On:Int)(Nn:Int)(pc:Int)(fz:Bool)(fn:Bool)(fl:Bool)(k0:Int)(k1:Int)(k2:Int)(k3:Int)(k4:Int)(k5:Int)(k6:Int)(k7:Int)(sA:Option Addr)(sN:Nat)(sC:Nat)(r:Nat→Nat)(E:Pd)(rm:Nat→Nat)(m:Mem)(Q:Ou Un→Prop):Prop:=
 Pd.Ok E→
 Mem.Wf m→
 ∀(m1:Mem),m1=m→
 Mem.Wf m1→
 Q ⟨(.int .u32 0),none,[.blk [(.pointer (some (Addr.mk (r 0) 0 none))),(.int .i64 sp),(.int .i64 tb),(.int .u32 x0),(.int .u32 ((m.aM sp).a)),(.int .u32 ((m.aM sp).b)),(.int .u32 ((m.aM sp).c)),(.int .u32 ((m.aM sp).d)),(.int .u32 ((m.aM sp).e)),(.int .u32 ((m.aM sp).f)),(.int .u32 ((m.aM sp).g)),(.int .u32 ((m.aM sp).h)),(.int .u32 x9),(.int .u32 Nf),(.int .u32 Nm),(.int .u32 Nj),(.int .u32 On),(.int .u32 Nn),(.int .u32 pc),(.bool fz),(.bool fn),(.bool fl),(.int .u32 k0),(.int .u32 k1),(.int .u32 k2),(.int .u32 k3),(.int .u32 k4),(.int .u32 k5),(.int .u32 k6),(.int .u32 k7),(.slice sA sN sC)],.ob 0 m1],[],[(.c 0 0,.p (.obj 1 0 0))]⟩
theorem yl:Vc2 Un prog (aU [(144,cy),(143,jK)]) [] Tryz.f142 .leaf [] fP=(∀g sp tb x0 x1 x2 x3 x4 x5 x6 x7 x8 x9 Nf Nm Nj On Nn pc fz fn fl k0 k1 k2 k3 k4 k5 k6 k7 sA sN sC r (E:Pd) rm (m:Mem),∀Q,(fP.body g sp tb x0 x1 x2 x3 x4 x5 x6 x7 x8 x9 Nf Nm Nj On Nn pc fz fn fl k0 k1 k2 k3 k4 k5 k6 k7 sA sN sC r E rm m Q)→yk g sp tb x0 x1 x2 x3 x4 x5 x6 x7 x8 x9 Nf Nm Nj On Nn pc fz fn fl k0 k1 k2 k3 k4 k5 k6 k7 sA sN sC r E rm m Q):=by kernel_rfl
theorem yj:LV Un prog 142 fP:=verify Tryz.func142 aj (tb:= [(144,cy),(143,jK)]) ⟨jT,B5,trivial⟩ (by kernel_rfl) (yl.mpr fun g sp tb x0 x1 x2 x3 x4 x5 x6 x7 x8 x9 Nf Nm Nj On Nn pc fz fn fl k0 k1 k2 k3 k4 k5 k6 k7 sA sN sC r E rm m Q h f1 f2 m1 Nq f3=>aL h rfl (ai (congrArg Upd.blk (ai rfl (ai rfl (ai rfl (ai rfl (ai (bU (by omega)) (ai (bU (by omega)) (ai (bU (by omega)) (ai (bU (by omega)) (ai (bU (by omega)) (ai (bU (by omega)) (ai (bU (by omega)) (ai (bU (by omega)) (ai rfl (ai rfl (ai rfl (ai rfl (ai rfl (ai rfl (ai rfl (ai rfl (ai rfl (ai rfl (ai rfl (ai rfl (ai rfl (ai rfl (ai rfl (ai rfl (ai rfl (ai rfl (ai rfl rfl)))))))))))))))))))))))))))))))) (ai (uO0 (by grind)) rfl)) rfl)
def gW:Ctr Un:=⟨[.one (.ptr 0)],[(3,5)],[.blk [.obj 1 0,.int .i64,.int .i64,.int .u32,.int .u32,.int .u32,.int .u32,.int .u32,.int .u32,.int .u32,.int .u32,.int .u32,.int .u32,.int .u32,.int .u32,.int .u32,.int .u32,.int .u32,.int .u32,.bool,.bool,.bool,.int .u32,.int .u32,.int .u32,.int .u32,.int .u32,.int .u32,.int .u32,.int .u32,.hdr] 145,.ob 1 [(1,2,0)],.ob 0 [],.ob 5 []],[0,2],fun g sp tb x0 x1 x2 x3 x4 x5 x6 x7 x8 x9 Nf Nm Nj On Nn pc fz fn fl k0 k1 k2 k3 k4 k5 k6 k7 sA sN sC r E rm m rk kk K=>(0≤(x1:Int)∧(x1:Int)<4294967296)∧K ⟨(.int .u32 (if m.vOk tb x1=true then 0 else 20)),none,[.blk [(.pointer (some (Addr.mk (r 0) 0 none))),(.int .i64 sp),(.int .i64 tb),(.int .u32 x0),(.int .u32 (m.vR kk (S8.mk k0 k1 k2 k3 k4 k5 k6 k7) tb x1)),(.int .u32 x2),(.int .u32 x3),(.int .u32 x4),(.int .u32 x5),(.int .u32 x6),(.int .u32 x7),(.int .u32 x8),(.int .u32 x9),(.int .u32 Nf),(.int .u32 Nm),(.int .u32 Nj),(.int .u32 On),(.int .u32 Nn),(.int .u32 pc),(.bool fz),(.bool fn),(.bool fl),(.int .u32 k0),(.int .u32 k1),(.int .u32 k2),(.int .u32 k3),(.int .u32 k4),(.int .u32 k5),(.int .u32 k6),(.int .u32 k7),(.slice sA sN sC)],.ob 0 m],[],[(.c 0 0,.p (.obj 1 0 0))]⟩⟩
def Ad(g:Nat)(sp:Int)(tb:Int)(x0:Int)(x1:Int)(x2:Int)(x3:Int)(x4:Int)(x5:Int)(x6:Int)(x7:Int)(x8:Int)(x9:Int)(Nf:Int)(Nm:Int)(Nj:Int)(On:Int)(Nn:Int)(pc:Int)(fz:Bool)(fn:Bool)(fl:Bool)(k0:Int)(k1:Int)(k2:Int)(k3:Int)(k4:Int)(k5:Int)(k6:Int)(k7:Int)(sA:Option Addr)(sN:Nat)(sC:Nat)(r:Nat→Nat)(E:Pd)(rm:Nat→Nat)(m:Mem)(rk:Nat→Nat)(kk:List Int)(Q:Ou Un→Prop):Prop:=
 Pd.Ok E→
 Mem.Wf m→
 ∀(gv:Nat),
 ∀(s:List U32),s=([U32.mk 0,U32.mk 0,U32.mk 0,U32.mk 0,U32.mk 0,U32.mk 0,U32.mk 0,U32.mk 0,U32.mk 0,U32.mk 0,U32.mk 0,U32.mk 0,U32.mk 0,U32.mk 0,U32.mk 0,U32.mk 0,U32.mk 0,U32.mk 0,U32.mk 0,U32.mk 0,U32.mk 0,U32.mk 0,U32.mk 0,U32.mk 0]:List U32)→
 ∃I:Nat→Int→Mem→List U32→Prop,(∃m1,I m1 0 m s)∧∀(m1:Nat)(Nt:Nat→Value)(NB:Int)(s2:Mem)(s4:List U32),I m1 NB s2 s4→
 Mem.Wf s2→
 split (decide (NB<24)) (
  (0≤(1:Int)∧(1:Int)<(15:Int))∧
  (((0≤(u32.wrap (x1+(u32.wrap (4*(u32.wrap NB)))))∧(u32.wrap (x1+(u32.wrap (4*(u32.wrap NB)))))<4294967296)∧
   ∀(m3:Mem),m3=s2→
   Mem.Wf m3→
   ∀(NC:Nat),
   split ((s2.jP tb (u32.wrap (x1+(u32.wrap (4*(u32.wrap NB))))) 0) !=0) (
    Q ⟨(.int .u32 20),none,[.blk [(.pointer (some (Addr.mk (r 0) 0 none))),(.int .i64 sp),(.int .i64 tb),(.int .u32 x0),(.int .u32 x1),(.int .u32 x2),(.int .u32 x3),(.int .u32 x4),(.int .u32 x5),(.int .u32 x6),(.int .u32 x7),(.int .u32 x8),(.int .u32 x9),(.int .u32 Nf),(.int .u32 Nm),(.int .u32 Nj),(.int .u32 On),(.int .u32 Nn),(.int .u32 pc),(.bool fz),(.bool fn),(.bool fl),(.int .u32 k0),(.int .u32 k1),(.int .u32 k2),(.int .u32 k3),(.int .u32 k4),(.int .u32 k5),(.int .u32 k6),(.int .u32 k7),(.slice sA sN sC)],.ob 0 m3],[],[(.c 0 0,.p (.obj 1 0 0))]⟩) (
    ((0≤(i64.wrap (NB.tdiv 8))∧(i64.wrap (NB.tdiv 8))<(3:Int))∧(Int.toNat (i64.wrap (NB.tdiv 8))+1)*8≤s4.length)∧
    ∀(m4:Mem),m4=m3→
    Mem.Wf m4→
    ((0≤(NB.tmod 8)∧(NB.tmod 8)<(8:Int))∧(((i64.wrap (NB.tdiv 8))*8)+(NB.tmod 8))<(s4.length:Int))∧
    True∧
    ∀(s1:List U32),s1=(List.set s4 (Int.toNat (((i64.wrap ((NB:Int).tdiv 8))*8)+((NB:Int).tmod 8))) (U32.mk (m3.aT (s2.trS tb (u32.wrap (x1+(u32.wrap (4*(u32.wrap NB))))) 0) (s2.trP tb (u32.wrap (x1+(u32.wrap (4*(u32.wrap NB))))) 0) (s2.trO tb (u32.wrap (x1+(u32.wrap (4*(u32.wrap NB))))) 0))))→
    ∃m2,m2<m1∧I m2 (i64.wrap (NB+1)) m4 s1))∧
   (∀(NC:Nat),
    (0≤(u32.wrap (x1+(u32.wrap (4*(u32.wrap NB)))))∧(u32.wrap (x1+(u32.wrap (4*(u32.wrap NB)))))<4294967296)∧
    ∀(m3:Mem),m3=s2→
    Mem.Wf m3→
    split ((s2.jP tb (u32.wrap (x1+(u32.wrap (4*(u32.wrap NB))))) 0) !=0) (
     Q ⟨(.int .u32 20),none,[.blk [(.pointer (some (Addr.mk (r 0) 0 none))),(.int .i64 sp),(.int .i64 tb),(.int .u32 x0),(.int .u32 x1),(.int .u32 x2),(.int .u32 x3),(.int .u32 x4),(.int .u32 x5),(.int .u32 x6),(.int .u32 x7),(.int .u32 x8),(.int .u32 x9),(.int .u32 Nf),(.int .u32 Nm),(.int .u32 Nj),(.int .u32 On),(.int .u32 Nn),(.int .u32 pc),(.bool fz),(.bool fn),(.bool fl),(.int .u32 k0),(.int .u32 k1),(.int .u32 k2),(.int .u32 k3),(.int .u32 k4),(.int .u32 k5),(.int .u32 k6),(.int .u32 k7),(.slice sA sN sC)],.ob 0 m3],[],[(.c 0 0,.p (.obj 1 0 0))]⟩) (
     ((0≤(i64.wrap (NB.tdiv 8))∧(i64.wrap (NB.tdiv 8))<(3:Int))∧(Int.toNat (i64.wrap (NB.tdiv 8))+1)*8≤s4.length)∧
     ∀(m4:Mem),m4=m3→
     Mem.Wf m4→
     ((0≤(NB.tmod 8)∧(NB.tmod 8)<(8:Int))∧(((i64.wrap (NB.tdiv 8))*8)+(NB.tmod 8))<(s4.length:Int))∧
     True∧
     ∀(s1:List U32),s1=(List.set s4 (Int.toNat (((i64.wrap ((NB:Int).tdiv 8))*8)+((NB:Int).tmod 8))) (U32.mk (m3.aT (s2.trS tb (u32.wrap (x1+(u32.wrap (4*(u32.wrap NB))))) 0) (s2.trP tb (u32.wrap (x1+(u32.wrap (4*(u32.wrap NB))))) 0) (s2.trO tb (u32.wrap (x1+(u32.wrap (4*(u32.wrap NB))))) 0))))→
     ∃m2,m2<m1∧I m2 (i64.wrap (NB+1)) m4 s1)))∧
  (∀(NC:Nat),
   (0≤(u32.wrap (x1+(u32.wrap (4*(u32.wrap NB)))))∧(u32.wrap (x1+(u32.wrap (4*(u32.wrap NB)))))<4294967296)∧
   ∀(m3:Mem),m3=s2→
   Mem.Wf m3→
   split ((s2.jP tb (u32.wrap (x1+(u32.wrap (4*(u32.wrap NB))))) 0) !=0) (
    Q ⟨(.int .u32 20),none,[.blk [(.pointer (some (Addr.mk (r 0) 0 none))),(.int .i64 sp),(.int .i64 tb),(.int .u32 x0),(.int .u32 x1),(.int .u32 x2),(.int .u32 x3),(.int .u32 x4),(.int .u32 x5),(.int .u32 x6),(.int .u32 x7),(.int .u32 x8),(.int .u32 x9),(.int .u32 Nf),(.int .u32 Nm),(.int .u32 Nj),(.int .u32 On),(.int .u32 Nn),(.int .u32 pc),(.bool fz),(.bool fn),(.bool fl),(.int .u32 k0),(.int .u32 k1),(.int .u32 k2),(.int .u32 k3),(.int .u32 k4),(.int .u32 k5),(.int .u32 k6),(.int .u32 k7),(.slice sA sN sC)],.ob 0 m3],[],[(.c 0 0,.p (.obj 1 0 0))]⟩) (
    ((0≤(i64.wrap (NB.tdiv 8))∧(i64.wrap (NB.tdiv 8))<(3:Int))∧(Int.toNat (i64.wrap (NB.tdiv 8))+1)*8≤s4.length)∧
    ∀(m4:Mem),m4=m3→
    Mem.Wf m4→
    ((0≤(NB.tmod 8)∧(NB.tmod 8)<(8:Int))∧(((i64.wrap (NB.tdiv 8))*8)+(NB.tmod 8))<(s4.length:Int))∧
    True∧
    ∀(s1:List U32),s1=(List.set s4 (Int.toNat (((i64.wrap ((NB:Int).tdiv 8))*8)+((NB:Int).tmod 8))) (U32.mk (m3.aT (s2.trS tb (u32.wrap (x1+(u32.wrap (4*(u32.wrap NB))))) 0) (s2.trP tb (u32.wrap (x1+(u32.wrap (4*(u32.wrap NB))))) 0) (s2.trO tb (u32.wrap (x1+(u32.wrap (4*(u32.wrap NB))))) 0))))→
    ∃m2,m2<m1∧I m2 (i64.wrap (NB+1)) m4 s1))) (
  (0≤(1:Int)∧(1:Int)<(15:Int))∧
  ((0≤(0:Int)∧(0:Int)<(3:Int))∧(Int.toNat 0+1)*8≤s4.length)∧
  ((Int.toNat (0*8)+8)≤s4.length)∧
  ((0≤(1:Int)∧(1:Int)<(3:Int))∧(Int.toNat 1+1)*8≤s4.length)∧
  ((Int.toNat (1*8)+8)≤s4.length)∧
  ((0≤(2:Int)∧(2:Int)<(3:Int))∧(Int.toNat 2+1)*8≤s4.length)∧
  ((Int.toNat (2*8)+8)≤s4.length)∧
  (S8.mk ((s4.getD (Int.toNat (0*8)+0) (U32.mk 0)).v) ((s4.getD (Int.toNat (0*8)+1) (U32.mk 0)).v) ((s4.getD (Int.toNat (0*8)+2) (U32.mk 0)).v) ((s4.getD (Int.toNat (0*8)+3) (U32.mk 0)).v) ((s4.getD (Int.toNat (0*8)+4) (U32.mk 0)).v) ((s4.getD (Int.toNat (0*8)+5) (U32.mk 0)).v) ((s4.getD (Int.toNat (0*8)+6) (U32.mk 0)).v) ((s4.getD (Int.toNat (0*8)+7) (U32.mk 0)).v)).ok∧
  (S8.mk ((s4.getD (Int.toNat (1*8)+0) (U32.mk 0)).v) ((s4.getD (Int.toNat (1*8)+1) (U32.mk 0)).v) ((s4.getD (Int.toNat (1*8)+2) (U32.mk 0)).v) ((s4.getD (Int.toNat (1*8)+3) (U32.mk 0)).v) ((s4.getD (Int.toNat (1*8)+4) (U32.mk 0)).v) ((s4.getD (Int.toNat (1*8)+5) (U32.mk 0)).v) ((s4.getD (Int.toNat (1*8)+6) (U32.mk 0)).v) ((s4.getD (Int.toNat (1*8)+7) (U32.mk 0)).v)).ok∧
  (S8.mk ((s4.getD (Int.toNat (2*8)+0) (U32.mk 0)).v) ((s4.getD (Int.toNat (2*8)+1) (U32.mk 0)).v) ((s4.getD (Int.toNat (2*8)+2) (U32.mk 0)).v) ((s4.getD (Int.toNat (2*8)+3) (U32.mk 0)).v) ((s4.getD (Int.toNat (2*8)+4) (U32.mk 0)).v) ((s4.getD (Int.toNat (2*8)+5) (U32.mk 0)).v) ((s4.getD (Int.toNat (2*8)+6) (U32.mk 0)).v) ((s4.getD (Int.toNat (2*8)+7) (U32.mk 0)).v)).ok∧
  split (decide (bO kk (S8.mk k0 k1 k2 k3 k4 k5 k6 k7) (S8.mk ((s4.getD (Int.toNat (0*8)+0) (U32.mk 0)).v) ((s4.getD (Int.toNat (0*8)+1) (U32.mk 0)).v) ((s4.getD (Int.toNat (0*8)+2) (U32.mk 0)).v) ((s4.getD (Int.toNat (0*8)+3) (U32.mk 0)).v) ((s4.getD (Int.toNat (0*8)+4) (U32.mk 0)).v) ((s4.getD (Int.toNat (0*8)+5) (U32.mk 0)).v) ((s4.getD (Int.toNat (0*8)+6) (U32.mk 0)).v) ((s4.getD (Int.toNat (0*8)+7) (U32.mk 0)).v)) (S8.mk ((s4.getD (Int.toNat (1*8)+0) (U32.mk 0)).v) ((s4.getD (Int.toNat (1*8)+1) (U32.mk 0)).v) ((s4.getD (Int.toNat (1*8)+2) (U32.mk 0)).v) ((s4.getD (Int.toNat (1*8)+3) (U32.mk 0)).v) ((s4.getD (Int.toNat (1*8)+4) (U32.mk 0)).v) ((s4.getD (Int.toNat (1*8)+5) (U32.mk 0)).v) ((s4.getD (Int.toNat (1*8)+6) (U32.mk 0)).v) ((s4.getD (Int.toNat (1*8)+7) (U32.mk 0)).v))=(S8.mk ((s4.getD (Int.toNat (2*8)+0) (U32.mk 0)).v) ((s4.getD (Int.toNat (2*8)+1) (U32.mk 0)).v) ((s4.getD (Int.toNat (2*8)+2) (U32.mk 0)).v) ((s4.getD (Int.toNat (2*8)+3) (U32.mk 0)).v) ((s4.getD (Int.toNat (2*8)+4) (U32.mk 0)).v) ((s4.getD (Int.toNat (2*8)+5) (U32.mk 0)).v) ((s4.getD (Int.toNat (2*8)+6) (U32.mk 0)).v) ((s4.getD (Int.toNat (2*8)+7) (U32.mk 0)).v)))) (
   (0≤(1:Int)∧(1:Int)<(15:Int))∧
   Q ⟨(.int .u32 0),none,[.blk [(.pointer (some (Addr.mk (r 0) 0 none))),(.int .i64 sp),(.int .i64 tb),(.int .u32 x0),(.int .u32 1),(.int .u32 x2),(.int .u32 x3),(.int .u32 x4),(.int .u32 x5),(.int .u32 x6),(.int .u32 x7),(.int .u32 x8),(.int .u32 x9),(.int .u32 Nf),(.int .u32 Nm),(.int .u32 Nj),(.int .u32 On),(.int .u32 Nn),(.int .u32 pc),(.bool fz),(.bool fn),(.bool fl),(.int .u32 k0),(.int .u32 k1),(.int .u32 k2),(.int .u32 k3),(.int .u32 k4),(.int .u32 k5),(.int .u32 k6),(.int .u32 k7),(.slice sA sN sC)],.ob 0 s2],[],[(.c 0 0,.p (.obj 1 0 0))]⟩) (
   Q ⟨(.int .u32 0),none,[.blk [(.pointer (some (Addr.mk (r 0) 0 none))),(.int .i64 sp),(.int .i64 tb),(.int .u32 x0),(.int .u32 0),(.int .u32 x2),(.int .u32 x3),(.int .u32 x4),(.int .u32 x5),(.int .u32 x6),(.int .u32 x7),(.int .u32 x8),(.int .u32 x9),(.int .u32 Nf),(.int .u32 Nm),(.int .u32 Nj),(.int .u32 On),(.int .u32 Nn),(.int .u32 pc),(.bool fz),(.bool fn),(.bool fl),(.int .u32 k0),(.int .u32 k1),(.int .u32 k2),(.int .u32 k3),(.int .u32 k4),(.int .u32 k5),(.int .u32 k6),(.int .u32 k7),(.slice sA sN sC)],.ob 0 s2],[],[(.c 0 0,.p (.obj 1 0 0))]⟩))
theorem Ae:Vc2 Un prog (aU [(32,dg),(188,fe),(189,gA),(190,ou)]) [] Tryz.f137 (.r' (.r' (.two (.r' (.two (.node [] (some ⟨[(8,(.one (.int .i64)))],[],[2]++upN 4 55,[(2,(.ob 0)),(4,(.ob 7))]⟩) [] [] (.r' (.r' (.two (.two (.r' (.two (.node [] none [] [(4,[0]),(10,[0]),(17,[0])] .leaf .leaf) (.r' (.node [] none [] [(8,[0]),(10,[5])] .leaf .leaf)))) .leaf) .leaf))) .leaf) .leaf)) (.r' (.two (.two (.node [] none [] [(3,[0]),(5,[4]),(7,[4]),(9,[4])] .leaf .leaf) .leaf) .leaf))))) [] gW=(∀g sp tb x0 x1 x2 x3 x4 x5 x6 x7 x8 x9 Nf Nm Nj On Nn pc fz fn fl k0 k1 k2 k3 k4 k5 k6 k7 sA sN sC r (E:Pd) rm (m:Mem) rk (kk:List Int),∀Q,(gW.body g sp tb x0 x1 x2 x3 x4 x5 x6 x7 x8 x9 Nf Nm Nj On Nn pc fz fn fl k0 k1 k2 k3 k4 k5 k6 k7 sA sN sC r E rm m rk kk Q)→Ad g sp tb x0 x1 x2 x3 x4 x5 x6 x7 x8 x9 Nf Nm Nj On Nn pc fz fn fl k0 k1 k2 k3 k4 k5 k6 k7 sA sN sC r E rm m rk kk Q):=by kernel_rfl
theorem Ac:LV Un prog 137 gW:=verify Tryz.func137 aj (tb:= [(32,dg),(188,fe),(189,gA),(190,ou)]) ⟨jk,vd,pK,Ey,trivial⟩ (by kernel_rfl) (Ae.mpr fun g sp tb x0 x1 x2 x3 x4 x5 x6 x7 x8 x9 Nf Nm Nj On Nn pc fz fn fl k0 k1 k2 k3 k4 k5 k6 k7 sA sN sC r E rm m rk kk Q h=>by
 obtain⟨NF,h⟩:=h
 exact fun f1 f2 gv s OM=>⟨fun m1 NB s2 s4=>(m1=(24 - NB).toNat)∧(0≤NB∧NB≤24)∧(s2=m)∧(s4=m.vF tb x1 NB.toNat)∧(∀i:Nat,(i:Int)<NB→m.HN tb x1 i=0),⟨_,rfl,(by omega),(by rfl),‹_›,(by intro i;omega)⟩,fun m1 _ NB s2 s4 ⟨hm,hi,hM,hL,hO⟩=>(by(have hlen:s4.length=24:=by rw [hL];exact mW (by omega));(have hr:∀j,0≤(s4.getD j (U32.mk 0)).v∧(s4.getD j (U32.mk 0)).v<4294967296:=by rw [hL];exact FR (fun i=>dw f2 _ _ _));(have e9:((NB.toNat:Nat):Int)=NB:=by omega);(have e2:i64.wrap ((NB:Int).tdiv 8)=NB / 8:=by rw [Int.tdiv_eq_ediv_of_nonneg hi.1,aq (by omega)]);have e3:(NB:Int).tmod 8=NB % 8:=Int.tmod_eq_emod_of_nonneg hi.1;(have e1:i64.wrap ((NB:Int).tdiv 8)*8+(NB:Int).tmod 8=NB:=by rw [e2,e3];omega);exact fun f3=>ax (fun c1=>ak (by omega) fun s4=>⟨⟨ak (bL _) fun s5 m3 Np f6 NC=>aV (fun c2=>(by have cc:=c2;exact(by(have hb:m.vOk tb x1=false:=by rw [Bool.eq_false_iff];intro h;exact cc (by rw [hM];have:=Mem.kQ.1 h NB.toNat (by omega);rw [e9]at this;exact this));exact aL h (bU (by(rw [hb];rfl))) (ai (congrArg Upd.blk (ai rfl (ai rfl (ai rfl (ai rfl (ai (bU (by exact Mem.zg hb)) (ai rfl (ai rfl (ai rfl (ai rfl (ai rfl (ai rfl (ai rfl (ai rfl (ai rfl (ai rfl (ai rfl (ai rfl (ai rfl (ai rfl (ai rfl (ai rfl (ai rfl (ai rfl (ai rfl (ai rfl (ai rfl (ai rfl (ai rfl (ai rfl (ai rfl (ai rfl rfl)))))))))))))))))))))))))))))))) (ai (uO0 (by exact(Np.trans hM).symm)) rfl)) rfl))) fun c2=>(by have cc:=c2;exact ak (by exact⟨by omega,by rw [e2,hlen];omega⟩) fun s7 m4 Q0 f8=>ak (by exact⟨by omega,by rw [e1,hlen];omega⟩) fun s9=>ak trivial fun _ s1 NA=>⟨_,(by rw [aq (by omega)];omega),rfl,(by rw [aq (by omega)];omega),(by rw [Q0,Np];exact hM),(by rw [NA,e1];exact k8 hL ⟨hi.1,by omega⟩ (by decide) (by rw [Np,hM,e9];rfl)),(by rw [aq (by omega)];intro i h9;rcases Int.lt_or_eq_of_le (show(i:Int)≤NB by omega)with h8 | h8;exact hO i h8;rw [h8];rw [hM]at cc;exact cc)⟩),fun NC=>ak (bL _) fun OW m3 Np f12=>aV (fun c3=>(by have cc:=c3;exact(by(have hb:m.vOk tb x1=false:=by rw [Bool.eq_false_iff];intro h;exact cc (by rw [hM];have:=Mem.kQ.1 h NB.toNat (by omega);rw [e9]at this;exact this));exact aL h (bU (by(rw [hb];rfl))) (ai (congrArg Upd.blk (ai rfl (ai rfl (ai rfl (ai rfl (ai (bU (by exact Mem.zg hb)) (ai rfl (ai rfl (ai rfl (ai rfl (ai rfl (ai rfl (ai rfl (ai rfl (ai rfl (ai rfl (ai rfl (ai rfl (ai rfl (ai rfl (ai rfl (ai rfl (ai rfl (ai rfl (ai rfl (ai rfl (ai rfl (ai rfl (ai rfl (ai rfl (ai rfl (ai rfl rfl)))))))))))))))))))))))))))))))) (ai (uO0 (by exact(Np.trans hM).symm)) rfl)) rfl))) fun c3=>(by have cc:=c3;exact ak (by exact⟨by omega,by rw [e2,hlen];omega⟩) fun NG m4 Q0 f14=>ak (by exact⟨by omega,by rw [e1,hlen];omega⟩) fun Qx=>ak trivial fun _ s1 NA=>⟨_,(by rw [aq (by omega)];omega),rfl,(by rw [aq (by omega)];omega),(by rw [Q0,Np];exact hM),(by rw [NA,e1];exact k8 hL ⟨hi.1,by omega⟩ (by decide) (by rw [Np,hM,e9];rfl)),(by rw [aq (by omega)];intro i h9;rcases Int.lt_or_eq_of_le (show(i:Int)≤NB by omega)with h8 | h8;exact hO i h8;rw [h8];rw [hM]at cc;exact cc)⟩)⟩,fun NC=>ak (bL _) fun s17 m3 Np f18=>aV (fun c4=>(by have cc:=c4;exact(by(have hb:m.vOk tb x1=false:=by rw [Bool.eq_false_iff];intro h;exact cc (by rw [hM];have:=Mem.kQ.1 h NB.toNat (by omega);rw [e9]at this;exact this));exact aL h (bU (by(rw [hb];rfl))) (ai (congrArg Upd.blk (ai rfl (ai rfl (ai rfl (ai rfl (ai (bU (by exact Mem.zg hb)) (ai rfl (ai rfl (ai rfl (ai rfl (ai rfl (ai rfl (ai rfl (ai rfl (ai rfl (ai rfl (ai rfl (ai rfl (ai rfl (ai rfl (ai rfl (ai rfl (ai rfl (ai rfl (ai rfl (ai rfl (ai rfl (ai rfl (ai rfl (ai rfl (ai rfl (ai rfl rfl)))))))))))))))))))))))))))))))) (ai (uO0 (by exact(Np.trans hM).symm)) rfl)) rfl))) fun c4=>(by have cc:=c4;exact ak (by exact⟨by omega,by rw [e2,hlen];omega⟩) fun s19 m4 Q0 f20=>ak (by exact⟨by omega,by rw [e1,hlen];omega⟩) fun s21=>ak trivial fun _ s1 NA=>⟨_,(by rw [aq (by omega)];omega),rfl,(by rw [aq (by omega)];omega),(by rw [Q0,Np];exact hM),(by rw [NA,e1];exact k8 hL ⟨hi.1,by omega⟩ (by decide) (by rw [Np,hM,e9];rfl)),(by rw [aq (by omega)];intro i h9;rcases Int.lt_or_eq_of_le (show(i:Int)≤NB by omega)with h8 | h8;exact hO i h8;rw [h8];rw [hM]at cc;exact cc)⟩)⟩) fun c1=>ak (by omega) fun s23=>ak (by rw [hlen];decide) fun s24=>ak (by rw [hlen];decide) fun s25=>ak (by rw [hlen];decide) fun s26=>ak (by rw [hlen];decide) fun s27=>ak (by rw [hlen];decide) fun s28=>ak (by rw [hlen];decide) fun s29=>ak (⟨hr _,hr _,hr _,hr _,hr _,hr _,hr _,hr _⟩) fun s30=>ak (⟨hr _,hr _,hr _,hr _,hr _,hr _,hr _,hr _⟩) fun SB=>ak (⟨hr _,hr _,hr _,hr _,hr _,hr _,hr _,hr _⟩) fun s32=>ax (fun c5=>(by have cc:=c5;exact ak ‹_› fun s33=>(by(have e8:NB.toNat=24:=by omega);(have g:∀j,j<24→(s4.getD j (U32.mk 0)).v=m.vW tb x1 (j:Int):=fun j hj=>by rw [hL,e8];exact wZ hj);(have q0:(S8.mk ((s4.getD (Int.toNat (0*8)+0) (U32.mk 0)).v) ((s4.getD (Int.toNat (0*8)+1) (U32.mk 0)).v) ((s4.getD (Int.toNat (0*8)+2) (U32.mk 0)).v) ((s4.getD (Int.toNat (0*8)+3) (U32.mk 0)).v) ((s4.getD (Int.toNat (0*8)+4) (U32.mk 0)).v) ((s4.getD (Int.toNat (0*8)+5) (U32.mk 0)).v) ((s4.getD (Int.toNat (0*8)+6) (U32.mk 0)).v) ((s4.getD (Int.toNat (0*8)+7) (U32.mk 0)).v))=m.vS tb x1 0:=S8.ext (g 0 (by decide)) (g 1 (by decide)) (g 2 (by decide)) (g 3 (by decide)) (g 4 (by decide)) (g 5 (by decide)) (g 6 (by decide)) (g 7 (by decide)));(have q1:(S8.mk ((s4.getD (Int.toNat (1*8)+0) (U32.mk 0)).v) ((s4.getD (Int.toNat (1*8)+1) (U32.mk 0)).v) ((s4.getD (Int.toNat (1*8)+2) (U32.mk 0)).v) ((s4.getD (Int.toNat (1*8)+3) (U32.mk 0)).v) ((s4.getD (Int.toNat (1*8)+4) (U32.mk 0)).v) ((s4.getD (Int.toNat (1*8)+5) (U32.mk 0)).v) ((s4.getD (Int.toNat (1*8)+6) (U32.mk 0)).v) ((s4.getD (Int.toNat (1*8)+7) (U32.mk 0)).v))=m.vS tb x1 8:=S8.ext (g 8 (by decide)) (g 9 (by decide)) (g 10 (by decide)) (g 11 (by decide)) (g 12 (by decide)) (g 13 (by decide)) (g 14 (by decide)) (g 15 (by decide)));(have q2:(S8.mk ((s4.getD (Int.toNat (2*8)+0) (U32.mk 0)).v) ((s4.getD (Int.toNat (2*8)+1) (U32.mk 0)).v) ((s4.getD (Int.toNat (2*8)+2) (U32.mk 0)).v) ((s4.getD (Int.toNat (2*8)+3) (U32.mk 0)).v) ((s4.getD (Int.toNat (2*8)+4) (U32.mk 0)).v) ((s4.getD (Int.toNat (2*8)+5) (U32.mk 0)).v) ((s4.getD (Int.toNat (2*8)+6) (U32.mk 0)).v) ((s4.getD (Int.toNat (2*8)+7) (U32.mk 0)).v))=m.vS tb x1 16:=S8.ext (g 16 (by decide)) (g 17 (by decide)) (g 18 (by decide)) (g 19 (by decide)) (g 20 (by decide)) (g 21 (by decide)) (g 22 (by decide)) (g 23 (by decide)));(have OQ:m.vOk tb x1=true:=Mem.kQ.2 fun i hi=>hO i (by omega));rw [q0,q1,q2]at cc;exact aL h (bU (by(rw [OQ];rfl))) (ai (congrArg Upd.blk (ai rfl (ai rfl (ai rfl (ai rfl (ai (bU (by exact Mem.Ka OQ cc)) (ai rfl (ai rfl (ai rfl (ai rfl (ai rfl (ai rfl (ai rfl (ai rfl (ai rfl (ai rfl (ai rfl (ai rfl (ai rfl (ai rfl (ai rfl (ai rfl (ai rfl (ai rfl (ai rfl (ai rfl (ai rfl (ai rfl (ai rfl (ai rfl (ai rfl (ai rfl rfl)))))))))))))))))))))))))))))))) (ai (uO0 (by exact hM.symm)) rfl)) rfl))) fun c5=>(by have cc:=c5;exact(by(have e8:NB.toNat=24:=by omega);(have g:∀j,j<24→(s4.getD j (U32.mk 0)).v=m.vW tb x1 (j:Int):=fun j hj=>by rw [hL,e8];exact wZ hj);(have q0:(S8.mk ((s4.getD (Int.toNat (0*8)+0) (U32.mk 0)).v) ((s4.getD (Int.toNat (0*8)+1) (U32.mk 0)).v) ((s4.getD (Int.toNat (0*8)+2) (U32.mk 0)).v) ((s4.getD (Int.toNat (0*8)+3) (U32.mk 0)).v) ((s4.getD (Int.toNat (0*8)+4) (U32.mk 0)).v) ((s4.getD (Int.toNat (0*8)+5) (U32.mk 0)).v) ((s4.getD (Int.toNat (0*8)+6) (U32.mk 0)).v) ((s4.getD (Int.toNat (0*8)+7) (U32.mk 0)).v))=m.vS tb x1 0:=S8.ext (g 0 (by decide)) (g 1 (by decide)) (g 2 (by decide)) (g 3 (by decide)) (g 4 (by decide)) (g 5 (by decide)) (g 6 (by decide)) (g 7 (by decide)));(have q1:(S8.mk ((s4.getD (Int.toNat (1*8)+0) (U32.mk 0)).v) ((s4.getD (Int.toNat (1*8)+1) (U32.mk 0)).v) ((s4.getD (Int.toNat (1*8)+2) (U32.mk 0)).v) ((s4.getD (Int.toNat (1*8)+3) (U32.mk 0)).v) ((s4.getD (Int.toNat (1*8)+4) (U32.mk 0)).v) ((s4.getD (Int.toNat (1*8)+5) (U32.mk 0)).v) ((s4.getD (Int.toNat (1*8)+6) (U32.mk 0)).v) ((s4.getD (Int.toNat (1*8)+7) (U32.mk 0)).v))=m.vS tb x1 8:=S8.ext (g 8 (by decide)) (g 9 (by decide)) (g 10 (by decide)) (g 11 (by decide)) (g 12 (by decide)) (g 13 (by decide)) (g 14 (by decide)) (g 15 (by decide)));(have q2:(S8.mk ((s4.getD (Int.toNat (2*8)+0) (U32.mk 0)).v) ((s4.getD (Int.toNat (2*8)+1) (U32.mk 0)).v) ((s4.getD (Int.toNat (2*8)+2) (U32.mk 0)).v) ((s4.getD (Int.toNat (2*8)+3) (U32.mk 0)).v) ((s4.getD (Int.toNat (2*8)+4) (U32.mk 0)).v) ((s4.getD (Int.toNat (2*8)+5) (U32.mk 0)).v) ((s4.getD (Int.toNat (2*8)+6) (U32.mk 0)).v) ((s4.getD (Int.toNat (2*8)+7) (U32.mk 0)).v))=m.vS tb x1 16:=S8.ext (g 16 (by decide)) (g 17 (by decide)) (g 18 (by decide)) (g 19 (by decide)) (g 20 (by decide)) (g 21 (by decide)) (g 22 (by decide)) (g 23 (by decide)));(have OQ:m.vOk tb x1=true:=Mem.kQ.2 fun i hi=>hO i (by omega));rw [q0,q1,q2]at cc;exact aL h (bU (by(rw [OQ];rfl))) (ai (congrArg Upd.blk (ai rfl (ai rfl (ai rfl (ai rfl (ai (bU (by exact Mem.Lt OQ cc)) (ai rfl (ai rfl (ai rfl (ai rfl (ai rfl (ai rfl (ai rfl (ai rfl (ai rfl (ai rfl (ai rfl (ai rfl (ai rfl (ai rfl (ai rfl (ai rfl (ai rfl (ai rfl (ai rfl (ai rfl (ai rfl (ai rfl (ai rfl (ai rfl (ai rfl (ai rfl rfl)))))))))))))))))))))))))))))))) (ai (uO0 (by exact hM.symm)) rfl)) rfl)))⟩)
section
attribute [local grind=] DB.entry DB.bq DB.of DB.is DB.fR
end
section
attribute [local grind=] DB.KQ DB.MK DB.tl DB.KF
end
section
attribute [local grind=] DB.Kc DB.Mz DB.tl DB.KF MX
end
section
attribute [local grind=] DB.Kk DB.MB DB.tl DB.KF DB.word
end
section
attribute [local grind=] Mem.drawn
end
end
end Go.Proofs.YtfmcaoaaiganbaaGreatDoor
namespace Go.Proofs.YtfmcaoaaiganbaaGreatDoor
open Go.Proofs.Tryz (prog)
open Go Go.RowKit V
open Go.IntKind (i64 u32 u64)
theorem Br(w:Int):0≤(bD w).ay∧(bD w).ay<64:=by
 unfold bD
 split
 ·rename_i h
  have h:=h.2
  unfold uE Mp.err at h
  simp only [decide_eq_true_eq]at h
  have h:=h.1
  split at h
  ·assumption
  ·omega
 ·exact⟨by decide,by decide⟩
theorem px {w:Int}(hw:0≤w):0≤aN w∧aN w<64:=by
 unfold aN
 split
 ·rename_i h
  unfold CI at h
  simp only [decide_eq_true_eq]at h
  omega
 ·omega
theorem eqF(a b:Bool)(x y:Int):bp #[.bool a,.int .i64 x] #[.bool b,.int .i64 y]=((a==b) && (x==y)):=by
 simp [bp,eqL,jN]
theorem Di {f:Int→Bool} {a b:Int}(h:a≤b):cO f a≤cO f b:=by
 by_cases h0:a<0
 ·have e:cO f a=0:=by unfold cO;rw [show a.toNat=0 by omega];rfl
  rw [e];exact ir
 obtain⟨k,rfl⟩:∃k:Nat,b=a+k:=⟨(b - a).toNat,by omega⟩
 clear h
 induction k with
 | zero=>simp
 | succ k ih=>
  have:=dD (f:=f) (n:=a+(k:Int)) (by omega)
  rw [show a+((k+1:Nat):Int)=a+k+1 by omega,this]
  split<;>omega
theorem k9 {f:Int→Bool} {n:Int}(h:∀x,0≤x→x<n→f x=false):cO f n=0:=by
 unfold cO
 have:(List.range n.toNat).countP (fun(i:Nat)=>f (i:Int))=0:=by
  rw [List.countP_eq_zero]
  intro i hi
  have:=List.mem_range.1 hi
  rw [h _ (by omega) (by omega)];simp
 omega
theorem xv {f g:Int→Bool} {q:Int}:∀ {n:Nat},0≤q→f q=false→g q=true→(∀x,0≤x→x<(n:Int)→x≠q→g x=f x)→cO g n=cO f n+(if q<(n:Int)then 1 else 0)
 | 0,h0,_,_,_=>by rw [if_neg (by omega)];rfl
 | n+1,h0,hf,hg,h=>by
  have ih:=xv (n:=n) h0 hf hg fun x a b c=>h x a (by omega) c
  have e1:=dD (f:=f) (n:=(n:Int)) (by omega)
  have e2:=dD (f:=g) (n:=(n:Int)) (by omega)
  rw [show((n+1:Nat):Int)=(n:Int)+1 by omega,e1,e2,ih]
  by_cases hq:q=(n:Int)
  ·subst hq
   have a:¬(n:Int)<n:=by omega
   have b:(n:Int)<n+1:=by omega
   simp [hf,hg,b]
  ·rw [h _ (by omega) (by omega) (fun e=>hq e.symm)]
   by_cases h1:q<(n:Int)
   ·rw [if_pos h1,if_pos (show q<(n:Int)+1 by omega)];omega
   ·rw [if_neg h1,if_neg (show ¬q<(n:Int)+1 by omega)];omega
theorem Cr {E:Pd} {i:Int}(h:0≤i∧i<(E.n:Int)):E.aA.take i.toNat++ [E.ent i.toNat]=E.aA.take (i+1).toNat:=by
 rw [show(i+1).toNat=i.toNat+1 by omega,List.take_add_one,Pd.qI (by omega)];rfl
structure lI(D:DB)(p lo:Int)(n:Nat)(x:Int)(l:List U32):Prop where
 len:l.length=n
 val:∀i:Nat,(i:Int)<x→i<n→l[i]? =some ⟨D.word p (lo+(i:Int))⟩
theorem lI.init(D:DB)(p lo:Int)(n:Nat):lI D p lo n 0 (List.replicate n (U32.mk 0)):=⟨by simp,fun i h=>by omega⟩
theorem lI.next {D:DB} {p lo x:Int} {n:Nat} {l:List U32}(h:lI D p lo n x l)(h0:0≤x)(hx:x<(n:Int))(hl:0≤lo∧lo<1024∧n<1024):lI D p lo n (i64.wrap (x+1)) (l.set x.toNat ⟨D.word p (i64.wrap (lo+x))⟩):=by
 rw [aq (by omega),aq (by omega)]
 refine⟨by simp [h.len],fun i hi hn=>?_⟩
 rw [List.getElem?_set]
 by_cases RY:x.toNat=i
 ·rw [if_pos RY,if_pos (by rw [h.len];omega),show(i:Int)=x by omega]
 ·rw [if_neg RY];exact h.val i (by omega) hn
theorem lI.done {D:DB} {p lo x:Int} {n:Nat} {l:List U32}(h:lI D p lo n x l)(hx:(n:Int)≤x):D.some_ p lo n=l:=by
 apply List.ext_getElem?
 intro i
 by_cases hi:i<n
 ·rw [h.val i (by omega) hi]
  simp [DB.some_,hi]
 ·rw [List.getElem?_eq_none (by simp [DB.some_];omega),List.getElem?_eq_none (by rw [h.len];omega)]
namespace DB
def cv(D:DB)(p:Int):Int:=if D.is (D.at_ p).owner 1 then(D.at_ p).owner else -1
def pgs(D:DB)(t o:Int)(n:Nat):List I64:=((List.range n).filter fun(q:Nat)=>(D.at_ (q:Int)).typ==t && (D.at_ (q:Int)).owner==o).map fun(q:Nat)=>⟨(q:Int)⟩
theorem wm(D:DB)(t o:Int) {i:Int}(h:0≤i∧i<9000000000000000000):D.pgs t o (i64.wrap (i+1)).toNat=if((D.at_ i).typ==t && (D.at_ i).owner==o)=true then D.pgs t o i.toNat++ [⟨i⟩]else D.pgs t o i.toNat:=by
 rw [aq (by omega),show(i+1).toNat=i.toNat+1 by omega]
 unfold pgs
 rw [List.range_succ,List.filter_append,List.map_append]
 have e:((i.toNat:Nat):Int)=i:=by omega
 split<;>rename_i hc<;>simp [e,hc]
theorem jy(D:DB)(t o:Int)(n:Nat):(D.pgs t o n).length≤n:=by
 unfold pgs
 rw [List.length_map]
 have:=List.length_filter_le (fun(q:Nat)=>(D.at_ (q:Int)).typ==t && (D.at_ (q:Int)).owner==o) (List.range n)
 rwa [List.length_range]at this
theorem zy {D:DB} {t o:Int} {x:I64}:x∈D.pgs t o D.S↔D.of x.v t o=true:=by
 unfold pgs of is has
 rw [List.mem_map]
 constructor
 ·rintro⟨q,hq,rfl⟩
  rw [List.mem_filter,List.mem_range]at hq
  have h2:=hq.2
  simp only [Bool.and_eq_true]at h2 ⊢
  exact⟨⟨by simp;exact hq.1,h2.1⟩,h2.2⟩
 ·intro h
  simp only [Bool.and_eq_true,decide_eq_true_eq]at h
  refine⟨x.v.toNat,?_,?_⟩
  ·rw [List.mem_filter,List.mem_range,show((x.v.toNat:Nat):Int)=x.v by omega]
   exact⟨by omega,by rw [Bool.and_eq_true];exact⟨h.1.2,h.2⟩⟩
  ·rw [show((x.v.toNat:Nat):Int)=x.v by omega]
theorem uF(D:DB)(t o:Int):((D.pgs t o D.S).length:Int)=cO (fun q=>D.of q t o) D.S:=by
 unfold pgs cO
 rw [List.length_map,← List.countP_eq_length_filter,Int.toNat_natCast]
 congr 1
 apply List.countP_congr
 intro q hq
 have:=List.mem_range.1 hq
 simp only [of,is,has]
 rw [show decide (0≤(q:Int)∧(q:Int)<(D.S:Int))=true by simp;omega,Bool.true_and]
theorem H5 {D:DB} {t o:Int}(h:((D.pgs t o D.S).length:Int)=1)(x:Int):D.of x t o=(x==((D.pgs t o D.S).getD (Int.toNat 0) (I64.mk 0)).v):=by
 have hx:=zy (D:=D) (t:=t) (o:=o) (x:=⟨x⟩)
 obtain⟨y,hy⟩:=List.length_eq_one_iff.1 (show(D.pgs t o D.S).length=1 by omega)
 rw [hy]at hx ⊢
 rw [List.mem_singleton]at hx
 rw [Bool.eq_iff_iff,← hx,beq_iff_eq]
 show I64.mk x=y↔x=y.v
 cases y
 simp
theorem first_eq {D:DB} {p:Int}(hS:D.S≤64):(((((D.pgs 3 p D.S).length:Nat):Int)==1) && (D.word p 0==u32.wrap ((D.pgs 3 p D.S).getD (Int.toNat 0) (I64.mk 0)).v))=(cO (fun q=>D.of q 3 p) D.S==1 && D.of (D.word p 0) 3 p):=by
 rw [uF]
 by_cases h:cO (fun q=>D.of q 3 p) D.S=1
 ·have h1:((D.pgs 3 p D.S).length:Int)=1:=by rw [uF];exact h
  have h2:=H5 h1
  have h3:=h2 ((D.pgs 3 p D.S).getD (Int.toNat 0) (I64.mk 0)).v
  rw [beq_self_eq_true]at h3
  unfold of is has at h3
  simp only [Bool.and_eq_true,decide_eq_true_eq]at h3
  rw [h2,cG (by omega)]
 ·rw [show(cO (fun q=>D.of q 3 p) D.S==1)=false by simpa using h];rfl
theorem Ic {D:DB} {t o q:Int} {l:List I64}(hl:l=D.pgs t o D.S)(h:∀j:Nat,(j:Int)<(l.length:Int)→¬(l.getD j (I64.mk 0)).v=q):D.of q t o=false:=by
 cases hc:D.of q t o
 ·rfl
 ·exfalso
  have hm:=zy (x:=⟨q⟩).2 hc
  rw [← hl]at hm
  obtain⟨j,hj,he⟩:=List.mem_iff_getElem.1 hm
  exact h j (by omega) (by rw [List.getD_eq_getElem?_getD,List.getElem?_eq_getElem hj,he];rfl)
theorem KU {D:DB} {t o q x:Int} {l:List I64}(hl:l=D.pgs t o D.S)(hx:0≤x∧x<(l.length:Int))(h:(l.getD x.toNat (I64.mk 0)).v=q):D.of q t o=true:=by
 have hi:x.toNat<l.length:=by omega
 rw [List.getD_eq_getElem?_getD,List.getElem?_eq_getElem hi]at h
 have hm:l[x.toNat]∈l:=List.getElem_mem hi
 have QK:l[x.toNat]∈D.pgs t o D.S:=hl▸hm
 rw [← h]
 exact zy.1 QK
theorem xB(D:DB)(p:Int):D.clause 1 p=((D.at_ p).typ !=1 || (D.at_ p).owner==p):=rfl
theorem xA(D:DB)(p:Int):D.clause 2 p=((D.at_ p).typ !=0 || D.zero p 0 1024):=rfl
theorem xz(D:DB)(p:Int):D.clause 3 p=((D.at_ p).typ==1 || ((D.at_ p).typ==0 || D.is (D.at_ p).owner 1)):=rfl
theorem xy(D:DB)(p:Int):D.clause 4 p=((D.at_ p).typ !=1 || (D.at_ p).refs==((D.dE p D.S).length:Int)):=rfl
theorem mZ(D:DB)(p:Int):D.clause 5 p=((D.at_ p).typ !=1 || D.jq p):=rfl
theorem xx(D:DB)(p:Int):D.clause 6 p=((D.at_ p).typ !=1 || D.ur p):=rfl
theorem xw(D:DB)(p:Int):D.clause 7 p=((D.at_ p).typ !=1 || D.uu p):=rfl
theorem ja(D:DB)(p:Int):D.clause 8 p=((D.at_ p).typ !=3 || (!D.alive p || D.jo p)):=rfl
theorem kp(D:DB)(p:Int):D.clause 9 p=((D.at_ p).typ !=4 || (!D.alive p || D.sV p)):=rfl
theorem n6(D:DB)(p:Int):D.clause 10 p=((D.at_ p).typ !=5 || (!D.alive p || D.sU p)):=rfl
theorem tH(D:DB)(p:Int):D.clause 11 p=((D.at_ p).typ !=2 || D.po p):=rfl
theorem tG(D:DB)(p:Int):D.clause 12 p=((D.at_ p).typ !=6 || D.zero p 0 1024):=rfl
structure Nms(D:DB)(p x count:Int)(l:List Bl):Prop where
 len:l.length=64
 ok:ia (D.jz p) 0 x=true
 once:∀q:Int,0≤q→q<64→D.named p x q≤1∧(l.getD q.toNat (Bl.mk false)).v=(D.named p x q==1)
 cnt:count=cO (fun q=>D.named p x q==1) D.S
theorem Nms.init(D:DB)(p:Int):Nms D p 0 0 (List.replicate (Int.toNat 64) (Bl.mk false)):=by
 refine⟨by simp,jc (Int.le_refl _),fun q h1 h2=>⟨by show(0:Int)≤1;omega,?_⟩,?_⟩
 ·rw [List.getD_eq_getElem?_getD,List.getElem?_replicate,if_pos (by omega)];rfl
 ·exact(k9 (f:=fun q=>D.named p 0 q==1) fun x _ _=>rfl).symm
theorem wF {D:DB} {p x q:Int}(hx:0≤x)(hw:D.word p x=0):D.named p (x+1) q=D.named p x q:=by
 rw [gO D p q hx,hw];simp
theorem Nms.skip {D:DB} {p x c:Int} {l:List Bl}(h:Nms D p x c l)(hx:0≤x)(hw:D.word p x=0):Nms D p (x+1) c l:=by
 refine⟨h.len,fv h.ok (by unfold jz;rw [hw];rfl) rfl,fun q h1 h2=>by rw [wF hx hw];exact h.once q h1 h2,?_⟩
 rw [h.cnt]
 exact qM fun q _ _=>by rw [wF hx hw]
theorem Nms.put {D:DB} {p x c:Int} {l:List Bl}(h:Nms D p x c l)(hx:0≤x)(SR:0≤D.word p x)(hw:¬D.word p x=0)(he:eX (D.word p x)=0)(hl:(l.getD (aN (D.word p x)).toNat (Bl.mk false)).v=false)(ho:D.of (aN (D.word p x)) 4 (D.at_ p).owner=true):
 Nms D p (x+1) (c+1) (l.set (aN (D.word p x)).toNat (Bl.mk true)):=by
 have hp:=px SR
 have RC:0≤aN (D.word p x)∧aN (D.word p x)<(D.S:Int):=by
  unfold of is has at ho
  simp only [Bool.and_eq_true,decide_eq_true_eq]at ho
  exact ho.1.1
 have step:∀q,D.named p (x+1) q=D.named p x q+(if aN (D.word p x)=q then 1 else 0):=fun q=>by
  rw [gO D p q hx]
  by_cases hq:aN (D.word p x)=q<;>simp [hq,hw]
 have h1:=h.once _ hp.1 hp.2
 rw [hl]at h1
 have h0:D.named p x (aN (D.word p x))=0:=by
  have SW:0≤D.named p x (aN (D.word p x)):=ir
  have h2:=h1.2
  have:¬D.named p x (aN (D.word p x))=1:=by simpa using h2.symm
  omega
 refine⟨by simp [h.len],fv h.ok (by unfold jz;rw [he,ho];simp) rfl,fun q a b=>?_,?_⟩
 ·rw [step,List.getD_eq_getElem?_getD,List.getElem?_set]
  by_cases hq:aN (D.word p x)=q
  ·subst hq
   rw [if_pos rfl,if_pos rfl,if_pos (by rw [h.len];omega),h0]
   exact⟨by omega,rfl⟩
  ·rw [if_neg hq,if_neg (by omega),← List.getD_eq_getElem?_getD,Int.add_zero]
   exact h.once q a b
 ·rw [xv (f:=fun q=>D.named p x q==1) (q:=aN (D.word p x)) RC.1 (by rw [h0];rfl) (by rw [step,h0,if_pos rfl];rfl) (fun y _ _ hy=>by rw [step,if_neg (fun e=>hy e.symm),Int.add_zero]),if_pos RC.2,← h.cnt]
theorem Nms.bad {D:DB} {p x c:Int} {l:List Bl}(h:Nms D p x c l)(hx:0≤x∧x<256)(SR:0≤D.word p x)(hw:¬D.word p x=0)(hb:eX (D.word p x)=0→D.of (aN (D.word p x)) 4 (D.at_ p).owner=true→(l.getD (aN (D.word p x)).toNat (Bl.mk false)).v=true):D.jo p=false:=by
 unfold jo
 by_cases hn:D.jz p x=true
 ·unfold jz at hn
  simp only [Bool.or_eq_true,beq_iff_eq,hw,false_or,Bool.and_eq_true]at hn
  have hp:=px SR
  have h1:=h.once _ hp.1 hp.2
  rw [hb hn.1 hn.2]at h1
  have h1:D.named p x (aN (D.word p x))=1:=by simpa using h1.2.symm
  have h2:D.named p (x+1) (aN (D.word p x))=2:=by
   rw [gO D p _ hx.1,h1];simp [hw]
  have h3:D.named p (x+1) (aN (D.word p x))≤D.named p 256 (aN (D.word p x)):=Di (by omega)
  have ho:=hn.2
  unfold of is has at ho
  simp only [Bool.and_eq_true,decide_eq_true_eq]at ho
  rw [gS (f:=fun q=>!(decide (D.named p 256 q>1) || (D.of q 4 (D.at_ p).owner && D.named p 256 q==0))) ho.1.1.1 ho.1.1.2 (by simp;omega)]
  simp
 ·rw [gS (f:=D.jz p) hx.1 hx.2 (by simpa using hn)]
  simp
theorem Nms.done {D:DB} {p c:Int} {l:List Bl}(hS:D.S≤64)(h:Nms D p 256 c l)(hz:D.zero p 256 1024=true):D.jo p=(c==((D.pgs 4 (D.at_ p).owner D.S).length:Int)):=by
 have UX:=xu (f:=fun q=>D.named p 256 q==1) (g:=fun q=>D.of q 4 (D.at_ p).owner) (n:=(D.S:Int)) (by omega) fun q h1 h2 hq=>by
  have hq:D.named p 256 q=1:=by simpa using hq
  have:∃i,0≤i∧i<256∧(D.word p i !=0 && aN (D.word p i)==q)=true:=by
   apply Classical.byContradiction
   intro hn
   have:=k9 (f:=fun i=>D.word p i !=0 && aN (D.word p i)==q) (n:=256) fun i a b=>by
    cases hc:(D.word p i !=0 && aN (D.word p i)==q)
    ·rfl
    ·exact absurd ⟨i,a,b,hc⟩ hn
   unfold named at hq
   omega
  obtain⟨i,a,b,hi⟩:=this
  have hk:=cq.1 h.ok i a b
  simp only [Bool.and_eq_true,bne_iff_ne,ne_eq,beq_iff_eq]at hi
  unfold jz at hk
  simp only [Bool.or_eq_true,beq_iff_eq,hi.1,false_or,Bool.and_eq_true]at hk
  rw [← hi.2];exact hk.2
 unfold jo
 rw [hz,h.ok,Bool.true_and,Bool.true_and,uF,h.cnt,Bool.eq_iff_iff,cq,beq_iff_eq]
 constructor
 ·intro hA
  refine Int.le_antisymm UX.1 ?_
  refine(xu (by omega) fun q a b hq=>?_).1
  have:=hA q a b
  simp only [hq,Bool.true_and,Bool.not_eq_true',Bool.or_eq_false_iff,decide_eq_false_iff_not,beq_eq_false_iff_ne]at this
  have SW:0≤D.named p 256 q:=ir
  simp only [beq_iff_eq]
  omega
 ·intro he q a b
  have h1:=(h.once q a (by omega)).1
  cases ho:D.of q 4 (D.at_ p).owner
  ·simp;omega
  ·have:=UX.2 he q a b ho
   have:D.named p 256 q=1:=by simpa using this
   simp [this]
def iN(D:DB)(p:Int)(l:List I64)(x:Int):Int:=((l.take x.toNat).map fun q=>cO (D.jD p q.v) 1024).sum
theorem pY {D:DB} {p:Int} {l:List I64} {x:Int}(h:0≤x∧x<(l.length:Int)):D.iN p l (x+1)=D.iN p l x+cO (D.jD p (l.getD x.toNat (I64.mk 0)).v) 1024:=by
 unfold iN
 have hx:x.toNat<l.length:=by omega
 rw [show(x+1).toNat=x.toNat+1 by omega,List.take_add_one,List.getElem?_eq_getElem hx,List.map_append,List.sum_append,List.getD_eq_getElem?_getD,List.getElem?_eq_getElem hx]
 simp
theorem sY {D:DB} {p:Int} {l:List I64} {x:Int}(hx:0≤x):0≤D.iN p l x∧D.iN p l x≤1024*x:=by
 obtain⟨n,rfl⟩:=Int.eq_ofNat_of_zero_le hx
 induction n with
 | zero=>simp [iN]
 | succ n ih=>
  by_cases hn:n<l.length
  ·have h1:=pY (D:=D) (p:=p) (l:=l) (x:=(n:Int)) ⟨by omega,by omega⟩
   have h2:=ih (by omega)
   have h3:=ir (f:=D.jD p (l.getD n (I64.mk 0)).v) (n:=1024)
   have h4:=mY (f:=D.jD p (l.getD n (I64.mk 0)).v) (n:=1024) (by omega)
   rw [Int.toNat_natCast]at h1
   rw [show((n+1:Nat):Int)=(n:Int)+1 by omega,h1]
   omega
  ·have e:D.iN p l ((n+1:Nat):Int)=D.iN p l (n:Int):=by
    unfold iN
    rw [List.take_of_length_le (by omega),List.take_of_length_le (by omega)]
   rw [e]
   have:=ih (by omega)
   omega
theorem sZ {D:DB} {p:Int}:∀ {n:Nat},n≤D.S→D.ik p (n:Int)=((D.pgs 4 (D.at_ p).owner n).map fun q=>cO (D.jD p q.v) 1024).sum
 | 0,_=>rfl
 | n+1,h=>by
  have h1:=uK D p (n:=(n:Int)) (by omega)
  have h2:D.pgs 4 (D.at_ p).owner (n+1)=if((D.at_ (n:Int)).typ==4 && (D.at_ (n:Int)).owner==(D.at_ p).owner)=true then D.pgs 4 (D.at_ p).owner n++ [⟨(n:Int)⟩]else D.pgs 4 (D.at_ p).owner n:=by
   unfold pgs
   rw [List.range_succ,List.filter_append,List.map_append]
   split<;>rename_i hc<;>simp [hc]
  have h3:D.of (n:Int) 4 (D.at_ p).owner=((D.at_ (n:Int)).typ==4 && (D.at_ (n:Int)).owner==(D.at_ p).owner):=by
   unfold of is has
   rw [show decide (0≤(n:Int)∧(n:Int)<(D.S:Int))=true by simp;omega,Bool.true_and]
  rw [show((n+1:Nat):Int)=(n:Int)+1 by omega,h1,sZ (by omega),h2,h3]
  split
  ·simp
  ·simp
theorem once_eq {D:DB} {p n x:Int}(hx:x=((D.pgs 4 (D.at_ p).owner D.S).length:Int))(h:n=D.iN p (D.pgs 4 (D.at_ p).owner D.S) x):D.sU p=(n==1):=by
 unfold sU
 rw [sZ (Nat.le_refl _),h,hx]
 unfold iN
 rw [Int.toNat_natCast,List.take_length]
end DB
def sz(n:Int):Int:=Int.tmod (Int.tmod n 8+8) 8+1
theorem EL(n:Int):1≤sz n∧sz n≤8:=by
 have h:=Int.tmod_lt_of_pos n (show(0:Int)<8 by decide)
 have h2:=Int.lt_tmod_of_pos n (show(0:Int)<8 by decide)
 have h3:=Int.tmod_lt_of_pos (Int.tmod n 8+8) (show(0:Int)<8 by decide)
 have h4:=Int.tmod_nonneg (a:=Int.tmod n 8+8) 8 (by omega)
 unfold sz;omega
namespace DB
def wr(D:DB)(p o v:Int):DB:=D.bn (D.mem.write true p o v)
theorem vI(D:DB)(p o v:Int):(D.wr p o v).pd=D.pd:=by
 show Pd.mk (D.mem.write true p o v).S D.aD D.ent=Pd.mk D.mem.S D.aD D.ent
 rw [Mem.dJ]
theorem ui(D:DB)(p o v:Int):(D.wr p o v).mem=D.mem.write true p o v:=rfl
def act(D:DB)(k a b c v:Int):DB:=
 if k=1 then D.aG a b else if k=2 then D.take a b c else if k=5 then D.setState a b else D.wr a b v
def begun(n i:Int):DB:=DB.new (Mem.fresh (sz n).toNat (sz i).toNat)
end DB
namespace DB
theorem HG(D:DB)(p o v q x:Int):(D.wr p o v).word q x=if(q=p∧x=o)∧D.has p=true∧Mem.bZ o=true then v else D.word q x:=by
 show(D.mem.write true p o v).aT true q x=_
 unfold Mem.write
 by_cases h:D.mem.has true p && Mem.bZ o
 ·rw [if_pos h]
  simp only [Bool.and_eq_true]at h
  have hp:=Mem.cN h.1
  have ho:=Mem.ef h.2
  show(if(((D.mem.put true p.toNat o.toNat v).tick 1).has true q && Mem.bZ x)=true then _ else _)=_
  rw [show((D.mem.put true p.toNat o.toNat v).tick 1).has true q=D.mem.has true q from rfl]
  by_cases hq:D.mem.has true q && Mem.bZ x
  ·rw [if_pos hq]
   simp only [Bool.and_eq_true]at hq
   have hq1:=Mem.cN hq.1
   have hx1:=Mem.ef hq.2
   have hw:D.word q x=D.mem.pg true q.toNat x.toNat:=by show D.mem.aT true q x=_;unfold Mem.aT;rw [if_pos (by simp [hq])]
   rw [hw]
   show(if(true=true∧q.toNat=p.toNat)then(if x.toNat=o.toNat then v else D.mem.pg true p.toNat x.toNat)else D.mem.pg true q.toNat x.toNat)=_
   have hh:D.has p=true:=h.1
   by_cases h1:q=p
   ·subst h1
    by_cases h2:x=o
    ·subst h2;rw [if_pos ⟨rfl,rfl⟩,if_pos rfl,if_pos ⟨⟨rfl,rfl⟩,hh,h.2⟩]
    ·rw [if_pos ⟨rfl,rfl⟩,if_neg (by omega),if_neg (fun h=>h2 h.1.2)]
   ·rw [if_neg (by omega),if_neg (fun h=>h1 h.1.1)]
  ·rw [if_neg hq]
   have hw:D.word q x=0:=by show D.mem.aT true q x=_;unfold Mem.aT;rw [if_neg hq]
   rw [hw,if_neg]
   rintro⟨⟨rfl,rfl⟩,h3,h4⟩
   exact hq (by simp [h])
 ·rw [if_neg h,if_neg]
  ·rfl
  ·rintro⟨_,h3,h4⟩
   exact h (by rw [show D.mem.has true p=D.has p from rfl,h3,h4];rfl)
theorem uZ {D:DB} {c:Int}(h1:1≤c)(h2:c≤13)(h:∀c',1≤c'→c'<c→D.jC c'=true):D.fC (13 - c).toNat c=D.broken:=by
 obtain⟨n,rfl⟩:∃n:Nat,c=1+(n:Int):=⟨(c - 1).toNat,by omega⟩
 induction n with
 | zero=>rfl
 | succ n ih=>
  rw [← ih (by omega) (by omega) (fun c' a b=>h c' a (by omega)),show(13 - (1+(n:Int))).toNat=(13 - (1+((n+1:Nat):Int))).toNat+1 by omega]
  show _=if D.jC (1+(n:Int))then _ else _
  rw [if_pos (h _ (by omega) (by omega)),show 1+(n:Int)+1=1+((n+1:Nat):Int)by omega]
theorem Dm {D:DB}(h:∀c,1≤c→c≤12→D.jC c=true):D.broken=(0,0):=by
 rw [← uZ (c:=13) (by omega) (by omega) fun c a b=>h c a (by omega)];rfl
theorem vG(m:Mem):∀(k:Nat),k≤m.S→∀(p o:Nat),p<k→(m.cl k).pg true p o=0
 | 0,_,p,o,h=>by omega
 | k+1,hk,p,o,h=>by
  show((m.cl k).zero true k).pg true p o=0
  unfold Mem.zero
  rw [if_pos (by unfold Mem.has Mem.cnt;simp;omega)]
  show(if true=true∧p=(k:Int).toNat then 0 else(m.cl k).pg true p o)=0
  by_cases h1:p=k
  ·rw [if_pos (by simp [h1])]
  ·rw [if_neg (by simp;omega)]
   exact vG m k (by omega) p o (by omega)
theorem Fw(m:Mem)(p o:Int):(DB.new m).word p o=0:=by
 show(m.cl m.S).aT true p o=0
 unfold Mem.aT
 split
 ·rename_i h
  simp only [Bool.and_eq_true]at h
  refine vG m m.S (Nat.le_refl _) _ _ ?_
  have:=Mem.dt h.1
  have e:(m.cl m.S).cnt true=m.S:=Mem.jm m m.S
  omega
 ·rfl
theorem vE {D:DB} {p lo hi:Int}:D.zero p lo hi=true↔∀o,lo≤o→o<hi→D.word p o=0:=by
 unfold zero
 rw [cq]
 exact⟨fun h o a b=>by simpa using h o a b,fun h o a b=>by simpa using h o a b⟩
end DB
def iD:List bT:= [bT.mk 1 6 7 0 0 none 0 0,bT.mk 5 6 2 0 0 none 0 0,bT.mk 1 0 1 0 0 none 0 0,bT.mk 2 2 4 0 0 none 0 0,bT.mk 7 1 0 0 513 none 0 0,bT.mk 2 3 5 0 0 none 0 0,bT.mk 7 2 1 0 775 none 0 0,bT.mk 7 2 2 0 261 none 0 0,bT.mk 2 4 6 0 0 none 0 0,bT.mk 2 5 2 0 0 none 0 0,bT.mk 5 0 2 0 0 none 0 0]
theorem K0 {P:Int→Prop}(h:P 0∧P 1∧P 2∧P 3∧P 4∧P 5∧P 6∧P 7∧P 8∧P 9∧P 10)(p:Int)(h0:0≤p)(h1:p<11):P p:=by
 obtain⟨a,b,c,d,e,f,g,i,j,k,l⟩:=h
 rcases(show p=0∨p=1∨p=2∨p=3∨p=4∨p=5∨p=6∨p=7∨p=8∨p=9∨p=10 by omega)with rfl | rfl | rfl | rfl | rfl | rfl | rfl | rfl | rfl | rfl | rfl<;>assumption
theorem Bc(i:Int)(h:0≤i∧i<11):((iD.getD i.toNat (bT.mk 0 0 0 0 0 none 0 0)).k=1∨(iD.getD i.toNat (bT.mk 0 0 0 0 0 none 0 0)).k=2∨(iD.getD i.toNat (bT.mk 0 0 0 0 0 none 0 0)).k=5∨(iD.getD i.toNat (bT.mk 0 0 0 0 0 none 0 0)).k=7)∧0≤(iD.getD i.toNat (bT.mk 0 0 0 0 0 none 0 0)).v∧(iD.getD i.toNat (bT.mk 0 0 0 0 0 none 0 0)).v<4294967296:=
 K0 (P:=fun i=>((iD.getD i.toNat (bT.mk 0 0 0 0 0 none 0 0)).k=1∨(iD.getD i.toNat (bT.mk 0 0 0 0 0 none 0 0)).k=2∨(iD.getD i.toNat (bT.mk 0 0 0 0 0 none 0 0)).k=5∨(iD.getD i.toNat (bT.mk 0 0 0 0 0 none 0 0)).k=7)∧0≤(iD.getD i.toNat (bT.mk 0 0 0 0 0 none 0 0)).v∧(iD.getD i.toNat (bT.mk 0 0 0 0 0 none 0 0)).v<4294967296) (by simp [iD]) i h.1 h.2
theorem BU {f:Int→Bool} {a:Int}:∀(m:Nat),0≤a→a<(m:Int)→f a=true→cO f m=cO (fun x=>f x && x !=a) m+1
 | 0,h0,h1,_=>by omega
 | m+1,h0,h1,hf=>by
  have e:((m+1:Nat):Int)=(m:Int)+1:=by omega
  rw [e,dD (by omega),dD (by omega)]
  by_cases ha:a=m
  ·have h2:cO (fun x=>f x && x !=a) m=cO f m:=qM fun x _ h3=>by rw [show(x !=a)=true by rw [bne_iff_ne];omega,Bool.and_true]
   rw [h2,← ha,hf]
   simp
  ·rw [BU m h0 (by omega) hf,show((m:Int) !=a)=true by rw [bne_iff_ne];omega,Bool.and_true]
   omega
theorem qL {f:Int→Bool} {n a:Int}(ha:0≤a∧a<n)(hf:f a=true)(h:∀x,0≤x→x<n→x≠a→f x=false):cO f n=1:=by
 obtain⟨m,rfl⟩:=Int.eq_ofNat_of_zero_le (show 0≤n by omega)
 rw [BU m ha.1 ha.2 hf,k9]
 ·rfl
 ·intro x h1 h2
  by_cases hx:x=a
  ·simp [hx]
  ·rw [h x h1 h2 hx];rfl
theorem Kg {a b c d e f g h:Int} {i:Int}(hp:∀x∈([a,b,c,d,e,f,g,h]:List Int),0≤x∧x<4294967296)(hi:0≤i∧i<8):0≤(([U32.mk a,U32.mk b,U32.mk c,U32.mk d,U32.mk e,U32.mk f,U32.mk g,U32.mk h]:List U32).getD i.toNat (U32.mk 0)).v∧(([U32.mk a,U32.mk b,U32.mk c,U32.mk d,U32.mk e,U32.mk f,U32.mk g,U32.mk h]:List U32).getD i.toNat (U32.mk 0)).v<4294967296:=by
 simp only [List.mem_cons,List.not_mem_nil,or_false,forall_eq_or_imp,forall_eq]at hp
 obtain⟨h0,h1,h2,h3,h4,h5,h6,h7⟩:=hp
 rcases(show i=0∨i=1∨i=2∨i=3∨i=4∨i=5∨i=6∨i=7 by omega)with rfl | rfl | rfl | rfl | rfl | rfl | rfl | rfl<;>assumption
theorem Kh {a b c d e f g h:Int} {i:Int}(hi:0≤i∧i<8):(([U32.mk a,U32.mk b,U32.mk c,U32.mk d,U32.mk e,U32.mk f,U32.mk g,U32.mk h]:List U32).getD i.toNat (U32.mk 0)).v=([a,b,c,d,e,f,g,h]:List Int).getD i.toNat 0:=by
 rcases(show i=0∨i=1∨i=2∨i=3∨i=4∨i=5∨i=6∨i=7 by omega)with rfl | rfl | rfl | rfl | rfl | rfl | rfl | rfl<;>rfl
namespace DB
def wrs(D:DB)(p:Int):Int→List Int→DB
 | _,[]=>D
 | o,x::l=>(D.wr p o x).wrs p (o+1) l
theorem vH(p:Int)(x:Int):∀(l:List Int)(D:DB)(o:Int),D.wrs p o (l++ [x])=(D.wrs p o l).wr p (o+l.length) x
 | [],D,o=>by simp [wrs]
 | y::l,D,o=>by
  simp only [List.cons_append,wrs,List.length_cons]
  rw [vH p x l]
  congr 1;omega
theorem zc(p:Int):∀(l:List Int)(D:DB)(o:Int),(D.wrs p o l).pd=D.pd
 | [],_,_=>rfl
 | x::l,D,o=>by show((D.wr p o x).wrs p (o+1) l).pd=_;rw [zc p l,vI]
def jX(n:Nat):DB:=(iD.take n).foldl (fun D x=>D.act x.k x.a x.b x.c x.v) (DB.begun 7 1)
def two(q:List Int):DB:=(jX 11).wrs 0 3 q
theorem Cp {i:Int}(h:0≤i∧i<11):jX (i64.wrap (i+1)).toNat=(jX i.toNat).act (iD.getD i.toNat ⟨0,0,0,0,0,none,0,0⟩).k (iD.getD i.toNat ⟨0,0,0,0,0,none,0,0⟩).a (iD.getD i.toNat ⟨0,0,0,0,0,none,0,0⟩).b (iD.getD i.toNat ⟨0,0,0,0,0,none,0,0⟩).c (iD.getD i.toNat ⟨0,0,0,0,0,none,0,0⟩).v:=by
 have hl:i.toNat<iD.length:=by show i.toNat<11;omega
 rw [aq (x:=i+1) (by omega),show(i+1).toNat=i.toNat+1 by omega]
 unfold jX
 rw [List.take_add_one,List.getElem?_eq_getElem hl,List.foldl_append,List.getD_eq_getElem?_getD,List.getElem?_eq_getElem hl]
 rfl
theorem Mq(D:DB)(k a b c v:Int):(D.act k a b c v).mem.S=D.mem.S:=by
 unfold act aG take setState wr
 (repeat' split)<;>first | rfl | exact Mem.dJ .. | (show(((D.mem.write true a 0 b).write true a 1 D.aD).write true a 2 0).S=_;rw [Mem.dJ,Mem.dJ,Mem.dJ])
theorem Kf(n:Nat):(jX n).mem.S=8:=by
 have h:∀(l:List bT)(D:DB),(l.foldl (fun D x=>D.act x.k x.a x.b x.c x.v) D).mem.S=D.mem.S:=fun l=>by
  induction l with
  | nil=>exact fun _=>rfl
  | cons x l ih=>exact fun D=>(ih _).trans (Mq ..)
 exact h _ _
theorem EH {D:DB} {q:List Int} {i:Int}(hl:q.length=8)(hi:0≤i∧i<8):D.wrs 0 3 (q.take (i64.wrap (i+1)).toNat)=(D.wrs 0 3 (q.take i.toNat)).wr 0 (i64.wrap (3+i)) (q.getD i.toNat 0):=by
 have NO:i.toNat<q.length:=by omega
 rw [aq (x:=i+1) (by omega),aq (x:=3+i) (by omega),show(i+1).toNat=i.toNat+1 by omega,List.take_add_one,List.getElem?_eq_getElem NO,List.getD_eq_getElem?_getD,List.getElem?_eq_getElem NO]
 show D.wrs 0 3 (q.take i.toNat++ [q[i.toNat]])=_
 rw [DB.vH,List.length_take]
 congr 1
 omega
def Bw(D:DB)(f:Int→Int→Int):Prop:=D.mem.S=8∧∀p o,0≤p→p<8→0≤o→o<1024→D.word p o=f p o
def upd(f:Int→Int→Int)(p o v q x:Int):Int:=if q=p∧x=o then v else f q x
theorem Bw.mem {D D':DB} {f:Int→Int→Int}(h:Bw D f)(e:D'.mem=D.mem):Bw D' f:=by
 unfold Bw word at *
 rw [e];exact h
theorem Bw.wr {D:DB} {f:Int→Int→Int}(h:Bw D f) {p o v:Int}(hp:0≤p∧p<8)(ho:0≤o∧o<1024):Bw (D.wr p o v) (upd f p o v):=by
 refine⟨?_,fun q x a b c d=>?_⟩
 ·show(D.mem.write true p o v).S=8
  rw [Mem.dJ];exact h.1
 ·rw [HG,upd]
  have hh:D.has p=true:=by unfold has S;rw [h.1];simp;omega
  have hk:Mem.bZ o=true:=by unfold Mem.bZ;simp;omega
  by_cases hq:q=p∧x=o
  ·rw [if_pos ⟨hq,hh,hk⟩,if_pos hq]
  ·rw [if_neg (fun e=>hq e.1),if_neg hq];exact h.2 q x a b c d
theorem Bw.wrs {p:Int}(hp:0≤p∧p<8):∀(l:List Int) {D:DB} {f:Int→Int→Int} {o:Int},Bw D f→0≤o→o+l.length≤1024→Bw (D.wrs p o l) fun q x=>if q=p∧(o≤x∧x<o+l.length)then l.getD (x - o).toNat 0 else f q x
 | [],D,f,o,h,_,_=>by
  have e:(fun q x=>if q=p∧(o≤x∧x<o+(([]:List Int).length:Int))then([]:List Int).getD (x - o).toNat 0 else f q x)=f:=by
   funext q x;rw [if_neg];intro h;simp at h;omega
  rw [e];exact h
 | y::l,D,f,o,h,h0,hl=>by
  simp only [List.length_cons]at hl
  have:=Bw.wrs hp l (h.wr (v:=y) hp (o:=o) (by omega)) (o:=o+1) (by omega) (by omega)
  refine⟨this.1,fun q x a b c d=>(this.2 q x a b c d).trans ?_⟩
  simp only [upd,List.length_cons]
  by_cases hq:q=p
  ·by_cases hx:x=o
   ·rw [if_neg (by omega),if_pos ⟨hq,hx⟩,if_pos ⟨hq,by omega,by omega⟩,hx,show(o - o).toNat=0 by omega];rfl
   ·by_cases h2:o+1≤x∧x<o+1+l.length
    ·rw [if_pos ⟨hq,h2⟩,if_pos ⟨hq,by omega,by omega⟩,show(x - o).toNat=(x - (o+1)).toNat+1 by omega];rfl
    ·rw [if_neg (fun e=>h2 e.2),if_neg (fun e=>hx e.2),if_neg (by omega)]
  ·rw [if_neg (fun e=>hq e.1),if_neg (fun e=>hq e.1),if_neg (fun e=>hq e.1)]
theorem mN(D:DB)(p t s:Int):(D.take p t s).mem=D.mem:=by unfold take;split<;>rfl
theorem mO(D:DB)(p s:Int):(D.setState p s).mem=D.mem:=by unfold setState;split<;>rfl
theorem Bw.to {D:DB} {f g:Int→Int→Int}(h:Bw D f)(e:∀p o,f p o=g p o):Bw D g:=⟨h.1,fun p o a b c d=>(h.2 p o a b c d).trans (e p o)⟩
theorem eight {P:Int→Prop}(h:P 0∧P 1∧P 2∧P 3∧P 4∧P 5∧P 6∧P 7)(p:Int)(h0:0≤p)(h1:p<8):P p:=by
 obtain⟨a,b,c,d,e,f,g,i⟩:=h
 rcases(show p=0∨p=1∨p=2∨p=3∨p=4∨p=5∨p=6∨p=7 by omega)with rfl | rfl | rfl | rfl | rfl | rfl | rfl | rfl<;>assumption
def W0(p o:Int):Int:=
 if p=0 then(if o=0 then 1 else if o=1 then 1 else 0)else if p=1 then(if o=0 then 513 else 0)
 else if p=2 then(if o=1 then 775 else if o=2 then 261 else 0)else if p=6 then(if o=0 then 7 else 0)else 0
def W(q:List Int)(p o:Int):Int:=if p=0∧(3≤o∧o<11)then q.getD (o - 3).toNat 0 else W0 p o
theorem Gd:Bw (begun 7 1) fun _ _=>0:=⟨rfl,fun p o _ _ _ _=>Fw _ _ _⟩
theorem two_eq:jX 11=(((((((((((begun 7 1).aG 6 7).setState 6 2).aG 0 1).take 2 4 0).wr 1 0 513).take 3 5 0).wr 2 1 775).wr 2 2 261).take 4 6 0).take 5 2 0).setState 0 2:=by kernel_rfl
theorem ts6:((begun 7 1).aG 6 7).mem=((((begun 7 1).wr 6 0 7).wr 6 1 0).wr 6 2 0).mem:=by kernel_rfl
theorem ts0:((((begun 7 1).aG 6 7).setState 6 2).aG 0 1).mem=((((((begun 7 1).aG 6 7).setState 6 2).wr 0 0 1).wr 0 1 1).wr 0 2 0).mem:=by kernel_rfl
theorem HP:Bw (jX 11) W0:=by
 have h1:Bw ((begun 7 1).aG 6 7) _:=((((Gd.wr (p:=6) (o:=0) (v:=7) (by omega) (by omega)).wr (p:=6) (o:=1) (v:=0) (by omega) (by omega)).wr (p:=6) (o:=2) (v:=0) (by omega) (by omega))).mem ts6
 have h2:Bw ((((begun 7 1).aG 6 7).setState 6 2).aG 0 1) _:=(((((h1.mem (mO _ 6 2)).wr (p:=0) (o:=0) (v:=1) (by omega) (by omega)).wr (p:=0) (o:=1) (v:=1) (by omega) (by omega)).wr (p:=0) (o:=2) (v:=0) (by omega) (by omega))).mem ts0
 have h3:=((((h2.mem (mN _ 2 4 0)).wr (p:=1) (o:=0) (v:=513) (by omega) (by omega)).mem (mN _ 3 5 0)).wr (p:=2) (o:=1) (v:=775) (by omega) (by omega)).wr (p:=2) (o:=2) (v:=261) (by omega) (by omega)
 have h4:=((h3.mem (mN _ 4 6 0)).mem (mN _ 5 2 0)).mem (mO _ 0 2)
 rw [two_eq]
 refine Bw.to h4 fun p o=>?_
 clear h1 h2 h3 h4
 simp only [upd,W0]
 grind (splits:=30)
theorem Ke {q:List Int}(hq:q.length=8):Bw (two q) (W q):=by
 refine Bw.to (Bw.wrs (p:=0) (by omega) q (o:=3) HP (by omega) (by omega)) fun p o=>?_
 simp only [W,hq]
 by_cases h:p=0∧(3≤o∧o<11)
 ·rw [if_pos h,if_pos ⟨h.1,h.2.1,by omega⟩]
 ·rw [if_neg h,if_neg (fun e=>h ⟨e.1,e.2.1,by omega⟩)]
def dG(t:Int)(p:Int):Ent:=
 if p=0 then⟨1,0,5,2,false⟩else if p=1 then⟨3,0,0,0,false⟩else if p=2 then⟨4,0,0,0,false⟩else if p=3 then⟨5,0,0,0,false⟩else if p=4 then⟨t,0,0,0,false⟩else if p=5 then⟨2,0,0,0,false⟩else if p=6 then⟨1,6,1,2,false⟩else⟨3,6,0,0,false⟩
structure Nw(D0:DB)(t:Int)(f:Int→Int→Int)(D:DB):Prop where
 bw:Bw D f
 I:D.mem.I=D0.mem.I
 ins:D.mem.pg false=D0.mem.pg false
 e:∀p,0≤p→p<8→D.at_ p=dG t p
theorem JY(D:DB)(p:Int):D.at_ p=D.pd.ent p.toNat:=rfl
theorem Dn(D:DB):D.aD=D.pd.aD:=rfl
theorem uw(q:List Int):(two q).pd=(jX 11).pd:=zc 0 q _ 3
theorem EI {q:List Int}(hq:q.length=8):Nw (two q) 6 (W q) (two q):=⟨Ke hq,rfl,rfl,fun p h0 h1=>by
 have e:∀p,0≤p→p<8→(jX 11).at_ p=dG 6 p:=eight ⟨by kernel_rfl,by kernel_rfl,by kernel_rfl,by kernel_rfl,by kernel_rfl,by kernel_rfl,by kernel_rfl,by kernel_rfl⟩
 rw [← e p h0 h1,JY,JY (jX 11),uw]⟩
theorem JE(p:Int):∀(l:List Int)(D:DB)(o:Int),(D.wrs p o l).mem.I=D.mem.I
 | [],_,_=>rfl
 | x::l,D,o=>by
  show((D.wr p o x).wrs p (o+1) l).mem.I=_
  rw [JE p l]
  show(D.mem.write true p o x).I=_
  unfold Mem.write;split<;>rfl
theorem JF(q:List Int):(two q).mem.I=2:=(JE 0 q _ 3).trans (by kernel_rfl)
theorem zi(q:List Int):(two q).aD=2:=by
 rw [Dn,uw];kernel_rfl
theorem MA(l:List Int):((jX 11).wrs 0 3 l).mem.S=(jX 11).pd.n:=congrArg Pd.n (zc 0 l _ 3)
theorem Lu {q:List Int} {E:Pd} {m:Mem}(he:E=(jX 11).pd)(hm:m=(two q).mem):E.on m=two q:=by rw [he,hm,← uw q,tl]
end DB
section
namespace DB
structure Fo(f:Int→Int→Int):Prop where
 a:f 0 0=1
 b:∀i,0≤i→i<1024→f 1 i=if i=0 then 513 else 0
theorem Lf(q:List Int):Fo (W q):=⟨by simp [W,W0],fun i _ _=>by simp [W,W0]⟩
theorem Fo.upd {f:Int→Int→Int}(h:Fo f) {p o v:Int}(hp:p=2∨p=4):Fo (upd f p o v):=⟨by rw [DB.upd,if_neg (by omega)];exact h.a,fun i a b=>by rw [DB.upd,if_neg (by omega)];exact h.b i a b⟩
section
variable {D0 D:DB} {t:Int} {f:Int→Int→Int}
theorem Bs(m:Mem)(p:Nat)(g:Nat→Int):(m.fill true p g).pg false=m.pg false:=by
 funext i j
 unfold Mem.fill
 simp
theorem Nw.S(h:Nw D0 t f D):D.S=8:=h.bw.1
theorem Nw.hs(h:Nw D0 t f D)(p:Int):D.has p=decide (0≤p∧p<8):=by unfold has;rw [h.S];rfl
theorem Nw.w(h:Nw D0 t f D) {p o:Int}(hp:0≤p∧p<8)(ho:0≤o∧o<1024):D.word p o=f p o:=h.bw.2 p o hp.1 hp.2 ho.1 ho.2
theorem Nw.en(h:Nw D0 t f D) {p:Int}(hp:0≤p∧p<8):D.entry p=dG t p:=by
 unfold entry;rw [h.hs,if_pos (by simpa using hp),h.e p hp.1 hp.2]
theorem Nw.JV(h:Nw D0 t f D) {p:Int}(hp:0≤p∧p<8):D.bq p=0:=by
 unfold bq;rw [h.hs,if_pos (by simpa using hp)]
theorem Nw.of(h:Nw D0 t f D) {p:Int}(hp:0≤p∧p<8)(k o:Int):D.of p k o=((dG t p).typ==k && (dG t p).owner==o):=by
 unfold DB.of DB.is;rw [h.hs,h.e p hp.1 hp.2];simp [hp]
theorem Nw.Kj(h:Nw D0 t f D)(g:Fo f):D.fQ 0=0:=by
 have e0:D.at_ 0=⟨1,0,5,2,false⟩:=h.e 0 (by omega) (by omega)
 unfold fQ
 rw [h.hs,e0,h.w (p:=0) (o:=0) (by omega) (by omega),g.a,h.of (p:=1) (by omega)]
 simp [dG]
theorem Nw.tb(h:Nw D0 t f D)(g:Fo f):D.tbl 0=1:=by rw [tbl,if_pos (h.Kj g),h.w (p:=0) (o:=0) (by omega) (by omega),g.a]
theorem Nw.own(h:Nw D0 t f D):(D.entry 5).owner=0:=by rw [h.en (by omega)];simp [dG]
theorem Nw.thr(h:Nw D0 t f D)(g:Fo f):D.EJ 5:=by
 have e5:D.entry 5=⟨2,0,0,0,false⟩:=h.en (p:=5) (by omega)
 have e0:D.entry 0=⟨1,0,5,2,false⟩:=h.en (p:=0) (by omega)
 exact⟨h.JV (by omega),by rw [e5],by rw [e5];exact h.JV (p:=0) (by omega),by rw [e5,e0],by rw [e5,e0],by rw [e5];exact h.Kj g⟩
theorem Nw.pg(h:Nw D0 t f D)(k:Int):D.fR 0 k 4=if t=k then 4 else -1:=by
 have e4:D.entry 4=⟨t,0,0,0,false⟩:=h.en (p:=4) (by omega)
 unfold fR;rw [h.S,e4];simp
structure Va(va:Int):Prop where
 a:0≤va∧va<1073741824
 b:va % 4096=0
theorem Va.err {va:Int}(h:Va va):fj va=0:=by have:=h.a;have:=h.b;unfold fj;rw [if_neg (by omega)]
theorem Va.J {va:Int}(h:Va va):vaJ va=va / 4096 % 1024∧0≤vaJ va∧vaJ va<1024:=by
 have e:vaJ va=va / 4096 % 1024:=by rw [vaJ,if_pos h.err]
 rw [e];exact⟨rfl,by omega,by omega⟩
theorem Nw.pl(h:Nw D0 t f D)(g:Fo f) {va:Int}(hv:Va va):D.gM 0 va=(if va<4194304 then 0 else 141)∧(va<4194304→D.plP 0 va=2):=by
 have hva:=hv.a
 have e:vaI va=va / 4194304:=by rw [vaI,if_pos hv.err]
 have hw:D.word 1 (vaI va)=if va / 4194304=0 then 513 else 0:=by rw [e,h.w (by omega) (by omega),g.b _ (by omega) (by omega)]
 unfold gM plP
 rw [h.Kj g,hv.err,h.tb g,hw]
 by_cases hl:va<4194304
 ·rw [if_pos hl,if_pos (show va / 4194304=0 by omega)]
  refine⟨?_,fun _=>by decide⟩
  unfold Bi
  rw [show eX 513=0 by decide,show aN 513=2 by decide,h.of (by omega)]
  simp [dG]
 ·rw [if_neg hl,if_neg (show ¬va / 4194304=0 by omega)]
  refine⟨?_,fun h=>absurd h hl⟩
  unfold Bi
  rw [show eX 0=92 by decide];simp
theorem Nw.sl(h:Nw D0 t f D)(g:Fo f) {va:Int}(hv:Va va):D.eC 0 va=if va<4194304 then(if f 2 (vaJ va)=0 then 0 else 140)else 141:=by
 obtain⟨h1,h2⟩:=h.pl g hv
 unfold eC
 rw [h1]
 by_cases hl:va<4194304
 ·rw [if_pos hl,h2 hl,h.w (by omega) hv.J.2]
  simp only [if_pos hl]
  by_cases h0:f 2 (vaJ va)=0<;>simp [h0]
 ·simp [hl]
theorem Nw.wr(h:Nw D0 t f D) {p o v:Int}(hp:0≤p∧p<8)(ho:0≤o∧o<1024):Nw D0 t (DB.upd f p o v) (D.wr p o v):=
 ⟨h.bw.wr hp ho,(show(D.mem.write true p o v).I=_ by unfold Mem.write;split<;>exact h.I),(show(D.mem.write true p o v).pg false=_ by
  unfold Mem.write;split
  ·rw [← h.ins];exact Bs ..
  ·exact h.ins),h.e⟩
theorem Nw.zk(h:Nw D0 t f D) {k:Int}(ht:turns t=true)(hk:turns k=true):Nw D0 k (fun p o=>if p=4 then 0 else f p o) (D.zk 4 k):=by
 have e4:D.at_ 4=⟨t,0,0,0,false⟩:=h.e 4 (by omega) (by omega)
 have hh:D.has 4=true:=by rw [h.hs];decide
 have he:D.pr 4 k=0:=by unfold pr;rw [hh,e4];simp [ht,hk]
 rw [DB.zk,if_pos he,zj,e4]
 have hz:(D.mem.zero true 4)=D.mem.fill true 4 fun _=>0:=by unfold Mem.zero;rw [if_pos (show D.mem.has true 4=true from hh)];rfl
 refine⟨⟨?_,fun p o a b c d=>?_⟩,?_,?_,fun p a b=>?_⟩
 ·show(D.mem.zero true 4).S=8;rw [Mem.Aj];exact h.bw.1
 ·show(D.mem.zero true 4).aT true p o=_
  have hw:=h.w ⟨a,b⟩ ⟨c,d⟩
  unfold word Mem.aT at hw
  have hp:(D.mem.has true p && Mem.bZ o)=true:=by
   rw [show D.mem.has true p=D.has p from rfl,h.hs];simp [Mem.bZ,a,b,c,d]
  rw [if_pos hp]at hw
  rw [hz,Mem.aT,if_pos (show((D.mem.fill true 4 fun _=>0).has true p && Mem.bZ o)=true from hp)]
  show(if true=true∧p.toNat=4 then 0 else D.mem.pg true p.toNat o.toNat)=if p=4 then 0 else f p o
  by_cases h4:p=4
  ·rw [if_pos ⟨rfl,by omega⟩,if_pos h4]
  ·rw [if_neg (by omega),if_neg h4,hw]
 ·show(D.mem.zero true 4).I=_;rw [hz];exact h.I
 ·show(D.mem.zero true 4).pg false=_
  rw [hz,← h.ins];exact Bs ..
 ·show(D.set 4 _).at_ p=_
  rw [Ge (by omega) a,h.e p a b]
  unfold dG
  by_cases hp:p=4
  ·subst hp;simp
  ·simp [hp]
theorem Nw.to {g:Int→Int→Int}(h:Nw D0 t f D)(e:∀p o,f p o=g p o):Nw D0 t g D:=⟨h.bw.to e,h.I,h.ins,h.e⟩
end
def MW(w:Int):Mp:=⟨true,4,paW w,paX w⟩
def f1(q:List Int)(w:Int):Int→Int→Int:=upd (W q) 2 (vaJ (wo w)) (MW w).word
section
variable {D0 D:DB} {q:List Int} {w:Int}
theorem W2(q:List Int)(j:Int):W q 2 j=if j=1 then 775 else if j=2 then 261 else 0:=by simp [W,W0]
end
end DB
end
section
namespace DB
section
variable {D D0:DB} {f:Int→Int→Int}
theorem Nw.all(h:Nw D0 6 f D) {c:Int}(g:∀p,0≤p→p<8→D.clause c p=true):D.jC c=true:=by
 unfold jC
 rw [h.S]
 exact cq.2 g
theorem Nw.zero(h:Nw D0 6 f D) {p lo hi:Int}(hp:0≤p∧p<8)(h0:0≤lo)(h1:hi≤1024)(g:∀o,lo≤o→o<hi→f p o=0):D.zero p lo hi=true:=
 vE.2 fun o a b=>by rw [h.w hp (by omega)];exact g o a b
theorem Nw.isp(h:Nw D0 6 f D):D.is 0 1=true∧D.is 6 1=true:=by
 unfold DB.is
 rw [h.hs,h.hs,h.e 0 (by omega) (by omega),h.e 6 (by omega) (by omega)];exact⟨rfl,rfl⟩
theorem only {c k:Int} {g:Int→Bool}(h:Nw D0 6 f D)(hc:∀p,D.clause c p=((D.at_ p).typ !=k || g p))(hg:∀p,0≤p→p<8→(dG 6 p).typ=k→g p=true):D.jC c=true:=
 h.all fun p a b=>by
  rw [hc,h.e p a b]
  by_cases hk:(dG 6 p).typ=k
  ·rw [hg p a b hk,Bool.or_true]
  ·rw [show((dG 6 p).typ !=k)=true by rw [bne_iff_ne];exact hk];rfl
end
section
variable {D:DB} {q:List Int}
theorem tC(p:Int)(a:0≤p)(b:p<8)(h:(dG 6 p).typ=1):p=0∨p=6:=by
 revert h
 exact eight (P:=fun p=>(dG 6 p).typ=1→p=0∨p=6) ⟨fun _=>.inl rfl,fun h=>absurd h (by decide),fun h=>absurd h (by decide),fun h=>absurd h (by decide),fun h=>absurd h (by decide),fun h=>absurd h (by decide),fun _=>.inr rfl,fun h=>absurd h (by decide)⟩ p a b
theorem LY(p:Int)(a:0≤p)(b:p<8)(h:(dG 6 p).typ=3):p=1∨p=7:=by
 revert h
 exact eight (P:=fun p=>(dG 6 p).typ=3→p=1∨p=7) ⟨fun h=>absurd h (by decide),fun _=>.inl rfl,fun h=>absurd h (by decide),fun h=>absurd h (by decide),fun h=>absurd h (by decide),fun h=>absurd h (by decide),fun h=>absurd h (by decide),fun _=>.inr rfl⟩ p a b
theorem BR {k n:Int}(hk:k=4∧n=2∨k=5∧n=3∨k=2∧n=5∨k=6∧n=4)(p:Int)(a:0≤p)(b:p<8)(h:(dG 6 p).typ=k):p=n:=by
 have e:=eight (P:=fun p=>(dG 6 p).typ=if p=0 then 1 else if p=1 then 3 else if p=2 then 4 else if p=3 then 5 else if p=4 then 6 else if p=5 then 2 else if p=6 then 1 else 3) ⟨rfl,rfl,rfl,rfl,rfl,rfl,rfl,rfl⟩ p a b
 have e:(dG 6 p).typ=if p=0 then 1 else if p=1 then 3 else if p=2 then 4 else if p=3 then 5 else if p=4 then 6 else if p=5 then 2 else if p=6 then 1 else 3:=e
 rw [h]at e
 (repeat' split at e)<;>omega
theorem Wz(q:List Int)(p o:Int)(h:p=4∨p=5∨p=7∨p=3):W q p o=0:=by
 rw [W,if_neg (by omega),W0,if_neg (by omega),if_neg (by omega),if_neg (by omega),if_neg (by omega)]
theorem Wsp(q:List Int)(p o:Int)(h:p=0∨p=6)(ho:11≤o):W q p o=0:=by
 rw [W,if_neg (by omega),W0]
 rcases h with rfl | rfl
 ·rw [if_pos rfl,if_neg (by omega),if_neg (by omega)]
 ·rw [if_neg (by omega),if_neg (by omega),if_neg (by omega),if_pos rfl,if_neg (by omega)]
theorem Nw.ref(h:Nw D 6 (W q) D):(D.dE 0 8).length=5∧(D.dE 6 8).length=1:=by
 have e:∀p:Nat,p<8→D.ent p=dG 6 p:=fun p hp=>by
  have:=h.e p (by omega) (by omega)
  unfold at_ at this
  simpa using this
 have e0:=e 0 (by omega);have e1:=e 1 (by omega);have e2:=e 2 (by omega);have e3:=e 3 (by omega)
 have e4:=e 4 (by omega);have e5:=e 5 (by omega);have e6:=e 6 (by omega);have e7:=e 7 (by omega)
 unfold dE fy
 simp only [List.length_map]
 constructor<;>simp [List.range_succ,e0,e1,e2,e3,e4,e5,e6,e7,dG]
theorem Nw.fst(h:Nw D 6 (W q) D) {p n:Int}(hp:p=0∧n=1∨p=6∧n=7):cO (fun x=>D.of x 3 p) 8=1∧D.of n 3 p=true:=by
 have k:∀x,0≤x→x<8→D.of x 3 p=decide (x=n):=fun x a b=>by
  rw [h.of ⟨a,b⟩]
  rcases hp with⟨rfl,rfl⟩ | ⟨rfl,rfl⟩
  ·exact eight (P:=fun x=>((dG 6 x).typ==3 && (dG 6 x).owner==0)=decide (x=1)) ⟨rfl,rfl,rfl,rfl,rfl,rfl,rfl,rfl⟩ x a b
  ·exact eight (P:=fun x=>((dG 6 x).typ==3 && (dG 6 x).owner==6)=decide (x=7)) ⟨rfl,rfl,rfl,rfl,rfl,rfl,rfl,rfl⟩ x a b
 have hn:0≤n∧n<8:=by omega
 refine⟨qL hn (by rw [k n hn.1 hn.2];simp) fun x a b c=>by rw [k x a b];simp [c],by rw [k n hn.1 hn.2];simp⟩
theorem Nw.sec(h:Nw D 6 (W q) D) {x o:Int}(ho:o=0∨o=6)(a:0≤x)(b:x<8):D.of x 4 o=(decide (x=2) && o==0):=by
 rw [h.of ⟨a,b⟩]
 rcases ho with rfl | rfl
 ·exact eight (P:=fun x=>((dG 6 x).typ==4 && (dG 6 x).owner==0)=(decide (x=2) && (0:Int)==0)) ⟨rfl,rfl,rfl,rfl,rfl,rfl,rfl,rfl⟩ x a b
 ·exact eight (P:=fun x=>((dG 6 x).typ==4 && (dG 6 x).owner==6)=(decide (x=2) && (6:Int)==0)) ⟨rfl,rfl,rfl,rfl,rfl,rfl,rfl,rfl⟩ x a b
theorem Nw.nam(h:Nw D 6 (W q) D) {p o:Int}(hp:p=1∧o=0∨p=7∧o=6):D.jo p=true:=by
 have hw:∀x,0≤x→x<1024→D.word p x=if p=1∧x=0 then 513 else 0:=fun x a b=>by
  rw [h.w (by omega) ⟨a,b⟩]
  rcases hp with⟨rfl,_⟩ | ⟨rfl,_⟩
  ·rw [W,if_neg (by omega),W0,if_neg (by omega),if_pos rfl];simp
  ·rw [Wz q 7 x (by omega),if_neg (by omega)]
 have ho:(D.at_ p).owner=o:=by
  rw [h.e p (by omega) (by omega)]
  rcases hp with⟨rfl,rfl⟩ | ⟨rfl,rfl⟩<;>rfl
 unfold jo
 rw [h.S,show D.zero p 256 1024=true from vE.2 fun x a b=>by rw [hw x (by omega) b,if_neg (by omega)],Bool.true_and,Bool.and_eq_true]
 refine⟨cq.2 fun x a b=>?_,cq.2 fun x a b=>?_⟩
 ·unfold jz
  rw [hw x a (by omega),ho]
  by_cases hx:p=1∧x=0
  ·rw [if_pos hx,show eX 513=0 by decide,show aN 513=2 by decide,h.sec (by omega) (by omega) (by omega),show o=0 by omega];rfl
  ·rw [if_neg hx];rfl
 ·have hn:D.named p 256 x=if p=1∧x=2 then 1 else 0:=by
   unfold named
   by_cases hx:p=1∧x=2
   ·rw [if_pos hx]
    refine qL (a:=0) (by omega) (by rw [hw 0 (by omega) (by omega),if_pos ⟨hx.1,rfl⟩,hx.2];rfl) fun y a b c=>?_
    rw [hw y a (by omega),if_neg (fun e=>c e.2)];rfl
   ·rw [if_neg hx]
    refine k9 fun y a b=>?_
    rw [hw y a (by omega)]
    by_cases hy:p=1∧y=0
    ·rw [if_pos hy,show aN 513=2 from by decide,show((2:Int)==x)=false by rw [beq_eq_false_iff_ne];omega,Bool.and_false]
    ·rw [if_neg hy];rfl
  rw [hn,ho,h.sec (by omega) a (by omega)]
  by_cases hx:p=1∧x=2
  ·rw [if_pos hx];simp
  ·rw [if_neg hx]
   by_cases h2:x=2
   ·have:o=6:=by omega
    subst this;simp
   ·simp [h2]
theorem Nw.w2(h:Nw D 6 (W q) D) {o:Int}(a:0≤o)(b:o<1024):D.word 2 o=if o=1 then 775 else if o=2 then 261 else 0:=by rw [h.w (by omega) ⟨a,b⟩,W2]
theorem Nw.dat(h:Nw D 6 (W q) D):D.of 3 5 0=true:=by rw [h.of (by omega)];rfl
theorem Nw.once(h:Nw D 6 (W q) D):D.sU 3=true:=by
 have ho:(D.at_ 3).owner=0:=by rw [h.e 3 (by omega) (by omega)];rfl
 have k:∀x:Nat,x<8→D.of (x:Int) 4 0=decide (x=2):=fun x hx=>by
  rw [h.sec (.inl rfl) (by omega) (by omega)]
  by_cases hx:x=2
  ·simp [hx]
  ·rw [show decide ((x:Int)=2)=false by rw [decide_eq_false_iff_not];omega,show decide (x=2)=false by simp [hx]];rfl
 have hc:cO (D.jD 3 2) 1024=1:=by
  refine qL (a:=1) (by omega) (by unfold jD;rw [h.w2 (by omega) (by omega)];rfl) fun x a b c=>?_
  unfold jD
  rw [h.w2 a b,if_neg c]
  by_cases h2:x=2
  ·rw [if_pos h2];rfl
  ·rw [if_neg h2];rfl
 have e:D.ik 3 8=1:=by
  unfold ik
  rw [ho]
  have k0:D.of 0 4 0=false:=k 0 (by omega)
  have k1:D.of 1 4 0=false:=k 1 (by omega)
  have k2:D.of 2 4 0=true:=k 2 (by omega)
  have k3:D.of 3 4 0=false:=k 3 (by omega)
  have k4:D.of 4 4 0=false:=k 4 (by omega)
  have k5:D.of 5 4 0=false:=k 5 (by omega)
  have k6:D.of 6 4 0=false:=k 6 (by omega)
  have k7:D.of 7 4 0=false:=k 7 (by omega)
  simp [List.range_succ,k0,k1,k2,k3,k4,k5,k6,k7,hc]
 rw [sU,h.S]
 show(D.ik 3 8==1)=true
 rw [e];rfl
theorem LH(h:Nw D 6 (W q) D)(hI:D.mem.I=2)(hb:D.aD=2):D.broken=(0,0):=by
 refine Dm fun c h1 h2=>?_
 have at0:D.at_ 0=⟨1,0,5,2,false⟩:=h.e 0 (by omega) (by omega)
 have at6:D.at_ 6=⟨1,6,1,2,false⟩:=h.e 6 (by omega) (by omega)
 rcases(show c=1∨c=2∨c=3∨c=4∨c=5∨c=6∨c=7∨c=8∨c=9∨c=10∨c=11∨c=12 by omega)with rfl | rfl | rfl | rfl | rfl | rfl | rfl | rfl | rfl | rfl | rfl | rfl
 ·refine only (k:=1) h (xB D) fun p a b e=>?_
  rcases tC p a b e with rfl | rfl
  ·rw [at0];rfl
  ·rw [at6];rfl
 ·refine only (k:=0) h (xA D) fun p a b e=>?_
  exact absurd e (eight (P:=fun p=>¬(dG 6 p).typ=0) ⟨by decide,by decide,by decide,by decide,by decide,by decide,by decide,by decide⟩ p a b)
 ·refine h.all fun p a b=>?_
  rw [xz,h.e p a b]
  have e:(dG 6 p).owner=0∨(dG 6 p).owner=6:=eight (P:=fun p=>(dG 6 p).owner=0∨(dG 6 p).owner=6) ⟨.inl rfl,.inl rfl,.inl rfl,.inl rfl,.inl rfl,.inl rfl,.inr rfl,.inr rfl⟩ p a b
  rcases e with e | e<;>rw [e]
  ·rw [h.isp.1,Bool.or_true,Bool.or_true]
  ·rw [h.isp.2,Bool.or_true,Bool.or_true]
 ·refine only (k:=1) h (xy D) fun p a b e=>?_
  rw [h.S]
  rcases tC p a b e with rfl | rfl
  ·rw [at0,h.ref.1];rfl
  ·rw [at6,h.ref.2];rfl
 ·refine only (k:=1) h (mZ D) fun p a b e=>?_
  have b0:D.word 0 1=1:=by rw [h.w (by omega) (by omega)];simp [W,W0]
  have b6:D.word 6 1=0:=by rw [h.w (by omega) (by omega)];simp [W,W0]
  have c0:D.word 0 2=0:=by rw [h.w (by omega) (by omega)];simp [W,W0]
  have c6:D.word 6 2=0:=by rw [h.w (by omega) (by omega)];simp [W,W0]
  rcases tC p a b e with rfl | rfl
  ·rw [jq,b0,c0,hb,jc (Int.le_refl _)];rfl
  ·rw [jq,b6,c6,hb,show ia (fun q=>!((D.at_ q).typ==1 && D.word q 1==0)) 0 6=true from cq.2 fun x a b=>?_]
   ·rfl
   ·rw [h.e x a (by omega)]
    by_cases hx:(dG 6 x).typ=1
    ·rcases tC x a (by omega) hx with rfl | rfl
     ·rw [b0];rfl
     ·omega
    ·rw [show((dG 6 x).typ==1)=false by rw [beq_eq_false_iff_ne];exact hx];rfl
 ·refine only (k:=1) h (xx D) fun p a b e=>?_
  have hp:=tC p a b e
  have hs:(D.at_ p).state=2:=by rcases hp with rfl | rfl;rw [at0];rw [at6]
  rw [ur,hs,h.zero ⟨a,b⟩ (by omega) (by omega) (fun o c _=>Wsp q p o hp (by omega)),if_neg (by omega),if_pos rfl,h.zero ⟨a,b⟩ (by omega) (by omega) (fun o c _=>Wsp q p o hp (by omega))];rfl
 ·refine only (k:=1) h (xw D) fun p a b e=>?_
  rw [uu,h.S]
  rcases tC p a b e with rfl | rfl
  ·obtain⟨k1,k2⟩:=h.fst (p:=0) (n:=1) (.inl ⟨rfl,rfl⟩)
   rw [show D.word 0 0=1 by rw [h.w (by omega) (by omega)];simp [W,W0],k2,show cO (fun x=>D.of x 3 0) ((8:Nat):Int)=1 from k1];simp
  ·obtain⟨k1,k2⟩:=h.fst (p:=6) (n:=7) (.inr ⟨rfl,rfl⟩)
   rw [show D.word 6 0=7 by rw [h.w (by omega) (by omega)];simp [W,W0],k2,show cO (fun x=>D.of x 3 6) ((8:Nat):Int)=1 from k1];simp
 ·refine only (k:=3) h (ja D) fun p a b e=>?_
  rcases LY p a b e with rfl | rfl
  ·rw [h.nam (.inl ⟨rfl,rfl⟩),Bool.or_true]
  ·rw [h.nam (.inr ⟨rfl,rfl⟩),Bool.or_true]
 ·refine only (k:=4) h (kp D) fun p a b e=>?_
  obtain rfl:=BR (n:=2) (by omega) p a b e
  have ho:(D.at_ 2).owner=0:=by rw [h.e 2 (by omega) (by omega)];rfl
  rw [show D.sV 2=true from cq.2 fun o a b=>?_,Bool.or_true]
  unfold mP
  rw [h.w2 a b,ho]
  by_cases h1:o=1
  ·rw [if_pos h1,show(bD 775).aX=true from rfl,show(bD 775).ay=3 from rfl,h.dat];rfl
  ·rw [if_neg h1]
   by_cases h2:o=2
   ·rw [if_pos h2,show(bD 261).aX=false from rfl,show(bD 261).ay=1 from rfl,hI];rfl
   ·rw [if_neg h2];rfl
 ·refine only (k:=5) h (n6 D) fun p a b e=>?_
  obtain rfl:=BR (n:=3) (by omega) p a b e
  rw [h.once,Bool.or_true]
 ·refine only (k:=2) h (tH D) fun p a b e=>?_
  obtain rfl:=BR (n:=5) (by omega) p a b e
  rw [po,h.e 5 (by omega) (by omega),h.zero (by omega) (by omega) (by omega) (fun o _ _=>Wz q 5 o (by omega)),h.zero (by omega) (by omega) (by omega) (fun o _ _=>Wz q 5 o (by omega))];rfl
 ·refine only (k:=6) h (tG D) fun p a b e=>?_
  obtain rfl:=BR (n:=4) (by omega) p a b e
  exact h.zero (by omega) (by omega) (by omega) fun o _ _=>Wz q 4 o (by omega)
theorem Kd {q:List Int}(hq:q.length=8):(two q).broken=(0,0):=LH (EI hq) (JF q) (zi q)
end
end DB
end
end Go.Proofs.YtfmcaoaaiganbaaGreatDoor
namespace Go.Proofs.YtfmcaoaaiganbaaGreatDoor
open Go.Proofs.Tryz (prog)
open Go Go.RowKit V
open Go.IntKind (i64 u32 u64)
section
set_option maxRecDepth 100000
set_option maxHeartbeats 1000000
attribute [local irreducible] Vc2 VcD
attribute [local grind=] Pd.cI Pd.cg Pd.iH Pd.iS Pd.gi Pd.eJ Pd.eY Pd.fw Pd.lB Pd.rY
attribute [local grind .] Pd.Ok.ent
attribute [local grind→] Pd.Ok.eg
def nm:Ctr Un:=⟨[.one (.obj 0 0)],[],[.ob 1 [(1,1,0)],.ob 0 []],[],fun r E rm m K=>E.n=m.S∧∀(g:Nat)(A:Option Addr)(c:Nat),K ⟨(.pointer (some (Addr.mk g 0 none))),(some (.p (.loc 2 0))),[],[(.blk g [(.pointer (some (Addr.mk (r 0) 0 none))),(.slice A E.aA.length c)] 136),(.lst 4 true 127 A c E.aA)],[(.c 2 0,.p (.obj 0 0 0)),(.c 2 1,.p (.sl 3 0))]⟩⟩
def I0(r:Nat→Nat)(E:Pd)(rm:Nat→Nat)(m:Mem)(Q:Ou Un→Prop):Prop:=
 Pd.Ok E→
 Mem.Wf m→
 (some (.pointer (some (Addr.mk (r 0) 0 none))):Option Value)=some (.pointer (some (Addr.mk (r 0) 0 none)))∧
 ∀(gv:Nat),
 E.n=m.S∧
 ∃I:Nat→Int→Option Addr→Nat→List Ent→Prop,(∃m1,I m1 0 none 0 ([]:List Ent))∧∀(m1:Nat)(Nt:Nat→Value)(Nj:Int)(A3:Option Addr)(c3:Nat)(l3:List Ent),I m1 Nj A3 c3 l3→
 split (decide (Nj<(E.on m).S)) (
  E.n=m.S∧
  ∀(NC:Nat),
  ∀(Nh:Nat),
  ∀(l:List Ent),l=([Ent.mk (((E.on m).entry Nj).typ) (((E.on m).entry Nj).owner) (((E.on m).entry Nj).refs) (((E.on m).entry Nj).state) (((E.on m).entry Nj).br)]:List Ent)→
  ((l3.length+l.length)*40≤140737488355328)∧
  ∀(A:Option Addr)(c:Nat),
  ∀(l1:List Ent),l1=(l3++l)→
  ∃m2,m2<m1∧I m2 (i64.wrap (Nj+1)) A c l1) (
  Q ⟨(.pointer (some (Addr.mk gv 0 none))),(some (.p (.loc 2 0))),[],[(.blk gv [(.pointer (some (Addr.mk (r 0) 0 none))),(.slice A3 l3.length c3)] 136),(.lst 4 true 127 A3 c3 l3)],[(.c 2 0,.p (.obj 0 0 0)),(.c 2 1,.p (.sl 3 0))]⟩)
theorem I4:Vc2 Un prog (aU [(70,kO),(71,ff)]) [] Tryz.f73 (.r' (.r' (.two (.r' (.two (.node [(.c 2 1,4,127)] (some ⟨[(12,(.one (.int .i64)))],[],[4,5,6]++upN 12 20,[(2,(.blk [(.k (.obj 0 0 0)),(.k (.sl 3 0))])),(3,(.lst 4))]⟩) [] [] (.r' (.r' (.two (.two (.r' (.r' (.node [] none [] [(4,[2]),(5,[4])] .leaf .leaf))) .leaf) .leaf))) .leaf) .leaf)) .leaf))) [2,3] nm=(∀r (E:Pd) rm (m:Mem),∀Q,(nm.body r E rm m Q)→I0 r E rm m Q):=by kernel_rfl
theorem IZ:LV Un prog 73 nm:=verify Tryz.func73 aj (tb:= [(70,kO),(71,ff)]) ⟨yW,nG,trivial⟩ (by kernel_rfl) (I4.mpr fun r E rm m Q h=>by
 obtain⟨NF,h⟩:=h
 exact fun f1 f2=>ak (by rfl) fun s3 gv=>ak ‹_› fun s4=>⟨fun m1 Nj A3 c3 l3=>(m1=((E.n:Int) - Nj).toNat)∧(0≤Nj∧Nj≤(E.n:Int))∧(l3=E.aA.take Nj.toNat),⟨_,rfl,(by omega),(by rfl)⟩,fun m1 _ Nj A3 c3 l3 ⟨hm,hi,Sm⟩=>ax (fun c1=>ak ‹_› fun s5 NC Nh l P7=>ak (by(have h8:l3.length≤E.n:=by rw [Sm,List.length_take,Pd.cI];omega);rw [P7];simp;grind) fun s6 A c l1 OH=>⟨_,(by(have h9:=aq (x:=Nj+1) (by grind));grind),rfl,(by(have h9:=aq (x:=Nj+1) (by grind));grind),(by rw [OH,P7,Sm,aq (x:=Nj+1) (by grind),← Cr (E:=E) (by grind)];(have hh:(E.on m).entry Nj=E.ent Nj.toNat:=by(grind [DB.entry]));rw [hh])⟩) fun c1=>(by(have h7:E.aA=l3:=by rw [Sm,List.take_of_length_le];grind);exact aL (h gv A3 c3) rfl rfl (ai (congrArg (fun l=>Res.blk (U:=Un) _ l _) (ai rfl (ai (by grind) rfl))) (ai (congrArg (Res.lst (U:=Un) 4 true 127 _ _) ‹_›) rfl)))⟩)
def cP:Ctr Un:=⟨[.one (.ptr 0),.one (.int .i64),.one (.int .i64)],[],[.blk [.obj 1 0,.sl 3] 136,.ob 1 [(1,2,0)],.ob 0 [],.lst 4 false 127],[],fun p t g r E rm m A c l K=>E.n=m.S∧l=E.aA∧(E.on m).has p=true∧K ⟨(.bool ((E.on m).is p t)),none,[],[],[]⟩⟩
def Mm(p:Int)(t:Int)(g:Nat)(r:Nat→Nat)(E:Pd)(rm:Nat→Nat)(m:Mem)(A:Option Addr)(c:Nat)(l:List Ent)(Q:Ou Un→Prop):Prop:=
 Pd.Ok E→
 Mem.Wf m→
 (0≤p∧p<(l.length:Int))∧
 Q ⟨(.bool ((l.getD p.toNat Ent.free).typ==t)),none,[],[],[]⟩
theorem Mn:Vc2 Un prog (aU []) [] Tryz.f119 .leaf [] cP=(∀p t g r (E:Pd) rm (m:Mem) A c (l:List Ent),∀Q,(E.n=m.S∧l=E.aA∧(E.on m).has p=true∧Q ⟨(.bool ((E.on m).is p t)),none,[],[],[]⟩)→Mm p t g r E rm m A c l Q):=by kernel_rfl
section
attribute [local grind=] DB.is
theorem iw:LV Un prog 119 cP:=verify Tryz.func119 aj (tb:= []) trivial (by kernel_rfl) (Mn.mpr fun p t g r E rm m A c l Q h=>by
 obtain⟨NF,Nz,NN,h⟩:=h
 subst Nz
 exact fun f1 f2=>ak (by grind) fun s3=>bG h (by grind))
end
def fN:Ctr Un:=⟨[.one (.ptr 0),.one (.int .i64)],[],[.blk [.obj 1 0,.sl 3] 136,.ob 1 [(1,2,0)],.ob 0 [],.lst 4 false 127],[],fun p g r E rm m A c l K=>E.n=m.S∧l=E.aA∧(E.on m).has p=true∧K ⟨(.int .i64 ((E.on m).cv p)),none,[],[],[]⟩⟩
def GI(p:Int)(g:Nat)(r:Nat→Nat)(E:Pd)(rm:Nat→Nat)(m:Mem)(A:Option Addr)(c:Nat)(l:List Ent)(Q:Ou Un→Prop):Prop:=
 Pd.Ok E→
 Mem.Wf m→
 (0≤p∧p<(l.length:Int))∧
 ∃J:Bool→Prop,(
  split (decide ((l.getD p.toNat Ent.free).owner<0)) (
   J true) (
   split (decide ((l.getD p.toNat Ent.free).owner≥(l.length:Int))) (
    J true) (
    E.n=m.S∧
    l=E.aA∧
    (E.on m).has ((l.getD p.toNat Ent.free).owner)=true∧
    J (!((E.on m).is ((l.getD p.toNat Ent.free).owner) 1)))))∧∀(OO:Nat→Value)(Od:Bool),J Od→
 split Od (
  Q ⟨(.int .i64 (-1)),none,[],[],[]⟩) (
  Q ⟨(.int .i64 ((l.getD p.toNat Ent.free).owner)),none,[],[],[]⟩)
theorem GJ:Vc2 Un prog (aU [(119,cP)]) [] Tryz.f123 (.r' (.r' (.two (.two (.node [] (some ⟨[(30,(.one .bool))],[],upN 14 17,[]⟩) [] [] .leaf .leaf) .leaf) .leaf))) [] fN=(∀p g r (E:Pd) rm (m:Mem) A c (l:List Ent),∀Q,(E.n=m.S∧l=E.aA∧(E.on m).has p=true∧Q ⟨(.int .i64 ((E.on m).cv p)),none,[],[],[]⟩)→GI p g r E rm m A c l Q):=by kernel_rfl
section
attribute [local grind=] DB.cv DB.is
theorem rh:LV Un prog 123 fN:=verify Tryz.func123 aj (tb:= [(119,cP)]) ⟨iw,trivial⟩ (by kernel_rfl) (GJ.mpr fun p g r E rm m A c l Q h=>by
 obtain⟨NF,Nz,NN,h⟩:=h
 subst Nz
 exact fun f1 f2=>ak (by grind) fun s3=>bS ((decide (((E.aA.getD p.toNat Ent.free).owner:Int)<0)) || ((decide (((E.aA.getD p.toNat Ent.free).owner:Int)≥((E.aA.length:Nat):Int))) || (!((E.on m).is ((E.aA.getD p.toNat Ent.free).owner) 1)))) (ao (fun c1=>(by grind)) fun c1=>ao (fun c2=>(by grind)) fun c2=>ak ‹_› fun s4=>ak (by rfl) fun s5=>ak (by grind) fun s6=>(by grind))<| aW (fun c3=>fk h (by grind)) fun c3=>fk h (by grind))
end
def eA:Ctr Un:=⟨[.one (.ptr 0),.one (.int .i64)],[],[.blk [.obj 1 0,.sl 3] 136,.ob 1 [(1,2,0)],.ob 0 [],.lst 4 false 127],[],fun p g r E rm m A c l K=>E.n=m.S∧l=E.aA∧(E.on m).has p=true∧K ⟨(.bool (if(E.on m).is p 1 then((E.on m).at_ p).state !=3 else(E.on m).alive p)),none,[],[],[]⟩⟩
def GR(p:Int)(g:Nat)(r:Nat→Nat)(E:Pd)(rm:Nat→Nat)(m:Mem)(A:Option Addr)(c:Nat)(l:List Ent)(Q:Ou Un→Prop):Prop:=
 Pd.Ok E→
 Mem.Wf m→
 E.n=m.S∧
 l=E.aA∧
 (E.on m).has p=true∧
 split (!((E.on m).is p 1)) (
  E.n=m.S∧
  l=E.aA∧
  (E.on m).has p=true∧
  ∃J:Bool→Prop,(
   split (decide (((E.on m).cv p)≥0)) (
    (0≤((E.on m).cv p)∧((E.on m).cv p)<(l.length:Int))∧
    J ((l.getD (Int.toNat ((E.on m).cv p)) Ent.free).state !=3)) (
    J false))∧∀(OO:Nat→Value)(x4:Bool),J x4→
  Q ⟨(.bool x4),none,[],[],[]⟩) (
  ∃J:Bool→Prop,(
   split (decide (p≥0)) (
    (0≤p∧p<(l.length:Int))∧
    J ((l.getD p.toNat Ent.free).state !=3)) (
    J false))∧∀(OO:Nat→Value)(x4:Bool),J x4→
  Q ⟨(.bool x4),none,[],[],[]⟩)
theorem GS:Vc2 Un prog (aU [(119,cP),(123,fN)]) [] Tryz.f179 (.r' (.r' (.r' (.two (.node [] (some ⟨[(4,(.one .bool))],[],[4]++upN 14 13,[]⟩) [] [] .leaf .leaf) .leaf)))) [] eA=(∀p g r (E:Pd) rm (m:Mem) A c (l:List Ent),∀Q,(E.n=m.S∧l=E.aA∧(E.on m).has p=true∧Q ⟨(.bool (if(E.on m).is p 1 then((E.on m).at_ p).state !=3 else(E.on m).alive p)),none,[],[],[]⟩)→GR p g r E rm m A c l Q):=by kernel_rfl
section
attribute [local grind=] DB.cv DB.is DB.alive
theorem nr:LV Un prog 179 eA:=verify Tryz.func179 aj (tb:= [(119,cP),(123,fN)]) ⟨iw,rh,trivial⟩ (by kernel_rfl) (GS.mpr fun p g r E rm m A c l Q h=>by
 obtain⟨NF,Nz,NN,h⟩:=h
 subst Nz
 exact fun f1 f2=>ak ‹_› fun s3=>ak (by rfl) fun s4=>ak ‹_› fun s5=>cf (fun c1=>ak ‹_› fun s6=>ak (by rfl) fun s7=>ak ‹_› fun s8=>bS ((decide ((((E.on m).cv p):Int)≥0)) && (((E.aA.getD (Int.toNat ((E.on m).cv p)) Ent.free).state:Int) !=3)) (ao (fun c2=>ak (by grind) fun s9=>(by grind)) fun c2=>(by grind))<| bG h (by grind)) fun c1=>bS ((decide ((p:Int)≥0)) && (((E.aA.getD p.toNat Ent.free).state:Int) !=3)) (ao (fun c3=>ak (by grind) fun QE=>(by grind)) fun c3=>(by grind))<| bG h (by grind))
end
def cX:Ctr Un:=⟨[.one (.ptr 0),.one (.int .i64),.one (.int .i64)],[],[.blk [.obj 1 0,.sl 3] 136,.ob 1 [(1,2,0)],.ob 0 [],.lst 4 false 127],[],fun p o g r E rm m A c l K=>E.n=m.S∧l=E.aA∧K ⟨(.int .u32 ((E.on m).word p o)),none,[],[],[]⟩⟩
def IV(p:Int)(o:Int)(g:Nat)(r:Nat→Nat)(E:Pd)(rm:Nat→Nat)(m:Mem)(A:Option Addr)(c:Nat)(l:List Ent)(Q:Ou Un→Prop):Prop:=
 Pd.Ok E→
 Mem.Wf m→
 Q ⟨(.int .u32 (m.aT true p o)),none,[],[],[]⟩
theorem IW:Vc2 Un prog (aU [(32,dg),(26,nC)]) [] Tryz.f175 .leaf [] cX=(∀p o g r (E:Pd) rm (m:Mem) A c (l:List Ent),∀Q,(E.n=m.S∧l=E.aA∧Q ⟨(.int .u32 ((E.on m).word p o)),none,[],[],[]⟩)→IV p o g r E rm m A c l Q):=by kernel_rfl
section
attribute [local grind=] DB.word
theorem jJ:LV Un prog 175 cX:=verify Tryz.func175 aj (tb:= [(32,dg),(26,nC)]) ⟨jk,B9,trivial⟩ (by kernel_rfl) (IW.mpr fun p o g r E rm m A c l Q h=>by
 obtain⟨NF,Nz,h⟩:=h
 subst Nz
 exact fun f1 f2=>fk h (by grind))
end
def eH:Ctr Un:=⟨[.one (.ptr 0),.one (.int .i64),.one (.int .i64),.one (.int .i64)],[],[.blk [.obj 1 0,.sl 3] 136,.ob 1 [(1,2,0)],.ob 0 [],.lst 4 false 127],[],fun p lo hi g r E rm m A c l K=>E.n=m.S∧l=E.aA∧(0≤(lo:Int)∧(hi:Int)≤1024)∧K ⟨(.bool ((E.on m).zero p lo hi)),none,[],[],[]⟩⟩
def IT(p:Int)(lo:Int)(hi:Int)(g:Nat)(r:Nat→Nat)(E:Pd)(rm:Nat→Nat)(m:Mem)(A:Option Addr)(c:Nat)(l:List Ent)(Q:Ou Un→Prop):Prop:=
 Pd.Ok E→
 Mem.Wf m→
 ∀off:Int,off=lo→
 ∃I:Nat→Int→Prop,(∃m1,I m1 off)∧∀(m1:Nat)(OO:Nat→Value)(off1:Int),I m1 off1→
 split (decide (off1<hi)) (
  E.n=m.S∧
  l=E.aA∧
  split (((E.on m).word p off1) !=0) (
   Q ⟨(.bool false),none,[],[],[]⟩) (
   ∀off2:Int,off2=(i64.wrap (off1+1))→
   ∃m2,m2<m1∧I m2 off2)) (
  Q ⟨(.bool true),none,[],[],[]⟩)
theorem IU:Vc2 Un prog (aU [(175,cX)]) [9] Tryz.f121 (.r' (.two (.r' (.two (.node [] (some ⟨[(9,(.one (.int .i64)))],[],[8,9]++upN 11 10,[]⟩) [] [] .leaf .leaf) .leaf)) .leaf)) [] eH=(∀p lo hi g r (E:Pd) rm (m:Mem) A c (l:List Ent),∀Q,(E.n=m.S∧l=E.aA∧(0≤(lo:Int)∧(hi:Int)≤1024)∧Q ⟨(.bool ((E.on m).zero p lo hi)),none,[],[],[]⟩)→IT p lo hi g r E rm m A c l Q):=by kernel_rfl
section
attribute [local grind=] DB.zero
theorem nh:LV Un prog 121 eH:=verify Tryz.func121 aj (tb:= [(175,cX)]) ⟨jJ,trivial⟩ (by kernel_rfl) (IU.mpr fun p lo hi g r E rm m A c l Q h=>by
 obtain⟨NF,Nz,NN,h⟩:=h
 subst Nz
 exact fun f1 f2=>allEq<| ⟨fun m1 off1=>(m1=(hi - off1).toNat)∧(lo≤off1)∧(ia (fun x=>(E.on m).word p x==0) lo off1=true),⟨_,rfl,(by omega),(jc (Int.le_refl _))⟩,fun m1 _ off1 ⟨hm,VG,hz⟩=>ax (fun c1=>ak ‹_› fun s3=>ak (by rfl) fun s4=>aV (fun c2=>bG h (by grind [gS])) fun c2=>allEq<| ⟨_,(by(have h9:=aq (x:=off1+1) (by omega));omega),rfl,(by have h9:=aq (x:=off1+1) (by omega);omega),(fv hz (by grind) (aq (by omega)))⟩) fun c1=>bG h (cq.2 fun x a b=>cq.1 hz x a (by omega))⟩)
end
def lh:Ctr Un:=⟨[.one (.ptr 0),.one (.int .i64),.one (.int .i64),.one (.int .i64)],[],[.blk [.obj 1 0,.sl 3] 136,.ob 1 [(1,2,0)],.ob 0 [],.lst 4 false 127],[],fun p lo n g r E rm m A c l K=>E.n=m.S∧l=E.aA∧(0≤(lo:Int)∧(lo:Int)<1024∧0≤(n:Int)∧(n:Int)<1024)∧∀(A1:Option Addr)(c1:Nat),K ⟨(.slice A1 (((E.on m).some_ p lo n.toNat).length) c1),(some (.p (.sl 4 0))),[],[(.lst 1 true 23 A1 c1 ((E.on m).some_ p lo n.toNat))],[]⟩⟩
def IX(p:Int)(lo:Int)(n:Int)(g:Nat)(r:Nat→Nat)(E:Pd)(rm:Nat→Nat)(m:Mem)(A:Option Addr)(c:Nat)(l:List Ent)(Q:Ou Un→Prop):Prop:=
 Pd.Ok E→
 Mem.Wf m→
 (n=n∧0≤n∧4*n≤281474976710656)∧
 ∀(gv:Nat),
 ∀(l1:List U32),l1=(List.replicate n.toNat (U32.mk 0:U32))→
 ∃I:Nat→Int→Option Addr→Nat→List U32→Prop,(∃m1,I m1 0 (some (Addr.mk gv 0 none)) n.toNat l1)∧∀(m1:Nat)(Nt:Nat→Value)(NQ:Int)(A4:Option Addr)(c4:Nat)(l4:List U32),I m1 NQ A4 c4 l4→
 split (decide (NQ<((List.replicate n.toNat (U32.mk 0:U32)).length:Int))) (
  E.n=m.S∧
  l=E.aA∧
  (0≤NQ∧NQ<(l4.length:Int))∧
  ∀(l2:List U32),l2=(l4.set NQ.toNat (U32.mk ((E.on m).word p (i64.wrap (lo+NQ)))))→
  ∃m2,m2<m1∧I m2 (i64.wrap (NQ+1)) A4 c4 l2) (
  Q ⟨(.slice A4 l4.length c4),(some (.p (.sl 4 0))),[],[(.lst 1 true 23 A4 c4 l4)],[]⟩)
theorem IY:Vc2 Un prog (aU [(175,cX)]) [] Tryz.f178 (.r' (.r' (.two (.r' (.two (.node [] (some ⟨[(15,(.one (.int .i64)))],[(9,(.p (.sl 4 0)))],[10]++upN 15 13,[(4,(.lst 1))]⟩) [] [] .leaf .leaf) .leaf)) .leaf))) [4] lh=(∀p lo n g r (E:Pd) rm (m:Mem) A c (l:List Ent),∀Q,(E.n=m.S∧l=E.aA∧(0≤(lo:Int)∧(lo:Int)<1024∧0≤(n:Int)∧(n:Int)<1024)∧∀(A1:Option Addr)(c1:Nat),Q ⟨(.slice A1 (((E.on m).some_ p lo n.toNat).length) c1),(some (.p (.sl 4 0))),[],[(.lst 1 true 23 A1 c1 ((E.on m).some_ p lo n.toNat))],[]⟩)→IX p lo n g r E rm m A c l Q):=by kernel_rfl
theorem B4:LV Un prog 178 lh:=verify Tryz.func178 aj (tb:= [(175,cX)]) ⟨jJ,trivial⟩ (by kernel_rfl) (IY.mpr fun p lo n g r E rm m A c l Q h=>by
 obtain⟨NF,Nz,NN,h⟩:=h
 subst Nz
 exact fun f1 f2=>ak (by omega) fun s3 gv l1 OH=>⟨fun m1 NQ A4 c4 l4=>(m1=(n - NQ).toNat)∧(0≤NQ∧NQ≤n)∧(lI (E.on m) p lo n.toNat NQ l4),⟨_,rfl,(by omega),(by rw [OH];exact lI.init _ _ _ _)⟩,fun m1 _ NQ A4 c4 l4 ⟨hm,VG,hz⟩=>ax (fun c1=>ak ‹_› fun s4=>ak (by rfl) fun s5=>ak (by(grind [lI.len])) fun s6 l2 P3=>⟨_,(by(have h9:=aq (x:=NQ+1) (by grind));simp at c1;omega),rfl,(by(have h9:=aq (x:=NQ+1) (by grind));simp at c1;omega),(by rw [P3];exact hz.next VG.1 (by simp at c1;omega) (by omega))⟩) fun c1=>(by(have h7:(E.on m).some_ p lo n.toNat=l4:=hz.done (by simp at c1;omega));exact aL (h A4 c4) (by grind) rfl (ai (congrArg (Res.lst (U:=Un) 1 true 23 _ _) ‹_›) rfl))⟩)
def oQ:Ctr Un:=⟨[.one (.ptr 0),.one (.int .i64),.one (.int .i64)],[],[.blk [.obj 1 0,.sl 3] 136,.ob 1 [(1,2,0)],.ob 0 [],.lst 4 false 127],[],fun t o g r E rm m A c l K=>E.n=m.S∧l=E.aA∧∀(A1:Option Addr)(c1:Nat),K ⟨(.slice A1 (((E.on m).pgs t o (E.on m).S).length) c1),(some (.p (.sl 4 0))),[],[(.lst 0 true 3 A1 c1 ((E.on m).pgs t o (E.on m).S))],[]⟩⟩
def Mk(t:Int)(o:Int)(g:Nat)(r:Nat→Nat)(E:Pd)(rm:Nat→Nat)(m:Mem)(A:Option Addr)(c:Nat)(l:List Ent)(Q:Ou Un→Prop):Prop:=
 Pd.Ok E→
 Mem.Wf m→
 ∃I:Nat→Int→Option Addr→Nat→List I64→Prop,(∃m1,I m1 0 none 0 ([]:List I64))∧∀(m1:Nat)(OO:Nat→Value)(NQ:Int)(A4:Option Addr)(c4:Nat)(l4:List I64),I m1 NQ A4 c4 l4→
 split (decide (NQ<(l.length:Int))) (
  (0≤NQ∧NQ<(l.length:Int))∧
  ∀(Nd:Nat),
  ∃J:Bool→Prop,(
   split ((l.getD NQ.toNat Ent.free).typ==t) (
    J ((l.getD NQ.toNat Ent.free).owner==o)) (
    J false))∧∀(Pw:Nat→Value)(Sf:Bool),J Sf→
  split Sf (
   ∀(Nh:Nat),
   ∀(l1:List I64),l1=([I64.mk NQ]:List I64)→
   ((l4.length+l1.length)*8≤140737488355328)∧
   ∀(A1:Option Addr)(c1:Nat),
   ∀(l2:List I64),l2=(l4++l1)→
   ∃m2,m2<m1∧I m2 (i64.wrap (NQ+1)) A1 c1 l2) (
   ∃m2,m2<m1∧I m2 (i64.wrap (NQ+1)) A4 c4 l4)) (
  Q ⟨(.slice A4 l4.length c4),(some (.p (.sl 4 0))),[],[(.lst 0 true 3 A4 c4 l4)],[]⟩)
theorem Ml:Vc2 Un prog (aU []) [7] Tryz.f180 (.r' (.r' (.two (.r' (.two (.node [(.s 7,0,3)] (some ⟨[(15,(.one (.int .i64)))],[(7,(.p (.sl 4 0)))],[7,8,9]++upN 15 20,[(4,(.lst 0))]⟩) [] [] (.r' (.r' (.two (.two (.r' (.two (.node [] (some ⟨[(29,(.one .bool))],[],upN 20 10,[]⟩) [] [] .leaf .leaf) .leaf)) .leaf) .leaf))) .leaf) .leaf)) .leaf))) [4] oQ=(∀t o g r (E:Pd) rm (m:Mem) A c (l:List Ent),∀Q,(E.n=m.S∧l=E.aA∧∀(A1:Option Addr)(c1:Nat),Q ⟨(.slice A1 (((E.on m).pgs t o (E.on m).S).length) c1),(some (.p (.sl 4 0))),[],[(.lst 0 true 3 A1 c1 ((E.on m).pgs t o (E.on m).S))],[]⟩)→Mk t o g r E rm m A c l Q):=by kernel_rfl
theorem GK:LV Un prog 180 oQ:=verify Tryz.func180 aj (tb:= []) trivial (by kernel_rfl) (Ml.mpr fun t o g r E rm m A c l Q h=>by
 obtain⟨NF,Nz,h⟩:=h
 subst Nz
 exact fun f1 f2=>⟨fun m1 NQ A4 c4 l4=>(m1=((E.n:Int) - NQ).toNat)∧(0≤NQ∧NQ≤(E.n:Int))∧(l4=(E.on m).pgs t o NQ.toNat),⟨_,rfl,(by omega),(by rfl)⟩,fun m1 _ NQ A4 c4 l4 ⟨hm,VG,hz⟩=>ax (fun c1=>ak (by omega) fun s3 Nd=>bS ((((E.aA.getD NQ.toNat Ent.free).typ:Int)==t) && (((E.aA.getD NQ.toNat Ent.free).owner:Int)==o)) (ao (fun c2=>(by grind)) fun c2=>(by grind))<| cE (fun c3 Nh l1 OH=>ak (by(have h8:=DB.jy (E.on m) t o NQ.toNat);rw [OH,hz];simp;grind) fun s4 A1 c1 l2 P3=>⟨_,(by(have h9:=aq (x:=NQ+1) (by grind));grind),rfl,(by(have h9:=aq (x:=NQ+1) (by grind));grind),(by rw [DB.wm _ _ _ (by grind)];(rw [if_pos (by grind)];grind))⟩) fun c3=>⟨_,(by(have h9:=aq (x:=NQ+1) (by grind));grind),rfl,(by(have h9:=aq (x:=NQ+1) (by grind));grind),(by rw [DB.wm _ _ _ (by grind)];(rw [if_neg (by grind)];exact hz))⟩) fun c1=>(by(have h7:(E.on m).pgs t o (E.on m).S=l4:=by rw [hz,show NQ.toNat=(E.on m).S by grind]);exact aL (h A4 c4) (by grind) rfl (ai (congrArg (Res.lst (U:=Un) 0 true 3 _ _) ‹_›) rfl))⟩)
def lr:Ctr Un:=⟨[.one (.ptr 0),.one (.int .i64)],[],[.blk [.obj 1 0,.sl 3] 136,.ob 1 [(1,2,0)],.ob 0 [],.lst 4 false 127],[],fun p g r E rm m A c l K=>E.n=m.S∧l=E.aA∧(E.on m).has p=true∧K ⟨(.bool ((E.on m).clause 5 p)),none,[],[],[]⟩⟩
def DK(p:Int)(g:Nat)(r:Nat→Nat)(E:Pd)(rm:Nat→Nat)(m:Mem)(A:Option Addr)(c:Nat)(l:List Ent)(Q:Ou Un→Prop):Prop:=
 Pd.Ok E→
 Mem.Wf m→
 E.n=m.S∧
 l=E.aA∧
 (E.on m).has p=true∧
 split (!((E.on m).is p 1)) (
  Q ⟨(.bool true),none,[],[],[]⟩) (
  E.n=m.S∧
  l=E.aA∧
  ∃J:Bool→Prop,(
   split (decide ((u64.wrap ((E.on m).word p 1))≥(u64.wrap E.aD))) (
    J true) (
    E.n=m.S∧
    l=E.aA∧
    J (decide (((E.on m).word p 2)>4096))))∧∀(OO:Nat→Value)(QB:Bool),J QB→
  split QB (
   Q ⟨(.bool false),none,[],[],[]⟩) (
   ∃I:Nat→Int→Prop,(∃m1,I m1 0)∧∀(m1:Nat)(Nt:Nat→Value)(Od:Int),I m1 Od→
   split (decide (Od<p)) (
    ∃J1:Bool→Prop,(
     E.n=m.S∧
     l=E.aA∧
     (E.on m).has Od=true∧
     split ((E.on m).is Od 1) (
      E.n=m.S∧
      l=E.aA∧
      J1 (((E.on m).word Od 1)==((E.on m).word p 1))) (
      J1 false))∧∀(Pw:Nat→Value)(Q8:Bool),J1 Q8→
    split Q8 (
     Q ⟨(.bool false),none,[],[],[]⟩) (
     ∃m2,m2<m1∧I m2 (i64.wrap (Od+1)))) (
    Q ⟨(.bool true),none,[],[],[]⟩)))
theorem DL:Vc2 Un prog (aU [(119,cP),(175,cX),(72,jl)]) [] Tryz.f126 (.r' (.r' (.r' (.two (.two (.node [] (some ⟨[(28,(.one .bool))],[],upN 14 15,[]⟩) [] [] .leaf .leaf) .leaf) (.two (.r' (.two (.node [] (some ⟨[(30,(.one (.int .i64)))],[],[4,6]++upN 30 14,[]⟩) [] [] (.r' (.r' (.two (.two (.r' (.two (.node [] (some ⟨[(42,(.one .bool))],[],upN 33 10,[]⟩) [] [] .leaf .leaf) .leaf)) .leaf) .leaf))) .leaf) .leaf)) .leaf))))) [] lr=(∀p g r (E:Pd) rm (m:Mem) A c (l:List Ent),∀Q,(E.n=m.S∧l=E.aA∧(E.on m).has p=true∧Q ⟨(.bool ((E.on m).clause 5 p)),none,[],[],[]⟩)→DK p g r E rm m A c l Q):=by kernel_rfl
section
attribute [local grind=] DB.mZ DB.jq DB.is Pd.tp
theorem DJ:LV Un prog 126 lr:=verify Tryz.func126 aj (tb:= [(119,cP),(175,cX),(72,jl)]) ⟨iw,jJ,Eu,trivial⟩ (by kernel_rfl) (DL.mpr fun p g r E rm m A c l Q h=>by
 obtain⟨NF,Nz,NN,h⟩:=h
 subst Nz
 exact fun f1 f2=>(by(have hw:=fun a b=>fD (E:=E) f2 a b);(have U2:=fun a b=>aq (x:=(E.on m).word a b) (by have:=hw a b;omega));(have UW:=fun a b=>gH (x:=(E.on m).word a b) (by have:=hw a b;omega));(have hub:=gH (x:=E.aD) (by have:=f1.aD;omega));exact ak ‹_› fun s3=>ak (by rfl) fun s4=>ak ‹_› fun s5=>cf (fun c1=>bG h (by grind)) fun c1=>ak ‹_› fun s6=>ak (by rfl) fun s7=>bS ((decide ((u64.wrap ((E.on m).word p 1):Int)≥(u64.wrap E.aD))) || (decide ((((E.on m).word p 2):Int)>4096))) (ao (fun c2=>(by grind)) fun c2=>ak ‹_› fun s8=>ak (by rfl) fun s9=>(by grind))<| aW (fun c3=>bG h (by grind)) fun c3=>⟨fun m1 Od=>(m1=(p - Od).toNat)∧(0≤Od∧Od≤p)∧(ia (fun z=>!(((E.on m).at_ z).typ==1 && (E.on m).word z 1==(E.on m).word p 1)) 0 Od=true),⟨_,rfl,(by grind),(jc (Int.le_refl _))⟩,fun m1 _ Od ⟨hm,VG,hz⟩=>ax (fun c4=>bS (((E.on m).is Od 1) && ((((E.on m).word Od 1):Int)==((E.on m).word p 1))) (ak ‹_› fun QE=>ak (by rfl) fun OW=>ak (by grind) fun Py=>ao (fun c5=>ak ‹_› fun NG=>ak (by rfl) fun NJ=>(by grind)) fun c5=>(by grind))<| cE (fun c6=>bG h (by rw [DB.mZ,DB.jq,gS VG.1 c4 (by grind)];grind)) fun c6=>⟨_,(by(have h9:=aq (x:=Od+1) (by grind));grind),rfl,(by(have h9:=aq (x:=Od+1) (by grind));grind),(by exact fv hz (by have hh:(E.on m).has Od=true:=(by grind);rw [DB.is,hh]at c6;grind) (aq (by grind)))⟩) fun c4=>bG h (by(have hq:Od=p:=by omega);subst hq;rw [DB.mZ,DB.jq,hz];grind)⟩))
end
def nk:Ctr Un:=⟨[.one (.ptr 0),.one (.int .i64)],[],[.blk [.obj 1 0,.sl 3] 136,.ob 1 [(1,2,0)],.ob 0 [],.lst 4 false 127],[],fun p g r E rm m A c l K=>E.n=m.S∧l=E.aA∧(E.on m).has p=true∧K ⟨(.bool ((E.on m).clause 6 p)),none,[],[],[]⟩⟩
def GG(p:Int)(g:Nat)(r:Nat→Nat)(E:Pd)(rm:Nat→Nat)(m:Mem)(A:Option Addr)(c:Nat)(l:List Ent)(Q:Ou Un→Prop):Prop:=
 Pd.Ok E→
 Mem.Wf m→
 E.n=m.S∧
 l=E.aA∧
 (E.on m).has p=true∧
 split (!((E.on m).is p 1)) (
  Q ⟨(.bool true),none,[],[],[]⟩) (
  E.n=m.S∧
  l=E.aA∧
  (0≤(37:Int)∧(1024:Int)≤1024)∧
  split (!((E.on m).zero p 37 1024)) (
   Q ⟨(.bool false),none,[],[],[]⟩) (
   E.n=m.S∧
   l=E.aA∧
   (0≤(11:Int)∧(11:Int)<1024∧0≤(26:Int)∧(26:Int)<1024)∧
   ∀(A1:Option Addr)(c1:Nat),
   ∀(l1:List U32),l1=(E.on m).some_ p 11 (Int.toNat 26)→
   ((∀x∈l1,0≤x.v∧x.v<4294967296))∧
   ∀(dp:Value),
   ∃J:Bool→Prop,(
    split ((Dg.cj l1)==0) (
     E.n=m.S∧
     l=E.aA∧
     (0≤(3:Int)∧(11:Int)≤1024)∧
     ∀init:Bool,init=((E.on m).zero p 3 11)→
     J init) (
     ∀init:Bool,init=false→
     J init))∧∀(OO:Nat→Value)(init:Bool),J init→
   E.n=m.S∧
   l=E.aA∧
   (0≤(11:Int)∧(37:Int)≤1024)∧
   (0≤p∧p<(l.length:Int))∧
   ∀Q8:Bool,Q8=(((l.getD p.toNat Ent.free).state:Int)==1)→
   split Q8 (
    Q ⟨(.bool init),none,[],[],[]⟩) (
    ∀Y6:Bool,Y6=(((l.getD p.toNat Ent.free).state:Int)==2)→
    split Y6 (
     Q ⟨(.bool ((E.on m).zero p 11 37)),none,[],[],[]⟩) (
     ∃J1:Bool→Prop,(
      split init (
       J1 true) (
       J1 ((E.on m).zero p 11 37)))∧∀(Nt:Nat→Value)(x4:Bool),J1 x4→
     Q ⟨(.bool x4),none,[],[],[]⟩))))
theorem GH:Vc2 Un prog (aU [(119,cP),(121,eH),(178,lh),(177,vi)]) [7,42,45] Tryz.f127 (.r' (.r' (.r' (.r' (.two (.node [] (some ⟨[(7,(.one .bool))],[],[7]++upN 24 7,[]⟩) [] [] .leaf .leaf) (.r' (.r' (.two (.node [] (some ⟨[(4,(.one .bool))],[],[4,48,49,50,51],[]⟩) [] [] .leaf .leaf) .leaf)))))))) [] nk=(∀p g r (E:Pd) rm (m:Mem) A c (l:List Ent),∀Q,(E.n=m.S∧l=E.aA∧(E.on m).has p=true∧Q ⟨(.bool ((E.on m).clause 6 p)),none,[],[],[]⟩)→GG p g r E rm m A c l Q):=by kernel_rfl
section
attribute [local grind=] DB.xx DB.ur DB.EG DB.is
theorem GF:LV Un prog 127 nk:=verify Tryz.func127 aj (tb:= [(119,cP),(121,eH),(178,lh),(177,vi)]) ⟨iw,nh,B4,Jg,trivial⟩ (by kernel_rfl) (GH.mpr fun p g r E rm m A c l Q h=>by
 obtain⟨NF,Nz,NN,h⟩:=h
 subst Nz
 exact fun f1 f2=>(by(have hw:=fun a b=>fD (E:=E) f2 a b);(have U2:=fun a b=>aq (x:=(E.on m).word a b) (by have:=hw a b;omega));(have UW:=fun a b=>gH (x:=(E.on m).word a b) (by have:=hw a b;omega));exact ak ‹_› fun s3=>ak (by rfl) fun s4=>ak ‹_› fun s5=>cf (fun c1=>bG h (by grind)) fun c1=>ak ‹_› fun s6=>ak (by rfl) fun s7=>ak (by omega) fun s8=>cf (fun c2=>bG h (by grind)) fun c2=>ak ‹_› fun s9=>ak (by rfl) fun QE=>ak (by omega) fun OW A1 c1 l1 OH=>ak (by rw [OH];exact vQ f2 _ _ _) fun Py dp=>bS ((((Dg.cj l1):Int)==0) && ((E.on m).zero p 3 11)) (ao (fun c3=>ak ‹_› fun NG=>ak (by rfl) fun NJ=>ak (by omega) fun Qx=>allEq<| (by grind)) fun c3=>allEq<| (by grind))<| ak ‹_› fun s16=>ak (by rfl) fun s17=>ak (by omega) fun s18=>ak (by grind) fun s19=>allEq<| aO (fun c4=>bG h (by grind)) fun c4=>allEq<| aO (fun c5=>bG h (by grind)) fun c5=>bS (((((Dg.cj l1):Int)==0) && ((E.on m).zero p 3 11)) || ((E.on m).zero p 11 37)) (ao (fun c6=>(by grind)) fun c6=>(by grind))<| bG h (by grind)))
end
def nq:Ctr Un:=⟨[.one (.ptr 0),.one (.int .i64)],[],[.blk [.obj 1 0,.sl 3] 136,.ob 1 [(1,2,0)],.ob 0 [],.lst 4 false 127],[],fun p g r E rm m A c l K=>E.n=m.S∧l=E.aA∧(E.on m).has p=true∧K ⟨(.bool ((E.on m).clause 7 p)),none,[],[],[]⟩⟩
def GP(p:Int)(g:Nat)(r:Nat→Nat)(E:Pd)(rm:Nat→Nat)(m:Mem)(A:Option Addr)(c:Nat)(l:List Ent)(Q:Ou Un→Prop):Prop:=
 Pd.Ok E→
 Mem.Wf m→
 ∃J:Bool→Prop,(
  E.n=m.S∧
  l=E.aA∧
  (E.on m).has p=true∧
  split (!((E.on m).is p 1)) (
   J true) (
   E.n=m.S∧
   l=E.aA∧
   (E.on m).has p=true∧
   J (!(if(E.on m).is p 1 then((E.on m).at_ p).state !=3 else(E.on m).alive p))))∧∀(OO:Nat→Value)(NQ:Bool),J NQ→
 split NQ (
  Q ⟨(.bool true),none,[],[],[]⟩) (
  E.n=m.S∧
  l=E.aA∧
  ∀(A1:Option Addr)(c1:Nat),
  ∀(l1:List I64),l1=(E.on m).pgs 3 p (E.on m).S→
  ∃J1:Bool→Prop,(
   split (((((E.on m).pgs 3 p (E.on m).S).length):Int)==1) (
    (0≤(0:Int)∧(0:Int)<(l1.length:Int))∧
    E.n=m.S∧
    l=E.aA∧
    J1 (((E.on m).word p 0)==(u32.wrap ((l1.getD (Int.toNat 0) (I64.mk 0)).v)))) (
    J1 false))∧∀(Nt:Nat→Value)(x4:Bool),J1 x4→
  Q ⟨(.bool x4),none,[],[],[]⟩)
theorem GQ:Vc2 Un prog (aU [(119,cP),(179,eA),(180,oQ),(175,cX)]) [] Tryz.f128 (.r' (.two (.two (.node [] (some ⟨[(15,(.one .bool))],[],upN 6 10,[]⟩) [] [] .leaf .leaf) .leaf) (.r' (.two (.node [] (some ⟨[(4,(.one .bool))],[],[4]++upN 19 13,[]⟩) [] [(9,[4])] .leaf .leaf) .leaf)))) [] nq=(∀p g r (E:Pd) rm (m:Mem) A c (l:List Ent),∀Q,(E.n=m.S∧l=E.aA∧(E.on m).has p=true∧Q ⟨(.bool ((E.on m).clause 7 p)),none,[],[],[]⟩)→GP p g r E rm m A c l Q):=by kernel_rfl
section
attribute [local grind=] DB.xw DB.uu DB.is
theorem GO:LV Un prog 128 nq:=verify Tryz.func128 aj (tb:= [(119,cP),(179,eA),(180,oQ),(175,cX)]) ⟨iw,nr,GK,jJ,trivial⟩ (by kernel_rfl) (GQ.mpr fun p g r E rm m A c l Q h=>by
 obtain⟨NF,Nz,NN,h⟩:=h
 subst Nz
 exact fun f1 f2=>bS ((!((E.on m).is p 1)) || (!(if(E.on m).is p 1 then((E.on m).at_ p).state !=3 else(E.on m).alive p))) (ak ‹_› fun s3=>ak (by rfl) fun s4=>ak ‹_› fun s5=>ao (fun c1=>(by grind)) fun c1=>ak ‹_› fun s6=>ak (by rfl) fun s7=>ak ‹_› fun s8=>(by grind))<| aW (fun c2=>bG h (by grind)) fun c2=>ak ‹_› fun s9=>ak (by rfl) fun QE A1 c1 l1 OH=>bS ((((((((E.on m).pgs 3 p (E.on m).S).length):Nat):Int):Int)==1) && ((((E.on m).word p 0):Int)==(u32.wrap ((l1.getD (Int.toNat 0) (I64.mk 0)).v)))) (ao (fun c3=>ak (by grind) fun OW=>ak ‹_› fun Py=>ak (by rfl) fun NG=>(by grind)) fun c3=>(by grind))<| bG h (by rw [OH,DB.first_eq (by grind)];grind))
end
def lf:Ctr Un:=⟨[.one (.ptr 0),.one (.int .i64)],[],[.blk [.obj 1 0,.sl 3] 136,.ob 1 [(1,2,0)],.ob 0 [],.lst 4 false 127],[],fun p g r E rm m A c l K=>E.n=m.S∧l=E.aA∧(E.on m).has p=true∧K ⟨(.bool ((E.on m).clause 11 p)),none,[],[],[]⟩⟩
def Dx(p:Int)(g:Nat)(r:Nat→Nat)(E:Pd)(rm:Nat→Nat)(m:Mem)(A:Option Addr)(c:Nat)(l:List Ent)(Q:Ou Un→Prop):Prop:=
 Pd.Ok E→
 Mem.Wf m→
 E.n=m.S∧
 l=E.aA∧
 (E.on m).has p=true∧
 split (!((E.on m).is p 2)) (
  Q ⟨(.bool true),none,[],[],[]⟩) (
  E.n=m.S∧
  l=E.aA∧
  (0≤(18:Int)∧(1024:Int)≤1024)∧
  split (!((E.on m).zero p 18 1024)) (
   Q ⟨(.bool false),none,[],[],[]⟩) (
   (0≤p∧p<(l.length:Int))∧
   split (!((l.getD p.toNat Ent.free).br)) (
    E.n=m.S∧
    l=E.aA∧
    (0≤(1:Int)∧(18:Int)≤1024)∧
    Q ⟨(.bool ((E.on m).zero p 1 18)),none,[],[],[]⟩) (
    E.n=m.S∧
    l=E.aA∧
    (0≤(1:Int)∧(1:Int)<1024∧0≤(17:Int)∧(17:Int)<1024)∧
    ∀(A1:Option Addr)(c1:Nat),
    ∀(l1:List U32),l1=(E.on m).some_ p 1 (Int.toNat 17)→
    ((∀x∈l1,0≤x.v∧x.v<4294967296))∧
    ∀(gv:Nat),
    ∀(s:Fl),s=Fl.zero→
    Fl.Ok s→
    True∧
    ∀(s1:Fl),s1=(Fl.norm (File.unpack l1))→
    Fl.Ok s1→
    E.n=m.S∧
    l=E.aA∧
    (E.on m).has p=true∧
    ∃J:Bool→Prop,(
     split ((File.fm l1)==0) (
      split (decide (((E.on m).cv p)<0)) (
       J true) (
       (0≤((E.on m).cv p)∧((E.on m).cv p)<(l.length:Int))∧
       J ((l.getD (Int.toNat ((E.on m).cv p)) Ent.free).state !=1))) (
      J false))∧∀(Nt:Nat→Value)(x4:Bool),J x4→
    Q ⟨(.bool x4),none,[],[],[]⟩)))
theorem Dy:Vc2 Un prog (aU [(119,cP),(121,eH),(178,lh),(184,lu),(123,fN)]) [] Tryz.f132 (.r' (.r' (.r' (.r' (.r' (.r' (.two (.node [] (some ⟨[(4,(.one .bool))],[],[4]++upN 38 17,[]⟩) [] [] .leaf .leaf) .leaf))))))) [] lf=(∀p g r (E:Pd) rm (m:Mem) A c (l:List Ent),∀Q,(E.n=m.S∧l=E.aA∧(E.on m).has p=true∧Q ⟨(.bool ((E.on m).clause 11 p)),none,[],[],[]⟩)→Dx p g r E rm m A c l Q):=by kernel_rfl
section
attribute [local grind=] DB.tH DB.po DB.is DB.cv
theorem Dw:LV Un prog 132 lf:=verify Tryz.func132 aj (tb:= [(119,cP),(121,eH),(178,lh),(184,lu),(123,fN)]) ⟨iw,nh,B4,Eh,rh,trivial⟩ (by kernel_rfl) (Dy.mpr fun p g r E rm m A c l Q h=>by
 obtain⟨NF,Nz,NN,h⟩:=h
 subst Nz
 exact fun f1 f2=>(by(have hw:=fun a b=>fD (E:=E) f2 a b);(have U2:=fun a b=>aq (x:=(E.on m).word a b) (by have:=hw a b;omega));(have UW:=fun a b=>gH (x:=(E.on m).word a b) (by have:=hw a b;omega));exact ak ‹_› fun s3=>ak (by rfl) fun s4=>ak ‹_› fun s5=>cf (fun c1=>bG h (by grind)) fun c1=>ak ‹_› fun s6=>ak (by rfl) fun s7=>ak (by omega) fun s8=>cf (fun c2=>bG h (by grind)) fun c2=>ak (by grind) fun s9=>cf (fun c3=>ak ‹_› fun QE=>ak (by rfl) fun OW=>ak (by omega) fun Py=>bG h (by grind)) fun c3=>ak ‹_› fun NG=>ak (by rfl) fun NJ=>ak (by omega) fun Qx A1 c1 l1 OH=>ak (by rw [OH];exact vQ f2 _ _ _) fun s16 gv s OM f17=>ak trivial fun _ s1 NA f19=>ak ‹_› fun s20=>ak (by rfl) fun s21=>ak ‹_› fun s22=>bS ((((File.fm l1):Int)==0) && ((decide ((((E.on m).cv p):Int)<0)) || (((E.aA.getD (Int.toNat ((E.on m).cv p)) Ent.free).state:Int) !=1))) (ao (fun c4=>ao (fun c5=>(by grind)) fun c5=>ak (by grind) fun s23=>(by grind)) fun c4=>(by grind))<| bG h (by grind)))
end
end
section
set_option maxRecDepth 100000
set_option maxHeartbeats 1000000
attribute [local irreducible] Vc2 VcD
attribute [local grind=] Pd.cI Pd.cg Pd.iH Pd.iS Pd.gi Pd.eJ Pd.eY Pd.fw Pd.lB Pd.rY
attribute [local grind .] Pd.Ok.ent
attribute [local grind→] Pd.Ok.eg
def np:Ctr Un:=⟨[.one (.ptr 0),.one (.int .i64)],[],[.blk [.obj 1 0,.sl 3] 136,.ob 1 [(1,2,0)],.ob 0 [],.lst 4 false 127],[],fun p g r E rm m A c l K=>E.n=m.S∧l=E.aA∧(E.on m).has p=true∧K ⟨(.bool ((E.on m).clause 8 p)),none,[],[],[]⟩⟩
def GM(p:Int)(g:Nat)(r:Nat→Nat)(E:Pd)(rm:Nat→Nat)(m:Mem)(A:Option Addr)(c:Nat)(l:List Ent)(Q:Ou Un→Prop):Prop:=
 Pd.Ok E→
 Mem.Wf m→
 ∃J:Bool→Prop,(
  E.n=m.S∧
  l=E.aA∧
  (E.on m).has p=true∧
  split (!((E.on m).is p 3)) (
   J true) (
   E.n=m.S∧
   l=E.aA∧
   (E.on m).has p=true∧
   J (!(if(E.on m).is p 1 then((E.on m).at_ p).state !=3 else(E.on m).alive p))))∧∀(OO:Nat→Value)(SO:Bool),J SO→
 split SO (
  Q ⟨(.bool true),none,[],[],[]⟩) (
  E.n=m.S∧
  l=E.aA∧
  (0≤(256:Int)∧(1024:Int)≤1024)∧
  split (!((E.on m).zero p 256 1024)) (
   Q ⟨(.bool false),none,[],[],[]⟩) (
   ((64:Int)=64∧0≤(64:Int)∧1*(64:Int)≤281474976710656)∧
   ∀(Nd:Nat),
   ∀(l1:List Bl),l1=(List.replicate (Int.toNat 64) (Bl.mk false:Bl))→
   ∀count:Int,count=0→
   (0≤p∧p<(l.length:Int))∧
   E.n=m.S∧
   l=E.aA∧
   ∀(A1:Option Addr)(c1:Nat),
   ∀(l2:List I64),l2=(E.on m).pgs 4 ((l.getD p.toNat Ent.free).owner) (E.on m).S→
   ∃I:Nat→Int→Int→Option Addr→Nat→List Bl→Prop,(∃m1,I m1 count 0 (some (Addr.mk Nd 0 none)) (Int.toNat 64) l1)∧∀(m1:Nat)(Pw:Nat→Value)(count1:Int)(Oi:Int)(A4:Option Addr)(c4:Nat)(l4:List Bl),I m1 count1 Oi A4 c4 l4→
   split (decide (Oi<256)) (
    E.n=m.S∧
    l=E.aA∧
    split (((E.on m).word p Oi)==0) (
     ∃m2,m2<m1∧I m2 count1 (i64.wrap (Oi+1)) A4 c4 l4) (
     (0≤((E.on m).word p Oi)∧((E.on m).word p Oi)<4294967296)∧
     ∃J1:Bool→Prop,(
      split ((eX ((E.on m).word p Oi)) !=0) (
       J1 true) (
       (0≤(aN ((E.on m).word p Oi))∧(aN ((E.on m).word p Oi))<(l4.length:Int))∧
       J1 ((l4.getD (Int.toNat (aN ((E.on m).word p Oi))) (Bl.mk false)).v)))∧∀(Sc:Nat→Value)(x60:Bool),J1 x60→
     split x60 (
      Q ⟨(.bool false),none,[],[],[]⟩) (
      ∃I1:Nat→Int→Int→Option Addr→Nat→List Bl→Prop,(∃m3,I1 m3 count1 0 A4 c4 l4)∧∀(m3:Nat)(P4:Nat→Value)(count2:Int)(Qr:Int)(A41:Option Addr)(c41:Nat)(Wi:List Bl),I1 m3 count2 Qr A41 c41 Wi→
      split (decide (Qr<((((E.on m).pgs 4 ((l.getD p.toNat Ent.free).owner) (E.on m).S).length):Int))) (
       (0≤Qr∧Qr<(l2.length:Int))∧
       split ((l2.getD Qr.toNat (I64.mk 0)).v==(aN ((E.on m).word p Oi))) (
        (0≤(aN ((E.on m).word p Oi))∧(aN ((E.on m).word p Oi))<(Wi.length:Int))∧
        ∀(l3:List Bl),l3=(Wi.set (Int.toNat (aN ((E.on m).word p Oi))) (Bl.mk true))→
        ∀count3:Int,count3=(i64.wrap (count2+1))→
        ∃m2,m2<m1∧I m2 count3 (i64.wrap (Oi+1)) A41 c41 l3) (
        ∃m4,m4<m3∧I1 m4 count2 (i64.wrap (Qr+1)) A41 c41 Wi)) (
       Q ⟨(.bool false),none,[],[],[]⟩)))) (
    Q ⟨(.bool (count1==((((E.on m).pgs 4 ((l.getD p.toNat Ent.free).owner) (E.on m).S).length):Int))),none,[],[],[]⟩)))
theorem GN:Vc2 Un prog (aU [(119,cP),(179,eA),(121,eH),(180,oQ),(175,cX),(181,cU)]) [6] Tryz.f129 (.r' (.two (.two (.two (.node [] (some ⟨[(23,(.one .bool))],[],upN 14 10,[]⟩) [] [] .leaf .leaf) .leaf) (.r' (.r' (.r' (.r' (.two (.r' (.two (.node [] (some ⟨[(6,(.one (.int .i64))),(39,(.one (.int .i64)))],[(5,(.p (.sl 4 0)))],[4,6,8,9,10,11,13]++upN 39 38,[(4,(.lst 3))]⟩) [] [] (.r' (.r' (.two (.two (.r' (.r' (.r' (.r' (.two (.two (.node [] (some ⟨[(60,(.one .bool))],[],upN 53 8,[]⟩) [] [] .leaf .leaf) .leaf) (.two (.r' (.two (.node [] (some ⟨[(6,(.one (.int .i64))),(63,(.one (.int .i64)))],[(5,(.p (.sl 4 0)))],[6,13]++upN 63 13,[(4,(.lst 3))]⟩) [] [] .leaf .leaf) .leaf)) .leaf)))))) .leaf) .leaf))) .leaf) .leaf)) .leaf)))))) .leaf)) [] np=(∀p g r (E:Pd) rm (m:Mem) A c (l:List Ent),∀Q,(E.n=m.S∧l=E.aA∧(E.on m).has p=true∧Q ⟨(.bool ((E.on m).clause 8 p)),none,[],[],[]⟩)→GM p g r E rm m A c l Q):=by kernel_rfl
section
attribute [local grind=] DB.ja DB.is
theorem GL:LV Un prog 129 np:=verify Tryz.func129 aj (tb:= [(119,cP),(179,eA),(121,eH),(180,oQ),(175,cX),(181,cU)]) ⟨iw,nr,nh,GK,jJ,lH,trivial⟩ (by kernel_rfl) (GN.mpr fun p g r E rm m A c l Q h=>by
 obtain⟨NF,Nz,NN,h⟩:=h
 subst Nz
 exact fun f1 f2=>(by(have hw:=fun a b=>fD (E:=E) f2 a b);(have SW:E.aA.getD p.toNat Ent.free=(E.on m).at_ p:=by rw [Pd.cg (by grind),Pd.iS]);exact bS ((!((E.on m).is p 3)) || (!(if(E.on m).is p 1 then((E.on m).at_ p).state !=3 else(E.on m).alive p))) (ak ‹_› fun s3=>ak (by rfl) fun s4=>ak ‹_› fun s5=>ao (fun c1=>(by grind)) fun c1=>ak ‹_› fun s6=>ak (by rfl) fun s7=>ak ‹_› fun s8=>(by grind))<| aW (fun c2=>bG h (by grind)) fun c2=>(by(have hty:((E.on m).at_ p).typ=3∧(E.on m).alive p=true:=by grind);exact ak ‹_› fun s9=>ak (by rfl) fun QE=>ak (by omega) fun OW=>cf (fun c3=>bG h (by rw [DB.ja,DB.jo,c3];simp [hty])) fun c3=>ak (by omega) fun Py Nd l1 OH=>allEq<| ak (by grind) fun NG=>ak ‹_› fun NJ=>ak (by rfl) fun Qx A1 c1 l2 P3=>⟨fun m1 count1 Oi A4 c4 l4=>(m1=(256 - Oi).toNat)∧(0≤Oi∧Oi≤256)∧(DB.Nms (E.on m) p Oi count1 l4),⟨_,rfl,(by omega),(by rw [OH];exact DB.Nms.init _ _)⟩,fun m1 _ count1 Oi A4 c4 l4 ⟨hm,hx,hn⟩=>(by(have Qu:l2=(E.on m).pgs 4 ((E.on m).at_ p).owner (E.on m).S:=by rw [P3,SW]);(have RR:(l2.length:Int)≤64:=by rw [Qu];(have h8:=DB.jy (E.on m) 4 ((E.on m).at_ p).owner (E.on m).S);have h7:=f1.eg;(rw [Pd.rY _ _ NF]at h8 ⊢);omega);(have hcb:0≤count1∧count1≤64:=by rw [hn.cnt];(have h7:=mY (f:=fun q=>(E.on m).named p Oi q==1) (n:=((E.on m).S:Int)) (by omega));(have h6:=ir (f:=fun q=>(E.on m).named p Oi q==1) (n:=((E.on m).S:Int)));have h5:=f1.eg;(rw [Pd.rY _ _ NF]at h7 h6 ⊢);omega);exact ax (fun c4=>ak ‹_› fun s16=>ak (by rfl) fun s17=>aO (fun c5=>⟨_,(by rw [aq (x:=Oi+1) (by omega)];omega),rfl,(by rw [aq (x:=Oi+1) (by omega)];omega),(by rw [aq (x:=Oi+1) (by omega)];exact hn.skip hx.1 c5)⟩) fun c5=>ak (hw p Oi) fun s18=>bS ((((eX ((E.on m).word p Oi)):Int) !=0) || ((l4.getD (Int.toNat (aN ((E.on m).word p Oi))) (Bl.mk false)).v)) (ao (fun c6=>(by grind)) fun c6=>ak (by(have h8:=px (hw p Oi).1);(have h7:=hn.len);(rw [h7];exact h8)) fun s19=>(by grind))<| aW (fun c7=>bG h (by(have hb:=hn.bad ⟨hx.1,c4⟩ (hw p Oi).1 c5 (fun he ho=>by rcases c7 with h | h;(simp [he]at h);exact h));rw [DB.ja,hb];simp [hty])) fun c7=>⟨fun m3 count2 Qr A41 c41 Wi=>(m3=((l2.length:Int) - Qr).toNat)∧(0≤Qr∧Qr≤(l2.length:Int))∧(count2=count1)∧(Wi=l4)∧(∀j:Nat,(j:Int)<Qr→¬(l2.getD j (I64.mk 0)).v=aN ((E.on m).word p Oi)),⟨_,rfl,(by omega),(by rfl),(by rfl),(by intro j hj;omega)⟩,fun m3 _ count2 Qr A41 c41 Wi ⟨hm,hy,U4,Wu,hno⟩=>(by have hy2:Qr<(l2.length:Int)∨¬Qr<(l2.length:Int):=Classical.em _;exact ax (fun c8=>ak (by rw [P3];exact⟨hy.1,c8⟩) fun s20=>aO (fun c9=>ak (by(have h8:=px (hw p Oi).1);(have h7:=hn.len);(rw [Wu,h7];exact h8)) fun s21 l3 PI=>allEq<| ⟨_,(by rw [aq (x:=Oi+1) (by omega)];omega),rfl,(by rw [aq (x:=Oi+1) (by omega)];omega),(by rw [aq (x:=Oi+1) (by omega)];(rw [PI,Wu,U4,aq (x:=count1+1) (by omega)];exact hn.put hx.1 (hw p Oi).1 c5 (by simpa using c7.1) c7.2 (DB.KU Qu ⟨hy.1,by rw [P3];exact c8⟩ c9)))⟩) fun c9=>⟨_,(by have c8':=c8;rw [← P3]at c8';rw [aq (x:=Qr+1) (by omega)];omega),rfl,(by have c8':=c8;rw [← P3]at c8';rw [aq (x:=Qr+1) (by omega)];omega),(U4),(Wu),(by have c8':=c8;rw [← P3]at c8';rw [aq (x:=Qr+1) (by omega)];intro j hj;by_cases hjx:(j:Int)=Qr;(have hjn:j=Qr.toNat:=by omega);subst hjn;exact c9;exact hno j (by omega))⟩) fun c8=>bG h (by(have hb:=hn.bad ⟨hx.1,c4⟩ (hw p Oi).1 c5 (fun _ ho=>by rw [DB.Ic Qu (fun j hj=>hno j (by rw [← P3]at c8;omega))]at ho;cases ho));rw [DB.ja,hb];simp [hty]))⟩) fun c4=>bG h (by(have aaT:Oi=256:=by omega);subst aaT;rw [DB.ja,hn.done (by rw [Pd.rY _ _ NF];exact f1.eg) c3,SW];simp [hty]))⟩)))
end
def pI:Ctr Un:=⟨[.one (.ptr 0),.one (.int .i64)],[],[.blk [.obj 1 0,.sl 3] 136,.ob 1 [(1,2,0)],.ob 0 [],.lst 4 false 127],[],fun p g r E rm m A c l K=>E.n=m.S∧l=E.aA∧(E.on m).has p=true∧K ⟨(.bool ((E.on m).clause 9 p)),none,[],[],[]⟩⟩
def I6(p:Int)(g:Nat)(r:Nat→Nat)(E:Pd)(rm:Nat→Nat)(m:Mem)(A:Option Addr)(c:Nat)(l:List Ent)(Q:Ou Un→Prop):Prop:=
 Pd.Ok E→
 Mem.Wf m→
 ∃J:Bool→Prop,(
  E.n=m.S∧
  l=E.aA∧
  (E.on m).has p=true∧
  split (!((E.on m).is p 4)) (
   J true) (
   E.n=m.S∧
   l=E.aA∧
   (E.on m).has p=true∧
   J (!(if(E.on m).is p 1 then((E.on m).at_ p).state !=3 else(E.on m).alive p))))∧∀(OO:Nat→Value)(Po:Bool),J Po→
 split Po (
  Q ⟨(.bool true),none,[],[],[]⟩) (
  ∃I:Nat→Int→Prop,(∃m1,I m1 0)∧∀(m1:Nat)(Nt:Nat→Value)(NP:Int),I m1 NP→
  split (decide (NP<1024)) (
   E.n=m.S∧
   l=E.aA∧
   split (((E.on m).word p NP)==0) (
    ∃m2,m2<m1∧I m2 (i64.wrap (NP+1))) (
    (0≤((E.on m).word p NP)∧((E.on m).word p NP)<4294967296)∧
    ∀(NC:Nat),
    ∃J1:Bool→Prop,(
     split ((eQ ((E.on m).word p NP)) !=0) (
      J1 true) (
      J1 (!(m.has ((bD ((E.on m).word p NP)).aX) ((bD ((E.on m).word p NP)).ay)))))∧∀(Sc:Nat→Value)(Y6:Bool),J1 Y6→
    split Y6 (
     Q ⟨(.bool false),none,[],[],[]⟩) (
     ∃J2:Bool→Prop,(
      split ((bD ((E.on m).word p NP)).aX) (
       E.n=m.S∧
       l=E.aA∧
       (E.on m).has ((bD ((E.on m).word p NP)).ay)=true∧
       split (!((E.on m).is ((bD ((E.on m).word p NP)).ay) 5)) (
        J2 true) (
        (0≤(bD ((E.on m).word p NP)).ay∧(bD ((E.on m).word p NP)).ay<(l.length:Int))∧
        (0≤p∧p<(l.length:Int))∧
        J2 ((l.getD (Int.toNat ((bD ((E.on m).word p NP)).ay)) Ent.free).owner !=((l.getD p.toNat Ent.free).owner)))) (
       J2 false))∧∀(P4:Nat→Value)(XM:Bool),J2 XM→
     split XM (
      Q ⟨(.bool false),none,[],[],[]⟩) (
      ∃m2,m2<m1∧I m2 (i64.wrap (NP+1)))))) (
   Q ⟨(.bool true),none,[],[],[]⟩))
theorem I7:Vc2 Un prog (aU [(119,cP),(179,eA),(175,cX),(182,bY),(32,dg),(183,mm)]) [] Tryz.f130 (.r' (.two (.two (.node [] (some ⟨[(18,(.one .bool))],[],upN 9 10,[]⟩) [] [] .leaf .leaf) .leaf) (.two (.r' (.two (.node [] (some ⟨[(19,(.one (.int .i64)))],[],upN 4 5++upN 19 60,[]⟩) [] [] (.r' (.r' (.two (.two (.r' (.r' (.r' (.r' (.two (.two (.node [] (some ⟨[(45,(.one .bool))],[],upN 33 13,[]⟩) [] [(6,[0]),(9,[4])] .leaf .leaf) .leaf) (.two (.node [] (some ⟨[(77,(.one .bool))],[],upN 46 32,[]⟩) [] [(2,[4]),(7,[4]),(14,[0]),(17,[4]),(20,[3]),(24,[0]),(28,[3])] .leaf .leaf) .leaf)))))) .leaf) .leaf))) .leaf) .leaf)) .leaf))) [] pI=(∀p g r (E:Pd) rm (m:Mem) A c (l:List Ent),∀Q,(E.n=m.S∧l=E.aA∧(E.on m).has p=true∧Q ⟨(.bool ((E.on m).clause 9 p)),none,[],[],[]⟩)→I6 p g r E rm m A c l Q):=by kernel_rfl
section
attribute [local grind=] DB.kp DB.is
theorem I5:LV Un prog 130 pI:=verify Tryz.func130 aj (tb:= [(119,cP),(179,eA),(175,cX),(182,bY),(32,dg),(183,mm)]) ⟨iw,nr,jJ,gV,jk,Aw,trivial⟩ (by kernel_rfl) (I7.mpr fun p g r E rm m A c l Q h=>by
 obtain⟨NF,Nz,NN,h⟩:=h
 subst Nz
 exact fun f1 f2=>(by(have hw:=fun a b=>fD (E:=E) f2 a b);(have U2:=fun a b=>aq (x:=(E.on m).word a b) (by have:=hw a b;omega));(have UW:=fun a b=>gH (x:=(E.on m).word a b) (by have:=hw a b;omega));(have SW:E.aA.getD p.toNat Ent.free=(E.on m).at_ p:=by rw [Pd.cg (by grind),Pd.iS]);(have hmt:∀q,m.has true q=(E.on m).has q:=fun q=>rfl);(have hmf:∀q,m.has false q=decide (0≤q∧q<(m.I:Int)):=fun q=>rfl);(have hps:=fun w=>Br w);exact bS ((!((E.on m).is p 4)) || (!(if(E.on m).is p 1 then((E.on m).at_ p).state !=3 else(E.on m).alive p))) (ak ‹_› fun s3=>ak (by rfl) fun s4=>ak ‹_› fun s5=>ao (fun c1=>(by grind)) fun c1=>ak ‹_› fun s6=>ak (by rfl) fun s7=>ak ‹_› fun s8=>(by grind))<| aW (fun c2=>bG h (by grind)) fun c2=>⟨fun m1 NP=>(m1=(1024 - NP).toNat)∧(0≤NP∧NP≤1024)∧(ia ((E.on m).mP p) 0 NP=true),⟨_,rfl,(by omega),(jc (Int.le_refl _))⟩,fun m1 _ NP ⟨hm,hx,hz⟩=>ax (fun c3=>ak ‹_› fun s9=>ak (by rfl) fun QE=>aO (fun c4=>⟨_,(by(have h9:=aq (x:=NP+1) (by grind));omega),rfl,(by(have h9:=aq (x:=NP+1) (by grind));omega),(fv hz (by(grind [DB.mP,DB.of])) (aq (by omega)))⟩) fun c4=>ak (hw p NP) fun OW NC=>bS ((((eQ ((E.on m).word p NP)):Int) !=0) || (!(m.has ((bD ((E.on m).word p NP)).aX) ((bD ((E.on m).word p NP)).ay)))) (ao (fun c5=>(by grind)) fun c5=>(by grind))<| aW (fun c6=>bG h (by(have hb:(E.on m).mP p NP=false:=by(grind [DB.mP,DB.of]));rw [DB.kp,DB.sV,gS hx.1 c3 hb];grind)) fun c6=>bS (((bD ((E.on m).word p NP)).aX) && ((!((E.on m).is ((bD ((E.on m).word p NP)).ay) 5)) || (((E.aA.getD (Int.toNat ((bD ((E.on m).word p NP)).ay)) Ent.free).owner:Int) !=((E.aA.getD p.toNat Ent.free).owner)))) (ao (fun c7=>ak ‹_› fun Py=>ak (by rfl) fun NG=>ak (by grind) fun NJ=>ao (fun c8=>(by grind)) fun c8=>ak (by grind) fun Qx=>ak (by grind) fun s16=>(by grind)) fun c7=>(by grind))<| cE (fun c9=>bG h (by(have hb:(E.on m).mP p NP=false:=by(grind [DB.mP,DB.of]));rw [DB.kp,DB.sV,gS hx.1 c3 hb];grind)) fun c9=>⟨_,(by(have h9:=aq (x:=NP+1) (by grind));omega),rfl,(by(have h9:=aq (x:=NP+1) (by grind));omega),(fv hz (by(grind [DB.mP,DB.of])) (aq (by omega)))⟩) fun c3=>bG h (by rw [DB.kp,DB.sV,← show NP=1024 by omega,hz];simp)⟩))
end
def ln:Ctr Un:=⟨[.one (.ptr 0),.one (.int .i64)],[],[.blk [.obj 1 0,.sl 3] 136,.ob 1 [(1,2,0)],.ob 0 [],.lst 4 false 127],[],fun p g r E rm m A c l K=>E.n=m.S∧l=E.aA∧(E.on m).has p=true∧K ⟨(.bool ((E.on m).clause 10 p)),none,[],[],[]⟩⟩
def DA(p:Int)(g:Nat)(r:Nat→Nat)(E:Pd)(rm:Nat→Nat)(m:Mem)(A:Option Addr)(c:Nat)(l:List Ent)(Q:Ou Un→Prop):Prop:=
 Pd.Ok E→
 Mem.Wf m→
 ∃J:Bool→Prop,(
  E.n=m.S∧
  l=E.aA∧
  (E.on m).has p=true∧
  split (!((E.on m).is p 5)) (
   J true) (
   E.n=m.S∧
   l=E.aA∧
   (E.on m).has p=true∧
   J (!(if(E.on m).is p 1 then((E.on m).at_ p).state !=3 else(E.on m).alive p))))∧∀(OO:Nat→Value)(PB:Bool),J PB→
 split PB (
  Q ⟨(.bool true),none,[],[],[]⟩) (
  ∀n:Int,n=0→
  (0≤p∧p<(l.length:Int))∧
  E.n=m.S∧
  l=E.aA∧
  ∀(A1:Option Addr)(c1:Nat),
  ∀(l1:List I64),l1=(E.on m).pgs 4 ((l.getD p.toNat Ent.free).owner) (E.on m).S→
  ∃I:Nat→Int→Int→Prop,(∃m1,I m1 n 0)∧∀(m1:Nat)(Nt:Nat→Value)(n1:Int)(O4:Int),I m1 n1 O4→
  split (decide (O4<((((E.on m).pgs 4 ((l.getD p.toNat Ent.free).owner) (E.on m).S).length):Int))) (
   (0≤O4∧O4<(l1.length:Int))∧
   ∃I1:Nat→Int→Int→Prop,(∃m3,I1 m3 n1 0)∧∀(m3:Nat)(Pw:Nat→Value)(n2:Int)(OI:Int),I1 m3 n2 OI→
   split (decide (OI<1024)) (
    E.n=m.S∧
    l=E.aA∧
    (0≤((E.on m).word ((l1.getD O4.toNat (I64.mk 0)).v) OI)∧((E.on m).word ((l1.getD O4.toNat (I64.mk 0)).v) OI)<4294967296)∧
    ∀(Nh:Nat),
    ∃J1:Bool→Prop,(
     split ((eQ ((E.on m).word ((l1.getD O4.toNat (I64.mk 0)).v) OI))==0) (
      J1 (bp #[(.bool ((bD ((E.on m).word ((l1.getD O4.toNat (I64.mk 0)).v) OI)).aX)),(.int .i64 ((bD ((E.on m).word ((l1.getD O4.toNat (I64.mk 0)).v) OI)).ay))] #[(.bool true),(.int .i64 p)])) (
      J1 false))∧∀(P4:Nat→Value)(S5:Bool),J1 S5→
    split S5 (
     ∀n3:Int,n3=(i64.wrap (n2+1))→
     ∃m4,m4<m3∧I1 m4 n3 (i64.wrap (OI+1))) (
     ∃m4,m4<m3∧I1 m4 n2 (i64.wrap (OI+1)))) (
    ∃m2,m2<m1∧I m2 n2 (i64.wrap (O4+1)))) (
   Q ⟨(.bool (n1==1)),none,[],[],[]⟩))
theorem DC:Vc2 Un prog (aU [(119,cP),(179,eA),(180,oQ),(175,cX),(182,bY)]) [5] Tryz.f131 (.r' (.two (.two (.node [] (some ⟨[(20,(.one .bool))],[],upN 11 10,[]⟩) [] [] .leaf .leaf) .leaf) (.r' (.two (.r' (.two (.node [] (some ⟨[(5,(.one (.int .i64))),(32,(.one (.int .i64)))],[],[5,7,8,9,10]++upN 32 28,[]⟩) [] [] (.r' (.r' (.two (.two (.r' (.r' (.two (.node [] (some ⟨[(5,(.one (.int .i64))),(36,(.one (.int .i64)))],[],[5,8,9,10]++upN 36 23,[]⟩) [] [] (.r' (.r' (.two (.two (.r' (.r' (.two (.node [] (some ⟨[(55,(.one .bool))],[],upN 47 9,[]⟩) [] [] .leaf .leaf) .leaf))) .leaf) .leaf))) .leaf) .leaf))) .leaf) .leaf))) .leaf) .leaf)) .leaf)))) [] ln=(∀p g r (E:Pd) rm (m:Mem) A c (l:List Ent),∀Q,(E.n=m.S∧l=E.aA∧(E.on m).has p=true∧Q ⟨(.bool ((E.on m).clause 10 p)),none,[],[],[]⟩)→DA p g r E rm m A c l Q):=by kernel_rfl
section
attribute [local grind=] DB.n6 DB.is
theorem Dz:LV Un prog 131 ln:=verify Tryz.func131 aj (tb:= [(119,cP),(179,eA),(180,oQ),(175,cX),(182,bY)]) ⟨iw,nr,GK,jJ,gV,trivial⟩ (by kernel_rfl) (DC.mpr fun p g r E rm m A c l Q h=>by
 obtain⟨NF,Nz,NN,h⟩:=h
 subst Nz
 exact fun f1 f2=>(by(have hw:=fun a b=>fD (E:=E) f2 a b);(have U2:=fun a b=>aq (x:=(E.on m).word a b) (by have:=hw a b;omega));(have UW:=fun a b=>gH (x:=(E.on m).word a b) (by have:=hw a b;omega));(have SW:E.aA.getD p.toNat Ent.free=(E.on m).at_ p:=by rw [Pd.cg (by grind),Pd.iS]);(have hmt:∀q,m.has true q=(E.on m).has q:=fun q=>rfl);(have hmf:∀q,m.has false q=decide (0≤q∧q<(m.I:Int)):=fun q=>rfl);(have hps:=fun w=>Br w);exact bS ((!((E.on m).is p 5)) || (!(if(E.on m).is p 1 then((E.on m).at_ p).state !=3 else(E.on m).alive p))) (ak ‹_› fun s3=>ak (by rfl) fun s4=>ak ‹_› fun s5=>ao (fun c1=>(by grind)) fun c1=>ak ‹_› fun s6=>ak (by rfl) fun s7=>ak ‹_› fun s8=>(by grind))<| aW (fun c2=>bG h (by grind)) fun c2=>allEq<| ak (by grind) fun s9=>ak ‹_› fun QE=>ak (by rfl) fun OW A1 c1 l1 OH=>⟨fun m1 n1 O4=>(m1=((l1.length:Int) - O4).toNat)∧(0≤O4∧O4≤(l1.length:Int))∧(n1=(E.on m).iN p l1 O4),⟨_,rfl,(by constructor<;>omega),(by rfl)⟩,fun m1 _ n1 O4 ⟨hm,hx,hn⟩=>(by(have Pz:l1=(E.on m).pgs 4 ((E.on m).at_ p).owner (E.on m).S:=by rw [OH,SW]);exact ax (fun c3=>ak (by grind) fun Py=>⟨fun m3 n2 OI=>(m3=(1024 - OI).toNat)∧(0≤OI∧OI≤1024)∧(n2=(E.on m).iN p l1 O4+cO ((E.on m).jD p (l1.getD O4.toNat (I64.mk 0)).v) OI),⟨_,rfl,(by omega),(by rw [Dh,Int.add_zero];exact hn)⟩,fun m3 _ n2 OI ⟨hm,hj,QK⟩=>ax (fun c4=>ak ‹_› fun NG=>ak (by rfl) fun NJ=>ak (hw _ OI) fun Qx Nh=>bS ((((eQ ((E.on m).word ((l1.getD O4.toNat (I64.mk 0)).v) OI)):Int)==0) && (bp #[(.bool ((bD ((E.on m).word ((l1.getD O4.toNat (I64.mk 0)).v) OI)).aX)),(.int .i64 ((bD ((E.on m).word ((l1.getD O4.toNat (I64.mk 0)).v) OI)).ay))] #[(.bool true),(.int .i64 p)])) (ao (fun c5=>(by grind)) fun c5=>(by grind))<| cE (fun c6=>allEq<| ⟨_,(by(have h9:=aq (x:=OI+1) (by grind));omega),rfl,(by(have h9:=aq (x:=OI+1) (by grind));omega),(by have U9:=DB.jy (E.on m) 4 ((E.on m).at_ p).owner (E.on m).S;rw [← Pz]at U9;have h9:=aq (x:=OI+1) (by omega);have h8:=dD (f:=(E.on m).jD p (l1.getD O4.toNat (I64.mk 0)).v) hj.1;have h7:=mY (f:=(E.on m).jD p (l1.getD O4.toNat (I64.mk 0)).v) hj.1;have h6:=ir (f:=(E.on m).jD p (l1.getD O4.toNat (I64.mk 0)).v) (n:=OI);have h5:=DB.sY (D:=E.on m) (p:=p) (l:=l1) hx.1;have h3:=aq (x:=n2+1) (by grind);(grind [DB.jD,eqF]))⟩) fun c6=>⟨_,(by(have h9:=aq (x:=OI+1) (by grind));omega),rfl,(by(have h9:=aq (x:=OI+1) (by grind));omega),(by have U9:=DB.jy (E.on m) 4 ((E.on m).at_ p).owner (E.on m).S;rw [← Pz]at U9;have h9:=aq (x:=OI+1) (by omega);have h8:=dD (f:=(E.on m).jD p (l1.getD O4.toNat (I64.mk 0)).v) hj.1;have h7:=mY (f:=(E.on m).jD p (l1.getD O4.toNat (I64.mk 0)).v) hj.1;have h6:=ir (f:=(E.on m).jD p (l1.getD O4.toNat (I64.mk 0)).v) (n:=OI);have h5:=DB.sY (D:=E.on m) (p:=p) (l:=l1) hx.1;have h3:=aq (x:=n2+1) (by grind);(grind [DB.jD,eqF]))⟩) fun c4=>⟨_,(by have U9:=DB.jy (E.on m) 4 ((E.on m).at_ p).owner (E.on m).S;rw [← Pz]at U9;rw [aq (x:=O4+1) (by grind)];grind),rfl,(by have U9:=DB.jy (E.on m) 4 ((E.on m).at_ p).owner (E.on m).S;rw [← Pz]at U9;rw [aq (x:=O4+1) (by grind)];grind),(by have U9:=DB.jy (E.on m) 4 ((E.on m).at_ p).owner (E.on m).S;rw [← Pz]at U9;rw [aq (x:=O4+1) (by grind),DB.pY ⟨hx.1,by grind⟩,QK,show OI=1024 by omega])⟩⟩) fun c3=>bG h (by(have hb:=DB.once_eq (D:=E.on m) (p:=p) (n:=n1) (x:=O4) (by rw [← Pz];grind) (by rw [← Pz];exact hn));rw [DB.n6,hb];grind))⟩))
end
end
section
set_option maxRecDepth 100000
set_option maxHeartbeats 1000000
attribute [local irreducible] Vc2 VcD
attribute [local grind=] Pd.cI Pd.cg Pd.iH Pd.iS Pd.gi Pd.eJ Pd.eY Pd.fw Pd.lB
attribute [local grind .] Pd.Ok.ent
attribute [local grind→] Pd.Ok.eg
theorem DB.qN {D:DB} {c p:Int}(hc:1≤c∧c≤12)(hb:D.fC (13 - c).toNat c=D.broken)(hz:ia (D.clause c) 0 p=true)(hf:D.clause c p=false)(hp:0≤p∧p<(D.S:Int)):D.broken=(c,p):=by
 rw [← hb,show(13 - c).toNat=(12 - c).toNat+1 by omega,fC,jC,gS hp.1 hp.2 hf,leastN_eq hz hf hp.1 (by omega)]
 rfl
theorem DB.xG {D:DB} {c:Int}(hc:1≤c∧c≤12)(hb:D.fC (13 - c).toNat c=D.broken) {p:Int}(hp:p=(D.S:Int))(hz:ia (D.clause c) 0 p=true):D.fC (13 - (c+1)).toNat (c+1)=D.broken:=by
 subst hp
 rw [← hb,show(13 - c).toNat=(13 - (c+1)).toNat+1 by omega,fC,jC,hz]
 rfl
theorem DB.oL {D:DB} {c:Int}(hc:¬c≤12)(U4:c≤13)(hb:D.fC (13 - c).toNat c=D.broken):D.broken=(0,0):=by
 rw [← hb,show(13 - c).toNat=0 by omega];rfl
end
section
set_option maxRecDepth 100000
set_option maxHeartbeats 1000000
attribute [local irreducible] Vc2 VcD
attribute [local grind=] Pd.cI Pd.cg Pd.iH Pd.iS Pd.gi Pd.eJ Pd.eY Pd.fw Pd.lB Pd.rY
attribute [local grind .] Pd.Ok.ent
attribute [local grind→] Pd.Ok.eg
def iC:Ctr Un:=⟨[.one (.int .i64),.one (.ptr 0)],[],[.blk [.ptr 1] 130,.blk [.obj 2 0,.sl 4] 136,.ob 1 [(1,3,0)],.ob 0 [],.lst 4 false 127],[],fun p gb g r E rm m A c l K=>E.n=m.S∧l=E.aA∧(E.on m).has p=true∧K ⟨(.bool ((E.on m).clause 1 p)),none,[],[],[]⟩⟩
def yh(p:Int)(gb:Nat)(g:Nat)(r:Nat→Nat)(E:Pd)(rm:Nat→Nat)(m:Mem)(A:Option Addr)(c:Nat)(l:List Ent)(Q:Ou Un→Prop):Prop:=
 Pd.Ok E→
 Mem.Wf m→
 ∃J:Bool→Prop,(
  E.n=m.S∧
  l=E.aA∧
  (E.on m).has p=true∧
  split (!((E.on m).is p 1)) (
   J true) (
   (0≤p∧p<(l.length:Int))∧
   J ((l.getD p.toNat Ent.free).owner==p)))∧∀(OO:Nat→Value)(x3:Bool),J x3→
 Q ⟨(.bool x3),none,[],[],[]⟩
theorem yi:Vc2 Un prog (aU [(119,cP)]) [] Tryz.f118 (.r' (.two (.node [] (some ⟨[(3,(.one .bool))],[],upN 3 17,[]⟩) [] [] .leaf .leaf) .leaf)) [] iC=(∀p gb g r (E:Pd) rm (m:Mem) A c (l:List Ent),∀Q,(E.n=m.S∧l=E.aA∧(E.on m).has p=true∧Q ⟨(.bool ((E.on m).clause 1 p)),none,[],[],[]⟩)→yh p gb g r E rm m A c l Q):=by kernel_rfl
section
attribute [local grind=] DB.xB DB.is
theorem yg:LV Un prog 118 iC:=verify Tryz.func118 aj (tb:= [(119,cP)]) ⟨iw,trivial⟩ (by kernel_rfl) (yi.mpr fun p gb g r E rm m A c l Q h=>by
 obtain⟨NF,Nz,NN,h⟩:=h
 subst Nz
 exact fun f1 f2=>bS ((!((E.on m).is p 1)) || (((E.aA.getD p.toNat Ent.free).owner:Int)==p)) (ak ‹_› fun s3=>ak (by rfl) fun s4=>ak ‹_› fun s5=>ao (fun c1=>(by grind)) fun c1=>ak (by grind) fun s6=>(by grind))<| bG h (by grind))
end
def iB:Ctr Un:=⟨[.one (.int .i64),.one (.ptr 0)],[],[.blk [.ptr 1] 130,.blk [.obj 2 0,.sl 4] 136,.ob 1 [(1,3,0)],.ob 0 [],.lst 4 false 127],[],fun p gb g r E rm m A c l K=>E.n=m.S∧l=E.aA∧(E.on m).has p=true∧K ⟨(.bool ((E.on m).clause 2 p)),none,[],[],[]⟩⟩
def ye(p:Int)(gb:Nat)(g:Nat)(r:Nat→Nat)(E:Pd)(rm:Nat→Nat)(m:Mem)(A:Option Addr)(c:Nat)(l:List Ent)(Q:Ou Un→Prop):Prop:=
 Pd.Ok E→
 Mem.Wf m→
 ∃J:Bool→Prop,(
  E.n=m.S∧
  l=E.aA∧
  (E.on m).has p=true∧
  split (!((E.on m).is p 0)) (
   J true) (
   E.n=m.S∧
   l=E.aA∧
   (0≤(0:Int)∧(1024:Int)≤1024)∧
   J ((E.on m).zero p 0 1024)))∧∀(OO:Nat→Value)(x3:Bool),J x3→
 Q ⟨(.bool x3),none,[],[],[]⟩
theorem yf:Vc2 Un prog (aU [(119,cP),(121,eH)]) [] Tryz.f120 (.r' (.two (.node [] (some ⟨[(3,(.one .bool))],[],upN 3 10,[]⟩) [] [] .leaf .leaf) .leaf)) [] iB=(∀p gb g r (E:Pd) rm (m:Mem) A c (l:List Ent),∀Q,(E.n=m.S∧l=E.aA∧(E.on m).has p=true∧Q ⟨(.bool ((E.on m).clause 2 p)),none,[],[],[]⟩)→ye p gb g r E rm m A c l Q):=by kernel_rfl
section
attribute [local grind=] DB.xA DB.is
theorem yd:LV Un prog 120 iB:=verify Tryz.func120 aj (tb:= [(119,cP),(121,eH)]) ⟨iw,nh,trivial⟩ (by kernel_rfl) (yf.mpr fun p gb g r E rm m A c l Q h=>by
 obtain⟨NF,Nz,NN,h⟩:=h
 subst Nz
 exact fun f1 f2=>bS ((!((E.on m).is p 0)) || ((E.on m).zero p 0 1024)) (ak ‹_› fun s3=>ak (by rfl) fun s4=>ak ‹_› fun s5=>ao (fun c1=>(by grind)) fun c1=>ak ‹_› fun s6=>ak (by rfl) fun s7=>ak (by omega) fun s8=>(by grind))<| bG h (by grind))
end
def iA:Ctr Un:=⟨[.one (.int .i64),.one (.ptr 0)],[],[.blk [.ptr 1] 130,.blk [.obj 2 0,.sl 4] 136,.ob 1 [(1,3,0)],.ob 0 [],.lst 4 false 127],[],fun p gb g r E rm m A c l K=>E.n=m.S∧l=E.aA∧(E.on m).has p=true∧K ⟨(.bool ((E.on m).clause 3 p)),none,[],[],[]⟩⟩
def yb(p:Int)(gb:Nat)(g:Nat)(r:Nat→Nat)(E:Pd)(rm:Nat→Nat)(m:Mem)(A:Option Addr)(c:Nat)(l:List Ent)(Q:Ou Un→Prop):Prop:=
 Pd.Ok E→
 Mem.Wf m→
 ∃J:Bool→Prop,(
  E.n=m.S∧
  l=E.aA∧
  (E.on m).has p=true∧
  split ((E.on m).is p 0) (
   J true) (
   E.n=m.S∧
   l=E.aA∧
   (E.on m).has p=true∧
   split ((E.on m).is p 1) (
    J true) (
    E.n=m.S∧
    l=E.aA∧
    (E.on m).has p=true∧
    J (decide (((E.on m).cv p)≥0)))))∧∀(OO:Nat→Value)(x3:Bool),J x3→
 Q ⟨(.bool x3),none,[],[],[]⟩
theorem yc:Vc2 Un prog (aU [(119,cP),(123,fN)]) [] Tryz.f122 (.r' (.two (.node [] (some ⟨[(3,(.one .bool))],[],upN 3 15,[]⟩) [] [] .leaf .leaf) .leaf)) [] iA=(∀p gb g r (E:Pd) rm (m:Mem) A c (l:List Ent),∀Q,(E.n=m.S∧l=E.aA∧(E.on m).has p=true∧Q ⟨(.bool ((E.on m).clause 3 p)),none,[],[],[]⟩)→yb p gb g r E rm m A c l Q):=by kernel_rfl
section
attribute [local grind=] DB.xz DB.is DB.cv
theorem ya:LV Un prog 122 iA:=verify Tryz.func122 aj (tb:= [(119,cP),(123,fN)]) ⟨iw,rh,trivial⟩ (by kernel_rfl) (yc.mpr fun p gb g r E rm m A c l Q h=>by
 obtain⟨NF,Nz,NN,h⟩:=h
 subst Nz
 exact fun f1 f2=>bS (((E.on m).is p 0) || (((E.on m).is p 1) || (decide ((((E.on m).cv p):Int)≥0)))) (ak ‹_› fun s3=>ak (by rfl) fun s4=>ak ‹_› fun s5=>ao (fun c1=>(by grind)) fun c1=>ak ‹_› fun s6=>ak (by rfl) fun s7=>ak ‹_› fun s8=>ao (fun c2=>(by grind)) fun c2=>ak ‹_› fun s9=>ak (by rfl) fun QE=>ak ‹_› fun OW=>(by grind))<| bG h (by grind))
end
def iz:Ctr Un:=⟨[.one (.int .i64),.one (.ptr 0)],[],[.blk [.ptr 1] 130,.blk [.obj 2 0,.sl 4] 136,.ob 1 [(1,3,0)],.ob 0 [],.lst 4 false 127],[],fun p gb g r E rm m A c l K=>E.n=m.S∧l=E.aA∧(E.on m).has p=true∧K ⟨(.bool ((E.on m).clause 4 p)),none,[],[],[]⟩⟩
def xY(p:Int)(gb:Nat)(g:Nat)(r:Nat→Nat)(E:Pd)(rm:Nat→Nat)(m:Mem)(A:Option Addr)(c:Nat)(l:List Ent)(Q:Ou Un→Prop):Prop:=
 Pd.Ok E→
 Mem.Wf m→
 ∃J:Bool→Prop,(
  E.n=m.S∧
  l=E.aA∧
  (E.on m).has p=true∧
  split (!((E.on m).is p 1)) (
   J true) (
   (0≤p∧p<(l.length:Int))∧
   E.n=m.S∧
   ∀(A1:Option Addr)(c1:Nat),
   ∀(l1:List I64),l1=own (E.on m) p→
   J ((l.getD p.toNat Ent.free).refs==(((own (E.on m) p).length):Int))))∧∀(OO:Nat→Value)(x3:Bool),J x3→
 Q ⟨(.bool x3),none,[],[],[]⟩
theorem xZ:Vc2 Un prog (aU [(119,cP),(125,rO)]) [] Tryz.f124 (.r' (.two (.node [] (some ⟨[(3,(.one .bool))],[],upN 3 23,[]⟩) [] [(0,[0]),(5,[0]),(8,[1]),(12,[4]),(13,[0]),(16,[1])] .leaf .leaf) .leaf)) [] iz=(∀p gb g r (E:Pd) rm (m:Mem) A c (l:List Ent),∀Q,(E.n=m.S∧l=E.aA∧(E.on m).has p=true∧Q ⟨(.bool ((E.on m).clause 4 p)),none,[],[],[]⟩)→xY p gb g r E rm m A c l Q):=by kernel_rfl
section
attribute [local grind=] DB.xy DB.is own DB.eF
theorem xX:LV Un prog 124 iz:=verify Tryz.func124 aj (tb:= [(119,cP),(125,rO)]) ⟨iw,HB,trivial⟩ (by kernel_rfl) (xZ.mpr fun p gb g r E rm m A c l Q h=>by
 obtain⟨NF,Nz,NN,h⟩:=h
 subst Nz
 exact fun f1 f2=>bS ((!((E.on m).is p 1)) || (((E.aA.getD p.toNat Ent.free).refs:Int)==((((own (E.on m) p).length):Nat):Int))) (ak ‹_› fun s3=>ak (by rfl) fun s4=>ak ‹_› fun s5=>ao (fun c1=>(by grind)) fun c1=>ak (by grind) fun s6=>ak ‹_› fun s7 A1 c1 l1 OH=>(by grind))<| bG h (by grind))
end
def iy:Ctr Un:=⟨[.one (.int .i64),.one (.ptr 0)],[],[.blk [.ptr 1] 130,.blk [.obj 2 0,.sl 4] 136,.ob 1 [(1,3,0)],.ob 0 [],.lst 4 false 127],[],fun p gb g r E rm m A c l K=>E.n=m.S∧l=E.aA∧(E.on m).has p=true∧K ⟨(.bool ((E.on m).clause 12 p)),none,[],[],[]⟩⟩
def xV(p:Int)(gb:Nat)(g:Nat)(r:Nat→Nat)(E:Pd)(rm:Nat→Nat)(m:Mem)(A:Option Addr)(c:Nat)(l:List Ent)(Q:Ou Un→Prop):Prop:=
 Pd.Ok E→
 Mem.Wf m→
 ∃J:Bool→Prop,(
  E.n=m.S∧
  l=E.aA∧
  (E.on m).has p=true∧
  split (!((E.on m).is p 6)) (
   J true) (
   E.n=m.S∧
   l=E.aA∧
   (0≤(0:Int)∧(1024:Int)≤1024)∧
   J ((E.on m).zero p 0 1024)))∧∀(OO:Nat→Value)(x3:Bool),J x3→
 Q ⟨(.bool x3),none,[],[],[]⟩
theorem xW:Vc2 Un prog (aU [(119,cP),(121,eH)]) [] Tryz.f133 (.r' (.two (.node [] (some ⟨[(3,(.one .bool))],[],upN 3 10,[]⟩) [] [] .leaf .leaf) .leaf)) [] iy=(∀p gb g r (E:Pd) rm (m:Mem) A c (l:List Ent),∀Q,(E.n=m.S∧l=E.aA∧(E.on m).has p=true∧Q ⟨(.bool ((E.on m).clause 12 p)),none,[],[],[]⟩)→xV p gb g r E rm m A c l Q):=by kernel_rfl
section
attribute [local grind=] DB.tG DB.is
theorem xU:LV Un prog 133 iy:=verify Tryz.func133 aj (tb:= [(119,cP),(121,eH)]) ⟨iw,nh,trivial⟩ (by kernel_rfl) (xW.mpr fun p gb g r E rm m A c l Q h=>by
 obtain⟨NF,Nz,NN,h⟩:=h
 subst Nz
 exact fun f1 f2=>bS ((!((E.on m).is p 6)) || ((E.on m).zero p 0 1024)) (ak ‹_› fun s3=>ak (by rfl) fun s4=>ak ‹_› fun s5=>ao (fun c1=>(by grind)) fun c1=>ak ‹_› fun s6=>ak (by rfl) fun s7=>ak (by omega) fun s8=>(by grind))<| bG h (by grind))
end
def cW(g gb:Nat)(n:Int):Value:=
 if n=1 then .func (.func 118) #[] #[.pointer (some ⟨gb,0,none⟩)]
 else if n=2 then .func (.func 120) #[] #[.pointer (some ⟨gb,0,none⟩)]
 else if n=3 then .func (.func 122) #[] #[.pointer (some ⟨gb,0,none⟩)]
 else if n=4 then .func (.func 124) #[] #[.pointer (some ⟨gb,0,none⟩)]
 else if n=5 then .func (.func 126) #[.pointer (some ⟨g,0,none⟩)] #[]
 else if n=6 then .func (.func 127) #[.pointer (some ⟨g,0,none⟩)] #[]
 else if n=7 then .func (.func 128) #[.pointer (some ⟨g,0,none⟩)] #[]
 else if n=8 then .func (.func 129) #[.pointer (some ⟨g,0,none⟩)] #[]
 else if n=9 then .func (.func 130) #[.pointer (some ⟨g,0,none⟩)] #[]
 else if n=10 then .func (.func 131) #[.pointer (some ⟨g,0,none⟩)] #[]
 else if n=11 then .func (.func 132) #[.pointer (some ⟨g,0,none⟩)] #[]
 else .func (.func 133) #[] #[.pointer (some ⟨gb,0,none⟩)]
def lq:Ctr Un:=⟨[.one (.ptr 0),.one (.int .i64)],[],[.blk [.obj 1 0,.sl 3] 136,.ob 1 [(1,2,0)],.ob 0 [],.lst 4 false 127],[],fun n g r E rm m A c l K=>E.n=m.S∧l=E.aA∧∀(gb:Nat)(v:Value),v=cW g gb n→K ⟨v,none,[],[(.blk gb [(.pointer (some (Addr.mk g 0 none)))] 130)],[(.c 4 0,.p (.loc 0 0))]⟩⟩
def DE(n:Int)(g:Nat)(r:Nat→Nat)(E:Pd)(rm:Nat→Nat)(m:Mem)(A:Option Addr)(c:Nat)(l:List Ent)(Q:Ou Un→Prop):Prop:=
 Pd.Ok E→
 Mem.Wf m→
 ∀(gv:Nat),
 ∀x6:Bool,x6=((n:Int)==1)→
 split x6 (
  ∃J:Value→Prop,(
   J (.func (.func 118) #[] #[(.pointer (some (Addr.mk gv 0 none)))]))∧∀(Nt:Nat→Value)(x4:Value),J x4→
  Q ⟨x4,none,[],[(.blk gv [(.pointer (some (Addr.mk g 0 none)))] 130)],[(.c 4 0,.p (.loc 0 0))]⟩) (
  ∀x9:Bool,x9=((n:Int)==2)→
  split x9 (
   ∃J:Value→Prop,(
    J (.func (.func 120) #[] #[(.pointer (some (Addr.mk gv 0 none)))]))∧∀(Nt:Nat→Value)(x4:Value),J x4→
   Q ⟨x4,none,[],[(.blk gv [(.pointer (some (Addr.mk g 0 none)))] 130)],[(.c 4 0,.p (.loc 0 0))]⟩) (
   ∀Nj:Bool,Nj=((n:Int)==3)→
   split Nj (
    ∃J:Value→Prop,(
     J (.func (.func 122) #[] #[(.pointer (some (Addr.mk gv 0 none)))]))∧∀(Nt:Nat→Value)(x4:Value),J x4→
    Q ⟨x4,none,[],[(.blk gv [(.pointer (some (Addr.mk g 0 none)))] 130)],[(.c 4 0,.p (.loc 0 0))]⟩) (
    ∀NQ:Bool,NQ=((n:Int)==4)→
    split NQ (
     ∃J:Value→Prop,(
      J (.func (.func 124) #[] #[(.pointer (some (Addr.mk gv 0 none)))]))∧∀(Nt:Nat→Value)(x4:Value),J x4→
     Q ⟨x4,none,[],[(.blk gv [(.pointer (some (Addr.mk g 0 none)))] 130)],[(.c 4 0,.p (.loc 0 0))]⟩) (
     ∀Po:Bool,Po=((n:Int)==5)→
     split Po (
      ∃J:Value→Prop,(
       J (.func (.func 126) #[(.pointer (some (Addr.mk g 0 none)))] #[]))∧∀(Nt:Nat→Value)(x4:Value),J x4→
      Q ⟨x4,none,[],[(.blk gv [(.pointer (some (Addr.mk g 0 none)))] 130)],[(.c 4 0,.p (.loc 0 0))]⟩) (
      ∀NI:Bool,NI=((n:Int)==6)→
      split NI (
       ∃J:Value→Prop,(
        J (.func (.func 127) #[(.pointer (some (Addr.mk g 0 none)))] #[]))∧∀(Nt:Nat→Value)(x4:Value),J x4→
       Q ⟨x4,none,[],[(.blk gv [(.pointer (some (Addr.mk g 0 none)))] 130)],[(.c 4 0,.p (.loc 0 0))]⟩) (
       ∀P8:Bool,P8=((n:Int)==7)→
       split P8 (
        ∃J:Value→Prop,(
         J (.func (.func 128) #[(.pointer (some (Addr.mk g 0 none)))] #[]))∧∀(Nt:Nat→Value)(x4:Value),J x4→
        Q ⟨x4,none,[],[(.blk gv [(.pointer (some (Addr.mk g 0 none)))] 130)],[(.c 4 0,.p (.loc 0 0))]⟩) (
        ∀Od:Bool,Od=((n:Int)==8)→
        split Od (
         ∃J:Value→Prop,(
          J (.func (.func 129) #[(.pointer (some (Addr.mk g 0 none)))] #[]))∧∀(Nt:Nat→Value)(x4:Value),J x4→
         Q ⟨x4,none,[],[(.blk gv [(.pointer (some (Addr.mk g 0 none)))] 130)],[(.c 4 0,.p (.loc 0 0))]⟩) (
         ∀Vl:Bool,Vl=((n:Int)==9)→
         split Vl (
          ∃J:Value→Prop,(
           J (.func (.func 130) #[(.pointer (some (Addr.mk g 0 none)))] #[]))∧∀(Nt:Nat→Value)(x4:Value),J x4→
          Q ⟨x4,none,[],[(.blk gv [(.pointer (some (Addr.mk g 0 none)))] 130)],[(.c 4 0,.p (.loc 0 0))]⟩) (
          ∀x38:Bool,x38=((n:Int)==10)→
          split x38 (
           ∃J:Value→Prop,(
            J (.func (.func 131) #[(.pointer (some (Addr.mk g 0 none)))] #[]))∧∀(Nt:Nat→Value)(x4:Value),J x4→
           Q ⟨x4,none,[],[(.blk gv [(.pointer (some (Addr.mk g 0 none)))] 130)],[(.c 4 0,.p (.loc 0 0))]⟩) (
           ∀Q8:Bool,Q8=((n:Int)==11)→
           split Q8 (
            ∃J:Value→Prop,(
             J (.func (.func 132) #[(.pointer (some (Addr.mk g 0 none)))] #[]))∧∀(Nt:Nat→Value)(x4:Value),J x4→
            Q ⟨x4,none,[],[(.blk gv [(.pointer (some (Addr.mk g 0 none)))] 130)],[(.c 4 0,.p (.loc 0 0))]⟩) (
            ∃J:Value→Prop,(
             J (.func (.func 133) #[] #[(.pointer (some (Addr.mk gv 0 none)))]))∧∀(Nt:Nat→Value)(x4:Value),J x4→
            Q ⟨x4,none,[],[(.blk gv [(.pointer (some (Addr.mk g 0 none)))] 130)],[(.c 4 0,.p (.loc 0 0))]⟩)))))))))))
theorem DF:Vc2 Un prog (aU []) [6,9,12,15,18,22,26,30,34,38,42] Tryz.f74 (.r' (.two (.r' (.two (.r' (.two (.two (.node [] (some ⟨[(4,(.one .val))],[],[4,8],[]⟩) [] [] .leaf .leaf) .leaf) (.r' (.two (.two (.node [] (some ⟨[(4,(.one .val))],[],[4,11],[]⟩) [] [] .leaf .leaf) .leaf) (.r' (.two (.two (.node [] (some ⟨[(4,(.one .val))],[],[4,14],[]⟩) [] [] .leaf .leaf) .leaf) (.r' (.two (.two (.node [] (some ⟨[(4,(.one .val))],[],[4,17],[]⟩) [] [] .leaf .leaf) .leaf) (.r' (.two (.two (.node [] (some ⟨[(4,(.one .val))],[],[4,20,21],[]⟩) [] [] .leaf .leaf) .leaf) (.r' (.two (.two (.node [] (some ⟨[(4,(.one .val))],[],[4,24,25],[]⟩) [] [] .leaf .leaf) .leaf) (.r' (.two (.two (.node [] (some ⟨[(4,(.one .val))],[],[4,28,29],[]⟩) [] [] .leaf .leaf) .leaf) (.r' (.two (.two (.node [] (some ⟨[(4,(.one .val))],[],[4,32,33],[]⟩) [] [] .leaf .leaf) .leaf) (.r' (.two (.two (.node [] (some ⟨[(4,(.one .val))],[],[4,36,37],[]⟩) [] [] .leaf .leaf) .leaf) (.r' (.two (.two (.node [] (some ⟨[(4,(.one .val))],[],[4,40,41],[]⟩) [] [] .leaf .leaf) .leaf) (.r' (.two (.two (.node [] (some ⟨[(4,(.one .val))],[],[4,44,45],[]⟩) [] [] .leaf .leaf) .leaf) .leaf)))))))))))))))))))))) .leaf)) (.two (.node [] (some ⟨[(4,(.one .val))],[],[4,46],[]⟩) [] [] .leaf .leaf) .leaf))) [4] lq=(∀n g r (E:Pd) rm (m:Mem) A c (l:List Ent),∀Q,(E.n=m.S∧l=E.aA∧∀(gb:Nat)(v:Value),v=cW g gb n→Q ⟨v,none,[],[(.blk gb [(.pointer (some (Addr.mk g 0 none)))] 130)],[(.c 4 0,.p (.loc 0 0))]⟩)→DE n g r E rm m A c l Q):=by kernel_rfl
theorem DD:LV Un prog 74 lq:=verify Tryz.func74 aj (tb:= []) trivial (by kernel_rfl) (DF.mpr fun n g r E rm m A c l Q h=>by
 obtain⟨NF,Nz,h⟩:=h
 subst Nz
 exact fun f1 f2 gv=>allEq<| aO (fun c1=>o7<| aL (h gv (.func (.func 118) #[] #[(.pointer (some (Addr.mk gv 0 none)))]) (by simp [cW,c1])) rfl rfl (ai (congrArg (fun l=>Res.blk (U:=Un) _ l _) rfl) rfl)) fun c1=>allEq<| aO (fun c2=>o7<| aL (h gv (.func (.func 120) #[] #[(.pointer (some (Addr.mk gv 0 none)))]) (by simp [cW,c1,c2])) rfl rfl (ai (congrArg (fun l=>Res.blk (U:=Un) _ l _) rfl) rfl)) fun c2=>allEq<| aO (fun c3=>o7<| aL (h gv (.func (.func 122) #[] #[(.pointer (some (Addr.mk gv 0 none)))]) (by simp [cW,c1,c2,c3])) rfl rfl (ai (congrArg (fun l=>Res.blk (U:=Un) _ l _) rfl) rfl)) fun c3=>allEq<| aO (fun c4=>o7<| aL (h gv (.func (.func 124) #[] #[(.pointer (some (Addr.mk gv 0 none)))]) (by simp [cW,c1,c2,c3,c4])) rfl rfl (ai (congrArg (fun l=>Res.blk (U:=Un) _ l _) rfl) rfl)) fun c4=>allEq<| aO (fun c5=>o7<| aL (h gv (.func (.func 126) #[(.pointer (some (Addr.mk g 0 none)))] #[]) (by simp [cW,c1,c2,c3,c4,c5])) rfl rfl (ai (congrArg (fun l=>Res.blk (U:=Un) _ l _) rfl) rfl)) fun c5=>allEq<| aO (fun c6=>o7<| aL (h gv (.func (.func 127) #[(.pointer (some (Addr.mk g 0 none)))] #[]) (by simp [cW,c1,c2,c3,c4,c5,c6])) rfl rfl (ai (congrArg (fun l=>Res.blk (U:=Un) _ l _) rfl) rfl)) fun c6=>allEq<| aO (fun c7=>o7<| aL (h gv (.func (.func 128) #[(.pointer (some (Addr.mk g 0 none)))] #[]) (by simp [cW,c1,c2,c3,c4,c5,c6,c7])) rfl rfl (ai (congrArg (fun l=>Res.blk (U:=Un) _ l _) rfl) rfl)) fun c7=>allEq<| aO (fun c8=>o7<| aL (h gv (.func (.func 129) #[(.pointer (some (Addr.mk g 0 none)))] #[]) (by simp [cW,c1,c2,c3,c4,c5,c6,c7,c8])) rfl rfl (ai (congrArg (fun l=>Res.blk (U:=Un) _ l _) rfl) rfl)) fun c8=>allEq<| aO (fun c9=>o7<| aL (h gv (.func (.func 130) #[(.pointer (some (Addr.mk g 0 none)))] #[]) (by simp [cW,c1,c2,c3,c4,c5,c6,c7,c8,c9])) rfl rfl (ai (congrArg (fun l=>Res.blk (U:=Un) _ l _) rfl) rfl)) fun c9=>allEq<| aO (fun SL=>o7<| aL (h gv (.func (.func 131) #[(.pointer (some (Addr.mk g 0 none)))] #[]) (by simp [cW,c1,c2,c3,c4,c5,c6,c7,c8,c9,SL])) rfl rfl (ai (congrArg (fun l=>Res.blk (U:=Un) _ l _) rfl) rfl)) fun SL=>allEq<| aO (fun Vb=>o7<| aL (h gv (.func (.func 132) #[(.pointer (some (Addr.mk g 0 none)))] #[]) (by simp [cW,c1,c2,c3,c4,c5,c6,c7,c8,c9,SL,Vb])) rfl rfl (ai (congrArg (fun l=>Res.blk (U:=Un) _ l _) rfl) rfl)) fun Vb=>o7<| aL (h gv (.func (.func 133) #[] #[(.pointer (some (Addr.mk gv 0 none)))]) (by simp [cW,c1,c2,c3,c4,c5,c6,c7,c8,c9,SL,Vb])) rfl rfl (ai (congrArg (fun l=>Res.blk (U:=Un) _ l _) rfl) rfl))
def jd:Ctr Un:=⟨[.one (.obj 0 0)],[],[.ob 1 [(1,1,0)],.ob 0 []],[],fun r E rm m K=>E.n=m.S∧K ⟨(.tuple #[(.int .i64 ((E.on m).broken.1)),(.int .i64 ((E.on m).broken.2))]),(some (.t [none,none])),[],[],[]⟩⟩
def DH(r:Nat→Nat)(E:Pd)(rm:Nat→Nat)(m:Mem)(Q:Ou Un→Prop):Prop:=
 Pd.Ok E→
 Mem.Wf m→
 E.n=m.S∧
 ∀(gv:Nat)(A:Option Addr)(c:Nat),
 ∀(l:List Ent),l=E.aA→
 ∃I:Nat→Int→Int→Int→Prop,(∃m1,I m1 0 0 0)∧∀(m1:Nat)(Nt:Nat→Value)(number:Int)(ay:Int)(Nf:Int),I m1 number ay Nf→
 split (decide (Nf<12)) (
  E.n=m.S∧
  l=E.aA∧
  ∀(gb:Nat)(v:Value),
  v=cW gv gb (i64.wrap (Nf+1))→
  ∃I1:Nat→Int→Int→Int→Prop,(∃m3,I1 m3 number ay 0)∧∀(m3:Nat)(Pw:Nat→Value)(number1:Int)(page1:Int)(NI:Int),I1 m3 number1 page1 NI→
  split (decide (NI<(E.aA.length:Int))) (
   ∃b:Bool,(
    (v=(.func (.func 118) #[] #[(.pointer (some (Addr.mk gb 0 none)))])∧
     E.n=m.S∧
     l=E.aA∧
     (E.on m).has NI=true∧
     ((.bool ((E.on m).clause 1 NI)):Value)=(.bool b))∨
    (v=(.func (.func 120) #[] #[(.pointer (some (Addr.mk gb 0 none)))])∧
     E.n=m.S∧
     l=E.aA∧
     (E.on m).has NI=true∧
     ((.bool ((E.on m).clause 2 NI)):Value)=(.bool b))∨
    (v=(.func (.func 122) #[] #[(.pointer (some (Addr.mk gb 0 none)))])∧
     E.n=m.S∧
     l=E.aA∧
     (E.on m).has NI=true∧
     ((.bool ((E.on m).clause 3 NI)):Value)=(.bool b))∨
    (v=(.func (.func 124) #[] #[(.pointer (some (Addr.mk gb 0 none)))])∧
     E.n=m.S∧
     l=E.aA∧
     (E.on m).has NI=true∧
     ((.bool ((E.on m).clause 4 NI)):Value)=(.bool b))∨
    (v=(.func (.func 126) #[(.pointer (some (Addr.mk gv 0 none)))] #[])∧
     E.n=m.S∧
     l=E.aA∧
     (E.on m).has NI=true∧
     ((.bool ((E.on m).clause 5 NI)):Value)=(.bool b))∨
    (v=(.func (.func 127) #[(.pointer (some (Addr.mk gv 0 none)))] #[])∧
     E.n=m.S∧
     l=E.aA∧
     (E.on m).has NI=true∧
     ((.bool ((E.on m).clause 6 NI)):Value)=(.bool b))∨
    (v=(.func (.func 128) #[(.pointer (some (Addr.mk gv 0 none)))] #[])∧
     E.n=m.S∧
     l=E.aA∧
     (E.on m).has NI=true∧
     ((.bool ((E.on m).clause 7 NI)):Value)=(.bool b))∨
    (v=(.func (.func 129) #[(.pointer (some (Addr.mk gv 0 none)))] #[])∧
     E.n=m.S∧
     l=E.aA∧
     (E.on m).has NI=true∧
     ((.bool ((E.on m).clause 8 NI)):Value)=(.bool b))∨
    (v=(.func (.func 130) #[(.pointer (some (Addr.mk gv 0 none)))] #[])∧
     E.n=m.S∧
     l=E.aA∧
     (E.on m).has NI=true∧
     ((.bool ((E.on m).clause 9 NI)):Value)=(.bool b))∨
    (v=(.func (.func 131) #[(.pointer (some (Addr.mk gv 0 none)))] #[])∧
     E.n=m.S∧
     l=E.aA∧
     (E.on m).has NI=true∧
     ((.bool ((E.on m).clause 10 NI)):Value)=(.bool b))∨
    (v=(.func (.func 132) #[(.pointer (some (Addr.mk gv 0 none)))] #[])∧
     E.n=m.S∧
     l=E.aA∧
     (E.on m).has NI=true∧
     ((.bool ((E.on m).clause 11 NI)):Value)=(.bool b))∨
    (v=(.func (.func 133) #[] #[(.pointer (some (Addr.mk gb 0 none)))])∧
     E.n=m.S∧
     l=E.aA∧
     (E.on m).has NI=true∧
     ((.bool ((E.on m).clause 12 NI)):Value)=(.bool b)))∧
   split (!b) (
    Q ⟨(.tuple #[(.int .i64 (i64.wrap (Nf+1))),(.int .i64 NI)]),(some (.t [none,none])),[],[],[]⟩) (
    ∃m4,m4<m3∧I1 m4 number1 page1 (i64.wrap (NI+1)))) (
   ∃m2,m2<m1∧I m2 number1 page1 (i64.wrap (Nf+1)))) (
  Q ⟨(.tuple #[(.int .i64 number),(.int .i64 ay)]),(some (.t [none,none])),[],[],[]⟩)
theorem DI:Vc2 Un prog ⟨Cq [(73,nm),(74,lq),(118,iC),(120,iB),(122,iA),(124,iz),(126,lr),(127,nk),(128,nq),(129,np),(130,pI),(131,ln),(132,lf),(133,iy)],.bool,[(118,[],[(.loc 4 0)]),(120,[],[(.loc 4 0)]),(122,[],[(.loc 4 0)]),(124,[],[(.loc 4 0)]),(126,[(.loc 2 0)],[]),(127,[(.loc 2 0)],[]),(128,[(.loc 2 0)],[]),(129,[(.loc 2 0)],[]),(130,[(.loc 2 0)],[]),(131,[(.loc 2 0)],[]),(132,[(.loc 2 0)],[]),(133,[],[(.loc 4 0)])]⟩ [] Tryz.f30 (.r' (.two (.r' (.r' (.two (.r' (.two (.node [] (some ⟨[(2,(.one (.int .i64))),(3,(.one (.int .i64))),(10,(.one (.int .i64)))],[],[2,3,5,6,7]++upN 10 24,[]⟩) [] [] (.r' (.r' (.two (.two (.r' (.r' (.r' (.two (.node [] (some ⟨[(2,(.one (.int .i64))),(3,(.one (.int .i64))),(22,(.one (.int .i64)))],[],[2,3,7]++upN 22 11,[]⟩) [] [] .leaf .leaf) .leaf)))) .leaf) .leaf))) .leaf) .leaf)) .leaf))) .leaf)) [] jd=(∀r (E:Pd) rm (m:Mem),∀Q,(jd.body r E rm m Q)→DH r E rm m Q):=by kernel_rfl
theorem DG:LV Un prog 30 jd:=verify Tryz.func30 aj (tb:= [(73,nm),(74,lq),(118,iC),(120,iB),(122,iA),(124,iz),(126,lr),(127,nk),(128,nq),(129,np),(130,pI),(131,ln),(132,lf),(133,iy)]) ⟨IZ,DD,yg,yd,ya,xX,DJ,GF,GO,GL,I5,Dz,Dw,xU,trivial⟩ (by kernel_rfl) (DI.mpr fun r E rm m Q h=>by
 obtain⟨NF,h⟩:=h
 exact fun f1 f2=>ak ‹_› fun s3 gv A c l P7=>⟨fun m1 number ay Nf=>(m1=(12 - Nf).toNat)∧(number=0∧ay=0)∧(0≤Nf∧Nf≤12)∧((E.on m).fC (13 - (Nf+1)).toNat (Nf+1)=(E.on m).broken),⟨_,rfl,(by omega),(by omega),(by rfl)⟩,fun m1 _ number ay Nf ⟨hm,hn,hc,hb⟩=>ax (fun c1=>ak ‹_› fun s4=>ak ‹_› fun s5 gb v f6=>(by(have hv:=(by assumption:v=cW gv gb (i64.wrap (Nf+1))));(rw [aq (x:=Nf+1) (by omega)]at hv);exact⟨fun m3 number1 page1 NI=>(m3=((E.n:Int) - NI).toNat)∧(number1=0∧page1=0)∧(0≤NI∧NI≤(E.n:Int))∧(ia ((E.on m).clause (Nf+1)) 0 NI=true),⟨_,rfl,‹_›,(by omega),(jc (Int.le_refl _))⟩,fun m3 _ number1 page1 NI ⟨hm,SF,VG,hz⟩=>ax (fun c2=>(by(have P0:(E.on m).has NI=true:=by grind);exact⟨((E.on m).clause (Nf+1) NI),(by rcases(show Nf+1=1∨Nf+1=2∨Nf+1=3∨Nf+1=4∨Nf+1=5∨Nf+1=6∨Nf+1=7∨Nf+1=8∨Nf+1=9∨Nf+1=10∨Nf+1=11∨Nf+1=12 from by omega)with hk | hk | hk | hk | hk | hk | hk | hk | hk | hk | hk | hk<;>first | exact .inl ⟨by rw [hv,hk];rfl,NF,P7,P0,by rw [hk]⟩ | exact .inr (.inl ⟨by rw [hv,hk];rfl,NF,P7,P0,by rw [hk]⟩) | exact .inr (.inr (.inl ⟨by rw [hv,hk];rfl,NF,P7,P0,by rw [hk]⟩)) | exact .inr (.inr (.inr (.inl ⟨by rw [hv,hk];rfl,NF,P7,P0,by rw [hk]⟩))) | exact .inr (.inr (.inr (.inr (.inl ⟨by rw [hv,hk];rfl,NF,P7,P0,by rw [hk]⟩)))) | exact .inr (.inr (.inr (.inr (.inr (.inl ⟨by rw [hv,hk];rfl,NF,P7,P0,by rw [hk]⟩))))) | exact .inr (.inr (.inr (.inr (.inr (.inr (.inl ⟨by rw [hv,hk];rfl,NF,P7,P0,by rw [hk]⟩)))))) | exact .inr (.inr (.inr (.inr (.inr (.inr (.inr (.inl ⟨by rw [hv,hk];rfl,NF,P7,P0,by rw [hk]⟩))))))) | exact .inr (.inr (.inr (.inr (.inr (.inr (.inr (.inr (.inl ⟨by rw [hv,hk];rfl,NF,P7,P0,by rw [hk]⟩)))))))) | exact .inr (.inr (.inr (.inr (.inr (.inr (.inr (.inr (.inr (.inl ⟨by rw [hv,hk];rfl,NF,P7,P0,by rw [hk]⟩))))))))) | exact .inr (.inr (.inr (.inr (.inr (.inr (.inr (.inr (.inr (.inr (.inl ⟨by rw [hv,hk];rfl,NF,P7,P0,by rw [hk]⟩)))))))))) | exact .inr (.inr (.inr (.inr (.inr (.inr (.inr (.inr (.inr (.inr (.inr (⟨by rw [hv,hk];rfl,NF,P7,P0,by rw [hk]⟩)))))))))))),cf (fun c3=>aL h (congrArg (fun l=>Value.tuple (List.toArray l)) (ai (bj (by(rw [aq (x:=Nf+1) (by omega),DB.qN ⟨by omega,by omega⟩ hb hz c3 ⟨VG.1,by grind⟩]))) (ai (bj (by(rw [DB.qN ⟨by omega,by omega⟩ hb hz c3 ⟨VG.1,by grind⟩]))) rfl))) rfl rfl) fun c3=>⟨_,(by(have h9:=aq (x:=NI+1) (by grind));grind),rfl,‹_›,(by(have h9:=aq (x:=NI+1) (by grind));grind),(fv hz (by grind) (aq (by grind)))⟩⟩)) fun c2=>⟨_,(by(have h8:=aq (x:=Nf+1) (by omega));omega),rfl,(SF),(by(have h8:=aq (x:=Nf+1) (by omega));omega),(by rw [aq (x:=Nf+1) (by omega)];exact DB.xG ⟨by omega,by omega⟩ hb (show NI=((E.on m).S:Int)by grind) hz)⟩⟩)) fun c1=>aL h (congrArg (fun l=>Value.tuple (List.toArray l)) (ai (bj (by rw [DB.oL (by omega) (by omega) hb];omega)) (ai (bj (by rw [DB.oL (by omega) (by omega) hb];omega)) rfl))) rfl rfl⟩)
end
section
set_option maxRecDepth 100000
set_option maxHeartbeats 1000000
attribute [local irreducible] Vc2 VcD
attribute [local grind=] Pd.cI Pd.cg Pd.iH Pd.iS Pd.gi Pd.eJ Pd.eY Pd.fw Pd.lB Pd.rY
attribute [local grind .] Pd.Ok.ent
attribute [local grind→] Pd.Ok.eg
def kD:Ctr Un:=⟨[.one (.obj 0 0)],[],[.ob 2 []],[],fun rm m K=>K ⟨(.int .i64 (m.S:Int)),none,[],[],[]⟩⟩
theorem yv:LV Un prog 81 kD:=by
 show ∀(rm:Nat→Nat)(m:Mem),∀Q:Ou Un→Prop,(Q ⟨(.int .i64 (m.S:Int)),none,[],[],[]⟩)→∀(X:Nat→Nat→Prop)(w:World),Sat (U:=Un) [(.ob 2 rm m)] X w→aE (U:=Un) [(.ob 2 rm m)] fr0 []→Calls prog 81 #[(.pointer (some (Addr.mk (rm 0) 0 none)))] w (bP (U:=Un) [(.ob 2 rm m)] [] X w Q)
 intro rm m Q hQ X w hs hl
 obtain⟨L,hX,hM⟩:=(hs.res 0 _ rfl:dI 2 rm m (X 0) w)
 refine(CF hM).mono ?_
 rintro e w' ⟨u,rfl,rfl,q⟩
 subst q
 exact bP.pu hs (Ch.refl _ _) hQ trivial
def og:Ctr Un:=⟨[.one (.obj 0 0)],[],[.ob 2 []],[0],fun rm m K=>∀(g:Nat)(A1:Option Addr)(c1:Nat),K ⟨(.pointer (some (Addr.mk g 0 none))),(some (.p (.loc 1 0))),[.ob 2 (m.cl m.S)],[(.blk g [(.pointer (some (Addr.mk (rm 0) 0 none))),(.slice A1 ((List.replicate m.S Ent.free).length) c1),(.int .i64 0)] 98),(.lst 4 true 157 A1 c1 (List.replicate m.S Ent.free))],[(.c 1 0,.p (.obj 0 0 0)),(.c 1 1,.p (.sl 2 0))]⟩⟩
def DV(rm:Nat→Nat)(m:Mem)(Q:Ou Un→Prop):Prop:=
 Mem.Wf m→
 (some (.pointer (some (Addr.mk (rm 0) 0 none))):Option Value)=some (.pointer (some (Addr.mk (rm 0) 0 none)))∧
 ∀(gv:Nat),
 ∀p:Int,p=0→
 ∃I:Nat→Int→Mem→Int→Option Addr→Nat→List Ent→Prop,(∃m1,I m1 p m 0 none 0 ([]:List Ent))∧∀(m1:Nat)(Nt:Nat→Value)(p1:Int)(s0:Mem)(RT:Int)(A2:Option Addr)(c2:Nat)(l2:List Ent),I m1 p1 s0 RT A2 c2 l2→
 Mem.Wf s0→
 split (decide (p1<s0.S)) (
  ∀(m3:Mem),m3=(s0.zero true p1)→
  Mem.Wf m3→
  ∀(NC:Nat),
  ∀(l:List Ent),l=([Ent.mk 0 0 0 0 false]:List Ent)→
  ((l2.length+l.length)*40≤140737488355328)∧
  ∀(A:Option Addr)(c:Nat),
  ∀(l1:List Ent),l1=(l2++l)→
  ∀p2:Int,p2=(i64.wrap (p1+1))→
  ∃m2,m2<m1∧I m2 p2 m3 RT A c l1) (
  Q ⟨(.pointer (some (Addr.mk gv 0 none))),(some (.p (.loc 1 0))),[.ob 2 s0],[(.blk gv [(.pointer (some (Addr.mk (rm 0) 0 none))),(.slice A2 l2.length c2),(.int .i64 RT)] 98),(.lst 4 true 157 A2 c2 l2)],[(.c 1 0,.p (.obj 0 0 0)),(.c 1 1,.p (.sl 2 0))]⟩)
theorem DW:Vc2 Un prog (aU [(81,kD),(83,eM),(82,oh)]) [4] Tryz.f39 (.r' (.r' (.r' (.two (.r' (.two (.node [(.c 1 1,4,157)] (some ⟨[(4,(.one (.int .i64)))],[],[4]++upN 10 20,[(0,(.ob 2)),(1,(.blk [(.k (.obj 0 0 0)),(.k (.sl 2 0)),(.v (.int .i64))])),(2,(.lst 4))]⟩) [] [] .leaf .leaf) .leaf)) .leaf)))) [1,2] og=(∀rm (m:Mem),∀Q,(og.body rm m Q)→DV rm m Q):=by kernel_rfl
theorem DU:LV Un prog 39 og:=verify Tryz.func39 aj (tb:= [(81,kD),(83,eM),(82,oh)]) ⟨yv,ry,DX,trivial⟩ (by kernel_rfl) (DW.mpr fun rm m Q h f1=>(by have hS:=f1.2.1;exact ak (by rfl) fun s2 gv=>allEq<| ⟨fun m1 p1 s0 RT A2 c2 l2=>(m1=((m.S:Int) - p1).toNat)∧(0≤p1∧p1≤(m.S:Int))∧(s0=m.cl p1.toNat)∧(RT=0)∧(l2=List.replicate p1.toNat Ent.free),⟨_,rfl,(by omega),(by rfl),(by rfl),(by rfl)⟩,fun m1 _ p1 s0 RT A2 c2 l2 ⟨hm,hi,hs,hy,hl⟩=>(by(have hsS:s0.S=m.S:=by rw [hs,Mem.jm]);exact fun f3=>ax (fun c1 m3 Np f4 NC l P7=>ak (by rw [P7,hl];simp;omega) fun s5 A c l1 OH=>allEq<| ⟨_,(by rw [aq (x:=p1+1) (by omega)];omega),rfl,(by rw [aq (x:=p1+1) (by omega)];omega),(by rw [Np,hs,Mem.pM _ (by omega)]),(hy),(by rw [OH,P7,hl,aq (x:=p1+1) (by omega),show(p1+1).toNat=p1.toNat+1 by omega,List.replicate_succ'])⟩) fun c1=>(by(have Sm:List.replicate m.S Ent.free=l2:=by rw [hl,show p1.toNat=m.S by omega]);(have hm3:m.cl m.S=s0:=by rw [hs,show p1.toNat=m.S by omega]);exact aL (h gv A2 c2) rfl (ai (uO2 ‹_›) rfl) (ai (congrArg (fun l=>Res.blk (U:=Un) _ l _) (ai rfl (ai (by grind) (ai (bj (by omega)) rfl)))) (ai (congrArg (Res.lst (U:=Un) 4 true 157 _ _) ‹_›) rfl))))⟩))
end
section
set_option maxRecDepth 100000
set_option maxHeartbeats 1000000
attribute [local irreducible] Vc2 VcD
theorem DB.wz(m:Mem):(DB.new m).pd.aA=List.replicate m.S Ent.free:=by
 show(List.range (DB.new m).S).map (fun _=>Ent.free)=_
 rw [DB.wB,List.map_const',List.length_range]
theorem DB.KM {m:Mem}(h:1≤m.S)(hS:m.S≤64):(DB.new m).pd.Ok:=⟨(DB.nV m h).ent,(DB.nV m h).aD,by show(DB.new m).S≤64;rw [DB.wB];exact hS⟩
def rv:Ctr Un:=⟨[.one (.obj 0 0)],[],[.ob 2 []],[0],fun rm m K=>1≤m.S∧∀(rN:Nat→Nat),K ⟨(.pointer (some (Addr.mk (rN 0) 0 none))),(some (.p (.obj 1 0 0))),[.ob 2 (m.cl m.S)],[(.ob 3 rN ((DB.new m).pd))],[(.l 1 1,.p (.obj 0 0 0))]⟩⟩
theorem G2:LV Un prog 39 rv:=by
 show ∀(rm:Nat→Nat)(m:Mem),∀Q:Ou Un→Prop,(1≤m.S∧∀(rN:Nat→Nat),Q ⟨(.pointer (some (Addr.mk (rN 0) 0 none))),(some (.p (.obj 1 0 0))),[.ob 2 (m.cl m.S)],[(.ob 3 rN ((DB.new m).pd))],[(.l 1 1,.p (.obj 0 0 0))]⟩)→∀(X:Nat→Nat→Prop)(w:World),Sat (U:=Un) [(.ob 2 rm m)] X w→aE (U:=Un) [(.ob 2 rm m)] fr0 []→Calls prog 39 #[(.pointer (some (Addr.mk (rm 0) 0 none)))] w (bP (U:=Un) [(.ob 2 rm m)] [0] X w Q)
 intro rm m Q hQ X w hs hl
 obtain⟨hS,hQ⟩:=hQ
 have hwf:Mem.Wf m:=Lh (t:=2) (r:=rm) (s:=m) (hs.res 0 _ rfl)
 have h1:=DU rm m (fun o=>∃(g:Nat)(A1:Option Addr)(c1:Nat),o=⟨(.pointer (some (Addr.mk g 0 none))),(some (.p (.loc 1 0))),[.ob 2 (m.cl m.S)],[(.blk g [(.pointer (some (Addr.mk (rm 0) 0 none))),(.slice A1 ((List.replicate m.S Ent.free).length) c1),(.int .i64 0)] 98),(.lst 4 true 157 A1 c1 (List.replicate m.S Ent.free))],[(.c 1 0,.p (.obj 0 0 0)),(.c 1 1,.p (.sl 2 0))]⟩) (fun g A1 c1=>⟨g,A1,c1,rfl⟩) X w hs hl
 refine h1.mono ?_
 rintro e w' ⟨out,rs',X',rfl,⟨g,A1,c1,rfl⟩,OU,hp⟩
 change bJ [Res.ob 2 rm m] [0] [.ob 2 (m.cl m.S)]=some rs' at OU
 have abL: [Res.ob (U:=Un) 2 rm (m.cl m.S)]=rs':=by simpa [bJ,cQ,nth,bR]using OU
 subst abL
 have hb1:RS (U:=Un) (X' 1) w' (.blk g [.pointer (some (Addr.mk (rm 0) 0 none)),.slice A1 (DB.new m).pd.aA.length c1,.int .i64 (DB.new m).pd.aD] 98):=by rw [DB.wz];exact hp.sat.res 1 _ rfl
 have RQ:RS (U:=Un) (X' 2) w' (.lst 4 true 157 A1 c1 (DB.new m).pd.aA):=by rw [DB.wz];exact hp.sat.res 2 _ rfl
 obtain⟨e,hob,hZ⟩:=Kw (E:=(DB.new m).pd) hb1 RQ (hp.sat.dis 1 2 (by simp) (by simp) (by omega)) (by show 1≤(DB.new m).S;rw [DB.wB];exact hS) (DB.KM hS hwf.2.1)
 exact bP.pack (k':=some (.p (.obj 1 0 0))) (kc':= [(.l 1 1,.p (.obj 0 0 0))]) OU hp hob (fun k hk=>hk.elim (fun e=>.inl (e▸hb1.1)) (fun e=>.inr (e▸hZ))) (hQ (fun i=>if i=0 then g else if i=1 then rm 0 else if i=2 then e else c1)) rfl (FF ⟨_,_,_,rfl,rfl⟩)
end
section
set_option maxRecDepth 100000
set_option maxHeartbeats 1000000
attribute [local irreducible] Vc2 VcD
def dY:Ctr Un:=⟨[.one (.int .i64)],[],[],[],fun n K=>K ⟨(.int .i64 n),none,[],[],[]⟩⟩
def Hj(n:Int)(Q:Ou Un→Prop):Prop:=
 Q ⟨(.int .i64 n),none,[],[],[]⟩
theorem Hk:Vc2 Un prog (aU []) [] Tryz.f34 .leaf [] dY=(∀n,∀Q,(dY.body n Q)→Hj n Q):=by kernel_rfl
theorem nD:LV Un prog 34 dY:=verify Tryz.func34 aj (tb:= []) trivial (by kernel_rfl) (Hk.mpr fun n Q h=>h)
def cT:Ctr Un:=⟨[.one (.int .i64)],[],[],[],fun p K=>K ⟨(.agg #[(.bool true),(.int .i64 p)]),none,[],[],[]⟩⟩
def yL(p:Int)(Q:Ou Un→Prop):Prop:=
 ∀(gv:Nat),
 Q ⟨(.agg #[(.bool true),(.int .i64 p)]),none,[],[],[]⟩
theorem yM:Vc2 Un prog (aU []) [] Tryz.f21 .leaf [] cT=(∀p,∀Q,(cT.body p Q)→yL p Q):=by kernel_rfl
theorem kI:LV Un prog 21 cT:=verify Tryz.func21 aj (tb:= []) trivial (by kernel_rfl) (yM.mpr fun p Q h gv=>h)
def jg:Ctr Un:=⟨[.one (.int .i64)],[],[],[],fun n K=>K ⟨(.int .i64 (sz n)),none,[],[],[]⟩⟩
def Ea(n:Int)(Q:Ou Un→Prop):Prop:=
 Q ⟨(.int .i64 (i64.wrap (((i64.wrap ((n.tmod 8)+8)).tmod 8)+1))),none,[],[],[]⟩
theorem Eb:Vc2 Un prog (aU []) [] Tryz.f36 .leaf [] jg=(∀n,∀Q,(jg.body n Q)→Ea n Q):=by kernel_rfl
theorem D9:LV Un prog 36 jg:=verify Tryz.func36 aj (tb:= []) trivial (by kernel_rfl) (Eb.mpr fun n Q h=>fk h (by have h1:=Int.lt_tmod_of_pos n (show(0:Int)<8 by decide);have h2:=Int.tmod_lt_of_pos n (show(0:Int)<8 by decide);have h3:=Int.tmod_lt_of_pos (Int.tmod n 8+8) (show(0:Int)<8 by decide);have h4:=Int.tmod_nonneg (a:=Int.tmod n 8+8) 8 (by omega);unfold sz;rw [aq (x:=Int.tmod n 8+8) (by omega),aq (by omega)]))
def eO:Ctr Un:=⟨[.one (.ptr 0),.one (.int .i64),.one (.int .i64),.one (.int .u32)],[],[.blk [.obj 2 0,.obj 1 0,.obj 3 0] 57,.ob 1 [(1,2,0)],.ob 0 [],.ob 3 [(1,4,0)],.ob 2 []],[2,4],fun p off v g r E rm m r2 F TU m2 K=>(0≤(v:Int)∧(v:Int)<4294967296)∧K ⟨(.bool (decide (m.err true p off=m2.err true p off))),none,[.ob 0 (m.write true p off v),.ob 2 (m2.write true p off v)],[],[]⟩⟩
def Ay(p:Int)(off:Int)(v:Int)(g:Nat)(r:Nat→Nat)(E:Pd)(rm:Nat→Nat)(m:Mem)(r2:Nat→Nat)(F:Pd)(TU:Nat→Nat)(m2:Mem)(Q:Ou Un→Prop):Prop:=
 Pd.Ok E→
 Mem.Wf m→
 Pd.Ok F→
 Mem.Wf m2→
 (0≤v∧v<4294967296)∧
 ∀(m1:Mem),m1=(m.write true p off v)→
 Mem.Wf m1→
 (0≤v∧v<4294967296)∧
 ∀(m3:Mem),m3=(m2.write true p off v)→
 Mem.Wf m3→
 Q ⟨(.bool ((m.err true p off)==(m2.err true p off))),none,[.ob 0 m1,.ob 2 m3],[],[]⟩
theorem Az:Vc2 Un prog (aU [(21,cT),(22,kG),(55,gY),(34,dY)]) [] Tryz.f52 (.r' (.two (.node [] none [] [(3,[0])] .leaf .leaf) .leaf)) [] eO=(∀p off v g r (E:Pd) rm (m:Mem) r2 (F:Pd) TU (m2:Mem),∀Q,(eO.body p off v g r E rm m r2 F TU m2 Q)→Ay p off v g r E rm m r2 F TU m2 Q):=by kernel_rfl
theorem rF:LV Un prog 52 eO:=verify Tryz.func52 aj (tb:= [(21,cT),(22,kG),(55,gY),(34,dY)]) ⟨kI,yC,rA,nD,trivial⟩ (by kernel_rfl) (Az.mpr fun p off v g r E rm m r2 F TU m2 Q h=>by
 obtain⟨NF,h⟩:=h
 exact fun f1 f2 f3 f4=>ak ‹_› fun s5 m1 Nq f6=>ak ‹_› fun s7 m3 Np f8=>aL h (eQb (by grind)) (ai (uO0 (by grind)) (ai (uO2 (by grind)) rfl)) rfl)
def g8:Ctr Un:=⟨[.one (.int .i64),.one (.int .i64)],[],[],[],fun n i K=>∀(g:Nat)(rP:Nat→Nat)(rN:Nat→Nat)(rQ:Nat→Nat)(rM:Nat→Nat),K ⟨(.pointer (some (Addr.mk g 0 none))),(some (.p (.loc 0 0))),[],[(.blk g [(.pointer (some (Addr.mk (rN 0) 0 none))),(.pointer (some (Addr.mk (rP 0) 0 none))),(.pointer (some (Addr.mk (rQ 0) 0 none)))] 57),(.ob 1 rP ((DB.begun n i).pd)),(.ob 0 rN ((DB.begun n i).mem)),(.ob 3 rQ ((DB.begun n i).pd)),(.ob 2 rM ((DB.begun n i).mem))],[(.c 0 0,.p (.obj 2 0 0)),(.c 0 1,.p (.obj 1 0 0)),(.c 0 2,.p (.obj 3 0 0)),(.l 3 1,.p (.obj 4 0 0)),(.l 1 1,.p (.obj 2 0 0))]⟩⟩
def AD(n:Int)(i:Int)(Q:Ou Un→Prop):Prop:=
 ((1≤(sz n)∧(sz n)≤64)∧(1≤(sz i)∧(sz i)≤64))∧
 ∀(rN:Nat→Nat),
 ∀(m:Mem),m=(Mem.fresh (sz n).toNat (sz i).toNat)→
 Mem.Wf m→
 ∃J:Bool→Prop,(
  J false)∧∀(OO:Nat→Value)(To:Bool),J To→
 split To (
  Q ⟨(.pointer none),none,[],[],[]⟩) (
  1≤m.S∧
  ∀(WV:Nat→Nat),
  ∀(m1:Mem),m1=(m.cl m.S)→
  Mem.Wf m1→
  ∀(E:Pd),E=(DB.new m).pd→
  Pd.Ok E→
  ((1≤(sz n)∧(sz n)≤64)∧(1≤(sz i)∧(sz i)≤64))∧
  ∀(rN2:Nat→Nat),
  ∀(m2:Mem),m2=(Mem.fresh (sz n).toNat (sz i).toNat)→
  Mem.Wf m2→
  1≤m2.S∧
  ∀(WU:Nat→Nat),
  ∀(m3:Mem),m3=(m2.cl m2.S)→
  Mem.Wf m3→
  ∀(E1:Pd),E1=(DB.new m2).pd→
  Pd.Ok E1→
  (some (.pointer (some (Addr.mk (rN 0) 0 none))):Option Value)=some (.pointer (some (Addr.mk (rN 0) 0 none)))∧
  (some (.pointer (some (Addr.mk (WV 0) 0 none))):Option Value)=some (.pointer (some (Addr.mk (WV 0) 0 none)))∧
  (some (.pointer (some (Addr.mk (WU 0) 0 none))):Option Value)=some (.pointer (some (Addr.mk (WU 0) 0 none)))∧
  ∀(Nd:Nat),
  Q ⟨(.pointer (some (Addr.mk Nd 0 none))),(some (.p (.loc 0 0))),[],[(.blk Nd [(.pointer (some (Addr.mk (rN 0) 0 none))),(.pointer (some (Addr.mk (WV 0) 0 none))),(.pointer (some (Addr.mk (WU 0) 0 none)))] 57),(.ob 1 WV E),(.ob 0 rN m1),(.ob 3 WU E1),(.ob 2 rN2 m3)],[(.c 0 0,.p (.obj 2 0 0)),(.c 0 1,.p (.obj 1 0 0)),(.c 0 2,.p (.obj 3 0 0)),(.l 3 1,.p (.obj 4 0 0)),(.l 1 1,.p (.obj 2 0 0))]⟩)
theorem AE:Vc2 Un prog (aU [(36,jg),(35,Av),(34,dY),(37,AO),(38,rD),(39,rv)]) [] Tryz.f7 (.r' (.r' (.two (.two (.node [] (some ⟨[(24,(.one .bool))],[],upN 18 7,[]⟩) [] [] .leaf .leaf) .leaf) .leaf))) [1000000,4,1,0,3,2] g8=(∀n i,∀Q,(g8.body n i Q)→AD n i Q):=by kernel_rfl
theorem AB:LV Un prog 7 g8:=verify Tryz.func7 aj (tb:= [(36,jg),(35,Av),(34,dY),(37,AO),(38,rD),(39,rv)]) ⟨D9,Lk,nD,Lm,G3,G2,trivial⟩ (by kernel_rfl) (AE.mpr fun n i Q h=>by
 have hz1:=EL n
 have hz2:=EL i
 exact ak (by omega) fun s1 rN m h_m f2=>bS false ((by grind))<| eV<| ak (by subst_vars;show 1≤(sz n).toNat;omega) fun s3 WV m1 Nq f4 E h_E f5=>ak (by omega) fun s6 rN2 m2 Q1 f7=>ak (by subst_vars;show 1≤(sz n).toNat;omega) fun s8 WU m3 Np f9 E1 NX f10=>ak (by rfl) fun OW=>ak (by rfl) fun Py=>ak (by rfl) fun NG Nd=>aL (h Nd WV rN WU rN2) rfl rfl (ai (congrArg (fun l=>Res.blk (U:=Un) _ l _) rfl) (ai (rO1 (by subst_vars;rfl)) (ai (rO0 (by subst_vars;rfl)) (ai (rO3 (by subst_vars;rfl)) (ai (rO2 (by subst_vars;rfl)) rfl))))))
def kJ:Ctr Un:=⟨[.one (.ptr 0),.agg [.int .i64,.int .i64,.int .i64,.int .i64,.int .u32,.any]],[],[.blk [.obj 2 0,.obj 1 0,.obj 3 0] 57,.ob 1 [(1,2,0)],.ob 0 [],.ob 3 [(1,4,0)],.ob 2 []],[1,2,3,4],fun k a b c v ws g r E rm m r2 F TU m2 K=>(k=1∨k=2∨k=5∨k=7)∧E.n=m.S∧E=F∧m=m2∧(0≤(v:Int)∧(v:Int)<4294967296)∧1≤m.S∧K ⟨(.bool true),none,[.ob 1 (((E.on m).act k a b c v).pd),.ob 0 (((E.on m).act k a b c v).mem),.ob 3 (((E.on m).act k a b c v).pd),.ob 2 (((E.on m).act k a b c v).mem)],[],[]⟩⟩
def Hm(k:Int)(a:Int)(b:Int)(c:Int)(v:Int)(ws:Value)(g:Nat)(r:Nat→Nat)(E:Pd)(rm:Nat→Nat)(m:Mem)(r2:Nat→Nat)(F:Pd)(TU:Nat→Nat)(m2:Mem)(Q:Ou Un→Prop):Prop:=
 Pd.Ok E→
 Mem.Wf m→
 Pd.Ok F→
 Mem.Wf m2→
 ∀(gv:Nat),
 ∀x7:Bool,x7=((k:Int)==1)→
 split x7 (
  E.n=m.S∧
  ∀(E1:Pd),E1=((E.on m).aG a b).pd→
  Pd.Ok E1→
  ∀(m1:Mem),m1=((E.on m).aG a b).mem→
  Mem.Wf m1→
  F.n=m2.S∧
  ∀(E2:Pd),E2=((F.on m2).aG a b).pd→
  Pd.Ok E2→
  ∀(m3:Mem),m3=((F.on m2).aG a b).mem→
  Mem.Wf m3→
  Q ⟨(.bool (((E.on m).aS a b)==((F.on m2).aS a b))),none,[.ob 1 E1,.ob 0 m1,.ob 3 E2,.ob 2 m3],[],[]⟩) (
  ∀Sf:Bool,Sf=((k:Int)==2)→
  split Sf (
   E.n=m.S∧
   ∀(E1:Pd),E1=((E.on m).take a b c).pd→
   Pd.Ok E1→
   ∀(m1:Mem),m1=((E.on m).take a b c).mem→
   Mem.Wf m1→
   F.n=m2.S∧
   ∀(E2:Pd),E2=((F.on m2).take a b c).pd→
   Pd.Ok E2→
   ∀(m3:Mem),m3=((F.on m2).take a b c).mem→
   Mem.Wf m3→
   Q ⟨(.bool (((E.on m).cB a b c)==((F.on m2).cB a b c))),none,[.ob 1 E1,.ob 0 m1,.ob 3 E2,.ob 2 m3],[],[]⟩) (
   ∀S5:Bool,S5=((k:Int)==3)→
   split S5 (
    False) (
    ∀XM:Bool,XM=((k:Int)==4)→
    split XM (
     False) (
     ∀x95:Bool,x95=((k:Int)==5)→
     split x95 (
      E.n=m.S∧
      ∀(E1:Pd),E1=((E.on m).setState a b).pd→
      Pd.Ok E1→
      ∀(m1:Mem),m1=((E.on m).setState a b).mem→
      Mem.Wf m1→
      F.n=m2.S∧
      ∀(E2:Pd),E2=((F.on m2).setState a b).pd→
      Pd.Ok E2→
      ∀(m3:Mem),m3=((F.on m2).setState a b).mem→
      Mem.Wf m3→
      Q ⟨(.bool (((E.on m).bH a b)==((F.on m2).bH a b))),none,[.ob 1 E1,.ob 0 m1,.ob 3 E2,.ob 2 m3],[],[]⟩) (
      ∀aaA:Bool,aaA=((k:Int)==6)→
      split aaA (
       False) (
       ∀aat:Bool,aat=((k:Int)==7)→
       split aat (
        (0≤v∧v<4294967296)∧
        ∀(m1:Mem),m1=(m.write true a b v)→
        Mem.Wf m1→
        ∀(m3:Mem),m3=(m2.write true a b v)→
        Mem.Wf m3→
        Q ⟨(.bool (decide (m.err true a b=m2.err true a b))),none,[.ob 1 E,.ob 0 m1,.ob 3 F,.ob 2 m3],[],[]⟩) (
        ∀aak:Bool,aak=((k:Int)==8)→
        split aak (
         False) (
         ∀aaj:Bool,aaj=((k:Int)==9)→
         split aaj (
          False) (
          Q ⟨(.bool true),none,[.ob 1 E,.ob 0 m,.ob 3 F,.ob 2 m2],[],[]⟩)))))))))
theorem Hn:Vc2 Un prog (aU [(40,jL),(34,dY),(41,dX),(42,vx),(43,je),(48,kN),(49,eB),(52,eO)]) [7,29,55,77,95,117,143,153,158] Tryz.f9 (.r' (.two (.r' (.two (.r' (.two (.two (.node [] none [] [(3,[0]),(5,[5]),(7,[5]),(13,[0]),(15,[5]),(17,[5])] .leaf .leaf) .leaf) (.r' (.two (.two (.node [] none [] [(3,[0]),(5,[5]),(7,[5]),(9,[5]),(15,[0]),(17,[5]),(19,[5]),(21,[5])] .leaf .leaf) .leaf) (.r' (.two (.two (.node [] none [] [(3,[0]),(5,[5]),(7,[5]),(13,[0]),(15,[5]),(17,[5])] .leaf .leaf) .leaf) (.r' (.two (.two (.node [] none [] [(3,[0]),(5,[5]),(11,[0]),(13,[5])] .leaf .leaf) .leaf) (.r' (.two (.two (.node [] none [] [(3,[0]),(5,[5]),(7,[5]),(13,[0]),(15,[5]),(17,[5])] .leaf .leaf) .leaf) (.r' (.two (.two (.node [] none [] [(3,[0]),(5,[5]),(7,[5]),(15,[0]),(17,[5]),(19,[5])] .leaf .leaf) .leaf) .leaf)))))))))))) .leaf)) .leaf)) [] kJ=(∀k a b c v ws g r (E:Pd) rm (m:Mem) r2 (F:Pd) TU (m2:Mem),∀Q,(kJ.body k a b c v ws g r E rm m r2 F TU m2 Q)→Hm k a b c v ws g r E rm m r2 F TU m2 Q):=by kernel_rfl
theorem Hl:LV Un prog 9 kJ:=verify Tryz.func9 aj (tb:= [(40,jL),(34,dY),(41,dX),(42,vx),(43,je),(48,kN),(49,eB),(52,eO)]) ⟨vy,nD,rp,Jz,DR,yT,sB,rF,trivial⟩ (by kernel_rfl) (Hn.mpr fun k a b c v ws g r E rm m r2 F TU m2 Q h=>by
 obtain⟨NF,Nz,NN,W5,hp4,hp5,h⟩:=h
 subst NN
 subst W5
 exact fun f1 f2 f3 f4 gv=>allEq<| aO (fun c1=>ak ‹_› fun s5 E1 NX f6 m1 Nq f7=>ak ‹_› fun s8 E2 Ob f9 m3 Np f10=>aL h (eQb (by(simp [c1,NX,Nq,Ob,Np,DB.act];done))) (ai (uO1 (by(simp [c1,NX,Nq,Ob,Np,DB.act];done))) (ai (uO0 (by(simp [c1,NX,Nq,Ob,Np,DB.act];done))) (ai (uO3 (by(simp [c1,NX,Nq,Ob,Np,DB.act];done))) (ai (uO2 (by(simp [c1,NX,Nq,Ob,Np,DB.act];done))) rfl)))) rfl) fun c1=>allEq<| aO (fun c2=>ak ‹_› fun OW E1 NX f12 m1 Nq f13=>ak ‹_› fun NJ E2 Ob f15 m3 Np f16=>aL h (eQb (by(simp [c1,c2,NX,Nq,Ob,Np,DB.act];done))) (ai (uO1 (by(simp [c1,c2,NX,Nq,Ob,Np,DB.act];done))) (ai (uO0 (by(simp [c1,c2,NX,Nq,Ob,Np,DB.act];done))) (ai (uO3 (by(simp [c1,c2,NX,Nq,Ob,Np,DB.act];done))) (ai (uO2 (by(simp [c1,c2,NX,Nq,Ob,Np,DB.act];done))) rfl)))) rfl) fun c2=>allEq<| aO (fun c3=>(by exfalso;omega)) fun c3=>allEq<| aO (fun c4=>(by exfalso;omega)) fun c4=>allEq<| aO (fun c5=>ak ‹_› fun s17 E1 NX f18 m1 Nq f19=>ak ‹_› fun s20 E2 Ob f21 m3 Np f22=>aL h (eQb (by(simp [c1,c2,c3,c4,c5,NX,Nq,Ob,Np,DB.act];done))) (ai (uO1 (by(simp [c1,c2,c3,c4,c5,NX,Nq,Ob,Np,DB.act];done))) (ai (uO0 (by(simp [c1,c2,c3,c4,c5,NX,Nq,Ob,Np,DB.act];done))) (ai (uO3 (by(simp [c1,c2,c3,c4,c5,NX,Nq,Ob,Np,DB.act];done))) (ai (uO2 (by(simp [c1,c2,c3,c4,c5,NX,Nq,Ob,Np,DB.act];done))) rfl)))) rfl) fun c5=>allEq<| aO (fun c6=>(by exfalso;omega)) fun c6=>allEq<| aO (fun c7=>ak ‹_› fun s23 m1 Nq f24 m3 Np f25=>aL h (eQb (by(simp [c1,c2,c3,c4,c5,c6,c7,Nq,Np,DB.act];done))) (ai (uO1 (by(simp [c1,c2,c3,c4,c5,c6,c7,Nq,Np,DB.act,DB.vI,DB.ui,Pd.eJ,Pd.gi _ _ Nz];done))) (ai (uO0 (by(simp [c1,c2,c3,c4,c5,c6,c7,Nq,Np,DB.act,DB.vI,DB.ui,Pd.eJ,Pd.gi _ _ Nz];done))) (ai (uO3 (by(simp [c1,c2,c3,c4,c5,c6,c7,Nq,Np,DB.act,DB.vI,DB.ui,Pd.eJ,Pd.gi _ _ Nz];done))) (ai (uO2 (by(simp [c1,c2,c3,c4,c5,c6,c7,Nq,Np,DB.act,DB.vI,DB.ui,Pd.eJ,Pd.gi _ _ Nz];done))) rfl)))) rfl) fun c7=>allEq<| aO (fun c8=>(by exfalso;omega)) fun c8=>allEq<| aO (fun c9=>(by exfalso;omega)) fun c9=>aL h (eQb (by(exfalso;omega))) (ai (uO1 (by(exfalso;omega))) (ai (uO0 (by(exfalso;omega))) (ai (uO3 (by(exfalso;omega))) (ai (uO2 (by(exfalso;omega))) rfl)))) rfl)
end
section
set_option maxRecDepth 100000
set_option maxHeartbeats 1000000
attribute [local irreducible] Vc2 VcD
def kH:Ctr Un:=⟨[.agg [.int .u32,.int .u32,.int .u32,.int .u32,.int .u32,.int .u32,.int .u32,.int .u32]],[],[],[],fun q0 q1 q2 q3 q4 q5 q6 q7 K=>(∀x∈([q0,q1,q2,q3,q4,q5,q6,q7]:List Int),0≤x∧x<4294967296)∧∀(g:Nat)(rP:Nat→Nat)(rN:Nat→Nat)(rQ:Nat→Nat)(rM:Nat→Nat),K ⟨(.pointer (some (Addr.mk g 0 none))),(some (.p (.loc 0 0))),[],[(.blk g [(.pointer (some (Addr.mk (rN 0) 0 none))),(.pointer (some (Addr.mk (rP 0) 0 none))),(.pointer (some (Addr.mk (rQ 0) 0 none)))] 57),(.ob 1 rP ((DB.two [q0,q1,q2,q3,q4,q5,q6,q7]).pd)),(.ob 0 rN ((DB.two [q0,q1,q2,q3,q4,q5,q6,q7]).mem)),(.ob 3 rQ ((DB.two [q0,q1,q2,q3,q4,q5,q6,q7]).pd)),(.ob 2 rM ((DB.two [q0,q1,q2,q3,q4,q5,q6,q7]).mem))],[(.c 0 0,.p (.obj 2 0 0)),(.c 0 1,.p (.obj 1 0 0)),(.c 0 2,.p (.obj 3 0 0)),(.l 3 1,.p (.obj 4 0 0)),(.l 1 1,.p (.obj 2 0 0))]⟩⟩
def Hh(q0:Int)(q1:Int)(q2:Int)(q3:Int)(q4:Int)(q5:Int)(q6:Int)(q7:Int)(Q:Ou Un→Prop):Prop:=
 ∀(gv:Nat),
 ∀(s:List U32),s=([U32.mk q0,U32.mk q1,U32.mk q2,U32.mk q3,U32.mk q4,U32.mk q5,U32.mk q6,U32.mk q7]:List U32)→
 ∀(Nd:Nat)(rP:Nat→Nat)(rN:Nat→Nat)(rQ:Nat→Nat)(rM:Nat→Nat),
 ∀(E:Pd),E=(DB.begun 7 1).pd→
 Pd.Ok E→
 ∀(m:Mem),m=(DB.begun 7 1).mem→
 Mem.Wf m→
 ∀(E1:Pd),E1=(DB.begun 7 1).pd→
 Pd.Ok E1→
 ∀(m1:Mem),m1=(DB.begun 7 1).mem→
 Mem.Wf m1→
 ∀(NC:Nat),
 ∀(l:List bT),l=([bT.mk 1 6 7 0 0 none 0 0,bT.mk 5 6 2 0 0 none 0 0,bT.mk 1 0 1 0 0 none 0 0,bT.mk 2 2 4 0 0 none 0 0,bT.mk 7 1 0 0 513 none 0 0,bT.mk 2 3 5 0 0 none 0 0,bT.mk 7 2 1 0 775 none 0 0,bT.mk 7 2 2 0 261 none 0 0,bT.mk 2 4 6 0 0 none 0 0,bT.mk 2 5 2 0 0 none 0 0,bT.mk 5 0 2 0 0 none 0 0]:List bT)→
 ∀i:Int,i=0→
 ∃I:Nat→Int→Pd→Mem→Pd→Mem→Prop,(∃m2,I m2 i E m E1 m1)∧∀(m2:Nat)(Sc:Nat→Value)(i1:Int)(s2:Pd)(s3:Mem)(s4:Pd)(s5:Mem),I m2 i1 s2 s3 s4 s5→
 Pd.Ok s2→
 Mem.Wf s3→
 Pd.Ok s4→
 Mem.Wf s5→
 split (decide (i1<(11:Int))) (
  (0≤i1∧i1<(l.length:Int))∧
  (((l.getD i1.toNat (bT.mk 0 0 0 0 0 none 0 0)).k)=1∨((l.getD i1.toNat (bT.mk 0 0 0 0 0 none 0 0)).k)=2∨((l.getD i1.toNat (bT.mk 0 0 0 0 0 none 0 0)).k)=5∨((l.getD i1.toNat (bT.mk 0 0 0 0 0 none 0 0)).k)=7)∧
  s2.n=s3.S∧
  s2=s4∧
  s3=s5∧
  (0≤((l.getD i1.toNat (bT.mk 0 0 0 0 0 none 0 0)).v)∧((l.getD i1.toNat (bT.mk 0 0 0 0 0 none 0 0)).v)<4294967296)∧
  1≤s3.S∧
  ∀(E2:Pd),E2=((s2.on s3).act ((l.getD i1.toNat (bT.mk 0 0 0 0 0 none 0 0)).k) ((l.getD i1.toNat (bT.mk 0 0 0 0 0 none 0 0)).a) ((l.getD i1.toNat (bT.mk 0 0 0 0 0 none 0 0)).b) ((l.getD i1.toNat (bT.mk 0 0 0 0 0 none 0 0)).c) ((l.getD i1.toNat (bT.mk 0 0 0 0 0 none 0 0)).v)).pd→
  Pd.Ok E2→
  ∀(m4:Mem),m4=((s2.on s3).act ((l.getD i1.toNat (bT.mk 0 0 0 0 0 none 0 0)).k) ((l.getD i1.toNat (bT.mk 0 0 0 0 0 none 0 0)).a) ((l.getD i1.toNat (bT.mk 0 0 0 0 0 none 0 0)).b) ((l.getD i1.toNat (bT.mk 0 0 0 0 0 none 0 0)).c) ((l.getD i1.toNat (bT.mk 0 0 0 0 0 none 0 0)).v)).mem→
  Mem.Wf m4→
  ∀(E3:Pd),E3=((s2.on s3).act ((l.getD i1.toNat (bT.mk 0 0 0 0 0 none 0 0)).k) ((l.getD i1.toNat (bT.mk 0 0 0 0 0 none 0 0)).a) ((l.getD i1.toNat (bT.mk 0 0 0 0 0 none 0 0)).b) ((l.getD i1.toNat (bT.mk 0 0 0 0 0 none 0 0)).c) ((l.getD i1.toNat (bT.mk 0 0 0 0 0 none 0 0)).v)).pd→
  Pd.Ok E3→
  ∀(m5:Mem),m5=((s2.on s3).act ((l.getD i1.toNat (bT.mk 0 0 0 0 0 none 0 0)).k) ((l.getD i1.toNat (bT.mk 0 0 0 0 0 none 0 0)).a) ((l.getD i1.toNat (bT.mk 0 0 0 0 0 none 0 0)).b) ((l.getD i1.toNat (bT.mk 0 0 0 0 0 none 0 0)).c) ((l.getD i1.toNat (bT.mk 0 0 0 0 0 none 0 0)).v)).mem→
  Mem.Wf m5→
  ∀i2:Int,i2=(i64.wrap (i1+1))→
  ∃m3,m3<m2∧I m3 i2 E2 m4 E3 m5) (
  ∀i2:Int,i2=0→
  ∃I1:Nat→Int→Mem→Mem→Prop,(∃m4,I1 m4 i2 s3 s5)∧∀(m4:Nat)(P4:Nat→Value)(i3:Int)(SB:Mem)(Vu:Mem),I1 m4 i3 SB Vu→
  Mem.Wf SB→
  Mem.Wf Vu→
  split (decide (i3<8)) (
   ((0≤i3∧i3<(s.length:Int))∧i3<(8:Int))∧
   (0≤((s.getD i3.toNat (U32.mk 0)).v)∧((s.getD i3.toNat (U32.mk 0)).v)<4294967296)∧
   ∀(m6:Mem),m6=(SB.write true 0 (i64.wrap (3+i3)) ((s.getD i3.toNat (U32.mk 0)).v))→
   Mem.Wf m6→
   ∀(m7:Mem),m7=(Vu.write true 0 (i64.wrap (3+i3)) ((s.getD i3.toNat (U32.mk 0)).v))→
   Mem.Wf m7→
   split (!(decide (SB.err true 0 (i64.wrap (3+i3))=Vu.err true 0 (i64.wrap (3+i3))))) (
    Q ⟨(.pointer none),none,[],[],[]⟩) (
    ∀i4:Int,i4=(i64.wrap (i3+1))→
    ∃m5,m5<m4∧I1 m5 i4 m6 m7)) (
   s2.n=SB.S∧
   split ((s2.on SB).broken.1 !=0) (
    Q ⟨(.pointer none),none,[],[],[]⟩) (
    Q ⟨(.pointer (some (Addr.mk Nd 0 none))),(some (.p (.loc 0 0))),[],[(.blk Nd [(.pointer (some (Addr.mk (rN 0) 0 none))),(.pointer (some (Addr.mk (rP 0) 0 none))),(.pointer (some (Addr.mk (rQ 0) 0 none)))] 57),(.ob 1 rP s2),(.ob 0 rN SB),(.ob 3 rQ s4),(.ob 2 rM Vu)],[(.c 0 0,.p (.obj 2 0 0)),(.c 0 1,.p (.obj 1 0 0)),(.c 0 2,.p (.obj 3 0 0)),(.l 3 1,.p (.obj 4 0 0)),(.l 1 1,.p (.obj 2 0 0))]⟩)))
theorem Hi:Vc2 Un prog (aU [(7,g8),(9,kJ),(52,eO),(30,jd)]) [5,6] Tryz.f17 (.r' (.r' (.r' (.r' (.two (.r' (.two (.node [] (some ⟨[(5,(.one (.int .i64)))],[],[2,5]++upN 24 13,[(2,(.ob 1)),(3,(.ob 0)),(4,(.ob 3)),(5,(.ob 2))]⟩) [] [] .leaf .leaf) .leaf)) (.two (.r' (.two (.node [] (some ⟨[(6,(.one (.int .i64)))],[],[2,6]++upN 37 12,[(3,(.ob 0)),(5,(.ob 2))]⟩) [] [] .leaf .leaf) .leaf)) .leaf)))))) [1000000,1,2,3,4,5] kH=(∀q0 q1 q2 q3 q4 q5 q6 q7,∀Q,(kH.body q0 q1 q2 q3 q4 q5 q6 q7 Q)→Hh q0 q1 q2 q3 q4 q5 q6 q7 Q):=by kernel_rfl
theorem Hg:LV Un prog 17 kH:=verify Tryz.func17 aj (tb:= [(7,g8),(9,kJ),(52,eO),(30,jd)]) ⟨AB,Hl,rF,DG,trivial⟩ (by kernel_rfl) (Hi.mpr fun q0 q1 q2 q3 q4 q5 q6 q7 Q h=>by
 obtain⟨NF,h⟩:=h
 exact fun gv s OM Nd rP rN rQ rM E h_E f1 m h_m f2 E1 NX f3 m1 Nq f4 NC l P7=>allEq<| ⟨fun m2 i1 s2 s3 s4 s5=>(m2=(11 - i1).toNat)∧(0≤i1∧i1≤11)∧(s2=(DB.jX i1.toNat).pd)∧(s3=(DB.jX i1.toNat).mem)∧(s4=s2)∧(s5=s3),⟨_,rfl,(by omega),(by rw [h_E];rfl),(by rw [h_m];rfl),(by rw [h_E,NX]),(by rw [h_m,Nq])⟩,fun m2 _ i1 s2 s3 s4 s5 ⟨hm,hi,hEa,hMa,hFa,hNa⟩=>(by have Ud:l=iD:=P7;clear P7;(have hon:s2.on s3=DB.jX i1.toNat:=by rw [hEa,hMa,DB.tl]);(have Qj:=fun h=>DB.Cp (i:=i1) h);exact fun f5 f6 f7 f8=>ax (fun c1=>ak (by rw [Ud];exact⟨hi.1,by show i1<11;omega⟩) fun s9=>ak (by rw [Ud];exact(Bc i1 ⟨hi.1,by omega⟩).1) fun QE=>ak (by subst_vars;rfl) fun OW=>ak (hFa.symm) fun Py=>ak (hNa.symm) fun NG=>ak (by rw [Ud];exact(Bc i1 ⟨hi.1,by omega⟩).2) fun NJ=>ak (by rw [hMa,DB.Kf];decide) fun Qx E2 Ob f16 m4 Q0 f17 E3 WE f18 m5 WD f19=>allEq<| ⟨_,(by(have h8:=aq (x:=i1+1) (by omega));omega),rfl,(by(have h8:=aq (x:=i1+1) (by omega));omega),(by rw [Ob,hon,Qj ⟨hi.1,by omega⟩,Ud]),(by rw [Q0,hon,Qj ⟨hi.1,by omega⟩,Ud]),(by rw [Ob,WE]),(by rw [Q0,WD])⟩) fun c1=>allEq<| ⟨fun m4 i3 SB Vu=>(m4=(8 - i3).toNat)∧(0≤i3∧i3≤8)∧(SB=((DB.jX 11).wrs 0 3 (([q0,q1,q2,q3,q4,q5,q6,q7]:List Int).take i3.toNat)).mem)∧(Vu=SB),⟨_,rfl,(by omega),(by(have e:=show i1.toNat=11 by omega);rw [hMa,e];rfl),‹_›⟩,fun m4 _ i3 SB Vu ⟨hm,SG,hM,hN⟩=>fun f20 f21=>ax (fun c2=>ak (by rw [OM];exact⟨⟨SG.1,by show i3<8;omega⟩,by omega⟩) fun s22=>ak (by rw [OM];exact Kg NF ⟨SG.1,by omega⟩) fun s23 m6 abS f24 m7 ad1 f25=>zs (fun c3=>(by exfalso;simp [hN]at c3)) fun c3=>allEq<| ⟨_,(by(have h8:=aq (x:=i3+1) (by omega));omega),rfl,(by(have h8:=aq (x:=i3+1) (by omega));omega),(by rw [DB.EH rfl ⟨SG.1,by omega⟩,abS,hM,OM,Kh ⟨SG.1,by omega⟩];rfl),(by rw [abS,ad1,hN])⟩) fun c2=>ak (by have e:i1.toNat=11:=(by omega);rw [hM,hEa,e];exact(DB.MA _).symm) fun s26=>aV (fun c4=>(by exfalso;have e:i1.toNat=11:=(by omega);have e3:i3.toNat=8:=(by omega);rw [DB.Lu (by rw [hEa,e]) (by rw [hM,e3];rfl),DB.Kd rfl]at c4;exact c4 rfl)) fun c4=>(by(have e:=show i1.toNat=11 by omega);(have e3:=show i3.toNat=8 by omega);(have hP:s2=(DB.two [q0,q1,q2,q3,q4,q5,q6,q7]).pd:=by rw [hEa,e,DB.uw]);(have hR:SB=(DB.two [q0,q1,q2,q3,q4,q5,q6,q7]).mem:=by rw [hM,e3];rfl);rw [hP]at hFa;rw [hR]at hN;exact aL (h Nd rP rN rQ rM) rfl rfl (ai (congrArg (fun l=>Res.blk (U:=Un) _ l _) rfl) (ai (rO1 (by(symm;assumption))) (ai (rO0 (by(symm;assumption))) (ai (rO3 (by(symm;assumption))) (ai (rO2 (by(symm;assumption))) rfl))))))⟩)⟩)
end
end Go.Proofs.YtfmcaoaaiganbaaGreatDoor
