/- Chapter 17, BuildValid: behind every call of every script the state is valid. -/
import Derived.Test.YtinhphjfnedhgaaGreatDoorK3
import Derived.ProofKit
import Derived.SizedLaws
import Derived.OpenShut
import Derived.LaidMore
import Derived.MakeChecks
import Derived.Handed
import Derived.Deep.SlicePairs
import Derived.KernelRfl
import Derived.RecoverIn
import Derived.Test.YtinhphjfnedhgaaGreatDoorProg
import Derived.Tactics
import Derived.Tactics2
import Derived.Laws.Pointers
import Derived.TacticsInMore
set_option linter.unusedVariables false
set_option linter.unusedSimpArgs false
namespace Go.Proofs.YtinhphjfnedhgaaGreatDoor
open Go.Proofs.Tryz (prog)
open Go Go.RowKit V
open Go.IntKind (i64 u32 u64)
def yg(w:Int):Bool:=decide (w % 256=1∧w / 256<64)
def aH(w:Int):Int:=if yg w then w / 256 else 0
def iP(w:Int):Int:=if w=0 then 92 else if yg w then 0 else 90
def bS(p:Int):Int:=if 0≤p∧p<64 then 256*p+1 else 0
def eL(p:Int):Int:=if 0≤p∧p<64 then 0 else 4
structure Mp where
 cF:Bool
 aj:Int
 write:Bool
 exec:Bool
deriving DecidableEq
def Mp.bits(m:Mp):Int:=(if m.cF then 2 else 0)+(if m.write then 4 else 0)+(if m.exec then 8 else 0)
def Mp.err(m:Mp):Int:=if 0≤m.aj∧m.aj<64 then(if m.exec && !m.cF then 1 else 0)else 4
def Mp.word(m:Mp):Int:=if m.err=0 then 256*m.aj+1+m.bits else 0
abbrev Mp.nil:Mp:=⟨false,0,false,false⟩
def Mp.uY(w:Int):Mp:=⟨decide (w / 2 % 2=1),w / 256,decide (w / 4 % 2=1),decide (w / 8 % 2=1)⟩
def sx(w:Int):Bool:=decide ((Mp.uY w).err=0∧(Mp.uY w).word=w)
def bY(w:Int):Mp:=if w≠0∧sx w then Mp.uY w else Mp.nil
def hY(w:Int):Int:=if w=0 then 92 else if sx w then 0 else 90
theorem Gw {p:Int}(h:0≤p∧p<64):u32.wrap (BitVec.ofInt u32.bits (u32.wrap ((u32.wrap p:Int)*2 ^ 8)) ||| BitVec.ofInt u32.bits 1).toNat=256*p+1:=by
 rw [dE (x:=p) (by omega),dE (x:=p*2 ^ 8) (by omega),pL (by omega) (by omega),show p*2 ^ 8=2 ^ 8*p by omega,gD 8 (by omega) (by omega) (by omega)];omega
theorem Br(k:Nat)(b:Int)(hb:b=2 ^ k)(hk:k≤3) {p a:Int}(h:0≤p∧p<64)(ha:0≤a∧a<b):u32.wrap (BitVec.ofInt u32.bits (256*p+a) ||| BitVec.ofInt u32.bits b).toNat=256*p+(a+b):=by
 subst hb
 have h3:(2:Int) ^ k≤2 ^ 3:=by exact_mod_cast Nat.pow_le_pow_right (n:=2) (by omega) hk
 have h4:(0:Int)<2 ^ k:=Int.pow_pos (by omega)
 have assoc:∀x y z:Int,nor (nor x y) z=nor x (nor y z):=by
  intro x y z;unfold nor;simp [Nat.or_assoc]
 have e1:nor (2 ^ k*1) a=2 ^ k*1+a:=gD k (by omega) ha.1 ha.2
 have e2:nor (2 ^ 8*p) a=2 ^ 8*p+a:=gD 8 h.1 ha.1 (by omega)
 have e3:nor (2 ^ 8*p) (2 ^ k+a)=2 ^ 8*p+(2 ^ k+a):=gD 8 h.1 (by omega) (by omega)
 rw [Int.mul_one]at e1
 rw [pL (by omega) (by omega),show 256*p+a=2 ^ 8*p+a by omega,← e2,assoc,oq a,e1,e3]
 omega
theorem eX(k:Nat)(b:Int)(hb:b=2 ^ k)(hk:k≤30) {x:Int}(hx:0≤x∧x<4294967296):((u32.wrap (BitVec.ofInt u32.bits x &&& BitVec.ofInt u32.bits b).toNat:Int) !=0)=decide (x / b % 2=1):=by
 subst hb
 rw [Bool.eq_iff_iff]
 simp only [bne_iff_ne,ne_eq,decide_eq_true_eq]
 show(¬u32.wrap (BitVec.ofInt u32.bits x &&& BitVec.ofInt u32.bits (2 ^ k)).toNat=0)↔x / 2 ^ k % 2=1
 have h3:(2:Int) ^ k≤2 ^ 30:=by exact_mod_cast Nat.pow_le_pow_right (n:=2) (by omega) hk
 have h4:(0:Int)<2 ^ k:=Int.pow_pos (by omega)
 rw [rF hx (by omega)]
 unfold Jn
 obtain⟨x,rfl⟩:=Int.eq_ofNat_of_zero_le hx.1
 have e:((2:Int) ^ k).toNat=2 ^ k:=by rw [show(2:Int) ^ k=((2 ^ k:Nat):Int)by push_cast;rfl,Int.toNat_natCast]
 rw [e,Int.toNat_natCast]
 have h5:x &&& 2 ^ k=if x.testBit k then 2 ^ k else 0:=by
  apply Nat.eq_of_testBit_eq
  intro j
  rw [Nat.testBit_and,Nat.testBit_two_pow]
  by_cases hj:k=j
  ·subst hj
   cases hb:x.testBit k<;>simp
  ·cases hb:x.testBit k<;>simp [hj,Nat.testBit_two_pow]
 have h6:x.testBit k=decide (x / 2 ^ k % 2=1):=Nat.testBit_eq_decide_div_mod_eq
 rw [h5,h6]
 have h7:((x:Int) / 2 ^ k % 2=1)↔(x / 2 ^ k % 2=1):=by
  rw [show(x:Int) / 2 ^ k % 2=((x / 2 ^ k % 2:Nat):Int)by push_cast;rfl]
  omega
 rw [h7]
 have h8:0<2 ^ k:=Nat.two_pow_pos k
 by_cases h9:x / 2 ^ k % 2=1
 ·simp [h9];omega
 ·simp [h9]
namespace File
def flags(f:Fl):Int:=if f.z then 1 else(if f.n then 2 else 0)+(if f.l then 4 else 0)
def g7(w:Int):Bool:=decide (w=0∨w=1∨w=2∨w=4∨w=6)
def gE(w:Int):Int:=if g7 w then 0 else 80
def ft(f:Fl)(w:Int):Fl:=if g7 w then {f with z:=decide (w=1),n:=decide (w=2∨w=6),l:=decide (w=4∨w=6)}else Fl.zero
def gi(l:List U32):Int:=if l.length=17 then gE (l.getD 16 ⟨0⟩).v else 80
def bare(l:List U32):Fl:=⟨l.take 15,(l.getD 15 ⟨0⟩).v,false,false,false⟩
def unpack(l:List U32):Fl:=if l.length=17 then ft (bare l) (l.getD 16 ⟨0⟩).v else Fl.zero
theorem yD {f:Fl} {w:Int}(h:g7 w=false):ft f w=Fl.zero:=by unfold ft;rw [h];rfl
theorem yF {w:Int}(h:g7 w=false):gE w=80:=by unfold gE;rw [h];rfl
theorem BE {f:Fl} {w:Int}(h:g7 w=true):ft f w= {f with z:=decide (w=1),n:=decide (w=2∨w=6),l:=decide (w=4∨w=6)}:=by unfold ft;rw [h];rfl
theorem BF {w:Int}(h:g7 w=true):gE w=0:=by unfold gE;rw [h];rfl
theorem qn {l:List U32}(h:l.length=17):unpack l=ft (bare l) (l.getD 16 ⟨0⟩).v∧gi l=gE (l.getD 16 ⟨0⟩).v:=⟨if_pos h,if_pos h⟩
theorem r3 {l:List U32}(h:¬l.length=17):unpack l=Fl.zero∧gi l=80:=⟨if_neg h,if_neg h⟩
theorem BD {l:List U32}(hw:∀x∈l,0≤x.v∧x.v<4294967296)(i:Nat):0≤(l.getD i ⟨0⟩).v∧(l.getD i ⟨0⟩).v<4294967296:=by
 rw [List.getD_eq_getElem?_getD]
 cases h:l[i]? with
 | none=>simp
 | some x=>exact hw x (List.mem_of_getElem? h)
theorem yE {w:Int}(h:0≤w∧w<4294967296):(if decide (w / 1 % 2=1)then(1:Int)else(if decide (w / 2 % 2=1)then 2 else 0)+(if decide (w / 4 % 2=1)then 4 else 0))=w↔g7 w=true:=by
 simp only [g7,decide_eq_true_eq]
 constructor
 ·intro h1;split at h1<;>(try split at h1)<;>(try split at h1)<;>omega
 ·intro h1;rcases h1 with rfl | rfl | rfl | rfl | rfl<;>decide
theorem Em {w:Int}(h:g7 w=true):decide (w / 1 % 2=1)=decide (w=1)∧decide (w / 2 % 2=1)=decide (w=2∨w=6)∧decide (w / 4 % 2=1)=decide (w=4∨w=6):=by
 simp only [g7,decide_eq_true_eq]at h
 rcases h with rfl | rfl | rfl | rfl | rfl<;>decide
def part(l:List U32)(i:Int):Fl:=⟨l.take i.toNat++List.replicate (15 - i.toNat) (U32.mk 0),0,false,false,false⟩
theorem bare_eq {l:List U32}(h:l.length=17):Fl.mk [U32.mk ((l.getD 0 (U32.mk 0)).v),U32.mk ((l.getD 1 (U32.mk 0)).v),U32.mk ((l.getD 2 (U32.mk 0)).v),U32.mk ((l.getD 3 (U32.mk 0)).v),U32.mk ((l.getD 4 (U32.mk 0)).v),U32.mk ((l.getD 5 (U32.mk 0)).v),U32.mk ((l.getD 6 (U32.mk 0)).v),U32.mk ((l.getD 7 (U32.mk 0)).v),U32.mk ((l.getD 8 (U32.mk 0)).v),U32.mk ((l.getD 9 (U32.mk 0)).v),U32.mk ((l.getD 10 (U32.mk 0)).v),U32.mk ((l.getD 11 (U32.mk 0)).v),U32.mk ((l.getD 12 (U32.mk 0)).v),U32.mk ((l.getD 13 (U32.mk 0)).v),U32.mk ((l.getD 14 (U32.mk 0)).v)] ((l.getD (Int.toNat 15) (U32.mk 0)).v) false false false=bare l:=by
 match l,h with
 | [_,_,_,_,_,_,_,_,_,_,_,_,_,_,_,_,_],_=>rfl
theorem sW {l:List U32}(h:l.length=17)(w:Int):(ft (bare l) w).Ok:=by
 unfold ft
 split
 ·show(l.take 15).length=15;rw [List.length_take];omega
 ·rfl
end File
def jE(f:Int→Bool)(lo hi:Int):Bool:=(List.range (hi - lo).toNat).all fun i=>f (lo+(i:Int))
theorem cP {f:Int→Bool} {lo hi:Int}:jE f lo hi=true↔∀x,lo≤x→x<hi→f x=true:=by
 unfold jE
 rw [List.all_eq_true]
 constructor
 ·intro h x h1 h2
  have:=h (x - lo).toNat (List.mem_range.2 (by omega))
  rwa [show lo+(((x - lo).toNat:Nat):Int)=x by omega]at this
 ·intro h i hi
  have:=List.mem_range.1 hi
  exact h _ (by omega) (by omega)
theorem lS {f:Int→Bool} {lo hi:Int}(h:hi≤lo):jE f lo hi=true:=cP.2 fun x h1 h2=>by omega
theorem gw {f:Int→Bool} {lo hi:Int}(h:jE f lo hi=true)(hf:f hi=true) {Ov:Int}(e:Ov=hi+1):jE f lo Ov=true:=
 cP.2 fun x h1 h2=>by
  by_cases hx:x=hi
  ·subst hx;exact hf
  ·exact cP.1 h x h1 (by omega)
theorem iV {f:Int→Bool} {lo hi x:Int}(h1:lo≤x)(h2:x<hi)(hf:f x=false):jE f lo hi=false:=by
 cases h:jE f lo hi
 ·rfl
 ·have:=cP.1 h x h1 h2
  rw [hf]at this
  exact this.symm
def dM(f:Int→Bool)(n:Int):Int:=(((List.range n.toNat).countP fun(i:Nat)=>f (i:Int):Nat):Int)
theorem Eu {f:Int→Bool}:dM f 0=0:=rfl
theorem et {f:Int→Bool} {n:Int}(h:0≤n):dM f (n+1)=dM f n+(if f n then 1 else 0):=by
 unfold dM
 rw [show(n+1).toNat=n.toNat+1 by omega,List.range_succ,List.countP_append,Int.natCast_add]
 congr 1
 rw [List.countP_cons,List.countP_nil,show((n.toNat:Nat):Int)=n by omega]
 cases f n<;>simp
theorem js {f:Int→Bool} {n:Int}:0≤dM f n:=by unfold dM;omega
theorem oH {f:Int→Bool} {n:Int}(h:0≤n):dM f n≤n:=by
 unfold dM
 have:=List.countP_le_length (p:=fun i=>f ((i:Nat):Int)) (l:=List.range n.toNat)
 rw [List.length_range]at this
 omega
theorem te {f g:Int→Bool} {n:Int}(h:∀x,0≤x→x<n→f x=g x):dM f n=dM g n:=by
 unfold dM
 congr 1
 apply List.countP_congr
 intro i hi
 have:=List.mem_range.1 hi
 rw [h _ (by omega) (by omega)]
namespace DB
def word(D:DB)(p o:Int):Int:=D.mem.aZ true p o
def zero(D:DB)(p lo hi:Int):Bool:=jE (fun o=>D.word p o==0) lo hi
def is(D:DB)(p t:Int):Bool:=D.has p && (D.at_ p).typ==t
def of(D:DB)(p t o:Int):Bool:=D.is p t && (D.at_ p).owner==o
def alive(D:DB)(p:Int):Bool:=D.is (D.at_ p).owner 1 && (D.at_ (D.at_ p).owner).state !=3
def some_(D:DB)(p lo:Int)(n:Nat):List U32:=(List.range n).map fun(i:Nat)=>⟨D.word p (lo+(i:Int))⟩
def ko(D:DB)(p:Int):Bool:=
 decide (D.word p 1<D.av) && decide (D.word p 2≤4096) && jE (fun q=>!((D.at_ q).typ==1 && D.word q 1==D.word p 1)) 0 p
def xK(D:DB)(p:Int):Bool:=Dg.ay (D.some_ p 11 26)==0 && D.zero p 3 11
def rV(D:DB)(p:Int):Bool:=
 D.zero p 37 1024 && (if(D.at_ p).state=1 then D.xK p else if(D.at_ p).state=2 then D.zero p 11 37 else D.xK p || D.zero p 11 37)
def rW(D:DB)(p:Int):Bool:=(D.at_ p).state==3 || (dM (fun q=>D.of q 3 p) D.S==1 && D.of (D.word p 0) 3 p)
def named(D:DB)(p:Int)(n q:Int):Int:=dM (fun i=>D.word p i !=0 && aH (D.word p i)==q) n
def kB(D:DB)(p i:Int):Bool:=D.word p i==0 || (iP (D.word p i)==0 && D.of (aH (D.word p i)) 4 (D.at_ p).owner)
def km(D:DB)(p:Int):Bool:=
 D.zero p 256 1024 && (jE (D.kB p) 0 256 && jE (fun q=>!(decide (D.named p 256 q>1) || (D.of q 4 (D.at_ p).owner && D.named p 256 q==0))) 0 D.S)
def kY(D:DB)(p j:Int):Bool:=
 D.word p j==0 || (hY (D.word p j)==0 && (if(bY (D.word p j)).cF then D.of (bY (D.word p j)).aj 5 (D.at_ p).owner else decide ((bY (D.word p j)).aj<D.mem.I)))
def uC(D:DB)(p:Int):Bool:=jE (D.kY p) 0 1024
def eC(D:DB)(p q j:Int):Bool:=hY (D.word q j)==0 && ((bY (D.word q j)).cF && (bY (D.word q j)).aj==p)
def mG(D:DB)(p n:Int):Int:=((List.range n.toNat).map fun(q:Nat)=>if D.of (q:Int) 4 (D.at_ p).owner then dM (D.eC p (q:Int)) 1024 else 0).sum
def uB(D:DB)(p:Int):Bool:=D.mG p D.S==1
def nR(D:DB)(p:Int):Bool:=
 D.zero p 18 1024 && (if(D.at_ p).bm then File.gi (D.some_ p 1 17)==0 && !(D.is (D.at_ p).owner 1 && (D.at_ (D.at_ p).owner).state==1)else D.zero p 1 18)
def clause(D:DB)(c p:Int):Bool:=
 let t:=(D.at_ p).typ
 if c=1 then t !=1 || (D.at_ p).owner==p
 else if c=2 then t !=0 || D.zero p 0 1024
 else if c=3 then t==1 || (t==0 || D.is (D.at_ p).owner 1)
 else if c=4 then t !=1 || (D.at_ p).refs==((D.eZ p D.S).length:Int)
 else if c=5 then t !=1 || D.ko p
 else if c=6 then t !=1 || D.rV p
 else if c=7 then t !=1 || D.rW p
 else if c=8 then t !=3 || (!D.alive p || D.km p)
 else if c=9 then t !=4 || (!D.alive p || D.uC p)
 else if c=10 then t !=5 || (!D.alive p || D.uB p)
 else if c=11 then t !=2 || D.nR p
 else t !=6 || D.zero p 0 1024
def pW(D:DB)(c:Int):Bool:=jE (D.clause c) 0 D.S
def wh(f:Int→Bool):Nat→Int→Int
 | 0,p=>p
 | n+1,p=>if f p then wh f n (p+1)else p
def gF(D:DB):Nat→Int→Int×Int
 | 0,_=>(0,0)
 | n+1,c=>if D.pW c then gF D n (c+1)else(c,wh (D.clause c) D.S 0)
def broken(D:DB):Int×Int:=D.gF 12 1
end DB
theorem DB.leastN_eq {f:Int→Bool}:∀ {n:Nat} {lo x:Int},jE f lo x=true→f x=false→lo≤x→x<lo+n→wh f n lo=x
 | 0,lo,x,_,_,h1,h2=>by omega
 | n+1,lo,x,h,hf,h1,h2=>by
  unfold wh
  by_cases hx:lo=x
  ·subst hx;rw [hf];rfl
  ·rw [if_pos (cP.1 h lo (by omega) (by omega))]
   exact leastN_eq (cP.2 fun y a b=>cP.1 h y (by omega) b) hf (by omega) (by omega)
theorem yW {f g:Int→Bool} {n:Int}(h0:0≤n)(h:∀x,0≤x→x<n→f x=true→g x=true):dM f n≤dM g n∧(dM f n=dM g n→∀x,0≤x→x<n→g x=true→f x=true):=by
 obtain⟨m,rfl⟩:=Int.eq_ofNat_of_zero_le h0
 induction m with
 | zero=>exact⟨Int.le_refl _,fun _ x a b=>by omega⟩
 | succ m ih=>
  have h1:=ih (by omega) (fun x a b=>h x a (by omega))
  have e1:=et (f:=f) (n:=(m:Int)) (by omega)
  have e2:=et (f:=g) (n:=(m:Int)) (by omega)
  have hm:=h (m:Int) (by omega) (by omega)
  rw [show((m+1:Nat):Int)=(m:Int)+1 by omega,e1,e2]
  cases hf:f (m:Int)<;>cases hg:g (m:Int)<;>simp only [hf,hg,if_true,Bool.false_eq_true,if_false]at hm ⊢
  ·refine⟨by omega,fun e x a b hx=>?_⟩
   by_cases hxm:x=m
   ·subst hxm;rw [hg]at hx;exact absurd hx (by simp)
   ·exact h1.2 (by omega) x a (by omega) hx
  ·exact⟨by omega,fun e=>by omega⟩
  ·exact absurd (hm trivial) (by simp)
  ·refine⟨by omega,fun e x a b hx=>?_⟩
   by_cases hxm:x=m
   ·subst hxm;exact hf
   ·exact h1.2 (by omega) x a (by omega) hx
theorem Lm(k:Nat)(b:Int)(hb:b=2 ^ k) {x:Int}(hx:0≤x)(h:x % (2*b)<b):nor x b=x+b:=by
 have Qz:b=((2 ^ k:Nat):Int):=by rw [hb];simp
 obtain⟨n,rfl⟩:=Int.eq_ofNat_of_zero_le hx
 rw [Qz]at h ⊢
 unfold nor
 have h2:n % (2*2 ^ k)<2 ^ k:=by exact_mod_cast h
 have e1:n=2 ^ (k+1)*(n / (2*2 ^ k))+n % (2*2 ^ k):=by
  rw [Nat.pow_succ,Nat.mul_comm (2 ^ k) 2];exact(Nat.div_add_mod n _).symm
 have Od:n % (2*2 ^ k)<2 ^ (k+1):=by rw [Nat.pow_succ];omega
 have Vw:2 ^ k+n % (2*2 ^ k)<2 ^ (k+1):=by rw [Nat.pow_succ];omega
 have e2:n ||| 2 ^ k=n+2 ^ k:=by
  generalize n % (2*2 ^ k)=r at *
  generalize n / (2*2 ^ k)=q at *
  have e3:(2 ^ k ||| r)=2 ^ k+r:=by
   have:=Nat.two_pow_add_eq_or_of_lt h2 1
   rw [Nat.mul_one]at this
   exact this.symm
  rw [e1,Nat.two_pow_add_eq_or_of_lt Od,Nat.or_assoc,Nat.or_comm r,e3,← Nat.two_pow_add_eq_or_of_lt Vw,← Nat.two_pow_add_eq_or_of_lt Od]
  omega
 simp only [Int.toNat_natCast]
 rw [e2]
 simp
theorem qw(k:Nat)(b:Int)(hb:b=2 ^ k)(hk:b<4294967296) {x:Int}(hx:0≤x∧x<4294967296)(h:x % (2*b)<b):u32.wrap (BitVec.ofInt u32.bits x ||| BitVec.ofInt u32.bits b).toNat=x+b:=by
 have h0:0≤b:=by rw [hb];exact Int.pow_nonneg (by omega)
 rw [pL hx ⟨h0,hk⟩,Lm k b hb hx.1 h]
theorem Dv {x:Int}(hx:0≤x∧x<4294967296):u32.wrap (BitVec.ofInt u32.bits x &&& ~~~(BitVec.ofInt u32.bits 4095)).toNat=x - x % 4096:=by
 obtain⟨n,rfl⟩:=Int.eq_ofNat_of_zero_le hx.1
 have hn:n<2 ^ 32:=by have:=hx.2;omega
 have e:(BitVec.ofInt u32.bits (n:Int) &&& ~~~(BitVec.ofInt u32.bits 4095)).toNat=2 ^ 12*(n / 2 ^ 12):=by
  rw [tj,BitVec.toNat_and,eJ (by omega) (by have:=hx.2;omega),show(~~~BitVec.ofInt 32 4095).toNat=2 ^ 12*(2 ^ 20 - 1)from by decide,Int.toNat_natCast]
  apply Nat.eq_of_testBit_eq
  intro i
  rw [Nat.testBit_and,Nat.testBit_two_pow_mul,Nat.testBit_two_pow_mul,Nat.testBit_two_pow_sub_one,Nat.testBit_div_two_pow]
  by_cases h1:12≤i
  ·by_cases h2:i<32
   ·simp [h1,show i - 12<20 by omega,show i - 12+12=i by omega,show 12+(i - 12)=i by omega]
   ·have h3:n.testBit i=false:=Nat.testBit_lt_two_pow (Nat.lt_of_lt_of_le hn (Nat.pow_le_pow_right (by omega) (by omega)))
    simp [h3,show i - 12+12=i by omega,show 12+(i - 12)=i by omega,h1]
  ·simp [h1]
 rw [e,dE]<;>omega
theorem Hw {x:Int}(hx:0≤x∧x<4294967296):u32.wrap (BitVec.ofInt u32.bits x &&& BitVec.ofInt u32.bits 1023).toNat=x % 1024:=by
 rw [rF hx (by omega)]
 exact pR 10 hx.1
theorem yi {m:Mem}(h:m.Wf)(s:Bool)(p o:Int):0≤m.aZ s p o∧m.aZ s p o<4294967296:=by
 unfold Mem.aZ
 split
 ·exact h.1 _ _ _
 ·omega
theorem sX(p:Int):0≤bS p∧bS p<4294967296:=by unfold bS;split<;>omega
theorem C9(p:Mp):0≤p.word∧p.word<4294967296:=by
 unfold Mp.word Mp.bits
 split
 ·rename_i h
  have hp:0≤p.aj∧p.aj<64:=by
   unfold Mp.err at h
   by_cases hp:0≤p.aj∧p.aj<64
   ·exact hp
   ·rw [if_neg hp]at h;omega
  split<;>split<;>split<;>omega
 ·omega
def jk(v:Int):Int:=if 1073741824≤v∨v % 4≠0 then 91 else 0
def vaI(v:Int):Int:=if jk v=0 then v / 4194304 else 0
def vaJ(v:Int):Int:=if jk v=0 then v / 4096 % 1024 else 0
def vaO(v:Int):Int:=if jk v=0 then v / 4 % 1024 else 0
def fQ(v:Int):Int:=if v % 4096≠0∨1073741824≤v then 91 else 0
def mgW(v:Int)(a b:Bool):Int:=if fQ v=0 then v+1+(if a then 2 else 0)+(if b then 4 else 0)else 0
def yl(w:Int):Bool:=decide (fQ (w - w % 4096)=0∧mgW (w - w % 4096) (decide (w / 2 % 2=1)) (decide (w / 4 % 2=1))=w)
def lE(w:Int):Int:=if yl w then 0 else 142
def cm(w:Int):Int:=if yl w then w - w % 4096 else 0
def paW(w:Int):Bool:=yl w && decide (w / 2 % 2=1)
def paX(w:Int):Bool:=yl w && decide (w / 4 % 2=1)
namespace DB
def cC(d:DB)(s:Int):Int:=
 if !d.has s then 5 else if(d.at_ s).typ≠1 then 124 else if(d.at_ s).state=3 then 3 else if d.of (d.word s 0) 3 s then 0 else 124
def tbl(d:DB)(s:Int):Int:=if d.cC s=0 then d.word s 0 else 0
def lV(d:DB)(s i q:Int):Int:=
 if d.cC s≠0 then d.cC s else if i<0∨256≤i then 4 else if !d.has q then 5 else if !d.of q 4 s then 124 else if d.word (d.tbl s) i≠0 then 140 else 0
def add(d:DB)(s i q:Int):DB:=if d.lV s i q=0 then d.aD (·.write true (d.tbl s) i (bS q))else d
def iK(d:DB)(s w:Int):Bool:=iP w==0 && d.of (aH w) 4 s
def eH(d:DB)(s va:Int):Int:=
 if d.cC s≠0 then d.cC s else if jk va≠0 then 91 else if d.iK s (d.word (d.tbl s) (vaI va))then 0 else 141
def plP(d:DB)(s va:Int):Int:=aH (d.word (d.tbl s) (vaI va))
def bB(d:DB)(s va:Int):Int:=if d.eH s va≠0 then d.eH s va else if d.word (d.plP s va) (vaJ va)≠0 then 140 else 0
def iN(d:DB)(s va:Int)(p:Mp):Int:=if d.bB s va≠0 then d.bB s va else p.err
def put(d:DB)(s va:Int)(p:Mp):DB:=if d.iN s va p=0 then d.aD (·.write true (d.plP s va) (vaJ va) p.word)else d
end DB
theorem sq {l:List Int} {i:Nat}:((l.map U32.mk).getD i (U32.mk 0)).v=l.getD i 0:=by
 rw [List.getD_eq_getElem?_getD,List.getD_eq_getElem?_getD,List.getElem?_map]
 cases l[i]? <;>rfl
theorem Dg.Bk {d:Dg}(h:d.Ok):∀x∈d.save,0≤x∧x<4294967296:=by
 intro x hx
 have h1:=h.n
 obtain⟨q1,q2,q3,q4,q5,q6,q7,q8⟩:=h.st
 simp only [save,List.mem_append,List.mem_cons,List.not_mem_nil,or_false,List.mem_map,List.mem_replicate]at hx
 rcases hx with(h | h | h | h | h | h | h | h | h | h) | ⟨y,hy,rfl⟩ | ⟨_,rfl⟩
 all_goals first
  | (subst h;omega)
  | exact h.words y hy
  | omega
namespace Mem
def wrs(m:Mem)(p:Int):Int→List Int→Mem
 | _,[]=>m
 | o,x::l=>(m.write true p o x).wrs p (o+1) l
theorem xE(p x:Int):∀(l:List Int)(m:Mem)(o:Int),m.wrs p o (l++ [x])=(m.wrs p o l).write true p (o+l.length) x
 | [],m,o=>by simp [wrs]
 | y::l,m,o=>by
  simp only [List.cons_append,wrs,List.length_cons]
  rw [xE p x l]
  congr 1;omega
@[simp] theorem ig(p:Int):∀(l:List Int)(m:Mem)(o:Int),(m.wrs p o l).S=m.S
 | [],_,_=>rfl
 | x::l,m,o=>by rw [wrs,ig p l,bh]
theorem xF {m:Mem} {a i:Int} {l:List Int}(hl:l.length=26)(hi:0≤i∧i<26):m.wrs a 11 (l.take (i64.wrap (i+1)).toNat)=(m.wrs a 11 (l.take i.toNat)).write true a (i64.wrap (11+i)) (l.getD i.toNat 0):=by
 have Od:i.toNat<l.length:=by omega
 rw [aq (x:=i+1) (by omega),aq (x:=11+i) (by omega),show(i+1).toNat=i.toNat+1 by omega,List.take_add_one,List.getElem?_eq_getElem Od,List.getD_eq_getElem?_getD,List.getElem?_eq_getElem Od]
 show m.wrs a 11 (l.take i.toNat++ [l[i.toNat]])=_
 rw [xE,List.length_take]
 congr 1
 omega
def dgW(m:Mem)(p:Int):List U32:=(List.range 26).map fun(i:Nat)=>U32.mk (m.aZ true p (11+(i:Int)))
theorem fV(m:Mem)(p:Int):(m.dgW p).length=26:=by rw [dgW,List.length_map,List.length_range]
theorem mI {m:Mem}(h:m.Wf)(p:Int):∀x∈m.dgW p,0≤x.v∧x.v<4294967296:=by
 intro x hx
 obtain⟨i,_,rfl⟩:=List.mem_map.1 hx
 exact yi h _ _ _
end Mem
namespace Dg
def IA(d:Dg):Prop:=d.Ok∧(d.n<16→d.st=S8.first)
theorem GJ:new.IA:=⟨nm,fun _=>rfl⟩
theorem yx {l:List U32}(h:ay l=0):l.length=26∧nOf l≤36028797018963968∧(nOf l<16→kq l=S8.first)∧∀x∈l.drop (10+(nOf l % 16).toNat),x.v=0:=by
 unfold ay at h
 split at h
 ·omega
 ·rename_i h1
  split at h
  ·omega
  ·rename_i h2
   split at h
   ·rename_i h3
    refine⟨by omega,by omega,fun hn=>?_,fun x hx=>by simpa using List.all_eq_true.1 h3 x hx⟩
    by_cases e:kq l=S8.first
    ·exact e
    ·exact absurd (.inr ⟨hn,e⟩) h2
   ·omega
theorem fE {l:List U32}(hw:∀x∈l,0≤x.v∧x.v<4294967296)(h:ay l=0):(load l).IA:=by
 obtain⟨hl,hn,hf,_⟩:=yx h
 have hr:∀i,i<26→0≤(l.getD i ⟨0⟩).v∧(l.getD i ⟨0⟩).v<4294967296:=fun i hi=>by
  rw [List.getD_eq_getElem?_getD,List.getElem?_eq_getElem (by omega)]
  exact hw _ (List.getElem_mem ..)
 have h0:0≤nOf l:=by unfold nOf;have h8:=hr 8 (by omega);have h9:=hr 9 (by omega);omega
 refine⟨⟨⟨h0,hn⟩,?_,⟨hr 0 (by omega),hr 1 (by omega),hr 2 (by omega),hr 3 (by omega),hr 4 (by omega),hr 5 (by omega),hr 6 (by omega),hr 7 (by omega)⟩,fun x hx=>hw x (List.mem_of_mem_drop (List.mem_of_mem_take hx))⟩,hf⟩
 show((l.drop 10).take (nOf l % 16).toNat).length=(nOf l % 16).toNat
 rw [List.length_take,List.length_drop]
 omega
theorem oO {K:List Int} {d:Dg} {l:List U32}(h:d.IA)(hl:∀x∈l,0≤x.v∧x.v<4294967296):(d.add K l).IA:=by
 refine⟨tw h.1 hl,fun hn=>?_⟩
 unfold add at hn ⊢
 split at hn
 ·rename_i hc;rw [if_pos hc];exact h.2 hn
 ·rename_i hc
  rw [if_neg hc]
  have h0:=h.1.n
  have hw:=h.1.len
  have hn:d.n+l.length<16:=hn
  show(eu K d.st (d.waits++l)).1=_
  rw [gQ (by rw [List.length_append];omega)]
  exact h.2 (by omega)
theorem uI {d:Dg}(h:d.IA):ay (d.save.map U32.mk)=0∧load (d.save.map U32.mk)=d:=by
 have h1:=h.1.n
 have h2:=h.1.len
 have hg:∀i,((d.save.map U32.mk).getD i ⟨0⟩).v=d.save.getD i 0:=fun i=>sq
 have e8:d.save.getD 8 0=d.n / 4294967296:=rfl
 have e9:d.save.getD 9 0=d.n % 4294967296:=rfl
 have hn:nOf (d.save.map U32.mk)=d.n:=by unfold nOf;rw [hg,hg,e8,e9];omega
 have hs:kq (d.save.map U32.mk)=d.st:=by unfold kq;simp only [hg];rfl
 have hd:(d.save.map U32.mk).drop 10=d.waits++List.replicate (16 - d.waits.length) (U32.mk 0):=by
  show((d.waits.map U32.v++List.replicate (16 - d.waits.length) 0).map U32.mk)=_
  rw [List.map_append,List.map_map,List.map_replicate]
  congr 1
  exact(List.map_congr_left fun x _=>rfl).trans (List.map_id _)
 refine⟨nr (by rw [List.length_map,iL h.1]) (by rw [hn,hs];rintro(h3 | ⟨h3,h4⟩);omega;exact h4 (h.2 h3)) fun i x hx=>?_,?_⟩
 ·rw [hn,← List.drop_drop,hd,← h2,List.drop_left]at hx
  rw [List.getElem?_replicate]at hx
  split at hx
  ·injection hx with hx;rw [← hx]
  ·cases hx
 ·unfold load
  rw [hn,hs,hd,← h2,List.take_left]
end Dg
abbrev fW(l:List U32):Prop:=∀x∈l,0≤x.v∧x.v<4294967296
def opW(k a:Int)(l:List U32):List U32:= [U32.mk k,U32.mk a]++l
theorem A2 {k a:Int}(ha:0≤a∧a<4294967296)(hk:k=1∨k=2∨k=4):fW [U32.mk (u32.wrap k),U32.mk a]:=by
 rw [dE (by omega)]
 intro x hx
 rcases List.mem_cons.1 hx with rfl | hx
 ·show 0≤k∧k<4294967296
  omega
 ·obtain rfl:=List.mem_singleton.1 hx
  exact ha
theorem DL {a:Int} {l:List U32}(ha:0≤a∧a<4294967296)(hl:fW l):fW ([U32.mk 3,U32.mk a]++l):=by
 intro x hx
 simp only [List.cons_append,List.nil_append,List.mem_cons]at hx
 rcases hx with rfl | rfl | hx
 ·exact⟨by decide,by decide⟩
 ·exact ha
 ·exact hl x hx
theorem Ea {k a:Int}(hk:k=1∨k=2∨k=4):opW k a []= [U32.mk (u32.wrap k),U32.mk a]:=by
 rw [dE (by omega)];rfl
namespace W26
abbrev Ok(x:W26):Prop:=fW x.n
def ws(x:W26):List Int:=x.n.map U32.v
theorem Mu(x:W26):x.n.length=26:=rfl
theorem F1(x:W26)(i:Nat):x.ws.getD i 0=(x.n.getD i (U32.mk 0)).v:=by
 rw [ws,List.getD_eq_getElem?_getD,List.getD_eq_getElem?_getD,List.getElem?_map]
 cases x.n[i]? <;>rfl
theorem K1 {x:W26}(h:x.Ok) {i:Nat}(hi:i<26):0≤x.ws.getD i 0∧x.ws.getD i 0<4294967296:=by
 rw [F1,List.getD_eq_getElem?_getD,List.getElem?_eq_getElem (by rw [Mu];exact hi)]
 exact h _ (List.getElem_mem ..)
theorem MW {l:List U32} {i:Int}(hi:0≤i∧i<26):(⟨W26.c (W26.mk l)⟩:Array Value)[i.toNat *1]? =some (.int .u32 (l.getD i.toNat (U32.mk 0)).v):=by
 have h0:(⟨W26.c (W26.mk l)⟩:Array Value)[i.toNat *1]? =(aG (fun j=>Value.int .u32 (l.getD j (U32.mk 0)).v) (upN 0 26))[i.toNat *1]? :=by simp [W26.c]
 rw [h0]
 obtain⟨j,hj⟩:=cr (l:=upN 0 26) (i:=i.toNat) (by rw [gA];omega)
 rw [Nat.mul_one,← aI,bk,hj]
 have:=jl hj
 rw [show j=i.toNat by omega];rfl
theorem jB(x:W26):x.ws.length=26:=rfl
end W26
theorem W26.Jo {l:List U32}(h:l.length=26):W26.n (W26.mk l)=l:=by
 apply List.ext_getElem?
 intro i
 show(aG _ _)[i]? =_
 rw [← aI,bk]
 cases hj:nth (upN 0 26) i with
 | none=>
  rw [List.getElem?_eq_none];rfl
  by_cases hi:i<26
  ·obtain⟨_,h8⟩:=cr (l:=upN 0 26) (i:=i) (by rw [gA];exact hi)
   rw [hj]at h8;cases h8
  ·omega
 | some j=>
  have h1:=jl hj
  have h2:=aX hj
  rw [gA]at h2
  have h3:j=i:=by omega
  subst h3
  show some (U32.mk (l.getD j (U32.mk 0)).v)=_
  rw [List.getD_eq_getElem?_getD,List.getElem?_eq_getElem (by omega)];rfl
theorem W26.nn {l:List U32}(h:l.length=26):W26.n (W26.mk (W26.n (W26.mk l)))=l:=by rw [W26.Jo h,W26.Jo h]
theorem W26.C6 {l:List U32}(h:l.length=26)(hl:fW l):W26.Ok (W26.mk (W26.n (W26.mk l))):=by
 show fW _
 rw [W26.nn h];exact hl
theorem Dg.svL_eq {d:Dg}(h:d.Ok):d.svL=d.save.map U32.mk:=by
 have e:d.svL=W26.n (W26.mk (d.save.map U32.mk)):=by
  show aG _ _=aG _ _
  congr 1
  funext j
  rw [sq]
 rw [e,W26.Jo (by rw [List.length_map,Dg.iL h])]
theorem Dg.Bc {d:Dg}(h:d.Ok):fW d.svL:=by
 rw [Dg.svL_eq h]
 intro x hx
 obtain⟨y,hy,rfl⟩:=List.mem_map.1 hx
 exact Dg.Bk h y hy
theorem Dg.Ga {d:Dg}(h:d.Ok):W26.ws (W26.mk (W26.n (W26.mk d.svL)))=d.save:=by
 show(W26.n _).map U32.v=_
 rw [W26.nn (by rfl),Dg.svL_eq h,List.map_map]
 exact(List.map_congr_left fun x _=>rfl).trans (List.map_id _)
namespace Mem
theorem Dm {m:Mem} {p:Int} {i:Nat}(hi:i<26):(m.dgW p)[i]? =some (U32.mk (m.aZ true p (11+(i:Int)))):=by
 unfold dgW
 rw [List.getElem?_map,List.getElem?_range hi];rfl
theorem yR {m:Mem} {p i:Int} {l:List U32}(hi:0≤i∧i<26)(h:l=(m.dgW p).take i.toNat++List.replicate (26 - i.toNat) (U32.mk 0)):l.set i.toNat (U32.mk (m.aZ true p (i64.wrap (11+i))))=(m.dgW p).take (i64.wrap (i+1)).toNat++List.replicate (26 - (i64.wrap (i+1)).toNat) (U32.mk 0):=by
 subst h
 rw [aq (x:=i+1) (by omega),aq (x:=11+i) (by omega),show(i+1).toNat=i.toNat+1 by omega,List.take_add_one,Dm (by omega),show(11+((i.toNat:Nat):Int))=11+i by omega,show 26 - i.toNat=(26 - (i.toNat+1))+1 by omega,List.replicate_succ]
 have hl:((m.dgW p).take i.toNat).length=i.toNat:=by rw [List.length_take,fV];omega
 rw [List.set_append,if_neg (by omega),hl,Nat.sub_self]
 simp
theorem Dn {m:Mem} {p i:Int}(hi:i=26):(m.dgW p).take i.toNat++List.replicate (26 - i.toNat) (U32.mk 0)=m.dgW p:=by
 subst hi
 show(m.dgW p).take 26++ []=_
 rw [List.append_nil,List.take_of_length_le (by rw [fV];omega)]
end Mem
theorem vW {k a:Int} {l:List U32}(ha:0≤a∧a<4294967296)(hk:k=1∨k=2∨k=3∨k=4)(hl:fW l):fW (opW k a l):=by
 intro x hx
 simp only [opW,List.cons_append,List.nil_append,List.mem_cons]at hx
 rcases hx with rfl | rfl | hx
 ·show 0≤k∧k<4294967296
  omega
 ·exact ha
 ·exact hl x hx
def Mem.msd(kk:List Int)(m:Mem)(p k a:Int)(l:List U32):Mem:=
 if Dg.ay (m.dgW p)=0 then m.wrs p 11 ((Dg.load (m.dgW p)).add kk (opW k a l)).save else m
theorem Mem.lH(kk:List Int)(m:Mem)(p k a:Int)(l:List U32):(m.msd kk p k a l).S=m.S:=by unfold Mem.msd;split<;>simp
theorem Sat.swap {U:Uni} {rs Oo:List (Res U)} {X:Nat→Nat→Prop} {w:World}(hl:Oo.length=rs.length)(hr:∀i b,nth Oo i=some b→∃a,nth rs i=some a∧∀X w,RS X w a→RS X w b)(h:Sat rs X w):Sat Oo X w:=
 ⟨fun i b hb=>by obtain⟨a,ha,Wi⟩:=hr i b hb;exact Wi _ _ (h.res i a ha),fun i j hi hj=>h.dis i j (by omega) (by omega)⟩
theorem aU.swap {U:Uni} {rs Oo:List (Res U)} {X:Nat→Nat→Prop} {w w':World} {Q Q':Ou U→Prop} {e:Ending}(hl:Oo.length=rs.length)(hr:∀i b,nth Oo i=some b→∃a,nth rs i=some a∧∀X w,RS X w a→RS X w b)
 (hQ:∀out,Q out→Q' out∧(KnO (rs++out.news) out.res out.kr→KnO (Oo++out.news) out.res out.kr)∧out.kc= [])(h:aU rs [] X w Q e w'):aU Oo [] X w Q' e w':=by
 obtain⟨out,rs',X',he,hq,Oq,hp⟩:=h
 obtain⟨h1,h2,h3⟩:=hQ out hq
 have hu:out.upd= []∧rs'=rs:=by
  cases hu:out.upd with
  | nil=>rw [hu]at Oq;simp only [bJ,Option.some.injEq]at Oq;exact⟨rfl,Oq.symm⟩
  | cons a l=>rw [hu]at Oq;cases Oq
 obtain⟨hu,rfl⟩:=hu
 have NV:∀i b,nth (Oo++out.news) i=some b→∃a,nth (rs'++out.news) i=some a∧∀X w,RS X w a→RS X w b:=by
  intro i b hb
  rw [bo]at hb ⊢
  rw [hl]at hb
  split at hb
  ·rename_i hi;rw [if_pos hi];exact hr i b hb
  ·rename_i hi;rw [if_neg hi];exact⟨b,hb,fun _ _ h=>h⟩
 refine⟨out,Oo,X',he,h1,by rw [hu];rfl,⟨Sat.swap (by simp [hl]) NV hp.sat,hp.ch,fun i hi=>hp.same i (by omega),hp.grow,fun i hi Wd=>hp.new i (by omega) (by omega),hp.kr.imp id h2,fun key k hk=>by rw [h3]at hk;cases hk⟩⟩
theorem CF {T:TypeId} {x:Wt} {r:Nat→Nat} {rest:List (Res Un)}:∀i b,nth (Res.ob 8 r x::rest) i=some b→∃a,nth (Res.lst 1 false T x.A x.c x.l::rest) i=some a∧∀X w,RS X w a→RS X w b
 | 0,b,h=>by
  simp only [nth,Option.some.injEq]at h
  subst h
  exact⟨_,rfl,fun _ _ h=>h⟩
 | i+1,b,h=>⟨b,h,fun _ _ h=>h⟩
theorem yv {T:TypeId} {x:Wt} {r:Nat→Nat} {rest:List (Res Un)}:∀i b,nth (Res.lst 1 false T x.A x.c x.l::rest) i=some b→∃a,nth (Res.ob 8 r x::rest) i=some a∧∀X w,RS X w a→RS X w b
 | 0,b,h=>by
  simp only [nth,Option.some.injEq]at h
  subst h
  exact⟨_,rfl,fun _ _ h=>h⟩
 | i+1,b,h=>⟨b,h,fun _ _ h=>h⟩
theorem sy {f:Nat→Int} {cs:Array Value}(hs:cs.size=1024)(h:∀o,o<1024→cs[o]? =some (.int .u32 (f o))):cs=bI ((List.range 1024).map f):=by
 apply Array.ext_getElem?
 intro i
 by_cases hi:i<1024
 ·rw [h i hi,eG (by simpa using hi),List.getD_eq_getElem?_getD,List.getElem?_map,List.getElem?_range hi];rfl
 ·rw [Array.getElem?_eq_none (by omega),Array.getElem?_eq_none (by simp;omega)]
structure zV(w:World)(a n:Nat)(pg:Nat→Nat)(f:Nat→Nat→Int):Prop where
 row:∃T cs,Blk w a cs T∧∀i,i<n→cs[i]? =some (ptr (pg i))
 pgs:∀i,i<n→g9 w (pg i) (f i)
theorem zV.pu {w w':World} {a n:Nat} {pg:Nat→Nat} {f:Nat→Nat→Int}(h:zV w a n pg f)(q:Pu w w'):zV w' a n pg f:=by
 obtain⟨⟨T,cs,hr,h2⟩,h3⟩:=h
 exact⟨⟨T,cs,q.blk hr,h2⟩,fun i hi=>(h3 i hi).pu q⟩
theorem cv.KM {w:World} {L:eQ} {m:Mem}(h:cv w L m)(s:Bool):zV w (L.row s) (m.cnt s) (L.pg s) (m.pg s):=⟨h.rows s,h.pgs s⟩
theorem KU {w:World} {a n:Nat} {pg:Nat→Nat} {f:Nat→Nat→Int}(h:zV w a n pg f)(hn:n≤64):
 Calls prog 122 #[.slice (some (Addr.mk a 0 none)) n n] w fun e w'=>∃v,e= .returned v∧∃g p,v= .slice (some (Addr.mk g 0 none)) n n∧jF w' g n n p f w.heap.size∧Pu w w':=by
 refine Ag _ _ _ ?_
 refine jq Gj (by omega) (by omega) (by omega) fun g w1 hM=>?_
 rw [Int.toNat_natCast]at hM ⊢
 refine⟨fun k x w'=>∃i:Nat,x=(i:Int)∧i≤n∧k=n - i∧(∃p,jF w' g n i p f w.heap.size)∧Pu w w',⟨n,0,rfl,by omega,by omega,⟨fun _=>0,⟨⟨_,_,hM.blk,by simp,by simp⟩,by simp,by simp,by simp,by rw [hM.num];exact Nat.le_refl _,by simp⟩⟩,hM.pu⟩,?_⟩
 rintro k _ x w2 ⟨i,rfl,hi,rfl,⟨p,hP⟩,RC⟩
 refine ab (fun hb=>?_) (fun hb=>?_)
 ·have Ov:i<n:=by simpa using hb
  have h2:=h.pu RC
  obtain⟨T0,VY,TZ,hc0⟩:=h2.row
  obtain⟨T1,cs1,hb1,Pn,hc1⟩:=h2.pgs i Ov
  refine⟨⟨by omega,by omega⟩,ao _ rfl ⟨some (Addr.mk (pg i) 0 none),by rw [Nat.mul_one,Int.toNat_natCast];exact TZ.at (hc0 i Ov),ao _ rfl ⟨cs1,⟨Pn,fun j u hj=>hb1.at hj⟩,?_⟩⟩⟩
  intro q w3 hq Sl
  have R7:=made hq Sl
  have abf:∀v∈cs1.toList,one? v True:=by rw [sy Pn hc1];exact oc
  refine⟨Pn,abf,gj R7.blk (by simpa using Pn) fun w4 hs4=>?_⟩
  have UA:g9 w4 q (f i):=⟨_,_,hs4.blk,by simpa using Pn,fun o ho=>by simpa using hc1 o ho⟩
  have hqn:w2.heap.size≤q:=by rw [R7.num];exact Nat.le_refl _
  have h24:Pu w2 w4:=(Ch.stored (X:=fun _=>False) (R7.pu) hs4 (.inr hqn))
  obtain⟨T,cs,hr,Of,Tf⟩:=hP.more (w2:=w4) h24 UA hqn Ov RC.size
  refine⟨⟨by omega,by omega⟩,ao _ rfl ?_⟩
  rw [Nat.mul_one,Int.toNat_natCast]
  refine bO hr Of fun w5 hs=>⟨n - (i+1),by omega,i+1,?_,Ov,rfl,⟨_,Tf _ hs⟩,?_⟩
  ·rw [aq (by omega)];omega
  ·have hg:w.heap.size≤g:=hP.low.1
   exact((RC.trans h24).mono (by simp):Ch (fun _=>False) w w4).stored hs (.inr hg)
 ·have:i=n:=by simp at hb;omega
  subst this
  exact⟨g,p,rfl,hP,RC⟩
theorem Bw {w:World} {L:eQ} {m:Mem}(h:cv w L m):
 Calls prog 51 #[ptr L.g] w fun e w'=>∃v,e= .returned v∧∃L':eQ,v=ptr L'.g∧cv w' L' m∧(∀k,L'.X k→w.heap.size≤k)∧Pu w w':=by
 refine xl _ ?_
 obtain⟨T,hd⟩:=h.hd
 have hD:Pu w w.drew:=Pu.bj w
 have hd1:=hD.blk hd
 refine⟨fun _ k=>k=L.g,ao _ rfl ⟨by rw [block_add],_,_,_,hd1.at rfl,ao _ rfl ⟨by rw [block_add],_,_,_,hd1.at rfl,ao _ rfl ⟨by rw [block_add],_,hd1.at rfl,?_⟩⟩⟩⟩
 refine(KU ((h.KM true).pu hD) h.dV.1).mono ?_
 rintro e w1 ⟨_,rfl,a,pa,rfl,hA,NQ⟩
 have We:L.g<w.drew.heap.size:=hd1.lt
 refine⟨_,_,_,rfl,NQ.eW (fun k hk=>by have:k=L.g:=(by simpa [cg]using hk);rw [this];exact We),fun _ k=>k=L.g,fun _ k hk=>hk,?_⟩
 refine(KU (((h.KM false).pu hD).pu NQ) h.dV.2).mono ?_
 rintro e w2 ⟨_,rfl,b,pb,rfl,hB,Oh⟩
 have h12:=Oh.size
 have h01:=NQ.size
 have h0:=hD.size
 refine⟨_,_,_,rfl,Oh.eW (fun k hk=>by have:k=L.g:=(by simpa [cg]using hk);rw [this];omega),fun _ k=>k=L.g,fun _ k hk=>hk,?_⟩
 intro g w3 hg Sl
 have hM:=made hg Sl
 refine⟨hM.kept.mono (fun k hk=>by have:k=L.g:=(by simpa [cg]using hk);rw [this];omega),fun _ k=>k=L.g,fun _ k hk=>hk,?_⟩
 have Z3:=(hA.pu Oh).pu hM.pu
 have ZZ:=hB.pu hM.pu
 have VK:∀j,j<m.S→pa j<w1.heap.size:=fun j hj=>(hA.pgs j hj).lt
 have Ot:a<w1.heap.size:=by obtain⟨T,cs,hr,_⟩:=hA.row;exact hr.lt
 have VJ:∀j,j<m.I→pb j<w2.heap.size:=fun j hj=>(hB.pgs j hj).lt
 have hbg:b<w2.heap.size:=by obtain⟨T,cs,hr,_⟩:=hB.row;exact hr.lt
 have hgn:=hM.num
 refine⟨⟨g,a,b,fun s=>match s with | true=>pa | false=>pb,fun s=>m.cnt s⟩,rfl,⟨fun s=>rfl,⟨(148,T.2),hM.blk⟩,fun s=>?_,fun s i hi=>?_,fun s i s' i' hi Ov e=>?_,⟨by show a≠g;omega,by show b≠g;omega,fun s i hi=>?_⟩,h.u32,h.dV⟩,?_,((hD.trans NQ).trans Oh).trans hM.pu⟩
 ·cases s
  ·obtain⟨T,cs,hr,_,h2⟩:=ZZ.row;exact⟨T,cs,hr,h2⟩
  ·obtain⟨T,cs,hr,_,h2⟩:=Z3.row;exact⟨T,cs,hr,h2⟩
 ·cases s
  ·exact ZZ.pgs i hi
  ·exact Z3.pgs i hi
 ·cases s<;>cases s'<;>simp only [Mem.cnt]at hi Ov<;>simp only at e
  ·exact⟨rfl,hB.inj _ _ hi Ov e⟩
  ·have:=hB.low.2 i hi;have:=VK i' Ov;omega
  ·have:=hB.low.2 i' Ov;have:=VK i hi;omega
  ·exact⟨rfl,hA.inj _ _ hi Ov e⟩
 ·cases s<;>simp only [Mem.cnt]at hi<;>simp only
  ·have:=hB.low.2 i hi;have:=VJ i hi;have:=hB.dis i hi
   refine⟨?_,?_,this⟩<;>omega
  ·have:=hA.low.2 i hi;have:=VK i hi;have h3:=hA.dis i hi;have:=hB.low.1
   refine⟨?_,h3,?_⟩<;>omega
 ·rintro k (rfl | rfl | rfl | ⟨s,i,hi,rfl⟩)
  ·omega
  ·have:=hA.low.1;omega
  ·have:=hB.low.1;omega
  ·cases s<;>simp only [Mem.cnt]at hi<;>simp only
   ·have:=hB.low.2 i hi;omega
   ·have:=hA.low.2 i hi;omega
def HB(n n':Nat)(f g:Nat→Nat→Int):Bool:=decide (n=n') && (List.range n).all fun i=>(List.range 1024).all fun o=>f i o==g i o
def Mem.same(m o:Mem):Bool:=HB m.S o.S (m.pg true) (o.pg true) && HB m.I o.I (m.pg false) (o.pg false)
section
namespace Mem
def rd(m:Mem)(s:Bool)(p o:Int):Mem:=if m.has s p && dU o then m.tick 1 else m
def td(m:Mem)(s:Bool)(p:Int)(s':Bool)(p':Int):Int:=if m.has s p && m.has s' p' then 0 else 5
def copy(m:Mem)(s:Bool)(p:Int)(s':Bool)(p':Int):Mem:=if m.has s p && m.has s' p' then(m.tick 2048).fill s p.toNat (m.pg s' p'.toNat)else m
def words(m:Mem)(s:Bool)(p:Nat):List U32:=(List.range 1024).map fun o=>U32.mk (m.pg s p o)
end Mem
section
variable {w:World} {L:eQ} {m:Mem}
theorem KS(h:cv w L m)(s:Bool)(p o:Int):
 Calls prog 92 #[ptr L.g,fr s p,.int .i64 o] w fun e w'=>∃v,e= .returned v∧v= .tuple #[.int .u32 (m.aZ s p o),.int .i64 (m.err s p o)]∧cv w' L (m.rd s p o)∧Ch L.X w w':=by
 refine z7 _ s p o ?_
 intro g1 w1 hg hw
 have hM:=made hg hw
 refine⟨_,_,⟨hM.blk.at rfl,hM.blk.at rfl⟩,(KR (h.pu hM.pu) s p o).mono ?_⟩
 rintro e w2 ⟨_,rfl,⟨hh,rfl,h2,hc⟩ | ⟨hh,rfl,he,hp⟩⟩
 ·refine⟨_,_,rfl,ab (fun hb=>by simp at hb) (fun _=>?_)⟩
  have SA:Ch L.X w w2:=((Ch.refl _ w).made hM).trans hc
  have hh':=hh
  simp only [Bool.and_eq_true]at hh
  have hi:=Mem.dO hh.1
  have ho:=Mem.iD hh.2
  obtain⟨T,cs,hr,Of,OP⟩:=h2.pgs s p.toNat (by simpa using hi)
  refine ao _ rfl ⟨_,hr.cell (OP _ (by omega)),?_,?_,SA⟩
  ·simp [Mem.aZ,Mem.err,hh.1,hh.2,Mem.tick]
  ·simpa [Mem.rd,hh']using h2
 ·refine⟨_,_,rfl,ab (fun _=>⟨?_,?_,(hM.pu.trans hp).mono (by simp)⟩) (fun hb=>absurd (by simpa using hb) he)⟩
  ·simp [Mem.aZ,hh]
  ·simpa [Mem.rd,hh]using (h.pu hM.pu).pu hp
theorem Mz(h:cv w L m)(s:Bool)(p:Int)(s':Bool)(p':Int):
 Calls prog 66 #[ptr L.g,fr s p,fr s' p'] w fun e w'=>∃v,e= .returned v∧v= .int .i64 (m.td s p s' p')∧cv w' L (m.copy s p s' p')∧Ch L.X w w':=by
 refine Ai _ s p s' p' ?_
 intro g1 w1 hg hw g2 w2 hg2 hw2
 have hM:=made hg hw
 have Tp:=made hg2 hw2
 have hD:Pu w w2.drew:=(hM.pu.trans Tp.pu).drew
 have l1:g1<w2.drew.heap.size:=by have:=hM.lt;have:=Tp.pu.size;exact Nat.lt_of_lt_of_le ‹_› ‹_›
 have l2:g2<w2.drew.heap.size:=Tp.lt
 refine⟨fun _ k=>k<w2.drew.heap.size,l1,_,_,⟨(Tp.old hM.blk).drew.at rfl,(Tp.old hM.blk).drew.at rfl⟩,l2,_,_,⟨Tp.blk.drew.at rfl,Tp.blk.drew.at rfl⟩,(mAt (h.pu hD) s p).mono ?_⟩
 rintro e w3 ⟨_,rfl,rfl,hp⟩
 refine⟨_,rfl,hp.eW (fun k hk=>by simpa [cg]using hk),fun _ k=>k<w2.drew.heap.size,fun _ _ h=>h,(mAt ((h.pu hD).pu hp) s' p').mono ?_⟩
 rintro e w4 ⟨_,rfl,rfl,Qq⟩
 have UB:=(hD.trans hp).trans Qq
 refine⟨_,rfl,fun _ k=>k<w2.drew.heap.size,fun _ _ h=>h,fun b w'=>w4=w'∧b= !(m.has s p && m.has s' p'),?_,?_⟩
 ·refine ab (fun hb=>⟨rfl,?_⟩) (fun hb=>⟨rfl,?_⟩)
  ·cases hq:m.has s p<;>simp [hq]at hb ⊢
  ·cases hq:m.has s p
   ·simp [hq]at hb
   ·cases O0:m.has s' p'<;>simp
 rintro _ x _ ⟨rfl,rfl⟩
 refine ab (fun hb=>?_) (fun hb=>?_)
 ·have Qz:(m.has s p && m.has s' p')=false:=by simpa only [Bool.not_eq_true']using hb
  refine⟨by simp [Mem.td,Qz],by simpa [Mem.copy,Qz]using h.pu UB,UB.mono (by simp)⟩
 ·have Qz:(m.has s p && m.has s' p')=true:=by simpa only [Bool.not_eq_false']using hb
  have hh:=Qz
  simp only [Bool.and_eq_true]at hh
  have hi:=Mem.dO hh.1
  have Ov:=Mem.dO hh.2
  have h4:=h.pu UB
  obtain⟨T,hd⟩:=h4.hd
  refine Lx hd rfl (ao _ rfl (bO hd (by simp) fun w5 hs=>?_))
  have h5:=h4.GL hs
  obtain⟨T',cs,hr,Of,OP⟩:=h5.pgs s' p'.toNat Ov
  obtain⟨T2,Z6,QY,Vk,hcs2⟩:=h5.pgs s p.toNat hi
  rw [if_pos hh.1,if_pos hh.2]
  refine ao _ rfl ⟨cs,⟨Of,fun i u hu=>hr.at hu⟩,ao _ rfl ⟨Of,?_,gj QY (by simp [Of,Vk]) fun w6 hs6=>⟨?_,?_,?_⟩⟩⟩
  ·rw [sy Of OP];exact oc
  ·simp [Mem.td,Qz]
  ·have:=h5.aj (f:=m.pg s' p'.toNat) hi hs6 (by simpa using Of) (fun o ho=>by simpa using OP o ho) (fun o=>h.u32 _ _ _)
   simp only [Mem.copy,Qz,if_true];exact this
  ·exact((UB.mono (by simp):Ch L.X w w4).stored hs (.inl (.inl rfl))).stored hs6 (.inl (h.inX hi))
theorem My(h:cv w L m)(s:Bool)(p:Int):
 Calls prog 69 #[ptr L.g,fr s p] w fun e w'=>∃v,e= .returned v∧
  (m.has s p=true∧cv w' L (m.tick 1024)∧Ch L.X w w'∧(∃g,v= .tuple #[.slice (some (Addr.mk g 0 none)) 1024 1024,.int .i64 0]∧w.heap.size≤g∧g<w'.heap.size∧Own w' (fun k=>k=g) 29 (some (Addr.mk g 0 none)) 1024 1024 (m.words s p.toNat))∨
   m.has s p=false∧v= .tuple #[.slice none 0 0,.int .i64 5]∧Pu w w'):=by
 refine Ab _ s p ?_
 intro g1 w1 hg hw
 have hM:=made hg hw
 refine⟨_,_,⟨hM.blk.at rfl,hM.blk.at rfl⟩,(GQ (h.pu hM.pu) s p 1).mono ?_⟩
 rintro e w2 ⟨_,rfl,⟨hh,rfl,h2,hc⟩ | ⟨hh,rfl,hp⟩⟩
 ·refine⟨_,_,rfl,ab (fun hb=>by simp at hb) (fun _=>?_)⟩
  have SA:Ch L.X w w2:=((Ch.refl _ w).made hM).trans hc
  have hi:=Mem.dO hh
  refine jq si (by omega) (by omega) (by omega) fun g w3 R7=>?_
  have h3:=h2.pu R7.pu
  obtain⟨T,cs,hr,Of,OP⟩:=h3.pgs s p.toNat (by simpa using hi)
  have OK:cs=bI ((List.range 1024).map ((m.tick 1024).pg s p.toNat)):=sy Of OP
  subst OK
  refine ao _ rfl ?_
  rintro A rfl N rfl C rfl
  have hg:(1024:Int).toNat=1024:=rfl
  rw [hg]at R7 ⊢
  have hbk:Blk w3 g (bI (List.replicate 1024 0)) 29:=by rw [fL];exact R7.blk
  have hz:(List.replicate 1024 (0:Int)).length=1024:=List.length_replicate
  have hl:((List.range 1024).map ((m.tick 1024).pg s p.toNat)).length=1024:=by rw [List.length_map,List.length_range]
  have hw:(((List.range 1024).map ((m.tick 1024).pg s p.toNat)).map U32.mk)=m.words s p.toNat:=by rw [List.map_map];rfl
  generalize (List.range 1024).map ((m.tick 1024).pg s p.toNat)=l at *
  generalize List.replicate 1024 (0:Int)=z at *
  have Rq:dy w3 (fun _=>True) .u32 (some (Addr.mk (L.pg s p.toNat) 0 none)) 1024 1024 ((l.drop 0).take 1024):=dy.row hr trivial (Nat.le_refl _) (by omega)
  have e1:(l.drop 0).take 1024=l:=by rw [List.drop_zero,List.take_of_length_le (by omega)]
  rw [e1]at Rq
  have e2:(if 1024=0 then Addr.mk (L.pg s p.toNat) 0 none else(Addr.mk (L.pg s p.toNat) 0 none).add (0*1))=Addr.mk (L.pg s p.toNat) 0 none:=rfl
  rw [e2]
  refine pZ si hbk rfl Rq (by omega) fun w4 hs=>?_
  have e3:jg z 0 (l.take (min (1024 - 0) 1024))=l:=by
   rw [show min (1024 - 0) 1024=1024 from rfl,List.take_of_length_le (by omega),n8 _ _ (by rw [hl,hz])]
  rw [e3]at hs
  have hn:w2.heap.size≤g:=by rw [R7.num];exact Nat.le_refl _
  have Qu:Ch L.X w w3:=SA.made R7
  have hg0:w.heap.size≤g:=Nat.le_trans SA.size hn
  have hnx:∀k,L.X k→k≠g:=fun k hk=>by have:=h2.lt k hk;omega
  have h4:cv w4 L (m.tick 1024):=h3.kept (B:=fun k=>k≠g) hs.kept hnx
  have ho:=Own.ofRow (w:=w4) (e:=29) hs.blk hl (by decide)
  rw [hw]at ho
  refine Or.inl ?_
  exact⟨hh,h4,Qu.stored hs (.inr hg0),g,rfl,hg0,hs.blk.lt,ho⟩
 ·refine⟨_,_,rfl,ab (fun _=>?_) (fun hb=>by simp at hb)⟩
  exact Or.inr ⟨hh,rfl,hM.pu.trans hp⟩
end
end
@[simp] theorem Mem.lZ(m:Mem)(s:Bool)(p:Int)(s':Bool)(p':Int):(m.copy s p s' p').S=m.S:=by unfold Mem.copy;split<;>rfl
namespace DB
def bn(d:DB)(n:Int):Int:=if d.has n then 0 else 1
def bw(d:DB)(n:Int):Int:=if(d.entry n).typ=0 then 0 else 2
def fH(d:DB)(n:Int):Int:=if n<(d.mem.I:Int)then 0 else 17
def aT(d:DB)(s:Int):Int:=if !d.has s then 1 else if(d.at_ s).typ≠1 then 3 else if(d.at_ s).state≠1 then 4 else 0
def fT(w:Int):Int:=if lE w=0 then 0 else 6
def eE(d:DB)(s va:Int):Int:=if d.bB s va=0 then 0 else if d.bB s va=140 then 7 else 21
def cz(d:DB)(s f:Int):Int:=if d.bn s≠0 then d.bn s else if d.bn f≠0 then d.bn f else if s=f then 16 else if d.bw s≠0 then d.bw s else if d.bw f≠0 then d.bw f else if d.av≥64 then 24 else 0
def bE(d:DB)(s f:Int):DB:=if d.cz s f=0 then(d.aN s f).aD (·.wrs s 11 Dg.new.save)else d
def bV(d:DB)(s p:Int):Int:=if d.aT s≠0 then d.aT s else if d.bn p≠0 then d.bn p else d.bw p
def bu(kk:List Int)(d:DB)(s p b:Int):DB:=if d.bV s p=0 then(d.take p 2 s).aD (fun m=>(m.write true p 0 b).msd kk s 1 b [])else d
def dh(d:DB)(s p i:Int):Int:=if d.aT s≠0 then d.aT s else if d.bn p≠0 then d.bn p else if 256≤i then 16 else if d.bw p≠0 then d.bw p else if d.word (d.tbl s) i=0 then 0 else 7
def dG(kk:List Int)(d:DB)(s p i:Int):DB:=if d.dh s p i=0 then((d.take p 4 s).add s i p).aD (·.msd kk s 2 i [])else d
def dq(d:DB)(s p w n:Int):Int:=if d.aT s≠0 then d.aT s else if d.bn p≠0 then d.bn p else if fT w≠0 then fT w else if d.fH n≠0 then d.fH n else if d.bw p≠0 then d.bw p else d.eE s (cm w)
def cO(d:DB)(s p w n:Int):DB:=((d.take p 5 s).aD (·.copy true p false n)).put s (cm w) (Mp.mk true p (paW w) (paX w))
def eO(kk:List Int)(d:DB)(s p w n:Int):DB:=if d.dq s p w n=0 then(d.cO s p w n).aD (fun m=>m.msd kk s 3 w (m.words true p.toNat))else d
def dW(d:DB)(s w n:Int):Int:=if d.aT s≠0 then d.aT s else if fT w≠0 then fT w else if paX w then 6 else if d.fH n≠0 then d.fH n else d.eE s (cm w)
def dH(kk:List Int)(d:DB)(s w n:Int):DB:=if d.dW s w n=0 then(d.put s (cm w) (Mp.mk false n (paW w) false)).aD (·.msd kk s 4 w [])else d
end DB
theorem DB.jS {d:DB} {f:Mem→Mem}(h:(f d.mem).S=d.mem.S):(d.aD f).pd=d.pd:=by
 show Pd.mk _ _ _=Pd.mk _ _ _
 rw [show(d.aD f).S=d.S from h];rfl
theorem DB.CY(d:DB):d.pd.on d.mem=d:=rfl
theorem DB.fw {d:DB} {n:Int}(h:¬d.bn n≠0):d.has n=true:=by
 unfold DB.bn at h
 cases hh:d.has n
 ·rw [hh]at h;simp at h
 ·rfl
theorem DB.fq {d:DB} {n:Int}(hn:d.has n=true)(h:¬d.bw n≠0):(d.at_ n).typ=0:=by
 unfold DB.bw DB.entry at h
 rw [if_pos hn]at h
 by_cases h0:(d.at_ n).typ=0
 ·exact h0
 ·rw [if_neg h0]at h;simp at h
theorem DB.fi {d:DB} {s q:Int}(h1:¬d.bn s≠0)(h2:¬d.bn q≠0)(h3:¬s=q)(h4:¬d.bw s≠0)(h5:¬d.bw q≠0):d.aR s q=if d.av≥64 then 240 else 0:=by
 have a1:=DB.fw h1
 have a2:=DB.fw h2
 unfold DB.aR
 simp [a1,a2,h3,DB.fq a1 h4,DB.fq a2 h5]
theorem om {w:Int}(h:0≤w∧w<4294967296):0≤cm w∧cm w<4294967296:=by
 unfold cm
 split<;>omega
theorem Mem.rL {m:Mem}(h:m.Wf)(s:Bool)(p:Nat):fW (m.words s p):=by
 intro x hx
 obtain⟨o,_,rfl⟩:=List.mem_map.1 hx
 exact h.1 _ _ _
theorem Mem.sP(m:Mem)(s:Bool)(p:Int)(s':Bool)(p':Int)(b:Bool)(q:Int):(m.copy s p s' p').has b q=m.has b q:=by
 unfold Mem.copy
 split
 ·cases b<;>rfl
 ·rfl
theorem DB.bx(d:DB)(p t s:Int):(d.take p t s).mem=d.mem:=by unfold DB.take;split<;>rfl
theorem DB.Jb(d:DB)(s va:Int)(M:Mp)(p:Int):(d.put s va M).mem.has true p=d.mem.has true p:=by
 unfold DB.put
 split
 ·exact DB.cH ..
 ·rfl
theorem DB.BO(d:DB)(s p w n:Int):(d.cO s p w n).mem.has true p=d.has p:=by
 rw [DB.cO,DB.Jb]
 show((d.take p 5 s).mem.copy true p false n).has true p=_
 rw [Mem.sP,DB.bx];rfl
namespace Mem
theorem lD {m:Mem} {s s':Bool} {p o v:Int} {q:Nat}(h:¬(s'=s∧q=p.toNat)):(m.write s p o v).pg s' q=m.pg s' q:=by
 unfold write
 split
 ·funext x;exact if_neg h
 ·rfl
theorem CX {m:Mem} {s s' b:Bool} {p p':Int} {q:Nat}(h:¬(b=s∧q=p.toNat)):(m.copy s p s' p').pg b q=m.pg b q:=by
 unfold copy
 split
 ·funext x;exact if_neg h
 ·rfl
theorem wD {m m':Mem} {s:Int}(hS:m'.S=m.S)(h:m.has true s=true→m'.pg true s.toNat=m.pg true s.toNat):m'.dgW s=m.dgW s:=by
 unfold dgW
 refine List.map_congr_left fun i _=>?_
 have hh:m'.has true s=m.has true s:=by unfold has cnt;rw [hS]
 unfold aZ
 rw [hh]
 cases hs:m.has true s
 ·rfl
 ·rw [h hs]
theorem v5 {m:Mem} {s p:Int}(hs:m.has true s=true)(hp:0≤p)(h:p≠s):¬(true=true∧s.toNat=p.toNat):=by
 have:=ai hs
 omega
theorem gr {m:Mem} {s p o v:Int}(h:p≠s):(m.write true p o v).dgW s=m.dgW s:=by
 refine wD (bh ..) fun hs=>?_
 by_cases hp:0≤p
 ·exact lD (v5 hs hp h)
 ·unfold write
  rw [if_neg]
  simp [has];omega
theorem Hc {m:Mem} {s p q:Int} {b:Bool}(h:p≠s):(m.copy true p b q).dgW s=m.dgW s:=by
 refine wD (lZ ..) fun hs=>?_
 by_cases hp:0≤p
 ·exact CX (v5 hs hp h)
 ·unfold copy
  rw [if_neg]
  simp [has];omega
end Mem
namespace DB
theorem kI {d:DB} {s:Int}(h:¬d.aT s≠0):d.has s=true∧(d.at_ s).typ=1∧(d.at_ s).state=1:=by
 unfold aT at h
 cases hs:d.has s
 ·rw [hs]at h;simp at h
 ·by_cases h1:(d.at_ s).typ=1
  ·by_cases h2:(d.at_ s).state=1
   ·exact⟨rfl,h1,h2⟩
   ·simp [hs,h1,h2]at h
  ·simp [hs,h1]at h
theorem bf {d:DB} {p t o:Int}(h:d.of p t o=true):d.has p=true∧(d.at_ p).typ=t∧(d.at_ p).owner=o:=by
 simpa [of,is,and_assoc]using h
theorem Dy {d:DB} {s i q:Int}(h:d.lV s i q=0):d.cC s=0∧d.of (d.tbl s) 3 s=true:=by
 have h1:d.cC s=0:=by
  by_cases h1:d.cC s=0
  ·exact h1
  ·unfold lV at h;rw [if_pos h1]at h;exact h
 refine⟨h1,?_⟩
 unfold tbl
 rw [if_pos h1]
 unfold cC at h1
 split at h1
 ·omega
 ·split at h1
  ·omega
  ·split at h1
   ·omega
   ·split at h1
    ·assumption
    ·omega
theorem ye {d:DB} {s va:Int} {M:Mp}(h:d.iN s va M=0):d.of (d.plP s va) 4 s=true∧M.err=0∧d.bB s va=0∧d.eH s va=0:=by
 have h1:d.bB s va=0:=by
  by_cases h1:d.bB s va=0
  ·exact h1
  ·unfold iN at h;rw [if_pos h1]at h;exact absurd h h1
 have h2:d.eH s va=0:=by
  by_cases h2:d.eH s va=0
  ·exact h2
  ·unfold bB at h1;rw [if_pos h2]at h1;exact h1
 refine⟨?_,by unfold iN at h;rw [if_neg (by omega)]at h;exact h,h1,h2⟩
 unfold eH at h2
 split at h2
 ·omega
 ·split at h2
  ·omega
  ·split at h2
   ·rename_i h3
    simp only [iK,Bool.and_eq_true]at h3
    exact h3.2
   ·omega
theorem JE {d:DB} {s i q x:Int}(h:(d.at_ x).typ≠3):(d.add s i q).mem.dgW x=d.mem.dgW x:=by
 unfold add
 split
 ·rename_i he
  exact Mem.gr fun e=>h (e▸(bf (Dy he).2).2.1)
 ·rfl
theorem Dl {d:DB} {s va x:Int} {M:Mp}(h:(d.at_ x).typ≠4):(d.put s va M).mem.dgW x=d.mem.dgW x:=by
 unfold put
 split
 ·rename_i he
  exact Mem.gr fun e=>h (e▸(bf (ye he).1).2.1)
 ·rfl
theorem xO {d:DB} {p t s q:Int}(hq:0≤q)(hs:d.has s=true)(h:q≠p):((d.take p t s).at_ q).typ=(d.at_ q).typ:=by
 unfold take
 split
 ·rename_i he
  have hp:d.has p=true:=by
   cases hp:d.has p
   ·unfold bM at he;simp [hp]at he
   ·rfl
  have h1:=ai hp
  have h2:=ai hs
  unfold bZ more
  rw [bD h2.1 hq,bD h1.1 h2.1,bD h1.1 hq,if_neg h]
  split
  ·rename_i e
   subst e
   rw [if_neg h]
  ·rfl
 ·rfl
theorem Lu {d:DB} {n:Int}(h0:0≤n)(h:¬d.fH n≠0):d.mem.has false n=true:=by
 unfold fH at h
 split at h
 ·exact decide_eq_true (show 0≤n∧n<(d.mem.I:Int)from⟨h0,by assumption⟩)
 ·simp at h
end DB
section
abbrev svO(r rm:Nat→Nat)(E:Pd)(m:Mem)(rest:List (Res Un)):List (Res Un):= .ob 1 r E:: .ob 0 rm m::rest
section
variable {r r1 rm:Nat→Nat} {s:Sv} {E:Pd} {m:Mem} {rest:List (Res Un)} {X:Nat→Nat→Prop} {w:World}
theorem nX(hs:Sat (U:=Un) (.ob 9 r s::rest) X w):∃(r1 rm:Nat→Nat)(X1:Nat→Nat→Prop),Sat (svO r1 rm s.D.pd s.D.mem rest) X1 w∧ax (svO r1 rm s.D.pd s.D.mem rest) fr0 [(.l 0 1,.p (.obj 1 0 0))]∧(s.pD=r1 0∧s.pM=rm 0∧r1 1=rm 0)∧(∀i,i<2→∀k,X1 i k→X 0 k)∧∀i,X1 (i+2)=X (i+1):=by
 obtain⟨a,L,h1,h2,h3⟩:=(hs.res 0 _ rfl:cT 9 r s (X 0) w)
 have Vq:=h2.pd
 rw [show(fh.M ⟨s.pD,a,L⟩).g=s.pM from h1]at Vq
 have sub:∀i,i<2→∀k,(fun i=>match i with | 0=>(fun k=>k=s.pD∨k=a) | 1=>L.X | i+2=>X (i+1):Nat→Nat→Prop) i k→X 0 k:=fun i hi k hk=>by
  match i,hi with
  | 0,_=>exact(h3 k).1 (hk.elim .inl fun h=>.inr (.inl h))
  | 1,_=>exact(h3 k).1 (.inr (.inr hk))
 refine⟨fun i=>if i=0 then s.pD else s.pM,fun _=>s.pM,fun i=>match i with | 0=>(fun k=>k=s.pD∨k=a) | 1=>L.X | i+2=>X (i+1),⟨fun i x hx=>?_,fun i j hi hj OH k hk OC=>?_⟩,wq ⟨_,_,_,rfl,rfl⟩,⟨rfl,rfl,rfl⟩,sub,fun i=>rfl⟩
 ·match i with
  | 0=>
   simp only [svO,nth,Option.some.injEq]at hx;subst hx
   exact(⟨a,fun k=>Iff.rfl,Vq⟩:cT 1 (fun i=>if i=0 then s.pD else s.pM) s.D.pd (fun k=>k=s.pD∨k=a) w)
  | 1=>
   simp only [svO,nth,Option.some.injEq]at hx;subst hx
   exact(⟨L,h1.symm,fun k=>Iff.rfl,h2.mem⟩:cT 0 (fun _=>s.pM) s.D.mem L.X w)
  | i+2=>exact hs.res (i+1) x hx
 ·have e:∀i,i+2<(svO (fun i=>if i=0 then s.pD else s.pM) (fun _=>s.pM) s.D.pd s.D.mem rest).length→i+1<(Res.ob (U:=Un) 9 r s::rest).length:=fun i h=>by simp at h ⊢;omega
  have d01:∀k,(k=s.pD∨k=a)→¬L.X k:=fun k hk hL=>by
   rcases hk with rfl | rfl
   ·exact h2.dis.2.1 hL
   ·exact h2.dis.2.2 hL
  match i,j,hi,hj,OH with
  | 0,1,_,_,_=>exact d01 k hk OC
  | 1,0,_,_,_=>exact d01 k OC hk
  | 0,j+2,_,hj,_=>exact hs.dis 0 (j+1) (by simp) (e j hj) (by omega) k (sub 0 (by omega) k hk) OC
  | 1,j+2,_,hj,_=>exact hs.dis 0 (j+1) (by simp) (e j hj) (by omega) k (sub 1 (by omega) k hk) OC
  | i+2,0,hi,_,_=>exact hs.dis 0 (i+1) (by simp) (e i hi) (by omega) k (sub 0 (by omega) k OC) hk
  | i+2,1,hi,_,_=>exact hs.dis 0 (i+1) (by simp) (e i hi) (by omega) k (sub 1 (by omega) k OC) hk
  | i+2,j+2,hi,hj,h=>exact hs.dis (i+1) (j+1) (e i hi) (e j hj) (by omega) k hk OC
  | 0,0,_,_,h=>exact absurd rfl h
  | 1,1,_,_,h=>exact absurd rfl h
theorem F9(h0:RS (U:=Un) (X 0) w (.ob 1 r1 E))(h1:RS (U:=Un) (X 1) w (.ob 0 rm m))(hd:∀k,X 0 k→¬X 1 k)(l:r1 1=rm 0)(hn:E.n=m.S):cT 9 r ⟨E.on m,r1 0,rm 0⟩ (fun k=>X 0 k∨X 1 k) w:=by
 obtain⟨a,QB,hp⟩:=(h0:cT 1 r1 E (X 0) w)
 obtain⟨L,hg,QK,hm⟩:=(h1:cT 0 rm m (X 1) w)
 rw [l,hg]at hp
 refine⟨a,L,hg.symm,hp.db hm hn ⟨fun hx=>hd _ ((QB _).1 (.inl rfl)) ((QK _).1 hx),fun hx=>hd _ ((QB _).1 (.inr rfl)) ((QK _).1 hx)⟩,fun k=>⟨fun hk=>?_,fun hk=>?_⟩⟩
 ·rcases hk with hk | hk | hk
  ·exact .inl ((QB k).1 (.inl hk))
  ·exact .inl ((QB k).1 (.inr hk))
  ·exact .inr ((QK k).1 hk)
 ·rcases hk with hk | hk
  ·exact((QB k).2 hk).elim .inl fun h=>.inr (.inl h)
  ·exact .inr (.inr ((QK k).2 hk))
end
section
variable {P:Program} {f:Nat} {args:Array Value} {r:Nat→Nat} {s:Sv} {rest:List (Res Un)} {X:Nat→Nat→Prop} {w:World} {Q:Ou Un→Prop} {v:Value} {k k1:Option Kn}
theorem wF {X:Nat→Nat→Prop} {w w':World}(h:Ch (fun k=>∃j,j∈([]:List Nat)∧X j k) w w'):Pu w w':=h.mono fun k hk=>by obtain⟨j,hj,_⟩:=hk;cases hj
theorem svP(Pb:iU k1 v= .returned v)(hs:Sat (U:=Un) (.ob 9 r s::rest) X w)(hc:∀(r1 rm:Nat→Nat)(X1:Nat→Nat→Prop),Sat (svO r1 rm s.D.pd s.D.mem rest) X1 w→ax (svO r1 rm s.D.pd s.D.mem rest) fr0 [(.l 0 1,.p (.obj 1 0 0))]→s.pD=r1 0∧s.pM=rm 0→Calls P f args w (aU (svO r1 rm s.D.pd s.D.mem rest) [] X1 w (fun o=>o=⟨v,k1,[],[],[]⟩)))
 (hQ:Q ⟨v,k,[],[],[]⟩)(hk:KnO (U:=Un) (.ob 9 r s::rest) v k):Calls P f args w (aU (U:=Un) (.ob 9 r s::rest) [] X w Q):=by
 obtain⟨r1,rm,X1,Pn,Px,e,_,_⟩:=nX hs
 refine(hc r1 rm X1 Pn Px ⟨e.1,e.2.1⟩).mono ?_
 rintro e w' ⟨out,rs',X',rfl,rfl,Oq,hp⟩
 rw [Pb]
 exact aU.pu hs (wF hp.ch) hQ hk
theorem svD(Pb:iU k1 v= .returned v)(D':DB)(M:List Nat)(us:List (Upd Un))(hM:∀j,j∈M→j<2)(hs:Sat (U:=Un) (.ob 9 r s::rest) X w)(hn:D'.pd.n=D'.mem.S)(Oq:∀r1 rm,bJ (svO r1 rm s.D.pd s.D.mem rest) M us=some (svO r1 rm D'.pd D'.mem rest))
 (hc:∀(r1 rm:Nat→Nat)(X1:Nat→Nat→Prop),Sat (svO r1 rm s.D.pd s.D.mem rest) X1 w→ax (svO r1 rm s.D.pd s.D.mem rest) fr0 [(.l 0 1,.p (.obj 1 0 0))]→s.pD=r1 0∧s.pM=rm 0→Calls P f args w (aU (svO r1 rm s.D.pd s.D.mem rest) M X1 w (fun o=>o=⟨v,k1,us,[],[]⟩)))
 (hQ:Q ⟨v,k,[.ob 9 ⟨D',s.pD,s.pM⟩],[],[]⟩)(hk:KnO (U:=Un) (.ob 9 r ⟨D',s.pD,s.pM⟩::rest) v k):Calls P f args w (aU (U:=Un) (.ob 9 r s::rest) [0] X w Q):=by
 obtain⟨r1,rm,X1,Pn,Px,⟨e1,e2,e3⟩,Rm,_⟩:=nX hs
 refine(hc r1 rm X1 Pn Px ⟨e1,e2⟩).mono ?_
 rintro e w' ⟨out,rs',X',rfl,rfl,ha,hp⟩
 rw [Oq]at ha
 injection ha with ha
 subst ha
 have hsat:Sat (svO r1 rm D'.pd D'.mem rest) X' w':=by have:=hp.sat;rwa [List.append_nil]at this
 have hz:∀i,i<2→∀k,X' i k→X 0 k∨w.heap.size≤k:=fun i hi k hk=>by
  by_cases hm:i∈M
  ·exact(hp.grow i hm k hk).imp (Rm i hi k) id
  ·have:=hp.same i (show i<rest.length+1+1 by omega) hm
   exact .inl (Rm i hi k (this▸hk))
 have hu:=F9 (r:=r) (hsat.res 0 _ rfl) (hsat.res 1 _ rfl) (hsat.dis 0 1 (by simp) (by simp) (by omega)) e3 hn
 rw [← e1,← e2]at hu
 rw [Pb]
 exact aU.first (Z:=fun k=>X' 0 k∨X' 1 k) hs (hp.ch.mono fun k ⟨j,hj,h⟩=>Rm j (hM j hj) k h) hu (fun k hk=>hk.elim (hz 0 (by omega) k) (hz 1 (by omega) k)) hQ hk
theorem svL {t:Nat} {T:TypeId} {l:List (Un.el t)}(hs:Sat (U:=Un) [.ob 9 r s] X w)(hc:∀(r1 rm:Nat→Nat)(X1:Nat→Nat→Prop),Sat (svO r1 rm s.D.pd s.D.mem []) X1 w→ax (svO r1 rm s.D.pd s.D.mem []) fr0 [(.l 0 1,.p (.obj 1 0 0))]→s.pD=r1 0∧s.pM=rm 0→Calls P f args w (aU (svO r1 rm s.D.pd s.D.mem []) [] X1 w (fun o=>∃A c,o=⟨.slice A l.length c,some (.p (.sl 2 0)),[],[.lst t true T A c l],[]⟩)))
 (hQ:∀A c,Q ⟨.slice A l.length c,some (.p (.sl 1 0)),[],[.lst t true T A c l],[]⟩):Calls P f args w (aU (U:=Un) [.ob 9 r s] [] X w Q):=by
 obtain⟨r1,rm,X1,Pn,Px,e,_,_⟩:=nX hs
 refine(hc r1 rm X1 Pn Px ⟨e.1,e.2.1⟩).mono ?_
 rintro e w' ⟨out,rs',X',rfl,⟨A,c,rfl⟩,Oq,hp⟩
 have ZS:svO r1 rm s.D.pd s.D.mem []=rs':=by simpa [bJ]using Oq
 subst ZS
 exact aU.more hs (wF hp.ch) (hp.sat.res 2 _ rfl) (hp.new 2 (by simp) (by simp)) (hQ A c) rfl
theorem svN {rN rM:Nat→Nat} {E:Pd} {m:Mem} {kc:List (Key×Kn)}(Pb:iU k1 v= .returned v)(hs:Sat (U:=Un) [.ob 9 r s] X w)(hn:E.n=m.S) {e:Ending} {w':World} {r1 rm:Nat→Nat} {X1 X':Nat→Nat→Prop}(hp:Aj (svO r1 rm s.D.pd s.D.mem []) [] X1 w ⟨v,k1,[],[.ob 1 rN E,.ob 0 rM m],kc⟩ w' (svO r1 rm s.D.pd s.D.mem []) X')(hl:rN 1=rM 0)(he:e=iU k1 v)
 (hQ:Q ⟨v,k,[.ob 9 ⟨E.on m,rN 0,rM 0⟩],[],[]⟩)(hk:KnO (U:=Un) [.ob 9 r ⟨E.on m,rN 0,rM 0⟩] v k):aU (U:=Un) [.ob 9 r s] [0] X w Q e w':=by
 have hu:=F9 (r:=r) (X:=fun i=>X' (i+2)) (hp.sat.res 2 _ rfl) (hp.sat.res 3 _ rfl) (hp.sat.dis 2 3 (show 2<4 by decide) (show 3<4 by decide) (by omega)) hl hn
 rw [he,Pb]
 exact aU.first (Z:=fun k=>X' 2 k∨X' 3 k) hs ((wF hp.ch).mono fun k hk=>hk.elim) hu (fun k hk=>.inr (hk.elim (hp.new 2 (by simp) (by simp) k) (hp.new 3 (by simp) (by simp) k))) hQ hk
end
end
def LOp.Ok(o:LOp):Prop:=(0≤o.a∧o.a<4294967296)∧(0≤o.b∧o.b<4294967296)∧(0≤o.c∧o.c<4294967296)∧(0≤o.d∧o.d<4294967296)
def okM(s i:Int):Bool:=decide ((1≤s∧s≤64)∧(1≤i∧i≤64))
theorem C7 {s i:Int}(h:okM s i=true):(1≤s∧s≤64)∧(1≤i∧i≤64):=of_decide_eq_true h
theorem C8 {s i:Int}(h:okM s i=false):s<1∨s>64∨i<1∨i>64:=by
 have:=of_decide_eq_false h;omega
theorem Jp {s i:Int} {w:World}(h:okM s i=false):Calls prog 27 #[.int .i64 s,.int .i64 i] w fun e w'=>e= .returned (.tuple #[.pointer none,.int .i64 1])∧w'=w:=by
 have h:=C8 h
 refine(tL (R:=fun v w'=>v= .tuple #[.pointer none,.int .i64 1]∧w'=w) s i ⟨fun b w'=>w=w'∧b=true,?_,?_⟩).mono ?_
 ·refine ab (fun hb=>⟨rfl,rfl⟩) (fun h1=>ab (fun hb=>⟨rfl,rfl⟩) (fun h2=>ab (fun hb=>⟨rfl,rfl⟩) (fun h3=>⟨rfl,?_⟩)))
  simp at h1 h2 h3 ⊢;omega
 ·rintro _ x _ ⟨rfl,rfl⟩
  exact dN ⟨rfl,rfl⟩
 ·rintro e w' ⟨v,rfl,rfl,rfl⟩;exact⟨rfl,rfl⟩
namespace DB
def dC(d:DB)(o:LOp):Int:=if o.k=1 then d.cz o.a o.b else if o.k=2 then d.bV o.a o.b else if o.k=3 then d.dh o.a o.b o.c else if o.k=4 then d.dq o.a o.b o.c o.d else d.dW o.a o.b o.c
def call(kk:List Int)(d:DB)(o:LOp):DB:=if o.k=1 then d.bE o.a o.b else if o.k=2 then d.bu kk o.a o.b o.c else if o.k=3 then d.dG kk o.a o.b o.c else if o.k=4 then d.eO kk o.a o.b o.c o.d else d.dH kk o.a o.b o.c
def oA(d:DB)(p:Int):Bool:=d.has p && (d.has (d.at_ p).owner && ((d.at_ p).typ !=0 && ((d.at_ (d.at_ p).owner).state==3 && ((d.at_ p).typ !=1 || (d.at_ p).refs==0))))
def lL(d:DB)(p:Int):Bool:=d.has p && ((d.at_ p).typ==1 && (d.at_ p).state==1)
def beside(d:DB)(o:LOp):DB:=
 if o.k=6 then d.aD (·.write false o.a (o.b % 1024) o.c)
 else if o.k=7 then(if d.lL o.a then(d.aD (·.wrs o.a 11 (List.replicate 26 0))).setState o.a 2 else d)
 else if o.k=8 then d.setState o.a 3
 else if o.k=9 then(if d.oA o.a then d.dY o.a else d)
 else d
end DB
abbrev Sm(x:Int):Prop:=0≤x∧x≤24
namespace DB
theorem Mo(d:DB)(n:Int):Sm (d.bn n):=by unfold bn;split<;>decide
theorem Mf(d:DB)(n:Int):Sm (d.bw n):=by unfold bw;split<;>decide
theorem MD(d:DB)(n:Int):Sm (d.fH n):=by unfold fH;split<;>decide
theorem MX(d:DB)(n:Int):Sm (d.aT n):=by unfold aT;(repeat' split)<;>decide
theorem Mw(n:Int):Sm (fT n):=by unfold fT;split<;>decide
theorem Mg(d:DB)(s va:Int):Sm (d.eE s va):=by unfold eE;(repeat' split)<;>decide
theorem JI(d:DB)(o:LOp):Sm (d.dC o):=by
 unfold dC cz bV dh dq dW
 (repeat' split)<;>first | decide | exact Mo .. | exact Mf .. | exact MD .. | exact MX .. | exact Mw .. | exact Mg ..
end DB
theorem Gn {m:Mem} {a i:Int}(hi:0≤i∧i<26):m.wrs a 11 ((List.replicate 26 (0:Int)).take (i64.wrap (i+1)).toNat)=(m.wrs a 11 ((List.replicate 26 (0:Int)).take i.toNat)).write true a (i64.wrap (11+i)) 0:=by
 rw [Mem.xF (by rfl) hi]
 congr 1
 rw [List.getD_eq_getElem?_getD,List.getElem?_replicate]
 split<;>rfl
theorem DB.F3 {D:DB} {j:Nat} {x:Int}(h:D.words[j]? =some x):DB.wd (D.words.map U32.mk) j=x:=by
 unfold DB.wd
 rw [sq,List.getD_eq_getElem?_getD,h];rfl
theorem DB.Mc(D:DB):DB.wd (D.words.map U32.mk) 0=D.av:=DB.F3 rfl
theorem DB.Mb {D:DB} {p:Nat}(hp:p<D.S):DB.wd (D.words.map U32.mk) (1+2*p)=(D.ent p).w0∧DB.wd (D.words.map U32.mk) (2+2*p)=(D.ent p).w1:=by
 have h1:=mw (fun p=>(D.ent p).w0) (fun p=>(D.ent p).w1) D.S (2*p) (by omega)
 have h2:=mw (fun p=>(D.ent p).w0) (fun p=>(D.ent p).w1) D.S (2*p+1) (by omega)
 rw [if_pos (by omega),show 2*p / 2=p by omega]at h1
 rw [if_neg (by omega),show(2*p+1) / 2=p by omega]at h2
 refine⟨DB.F3 ?_,DB.F3 ?_⟩
 ·rw [D.words_eq,show 1+2*p=2*p+1 by omega,List.getElem?_cons_succ];exact h1
 ·rw [D.words_eq,show 2+2*p=(2*p+1)+1 by omega,List.getElem?_cons_succ];exact h2
theorem DB.DM {D:DB}(h:D.Ok):fW (D.words.map U32.mk):=by
 intro x hx
 obtain⟨y,hy,rfl⟩:=List.mem_map.1 hx
 have hb:=h.av
 simp only [DB.words,List.mem_cons,List.mem_flatMap,List.mem_range,List.not_mem_nil,or_false]at hy
 show 0≤y∧y<4294967296
 rcases hy with rfl | ⟨p,hp,rfl | rfl⟩
 ·omega
 ·exact Ent.xI (h.ent p hp).1
 ·exact Ent.xH (h.ent p hp).1
theorem DB.Bx {D:DB}(h:D.Ok):DB.ay D.mem (D.words.map U32.mk)=0∧(DB.load D.mem (D.words.map U32.mk)).av=D.av∧∀p,p<D.S→(DB.load D.mem (D.words.map U32.mk)).ent p=D.ent p:=by
 have he:∀p,p<D.S→Ent.dec (DB.wd (D.words.map U32.mk) (1+2*p)) (DB.wd (D.words.map U32.mk) (2+2*p))=D.ent p∧Ent.fg (DB.wd (D.words.map U32.mk) (1+2*p)) (DB.wd (D.words.map U32.mk) (2+2*p))=0:=fun p hp=>by
  rw [(DB.Mb hp).1,(DB.Mb hp).2]
  exact Ent.wE (h.ent p hp).1
 have hb:=h.av
 refine⟨DB.qx (by rw [List.length_map,DB.eT];rfl) (by rw [DB.Mc];omega) fun p hp=>?_,DB.Mc D,fun p hp=>(he p hp).1⟩
 unfold DB.lh
 rw [(he p hp).1,(he p hp).2]
 have:=(h.ent p hp).2
 simp only [Bool.and_eq_true,decide_eq_true_eq]
 exact⟨rfl,this⟩
theorem PdP.congr {w:World} {g a mg:Nat} {E F:Pd}(h:PdP w g a mg E)(hn:F.n=E.n)(hb:F.av=E.av)(he:∀p,p<E.n→F.ent p=E.ent p):PdP w g a mg F:=by
 refine⟨?_,?_,⟨fun p hp=>?_,by rw [hb];exact h.ok.av,by rw [hn];exact h.ok.dV⟩,h.ne⟩
 ·have:=h.hd;rw [← hn,← hb]at this;exact this
 ·obtain⟨T,cs,h1,h2,h3⟩:=h.ws
  refine⟨T,cs,h1,by rw [hn];exact h2,fun p hp=>?_⟩
  rw [hn]at hp
  rw [he p hp];exact h3 p hp
 ·rw [hn]at hp
  rw [he p hp,hn];exact h.ok.ent p hp
end Go.Proofs.YtinhphjfnedhgaaGreatDoor
namespace Go.Proofs.YtinhphjfnedhgaaGreatDoor
open Go.Proofs.Tryz (prog)
open Go Go.RowKit V Go.ChangeShapes Go.WideShapes Go.ChangeAt
open Go.IntKind (i64 u32 u64)
open Enc (enc)
section
theorem wf_u32 {x:Int}(h:(Lit.int .u32 x).wf=true):0≤x∧x<4294967296:=by
 have:0≤x∧x≤4294967295:=by simpa [Lit.wf,IntKind.min,IntKind.max,IntKind.signed,IntKind.bits]using h
 omega
section
variable {P:Program} {W:World} {H:Type} {enc:TypeId×Value→H}
theorem Gy {t:TypeId} {f0 f1:Field} {v:Value} {d:DataW H} {p:List MemPlace}(ht:P.underlying t=some (.struct #[f0,f1]))(o:f0.offset=0∧f1.offset=1)(c:P.cellsOf f0.type=1∧P.cellsOf f1.type=1)(u0:P.underlying f0.type=some (.int .i64))(u1:P.underlying f1.type=some (.int .i64))(ct:P.cellsOf t=2)
 {base:Nat}(hv:Value.okWide P W .any base t v)(h:DataW.Trod enc P W 0 (fun _=>true) true t v d p):∃a b:Int,v= .agg #[.int .i64 a,.int .i64 b]:=by
 obtain⟨⟨cs⟩,rfl,hc⟩:=okWide_struct ht hv
 obtain⟨fuel,hf⟩:=h
 obtain⟨y0,y1,n,_,_,g0,g1⟩:=trod_struct2 ht hf
 rw [ct]at hc
 match cs,hc with
 | [v0,v1],_=>
  obtain⟨o0,o1⟩:=o
  obtain⟨c0,c1⟩:=c
  rw [o0,c0]at g0
  rw [o1,c1]at g1
  obtain⟨n0,e0,_,_⟩:=DataW.trod_int u0 g0
  obtain⟨n1,e1,_,_⟩:=DataW.trod_int u1 g1
  simp [Value.cells]at e0 e1
  subst e0 e1
  exact⟨n0,n1,rfl⟩
theorem Gz {t e:TypeId} {f0 f1 f2 f3 f4:Field} {v:Value} {d:DataW H} {p:List MemPlace}(ht:P.underlying t=some (.slice e))(he:P.underlying e=some (.struct #[f0,f1,f2,f3,f4]))
 (ce:P.cellsOf e=5)(o:f0.offset=0∧f1.offset=1∧f2.offset=2∧f3.offset=3∧f4.offset=4)(c:P.cellsOf f0.type=1∧P.cellsOf f1.type=1∧P.cellsOf f2.type=1∧P.cellsOf f3.type=1∧P.cellsOf f4.type=1)
 (u0:P.underlying f0.type=some (.int .i64))(u1:P.underlying f1.type=some (.int .u32))(u2:P.underlying f2.type=some (.int .u32))(u3:P.underlying f3.type=some (.int .u32))(u4:P.underlying f4.type=some (.int .u32))
 {base:Nat}(hv:Value.okWide P W .any base t v)(h:DataW.Trod enc P W 0 (fun _=>true) true t v d p):
 ∃(A:Option Addr)(n c:Nat)(l:List LOp),v= .slice A n c∧Rd W (fun k=>0<n∧∃p,A=some p∧k=p.block) A n c l∧(∀x∈l,x.Ok)∧(∀p,A=some p→0<n→∃x:Int,W.cell? (p.add 0)=some (.int .i64 x))∧
  (c=0∨∃el sp,d= .slice el sp∧el.length+sp.length=c):=by
 obtain⟨a0,len,cap,rfl⟩:=okWide_slice ht hv
 obtain⟨fuel,hf⟩:=h
 rcases Go.Deep.open_slice ht hf with⟨OP,hx⟩ | ⟨a,len',cap',m,n,D,Pl,OP,_,hl,hm,hmm,hx,OX⟩
 ·simp [Value.cells]at OP
  obtain⟨rfl,rfl,rfl⟩:=OP
  exact⟨none,0,0,[],rfl,⟨rfl,Nat.le_refl _,fun k hk=>by omega,fun i x hi=>by simp at hi⟩,by simp,fun p hp=>by simp at hp,.inl rfl⟩
 ·simp [Value.cells]at OP
  obtain⟨rfl,rfl,rfl⟩:=OP
  simp only [if_true]at hmm
  subst hmm
  simp only [Prod.mk.injEq]at hx
  have each:∀i,i<m→∃x:LOp,(∀j,j<5→W.cell? ((a.add (i*5)).add j)=(V.Enc.enc x:List Value)[j]?)∧x.Ok:=by
   intro i hi
   obtain⟨cs',h1,h2⟩:=OX i hi
   rw [ce]at h1
   obtain⟨_,hlen,hc⟩:=World.cells?_some h1
   obtain⟨xs,k,hk,R4,_,Y9,hf⟩:=DataW.trod_struct he h2
   obtain⟨o0,o1,o2,o3,o4⟩:=o
   obtain⟨c0,c1,c2,c3,c4⟩:=c
   match xs,Y9,cs',hlen with
   | [y0,y1,y2,y3,y4],_,[v0,v1,v2,v3,v4],_=>
    have g0:=hf 0 f0 rfl
    have g1:=hf 1 f1 rfl
    have g2:=hf 2 f2 rfl
    have g3:=hf 3 f3 rfl
    have g4:=hf 4 f4 rfl
    simp [o0,o1,o2,o3,o4,c0,c1,c2,c3,c4]at g0 g1 g2 g3 g4
    obtain⟨n0,e0,_,_⟩:=DataW.trod_int u0 g0
    obtain⟨n1,e1,_,w1⟩:=DataW.trod_int u1 g1
    obtain⟨n2,e2,_,w2⟩:=DataW.trod_int u2 g2
    obtain⟨n3,e3,_,w3⟩:=DataW.trod_int u3 g3
    obtain⟨n4,e4,_,w4⟩:=DataW.trod_int u4 g4
    simp at e0 e1 e2 e3 e4
    subst e0 e1 e2 e3 e4
    exact⟨⟨n0,n1,n2,n3,n4⟩,fun j hj=>hc j hj,wf_u32 w1,wf_u32 w2,wf_u32 w3,wf_u32 w4⟩
  have:Inhabited LOp:=⟨⟨0,0,0,0,0⟩⟩
  obtain⟨q,hq⟩:=Go.Deep.choose_lt each
  have hb:∀i,i<m→a.block<W.heap.size:=fun i hi=>by
   have h1:=(hq i hi).1 0 (by omega)
   have h2:W.cell? ((a.add (i*5)).add 0)=some (.int .i64 (q i).k):=h1
   have:=World.block_lt_of_cell? W _ h2
   rwa [V.block_add,V.block_add]at this
  refine⟨some a,len,m,(List.range len).map q,rfl,⟨by simp,hl,fun k ⟨h1,p,hp,hk⟩=>?_,fun j x hj=>?_⟩,fun x hx=>?_,fun p hp h0=>?_,.inr ⟨_,_,hx.1,by simp;omega⟩⟩
  ·injection hp with hp
   subst hp;subst hk
   exact hb 0 (by omega)
  ·have T6:j<len:=by
    rcases Nat.lt_or_ge j len with h | h
    ·exact h
    ·rw [List.getElem?_eq_none (by simpa using h)]at hj;cases hj
   rw [List.getElem?_map,List.getElem?_range T6]at hj
   injection hj with hj
   subst hj
   exact⟨a,rfl,⟨by omega,a,rfl,rfl⟩,fun i hi=>(hq j (by omega)).1 i hi⟩
  ·obtain⟨i,hi,rfl⟩:=List.mem_map.1 hx
   have:=List.mem_range.1 hi
   exact(hq i (by omega)).2
  ·injection hp with hp
   subst hp
   have h1:=(hq 0 (by omega)).1 0 (by omega)
   rw [Nat.zero_mul]at h1
   have e:(a.add 0).add 0=a.add 0:=by rw [add_add]
   rw [e]at h1
   exact⟨_,h1⟩
theorem D9 {n:Nat} {e:TypeId} {k:IntKind} {t:TypeId} {fuel base:Nat} {sp:Nat→Bool} {held:Bool} {cs:List Value} {l:List Int} {q:List MemPlace}(ht:P.underlying t=some (.array n e))(ue:P.underlying e=some (.int k))(ce:P.cellsOf e=1)
 (h:DataW.trod enc P W base sp held fuel t cs=some (.agg (l.map fun x=>.lit (.int k x)),q))(hct:P.cellsOf t=n):cs=l.map (Value.int k):=by
 obtain⟨xs,m,rfl,hx,hl,Y9,hel⟩:=DataW.trod_array ht h
 have hc:cs.length=n:=hl.trans hct
 simp only [Prod.mk.injEq,DataW.agg.injEq]at hx
 have hn:l.length=n:=by have:=congrArg List.length hx.1;simpa [Y9]using this
 refine List.ext_getElem? fun i=>?_
 by_cases hi:i<n
 ·have h1:=hel i hi
  rw [ce,Nat.mul_one]at h1
  have Wd:i<cs.length:=by omega
  rw [show(cs.drop i).take 1= [cs[i]]from by rw [List.drop_eq_getElem_cons Wd];rfl]at h1
  have hi3:i<xs.length:=by omega
  rw [List.getElem?_eq_getElem hi3]at h1
  obtain⟨x,e1,e2,_⟩:=DataW.trod_int ue h1
  have e3:=congrArg (fun z=>z[i]?) hx.1
  simp only [List.getElem?_map,List.getElem?_eq_getElem hi3,Option.map_some,e2]at e3
  have hi4:i<l.length:=by omega
  simp only [List.getElem?_eq_getElem hi4,Option.map_some,Option.some.injEq]at e3
  injection e3 with e3
  injection e3 with _ e3
  injection e1 with e1 _
  rw [List.getElem?_eq_getElem Wd,e1,List.getElem?_map,List.getElem?_eq_getElem hi4,Option.map_some,e3]
 ·rw [List.getElem?_eq_none (by omega),List.getElem?_eq_none (by simp;omega)]
theorem Gx {n:String} {g:Nat} {cs:Array Value} {ps:List MemPlace}(hg:P.globalNamed n=some g)(hv:W.var? P n=some cs)(h0:0<cs.size)(PZ:MemPlace.row ⟨g,0,none⟩ cs.size ⊆ ps)(hc:∀b off,MemPlace.cell b off∈ps→(∃c t,W.heap[b]? =some (.cells c t (0,0)))∧∀u v,W.cell? ⟨b,off,none⟩=some (.iface u v)→Value.okWide P W .any 0 u v):∃T,Blk W g cs T:=by
 have h1:MemPlace.cell g 0∈ps:=PZ (by unfold MemPlace.row;exact List.mem_map.2 ⟨0,List.mem_range.2 h0,rfl⟩)
 obtain⟨⟨c,t,h2⟩,_⟩:=hc _ _ h1
 unfold World.var? at hv
 rw [hg]at hv
 simp only [Option.bind_some,h2,Option.some.injEq]at hv
 subst hv
 exact⟨t,h2⟩
theorem cell_of {g:Nat} {cs:Array Value} {T:TypeId} {p:Addr} {v:Value}(hb:Blk W g cs T)(hg:p.block=g)(h:W.cell? p=some v):v∈cs.toList:=by
 subst hg
 unfold Blk at hb
 unfold World.cell? at h
 rw [hb]at h
 simp only at h
 split at h
 ·cases h
 ·rw [← Array.getElem?_toList]at h
  exact List.mem_of_getElem? h
end
end
end Go.Proofs.YtinhphjfnedhgaaGreatDoor
namespace Go.Proofs.YtinhphjfnedhgaaGreatDoor
open Go.Proofs.Tryz (prog)
open Go Go.RowKit V
open Go.IntKind (i64 u32 u64)
section
set_option maxRecDepth 100000
set_option maxHeartbeats 1000000
attribute [local irreducible] Vc2 VcD
attribute [local grind=] Pd.cN Pd.cy Pd.gm Pd.ia Pd.cj Pd.fx Pd.gl Pd.eU Pd.jO DB.bR
attribute [local grind .] Pd.Ok.ent
attribute [local grind→] Pd.Ok.dV
section
attribute [local grind=] DB.take DB.bM DB.bZ DB.more DB.GD DB.turns
end
section
attribute [local grind=] DB.setState DB.aS DB.KN
end
section
attribute [local grind=] DB.dY DB.cZ DB.aW DB.more Pd.lF Mem.qi DB.vY Ent.wA
end
section
attribute [local grind=] DB.aN DB.aR DB.aV Pd.Bs Pd.GC Pd.pO Pd.IW Mem.bh aq dE Ent.ok Pd.Bi DB.mem_set DB.Ee DB.cB
attribute [local grind→] Pd.Ok.av
end
def own(D:DB)(s:Int):List I64:=if D.bR s then D.eZ s D.S else []
end
end Go.Proofs.YtinhphjfnedhgaaGreatDoor
namespace Go.Proofs.YtinhphjfnedhgaaGreatDoor
open Go.Proofs.Tryz (prog)
open Go Go.RowKit V
open Go.IntKind (i64 u32 u64)
section
set_option maxRecDepth 10000
set_option maxHeartbeats 1000000
theorem Nh {w:World}:
 Calls prog 125 #[] w fun e w'=>∃v,e= .returned v∧∃g:Nat,∃L:DgL,v= .pointer (some (Addr.mk g 0 none))∧pj w' g L Dg.new∧(∀k,L.X g k→w.heap.size≤k)∧Pu w w':=by
 refine B4 ?_
 have hp:=Ch.refl (fun _=>False) w
 refine Calls.mono (Gi) ?_
 rintro e wv ⟨_,rfl,rfl,NP⟩
 refine⟨_,_,_,_,_,_,_,_,rfl,?_⟩
 refine mkd fun gv ND NK=>?_
 have Nz:=NK.blk
 have hp:=Ch.made (Ch.pu hp NP) NK
 exact⟨gv,⟨fun _=>False,none,0,0⟩,rfl,⟨⟨_,Nz⟩,Rd.nil,fun h=>h⟩,by have:=NK.num;have:=NP.size;rintro k (rfl | hk);omega;exact hk.elim,hp⟩
theorem Ni {g:Nat} {L:DgL} {D:Dg} {Z:Nat→Prop} {wordsA:Option Addr} {wordsN:Nat} {wordsC:Nat} {l:List U32} {K:List Int} {w:World}(h:pj w g L D)(hz:Rd w Z wordsA wordsN wordsC l)(hk:mR w 0 K)(ok:D.Ok)(hlen:l.length≤1099511627776)(hzg:¬Z g)(We:¬g=0):
 Calls prog 135 #[(.pointer (some (Addr.mk g 0 none))),(.slice wordsA wordsN wordsC)] w fun e w'=>∃v,e= .returned v∧∃L':DgL,v= .tuple #[]∧pj w' g L' (D.add K l)∧(∀k,(L'.X g) k→(L.X g) k∨w.heap.size≤k)∧Ch (L.X g) w w':=by
 refine B6 (some (Addr.mk g 0 none)) _ _ _ ?_
 have hn:=ok.n
 have hz0:=hz
 have hg9:=h.lt g (.inl rfl)
 have hp:=Ch.refl (L.X g) w
 have OE:=h.lt
 have Y8:=hz.lt
 have Pk:=hk.lt
 obtain⟨⟨hT,hb⟩,hr,RK⟩:=h
 have R3:=hr.lt
 refine ao _ rfl ⟨_,hb.at rfl,?_⟩
 refine ar (fun c1=>?_) (fun c1=>?_)
 ·exact⟨L,rfl,by have hc:(l.length:Int)>36028797018963968 - D.n:=(by have:=hz.len;rw [aq (by omega)]at c1;omega);rw [Dg.add,if_pos hc];exact⟨⟨_,hb⟩,hr,RK⟩,fun k hk=>.inl hk,hp⟩
 ·have hzl:=hz.len
  have RB:=hr.len
  have hn:=ok.n
  have Su:=ok.len
  have VG:=hr.cap
  rw [aq (by omega)]at c1
  refine ao _ rfl ⟨_,hb.at rfl,ao _ rfl (bO hb (by simp) fun wv Sg=>?_)⟩
  have hb:Blk wv g #[(.int .u32 D.st.a),(.int .u32 D.st.b),(.int .u32 D.st.c),(.int .u32 D.st.d),(.int .u32 D.st.e),(.int .u32 D.st.f),(.int .u32 D.st.g),(.int .u32 D.st.h),(.int .i64 (i64.wrap (D.n+((wordsN:Nat):Int)))),(.slice L.a L.n L.c)] _:=Sg.blk.cast (by kernel_rfl)
  refine⟨bXU [] [3,7,12] wv.drew (fun _=>False),?_⟩
  have hb:=Blk.drew hb
  refine ao _ rfl ⟨.inl (by decide),_,_,_,hb.at rfl,ao _ rfl ⟨.inl (by decide),_,_,_,hb.at rfl,ao _ rfl ⟨.inl (by decide),_,_,_,hb.at rfl,⟨by omega,⟨by omega,?_⟩⟩⟩⟩⟩
  have hr:=(hr.ch Sg.ch (fun k hx e=>(RK) (e▸hx))).pu (Pu.bj _)
  rintro U9 VU U6 VS U7 VT
  have Ve:=Rd.all hr VU VS VT (by omega) (by omega)
  have hz:=(hz.ch Sg.ch (fun k hx e=>(hzg) (e▸hx))).pu (Pu.bj _)
  have hp:=Ch.drew (Ch.call hp Sg.ch (by exact fun k hk=>.inl (.inl hk)))
  refine LO CN Ve (by omega) hz (by omega) (by omega) fun A_wv1 c_wv1 ND Y7 NH=>?_
  refine bXU.sD NH (by decide) ?_
  have hp:=Ch.pu hp NH
  have hz:=hz.pu NH
  have hk:=((hk.ch Sg.ch (fun k hx e=>(We) (e▸hx))).pu (Pu.bj _)).pu NH
  have hb:=Pu.blk NH hb
  refine⟨fun mz leftA leftN leftC W=>∃Z_ll:Nat→Prop,∃ll:List U32,∃S:S8,∃n2:Int,mz=ll.length∧(eu K S ll=eu K D.st (D.waits++l))∧(¬Z_ll g)∧(ll.length≤1099511627800)∧(n2=D.n+l.length)∧Rd W Z_ll leftA leftN leftC ll∧Ch (L.X g) w W∧Rd W Z wordsA wordsN wordsC l∧mR W 0 K∧Blk W g #[(.int .u32 S.a),(.int .u32 S.b),(.int .u32 S.c),(.int .u32 S.d),(.int .u32 S.e),(.int .u32 S.f),(.int .u32 S.g),(.int .u32 S.h),(.int .i64 n2),(.slice L.a L.n L.c)] hT,⟨_,(fun k=>(L.Y k∨wv.drew.heap.size≤k)∧k<ND.heap.size),(D.waits++l),D.st,_,rfl,rfl,(by rintro⟨h | h,_⟩;exact RK h;exact absurd (Nat.lt_of_lt_of_le hg9 (Nat.le_trans Sg.kept.size h)) (Nat.lt_irrefl _)),(by rw [List.length_append];omega),(by rw [aq (by omega)];omega),Y7,hp,hz,hk,hb⟩,?_⟩
  rintro _ _ leftA leftN leftC NF ⟨Z_ll,ll,S,n2,rfl,hI,hlz,hlb,R5,O6,hp,hz,hk,hb⟩
  refine ar (fun c2=>?_) (fun c2=>?_)
  ·refine⟨bXU [] [4,7] NF.drew (fun _=>False),?_⟩
   have hb:=Blk.drew hb
   have O6:=O6.pu (Pu.bj _)
   refine ao _ rfl ⟨.inl (by decide),_,_,_,_,_,_,_,_,⟨hb.at2 rfl,hb.at2 rfl,hb.at2 rfl,hb.at2 rfl,hb.at2 rfl,hb.at2 rfl,hb.at2 rfl,hb.at2 rfl⟩,⟨by omega,?_⟩⟩
   obtain⟨p3,ha3,hz3,Qu⟩:=O6.u32 (by omega)
   refine ao p3 ha3 ⟨.inl (by decide),_,_,_,_,_,_,_,_,_,_,_,_,_,_,_,_,⟨Qu 0 (by omega),Qu 1 (by omega),Qu 2 (by omega),Qu 3 (by omega),Qu 4 (by omega),Qu 5 (by omega),Qu 6 (by omega),Qu 7 (by omega),Qu 8 (by omega),Qu 9 (by omega),Qu 10 (by omega),Qu 11 (by omega),Qu 12 (by omega),Qu 13 (by omega),Qu 14 (by omega),Qu 15 (by omega)⟩,?_⟩
   have hk:=hk.pu (Pu.bj _)
   refine Calls.mono (Lc hk _ _ _ _ _ _ _ _ _ _ _ _ _ _ _ _ _ _ _ _ _ _ _ _) ?_
   rintro e NI ⟨_,rfl,rfl,N0⟩
   refine⟨_,_,_,_,_,_,_,_,rfl,?_⟩
   refine bXU.sD N0 (by decide) ?_
   have hb:=Pu.blk N0 hb
   refine ao _ rfl (bO hb (by simp) fun NM NR=>?_)
   have hb:Blk NM g #[(.int .u32 ((j5 K (S8.mk S.a S.b S.c S.d S.e S.f S.g S.h) [((ll.getD 0 ⟨0⟩).v),((ll.getD 1 ⟨0⟩).v),((ll.getD 2 ⟨0⟩).v),((ll.getD 3 ⟨0⟩).v),((ll.getD 4 ⟨0⟩).v),((ll.getD 5 ⟨0⟩).v),((ll.getD 6 ⟨0⟩).v),((ll.getD 7 ⟨0⟩).v),((ll.getD 8 ⟨0⟩).v),((ll.getD 9 ⟨0⟩).v),((ll.getD 10 ⟨0⟩).v),((ll.getD 11 ⟨0⟩).v),((ll.getD 12 ⟨0⟩).v),((ll.getD 13 ⟨0⟩).v),((ll.getD 14 ⟨0⟩).v),((ll.getD 15 ⟨0⟩).v)]).a)),(.int .u32 ((j5 K (S8.mk S.a S.b S.c S.d S.e S.f S.g S.h) [((ll.getD 0 ⟨0⟩).v),((ll.getD 1 ⟨0⟩).v),((ll.getD 2 ⟨0⟩).v),((ll.getD 3 ⟨0⟩).v),((ll.getD 4 ⟨0⟩).v),((ll.getD 5 ⟨0⟩).v),((ll.getD 6 ⟨0⟩).v),((ll.getD 7 ⟨0⟩).v),((ll.getD 8 ⟨0⟩).v),((ll.getD 9 ⟨0⟩).v),((ll.getD 10 ⟨0⟩).v),((ll.getD 11 ⟨0⟩).v),((ll.getD 12 ⟨0⟩).v),((ll.getD 13 ⟨0⟩).v),((ll.getD 14 ⟨0⟩).v),((ll.getD 15 ⟨0⟩).v)]).b)),(.int .u32 ((j5 K (S8.mk S.a S.b S.c S.d S.e S.f S.g S.h) [((ll.getD 0 ⟨0⟩).v),((ll.getD 1 ⟨0⟩).v),((ll.getD 2 ⟨0⟩).v),((ll.getD 3 ⟨0⟩).v),((ll.getD 4 ⟨0⟩).v),((ll.getD 5 ⟨0⟩).v),((ll.getD 6 ⟨0⟩).v),((ll.getD 7 ⟨0⟩).v),((ll.getD 8 ⟨0⟩).v),((ll.getD 9 ⟨0⟩).v),((ll.getD 10 ⟨0⟩).v),((ll.getD 11 ⟨0⟩).v),((ll.getD 12 ⟨0⟩).v),((ll.getD 13 ⟨0⟩).v),((ll.getD 14 ⟨0⟩).v),((ll.getD 15 ⟨0⟩).v)]).c)),(.int .u32 ((j5 K (S8.mk S.a S.b S.c S.d S.e S.f S.g S.h) [((ll.getD 0 ⟨0⟩).v),((ll.getD 1 ⟨0⟩).v),((ll.getD 2 ⟨0⟩).v),((ll.getD 3 ⟨0⟩).v),((ll.getD 4 ⟨0⟩).v),((ll.getD 5 ⟨0⟩).v),((ll.getD 6 ⟨0⟩).v),((ll.getD 7 ⟨0⟩).v),((ll.getD 8 ⟨0⟩).v),((ll.getD 9 ⟨0⟩).v),((ll.getD 10 ⟨0⟩).v),((ll.getD 11 ⟨0⟩).v),((ll.getD 12 ⟨0⟩).v),((ll.getD 13 ⟨0⟩).v),((ll.getD 14 ⟨0⟩).v),((ll.getD 15 ⟨0⟩).v)]).d)),(.int .u32 ((j5 K (S8.mk S.a S.b S.c S.d S.e S.f S.g S.h) [((ll.getD 0 ⟨0⟩).v),((ll.getD 1 ⟨0⟩).v),((ll.getD 2 ⟨0⟩).v),((ll.getD 3 ⟨0⟩).v),((ll.getD 4 ⟨0⟩).v),((ll.getD 5 ⟨0⟩).v),((ll.getD 6 ⟨0⟩).v),((ll.getD 7 ⟨0⟩).v),((ll.getD 8 ⟨0⟩).v),((ll.getD 9 ⟨0⟩).v),((ll.getD 10 ⟨0⟩).v),((ll.getD 11 ⟨0⟩).v),((ll.getD 12 ⟨0⟩).v),((ll.getD 13 ⟨0⟩).v),((ll.getD 14 ⟨0⟩).v),((ll.getD 15 ⟨0⟩).v)]).e)),(.int .u32 ((j5 K (S8.mk S.a S.b S.c S.d S.e S.f S.g S.h) [((ll.getD 0 ⟨0⟩).v),((ll.getD 1 ⟨0⟩).v),((ll.getD 2 ⟨0⟩).v),((ll.getD 3 ⟨0⟩).v),((ll.getD 4 ⟨0⟩).v),((ll.getD 5 ⟨0⟩).v),((ll.getD 6 ⟨0⟩).v),((ll.getD 7 ⟨0⟩).v),((ll.getD 8 ⟨0⟩).v),((ll.getD 9 ⟨0⟩).v),((ll.getD 10 ⟨0⟩).v),((ll.getD 11 ⟨0⟩).v),((ll.getD 12 ⟨0⟩).v),((ll.getD 13 ⟨0⟩).v),((ll.getD 14 ⟨0⟩).v),((ll.getD 15 ⟨0⟩).v)]).f)),(.int .u32 ((j5 K (S8.mk S.a S.b S.c S.d S.e S.f S.g S.h) [((ll.getD 0 ⟨0⟩).v),((ll.getD 1 ⟨0⟩).v),((ll.getD 2 ⟨0⟩).v),((ll.getD 3 ⟨0⟩).v),((ll.getD 4 ⟨0⟩).v),((ll.getD 5 ⟨0⟩).v),((ll.getD 6 ⟨0⟩).v),((ll.getD 7 ⟨0⟩).v),((ll.getD 8 ⟨0⟩).v),((ll.getD 9 ⟨0⟩).v),((ll.getD 10 ⟨0⟩).v),((ll.getD 11 ⟨0⟩).v),((ll.getD 12 ⟨0⟩).v),((ll.getD 13 ⟨0⟩).v),((ll.getD 14 ⟨0⟩).v),((ll.getD 15 ⟨0⟩).v)]).g)),(.int .u32 ((j5 K (S8.mk S.a S.b S.c S.d S.e S.f S.g S.h) [((ll.getD 0 ⟨0⟩).v),((ll.getD 1 ⟨0⟩).v),((ll.getD 2 ⟨0⟩).v),((ll.getD 3 ⟨0⟩).v),((ll.getD 4 ⟨0⟩).v),((ll.getD 5 ⟨0⟩).v),((ll.getD 6 ⟨0⟩).v),((ll.getD 7 ⟨0⟩).v),((ll.getD 8 ⟨0⟩).v),((ll.getD 9 ⟨0⟩).v),((ll.getD 10 ⟨0⟩).v),((ll.getD 11 ⟨0⟩).v),((ll.getD 12 ⟨0⟩).v),((ll.getD 13 ⟨0⟩).v),((ll.getD 14 ⟨0⟩).v),((ll.getD 15 ⟨0⟩).v)]).h)),(.int .i64 n2),(.slice L.a L.n L.c)] _:=NR.blk.cast (by kernel_rfl)
   refine bXU.grow NR.ch ?_
   refine⟨by omega,?_⟩
   have O6:=(O6.pu N0).ch NR.ch (fun k hx e=>(hlz) (e▸hx))
   rintro Sc VR Sa VP Sb VQ
   have Vd:=Rd.from_ (lo:=16) O6 VR VP VQ (by omega) (by have:=O6.cap;omega)
   have hp:=Ch.call (Ch.pu (Ch.drew hp) N0) NR.ch (by exact fun k hk=>.inl (.inl hk))
   have hz:=((hz.pu (Pu.bj _)).pu N0).ch NR.ch (fun k hx e=>(hzg) (e▸hx))
   have hk:=(hk.pu N0).ch NR.ch (fun k hx e=>(We) (e▸hx))
   exact⟨_,by rw [List.length_drop];have:=O6.len;omega,Z_ll,(ll.drop 16),(j5 K S ((ll.take 16).map U32.v)),n2,rfl,(by rw [← hI,← ju (by have:=O6.len;omega)]),hlz,(by rw [List.length_drop];omega),R5,Vd,hp,hz,hk,hb.cast (M0 (congrArg (Value.int .u32) (by rw [lq (by have:=O6.len;omega)])) (congrArg (Value.int .u32) (by rw [lq (by have:=O6.len;omega)])) (congrArg (Value.int .u32) (by rw [lq (by have:=O6.len;omega)])) (congrArg (Value.int .u32) (by rw [lq (by have:=O6.len;omega)])) (congrArg (Value.int .u32) (by rw [lq (by have:=O6.len;omega)])) (congrArg (Value.int .u32) (by rw [lq (by have:=O6.len;omega)])) (congrArg (Value.int .u32) (by rw [lq (by have:=O6.len;omega)])) (congrArg (Value.int .u32) (by rw [lq (by have:=O6.len;omega)])) (rfl) (rfl))⟩
  ·have Vk:=hp.size
   have hog:¬NF.heap.size≤g:=by omega
   refine rE CN O6 (by omega) (by omega) fun A_wv3 P2 NI O8 N0=>?_
   have hb:=Pu.blk N0 hb
   refine ao _ rfl (bO hb (by simp) fun NM NR=>?_)
   have hb:Blk NM g #[(.int .u32 S.a),(.int .u32 S.b),(.int .u32 S.c),(.int .u32 S.d),(.int .u32 S.e),(.int .u32 S.f),(.int .u32 S.g),(.int .u32 S.h),(.int .i64 n2),(.slice A_wv3 leftN P2)] _:=NR.blk.cast (by kernel_rfl)
   have O8:=O8.ch NR.ch (fun k hx e=>hog (e▸hx.1))
   have hp:=Ch.call (Ch.pu hp N0) NR.ch (by exact fun k hk=>.inl (.inl hk))
   exact⟨⟨fun k=>NF.heap.size≤k∧k<NM.heap.size,A_wv3,leftN,P2⟩,rfl,by have hn:=ok.n;have hc:¬(l.length:Int)>36028797018963968 - D.n:=(by have:=hz0.len;omega);have ha:eu K D.st (D.waits++l)=(S,ll):=(by rw [← hI,gQ (by have:=O6.len;omega)]);rw [Dg.add,if_neg hc,ha];exact⟨⟨_,Blk.cast hb (by rw [← R5])⟩,(O8).Li (fun k hk=>⟨hk.1.1,hk.2⟩) (fun k hk=>hk.2),fun h=>absurd h.1 hog⟩,fun k hk=>hk.elim (fun e=>.inl (.inl e)) (fun h=>.inr (Nat.le_trans Vk h.1)),hp⟩
theorem Mi {g:Nat} {L:DgL} {D:Dg} {w:World}(h:pj w g L D)(ok:D.Ok):
 Calls prog 126 #[(.pointer (some (Addr.mk g 0 none)))] w fun e w'=>∃v,e= .returned v∧v= .agg (bI D.save)∧Pu w w':=by
 refine zJ (some (Addr.mk g 0 none)) ?_
 have Zb:=h.rd.len
 have Su:=ok.len
 have hp:=Ch.refl (fun _=>False) w
 have OE:=h.lt
 obtain⟨⟨hT,hb⟩,hr,RK⟩:=h
 have R3:=hr.lt
 refine mkd fun gv wv NK=>?_
 have NN:=NK.lo hp
 have aai:=NK.ne hb
 have Nz:Blk wv gv (bI (List.replicate 26 0)) _:=NK.blk.cast (fL _ _)
 have hp:=Ch.made hp NK
 have hb:=Made.old NK hb
 refine mkd fun NJ ND NX=>?_
 have O4:=NX.lo hp
 have Qm:=NX.ne hb
 have OW:=NX.ne Nz
 have NC:Blk ND NJ (bI (List.replicate 26 0)) _:=NX.blk.cast (fL _ _)
 refine⟨bXU [] [] ND.drew (fun _=>False),?_⟩
 refine⟨by omega,?_⟩
 rintro _ rfl _ rfl _ rfl
 refine ao _ rfl ?_
 rintro _ rfl _ rfl _ rfl
 have NC:=Blk.drew NC
 have hb:=Blk.drew (Made.old NX hb)
 refine oF oa NC (o:=0) rfl (by(simp;done)) (dy.pre (Z:=fun _=>True) (o:=0) (r:= [D.st.a,D.st.b,D.st.c,D.st.d,D.st.e,D.st.f,D.st.g,D.st.h]) hb trivial rfl (by(simp;done)) (by rfl) (by rfl)) (by(simp;done)) fun NF OA=>?_
 have NC:=OA.blk
 refine bXU.sD OA.ch (by decide) ?_
 refine⟨bXU [] [3,10] NF.drew (fun _=>False),?_⟩
 have hb:=Blk.drew (Ch.blk OA.ch hb (Qm))
 have NC:=Blk.drew NC
 refine ao _ rfl ⟨.inl (by decide),_,hb.at rfl,ao _ rfl ⟨.inl (by decide),_,hb.at rfl,⟨by decide,nh (i:=8) NC (by(simp;done)) fun NI NO=>?_⟩⟩⟩
 have NC:=NO.blk
 refine bXU.sD NO.ch (by decide) ?_
 refine⟨by decide,nh (i:=9) NC (by(simp;done)) fun NM NR=>?_⟩
 have NC:=NR.blk
 refine bXU.grow NR.ch ?_
 refine⟨bXU [] [4] NM.drew (fun _=>False),?_⟩
 refine⟨by omega,?_⟩
 rintro _ rfl _ rfl _ rfl
 have hb:=Blk.drew (Ch.blk NR.ch (Ch.blk NO.ch hb (Qm)) (Qm))
 refine ao _ rfl ⟨.inl (by decide),_,_,_,hb.at rfl,?_⟩
 have NC:=Blk.drew NC
 have hr:=(((((((hr.pu NK.pu).pu NX.pu).pu (Pu.bj _)).ch OA.ch (fun k hx e=>(fun hx=>absurd (R3 _ hx) (Nat.not_lt.2 O4)) (e▸hx))).pu (Pu.bj _)).ch NO.ch (fun k hx e=>(fun hx=>absurd (R3 _ hx) (Nat.not_lt.2 O4)) (e▸hx))).ch NR.ch (fun k hx e=>(fun hx=>absurd (R3 _ hx) (Nat.not_lt.2 O4)) (e▸hx))).pu (Pu.bj _)
 refine oF oa NC (o:=10) rfl (by(simp;done)) (hr).ints (by(simp;omega)) fun NZ Pj=>?_
 have NC:=Pj.blk
 refine bXU.sD Pj.ch (by decide) ?_
 have Nz:=Ch.blk Pj.ch (Blk.drew (Ch.blk NR.ch (Ch.blk NO.ch (Blk.drew (Ch.blk OA.ch (Blk.drew (Made.old NX Nz)) (OW))) (OW)) (OW))) (OW)
 refine⟨bI (jg (((jg (List.replicate 26 0) 0 ([D.st.a,D.st.b,D.st.c,D.st.d,D.st.e,D.st.f,D.st.g,D.st.h].take (min (8 - 0) ((Int.toNat 8) - 0)))).set 8 (u32.wrap ((u64.wrap D.n:Int).fdiv (2 ^ 32)))).set 9 (u32.wrap D.n)) 10 ((List.map U32.v D.waits).take (min L.n (26 - (Int.toNat 10))))),NC.vN (by(simp;done)),⟨by rw [eV];(simp;done),oc,pC Nz (by(simp;done)) fun Ol Ut=>?_⟩⟩
 have Nz:=Ut.blk
 refine⟨bI (jg (((jg (List.replicate 26 0) 0 ([D.st.a,D.st.b,D.st.c,D.st.d,D.st.e,D.st.f,D.st.g,D.st.h].take (min (8 - 0) ((Int.toNat 8) - 0)))).set 8 (u32.wrap ((u64.wrap D.n:Int).fdiv (2 ^ 32)))).set 9 (u32.wrap D.n)) 10 ((List.map U32.v D.waits).take (min L.n (26 - (Int.toNat 10))))),Nz.vN (by(simp;done)),?_⟩
 have hp:=Ch.call (Ch.call (Ch.drew (Ch.call (Ch.call (Ch.drew (Ch.call (Ch.drew (Ch.made hp NX)) OA.ch (by exact fun k e=>.inr (e▸O4)))) NO.ch (by exact fun k e=>.inr (e▸O4))) NR.ch (by exact fun k e=>.inr (e▸O4)))) Pj.ch (by exact fun k e=>.inr (e▸O4))) Ut.ch (by exact fun k e=>.inr (e▸NN))
 exact⟨congrArg (fun l=>Value.agg (bI l)) (by exact Dg.save_eq ok (Dg.K7 ok.n) (u32_eq _) Zb),hp⟩
theorem KK {Z:Nat→Prop} {wordsA:Option Addr} {wordsN:Nat} {wordsC:Nat} {l:List U32} {w:World}(hz:Rd w Z wordsA wordsN wordsC l)(hw:∀x∈l,0≤x.v∧x.v<4294967296):
 Calls prog 70 #[(.slice wordsA wordsN wordsC)] w fun e w'=>∃v,e= .returned v∧∃p:Option Addr,v= .tuple #[(.pointer p),(.int .i64 (Dg.ay l))]∧(Dg.ay l=0→∃g L,p=some (Addr.mk g 0 none)∧pj w' g L (Dg.load l)∧∀k,L.X g k→w.heap.size≤k)∧Pu w w':=by
 refine zL _ _ _ ?_
 have hl:=hz.len
 have VG:=hz.cap
 have hp:=Ch.refl (fun _=>False) w
 have Y8:=hz.lt
 refine aL (fun c1=>?_) (fun c1=>?_)
 ·exact⟨none,congrArg Value.tuple (ud (rfl) (congrArg (Value.int .i64) (by rw [Dg.ou (by omega)]))),fun h=>absurd h (by rw [Dg.ou (by omega)];omega),hp⟩
 ·have Qs:l.length=26:=by omega
  have Zw:=Dg.nOf_eq hw Qs
  refine⟨by omega,?_⟩
  obtain⟨p2,ZT,V4,SA⟩:=hz.u32 (by omega)
  refine ao p2 ZT ?_
  have hz:=hz.pu (Pu.bj _)
  refine⟨_,SA 8 (by omega),⟨by omega,?_⟩⟩
  obtain⟨p3,ha3,hz3,Qu⟩:=hz.u32 (by omega)
  refine ao p3 ha3 ⟨_,Qu 9 (by omega),?_⟩
  rintro n e_n
  obtain rfl:n=Dg.nOf l:=e_n.trans (by exact Zw.1)
  refine⟨by omega,⟨by omega,?_⟩⟩
  rintro QN VX QM VV Rb VW
  have Vf:=Rd.cut (lo:=0) (hi:=(Int.toNat 8)) hz VX VV VW (by omega) (by omega) (by omega)
  refine⟨by omega,?_⟩
  obtain⟨p4,ha4,hz4,UN⟩:=Vf.u32 (by omega)
  refine ao p4 ha4 ⟨_,_,_,_,_,_,_,_,⟨UN 0 (by omega),UN 1 (by omega),UN 2 (by omega),UN 3 (by omega),UN 4 (by omega),UN 5 (by omega),UN 6 (by omega),UN 7 (by omega)⟩,?_⟩
  have hp:=Ch.drew hp
  refine mkd fun gv wv NK=>?_
  have NN:=NK.lo hp
  have Nz:=NK.blk
  refine⟨_,?_,fun _ PM ND h=>h⟩
  refine⟨bXU [9] [] wv.drew (fun _=>False),?_⟩
  refine ar (fun c5=>?_) (fun c5=>?_)
  ·refine dN ?_
   have hp:=Ch.drew (Ch.made hp NK)
   exact⟨none,congrArg Value.tuple (ud (rfl) (congrArg (Value.int .i64) (by rw [Dg.im Qs (.inl c5)]))),fun h=>absurd h (by rw [Dg.im Qs (.inl c5)];omega),hp⟩
  ·refine ar (fun c6=>?_) (fun c6=>?_)
   ·have Nz:=Blk.drew Nz
    refine⟨.inr ⟨by decide,bX.ld Nz (fun h=>h) _⟩,_,_,_,_,_,_,_,_,⟨Nz.at2 rfl,Nz.at2 rfl,Nz.at2 rfl,Nz.at2 rfl,Nz.at2 rfl,Nz.at2 rfl,Nz.at2 rfl,Nz.at2 rfl⟩,?_⟩
    refine Calls.mono (Gi) ?_
    rintro e ND ⟨_,rfl,rfl,NH⟩
    refine⟨_,_,_,_,_,_,_,_,rfl,?_⟩
    refine bXU.gg NH (by decide) ?_
    refine bL (fun c7=>?_) (fun c7=>?_)
    ·have PF:Dg.kq l≠S8.first:=by intro h;simp [Dg.kq,S8.first]at h;simp [bN,eqL,mT,S8.first,h]at c7
     have hp:=Ch.pu (Ch.drew (Ch.made hp NK)) NH
     exact⟨none,congrArg Value.tuple (ud (rfl) (congrArg (Value.int .i64) (by rw [Dg.im Qs (.inr ⟨c6,PF⟩)]))),fun h=>absurd h (by rw [Dg.im Qs (.inr ⟨c6,PF⟩)];omega),hp⟩
    ·have PF:Dg.kq l=S8.first:=by simp [bN,eqL,mT,S8.first]at c7;simp [Dg.kq,S8.first,c7]
     have hg:¬(Dg.nOf l>36028797018963968∨(Dg.nOf l<16∧Dg.kq l≠S8.first)):=by rintro(h | h);exact c5 h;exact h.2 PF
     rintro waits Q1
     obtain rfl:waits=Dg.nOf l % 16:=Q1.trans (by rw [Int.tmod_eq_emod_of_nonneg Zw.2.1,aq (by omega)])
     refine⟨by(simp only [IntKind.wrap_i64];omega),?_⟩
     have hz:=((hz.pu NK.pu).pu (Pu.bj _)).pu NH
     rintro R8 RW Qd RU SI RV
     have O3:=Rd.from_ (lo:=(Int.toNat (i64.wrap (10+(Dg.nOf l % 16))))) hz RW RU RV (by(rw [Dg.lo_eq];omega)) (by have:=hz.cap;omega)
     have hp:=Ch.pu (Ch.drew (Ch.made hp NK)) NH
     have Nz:=Pu.blk NH Nz
     refine⟨fun mz Qy W=>mz=(Qd - Qy).toNat∧(0≤Qy∧Qy≤Qd)∧(∀(i:Nat)(x:U32),i<Qy.toNat→(l.drop (10+(Dg.nOf l % 16).toNat))[i]? =some x→x.v=0)∧Ch (fun _=>False) w W∧Rd W Z wordsA wordsN wordsC l∧Blk W gv #[(.int .u32 ((((l.drop 0).take ((Int.toNat 8) - 0)).getD 0 ⟨0⟩).v)),(.int .u32 ((((l.drop 0).take ((Int.toNat 8) - 0)).getD 1 ⟨0⟩).v)),(.int .u32 ((((l.drop 0).take ((Int.toNat 8) - 0)).getD 2 ⟨0⟩).v)),(.int .u32 ((((l.drop 0).take ((Int.toNat 8) - 0)).getD 3 ⟨0⟩).v)),(.int .u32 ((((l.drop 0).take ((Int.toNat 8) - 0)).getD 4 ⟨0⟩).v)),(.int .u32 ((((l.drop 0).take ((Int.toNat 8) - 0)).getD 5 ⟨0⟩).v)),(.int .u32 ((((l.drop 0).take ((Int.toNat 8) - 0)).getD 6 ⟨0⟩).v)),(.int .u32 ((((l.drop 0).take ((Int.toNat 8) - 0)).getD 7 ⟨0⟩).v)),(.int .i64 (i64.wrap (Dg.nOf l))),(.slice none 0 0)] 228∧Rd W Z R8 Qd SI (l.drop (Int.toNat (i64.wrap (10+(Dg.nOf l % 16))))),⟨_,rfl,(by omega),(by intro i x h;omega),hp,hz,Nz,O3⟩,?_⟩
     rintro _ _ Qy NF ⟨rfl,h0,hq,hp,hz,Nz,O3⟩
     refine ar (fun c8=>?_) (fun c8=>?_)
     ·obtain⟨p9,x9,ha9,V5,V3,hc9⟩:=O3.ld (i:=Qy) (by omega) (by omega)
      refine⟨by constructor<;>omega,ao p9 ha9 ⟨_,hc9 0 (by decide),?_⟩⟩
      refine aL (fun Tr=>?_) (fun Tr=>?_)
      ·exact⟨none,congrArg Value.tuple (ud (rfl) (congrArg (Value.int .i64) (by rw [Dg.lo_eq]at V5;rw [Dg.fF Qs hg V5 Tr]))),fun h=>absurd h (by rw [Dg.fF Qs hg (Dg.lo_eq▸V5) Tr];omega),hp⟩
      ·exact⟨_,by rw [IntKind.wrap_i64];omega,rfl,by rw [IntKind.wrap_i64];omega,by rw [aq (by omega)];intro i x hi hx;by_cases he:i=Qy.toNat;(subst he;(rw [Dg.lo_eq]at V5;rw [hx]at V5;injection V5 with e;rw [e];simpa using Tr));exact hq i x (by omega) hx,hp,hz,Nz,O3⟩
     ·have V3:=hp
      have hgw:gv<NF.heap.size:=Nz.lt
      refine⟨by(simp only [IntKind.wrap_i64];omega),⟨by(simp only [IntKind.wrap_i64];omega),⟨by(simp only [IntKind.wrap_i64];omega),?_⟩⟩⟩
      rintro TH RT Q6 RQ TG RR
      have RI:=Rd.cut (lo:=10) (hi:=(Int.toNat (i64.wrap (10+(Dg.nOf l % 16))))) hz RT RQ RR (by(rw [Dg.lo_eq];omega)) (by(rw [Dg.lo_eq];omega)) (by omega)
      refine rE CN RI (by have:= @Dg.lo_eq l;omega) (by have:= @Dg.lo_eq l;omega) fun A_wv3 P2 NI O8 N0=>?_
      have Nz:=Pu.blk N0 Nz
      refine bO Nz (by simp) fun NM NR=>?_
      have Nz:Blk NM gv #[(.int .u32 ((((l.drop 0).take ((Int.toNat 8) - 0)).getD 0 ⟨0⟩).v)),(.int .u32 ((((l.drop 0).take ((Int.toNat 8) - 0)).getD 1 ⟨0⟩).v)),(.int .u32 ((((l.drop 0).take ((Int.toNat 8) - 0)).getD 2 ⟨0⟩).v)),(.int .u32 ((((l.drop 0).take ((Int.toNat 8) - 0)).getD 3 ⟨0⟩).v)),(.int .u32 ((((l.drop 0).take ((Int.toNat 8) - 0)).getD 4 ⟨0⟩).v)),(.int .u32 ((((l.drop 0).take ((Int.toNat 8) - 0)).getD 5 ⟨0⟩).v)),(.int .u32 ((((l.drop 0).take ((Int.toNat 8) - 0)).getD 6 ⟨0⟩).v)),(.int .u32 ((((l.drop 0).take ((Int.toNat 8) - 0)).getD 7 ⟨0⟩).v)),(.int .i64 (i64.wrap (Dg.nOf l))),(.slice A_wv3 Q6 P2)] _:=NR.blk.cast (by kernel_rfl)
      have O8:=O8.ch NR.ch (fun k hx e=>absurd hx.1 (by omega))
      have hp:=Ch.call (Ch.pu hp N0) NR.ch (by exact fun k e=>.inr (e▸NN))
      exact⟨_,congrArg Value.tuple (ud (rfl) (congrArg (Value.int .i64) (by rw [(Dg.nr Qs hg (fun i x hx=>hq i x (by have:=(List.getElem?_eq_some_iff.1 hx).1;rw [List.length_drop]at this;have:= @Dg.lo_eq l;omega) hx))]))),fun _=>⟨gv,⟨fun k=>(NF.heap.size≤k∧k<NI.heap.size)∧k<NM.heap.size,A_wv3,Q6,P2⟩,rfl,⟨⟨_,Blk.cast Nz (by simp [Dg.load,Dg.kq];have:=Zw.2;exact(aq (x:=Dg.nOf l) (by omega)).symm)⟩,by have h9:=(O8).rd;have h8:= @Dg.lo_eq l;have e:Dg.load l=⟨Dg.kq l,Dg.nOf l,(l.drop 10).take (Int.toNat (i64.wrap (10+Dg.nOf l % 16)) - 10)⟩:=(by rw [h8,Nat.add_sub_cancel_left];rfl);rw [e];exact h9,by intro h;exact absurd h.1.1 (by have:=NK.num;have:=V3.size;omega)⟩,fun k hk=>hk.elim (fun e=>by rw [e];exact NN) (fun h=>by have:=V3.size;have:=h.1.1;omega)⟩,hp⟩
   ·have hg:¬(Dg.nOf l>36028797018963968∨(Dg.nOf l<16∧Dg.kq l≠S8.first)):=by rintro(h | h);exact c5 h;exact c6 h.1
    refine jm ?_
    rintro waits Q1
    obtain rfl:waits=Dg.nOf l % 16:=Q1.trans (by rw [Int.tmod_eq_emod_of_nonneg Zw.2.1,aq (by omega)])
    refine⟨by(simp only [IntKind.wrap_i64];omega),?_⟩
    have hz:=(hz.pu NK.pu).pu (Pu.bj _)
    rintro R8 RW Qd RU SI RV
    have O3:=Rd.from_ (lo:=(Int.toNat (i64.wrap (10+(Dg.nOf l % 16))))) hz RW RU RV (by(rw [Dg.lo_eq];omega)) (by have:=hz.cap;omega)
    have hp:=Ch.drew (Ch.made hp NK)
    have Nz:=Blk.drew Nz
    refine⟨fun mz Qy W=>mz=(Qd - Qy).toNat∧(0≤Qy∧Qy≤Qd)∧(∀(i:Nat)(x:U32),i<Qy.toNat→(l.drop (10+(Dg.nOf l % 16).toNat))[i]? =some x→x.v=0)∧Ch (fun _=>False) w W∧Rd W Z wordsA wordsN wordsC l∧Blk W gv #[(.int .u32 ((((l.drop 0).take ((Int.toNat 8) - 0)).getD 0 ⟨0⟩).v)),(.int .u32 ((((l.drop 0).take ((Int.toNat 8) - 0)).getD 1 ⟨0⟩).v)),(.int .u32 ((((l.drop 0).take ((Int.toNat 8) - 0)).getD 2 ⟨0⟩).v)),(.int .u32 ((((l.drop 0).take ((Int.toNat 8) - 0)).getD 3 ⟨0⟩).v)),(.int .u32 ((((l.drop 0).take ((Int.toNat 8) - 0)).getD 4 ⟨0⟩).v)),(.int .u32 ((((l.drop 0).take ((Int.toNat 8) - 0)).getD 5 ⟨0⟩).v)),(.int .u32 ((((l.drop 0).take ((Int.toNat 8) - 0)).getD 6 ⟨0⟩).v)),(.int .u32 ((((l.drop 0).take ((Int.toNat 8) - 0)).getD 7 ⟨0⟩).v)),(.int .i64 (i64.wrap (Dg.nOf l))),(.slice none 0 0)] 228∧Rd W Z R8 Qd SI (l.drop (Int.toNat (i64.wrap (10+(Dg.nOf l % 16))))),⟨_,rfl,(by omega),(by intro i x h;omega),hp,hz,Nz,O3⟩,?_⟩
    rintro _ _ Qy NF ⟨rfl,h0,hq,hp,hz,Nz,O3⟩
    refine ar (fun VZ=>?_) (fun VZ=>?_)
    ·obtain⟨p12,Oz,abL,Sk,hz12,abG⟩:=O3.ld (i:=Qy) (by omega) (by omega)
     refine⟨by constructor<;>omega,ao p12 abL ⟨_,abG 0 (by decide),?_⟩⟩
     refine aL (fun Wl=>?_) (fun Wl=>?_)
     ·exact⟨none,congrArg Value.tuple (ud (rfl) (congrArg (Value.int .i64) (by rw [Dg.lo_eq]at Sk;rw [Dg.fF Qs hg Sk Wl]))),fun h=>absurd h (by rw [Dg.fF Qs hg (Dg.lo_eq▸Sk) Wl];omega),hp⟩
     ·exact⟨_,by rw [IntKind.wrap_i64];omega,rfl,by rw [IntKind.wrap_i64];omega,by rw [aq (by omega)];intro i x hi hx;by_cases he:i=Qy.toNat;(subst he;(rw [Dg.lo_eq]at Sk;rw [hx]at Sk;injection Sk with e;rw [e];simpa using Wl));exact hq i x (by omega) hx,hp,hz,Nz,O3⟩
    ·have V3:=hp
     have hgw:gv<NF.heap.size:=Nz.lt
     refine⟨by(simp only [IntKind.wrap_i64];omega),⟨by(simp only [IntKind.wrap_i64];omega),⟨by(simp only [IntKind.wrap_i64];omega),?_⟩⟩⟩
     rintro TH RT Q6 RQ TG RR
     have RI:=Rd.cut (lo:=10) (hi:=(Int.toNat (i64.wrap (10+(Dg.nOf l % 16))))) hz RT RQ RR (by(rw [Dg.lo_eq];omega)) (by(rw [Dg.lo_eq];omega)) (by omega)
     refine rE CN RI (by have:= @Dg.lo_eq l;omega) (by have:= @Dg.lo_eq l;omega) fun A_wv3 P2 NI O8 N0=>?_
     have Nz:=Pu.blk N0 Nz
     refine bO Nz (by simp) fun NM NR=>?_
     have Nz:Blk NM gv #[(.int .u32 ((((l.drop 0).take ((Int.toNat 8) - 0)).getD 0 ⟨0⟩).v)),(.int .u32 ((((l.drop 0).take ((Int.toNat 8) - 0)).getD 1 ⟨0⟩).v)),(.int .u32 ((((l.drop 0).take ((Int.toNat 8) - 0)).getD 2 ⟨0⟩).v)),(.int .u32 ((((l.drop 0).take ((Int.toNat 8) - 0)).getD 3 ⟨0⟩).v)),(.int .u32 ((((l.drop 0).take ((Int.toNat 8) - 0)).getD 4 ⟨0⟩).v)),(.int .u32 ((((l.drop 0).take ((Int.toNat 8) - 0)).getD 5 ⟨0⟩).v)),(.int .u32 ((((l.drop 0).take ((Int.toNat 8) - 0)).getD 6 ⟨0⟩).v)),(.int .u32 ((((l.drop 0).take ((Int.toNat 8) - 0)).getD 7 ⟨0⟩).v)),(.int .i64 (i64.wrap (Dg.nOf l))),(.slice A_wv3 Q6 P2)] _:=NR.blk.cast (by kernel_rfl)
     have O8:=O8.ch NR.ch (fun k hx e=>absurd hx.1 (by omega))
     have hp:=Ch.call (Ch.pu hp N0) NR.ch (by exact fun k e=>.inr (e▸NN))
     exact⟨_,congrArg Value.tuple (ud (rfl) (congrArg (Value.int .i64) (by rw [(Dg.nr Qs hg (fun i x hx=>hq i x (by have:=(List.getElem?_eq_some_iff.1 hx).1;rw [List.length_drop]at this;have:= @Dg.lo_eq l;omega) hx))]))),fun _=>⟨gv,⟨fun k=>(NF.heap.size≤k∧k<NI.heap.size)∧k<NM.heap.size,A_wv3,Q6,P2⟩,rfl,⟨⟨_,Blk.cast Nz (by simp [Dg.load,Dg.kq];have:=Zw.2;exact(aq (x:=Dg.nOf l) (by omega)).symm)⟩,by have h9:=(O8).rd;have h8:= @Dg.lo_eq l;have e:Dg.load l=⟨Dg.kq l,Dg.nOf l,(l.drop 10).take (Int.toNat (i64.wrap (10+Dg.nOf l % 16)) - 10)⟩:=(by rw [h8,Nat.add_sub_cancel_left];rfl);rw [e];exact h9,by intro h;exact absurd h.1.1 (by have:=NK.num;have:=V3.size;omega)⟩,fun k hk=>hk.elim (fun e=>by rw [e];exact NN) (fun h=>by have:=V3.size;have:=h.1.1;omega)⟩,hp⟩
end
end Go.Proofs.YtinhphjfnedhgaaGreatDoor
namespace Go.Proofs.YtinhphjfnedhgaaGreatDoor
open Go.Proofs.Tryz (prog)
open Go Go.RowKit V
open Go.IntKind (i64 u32 u64)
section
set_option maxRecDepth 100000
set_option maxHeartbeats 1000000
attribute [local irreducible] Vc2 VcD
def L4:Ctr Un:=⟨[.one (.int .i64),.one (.int .i64)],[],[],[],fun s i K=>((1≤(s:Int)∧(s:Int)≤64)∧(1≤(i:Int)∧(i:Int)≤64))∧∀(rN:Nat→Nat),K ⟨(.tuple #[(.pointer (some (Addr.mk (rN 0) 0 none))),(.int .i64 0)]),(some (.t [(some (.obj 0 0 0)),none])),[],[(.ob 0 rN (Mem.fresh s.toNat i.toNat))],[]⟩⟩
theorem Is:LV Un prog 27 L4:=by
 show ∀(s:Int)(i:Int),∀Q:Ou Un→Prop,(((1≤(s:Int)∧(s:Int)≤64)∧(1≤(i:Int)∧(i:Int)≤64))∧∀(rN:Nat→Nat),Q ⟨(.tuple #[(.pointer (some (Addr.mk (rN 0) 0 none))),(.int .i64 0)]),(some (.t [(some (.obj 0 0 0)),none])),[],[(.ob 0 rN (Mem.fresh s.toNat i.toNat))],[]⟩)→∀(X:Nat→Nat→Prop)(w:World),Sat (U:=Un) [] X w→ax (U:=Un) [] fr0 []→Calls prog 27 #[(.int .i64 s),(.int .i64 i)] w (aU (U:=Un) [] [] X w Q)
 intro s i Q hQ X w hs hl
 obtain⟨⟨h1,h2⟩,hQ⟩:=hQ
 refine(Nn s i h1 h2).mono ?_
 rintro e w' ⟨u,rfl,L,rfl,hM,hf,q⟩
 exact aU.uQ (Z:=L.X) hs q (show RS (U:=Un) L.X w' (.ob 0 (fun _=>L.g) (Mem.fresh s.toNat i.toNat))from(⟨L,rfl,fun _=>Iff.rfl,hM⟩:cT 0 (fun _=>L.g) (Mem.fresh s.toNat i.toNat) L.X w')) hf (hQ (fun _=>L.g)) (KnO.pair rfl) (fun _ _ h=>by cases h)
def tR:Ctr Un:=⟨[.one (.obj 0 0)],[],[.ob 0 []],[0],fun rm m K=>1≤m.S∧∀(rN:Nat→Nat),K ⟨(.pointer (some (Addr.mk (rN 0) 0 none))),(some (.p (.obj 1 0 0))),[.ob 0 (m.dw m.S)],[(.ob 1 rN ((DB.new m).pd))],[(.l 1 1,.p (.obj 0 0 0))]⟩⟩
theorem II:LV Un prog 29 tR:=by
 show ∀(rm:Nat→Nat)(m:Mem),∀Q:Ou Un→Prop,(1≤m.S∧∀(rN:Nat→Nat),Q ⟨(.pointer (some (Addr.mk (rN 0) 0 none))),(some (.p (.obj 1 0 0))),[.ob 0 (m.dw m.S)],[(.ob 1 rN ((DB.new m).pd))],[(.l 1 1,.p (.obj 0 0 0))]⟩)→∀(X:Nat→Nat→Prop)(w:World),Sat (U:=Un) [(.ob 0 rm m)] X w→ax (U:=Un) [(.ob 0 rm m)] fr0 []→Calls prog 29 #[(.pointer (some (Addr.mk (rm 0) 0 none)))] w (aU (U:=Un) [(.ob 0 rm m)] [0] X w Q)
 intro rm m Q hQ X w hs hl
 obtain⟨hS,hQ⟩:=hQ
 obtain⟨L,hg,hM,hX⟩:=lI hs
 rw [hg]
 refine(Nw hM hS).mono ?_
 rintro e w' ⟨u,rfl,g,a,rfl,Tp,hD,⟨hb1,TD⟩,q⟩
 have Od:∀k,L.X k→k<w.heap.size:=hM.lt
 exact aU.GB (k:=some (.p (.obj 1 0 0))) (kc:= [(.l 1 1,.p (.obj 0 0 0))]) (Z0:=X 0) (Z1:=fun k=>k=g∨k=a) (q.mono fun k hk=>(hX k).1 hk) (show cT 0 rm (m.dw m.S) (X 0) w' from⟨L,hg,hX,Tp⟩) (fun k hk=>.inl hk) (show RS (U:=Un) (fun k=>k=g∨k=a) w' (.ob 1 (fun i=>if i=0 then g else L.g) (DB.new m).pd)from(⟨a,fun k=>Iff.rfl,hD.pd⟩:cT 1 (fun i=>if i=0 then g else L.g) (DB.new m).pd (fun k=>k=g∨k=a) w'))
  (fun k hk=>by rcases hk with rfl | rfl;exact hb1;exact TD) (fun k hk OC=>by have:=Od k ((hX k).2 hk);rcases OC with rfl | rfl<;>omega) (hQ (fun i=>if i=0 then g else L.g)) rfl (wq ⟨_,_,_,rfl,show some (Value.pointer (some ⟨rm 0,0,none⟩))=some (.pointer (some ⟨L.g,0,none⟩))by rw [hg]⟩)
def jc:Ctr Un:=⟨[.one (.obj 0 0)],[],[.ob 1 [(1,1,0)],.ob 0 []],[],fun r E rm m K=>E.n=m.S∧∀(A:Option Addr)(c:Nat),K ⟨(.slice A (((E.on m).words.map U32.mk).length) c),(some (.p (.sl 2 0))),[],[(.lst 1 true 29 A c ((E.on m).words.map U32.mk))],[]⟩⟩
theorem tN:LV Un prog 52 jc:=by
 show ∀(r:Nat→Nat)(E:Pd)(rm:Nat→Nat)(m:Mem),∀Q:Ou Un→Prop,(E.n=m.S∧∀(A:Option Addr)(c:Nat),Q ⟨(.slice A (((E.on m).words.map U32.mk).length) c),(some (.p (.sl 2 0))),[],[(.lst 1 true 29 A c ((E.on m).words.map U32.mk))],[]⟩)→∀(X:Nat→Nat→Prop)(w:World),Sat (U:=Un) [(.ob 1 r E),(.ob 0 rm m)] X w→ax (U:=Un) [(.ob 1 r E),(.ob 0 rm m)] fr0 [(.l 0 1,.p (.obj 1 0 0))]→Calls prog 52 #[(.pointer (some (Addr.mk (r 0) 0 none)))] w (aU (U:=Un) [(.ob 1 r E),(.ob 0 rm m)] [] X w Q)
 intro r E rm m Q hQ X w hs hl
 obtain⟨hn,hQ⟩:=hQ
 obtain⟨a,L,hg,hr,hD,QB,QK⟩:=vV hs hl hn
 refine(LG hD).mono ?_
 rintro e w' ⟨u,rfl,g,n,rfl,ho,hz,q⟩
 have QZ:=ho.len
 subst QZ
 exact aU.more hs q (Gv (U:=Un) (t:=1) ho) (fun k hk=>by have:=hk.1;omega) (hQ _ _) rfl
def B5:Ctr Un:=⟨[],[],[],[],fun K=>∀(rN:Nat→Nat),K ⟨(.pointer (some (Addr.mk (rN 0) 0 none))),(some (.p (.obj 0 0 0))),[],[(.ob 4 rN Dg.new)],[]⟩⟩
theorem LX:LV Un prog 125 B5:=by
 show ∀Q:Ou Un→Prop,(∀(rN:Nat→Nat),Q ⟨(.pointer (some (Addr.mk (rN 0) 0 none))),(some (.p (.obj 0 0 0))),[],[(.ob 4 rN Dg.new)],[]⟩)→∀(X:Nat→Nat→Prop)(w:World),Sat (U:=Un) [] X w→ax (U:=Un) [] fr0 []→Calls prog 125 #[] w (aU (U:=Un) [] [] X w Q)
 intro Q hQ X w hs hl
 refine Nh.mono ?_
 rintro e w' ⟨u,rfl,g,L,rfl,hD,hf,q⟩
 exact aU.uQ (Z:=L.X g) hs q (show RS (U:=Un) (L.X g) w' (.ob 4 (fun _=>g) Dg.new)from(⟨L,fun _=>Iff.rfl,hD⟩:cT 4 (fun _=>g) Dg.new (L.X g) w')) hf (hQ (fun _=>g)) rfl (fun _ _ h=>by cases h)
def tF:Ctr Un:=⟨[.one (.obj 0 0),.one (.sl 1)],[(2,5)],[.ob 4 [],.lst 1 false 29,.ob 5 []],[0],fun r d A c l rk kk K=>d.Ok∧l.length≤1099511627776∧K ⟨(.tuple #[]),(some (.t [])),[.ob 4 (d.add kk l)],[],[]⟩⟩
theorem H6:LV Un prog 135 tF:=by
 show ∀(r:Nat→Nat)(d:Dg)(A:Option Addr)(c:Nat)(l:List U32)(rk:Nat→Nat)(kk:List Int),∀Q:Ou Un→Prop,(d.Ok∧l.length≤1099511627776∧Q ⟨(.tuple #[]),(some (.t [])),[.ob 4 (d.add kk l)],[],[]⟩)→∀(X:Nat→Nat→Prop)(w:World),Sat (U:=Un) [(.ob 4 r d),(.lst 1 false 29 A c l),(.ob 5 rk kk)] X w→ax (U:=Un) [(.ob 4 r d),(.lst 1 false 29 A c l),(.ob 5 rk kk)] fr0 []→Calls prog 135 #[(.pointer (some (Addr.mk (r 0) 0 none))),(.slice A l.length c)] w (aU (U:=Un) [(.ob 4 r d),(.lst 1 false 29 A c l),(.ob 5 rk kk)] [0] X w Q)
 intro r d A c l rk kk Q hQ X w hs hl
 obtain⟨Pv,hlen,hQ⟩:=hQ
 obtain⟨L,hX,hD⟩:=(hs.res 0 _ rfl:cT 4 r d (X 0) w)
 have hr:Rd w (X 1) A l.length c l:=hs.res 1 _ rfl
 obtain⟨hX2,hK⟩:=(hs.res 2 _ rfl:cT 5 rk kk (X 2) w)
 have h0:X 0 (r 0):=(hX _).1 (.inl rfl)
 refine(Ni hD hr hK Pv hlen (fun h=>hs.dis 0 1 (by simp) (by simp) (by omega) _ h0 h) (fun h=>hs.dis 0 2 (by simp) (by simp) (by omega) _ h0 ((hX2 _).1 h))).mono ?_
 rintro e w' ⟨u,rfl,L',rfl,hD',hg,q⟩
 exact aU.first (Z:=L'.X (r 0)) hs (q.mono fun k hk=>(hX k).1 hk) (show cT 4 r (d.add kk l) (L'.X (r 0)) w' from⟨L',fun _=>Iff.rfl,hD'⟩) (fun k hk=>(hg k hk).imp (fun h=>(hX k).1 h) id) hQ (KnO.tup _ (by simp))
def kM:Ctr Un:=⟨[.one (.obj 0 0)],[],[.ob 4 []],[],fun r d K=>d.Ok∧K ⟨(.agg ⟨Dg.sv d⟩),none,[],[],[]⟩⟩
theorem wR:LV Un prog 126 kM:=by
 show ∀(r:Nat→Nat)(d:Dg),∀Q:Ou Un→Prop,(d.Ok∧Q ⟨(.agg ⟨Dg.sv d⟩),none,[],[],[]⟩)→∀(X:Nat→Nat→Prop)(w:World),Sat (U:=Un) [(.ob 4 r d)] X w→ax (U:=Un) [(.ob 4 r d)] fr0 []→Calls prog 126 #[(.pointer (some (Addr.mk (r 0) 0 none)))] w (aU (U:=Un) [(.ob 4 r d)] [] X w Q)
 intro r d Q hQ X w hs hl
 obtain⟨Pv,hQ⟩:=hQ
 obtain⟨L,hX,hD⟩:=(hs.res 0 _ rfl:cT 4 r d (X 0) w)
 refine(Mi hD Pv).mono ?_
 rintro e w' ⟨u,rfl,rfl,q⟩
 rw [Gl (by rw [Dg.iL Pv])]
 exact aU.pu hs q hQ trivial
end
end Go.Proofs.YtinhphjfnedhgaaGreatDoor
namespace Go.Proofs.YtinhphjfnedhgaaGreatDoor
open Go.Proofs.Tryz (prog)
open Go Go.RowKit V
open Go.IntKind (i64 u32 u64)
section
theorem Mem.eT(m:Mem)(s:Bool)(p:Nat):(m.words s p).length=1024:=by rw [Mem.words,List.length_map,List.length_range]
theorem Mem.KL(m:Mem)(s:Bool)(p o:Int):m.rd s p o=m:=by unfold Mem.rd;split<;>rfl
theorem Ef {w:World} {L:eQ} {m:Mem}(h:cv w L m):Calls prog 55 #[ptr L.g] w fun e w'=>∃v,e= .returned v∧v= .int .i64 m.I∧w'=w:=by
 obtain⟨T,hd⟩:=h.hd
 exact qW _ (Jy hd rfl ⟨rfl,rfl⟩)
section
variable {w:World} {g:Nat} {L:kN} {m:Mem}
end
end
end Go.Proofs.YtinhphjfnedhgaaGreatDoor
namespace Go.Proofs.YtinhphjfnedhgaaGreatDoor
open Go.Proofs.Tryz (prog)
open Go Go.RowKit V
open Go.IntKind (i64 u32 u64)
section
set_option maxRecDepth 100000
set_option maxHeartbeats 1000000
attribute [local irreducible] Vc2 VcD
def kP:Ctr Un:=⟨[.one (.obj 0 0),.agg [.bool,.int .i64],.one (.int .i64)],[],[.ob 0 []],[0],fun fa fb off rm m K=>K ⟨(.tuple #[(.int .u32 (m.aZ fa fb off)),(.int .i64 (m.err fa fb off))]),(some (.t [none,none])),[.ob 0 m],[],[]⟩⟩
theorem xf:LV Un prog 92 kP:=by
 show ∀(fa:Bool)(fb:Int)(off:Int)(rm:Nat→Nat)(m:Mem),∀Q:Ou Un→Prop,(Q ⟨(.tuple #[(.int .u32 (m.aZ fa fb off)),(.int .i64 (m.err fa fb off))]),(some (.t [none,none])),[.ob 0 m],[],[]⟩)→∀(X:Nat→Nat→Prop)(w:World),Sat (U:=Un) [(.ob 0 rm m)] X w→ax (U:=Un) [(.ob 0 rm m)] fr0 []→Calls prog 92 #[(.pointer (some (Addr.mk (rm 0) 0 none))),(.agg #[(.bool fa),(.int .i64 fb)]),(.int .i64 off)] w (aU (U:=Un) [(.ob 0 rm m)] [0] X w Q)
 intro fa fb off rm m Q hQ X w hs hl
 obtain⟨L,hg,hM,hX⟩:=lI hs
 rw [hg]
 refine(KS hM fa fb off).mono ?_
 rintro e w' ⟨u,rfl,rfl,h2,q⟩
 rw [Mem.KL]at h2
 exact aU.one (Z:=X 0) (q.mono fun k hk=>(hX k).1 hk) (show cT 0 rm _ (X 0) w' from⟨L,hg,hX,h2⟩) (fun k hk=>.inl hk) hQ (KnO.tup _ (by simp))
def l7:Ctr Un:=⟨[.one (.obj 0 0)],[],[.ob 0 []],[],fun rm m K=>K ⟨(.int .i64 (m.I:Int)),none,[],[],[]⟩⟩
theorem Ae:LV Un prog 55 l7:=by
 show ∀(rm:Nat→Nat)(m:Mem),∀Q:Ou Un→Prop,(Q ⟨(.int .i64 (m.I:Int)),none,[],[],[]⟩)→∀(X:Nat→Nat→Prop)(w:World),Sat (U:=Un) [(.ob 0 rm m)] X w→ax (U:=Un) [(.ob 0 rm m)] fr0 []→Calls prog 55 #[(.pointer (some (Addr.mk (rm 0) 0 none)))] w (aU (U:=Un) [(.ob 0 rm m)] [] X w Q)
 intro rm m Q hQ X w hs hl
 obtain⟨L,hg,hM,hX⟩:=lI hs
 rw [hg]
 refine(Ef hM).mono ?_
 rintro e w' ⟨u,rfl,rfl,q⟩
 subst q
 exact aU.pu hs (Ch.refl _ _) hQ trivial
def xk:Ctr Un:=⟨[.one (.obj 0 0),.agg [.bool,.int .i64],.agg [.bool,.int .i64]],[],[.ob 0 []],[0],fun fa fb fc fd rm m K=>K ⟨(.int .i64 (m.td fa fb fc fd)),none,[.ob 0 (m.copy fa fb fc fd)],[],[]⟩⟩
theorem Kz:LV Un prog 66 xk:=by
 show ∀(fa:Bool)(fb:Int)(fc:Bool)(fd:Int)(rm:Nat→Nat)(m:Mem),∀Q:Ou Un→Prop,(Q ⟨(.int .i64 (m.td fa fb fc fd)),none,[.ob 0 (m.copy fa fb fc fd)],[],[]⟩)→∀(X:Nat→Nat→Prop)(w:World),Sat (U:=Un) [(.ob 0 rm m)] X w→ax (U:=Un) [(.ob 0 rm m)] fr0 []→Calls prog 66 #[(.pointer (some (Addr.mk (rm 0) 0 none))),(.agg #[(.bool fa),(.int .i64 fb)]),(.agg #[(.bool fc),(.int .i64 fd)])] w (aU (U:=Un) [(.ob 0 rm m)] [0] X w Q)
 intro fa fb fc fd rm m Q hQ X w hs hl
 obtain⟨L,hg,hM,hX⟩:=lI hs
 rw [hg]
 refine(Mz hM fa fb fc fd).mono ?_
 rintro e w' ⟨u,rfl,rfl,h2,q⟩
 exact aU.one (Z:=X 0) (q.mono fun k hk=>(hX k).1 hk) (show cT 0 rm _ (X 0) w' from⟨L,hg,hX,h2⟩) (fun k hk=>.inl hk) hQ trivial
def xg:Ctr Un:=⟨[.one (.obj 0 0),.agg [.bool,.int .i64]],[],[.ob 0 []],[0],fun fa fb rm m K=>split (m.has fa fb) (∀(A:Option Addr),K ⟨(.tuple #[(.slice A ((m.words fa fb.toNat).length) 1024),(.int .i64 0)]),(some (.t [(some (.sl 1 0)),none])),[.ob 0 m],[(.lst 1 true 29 A 1024 (m.words fa fb.toNat))],[]⟩) (K ⟨(.tuple #[(.slice none 0 0),(.int .i64 5)]),(some (.t [none,none])),[.ob 0 m],[],[]⟩)⟩
theorem Ku:LV Un prog 69 xg:=by
 show ∀(fa:Bool)(fb:Int)(rm:Nat→Nat)(m:Mem),∀Q:Ou Un→Prop,(split (m.has fa fb) (∀(A:Option Addr),Q ⟨(.tuple #[(.slice A ((m.words fa fb.toNat).length) 1024),(.int .i64 0)]),(some (.t [(some (.sl 1 0)),none])),[.ob 0 m],[(.lst 1 true 29 A 1024 (m.words fa fb.toNat))],[]⟩) (Q ⟨(.tuple #[(.slice none 0 0),(.int .i64 5)]),(some (.t [none,none])),[.ob 0 m],[],[]⟩))→∀(X:Nat→Nat→Prop)(w:World),Sat (U:=Un) [(.ob 0 rm m)] X w→ax (U:=Un) [(.ob 0 rm m)] fr0 []→Calls prog 69 #[(.pointer (some (Addr.mk (rm 0) 0 none))),(.agg #[(.bool fa),(.int .i64 fb)])] w (aU (U:=Un) [(.ob 0 rm m)] [0] X w Q)
 intro fa fb rm m Q hQ X w hs hl
 obtain⟨L,hg,hM,hX⟩:=lI hs
 rw [hg]
 refine(My hM fa fb).mono ?_
 rintro e w' ⟨u,rfl,⟨hh,h2,q,g,rfl,hlo,Od,ho⟩ | ⟨hh,rfl,q⟩⟩
 ·have hQ:=bP hQ hh (some (Addr.mk g 0 none))
  rw [Mem.eT]at hQ
  have hr:RS (U:=Un) (fun k=>k=g) w' (.lst 1 true 29 (some (Addr.mk g 0 none)) 1024 (m.words fa fb.toNat)):=⟨(by have h9:=Mem.eT m fa fb.toNat;show Own w' _ _ _ (m.words fa fb.toNat).length _ _;rw [h9];exact ho),fun k hk=>hk▸Od⟩
  exact aU.GB (k:=some (.t [some (.sl 1 0),none])) (kc:= []) (Z0:=X 0) (q.mono fun k hk=>(hX k).1 hk) (show cT 0 rm m (X 0) w' from⟨L,hg,hX,h2⟩) (fun k hk=>.inl hk) hr (fun k hk=>hk▸hlo) (fun k h1 h3=>by have:=hs.lt (i:=0) (by simp) k h1;omega) hQ (KnO.pair (by show some (Value.slice _ (m.words fa fb.toNat).length _)=_;rw [Mem.eT])) (fun _ _ h=>by cases h)
 ·exact aU.one (Z:=X 0) (q.mono fun k hk=>hk.elim) (show cT 0 rm m (X 0) w' from⟨L,hg,hX,hM.pu q⟩) (fun k hk=>.inl hk) (bQ hQ hh) (KnO.tup _ (by simp))
end
end Go.Proofs.YtinhphjfnedhgaaGreatDoor
namespace Go.Proofs.YtinhphjfnedhgaaGreatDoor
open Go.Proofs.Tryz (prog)
open Go Go.RowKit V
open Go.IntKind (i64 u32 u64)
section
set_option maxRecDepth 10000
set_option maxHeartbeats 1000000
theorem IY {w:World}(ma:Bool)(mb:Int)(mc:Bool)(md:Bool):
 Calls prog 133 #[(.agg #[(.bool ma),(.int .i64 mb),(.bool mc),(.bool md)])] w fun e w'=>∃v,e= .returned v∧v= .tuple #[(.int .u32 ((Mp.mk ma mb mc md).word)),(.int .i64 ((Mp.mk ma mb mc md).err))]∧Pu w w':=by
 refine uf _ _ _ _ ?_
 have hp:=Ch.refl (fun _=>False) w
 refine mkd fun gv wv NK=>?_
 have Nz:=NK.blk
 refine⟨fun x w'=>x=((decide ((mb:Int)<0)) || (decide ((mb:Int)>63)))∧Pu wv w',?_,?_⟩
 ·refine⟨_,Nz.at2 rfl,?_⟩
  refine ab (fun c1=>?_) (fun c1=>?_)
  ·exact⟨by simp only [c1,Bool.true_and,Bool.and_true,Bool.false_and,Bool.and_false,Bool.true_or,Bool.or_true,Bool.false_or,Bool.or_false,Bool.not_true,Bool.not_false,if_true,if_false,Bool.false_eq_true],Ch.refl _ _⟩
  ·refine⟨_,Nz.at2 rfl,?_⟩
   exact⟨by simp only [c1,Bool.true_and,Bool.and_true,Bool.false_and,Bool.and_false,Bool.true_or,Bool.or_true,Bool.false_or,Bool.or_false,Bool.not_true,Bool.not_false,if_true,if_false,Bool.false_eq_true],Ch.refl _ _⟩
 rintro _ _ ND ⟨rfl,NH⟩
 refine bF (fun c2=>?_) (fun c2=>?_)
 ·have hp:=Ch.pu (Ch.made hp NK) NH
  exact⟨congrArg Value.tuple (ud (congrArg (Value.int .u32) (by grind [Mp.word,Mp.err,Mp.bits])) (congrArg (Value.int .i64) (by grind [Mp.word,Mp.err,Mp.bits]))),hp⟩
 ·refine⟨fun x w'=>x=(md && (!ma))∧Pu ND w',?_,?_⟩
  ·have Nz:=Pu.blk NH Nz
   refine⟨_,Nz.at rfl,?_⟩
   refine ab (fun c3=>?_) (fun c3=>?_)
   ·refine⟨_,Nz.at2 rfl,?_⟩
    exact⟨by simp only [c3,Bool.true_and,Bool.and_true,Bool.false_and,Bool.and_false,Bool.true_or,Bool.or_true,Bool.false_or,Bool.or_false,Bool.not_true,Bool.not_false,if_true,if_false,Bool.false_eq_true],Ch.refl _ _⟩
   ·exact⟨by simp only [c3,Bool.true_and,Bool.and_true,Bool.false_and,Bool.and_false,Bool.true_or,Bool.or_true,Bool.false_or,Bool.or_false,Bool.not_true,Bool.not_false,if_true,if_false,Bool.false_eq_true],Ch.refl _ _⟩
  rintro _ _ NF ⟨rfl,N7⟩
  refine cR (fun c4=>?_) (fun c4=>?_)
  ·have hp:=Ch.pu (Ch.pu (Ch.made hp NK) NH) N7
   exact⟨congrArg Value.tuple (ud (congrArg (Value.int .u32) (by grind [Mp.word,Mp.err,Mp.bits])) (congrArg (Value.int .i64) (by grind [Mp.word,Mp.err,Mp.bits]))),hp⟩
  ·have UA:0≤mb∧mb<64:=by grind
   have Nz:=Pu.blk N7 (Pu.blk NH Nz)
   refine⟨_,Nz.at2 rfl,?_⟩
   rintro _ rfl
   refine⟨_,Nz.at2 rfl,⟨_,Nz.at rfl,⟨_,Nz.at rfl,?_⟩⟩⟩
   refine mkd fun NW NM ON=>?_
   have NA:=ON.blk
   have hp:=Ch.made (Ch.pu (Ch.pu (Ch.made hp NK) NH) N7) ON
   have Nz:=Made.old ON Nz
   refine⟨fun mz NZ PM W=>Ch (fun _=>False) w W∧(∃T,Blk W gv #[(.bool ma),(.int .i64 mb),(.bool mc),(.bool md)] T)∧(∃T,Blk W NW #[(.bool ma),(.int .u32 2),(.bool mc),(.int .u32 4),(.bool md),(.int .u32 8)] T)∧((mz=3∧NZ=(256*mb+1)∧PM=0)∨(mz=2∧NZ=(256*mb+(1+(if ma then 2 else 0)))∧PM=1)∨(mz=1∧NZ=(256*mb+(1+(if ma then 2 else 0)+(if mc then 4 else 0)))∧PM=2)∨(mz=0∧NZ=(256*mb+(1+(if ma then 2 else 0)+(if mc then 4 else 0)+(if md then 8 else 0)))∧PM=3)),⟨_,hp,⟨_,Nz⟩,⟨_,NA⟩,.inl ⟨rfl,by exact Gw UA,rfl⟩⟩,?_⟩
   rintro _ _ NZ PM Ol ⟨hp,⟨_,Nz⟩,⟨_,NA⟩,hU⟩
   rcases hU with⟨rfl,rfl,rfl⟩ | ⟨rfl,rfl,rfl⟩ | ⟨rfl,rfl,rfl⟩ | ⟨rfl,rfl,rfl⟩
   ·refine dN ⟨by decide,⟨_,_,⟨NA.at2 rfl,NA.at2 rfl⟩,?_⟩⟩
    refine mkd fun TE N8 NS=>?_
    have Pm:=NS.lo hp
    have Oj:=NS.ne Nz
    have ne_gv3_gv5:=NS.ne NA
    have OR:=NS.blk
    refine cp OR (by simp) fun N5 NB=>?_
    have OR:Blk N5 TE #[(.bool ma),(.int .u32 2)] _:=NB.blk
    refine⟨_,OR.at rfl,?_⟩
    refine ab (fun c5=>?_) (fun c5=>?_)
    ·refine⟨_,OR.at rfl,?_⟩
     rintro _ rfl
     have hp:=Ch.call (Ch.made hp NS) NB.ch (by exact fun k e=>.inr (e▸Pm))
     have Nz:=Ch.blk NB.ch (Made.old NS Nz) (Oj)
     have NA:=Ch.blk NB.ch (Made.old NS NA) (ne_gv3_gv5)
     exact⟨2,by decide,hp,⟨_,Nz⟩,⟨_,NA⟩,.inr (.inl ⟨rfl,by(rw [Br 1 2 (by decide) (by omega) UA (a:=1) (by constructor<;>grind)];simp only [c2,c4,c5,if_true];done),rfl⟩)⟩
    ·have hp:=Ch.call (Ch.made hp NS) NB.ch (by exact fun k e=>.inr (e▸Pm))
     have Nz:=Ch.blk NB.ch (Made.old NS Nz) (Oj)
     have NA:=Ch.blk NB.ch (Made.old NS NA) (ne_gv3_gv5)
     exact⟨2,by decide,hp,⟨_,Nz⟩,⟨_,NA⟩,.inr (.inl ⟨rfl,by(simp [c2,c4,c5];done),rfl⟩)⟩
   ·refine dN ⟨by decide,⟨_,_,⟨NA.at2 rfl,NA.at2 rfl⟩,?_⟩⟩
    refine mkd fun TE N8 NS=>?_
    have Pm:=NS.lo hp
    have Oj:=NS.ne Nz
    have ne_gv3_gv5:=NS.ne NA
    have OR:=NS.blk
    refine cp OR (by simp) fun N5 NB=>?_
    have OR:Blk N5 TE #[(.bool mc),(.int .u32 4)] _:=NB.blk
    refine⟨_,OR.at rfl,?_⟩
    refine ab (fun c6=>?_) (fun c6=>?_)
    ·refine⟨_,OR.at rfl,?_⟩
     rintro _ rfl
     have hp:=Ch.call (Ch.made hp NS) NB.ch (by exact fun k e=>.inr (e▸Pm))
     have Nz:=Ch.blk NB.ch (Made.old NS Nz) (Oj)
     have NA:=Ch.blk NB.ch (Made.old NS NA) (ne_gv3_gv5)
     exact⟨1,by decide,hp,⟨_,Nz⟩,⟨_,NA⟩,.inr (.inr (.inl ⟨rfl,by(rw [Br 2 4 (by decide) (by omega) UA (a:=(1+(if ma then 2 else 0))) (by constructor<;>grind)];simp only [c2,c4,c6,if_true];done),rfl⟩))⟩
    ·have hp:=Ch.call (Ch.made hp NS) NB.ch (by exact fun k e=>.inr (e▸Pm))
     have Nz:=Ch.blk NB.ch (Made.old NS Nz) (Oj)
     have NA:=Ch.blk NB.ch (Made.old NS NA) (ne_gv3_gv5)
     exact⟨1,by decide,hp,⟨_,Nz⟩,⟨_,NA⟩,.inr (.inr (.inl ⟨rfl,by(simp [c2,c4,c6];done),rfl⟩))⟩
   ·refine dN ⟨by decide,⟨_,_,⟨NA.at2 rfl,NA.at2 rfl⟩,?_⟩⟩
    refine mkd fun TE N8 NS=>?_
    have Pm:=NS.lo hp
    have Oj:=NS.ne Nz
    have ne_gv3_gv5:=NS.ne NA
    have OR:=NS.blk
    refine cp OR (by simp) fun N5 NB=>?_
    have OR:Blk N5 TE #[(.bool md),(.int .u32 8)] _:=NB.blk
    refine⟨_,OR.at rfl,?_⟩
    refine ab (fun c7=>?_) (fun c7=>?_)
    ·refine⟨_,OR.at rfl,?_⟩
     rintro _ rfl
     have hp:=Ch.call (Ch.made hp NS) NB.ch (by exact fun k e=>.inr (e▸Pm))
     have Nz:=Ch.blk NB.ch (Made.old NS Nz) (Oj)
     have NA:=Ch.blk NB.ch (Made.old NS NA) (ne_gv3_gv5)
     exact⟨0,by decide,hp,⟨_,Nz⟩,⟨_,NA⟩,.inr (.inr (.inr (⟨rfl,by(rw [Br 3 8 (by decide) (by omega) UA (a:=(1+(if ma then 2 else 0)+(if mc then 4 else 0))) (by constructor<;>grind)];simp only [c2,c4,c7,if_true];done),rfl⟩)))⟩
    ·have hp:=Ch.call (Ch.made hp NS) NB.ch (by exact fun k e=>.inr (e▸Pm))
     have Nz:=Ch.blk NB.ch (Made.old NS Nz) (Oj)
     have NA:=Ch.blk NB.ch (Made.old NS NA) (ne_gv3_gv5)
     exact⟨0,by decide,hp,⟨_,Nz⟩,⟨_,NA⟩,.inr (.inr (.inr (⟨rfl,by(simp [c2,c4,c7];done),rfl⟩)))⟩
   ·refine jm ?_
    exact⟨congrArg Value.tuple (ud (congrArg (Value.int .u32) (by grind [Mp.word,Mp.err,Mp.bits])) (congrArg (Value.int .i64) (by grind [Mp.word,Mp.err,Mp.bits]))),hp⟩
end
end Go.Proofs.YtinhphjfnedhgaaGreatDoor
namespace Go.Proofs.YtinhphjfnedhgaaGreatDoor
open Go.Proofs.Tryz (prog)
open Go Go.RowKit V
open Go.IntKind (i64 u32 u64)
section
set_option maxRecDepth 100000
set_option maxHeartbeats 1000000
attribute [local irreducible] Vc2 VcD
def iW:Ctr Un:=⟨[.one (.int .i64)],[],[],[],fun p K=>K ⟨(.tuple #[(.int .u32 (bS p)),(.int .i64 (eL p))]),(some (.t [none,none])),[],[],[]⟩⟩
def HJ(p:Int)(Q:Ou Un→Prop):Prop:=
 ∃J:Bool→Prop,(
  split (decide (p<0)) (
   J true) (
   J (decide (p≥64))))∧∀(Pw:Nat→Value)(x9:Bool),J x9→
 split x9 (
  Q ⟨(.tuple #[(.int .u32 0),(.int .i64 4)]),(some (.t [none,none])),[],[],[]⟩) (
  Q ⟨(.tuple #[(.int .u32 (u32.wrap (BitVec.ofInt u32.bits (u32.wrap ((u32.wrap p)*2 ^ 8)) ||| BitVec.ofInt u32.bits 1).toNat)),(.int .i64 0)]),(some (.t [none,none])),[],[],[]⟩)
theorem HK:Vc2 Un prog (aQ []) [] Tryz.f131 (.r' (.two (.two (.node [] (some ⟨[(9,(.one .bool))],[],upN 4 6,[]⟩) [] [] .leaf .leaf) .leaf) .leaf)) [] iW=(∀p,∀Q,(iW.body p Q)→HJ p Q):=by kernel_rfl
theorem zq:LV Un prog 131 iW:=verify Tryz.func131 aa (tb:= []) trivial (by kernel_rfl) (HK.mpr fun p Q h=>cY ((decide ((p:Int)<0)) || (decide ((p:Int)≥64))) (ab (fun c1=>(by grind)) fun c1=>(by grind))<| bF (fun c2=>au h (by(have h:¬(0≤p∧p<64):=by grind);simp [bS,eL,h]) rfl rfl) fun c2=>au h (by(have h:0≤p∧p<64:=by grind);rw [Gw h];simp [bS,eL,h]) rfl rfl)
def fl:Ctr Un:=⟨[.one (.int .u32),.one (.int .i64),.one (.fn 131)],[],[],[],fun v x K=>∀(ra:Int)(re:Int),((ra=(if v≠0∧eL x=0∧bS x=v then x else 0)∧re=(if v=0 then 92 else if eL x=0∧bS x=v then 0 else 90)))→K ⟨(.tuple #[(.int .i64 ra),(.int .i64 re)]),(some (.t [none,none])),[],[],[]⟩⟩
def uh(v:Int)(x:Int)(Q:Ou Un→Prop):Prop:=
 split (v==0) (
  Q ⟨(.tuple #[(.int .i64 0),(.int .i64 92)]),(some (.t [none,none])),[],[],[]⟩) (
  ∃J:Bool→Prop,(
   split ((eL x) !=0) (
    J true) (
    J ((bS x) !=v)))∧∀(Pw:Nat→Value)(PX:Bool),J PX→
  split PX (
   Q ⟨(.tuple #[(.int .i64 0),(.int .i64 90)]),(some (.t [none,none])),[],[],[]⟩) (
   Q ⟨(.tuple #[(.int .i64 x),(.int .i64 0)]),(some (.t [none,none])),[],[],[]⟩))
theorem ui:Vc2 Un prog (aQ [(131,iW)]) [] Tryz.f195 (.r' (.r' (.r' (.two (.r' (.two (.node [] (some ⟨[(26,(.one .bool))],[],upN 20 7,[]⟩) [] [] .leaf .leaf) .leaf)) .leaf)))) [] fl=(∀v x,∀Q,(fl.body v x Q)→uh v x Q):=by kernel_rfl
theorem ug:LV Un prog 195 fl:=verify Tryz.func195 aa (tb:= [(131,iW)]) ⟨zq,trivial⟩ (by kernel_rfl) (ui.mpr fun v x Q h=>by
 try skip
 exact aC (fun c1=>(h 0 92 (by omega))) fun c1=>cY ((((eL x):Int) !=0) || (((bS x):Int) !=v)) (ab (fun c2=>(by grind)) fun c2=>(by grind))<| bF (fun c3=>(h 0 90 (by grind))) fun c3=>(h x 0 (by grind)))
def dJ:Ctr Un:=⟨[.one (.int .u32)],[],[],[],fun v K=>(0≤(v:Int)∧(v:Int)<4294967296)∧K ⟨(.tuple #[(.int .i64 (aH v)),(.int .i64 (iP v))]),(some (.t [none,none])),[],[],[]⟩⟩
def uj(v:Int)(Q:Ou Un→Prop):Prop:=
 ∀(ra:Int)(re:Int),
 ((ra=(if v≠0∧eL (i64.wrap (v.fdiv (2 ^ 8)))=0∧bS (i64.wrap (v.fdiv (2 ^ 8)))=v then(i64.wrap (v.fdiv (2 ^ 8)))else 0)∧re=(if v=0 then 92 else if eL (i64.wrap (v.fdiv (2 ^ 8)))=0∧bS (i64.wrap (v.fdiv (2 ^ 8)))=v then 0 else 90)))→
 Q ⟨(.tuple #[(.int .i64 ra),(.int .i64 re)]),(some (.t [none,none])),[],[],[]⟩
theorem uk:Vc2 Un prog (aQ [(195,fl)]) [] Tryz.f182 .leaf [] dJ=(∀v,∀Q,(dJ.body v Q)→uj v Q):=by kernel_rfl
theorem mY:LV Un prog 182 dJ:=verify Tryz.func182 aa (tb:= [(195,fl)]) ⟨ug,trivial⟩ (by kernel_rfl) (uk.mpr fun v Q h=>by
 obtain⟨NL,h⟩:=h
 exact fun ra re f1=>(by(have e0:i64.wrap ((v:Int).fdiv (2 ^ 8))=v / 256:=by rw [lP,aq (by omega)];rfl);rw [e0]at f1;(have h1:(eL (v / 256)=0∧bS (v / 256)=v)↔yg v=true:=(by simp only [eL,bS,yg,decide_eq_true_eq];constructor<;>intro h<;>grind));(have h2:v=0→yg v=false:=by intro h;subst h;decide);exact au h (by simp only [h1]at f1;rw [f1.1,f1.2];simp only [aH,iP]<;>grind) rfl rfl))
def j7:Ctr Un:=⟨[.agg [.bool,.int .i64,.bool,.bool]],[],[],[],fun ma mb mc md K=>K ⟨(.tuple #[(.int .u32 ((Mp.mk ma mb mc md).word)),(.int .i64 ((Mp.mk ma mb mc md).err))]),(some (.t [none,none])),[],[],[]⟩⟩
theorem vo:LV Un prog 133 j7:=by
 show ∀(ma:Bool)(mb:Int)(mc:Bool)(md:Bool),∀Q:Ou Un→Prop,(Q ⟨(.tuple #[(.int .u32 ((Mp.mk ma mb mc md).word)),(.int .i64 ((Mp.mk ma mb mc md).err))]),(some (.t [none,none])),[],[],[]⟩)→∀(X:Nat→Nat→Prop)(w:World),Sat (U:=Un) [] X w→ax (U:=Un) [] fr0 []→Calls prog 133 #[(.agg #[(.bool ma),(.int .i64 mb),(.bool mc),(.bool md)])] w (aU (U:=Un) [] [] X w Q)
 intro ma mb mc md Q hQ X w hs hl
 refine(IY ma mb mc md).mono ?_
 rintro e w' ⟨u,rfl,rfl,q⟩
 exact aU.pu hs q hQ (KnO.tup _ (by simp))
def dt:Ctr Un:=⟨[.one (.int .u32),.agg [.bool,.int .i64,.bool,.bool],.one (.fn 133)],[],[],[],fun v ma mb mc md K=>∀(ra:Bool)(rb:Int)(rc:Bool)(rd:Bool)(re:Int),((Mp.mk ra rb rc rd=(if v≠0∧(Mp.mk ma mb mc md).err=0∧(Mp.mk ma mb mc md).word=v then(Mp.mk ma mb mc md)else Mp.nil)∧re=(if v=0 then 92 else if(Mp.mk ma mb mc md).err=0∧(Mp.mk ma mb mc md).word=v then 0 else 90)))→K ⟨(.tuple #[(.agg #[(.bool ra),(.int .i64 rb),(.bool rc),(.bool rd)]),(.int .i64 re)]),(some (.t [none,none])),[],[],[]⟩⟩
def nG(v:Int)(ma:Bool)(mb:Int)(mc:Bool)(md:Bool)(Q:Ou Un→Prop):Prop:=
 ∀(gv:Nat),
 ∀(NJ:Nat),
 ∀(OB:Nat),
 split (v==0) (
  Q ⟨(.tuple #[(.agg #[(.bool false),(.int .i64 0),(.bool false),(.bool false)]),(.int .i64 92)]),(some (.t [none,none])),[],[],[]⟩) (
  ∃J:Bool→Prop,(
   split ((Mp.mk ma mb mc md).err !=0) (
    J true) (
    J ((Mp.mk ma mb mc md).word !=v)))∧∀(Ry:Nat→Value)(PX:Bool),J PX→
  split PX (
   Q ⟨(.tuple #[(.agg #[(.bool false),(.int .i64 0),(.bool false),(.bool false)]),(.int .i64 90)]),(some (.t [none,none])),[],[],[]⟩) (
   Q ⟨(.tuple #[(.agg #[(.bool ma),(.int .i64 mb),(.bool mc),(.bool md)]),(.int .i64 0)]),(some (.t [none,none])),[],[],[]⟩))
theorem nH:Vc2 Un prog (aQ [(133,j7)]) [] Tryz.f196 (.r' (.r' (.r' (.two (.r' (.two (.node [] (some ⟨[(26,(.one .bool))],[],upN 20 7,[]⟩) [] [] .leaf .leaf) .leaf)) .leaf)))) [] dt=(∀v ma mb mc md,∀Q,(dt.body v ma mb mc md Q)→nG v ma mb mc md Q):=by kernel_rfl
theorem nF:LV Un prog 196 dt:=verify Tryz.func196 aa (tb:= [(133,j7)]) ⟨vo,trivial⟩ (by kernel_rfl) (nH.mpr fun v ma mb mc md Q h gv NJ OB=>aC (fun c1=>(h false 0 false false 92 (by(grind)))) fun c1=>cY ((((Mp.mk ma mb mc md).err:Int) !=0) || (((Mp.mk ma mb mc md).word:Int) !=v)) (ab (fun c2=>(by grind)) fun c2=>(by grind))<| bF (fun c3=>(h false 0 false false 90 (by(grind)))) fun c3=>(h ma mb mc md 0 (by(grind))))
def du:Ctr Un:=⟨[.one (.int .u32)],[],[],[],fun v K=>(0≤(v:Int)∧(v:Int)<4294967296)∧K ⟨(.tuple #[(.agg #[(.bool ((bY v).cF)),(.int .i64 ((bY v).aj)),(.bool ((bY v).write)),(.bool ((bY v).exec))]),(.int .i64 (hY v))]),(some (.t [none,none])),[],[],[]⟩⟩
def tA(v:Int)(Q:Ou Un→Prop):Prop:=
 ∀(gv:Nat),
 ∀x7:Bool,x7=((u32.wrap (BitVec.ofInt u32.bits v &&& BitVec.ofInt u32.bits 2).toNat:Int) !=0)→
 ∀NT:Int,NT=(i64.wrap ((v:Int).fdiv (2 ^ 8)))→
 ∀OS:Bool,OS=((u32.wrap (BitVec.ofInt u32.bits v &&& BitVec.ofInt u32.bits 4).toNat:Int) !=0)→
 ∀OY:Bool,OY=((u32.wrap (BitVec.ofInt u32.bits v &&& BitVec.ofInt u32.bits 8).toNat:Int) !=0)→
 ∀(ra:Bool)(rb:Int)(rc:Bool)(rd:Bool)(re:Int),
 ((Mp.mk ra rb rc rd=(if v≠0∧(Mp.mk x7 NT OS OY).err=0∧(Mp.mk x7 NT OS OY).word=v then(Mp.mk x7 NT OS OY)else Mp.nil)∧re=(if v=0 then 92 else if(Mp.mk x7 NT OS OY).err=0∧(Mp.mk x7 NT OS OY).word=v then 0 else 90)))→
 Q ⟨(.tuple #[(.agg #[(.bool ra),(.int .i64 rb),(.bool rc),(.bool rd)]),(.int .i64 re)]),(some (.t [none,none])),[],[],[]⟩
theorem tB:Vc2 Un prog (aQ [(196,dt)]) [7,10,14,17] Tryz.f183 .leaf [] du=(∀v,∀Q,(du.body v Q)→tA v Q):=by kernel_rfl
theorem lX:LV Un prog 183 du:=verify Tryz.func183 aa (tb:= [(196,dt)]) ⟨nF,trivial⟩ (by kernel_rfl) (tB.mpr fun v Q h=>by
 obtain⟨NL,h⟩:=h
 exact fun gv x7 ZU NT UW OS P0 OY UT ra rb rc rd re f1=>(by(have e0:i64.wrap ((v:Int).fdiv (2 ^ 8))=v / 256:=by rw [lP,aq (by omega)];rfl);(rw [eX 1 2 (by decide) (by omega) NL]at ZU);rw [e0]at UW;(rw [eX 2 4 (by decide) (by omega) NL]at P0);(rw [eX 3 8 (by decide) (by omega) NL]at UT);(have hg:Mp.mk x7 NT OS OY=Mp.uY v:=by rw [ZU,UW,P0,UT];rfl);rw [hg]at f1;exact au h (by(have hm:bY v=Mp.mk ra rb rc rd∧hY v=re:=by grind [bY,hY,sx]);rw [hm.1,hm.2]) rfl rfl))
def mm:Ctr Un:=⟨[.enc 6],[],[],[],fun f K=>K ⟨(.int .u32 (File.flags f)),none,[],[],[]⟩⟩
def Iy(f:Fl)(Q:Ou Un→Prop):Prop:=
 ∀(gv:Nat),
 ∀(s:Fl),s=(Fl.norm f)→
 Fl.Ok s→
 split (Fl.z s) (
  Q ⟨(.int .u32 1),none,[],[],[]⟩) (
  ∀wv:Int,wv=0→
  split (Fl.n s) (
   ∀ND:Int,ND=(u32.wrap (BitVec.ofInt u32.bits wv ||| BitVec.ofInt u32.bits 2).toNat)→
   split (Fl.l s) (
    ∀NF:Int,NF=(u32.wrap (BitVec.ofInt u32.bits ND ||| BitVec.ofInt u32.bits 4).toNat)→
    Q ⟨(.int .u32 NF),none,[],[],[]⟩) (
    Q ⟨(.int .u32 ND),none,[],[],[]⟩)) (
   split (Fl.l s) (
    ∀ND:Int,ND=(u32.wrap (BitVec.ofInt u32.bits wv ||| BitVec.ofInt u32.bits 4).toNat)→
    Q ⟨(.int .u32 ND),none,[],[],[]⟩) (
    Q ⟨(.int .u32 wv),none,[],[],[]⟩)))
theorem Iz:Vc2 Un prog (aQ []) [3] Tryz.f201 .leaf [] mm=(∀(f:Fl),∀Q,(mm.body f Q)→Iy f Q):=by kernel_rfl
theorem Ix:LV Un prog 201 mm:=verify Tryz.func201 aa (tb:= []) trivial (by kernel_rfl) (Iz.mpr fun f Q h gv s Ua f1=>ab (fun c1=>ib h (by subst_vars;simp only [Fl.norm]at *;(simp [File.flags, *];done))) fun c1 wv h_wv=>ab (fun c2 ND ZV=>ab (fun c3 NF h_wv2=>ib h (by subst_vars;simp only [Fl.norm]at *;(simp only [File.flags, *];rfl))) fun c3=>ib h (by subst_vars;simp only [Fl.norm]at *;(simp only [File.flags, *];rfl))) fun c2=>ab (fun c4 ND ZV=>ib h (by subst_vars;simp only [Fl.norm]at *;(simp only [File.flags, *];rfl))) fun c4=>ib h (by subst_vars;simp only [Fl.norm]at *;(simp [File.flags, *];done)))
def jb:Ctr Un:=⟨[.enc 6,.one (.int .u32)],[],[],[],fun f w K=>Fl.Ok f∧(0≤(w:Int)∧(w:Int)<4294967296)∧K ⟨(.tuple #[(.agg ⟨Fl.cells (File.ft f w)⟩),(.int .i64 (File.gE w))]),(some (.t [none,none])),[],[],[]⟩⟩
def Cm(f:Fl)(w:Int)(Q:Ou Un→Prop):Prop:=
 ∀(gv:Nat),
 ∀(s:Fl),s=(Fl.norm f)→
 Fl.Ok s→
 ∀(NJ:Nat),
 ∀(s1:Fl),s1=Fl.zero→
 Fl.Ok s1→
 ∀x8:Bool,x8=((u32.wrap (BitVec.ofInt u32.bits w &&& BitVec.ofInt u32.bits 1).toNat:Int) !=0)→
 ∀Pg:Bool,Pg=((u32.wrap (BitVec.ofInt u32.bits w &&& BitVec.ofInt u32.bits 2).toNat:Int) !=0)→
 ∀OS:Bool,OS=((u32.wrap (BitVec.ofInt u32.bits w &&& BitVec.ofInt u32.bits 4).toNat:Int) !=0)→
 True∧
 ∀(s2:Fl),s2=({s with z:=x8}:Fl)→
 Fl.Ok s2→
 True∧
 ∀(s3:Fl),s3=({s2 with n:=Pg}:Fl)→
 Fl.Ok s3→
 True∧
 ∀(s4:Fl),s4=({s3 with l:=OS}:Fl)→
 Fl.Ok s4→
 True∧
 split ((File.flags (Fl.norm s4)) !=w) (
  True∧
  ∀(s5:Fl),s5=Fl.zero→
  Fl.Ok s5→
  True∧
  Q ⟨(.tuple #[(.agg ⟨Fl.cells s5⟩),(.int .i64 80)]),(some (.t [none,none])),[],[],[]⟩) (
  True∧
  True∧
  ∀(s5:Fl),s5=(Fl.norm s4)→
  Fl.Ok s5→
  True∧
  Q ⟨(.tuple #[(.agg ⟨Fl.cells s5⟩),(.int .i64 0)]),(some (.t [none,none])),[],[],[]⟩)
theorem Cn:Vc2 Un prog (aQ [(201,mm)]) [8,11,14] Tryz.f197 .leaf [] jb=(∀(f:Fl) w,∀Q,(jb.body f w Q)→Cm f w Q):=by kernel_rfl
theorem Cl:LV Un prog 197 jb:=verify Tryz.func197 aa (tb:= [(201,mm)]) ⟨Ix,trivial⟩ (by kernel_rfl) (Cn.mpr fun f w Q h=>by
 obtain⟨NL,NQ,h⟩:=h
 exact fun gv s Ua f1 NJ s1 P9 f2 x8 Tm Pg P1 OS P0=>af trivial fun _ s2 OI f4=>af trivial fun _ s3 PJ f6=>af trivial fun _ s4 Po f8=>af trivial fun _=>aL (fun c1=>af trivial fun _ s5 Rv f11=>af trivial fun _=>(by(have e4:Fl.norm s4= {f with z:=x8,n:=Pg,l:=OS}:=by rw [Fl.norm_eq (show Fl.Ok s4 by assumption),Po,PJ,OI,Ua,Fl.norm_eq NL]);(rw [eX 0 1 (by decide) (by omega) NQ]at Tm);(rw [eX 1 2 (by decide) (by omega) NQ]at P1);(rw [eX 2 4 (by decide) (by omega) NQ]at P0);have hi:=File.yE NQ;(have h0:File.g7 w=false:=(by rw [e4,Tm,P1,P0]at c1;simp only [File.flags]at c1;rw [hi]at c1;simpa using c1));exact au h (congrArg (fun l=>Value.tuple (List.toArray l)) (ae (congrArg (fun s:Fl=>Value.agg ⟨Fl.cells s⟩) (by rw [File.yD h0,Rv])) (ae (cf (by rw [File.yF h0])) rfl))) rfl rfl)) fun c1=>af trivial fun _=>af trivial fun _ s5 Rv f15=>af trivial fun _=>(by(have e4:Fl.norm s4= {f with z:=x8,n:=Pg,l:=OS}:=by rw [Fl.norm_eq (show Fl.Ok s4 by assumption),Po,PJ,OI,Ua,Fl.norm_eq NL]);(rw [eX 0 1 (by decide) (by omega) NQ]at Tm);(rw [eX 1 2 (by decide) (by omega) NQ]at P1);(rw [eX 2 4 (by decide) (by omega) NQ]at P0);have hi:=File.yE NQ;(have h0:File.g7 w=true:=(by rw [e4,Tm,P1,P0]at c1;simp only [File.flags]at c1;rw [hi]at c1;simpa using c1));have h2:=File.Em h0;exact au h (congrArg (fun l=>Value.tuple (List.toArray l)) (ae (congrArg (fun s:Fl=>Value.agg ⟨Fl.cells s⟩) (by rw [File.BE h0,Rv,e4,Tm,P1,P0,h2.1,h2.2.1,h2.2.2])) (ae (cf (by rw [File.BF h0])) rfl))) rfl rfl))
def mP:Ctr Un:=⟨[.one (.sl 0)],[],[.lst 1 false 29],[],fun A c l K=>((∀x∈l,0≤x.v∧x.v<4294967296))∧K ⟨(.tuple #[(.agg ⟨Fl.cells (File.unpack l)⟩),(.int .i64 (File.gi l))]),(some (.t [none,none])),[],[],[]⟩⟩
def Fx(A:Option Addr)(c:Nat)(l:List U32)(Q:Ou Un→Prop):Prop:=
 ∀(gv:Nat),
 ∀(s:Fl),s=Fl.zero→
 Fl.Ok s→
 split ((l.length:Int) !=17) (
  True∧
  ∀(s1:Fl),s1=Fl.zero→
  Fl.Ok s1→
  True∧
  Q ⟨(.tuple #[(.agg ⟨Fl.cells s1⟩),(.int .i64 80)]),(some (.t [none,none])),[],[],[]⟩) (
  (0<l.length∧15≤l.length)∧
  (15≤l.length)∧
  (0≤(15:Int)∧(15:Int)<(l.length:Int))∧
  ∀(NJ:Nat),
  ∀(s1:Fl),s1=Fl.zero→
  Fl.Ok s1→
  True∧
  ∀(s2:Fl),s2=(Fl.mk [U32.mk ((l.getD 0 (U32.mk 0)).v),U32.mk ((l.getD 1 (U32.mk 0)).v),U32.mk ((l.getD 2 (U32.mk 0)).v),U32.mk ((l.getD 3 (U32.mk 0)).v),U32.mk ((l.getD 4 (U32.mk 0)).v),U32.mk ((l.getD 5 (U32.mk 0)).v),U32.mk ((l.getD 6 (U32.mk 0)).v),U32.mk ((l.getD 7 (U32.mk 0)).v),U32.mk ((l.getD 8 (U32.mk 0)).v),U32.mk ((l.getD 9 (U32.mk 0)).v),U32.mk ((l.getD 10 (U32.mk 0)).v),U32.mk ((l.getD 11 (U32.mk 0)).v),U32.mk ((l.getD 12 (U32.mk 0)).v),U32.mk ((l.getD 13 (U32.mk 0)).v),U32.mk ((l.getD 14 (U32.mk 0)).v)] ((l.getD (Int.toNat 15) (U32.mk 0)).v) false false false)→
  Fl.Ok s2→
  True∧
  (0≤(16:Int)∧(16:Int)<(l.length:Int))∧
  Fl.Ok (Fl.norm s2)∧
  (0≤((l.getD (Int.toNat 16) (U32.mk 0)).v)∧((l.getD (Int.toNat 16) (U32.mk 0)).v)<4294967296)∧
  True∧
  ∀(s3:Fl),s3=(Fl.norm (File.ft (Fl.norm s2) ((l.getD (Int.toNat 16) (U32.mk 0)).v)))→
  Fl.Ok s3→
  ∃J:Bool→Prop,(
   split ((File.gE ((l.getD (Int.toNat 16) (U32.mk 0)).v))==0) (
    True∧
    J (bN ⟨Fl.cells s3⟩ ⟨Fl.cells Fl.zero⟩)) (
    J false))∧∀(OJ:Nat→Value)(SJ:Bool),J SJ→
  split SJ (
   True∧
   ∀(s4:Fl),s4=Fl.zero→
   Fl.Ok s4→
   True∧
   Q ⟨(.tuple #[(.agg ⟨Fl.cells s4⟩),(.int .i64 0)]),(some (.t [none,none])),[],[],[]⟩) (
   True∧
   True∧
   ∀(s4:Fl),s4=(Fl.norm s3)→
   Fl.Ok s4→
   True∧
   Q ⟨(.tuple #[(.agg ⟨Fl.cells s4⟩),(.int .i64 (File.gE ((l.getD (Int.toNat 16) (U32.mk 0)).v)))]),(some (.t [none,none])),[],[],[]⟩))
theorem Fy:Vc2 Un prog (aQ [(197,jb)]) [] Tryz.f185 (.r' (.r' (.two (.node [] none [] [(2,[0]),(5,[0])] .leaf .leaf) (.two (.node [] none [] [(0,[2]),(3,[0])] .leaf .leaf) (.two (.two (.node [] (some ⟨[(31,(.one .bool))],[],upN 25 7,[]⟩) [] [] .leaf .leaf) .leaf) .leaf))))) [] mP=(∀A c (l:List U32),∀Q,(((∀x∈l,0≤x.v∧x.v<4294967296))∧Q ⟨(.tuple #[(.agg ⟨Fl.cells (File.unpack l)⟩),(.int .i64 (File.gi l))]),(some (.t [none,none])),[],[],[]⟩)→Fx A c l Q):=by kernel_rfl
theorem Fw:LV Un prog 185 mP:=verify Tryz.func185 aa (tb:= [(197,jb)]) ⟨Cl,trivial⟩ (by kernel_rfl) (Fy.mpr fun A c l Q h=>by
 obtain⟨NL,h⟩:=h
 exact fun gv s Ua f1=>aL (fun c1=>af trivial fun _ s1 P9 f3=>af trivial fun _=>(by(have h0:¬l.length=17:=by omega);exact au h (congrArg (fun l=>Value.tuple (List.toArray l)) (ae (congrArg (fun s:Fl=>Value.agg ⟨Fl.cells s⟩) (by rw [(File.r3 h0).1,P9])) (ae (cf (by rw [(File.r3 h0).2])) rfl))) rfl rfl)) fun c1=>af (by omega) fun s5=>af (by omega) fun s6=>af (by omega) fun s7 NJ s1 P9 f8=>af trivial fun _ s2 OI f10=>af trivial fun _=>af (by omega) fun Sr=>af (Fl.Jj _) fun S4=>af (File.BD NL _) fun TT=>af trivial fun _ s3 PJ f16=>cY ((((File.gE ((l.getD (Int.toNat 16) (U32.mk 0)).v)):Int)==0) && (bN ⟨Fl.cells s3⟩ ⟨Fl.cells Fl.zero⟩)) (ab (fun c2=>af trivial fun _=>(by grind)) fun c2=>(by grind))<| cR (fun c3=>af trivial fun _ s4 Po f19=>af trivial fun _=>(by(have h0:l.length=17:=by omega);have hu:=File.qn h0;(have e2:Fl.norm s2=File.bare l:=by rw [Fl.norm_eq (show Fl.Ok s2 by assumption),OI,File.bare_eq h0]);(have e3:s3=File.ft (File.bare l) (l.getD 16 (U32.mk 0)).v:=by rw [PJ,e2];exact Fl.norm_eq (File.sW h0 _));(have hz:=Fl.JA (show Fl.Ok s3 by assumption) c3.2);exact au h (congrArg (fun l=>Value.tuple (List.toArray l)) (ae (congrArg (fun s:Fl=>Value.agg ⟨Fl.cells s⟩) (by rw [hu.1,← e3,hz,Po])) (ae (cf (by(rw [hu.2];simpa using c3.1))) rfl))) rfl rfl)) fun c3=>af trivial fun _=>af trivial fun _ s4 Po f23=>af trivial fun _=>(by(have h0:l.length=17:=by omega);have hu:=File.qn h0;(have e2:Fl.norm s2=File.bare l:=by rw [Fl.norm_eq (show Fl.Ok s2 by assumption),OI,File.bare_eq h0]);(have e3:s3=File.ft (File.bare l) (l.getD 16 (U32.mk 0)).v:=by rw [PJ,e2];exact Fl.norm_eq (File.sW h0 _));exact au h (congrArg (fun l=>Value.tuple (List.toArray l)) (ae (congrArg (fun s:Fl=>Value.agg ⟨Fl.cells s⟩) (by(rw [hu.1,← e3,Po];exact(Fl.norm_eq ‹_›).symm))) (ae (cf (by exact hu.2)) rfl))) rfl rfl))
end
section
set_option maxRecDepth 100000
set_option maxHeartbeats 1000000
attribute [local irreducible] Vc2 VcD
attribute [local grind=] Pd.cN Pd.cy Pd.gm Pd.ia Pd.cj Pd.fx Pd.gl Pd.eU Pd.jO
attribute [local grind .] Pd.Ok.ent
attribute [local grind→] Pd.Ok.dV
theorem fK {E:Pd} {m:Mem}(h:m.Wf)(p o:Int):0≤(E.on m).word p o∧(E.on m).word p o<4294967296:=by
 show 0≤m.aZ true p o∧m.aZ true p o<_
 unfold Mem.aZ
 split
 ·exact h.1 _ _ _
 ·omega
theorem v8(D:DB)(p:Int) {n:Int}(h:0≤n):D.mG p (n+1)=D.mG p n+(if D.of n 4 (D.at_ p).owner then dM (D.eC p n) 1024 else 0):=by
 unfold DB.mG
 rw [show(n+1).toNat=n.toNat+1 by omega,List.range_succ,List.map_append,List.sum_append]
 simp only [List.map_cons,List.map_nil,List.sum_cons,List.sum_nil,Int.add_zero,show((n.toNat:Nat):Int)=n by omega]
structure AW(D:DB)(p:Int)(l:List I64)(n:Int):Prop where
 len:l.length=D.S
 val:∀q:Int,0≤q→q<(D.S:Int)→(l.getD q.toNat (I64.mk 0)).v=D.named p n q
theorem iR(D:DB)(p q:Int) {n:Int}(h:0≤n):D.named p (n+1) q=D.named p n q+(if D.word p n !=0 && aH (D.word p n)==q then 1 else 0):=et h
theorem AW.zero(D:DB)(p:Int)(n:Nat)(h:n=D.S):AW D p (List.replicate n (I64.mk 0)) 0:=
 ⟨by simp [h],fun q h1 h2=>by rw [List.getD_eq_getElem?_getD,List.getElem?_replicate,if_pos (by omega)];rfl⟩
theorem AW.skip {D:DB} {p n:Int} {l:List I64}(h:AW D p l n)(h0:0≤n)(hw:D.word p n=0):AW D p l (n+1):=
 ⟨h.len,fun q h1 h2=>by rw [h.val q h1 h2,iR D p q h0,hw];simp⟩
theorem AW.put {D:DB} {p n:Int} {l:List I64}(h:AW D p l n)(h0:0≤n∧n<256)(hw:¬D.word p n=0)(hp:0≤aH (D.word p n)∧aH (D.word p n)<(D.S:Int)):
 AW D p (l.set (aH (D.word p n)).toNat (I64.mk (i64.wrap ((l.getD (aH (D.word p n)).toNat (I64.mk 0)).v+1)))) (n+1):=by
 refine⟨by simp [h.len],fun q h1 h2=>?_⟩
 have hr:=oH (f:=fun i=>D.word p i !=0 && aH (D.word p i)==aH (D.word p n)) h0.1
 have QY:=js (f:=fun i=>D.word p i !=0 && aH (D.word p i)==aH (D.word p n)) (n:=n)
 have hv:=h.val _ hp.1 hp.2
 rw [iR D p q h0.1,List.getD_eq_getElem?_getD,List.getElem?_set]
 by_cases hq:aH (D.word p n)=q
 ·subst hq
  rw [if_pos rfl,if_pos (by rw [h.len];omega)]
  show i64.wrap _=_
  rw [hv]
  unfold DB.named at *
  rw [aq (by omega)]
  simp [hw]
 ·rw [if_neg (by omega),← List.getD_eq_getElem?_getD,h.val q h1 h2]
  simp [hq]
theorem xS {E:Pd} {m:Mem}(h:m.Wf)(p lo:Int)(n:Nat):∀x∈(E.on m).some_ p lo n,0≤x.v∧x.v<4294967296:=by
 intro x hx
 obtain⟨i,_,rfl⟩:=List.mem_map.1 hx
 exact fK h p _
end
section
set_option maxRecDepth 100000
set_option maxHeartbeats 1000000
attribute [local irreducible] Vc2 VcD
attribute [local grind=] Pd.cN Pd.cy Pd.gm Pd.ia Pd.cj Pd.fx Pd.gl Pd.eU Pd.jO Pd.pP
attribute [local grind .] Pd.Ok.ent
attribute [local grind→] Pd.Ok.dV
section
attribute [local grind=] DB.entry DB.bc DB.of DB.is
end
section
attribute [local grind=] DB.entry DB.bc DB.of DB.is
end
section
attribute [local grind=] DB.entry DB.bc DB.of DB.is DB.tbl DB.cC DB.word
end
section
attribute [local grind=] DB.entry DB.bc DB.of DB.is DB.word DB.lV DB.add Pd.lF Mem.bh
end
section
attribute [local grind=] DB.entry DB.bc DB.of DB.is DB.word DB.eH DB.plP DB.bB DB.iK
end
section
attribute [local grind=] DB.entry DB.bc DB.of DB.is DB.word DB.eH DB.plP DB.bB DB.iK
end
section
attribute [local grind=] DB.entry DB.bc DB.of DB.is DB.word DB.eH DB.plP DB.bB DB.iK DB.iN DB.put Pd.lF Mem.bh
end
end
section
set_option maxRecDepth 100000
set_option maxHeartbeats 1000000
attribute [local irreducible] Vc2 VcD
attribute [local grind=] Pd.cN Pd.cy Pd.gm Pd.ia Pd.cj Pd.fx Pd.gl Pd.eU Pd.jO Pd.pP
attribute [local grind .] Pd.Ok.ent
attribute [local grind→] Pd.Ok.dV
section
attribute [local grind=] DB.bn
end
section
attribute [local grind=] DB.bw
end
section
attribute [local grind=] DB.aT DB.bn DB.entry
end
section
attribute [local grind=] DB.eE
end
section
attribute [local grind=] DB.cz Pd.pO DB.bn DB.bw
end
section
attribute [local grind=] DB.bV DB.bn DB.bw
end
section
attribute [local grind=] DB.dh DB.word DB.bn DB.bw
end
section
attribute [local grind=] DB.dq DB.fH DB.fT DB.bn DB.bw
end
section
attribute [local grind=] DB.dW DB.fH DB.fT DB.bn DB.bw
end
end
section
set_option maxRecDepth 100000
def qN(d:Option Addr)(R:aB)(w:World):Prop:=
 ∀(gv:Nat)(wv:World),gv=w.heap.size→wv=w.alloc (.cells #[(.pointer d)] 34)→
 R (.func (.func 194) #[] #[(.pointer (some (Addr.mk gv 0 none)))]) wv
def AT:Ann:= .leaf
theorem DEntries_eq(d:Option Addr)(R:aB)(w:World):qN d R w=vcF prog aM [] Tryz.f177 AT [(.pointer d)] R none w:=by kernel_rfl
theorem tV(d:Option Addr) {R:aB} {w:World}(h:qN d R w):Calls prog 177 #[(.pointer d)] w fun e w'=>∃v,e= .returned v∧R v w':=
 ak Tryz.func177 aw aa ((DEntries_eq d R w).mp h)
def nc(yield:Value)(cap0:Addr)(R:aB)(w:World):Prop:=
 ∃x4:Option Addr,w.cell? cap0=some (.pointer x4)∧
 Calls prog 120 #[(.pointer x4)] w fun e wv=>
 ∃x5:Int,e= .returned (.int .i64 x5)∧
 ∃I:Nat→Int→World→Prop,(∃m,I m 0 wv)∧∀(m:Nat)(Pw:Nat→Value)(x6:Int),∀ND,I m x6 ND→
 split (decide ((x6:Int)<x5)) (
  ∃Pg:Option Addr,ND.cell? cap0=some (.pointer Pg)∧
  Calls prog 58 #[(.pointer Pg),(.int .i64 x6)] ND fun e NF=>
  ∃OU:Int,∃O2:Int,∃Rg:Int,∃Rf:Int,∃Re:Bool,e= .returned (.agg #[(.int .i64 OU),(.int .i64 O2),(.int .i64 Rg),(.int .i64 Rf),(.bool Re)])∧
  Hm prog aM true yield #[(.int .i64 x6),(.agg #[(.int .i64 OU),(.int .i64 O2),(.int .i64 Rg),(.int .i64 Rf),(.bool Re)])] NF fun e NI=>
  ∃OS:Bool,e= .returned (.bool OS)∧
  split (!OS) (
   R (.tuple #[]) NI) (
   ∃m1,m1<m∧I m1 (i64.wrap (x6+1)) NI)) (
  R (.tuple #[]) ND)
def ur:Ann:=(.node none .leaf (.node none (.node (some ⟨[(6,.one (.int .i64))],[3,6,7,8,9,10,11,12,13,14,15,16]⟩) .leaf .leaf) .leaf))
theorem DEntries_1_eq(yield:Value)(cap0:Addr)(R:aB)(w:World):nc yield cap0 R w=vcF prog aM [] Tryz.f194 ur [yield,(.pointer (some cap0))] R none w:=by kernel_rfl
theorem ql(yield:Value)(cap0:Addr) {R:aB} {w:World}(h:nc yield cap0 R w):Calls prog 194 #[yield,(.pointer (some cap0))] w fun e w'=>∃v,e= .returned v∧R v w':=
 ak Tryz.func194 aw aa ((DEntries_1_eq yield cap0 R w).mp h)
def vA(d:Option Addr)(space:Int)(R:aB)(w:World):Prop:=
 ∀(gv:Nat)(wv:World),gv=w.heap.size→wv=w.alloc (.cells #[(.int .i64 space)] 3)→
 ∃x9:Int,wv.cell? (Addr.mk gv 0 none)=some (.int .i64 x9)∧
 Calls prog 116 #[(.pointer d),(.int .i64 x9)] wv fun e ND=>
 ∃NT:Bool,e= .returned (.bool NT)∧
 split (!NT) (
  R (.slice none 0 0) ND) (
  ∀(NJ:Nat)(NF:World),NJ=ND.heap.size→NF=ND.alloc (.cells (#[(.slice none 0 0)]) 234)→
  Calls prog 177 #[(.pointer d)] NF fun e NI=>
  ∃PT:Value,e= .returned PT∧
  ∃(gf:Nat)(cap:Array Value),PT= .func (.func gf) #[] cap∧aM.elem gf=true∧
  ∀(l dl:Nat)(NM:World),dl=NI.heap.size→l=NI.heap.size+1→Kept (fun k=>k<NI.heap.size) NI NM→l<NM.heap.size→NM.heap[dl]? =some (.deferred (some []))→
  ∃(xs:List (List Value))(X:Nat→Prop)(D J Jr:Nat→World→Prop)(Je:Nat→Nat→World→Prop),
  Iter prog gf cap xs X D∧(∀k,X k→k<NI.heap.size)∧(∀x∈xs,yK [.one (.int .i64),.agg [.int .i64,.int .i64,.int .i64,.int .i64,.bool]] fun vs=>x=vs)∧
  (zH X l J∧zH X l Jr∧∀id,zH X l (Je id))∧D 0 NM∧J 0 NM∧
  (∀(i:Nat)(A:World),J i A→D i A→∀(OS:Int)(SV:Int)(RG:Int)(Yy:Int)(Yx:Int)(Yw:Bool),xs[i]? =some [(.int .i64 OS),(.agg #[(.int .i64 SV),(.int .i64 RG),(.int .i64 Yy),(.int .i64 Yx),(.bool Yw)])]→
   ∀(OB:Nat)(Ol:World),OB=A.heap.size→Ol=A.alloc (.cells (#[(.int .i64 0),(.int .i64 0),(.int .i64 0),(.int .i64 0),(.bool false)]) 50)→
   aF Ol (Addr.mk OB 0 none) [(.int .i64 SV),(.int .i64 RG),(.int .i64 Yy),(.int .i64 Yx),(.bool Yw)] fun N8=>
   Kept (fun k=>X k∨k=l) A N8∧∀NZ,Kept (fun k=>k<N8.heap.size∧k≠l) N8 NZ→
   ∃J1:Bool→World→Prop,(
    ∃OY:Int,NZ.cell? (Addr.mk gv 0 none)=some (.int .i64 OY)∧
    split ((OS:Int) !=OY) (
     ∃Pt:Int,NZ.cell? ((Addr.mk OB 0 none).add 0)=some (.int .i64 Pt)∧
     split ((Pt:Int) !=0) (
      ∃PX:Int,NZ.cell? ((Addr.mk OB 0 none).add 1)=some (.int .i64 PX)∧
      ∃RX:Int,NZ.cell? (Addr.mk gv 0 none)=some (.int .i64 RX)∧
      J1 ((PX:Int)==RX) NZ) (
      J1 false NZ)) (
     J1 false NZ))∧∀(Ry:Nat→Value)(P4:Bool),∀N5,J1 P4 N5→
   split P4 (
    ∃X7:Option Addr,∃X5:Nat,∃X6:Nat,N5.cell? (Addr.mk NJ 0 none)=some (.slice X7 X5 X6)∧
    ∀(gv4:Nat)(Ph:World),gv4=N5.heap.size→Ph=N5.alloc (.cells #[(.int .i64 OS)] 3)→
    ∃XY:Option Addr,∃XW:Nat,∃XX:Nat,∃Ql,(Builtin.append_ #[234,234] 234 #[(.slice X7 X5 X6),(.slice (some (Addr.mk gv4 0 none)) 1 1)]:Sem Value).run prog Ph= .ok (.slice XY XW XX) Ql∧
    aF Ql (Addr.mk NJ 0 none) [(.slice XY XW XX)] fun QU=>
    Kept (fun k=>X k∨k=l) NZ QU∧J (i+1) QU) (
    Kept (fun k=>X k∨k=l) NZ N5∧J (i+1) N5))∧
  (∀W,J xs.length W→D xs.length W→
   ∃TK:Option Addr,∃QL:Nat,∃TJ:Nat,W.cell? (Addr.mk NJ 0 none)=some (.slice TK QL TJ)∧
   W.heap[dl]? =some (.deferred (some []))∧
   R (.slice TK QL TJ) (W.putObj dl (.deferred none)))∧
  (∀i W,Jr i W→D i W→
   W.heap[dl]? =some (.deferred (some []))∧
   R (.slice none 0 0) (W.putObj dl (.deferred none)))∧True)
def FH:Ann:=(.node none .leaf (.node none .leaf (.node none .leaf (.node none (.node none .leaf (.node none (.node (some ⟨[(14,.one (.int .i64)),(15,.agg [.int .i64,.int .i64,.int .i64,.int .i64,.bool])],[]⟩) .leaf (.node none (.node none (.node (some ⟨[(29,.one (.bool))],[16,17,18,19,20,21,22,23,24,25,26,27,28,29]⟩) .leaf .leaf) .leaf) .leaf)) .leaf)) .leaf))))
theorem DOwned_eq(d:Option Addr)(space:Int)(R:aB)(w:World):vA d space R w=vcF prog aM [] Tryz.f147 FH [(.pointer d),(.int .i64 space)] R none w:=by kernel_rfl
theorem xu(d:Option Addr)(space:Int) {R:aB} {w:World}(h:vA d space R w):Calls prog 147 #[(.pointer d),(.int .i64 space)] w fun e w'=>∃v,e= .returned v∧R v w':=
 ak Tryz.func147 aw aa ((DOwned_eq d space R w).mp h)
end
end Go.Proofs.YtinhphjfnedhgaaGreatDoor
namespace Go.Proofs.YtinhphjfnedhgaaGreatDoor
open Go.Proofs.Tryz (prog)
open Go Go.RowKit V
open Go.IntKind (i64 u32 u64)
section
set_option maxRecDepth 10000
set_option maxHeartbeats 1000000
def DB.row(D:DB)(p:Nat):List Value:= [.int .i64 (p:Int),.agg #[.int .i64 (D.ent p).typ,.int .i64 (D.ent p).owner,.int .i64 (D.ent p).refs,.int .i64 (D.ent p).state,.bool (D.ent p).bm]]
def DB.rows(D:DB):List (List Value):=(List.range D.S).map D.row
theorem DB.so(D:DB):D.rows.length=D.S:=by simp [DB.rows]
theorem DB.xW {D:DB} {i:Nat}(h:i<D.S):D.rows[i]? =some (D.row i):=by simp [DB.rows,h]
theorem DB.I8 {D:DB} {i:Nat} {x:List Value}(h:D.rows[i]? =some x):i<D.S∧x=D.row i:=by
 have:=(List.getElem?_eq_some_iff.1 h).1
 rw [DB.so]at this
 rw [DB.xW this]at h
 exact⟨this,(Option.some.inj h).symm⟩
def fh.XI(L:fh)(g:Nat):Nat→Prop:=fun k=>L.X k∨k=g
theorem DBP.it {L:fh} {D:DB} {w A:World} {g:Nat}(h:DBP w L D)(k:Kept (L.XI g) w A):DBP A L D:=h.ch (Ch.Jh k) fun _ hx hn=>hn (.inl hx)
theorem Hf {L:fh} {D:DB} {w:World}(h:DBP w L D):
 Calls prog 177 #[.pointer (some (Addr.mk L.g 0 none))] w fun e w'=>∃v,e= .returned v∧∃g T,v= .func (.func 194) #[] #[.pointer (some (Addr.mk g 0 none))]∧Blk w' g #[.pointer (some (Addr.mk L.g 0 none))] T∧w.heap.size≤g∧Pu w w':=by
 refine tV _ ?_
 refine mkd fun gv wv m=>?_
 exact⟨gv,_,rfl,m.blk,m.lo (Ch.refl (fun _=>False) w),m.pu⟩
theorem MO {L:fh} {D:DB} {w:World} {g:Nat} {T:TypeId}(h:DBP w L D)(hg:Blk w g #[.pointer (some (Addr.mk L.g 0 none))] T):
 Iter prog 194 #[.pointer (some (Addr.mk g 0 none))] D.rows (L.XI g) (fun _ A=>Kept (L.XI g) w A):=by
 have Od:∀k,L.XI g k→k<w.heap.size:=fun k hk=>hk.elim (h.lt k) (fun e=>e▸hg.lt)
 have Wj:=h.S64
 refine Ej Od fun l J Jx W sJ sJx j0 d0 hy=>?_
 rw [DB.so]
 have pJ:∀ {i A B},J i A→Pu A B→J i B:=fun a q=>sJ _ _ _ a (q.mono fun _ h=>h.elim)
 have eW:∀ {A B},Kept (L.XI g) w A→Pu A B→Kept (L.XI g) w B:=fun a q=>a.trans (q.eW fun k hk=>Nat.lt_of_lt_of_le (Od k hk) a.size)
 have ld:∀ {A},Kept (L.XI g) w A→A.cell? (Addr.mk g 0 none)=some (.pointer (some (Addr.mk L.g 0 none))):=fun a=>by rw [a.cell (p:=Addr.mk g 0 none) (.inr rfl)];exact hg.at0 rfl
 refine Calls.mono (P:=prog) (ql (.func (.yield l) #[] #[]) (Addr.mk g 0 none) (R:=fun _ B=>(J D.S B∧Kept (L.XI g) w B)∨∃i,Jx i B∧Kept (L.XI g) w B) ?_) (fun e B hh=>by obtain⟨v,h1,h2⟩:=hh;exact⟨⟨v,h1⟩,h2⟩)
 refine⟨_,ld d0,Calls.mono (BK (h.it d0)) ?_⟩
 rintro e _ ⟨_,rfl,rfl,rfl⟩
 refine⟨_,rfl,?_⟩
 refine⟨fun mz x A=>0≤x∧x≤D.S∧mz=((D.S:Int) - x).toNat∧J x.toNat A∧Kept (L.XI g) w A,⟨_,by omega,by omega,rfl,j0,d0⟩,?_⟩
 rintro mz _ x A ⟨hx0,S7,rfl,hj,hd⟩
 refine ar (fun c1=>?_) (fun c1=>?_)
 ·refine⟨_,ld hd,Calls.mono (dAt (h.it hd) _ (by simp [DB.has];omega)) ?_⟩
  rintro e A1 ⟨_,rfl,rfl,q1⟩
  refine⟨_,_,_,_,_,rfl,?_⟩
  have hyy:=hy x.toNat _ A1 (DB.xW (by omega)) (pJ hj q1) (eW hd q1)
  simp only [DB.row,show((x.toNat:Nat):Int)=x by omega]at hyy
  refine vF hyy ?_
  rintro e B (⟨rfl,hj2,OC⟩ | ⟨rfl,hj2,OC⟩)
  ·refine⟨_,rfl,jm ?_⟩
   refine⟨_,?_,by rw [IntKind.wrap_i64];omega,by rw [IntKind.wrap_i64];omega,rfl,?_,(eW hd q1).trans OC⟩
   ·rw [IntKind.wrap_i64];omega
   ·rw [aq (by omega),show(x+1).toNat=x.toNat+1 by omega];exact hj2
  ·exact⟨_,rfl,dN (.inr ⟨_,hj2,(eW hd q1).trans OC⟩)⟩
 ·exact .inl ⟨by rw [show D.S=x.toNat by omega];exact hj,hd⟩
theorem LI {L:fh} {D:DB} {w:World}(h:DBP w L D)(space:Int):
 Calls prog 147 #[.pointer (some (Addr.mk L.g 0 none)),.int .i64 space] w fun e w'=>∃v,e= .returned v∧∃Z':Nat→Prop,∃A':Option Addr,∃N' C':Nat,v= .slice A' N' C'∧Own w' Z' 3 A' N' C' (if D.bR space then D.eZ space D.S else [])∧(∀k,Z' k→w.heap.size≤k)∧Pu w w':=by
 refine xu _ _ ?_
 have Wj:=h.S64
 refine mkd fun gv wv m=>?_
 refine⟨_,m.blk.at0 rfl,Calls.mono (ta (h.pu m.pu) _) ?_⟩
 rintro e ND ⟨_,rfl,rfl,q1⟩
 refine⟨_,rfl,?_⟩
 have b0:=q1.blk m.blk
 have lg:=m.lo (Ch.refl (fun _=>False) w)
 have p1:Pu w ND:=Ch.pu m.pu q1
 refine bL (fun c1=>?_) (fun c1=>?_)
 ·exact⟨fun _=>False,_,_,_,rfl,by rw [if_neg (by simp [c1])];exact Own.nil,fun k hk=>hk.elim,p1⟩
 refine mkd fun NJ NF m1=>?_
 have b0:=m1.old b0
 have ne:=m1.ne (q1.blk m.blk)
 have p2:Pu w NF:=Ch.pu p1 m1.pu
 have lg1:=m1.lo p1
 refine Calls.mono (Hf (h.pu p2)) ?_
 rintro e NI ⟨_,rfl,g,T,rfl,bg,lgg,q3⟩
 refine⟨_,rfl,_,_,rfl,by kernel_rfl,?_⟩
 intro l dl NM hdl hl k4 hl4 hdo
 have b0:=q3.blk b0
 have b1:=q3.blk m1.blk
 have q4:Pu NI NM:=⟨k4.mono fun _ h=>h.1⟩
 have p3:Pu w NI:=Ch.pu p2 q3
 have p4:Pu w NM:=Ch.pu p3 q4
 have h4:=h.pu p4
 have bg4:=q4.blk bg
 have glt:=bg.lt
 have g1lt:=(q3.blk m1.blk).lt
 have g0lt:=b0.lt
 have Sp:∀k,L.XI g k→k<NI.heap.size:=fun k hk=>hk.elim ((h.pu p3).lt k) (fun e=>e▸glt)
 have nX0:¬L.XI g gv:=fun hx=>hx.elim (fun hx=>absurd (h.lt _ hx) (by omega)) (fun e=>by have:=m1.old (q1.blk m.blk) |>.lt;omega)
 have nX1:¬L.XI g NJ:=fun hx=>hx.elim (fun hx=>absurd (h.lt _ hx) (by omega)) (fun e=>by have:=m1.lt;omega)
 have Sl:=p3.size
 let Zn:Nat→Prop:=fun k=>NM.heap.size≤k
 let J:Nat→World→Prop:=fun i A=>Ch (L.XI g) w A∧Blk A gv #[.int .i64 space] 3∧(∃ad n c T,Blk A NJ #[.slice ad n c] T∧Own A Zn 3 ad n c (D.eZ space i))∧A.heap[dl]? =some (.deferred (some []))∧NM.heap.size≤A.heap.size
 have sJ:zH (L.XI g) l J:=I3 fun i A B hj q=>by
  obtain⟨a1,a2,⟨ad,n,c,T2,a3,a4⟩,a5,a6⟩:=hj
  refine⟨a1.call q fun k hk=>hk.elim .inl (fun e=>.inr (by omega)),q.blk a2 (fun hx=>hx.elim nX0 (by omega)),⟨ad,n,c,T2,q.blk a3 (fun hx=>hx.elim nX1 (by omega)),a4.ch q fun k hk hx=>?_⟩,q.obj a5 (fun hx=>hx.elim (fun hx=>absurd (Sp _ hx) (by omega)) (by omega)),Nat.le_trans a6 q.size⟩
  have hk:NM.heap.size≤k:=hk
  exact hx.elim (fun hx=>absurd (Sp _ hx) (by have:=k4.size;omega)) (by omega)
 refine⟨D.rows,L.XI g,_,J,fun _ _=>False,fun _ _ _=>False,MO h4 bg4,Sp,?_,⟨sJ,fun _ _ _ h _=>h,fun _ _ _ _ h _=>h⟩,Kept.refl _ _,?_,?_,?_,fun _ _ h _=>h.elim,trivial⟩
 ·intro x hx
  obtain⟨i,hi,rfl⟩:=List.mem_map.1 hx
  exact⟨_,_,_,_,_,_,rfl⟩
 ·exact⟨p4.mono fun _ h=>h.elim,q4.blk b0,⟨_,_,_,_,q4.blk b1,by exact Own.nil⟩,hdo,Nat.le_refl _⟩
 ·rintro i A ⟨a1,a2,⟨ad,n,c,T2,a3,a4⟩,a5,a6⟩ hd OS xa xb xc xd xe hx
  obtain⟨hi,hx⟩:=DB.I8 hx
  simp only [DB.row,List.cons.injEq,Value.int.injEq,Value.agg.injEq,Value.bool.injEq,Array.mk.injEq,and_true,true_and]at hx
  obtain⟨rfl,rfl,rfl,rfl,rfl,rfl⟩:=hx
  refine mkd fun OB Ol m6=>?_
  refine cp m6.blk (by simp) fun N8 s7=>?_
  have q6:Pu A N8:=(show Pu A Ol from m6.pu).stored s7 (.inr (m6.lo (Ch.refl (fun _=>False) A)))
  have Of:∀k,L.XI g k∨k=l→k<A.heap.size:=fun k hk=>hk.elim (fun hx=>by have:=Sp _ hx;have:=k4.size;omega) (by omega)
  refine⟨q6.eW Of,fun NZ k5=>?_⟩
  have b2:Blk N8 OB #[.int .i64 (D.ent i).typ,.int .i64 (D.ent i).owner,.int .i64 (D.ent i).refs,.int .i64 (D.ent i).state,.bool (D.ent i).bm] _:=s7.blk
  have q5:Ch (fun k=>k=l) N8 NZ:=⟨k5⟩
  have n2:=m6.num
  have b2:=q5.blk b2 (by omega)
  have qa:Ch (fun k=>k=l) A NZ:=(q6.mono fun _ h=>h.elim).trans q5
  have b0:=qa.blk a2 (by omega)
  refine⟨fun b B=>b=D.aP space i∧B=NZ,?_,?_⟩
  ·refine⟨_,b0.at0 rfl,aL (fun c2=>?_) (fun c2=>⟨by simp [DB.aP,c2],rfl⟩)⟩
   refine⟨_,b2.at rfl,aL (fun c3=>?_) (fun c3=>⟨by simp [DB.aP,c3],rfl⟩)⟩
   exact⟨_,b2.at rfl,_,b0.at0 rfl,by simp [DB.aP,c2,c3],rfl⟩
  rintro _ b B ⟨rfl,rfl⟩
  have e1:D.eZ space (i+1)=if D.aP space i then D.eZ space i++ [I64.mk i]else D.eZ space i:=by
   have:=D.ym space (p:=(i:Int)) (by omega)
   rwa [aq (by omega),show((i:Int)+1).toNat=i+1 by omega,show((i:Nat):Int).toNat=i by omega]at this
  have hj5:Ch (L.XI g) w B∧Blk B gv #[.int .i64 space] 3∧(∃T,Blk B NJ #[.slice ad n c] T)∧Own B Zn 3 ad n c (D.eZ space i)∧B.heap[dl]? =some (.deferred (some []))∧NM.heap.size≤B.heap.size:=
   ⟨a1.call qa fun k e=>.inr (by omega),b0,⟨_,qa.blk a3 (by omega)⟩,a4.ch qa (fun k (hk:NM.heap.size≤k) e=>by omega),qa.obj a5 (by omega),Nat.le_trans a6 qa.size⟩
  obtain⟨c1,c2,⟨T3,c3⟩,c4,c5,c6⟩:=hj5
  cases hb:D.aP space i
  ·refine jm ⟨Kept.refl _ _,c1,c2,⟨_,_,_,_,c3,by rw [e1,hb];exact c4⟩,c5,c6⟩
  ·refine dN ?_
   refine⟨_,_,_,c3.at0 rfl,?_⟩
   refine mkd fun gv4 Ph m9=>?_
   have hlen:=(c4.pu m9.pu).len
   have hol:=D.Bq space i
   refine(c4.pu m9.pu).app La m9.blk (x:=I64.mk i) (by rfl) (by omega) (by omega) (by exact Nat.le_trans c6 m9.pu.size) (fun A9 c9 Ql o9 q9=>?_)
   have c3:=q9.blk (m9.old c3) (fun hx=>absurd c3.lt (by have hx:NM.heap.size≤NJ:=hx;omega))
   refine cp c3 (by simp) fun QU On=>?_
   have hZ1:∀k,Zn k→k≠NJ:=fun k (hk:NM.heap.size≤k) e=>by omega
   have Y4:Ch (fun k=>NM.heap.size≤k∨k=NJ) B QU:=((show Ch _ B Ph from m9.pu.mono fun _ h=>h.elim).call q9 fun k hk=>.inl (.inl hk)).call On.ch fun k e=>.inl (.inr e)
   refine⟨Y4.kept.mono fun k hk=>⟨hk.elim (fun hx=>by have:=Sp _ hx;have:=k4.size;omega) (by omega),fun h=>hk.elim (fun hx=>h.elim (fun h=>absurd (Sp _ hx) (by have:=k4.size;omega)) (fun e=>nX1 (e▸hx))) (fun e=>h.elim (by omega) (by omega))⟩,?_⟩
   refine⟨c1.call Y4 fun k hk=>.inr (hk.elim (fun h=>Nat.le_trans p4.size h) (fun e=>by omega)),Y4.blk c2 (fun h=>h.elim (by omega) (fun e=>ne e)),⟨_,_,_,_,On.blk,by rw [e1,hb];exact o9.ch On.ch fun k hk e=>hZ1 k hk e⟩,Y4.obj c5 (fun h=>h.elim (by omega) (by omega)),Nat.le_trans c6 Y4.size⟩
 ·rintro W ⟨a1,a2,⟨ad,n,c,T2,a3,a4⟩,a5,a6⟩ hd
  refine⟨_,_,_,a3.at0 rfl,a5,Zn,_,_,_,rfl,?_,fun k (hk:NM.heap.size≤k)=>Nat.le_trans p4.size hk,?_⟩
  ·rw [if_pos c1]
   rw [DB.so]at a4
   exact a4.ch (Pu.put W dl _ (fun k=>k=dl) rfl) fun k (hk:NM.heap.size≤k) e=>by omega
  ·exact(Pu.join p4 hd a1).call (Pu.put W dl _ (fun k=>k=dl) rfl) fun k e=>.inr (by omega)
end
end Go.Proofs.YtinhphjfnedhgaaGreatDoor
namespace Go.Proofs.YtinhphjfnedhgaaGreatDoor
open Go.Proofs.Tryz (prog)
open Go Go.RowKit V
open Go.IntKind (i64 u32 u64)
section
set_option maxRecDepth 100000
set_option maxHeartbeats 1000000
attribute [local irreducible] Vc2 VcD
attribute [local grind=] Pd.cN Pd.cy Pd.gm Pd.ia Pd.cj Pd.fx Pd.gl Pd.eU Pd.jO
attribute [local grind .] Pd.Ok.ent
attribute [local grind→] Pd.Ok.dV
def Cj:Ctr Un:=⟨[.one (.obj 0 0),.agg [.bool,.int .i64]],[],[.ob 0 []],[],fun fa fb rm m K=>K ⟨(.bool (m.has fa fb)),none,[],[],[]⟩⟩
theorem L5:LV Un prog 184 Cj:=by
 show ∀(fa:Bool)(fb:Int)(rm:Nat→Nat)(m:Mem),∀Q:Ou Un→Prop,(Q ⟨(.bool (m.has fa fb)),none,[],[],[]⟩)→∀(X:Nat→Nat→Prop)(w:World),Sat (U:=Un) [(.ob 0 rm m)] X w→ax (U:=Un) [(.ob 0 rm m)] fr0 []→Calls prog 184 #[(.pointer (some (Addr.mk (rm 0) 0 none))),(.agg #[(.bool fa),(.int .i64 fb)])] w (aU (U:=Un) [(.ob 0 rm m)] [] X w Q)
 intro fa fb rm m Q hQ X w hs hl
 obtain⟨L,hg,hM,hX⟩:=lI hs
 rw [hg]
 refine(No hM fa fb).mono ?_
 rintro e w' ⟨u,rfl,rfl,q⟩
 exact aU.pu hs q hQ trivial
def o7:Ctr Un:=⟨[.one (.obj 0 0),.agg [.bool,.int .i64],.one (.int .i64)],[],[.ob 0 []],[],fun fa fb off rm m K=>K ⟨(.int .u32 (m.aZ fa fb off)),none,[],[],[]⟩⟩
theorem DF:LV Un prog 33 o7:=by
 show ∀(fa:Bool)(fb:Int)(off:Int)(rm:Nat→Nat)(m:Mem),∀Q:Ou Un→Prop,(Q ⟨(.int .u32 (m.aZ fa fb off)),none,[],[],[]⟩)→∀(X:Nat→Nat→Prop)(w:World),Sat (U:=Un) [(.ob 0 rm m)] X w→ax (U:=Un) [(.ob 0 rm m)] fr0 []→Calls prog 33 #[(.pointer (some (Addr.mk (rm 0) 0 none))),(.agg #[(.bool fa),(.int .i64 fb)]),(.int .i64 off)] w (aU (U:=Un) [(.ob 0 rm m)] [] X w Q)
 intro fa fb off rm m Q hQ X w hs hl
 obtain⟨L,hg,hM,hX⟩:=lI hs
 rw [hg]
 refine(Mx hM fa fb off).mono ?_
 rintro e w' ⟨u,rfl,rfl,q⟩
 exact aU.pu hs q hQ trivial
def iY:Ctr Un:=⟨[.one (.obj 0 0),.agg [.bool,.int .i64],.one (.int .i64),.one (.int .u32)],[],[.ob 0 []],[0],fun fa fb off v rm m K=>(0≤(v:Int)∧(v:Int)<4294967296)∧K ⟨(.int .i64 (m.err fa fb off)),none,[.ob 0 (m.write fa fb off v)],[],[]⟩⟩
theorem tJ:LV Un prog 42 iY:=by
 show ∀(fa:Bool)(fb:Int)(off:Int)(v:Int)(rm:Nat→Nat)(m:Mem),∀Q:Ou Un→Prop,((0≤(v:Int)∧(v:Int)<4294967296)∧Q ⟨(.int .i64 (m.err fa fb off)),none,[.ob 0 (m.write fa fb off v)],[],[]⟩)→∀(X:Nat→Nat→Prop)(w:World),Sat (U:=Un) [(.ob 0 rm m)] X w→ax (U:=Un) [(.ob 0 rm m)] fr0 []→Calls prog 42 #[(.pointer (some (Addr.mk (rm 0) 0 none))),(.agg #[(.bool fa),(.int .i64 fb)]),(.int .i64 off),(.int .u32 v)] w (aU (U:=Un) [(.ob 0 rm m)] [0] X w Q)
 intro fa fb off v rm m Q hQ X w hs hl
 obtain⟨NL,hQ⟩:=hQ
 obtain⟨L,hg,hM,hX⟩:=lI hs
 rw [hg]
 refine(Bv hM fa fb off v NL).mono ?_
 rintro e w' ⟨u,rfl,rfl,h2,q⟩
 exact aU.one (Z:=X 0) (q.mono fun k hk=>(hX k).1 hk) (show cT 0 rm _ (X 0) w' from⟨L,hg,hX,h2⟩) (fun k hk=>.inl hk) hQ trivial
theorem Ll {r rm:Nat→Nat} {E:Pd} {m:Mem}(hl:ax (U:=Un) [.ob 1 r E,.ob 0 rm m] fr0 [(.l 0 1,.p (.obj 1 0 0))]):r 1=rm 0:=by
 obtain⟨t',r',s',T4,hk⟩:=hl _ _ (List.mem_singleton.2 rfl)
 simp only [nth,Option.some.injEq,Res.ob.injEq]at T4
 obtain⟨rfl,rfl,_⟩:=T4
 have hk:some (Value.pointer (some ⟨rm 0,0,none⟩))=some (Value.pointer (some ⟨r 1,0,none⟩)):=hk
 simp only [Option.some.injEq,Value.pointer.injEq,Addr.mk.injEq]at hk
 exact hk.1.symm
def nO:Ctr Un:=⟨[.one (.obj 0 0)],[],[.ob 1 [(1,1,0)],.ob 0 []],[],fun r E rm m K=>K ⟨(.pointer (some (Addr.mk (r 1) 0 none))),(some (.p (.obj 1 0 0))),[],[],[]⟩⟩
def Cs(r:Nat→Nat)(E:Pd)(rm:Nat→Nat)(m:Mem)(Q:Ou Un→Prop):Prop:=
 Pd.Ok E→
 Mem.Wf m→
 Q ⟨(.pointer (some (Addr.mk (r 1) 0 none))),(some (.p (.obj 1 0 0))),[],[],[]⟩
theorem Ct:Vc2 Un prog (aQ []) [] Tryz.f14 .leaf [] nO=(∀r (E:Pd) rm (m:Mem),∀Q,(nO.body r E rm m Q)→Cs r E rm m Q):=by kernel_rfl
theorem Cr:LV Un prog 14 nO:=verify Tryz.func14 aa (tb:= []) trivial (by kernel_rfl) (Ct.mpr fun r E rm m Q h f1 f2=>h)
def aY:Ctr Un:=⟨[.one (.obj 0 0)],[],[.ob 1 [(1,1,0)],.ob 0 []],[],fun r E rm m K=>K ⟨(.pointer (some (Addr.mk (rm 0) 0 none))),(some (.p (.obj 1 0 0))),[],[],[]⟩⟩
theorem cU:LV Un prog 14 aY:=by
 show ∀(r:Nat→Nat)(E:Pd)(rm:Nat→Nat)(m:Mem),∀Q:Ou Un→Prop,(Q ⟨(.pointer (some (Addr.mk (rm 0) 0 none))),(some (.p (.obj 1 0 0))),[],[],[]⟩)→∀(X:Nat→Nat→Prop)(w:World),Sat (U:=Un) [(.ob 1 r E),(.ob 0 rm m)] X w→ax (U:=Un) [(.ob 1 r E),(.ob 0 rm m)] fr0 [(.l 0 1,.p (.obj 1 0 0))]→Calls prog 14 #[(.pointer (some (Addr.mk (r 0) 0 none)))] w (aU (U:=Un) [(.ob 1 r E),(.ob 0 rm m)] [] X w Q)
 intro r E rm m Q hQ X w hs hl
 exact Cr r E rm m Q (show Q ⟨.pointer (some (Addr.mk (r 1) 0 none)),some (.p (.obj 1 0 0)),[],[],[]⟩from(by rw [Ll hl];exact hQ)) X w hs hl
def kg:Ctr Un:=⟨[.one (.obj 0 0)],[],[.ob 1 []],[],fun r E K=>K ⟨(.int .i64 E.av),none,[],[],[]⟩⟩
def FL(r:Nat→Nat)(E:Pd)(Q:Ou Un→Prop):Prop:=
 Pd.Ok E→
 Q ⟨(.int .i64 (Pd.av E)),none,[],[],[]⟩
theorem FM:Vc2 Un prog (aQ []) [] Tryz.f178 .leaf [] kg=(∀r (E:Pd),∀Q,(kg.body r E Q)→FL r E Q):=by kernel_rfl
theorem FK:LV Un prog 178 kg:=verify Tryz.func178 aa (tb:= []) trivial (by kernel_rfl) (FM.mpr fun r E Q h f1=>ib h (by omega))
def jd:Ctr Un:=⟨[.one (.obj 0 0)],[],[.ob 1 [(1,1,0)],.ob 0 []],[],fun r E rm m K=>E.n=m.S∧K ⟨(.int .i64 ((E.on m).S:Int)),none,[],[],[]⟩⟩
theorem tP:LV Un prog 120 jd:=by
 show ∀(r:Nat→Nat)(E:Pd)(rm:Nat→Nat)(m:Mem),∀Q:Ou Un→Prop,(E.n=m.S∧Q ⟨(.int .i64 ((E.on m).S:Int)),none,[],[],[]⟩)→∀(X:Nat→Nat→Prop)(w:World),Sat (U:=Un) [(.ob 1 r E),(.ob 0 rm m)] X w→ax (U:=Un) [(.ob 1 r E),(.ob 0 rm m)] fr0 [(.l 0 1,.p (.obj 1 0 0))]→Calls prog 120 #[(.pointer (some (Addr.mk (r 0) 0 none)))] w (aU (U:=Un) [(.ob 1 r E),(.ob 0 rm m)] [] X w Q)
 intro r E rm m Q hQ X w hs hl
 obtain⟨hn,hQ⟩:=hQ
 obtain⟨a,L,hg,hr,hD,QB,QK⟩:=vV hs hl hn
 refine(BK hD).mono ?_
 rintro e w' ⟨u,rfl,rfl,rfl⟩
 exact aU.pu hs (Ch.refl _ _) hQ trivial
def cQ:Ctr Un:=⟨[.one (.obj 0 0),.one (.int .i64)],[],[.ob 1 [(1,1,0)],.ob 0 []],[],fun p r E rm m K=>E.n=m.S∧K ⟨(.tuple #[(.agg #[(.int .i64 (((E.on m).entry p).typ)),(.int .i64 (((E.on m).entry p).owner)),(.int .i64 (((E.on m).entry p).refs)),(.int .i64 (((E.on m).entry p).state)),(.bool (((E.on m).entry p).bm))]),(.int .i64 ((E.on m).bc p))]),(some (.t [none,none])),[],[],[]⟩⟩
theorem gV:LV Un prog 18 cQ:=by
 show ∀(p:Int)(r:Nat→Nat)(E:Pd)(rm:Nat→Nat)(m:Mem),∀Q:Ou Un→Prop,(E.n=m.S∧Q ⟨(.tuple #[(.agg #[(.int .i64 (((E.on m).entry p).typ)),(.int .i64 (((E.on m).entry p).owner)),(.int .i64 (((E.on m).entry p).refs)),(.int .i64 (((E.on m).entry p).state)),(.bool (((E.on m).entry p).bm))]),(.int .i64 ((E.on m).bc p))]),(some (.t [none,none])),[],[],[]⟩)→∀(X:Nat→Nat→Prop)(w:World),Sat (U:=Un) [(.ob 1 r E),(.ob 0 rm m)] X w→ax (U:=Un) [(.ob 1 r E),(.ob 0 rm m)] fr0 [(.l 0 1,.p (.obj 1 0 0))]→Calls prog 18 #[(.pointer (some (Addr.mk (r 0) 0 none))),(.int .i64 p)] w (aU (U:=Un) [(.ob 1 r E),(.ob 0 rm m)] [] X w Q)
 intro p r E rm m Q hQ X w hs hl
 obtain⟨hn,hQ⟩:=hQ
 obtain⟨a,L,hg,hr,hD,QB,QK⟩:=vV hs hl hn
 refine(LJ hD p).mono ?_
 rintro e w' ⟨u,rfl,rfl,q⟩
 exact aU.pu hs q hQ (KnO.tup _ (by simp))
def kV:Ctr Un:=⟨[.one (.obj 0 0),.one (.int .i64),.one (.int .i64)],[],[.ob 1 [(1,1,0)],.ob 0 []],[0,1],fun p q r E rm m K=>E.n=m.S∧K ⟨(.int .i64 ((E.on m).aR p q)),none,[.ob 1 (((E.on m).aN p q).pd),.ob 0 (((E.on m).aN p q).mem)],[],[]⟩⟩
theorem xr:LV Un prog 60 kV:=by
 show ∀(p:Int)(q:Int)(r:Nat→Nat)(E:Pd)(rm:Nat→Nat)(m:Mem),∀Q:Ou Un→Prop,(E.n=m.S∧Q ⟨(.int .i64 ((E.on m).aR p q)),none,[.ob 1 (((E.on m).aN p q).pd),.ob 0 (((E.on m).aN p q).mem)],[],[]⟩)→∀(X:Nat→Nat→Prop)(w:World),Sat (U:=Un) [(.ob 1 r E),(.ob 0 rm m)] X w→ax (U:=Un) [(.ob 1 r E),(.ob 0 rm m)] fr0 [(.l 0 1,.p (.obj 1 0 0))]→Calls prog 60 #[(.pointer (some (Addr.mk (r 0) 0 none))),(.int .i64 p),(.int .i64 q)] w (aU (U:=Un) [(.ob 1 r E),(.ob 0 rm m)] [0,1] X w Q)
 intro p q r E rm m Q hQ X w hs hl
 obtain⟨hn,hQ⟩:=hQ
 obtain⟨a,L,hg,hr,hD,QB,QK⟩:=vV hs hl hn
 refine(BJ hD p q).mono ?_
 rintro e w' ⟨u,rfl,rfl,h2,q⟩
 exact CZ hs QB QK hg hr h2 q hQ trivial
def kT:Ctr Un:=⟨[.one (.obj 0 0),.one (.int .i64),.one (.int .i64),.one (.int .i64)],[],[.ob 1 [(1,1,0)],.ob 0 []],[0,1],fun p t o r E rm m K=>E.n=m.S∧K ⟨(.int .i64 ((E.on m).bM p t o)),none,[.ob 1 (((E.on m).take p t o).pd),.ob 0 (((E.on m).take p t o).mem)],[],[]⟩⟩
theorem xq:LV Un prog 64 kT:=by
 show ∀(p:Int)(t:Int)(o:Int)(r:Nat→Nat)(E:Pd)(rm:Nat→Nat)(m:Mem),∀Q:Ou Un→Prop,(E.n=m.S∧Q ⟨(.int .i64 ((E.on m).bM p t o)),none,[.ob 1 (((E.on m).take p t o).pd),.ob 0 (((E.on m).take p t o).mem)],[],[]⟩)→∀(X:Nat→Nat→Prop)(w:World),Sat (U:=Un) [(.ob 1 r E),(.ob 0 rm m)] X w→ax (U:=Un) [(.ob 1 r E),(.ob 0 rm m)] fr0 [(.l 0 1,.p (.obj 1 0 0))]→Calls prog 64 #[(.pointer (some (Addr.mk (r 0) 0 none))),(.int .i64 p),(.int .i64 t),(.int .i64 o)] w (aU (U:=Un) [(.ob 1 r E),(.ob 0 rm m)] [0,1] X w Q)
 intro p t o r E rm m Q hQ X w hs hl
 obtain⟨hn,hQ⟩:=hQ
 obtain⟨a,L,hg,hr,hD,QB,QK⟩:=vV hs hl hn
 refine(MM hD p t o).mono ?_
 rintro e w' ⟨u,rfl,rfl,h2,q⟩
 exact CZ hs QB QK hg hr h2 q hQ trivial
def xv:Ctr Un:=⟨[.one (.obj 0 0),.one (.int .i64)],[],[.ob 1 [(1,1,0)],.ob 0 []],[0,1],fun p r E rm m K=>E.n=m.S∧K ⟨(.int .i64 ((E.on m).cZ p)),none,[.ob 1 (((E.on m).dY p).pd),.ob 0 (((E.on m).dY p).mem)],[],[]⟩⟩
theorem KG:LV Un prog 45 xv:=by
 show ∀(p:Int)(r:Nat→Nat)(E:Pd)(rm:Nat→Nat)(m:Mem),∀Q:Ou Un→Prop,(E.n=m.S∧Q ⟨(.int .i64 ((E.on m).cZ p)),none,[.ob 1 (((E.on m).dY p).pd),.ob 0 (((E.on m).dY p).mem)],[],[]⟩)→∀(X:Nat→Nat→Prop)(w:World),Sat (U:=Un) [(.ob 1 r E),(.ob 0 rm m)] X w→ax (U:=Un) [(.ob 1 r E),(.ob 0 rm m)] fr0 [(.l 0 1,.p (.obj 1 0 0))]→Calls prog 45 #[(.pointer (some (Addr.mk (r 0) 0 none))),(.int .i64 p)] w (aU (U:=Un) [(.ob 1 r E),(.ob 0 rm m)] [0,1] X w Q)
 intro p r E rm m Q hQ X w hs hl
 obtain⟨hn,hQ⟩:=hQ
 obtain⟨a,L,hg,hr,hD,QB,QK⟩:=vV hs hl hn
 refine(MQ hD p).mono ?_
 rintro e w' ⟨u,rfl,rfl,h2,q⟩
 exact CZ hs QB QK hg hr h2 q hQ trivial
def mo:Ctr Un:=⟨[.one (.obj 0 0),.one (.int .i64),.one (.int .i64)],[],[.ob 1 [(1,1,0)],.ob 0 []],[0,1],fun p t r E rm m K=>E.n=m.S∧K ⟨(.int .i64 ((E.on m).aS p t)),none,[.ob 1 (((E.on m).setState p t).pd),.ob 0 (((E.on m).setState p t).mem)],[],[]⟩⟩
theorem AK:LV Un prog 43 mo:=by
 show ∀(p:Int)(t:Int)(r:Nat→Nat)(E:Pd)(rm:Nat→Nat)(m:Mem),∀Q:Ou Un→Prop,(E.n=m.S∧Q ⟨(.int .i64 ((E.on m).aS p t)),none,[.ob 1 (((E.on m).setState p t).pd),.ob 0 (((E.on m).setState p t).mem)],[],[]⟩)→∀(X:Nat→Nat→Prop)(w:World),Sat (U:=Un) [(.ob 1 r E),(.ob 0 rm m)] X w→ax (U:=Un) [(.ob 1 r E),(.ob 0 rm m)] fr0 [(.l 0 1,.p (.obj 1 0 0))]→Calls prog 43 #[(.pointer (some (Addr.mk (r 0) 0 none))),(.int .i64 p),(.int .i64 t)] w (aU (U:=Un) [(.ob 1 r E),(.ob 0 rm m)] [0,1] X w Q)
 intro p t r E rm m Q hQ X w hs hl
 obtain⟨hn,hQ⟩:=hQ
 obtain⟨a,L,hg,hr,hD,QB,QK⟩:=vV hs hl hn
 refine(Er hD p t).mono ?_
 rintro e w' ⟨u,rfl,rfl,h2,q⟩
 exact CZ hs QB QK hg hr h2 q hQ trivial
def tQ:Ctr Un:=⟨[.one (.obj 0 0),.one (.int .i64)],[],[.ob 1 [(1,1,0)],.ob 0 []],[],fun s r E rm m K=>E.n=m.S∧∀(A:Option Addr)(c:Nat),K ⟨(.slice A ((own (E.on m) s).length) c),(some (.p (.sl 2 0))),[],[(.lst 0 true 3 A c (own (E.on m) s))],[]⟩⟩
theorem IG:LV Un prog 147 tQ:=by
 show ∀(s:Int)(r:Nat→Nat)(E:Pd)(rm:Nat→Nat)(m:Mem),∀Q:Ou Un→Prop,(E.n=m.S∧∀(A:Option Addr)(c:Nat),Q ⟨(.slice A ((own (E.on m) s).length) c),(some (.p (.sl 2 0))),[],[(.lst 0 true 3 A c (own (E.on m) s))],[]⟩)→∀(X:Nat→Nat→Prop)(w:World),Sat (U:=Un) [(.ob 1 r E),(.ob 0 rm m)] X w→ax (U:=Un) [(.ob 1 r E),(.ob 0 rm m)] fr0 [(.l 0 1,.p (.obj 1 0 0))]→Calls prog 147 #[(.pointer (some (Addr.mk (r 0) 0 none))),(.int .i64 s)] w (aU (U:=Un) [(.ob 1 r E),(.ob 0 rm m)] [] X w Q)
 intro s r E rm m Q hQ X w hs hl
 obtain⟨hn,hQ⟩:=hQ
 obtain⟨a,L,hg,hr,hD,QB,QK⟩:=vV hs hl hn
 refine(LI hD s).mono ?_
 rintro e w' ⟨u,rfl,Z',A',N',C',rfl,ho,hz,q⟩
 have QZ:=ho.len
 subst QZ
 exact aU.more hs q (Gv (U:=Un) (t:=0) ho) (fun k hk=>hz k hk.1) (hQ _ _) rfl
def wT:Ctr Un:=⟨[.one (.sl 0)],[],[.lst 1 false 29],[],fun A c l K=>((∀x∈l,0≤x.v∧x.v<4294967296))∧∀(dp:Value),K ⟨(.tuple #[dp,(.int .i64 (Dg.ay l))]),(some (.t [none,none])),[],[],[]⟩⟩
theorem Kc:LV Un prog 70 wT:=by
 show ∀(A:Option Addr)(c:Nat)(l:List U32),∀Q:Ou Un→Prop,(((∀x∈l,0≤x.v∧x.v<4294967296))∧∀(dp:Value),Q ⟨(.tuple #[dp,(.int .i64 (Dg.ay l))]),(some (.t [none,none])),[],[],[]⟩)→∀(X:Nat→Nat→Prop)(w:World),Sat (U:=Un) [(.lst 1 false 29 A c l)] X w→ax (U:=Un) [(.lst 1 false 29 A c l)] fr0 []→Calls prog 70 #[(.slice A l.length c)] w (aU (U:=Un) [(.lst 1 false 29 A c l)] [] X w Q)
 intro A c l Q hQ X w hs hl
 obtain⟨hw,hQ⟩:=hQ
 have hr:Rd w (X 0) A l.length c l:=hs.res 0 _ rfl
 refine(KK hr hw).mono ?_
 rintro e w' ⟨u,rfl,p,rfl,_,q⟩
 exact aU.pu hs q (hQ _) (KnO.tup _ (by simp))
end
section
set_option maxRecDepth 100000
set_option maxHeartbeats 1000000
attribute [local irreducible] Vc2 VcD
def l0:Ctr Un:=⟨[.one (.sl 0)],[],[.ob 7 []],[],fun rw l K=>fW l∧split (decide (Dg.ay l=0)) (∀(rN:Nat→Nat),K ⟨(.tuple #[(.pointer (some (Addr.mk (rN 0) 0 none))),(.int .i64 0)]),(some (.t [(some (.obj 1 0 0)),none])),[],[(.ob 4 rN (Dg.load l))],[]⟩) (∀(dp:Value),K ⟨(.tuple #[dp,(.int .i64 (Dg.ay l))]),(some (.t [none,none])),[],[],[]⟩)⟩
theorem zM:LV Un prog 70 l0:=by
 show ∀(rw:Nat→Nat)(l:List U32),∀Q:Ou Un→Prop,(fW l∧split (decide (Dg.ay l=0)) (∀(rN:Nat→Nat),Q ⟨(.tuple #[(.pointer (some (Addr.mk (rN 0) 0 none))),(.int .i64 0)]),(some (.t [(some (.obj 1 0 0)),none])),[],[(.ob 4 rN (Dg.load l))],[]⟩) (∀(dp:Value),Q ⟨(.tuple #[dp,(.int .i64 (Dg.ay l))]),(some (.t [none,none])),[],[],[]⟩))→∀(X:Nat→Nat→Prop)(w:World),Sat (U:=Un) [(.ob 7 rw l)] X w→ax (U:=Un) [(.ob 7 rw l)] fr0 []→Calls prog 70 #[(.slice (some (Addr.mk (rw 0) 0 none)) l.length l.length)] w (aU (U:=Un) [(.ob 7 rw l)] [] X w Q)
 intro rw l Q hQ X w hs hl
 obtain⟨hw,hQ⟩:=hQ
 obtain⟨hX,Sy⟩:=(hs.res 0 _ rfl:cT 7 rw l (X 0) w)
 have hr:Rd w (X 0) (some (Addr.mk (rw 0) 0 none)) l.length l.length l:=CQ hX Sy
 refine(KK hr hw).mono ?_
 rintro e w' ⟨u,rfl,p,rfl,Pv,q⟩
 by_cases he:Dg.ay l=0
 ·obtain⟨g,L,rfl,hD,hlo⟩:=Pv he
  have hQ:=bP hQ (decide_eq_true he) (fun _=>g)
  rw [he]
  exact aU.uQ (Z:=L.X g) hs q (show RS (U:=Un) (L.X g) w' (.ob 4 (fun _=>g) (Dg.load l))from(⟨L,fun _=>Iff.rfl,hD⟩:cT 4 (fun _=>g) (Dg.load l) (L.X g) w')) hlo hQ (KnO.pair rfl) (fun _ _ h=>by cases h)
 ·exact aU.pu hs q (bQ hQ (decide_eq_false he) (.pointer p)) (KnO.tup _ (by simp))
def l5:Ctr Un:=⟨[],[],[],[],fun K=>K ⟨(.agg ⟨Dg.sv Dg.new⟩),none,[],[],[]⟩⟩
def H8(Q:Ou Un→Prop):Prop:=
 ∀(gv:Nat),
 ∀(s:List U32),s=(W26.n (W26.mk []))→
 ∀(rN:Nat→Nat),
 ∀(s1:Dg),s1=Dg.new→
 s1.Ok∧
 (s.length=26)∧
 ∀(s2:List U32),s2=(Dg.svL s1)→
 (s2.length=26)∧
 Q ⟨(.agg ⟨W26.c (W26.mk s2)⟩),none,[],[],[]⟩
theorem H9:Vc2 Un prog (aQ [(125,B5),(126,kM)]) [] Tryz.f62 .leaf [] l5=(∀Q,(l5.body Q)→H8 Q):=by kernel_rfl
theorem H7:LV Un prog 62 l5:=verify Tryz.func62 aa (tb:= [(125,B5),(126,kM)]) ⟨LX,wR,trivial⟩ (by kernel_rfl) (H9.mpr fun Q h gv s Ua rN s1 P9=>af (by rw [P9];exact Dg.nm) fun s1=>af (by rw [Ua];rfl) fun s2 s2 OI=>af (by rw [OI];rfl) fun s3=>au h (by rw [OI,P9];rfl) rfl rfl)
def gT:Ctr Un:=⟨[.agg [.int .i64,.int .u32],.one (.nsl)],[],[],[],fun k a K=>∀(A:Option Addr)(c:Nat),K ⟨(.slice A ([U32.mk (u32.wrap k),U32.mk a].length) c),(some (.p (.sl 0 0))),[],[(.lst 1 true 29 A c ([U32.mk (u32.wrap k),U32.mk a]))],[]⟩⟩
def zQ(k:Int)(a:Int)(Q:Ou Un→Prop):Prop:=
 ∀(gv:Nat),
 ∀(NJ:Nat),
 ∀(l:List U32),l=([U32.mk (u32.wrap k),U32.mk a]:List U32)→
 (l.length*4≤140737488355328)∧
 ∀(A:Option Addr)(c:Nat),
 ∀(l1:List U32),l1=l→
 Q ⟨(.slice A l.length c),(some (.p (.sl 0 0))),[],[(.lst 1 true 29 A c l1)],[]⟩
theorem zR:Vc2 Un prog (aQ []) [] Tryz.f219 .leaf [2] gT=(∀k a,∀Q,(gT.body k a Q)→zQ k a Q):=by kernel_rfl
theorem zP:LV Un prog 219 gT:=verify Tryz.func219 aa (tb:= []) trivial (by kernel_rfl) (zR.mpr fun k a Q h gv NJ l QA=>af (by grind) fun s1 A c l1 Pc=>(by(have hl9: [U32.mk (u32.wrap k),U32.mk a]=l1:=by subst_vars;rfl);exact au (h A c) (by grind) rfl (ae (congrArg (Res.lst (U:=Un) 1 true 29 _ _) ‹_›) rfl)))
def qL:Ctr Un:=⟨[.agg [.int .u32,.sl 0],.one (.nsl)],[],[.lst 1 false 29],[],fun a A0 c0 l K=>l.length≤1024∧∀(A:Option Addr)(c:Nat),K ⟨(.slice A (([U32.mk 3,U32.mk a]++(show List U32 from l)).length) c),(some (.p (.sl 1 0))),[],[(.lst 1 true 29 A c ([U32.mk 3,U32.mk a]++(show List U32 from l)))],[]⟩⟩
def zT(a:Int)(A0:Option Addr)(c0:Nat)(l:List U32)(Q:Ou Un→Prop):Prop:=
 ∀(gv:Nat),
 ∀(NJ:Nat),
 ∀(l1:List U32),l1=([U32.mk 3,U32.mk a]:List U32)→
 (l1.length*4≤140737488355328)∧
 ∀(A:Option Addr)(c:Nat),
 ∀(l2:List U32),l2=l1→
 ((l2.length+l.length)*4≤140737488355328)∧
 ∀(A1:Option Addr)(c1:Nat),
 ∀(l3:List U32),l3=(l2++l)→
 Q ⟨(.slice A1 ((l2++l).length) c1),(some (.p (.sl 1 0))),[],[(.lst 1 true 29 A1 c1 l3)],[]⟩
theorem zU:Vc2 Un prog (aQ []) [] Tryz.f218 (.r' (.two (.node [] none [] [(2,[1]),(6,[1])] .leaf .leaf) .leaf)) [3] qL=(∀a A0 c0 (l:List U32),∀Q,(l.length≤1024∧∀(A:Option Addr)(c:Nat),Q ⟨(.slice A (([U32.mk 3,U32.mk a]++(show List U32 from l)).length) c),(some (.p (.sl 1 0))),[],[(.lst 1 true 29 A c ([U32.mk 3,U32.mk a]++(show List U32 from l)))],[]⟩)→zT a A0 c0 l Q):=by kernel_rfl
theorem zS:LV Un prog 218 qL:=verify Tryz.func218 aa (tb:= []) trivial (by kernel_rfl) (zU.mpr fun a A0 c0 l Q h=>by
 obtain⟨NL,h⟩:=h
 exact fun gv NJ l1 Pc=>af (by subst_vars;simp;try omega) fun s1 A c l2 Qw=>af (by subst_vars;simp;try omega) fun s2 A1 c1 l3 ZW=>(by(have hl9: [U32.mk 3,U32.mk a]++l=l3:=by subst_vars;rfl);exact au (h A1 c1) (by grind) rfl (ae (congrArg (Res.lst (U:=Un) 1 true 29 _ _) ‹_›) rfl)))
def nJ:Ctr Un:=⟨[.agg [.int .u32,.hdr],.one (.nsl)],[(0,8)],[.ob 8 []],[],fun a A0 n0 c0 rw x K=>(A0=Wt.A x∧n0=(Wt.l x).length∧c0=Wt.c x)∧(Wt.l x).length≤1024∧∀(A:Option Addr)(c:Nat),K ⟨(.slice A (([U32.mk 3,U32.mk a]++(show List U32 from(Wt.l x))).length) c),(some (.p (.sl 1 0))),[],[(.lst 1 true 29 A c ([U32.mk 3,U32.mk a]++(show List U32 from(Wt.l x))))],[]⟩⟩
theorem B7:LV Un prog 218 nJ:=by
 show ∀(a:Int)(A0:Option Addr)(n0:Nat)(c0:Nat) (rw:Nat→Nat)(x:Wt),∀Q:Ou Un→Prop,((A0=Wt.A x∧n0=(Wt.l x).length∧c0=Wt.c x)∧(Wt.l x).length≤1024∧∀(A:Option Addr)(c:Nat),Q ⟨(.slice A (([U32.mk 3,U32.mk a]++(show List U32 from(Wt.l x))).length) c),(some (.p (.sl 1 0))),[],[(.lst 1 true 29 A c ([U32.mk 3,U32.mk a]++(show List U32 from(Wt.l x))))],[]⟩)→∀(X:Nat→Nat→Prop)(w:World),Sat (U:=Un) [(.ob 8 rw x)] X w→ax (U:=Un) [(.ob 8 rw x)] fr0 []→Calls prog 218 #[(.agg #[(.int .u32 a),(.slice A0 n0 c0)]),(.slice none 0 0)] w (aU (U:=Un) [(.ob 8 rw x)] [] X w Q)
 intro a A0 n0 c0 rw x Q hQ X w hs hl
 obtain⟨⟨rfl,rfl,rfl⟩,hle,hQ⟩:=hQ
 refine(zS a x.A x.c x.l (fun out=>Q out∧∃A c,out=⟨.slice A ([U32.mk 3,U32.mk a]++x.l).length c,some (.p (.sl 1 0)),[],[.lst 1 true 29 A c ([U32.mk 3,U32.mk a]++x.l)],[]⟩) ⟨hle,fun A c=>⟨hQ A c,A,c,rfl⟩⟩ X w (show Sat (U:=Un) [.lst 1 false 29 x.A x.c x.l] X w from Sat.swap (rs:= [.ob 8 rw x]) rfl (yv (x:=x)) hs) (fun _ _ h=>by cases h)).mono fun e w' h=>?_
 refine aU.swap (rs:= [.lst 1 false 29 x.A x.c x.l]) rfl (CF (x:=x)) (fun out h=>?_) (show aU (U:=Un) [.lst 1 false 29 x.A x.c x.l] [] X w _ e w' from h)
 obtain⟨h,A,c,rfl⟩:=h
 exact⟨h,id,rfl⟩
def j8:Ctr Un:=⟨[.agg [.int .i64,.int .u32,.nsl]],[],[],[],fun k a K=>((k:Int)=1∨(k:Int)=2∨(k:Int)=4)∧K ⟨(.tuple #[(.iface 260 (.agg #[(.int .i64 k),(.int .u32 a)])),(.int .i64 0)]),(some (.t [none,none])),[],[],[]⟩⟩
def E7(k:Int)(a:Int)(Q:Ou Un→Prop):Prop:=
 ∀(gv:Nat),
 ∃J:Bool→Prop,(
  split (k==3) (
   ∀x4:Bool,x4=((((0:Nat):Int):Int)==1024)→
   J x4) (
   ∀x4:Bool,x4=false→
   J x4))∧∀(NU:Nat→Value)(x4:Bool),J x4→
 split x4 (
  Q ⟨(.tuple #[(.iface 258 (.agg #[(.int .u32 a),(.slice none 0 0)])),(.int .i64 0)]),(some (.t [none,none])),[],[],[]⟩) (
  ∃J1:Bool→Prop,(
   split (decide (k≥1)) (
    split (decide (k<5)) (
     split (k !=3) (
      ∀OT:Bool,OT=((((0:Nat):Int):Int)==0)→
      J1 OT) (
      ∀OT:Bool,OT=false→
      J1 OT)) (
     ∀OT:Bool,OT=false→
     J1 OT)) (
    ∀OT:Bool,OT=false→
    J1 OT))∧∀(OJ:Nat→Value)(OT:Bool),J1 OT→
  split OT (
   Q ⟨(.tuple #[(.iface 260 (.agg #[(.int .i64 k),(.int .u32 a)])),(.int .i64 0)]),(some (.t [none,none])),[],[],[]⟩) (
   Q ⟨(.tuple #[.nilIface,(.int .i64 150)]),(some (.t [none,none])),[],[],[]⟩))
theorem E8:Vc2 Un prog (aQ []) [4,20] Tryz.f134 (.r' (.two (.two (.two (.node [] (some ⟨[(4,(.one .bool))],[],upN 4 10,[]⟩) [] [] .leaf .leaf) (.r' (.two (.node [] (some ⟨[(20,(.one .bool))],[],upN 20 20,[]⟩) [] [] .leaf .leaf) .leaf))) .leaf) .leaf)) [] j8=(∀k a,∀Q,(j8.body k a Q)→E7 k a Q):=by kernel_rfl
theorem E6:LV Un prog 134 j8:=verify Tryz.func134 aa (tb:= []) trivial (by kernel_rfl) (E8.mpr fun k a Q h=>by
 obtain⟨NL,h⟩:=h
 exact fun gv=>cY (((k:Int)==3) && ((((0:Nat):Int):Int)==1024)) (ab (fun c1=>allEq<| (by grind)) fun c1=>allEq<| (by grind))<| cR (fun c2=>au h (congrArg (fun l=>Value.tuple (List.toArray l)) (ae (by grind) (ae rfl rfl))) rfl rfl) fun c2=>cY ((decide ((k:Int)≥1)) && ((decide ((k:Int)<5)) && (((k:Int) !=3) && ((((0:Nat):Int):Int)==0)))) (ab (fun c3=>ab (fun c4=>ab (fun c5=>allEq<| (by grind)) fun c5=>allEq<| (by grind)) fun c4=>allEq<| (by grind)) fun c3=>allEq<| (by grind))<| cR (fun c6=>h) fun c6=>au h (congrArg (fun l=>Value.tuple (List.toArray l)) (ae (by grind) (ae (cf (by grind)) rfl))) rfl rfl)
def j9:Ctr Un:=⟨[.agg [.int .i64,.int .u32,.hdr]],[],[],[],fun k a A0 n0 c0 K=>(k:Int)=3∧n0=1024∧K ⟨(.tuple #[(.iface 258 (.agg #[(.int .u32 a),(.slice A0 n0 c0)])),(.int .i64 0)]),(some (.t [none,none])),[],[],[]⟩⟩
def Fa(k:Int)(a:Int)(A0:Option Addr)(n0:Nat)(c0:Nat)(Q:Ou Un→Prop):Prop:=
 ∀(gv:Nat),
 ∃J:Bool→Prop,(
  split (k==3) (
   ∀x4:Bool,x4=((((n0:Nat):Int):Int)==1024)→
   J x4) (
   ∀x4:Bool,x4=false→
   J x4))∧∀(NU:Nat→Value)(x4:Bool),J x4→
 split x4 (
  Q ⟨(.tuple #[(.iface 258 (.agg #[(.int .u32 a),(.slice A0 n0 c0)])),(.int .i64 0)]),(some (.t [none,none])),[],[],[]⟩) (
  ∃J1:Bool→Prop,(
   split (decide (k≥1)) (
    split (decide (k<5)) (
     split (k !=3) (
      ∀OT:Bool,OT=((((n0:Nat):Int):Int)==0)→
      J1 OT) (
      ∀OT:Bool,OT=false→
      J1 OT)) (
     ∀OT:Bool,OT=false→
     J1 OT)) (
    ∀OT:Bool,OT=false→
    J1 OT))∧∀(OJ:Nat→Value)(OT:Bool),J1 OT→
  split OT (
   Q ⟨(.tuple #[(.iface 260 (.agg #[(.int .i64 k),(.int .u32 a)])),(.int .i64 0)]),(some (.t [none,none])),[],[],[]⟩) (
   Q ⟨(.tuple #[.nilIface,(.int .i64 150)]),(some (.t [none,none])),[],[],[]⟩))
theorem Fb:Vc2 Un prog (aQ []) [4,20] Tryz.f134 (.r' (.two (.two (.two (.node [] (some ⟨[(4,(.one .bool))],[],upN 4 10,[]⟩) [] [] .leaf .leaf) (.r' (.two (.node [] (some ⟨[(20,(.one .bool))],[],upN 20 20,[]⟩) [] [] .leaf .leaf) .leaf))) .leaf) .leaf)) [] j9=(∀k a A0 n0 c0,∀Q,(j9.body k a A0 n0 c0 Q)→Fa k a A0 n0 c0 Q):=by kernel_rfl
theorem E9:LV Un prog 134 j9:=verify Tryz.func134 aa (tb:= []) trivial (by kernel_rfl) (Fb.mpr fun k a A0 n0 c0 Q h=>by
 obtain⟨NL,NQ,h⟩:=h
 exact fun gv=>cY (((k:Int)==3) && ((((n0:Nat):Int):Int)==1024)) (ab (fun c1=>allEq<| (by grind)) fun c1=>allEq<| (by grind))<| cR (fun c2=>h) fun c2=>cY ((decide ((k:Int)≥1)) && ((decide ((k:Int)<5)) && (((k:Int) !=3) && ((((n0:Nat):Int):Int)==0)))) (ab (fun c3=>ab (fun c4=>ab (fun c5=>allEq<| (by grind)) fun c5=>allEq<| (by grind)) fun c4=>allEq<| (by grind)) fun c3=>allEq<| (by grind))<| cR (fun c6=>au h (congrArg (fun l=>Value.tuple (List.toArray l)) (ae (by grind) (ae rfl rfl))) rfl rfl) fun c6=>au h (congrArg (fun l=>Value.tuple (List.toArray l)) (ae (by grind) (ae (cf (by grind)) rfl))) rfl rfl)
def iX:Ctr Un:=⟨[.enc 8,.agg [.int .i64,.int .u32,.nsl]],[(0,5)],[.ob 5 []],[],fun f k a rk kk K=>W26.Ok f∧(0≤(a:Int)∧(a:Int)<4294967296)∧((k:Int)=1∨(k:Int)=2∨(k:Int)=4)∧split (decide ((Dg.ay (W26.n f))=0)) (K ⟨(.tuple #[(.agg ⟨Dg.sv ((Dg.load (W26.n f)).add kk (opW k a []))⟩),(.int .i64 0)]),(some (.t [none,none])),[],[],[]⟩) (K ⟨(.tuple #[(.agg ⟨W26.c (W26.mk [])⟩),(.int .i64 (Dg.ay (W26.n f)))]),(some (.t [none,none])),[],[],[]⟩)⟩
def Cc(f:W26)(k:Int)(a:Int)(rk:Nat→Nat)(kk:List Int)(Q:Ou Un→Prop):Prop:=
 ∀(gv:Nat),
 ∀(s:List U32),s=(W26.n f)→
 ∀(NJ:Nat),
 ∀(OB:Nat),
 ∀(s1:List U32),s1=(W26.n (W26.mk []))→
 (k=1∨k=2∨k=4)∧
 ((s.length=26∧s.length=26)∧0<26)∧
 fW s∧
 split (decide (Dg.ay s=0)) (
  ∀(rN:Nat→Nat),
  ∀(s2:Dg),s2=(Dg.load s)→
  ∀(A:Option Addr)(c:Nat),
  ∀(l:List U32),l= [U32.mk (u32.wrap k),U32.mk a]→
  s2.Ok∧
  l.length≤1099511627776∧
  ∀(s3:Dg),s3=(s2.add kk l)→
  s3.Ok∧
  (s1.length=26)∧
  ∀(s4:List U32),s4=(Dg.svL s3)→
  (s4.length=26)∧
  Q ⟨(.tuple #[(.agg ⟨W26.c (W26.mk s4)⟩),(.int .i64 0)]),(some (.t [none,none])),[],[],[]⟩) (
  ∀(dp:Value),
  split ((Dg.ay s) !=0) (
   (s1.length=26)∧
   ∀(s2:List U32),s2=(W26.n (W26.mk []))→
   (s2.length=26)∧
   Q ⟨(.tuple #[(.agg ⟨W26.c (W26.mk s2)⟩),(.int .i64 (Dg.ay s))]),(some (.t [none,none])),[],[],[]⟩) (
   ∀(A:Option Addr)(c:Nat),
   ∀(l:List U32),l= [U32.mk (u32.wrap k),U32.mk a]→
   False))
theorem Cd:Vc2 Un prog (aQ [(134,j8),(70,l0),(219,gT),(135,tF),(126,kM)]) [] Tryz.f68 .leaf [] iX=(∀(f:W26) k a rk (kk:List Int),∀Q,(iX.body f k a rk kk Q)→Cc f k a rk kk Q):=by kernel_rfl
theorem Cb:LV Un prog 68 iX:=verify Tryz.func68 aa (tb:= [(134,j8),(70,l0),(219,gT),(135,tF),(126,kM)]) ⟨E6,zM,zP,H6,wR,trivial⟩ (by kernel_rfl) (Cd.mpr fun f k a rk kk Q h=>by
 obtain⟨NL,NQ,Oh,h⟩:=h
 exact fun gv s Ua NJ OB s1 P9=>af ‹_› fun e1=>af (by subst_vars;exact⟨⟨rfl,rfl⟩,by omega⟩) fun e2=>af (by subst_vars;assumption) fun e3=>ar (fun c1 rN s2 OI A c l QA=>af (by subst_vars;exact(Dg.fE NL (by simpa using c1)).1) fun e4=>af (by grind) fun e5 s3 PJ=>af (by subst_vars;exact Dg.tw (Dg.fE NL (by simpa using c1)).1 (A2 NQ Oh)) fun e6=>af (by subst_vars;rfl) fun e7 s4 Po=>af (by subst_vars;rfl) fun e8=>au (bP h (by grind)) (by subst_vars;rw [Ea Oh];rfl) rfl rfl) fun c1 dp=>aL (fun c2=>af (by subst_vars;rfl) fun e9 s2 OI=>af (by grind) fun e10=>au (bQ h (by grind)) (by subst_vars;rfl) rfl rfl) fun c2 A c l QA=>(by exfalso;omega))
def nK:Ctr Un:=⟨[.enc 8,.agg [.int .i64,.int .u32,.hdr]],[(0,8),(1,5)],[.ob 8 [],.ob 5 []],[],fun f k a A0 n0 c0 rw x rk kk K=>W26.Ok f∧(0≤(a:Int)∧(a:Int)<4294967296)∧(k:Int)=3∧(A0=Wt.A x∧n0=(Wt.l x).length∧c0=Wt.c x)∧(Wt.l x).length=1024∧fW (Wt.l x)∧split (decide ((Dg.ay (W26.n f))=0)) (K ⟨(.tuple #[(.agg ⟨Dg.sv ((Dg.load (W26.n f)).add kk (opW k a (Wt.l x)))⟩),(.int .i64 0)]),(some (.t [none,none])),[],[],[]⟩) (K ⟨(.tuple #[(.agg ⟨W26.c (W26.mk [])⟩),(.int .i64 (Dg.ay (W26.n f)))]),(some (.t [none,none])),[],[],[]⟩)⟩
def B9(f:W26)(k:Int)(a:Int)(A0:Option Addr)(n0:Nat)(c0:Nat) (rw:Nat→Nat)(x:Wt)(rk:Nat→Nat)(kk:List Int)(Q:Ou Un→Prop):Prop:=
 ∀(gv:Nat),
 ∀(s:List U32),s=(W26.n f)→
 ∀(NJ:Nat),
 ∀(OB:Nat),
 ∀(s1:List U32),s1=(W26.n (W26.mk []))→
 k=3∧
 n0=1024∧
 ((s.length=26∧s.length=26)∧0<26)∧
 fW s∧
 split (decide (Dg.ay s=0)) (
  ∀(rN:Nat→Nat),
  ∀(s2:Dg),s2=(Dg.load s)→
  (A0=Wt.A x∧n0=(Wt.l x).length∧c0=Wt.c x)∧
  (Wt.l x).length≤1024∧
  ∀(A:Option Addr)(c:Nat),
  ∀(l:List U32),l=([U32.mk 3,U32.mk a]++(show List U32 from(Wt.l x)))→
  s2.Ok∧
  l.length≤1099511627776∧
  ∀(s3:Dg),s3=(s2.add kk l)→
  s3.Ok∧
  (s1.length=26)∧
  ∀(s4:List U32),s4=(Dg.svL s3)→
  (s4.length=26)∧
  Q ⟨(.tuple #[(.agg ⟨W26.c (W26.mk s4)⟩),(.int .i64 0)]),(some (.t [none,none])),[],[],[]⟩) (
  ∀(dp:Value),
  split ((Dg.ay s) !=0) (
   (s1.length=26)∧
   ∀(s2:List U32),s2=(W26.n (W26.mk []))→
   (s2.length=26)∧
   Q ⟨(.tuple #[(.agg ⟨W26.c (W26.mk s2)⟩),(.int .i64 (Dg.ay s))]),(some (.t [none,none])),[],[],[]⟩) (
   (A0=Wt.A x∧n0=(Wt.l x).length∧c0=Wt.c x)∧
   (Wt.l x).length≤1024∧
   ∀(A:Option Addr)(c:Nat),
   ∀(l:List U32),l=([U32.mk 3,U32.mk a]++(show List U32 from(Wt.l x)))→
   False))
theorem Ca:Vc2 Un prog (aQ [(134,j9),(70,l0),(218,nJ),(135,tF),(126,kM)]) [] Tryz.f68 .leaf [] nK=(∀(f:W26) k a A0 n0 c0 rw (x:Wt) rk (kk:List Int),∀Q,(nK.body f k a A0 n0 c0 rw x rk kk Q)→B9 f k a A0 n0 c0 rw x rk kk Q):=by kernel_rfl
theorem B8:LV Un prog 68 nK:=verify Tryz.func68 aa (tb:= [(134,j9),(70,l0),(218,nJ),(135,tF),(126,kM)]) ⟨E9,zM,B7,H6,wR,trivial⟩ (by kernel_rfl) (Ca.mpr fun f k a A0 n0 c0 rw x rk kk Q h=>by
 obtain⟨NL,NQ,Oh,Zr,UB,hp5,h⟩:=h
 exact fun gv s Ua NJ OB s1 P9=>af ‹_› fun e1=>af (by omega) fun e2=>af (by subst_vars;exact⟨⟨rfl,rfl⟩,by omega⟩) fun e3=>af (by subst_vars;assumption) fun e4=>ar (fun c1 rN s2 OI=>af ‹_› fun e5=>af (by omega) fun e6 A c l QA=>af (by subst_vars;exact(Dg.fE NL (by simpa using c1)).1) fun e7=>af (by grind) fun e8 s3 PJ=>af (by subst_vars;exact Dg.tw (Dg.fE NL (by simpa using c1)).1 (DL NQ hp5)) fun e9=>af (by subst_vars;rfl) fun e10 s4 Po=>af (by subst_vars;rfl) fun e11=>au (bP h (by grind)) (by subst_vars;rfl) rfl rfl) fun c1 dp=>aL (fun c2=>af (by subst_vars;rfl) fun e12 s2 OI=>af (by grind) fun e13=>au (bQ h (by grind)) (by subst_vars;rfl) rfl rfl) fun c2=>af ‹_› fun e14=>af (by omega) fun e15 A c l QA=>(by exfalso;omega))
def nL:Ctr Un:=⟨[.enc 8,.agg [.int .i64,.int .u32,.sl 0]],[(1,5)],[.lst 1 false 29,.ob 5 []],[],fun f k a A0 c0 l rk kk K=>W26.Ok f∧(0≤(a:Int)∧(a:Int)<4294967296)∧(k:Int)=3∧l.length=1024∧fW l∧split (decide ((Dg.ay (W26.n f))=0)) (K ⟨(.tuple #[(.agg ⟨Dg.sv ((Dg.load (W26.n f)).add kk (opW k a l))⟩),(.int .i64 0)]),(some (.t [none,none])),[],[],[]⟩) (K ⟨(.tuple #[(.agg ⟨W26.c (W26.mk [])⟩),(.int .i64 (Dg.ay (W26.n f)))]),(some (.t [none,none])),[],[],[]⟩)⟩
theorem Ce:LV Un prog 68 nL:=by
 show ∀(f:W26)(k:Int)(a:Int)(A0:Option Addr)(c0:Nat)(l:List U32)(rk:Nat→Nat)(kk:List Int),∀Q:Ou Un→Prop,(W26.Ok f∧(0≤(a:Int)∧(a:Int)<4294967296)∧(k:Int)=3∧l.length=1024∧fW l∧split (decide ((Dg.ay (W26.n f))=0)) (Q ⟨(.tuple #[(.agg ⟨Dg.sv ((Dg.load (W26.n f)).add kk (opW k a l))⟩),(.int .i64 0)]),(some (.t [none,none])),[],[],[]⟩) (Q ⟨(.tuple #[(.agg ⟨W26.c (W26.mk [])⟩),(.int .i64 (Dg.ay (W26.n f)))]),(some (.t [none,none])),[],[],[]⟩))→∀(X:Nat→Nat→Prop)(w:World),Sat (U:=Un) [(.lst 1 false 29 A0 c0 l),(.ob 5 rk kk)] X w→ax (U:=Un) [(.lst 1 false 29 A0 c0 l),(.ob 5 rk kk)] fr0 []→Calls prog 68 #[(.agg ⟨W26.c f⟩),(.agg #[(.int .i64 k),(.int .u32 a),(.slice A0 l.length c0)])] w (aU (U:=Un) [(.lst 1 false 29 A0 c0 l),(.ob 5 rk kk)] [] X w Q)
 intro f k a A0 c0 l rk kk Q hQ X w hs hl
 obtain⟨h1,h2,h3,h4,h5,hQ⟩:=hQ
 refine(B8 f k a A0 l.length c0 (fun _=>0) ⟨A0,c0,l⟩ rk kk (fun out=>Q out∧out.kr=some (.t [none,none])∧(∃a b,out.res= .tuple #[a,b])∧out.kc= []) ⟨h1,h2,h3,⟨rfl,rfl,rfl⟩,h4,h5,?_⟩ X w (show Sat (U:=Un) [.ob 8 (fun _=>0) (⟨A0,c0,l⟩:Wt),.ob 5 rk kk] X w from Sat.swap (rs:= [.lst 1 false 29 A0 c0 l,.ob 5 rk kk]) rfl (CF (x:=⟨A0,c0,l⟩)) hs) (fun _ _ h=>by cases h)).mono fun e w' h=>?_
 ·rcases fA hQ with⟨hb,hQ⟩ | ⟨hb,hQ⟩
  ·exact ab (fun _=>⟨hQ,rfl,⟨_,_,rfl⟩,rfl⟩) (fun h=>by rw [hb]at h;cases h)
  ·exact ab (fun h=>by rw [hb]at h;cases h) (fun _=>⟨hQ,rfl,⟨_,_,rfl⟩,rfl⟩)
 refine aU.swap (rs:= [.ob 8 (fun _=>0) (⟨A0,c0,l⟩:Wt),.ob 5 rk kk]) rfl (yv (x:=⟨A0,c0,l⟩)) (fun out h=>?_) (show aU (U:=Un) [.ob 8 (fun _=>0) (⟨A0,c0,l⟩:Wt),.ob 5 rk kk] [] X w _ e w' from h)
 obtain⟨h,hk,⟨a',b',hv⟩,hc⟩:=h
 exact⟨h,fun _=>by rw [hk,hv];exact KnO.tup _ (by simp),hc⟩
end
section
set_option maxRecDepth 100000
def zW(ca:Option Addr)(cb:Int)(cc:Int)(R:aB)(w:World):Prop:=
 ∀(gv:Nat)(wv:World),gv=w.heap.size→wv=w.alloc (.cells #[(.pointer ca),(.int .i64 cb),(.int .i64 cc)] 254)→
 ∃x7:Option Addr,wv.cell? ((Addr.mk gv 0 none).add 0)=some (.pointer x7)∧
 ∃x9:Int,wv.cell? ((Addr.mk gv 0 none).add 1)=some (.int .i64 x9)∧
 ∃Oz:Int,wv.cell? ((Addr.mk gv 0 none).add 2)=some (.int .i64 Oz)∧
 Calls prog 92 #[(.pointer x7),(.agg #[(.bool true),(.int .i64 x9)]),(.int .i64 Oz)] wv fun e ND=>
 ∃OU:Int,∃O2:Int,e= .returned (.tuple #[(.int .u32 OU),(.int .i64 O2)])∧
 R (.int .u32 OU) ND
def Ic:Ann:= .leaf
theorem PRead_eq(ca:Option Addr)(cb:Int)(cc:Int)(R:aB)(w:World):zW ca cb cc R w=vcF prog aM [] Tryz.f172 Ic [(.agg #[(.pointer ca),(.int .i64 cb),(.int .i64 cc)])] R none w:=by kernel_rfl
theorem zX(ca:Option Addr)(cb:Int)(cc:Int) {R:aB} {w:World}(h:zW ca cb cc R w):Calls prog 172 #[(.agg #[(.pointer ca),(.int .i64 cb),(.int .i64 cc)])] w fun e w'=>∃v,e= .returned v∧R v w':=
 ak Tryz.func172 aw aa ((PRead_eq ca cb cc R w).mp h)
def DD(ca:Option Addr)(cb:Int)(cc:Int)(wv:Int)(R:aB)(w:World):Prop:=
 ∀(gv:Nat)(ND:World),gv=w.heap.size→ND=w.alloc (.cells #[(.pointer ca),(.int .i64 cb),(.int .i64 cc)] 254)→
 ∃x5:Option Addr,ND.cell? ((Addr.mk gv 0 none).add 0)=some (.pointer x5)∧
 ∃x7:Int,ND.cell? ((Addr.mk gv 0 none).add 1)=some (.int .i64 x7)∧
 ∃NT:Int,ND.cell? ((Addr.mk gv 0 none).add 2)=some (.int .i64 NT)∧
 Calls prog 42 #[(.pointer x5),(.agg #[(.bool true),(.int .i64 x7)]),(.int .i64 NT),(.int .u32 wv)] ND fun e NF=>
 ∃Oz:Int,e= .returned (.int .i64 Oz)∧
 R (.tuple #[]) NF
def Km:Ann:= .leaf
theorem PLay_eq(ca:Option Addr)(cb:Int)(cc:Int)(wv:Int)(R:aB)(w:World):DD ca cb cc wv R w=vcF prog aM [] Tryz.f173 Km [(.agg #[(.pointer ca),(.int .i64 cb),(.int .i64 cc)]),(.int .u32 wv)] R none w:=by kernel_rfl
theorem Cf(ca:Option Addr)(cb:Int)(cc:Int)(wv:Int) {R:aB} {w:World}(h:DD ca cb cc wv R w):Calls prog 173 #[(.agg #[(.pointer ca),(.int .i64 cb),(.int .i64 cc)]),(.int .u32 wv)] w fun e w'=>∃v,e= .returned v∧R v w':=
 ak Tryz.func173 aw aa ((PLay_eq ca cb cc wv R w).mp h)
end
end Go.Proofs.YtinhphjfnedhgaaGreatDoor
namespace Go.Proofs.YtinhphjfnedhgaaGreatDoor
open Go.Proofs.Tryz (prog)
open Go Go.RowKit V
open Go.IntKind (i64 u32 u64)
section
section
variable {w:World} {L:eQ} {m:Mem}
theorem Mr(h:cv w L m)(p o:Int):
 Calls prog 172 #[.agg #[ptr L.g,.int .i64 p,.int .i64 o]] w fun e w'=>∃v,e= .returned v∧v= .int .u32 (m.aZ true p o)∧cv w' L m∧Ch L.X w w':=by
 refine zX _ p o ?_
 intro g1 w1 hg hw
 have hM:=made hg hw
 refine⟨_,hM.blk.at rfl,_,hM.blk.at rfl,_,hM.blk.at rfl,(KS (h.pu hM.pu) true p o).mono ?_⟩
 rintro e w2 ⟨_,rfl,rfl,h2,q⟩
 rw [Mem.KL]at h2
 exact⟨_,_,rfl,rfl,h2,((Ch.refl _ w).made hM).trans q⟩
theorem Nk(h:cv w L m)(p o v:Int)(hv:0≤v∧v<4294967296):
 Calls prog 173 #[.agg #[ptr L.g,.int .i64 p,.int .i64 o],.int .u32 v] w fun e w'=>∃u,e= .returned u∧u= .tuple #[]∧cv w' L (m.write true p o v)∧Ch L.X w w':=by
 refine Cf _ p o v ?_
 intro g1 w1 hg hw
 have hM:=made hg hw
 refine⟨_,hM.blk.at rfl,_,hM.blk.at rfl,_,hM.blk.at rfl,(Bv (h.pu hM.pu) true p o v hv).mono ?_⟩
 rintro e w2 ⟨_,rfl,rfl,h2,q⟩
 exact⟨_,rfl,rfl,h2,((Ch.refl _ w).made hM).trans q⟩
end
end
end Go.Proofs.YtinhphjfnedhgaaGreatDoor
namespace Go.Proofs.YtinhphjfnedhgaaGreatDoor
open Go.Proofs.Tryz (prog)
open Go Go.RowKit V
open Go.IntKind (i64 u32 u64)
section
set_option maxRecDepth 100000
set_option maxHeartbeats 1000000
attribute [local irreducible] Vc2 VcD
attribute [local grind=] Pd.cN Pd.cy Pd.gm Pd.ia Pd.cj Pd.fx Pd.gl Pd.eU Pd.jO Pd.pP
attribute [local grind .] Pd.Ok.ent
attribute [local grind→] Pd.Ok.dV
def lW:Ctr Un:=⟨[.one (.int .u32)],[],[],[],fun v K=>(0≤(v:Int)∧(v:Int)<4294967296)∧K ⟨(.tuple #[(.int .i64 (vaI v)),(.int .i64 (vaJ v)),(.int .i64 (vaO v)),(.int .i64 (jk v))]),(some (.t [none,none,none,none])),[],[],[]⟩⟩
def HH(v:Int)(Q:Ou Un→Prop):Prop:=
 ∃J:Bool→Prop,(
  split (decide (v≥1073741824)) (
   J true) (
   J ((v.tmod 4) !=0)))∧∀(Pw:Nat→Value)(Oz:Bool),J Oz→
 split Oz (
  Q ⟨(.tuple #[(.int .i64 0),(.int .i64 0),(.int .i64 0),(.int .i64 91)]),(some (.t [none,none,none,none])),[],[],[]⟩) (
  Q ⟨(.tuple #[(.int .i64 (i64.wrap (v.fdiv (2 ^ 22)))),(.int .i64 (i64.wrap (u32.wrap (BitVec.ofInt u32.bits (v.fdiv (2 ^ 12)) &&& BitVec.ofInt u32.bits 1023).toNat))),(.int .i64 (i64.wrap (u32.wrap (BitVec.ofInt u32.bits (v.fdiv (2 ^ 2)) &&& BitVec.ofInt u32.bits 1023).toNat))),(.int .i64 0)]),(some (.t [none,none,none,none])),[],[],[]⟩)
theorem HI:Vc2 Un prog (aQ []) [] Tryz.f190 (.r' (.two (.two (.node [] (some ⟨[(12,(.one .bool))],[],upN 6 7,[]⟩) [] [] .leaf .leaf) .leaf) .leaf)) [] lW=(∀v,∀Q,(lW.body v Q)→HH v Q):=by kernel_rfl
theorem HG:LV Un prog 190 lW:=verify Tryz.func190 aa (tb:= []) trivial (by kernel_rfl) (HI.mpr fun v Q h=>by
 obtain⟨NL,h⟩:=h
 exact cY ((decide ((v:Int)≥1073741824)) || (((v:Int).tmod 4:Int) !=0)) (ab (fun c1=>(by grind)) fun c1=>(by grind))<| bF (fun c2=>au h (by(have tm:=Int.tmod_eq_emod_of_nonneg (a:=v) (b:=4) NL.1);rw [tm]at c2;(have h:jk v=91:=by grind [jk]);simp [vaI,vaJ,vaO,h]) rfl rfl) fun c2=>au h (by(have tm:=Int.tmod_eq_emod_of_nonneg (a:=v) (b:=4) NL.1);rw [tm]at c2;(have h:jk v=0:=by grind [jk]);rw [lP,lP,lP,Hw (x:=v / 2 ^ 12) (by omega),Hw (x:=v / 2 ^ 2) (by omega),aq (by omega),aq (by omega),aq (by omega)];simp [vaI,vaJ,vaO,h]) rfl rfl)
def oX:Ctr Un:=⟨[.agg [.int .u32,.bool,.bool]],[],[],[],fun va wr ex K=>(0≤(va:Int)∧(va:Int)<4294967296)∧K ⟨(.tuple #[(.int .u32 (mgW va wr ex)),(.int .i64 (fQ va))]),(some (.t [none,none])),[],[],[]⟩⟩
def Kf(va:Int)(wr:Bool)(ex:Bool)(Q:Ou Un→Prop):Prop:=
 ∀(gv:Nat),
 ∃J:Bool→Prop,(
  split ((va.tmod 4096) !=0) (
   J true) (
   J (decide (va≥1073741824))))∧∀(NU:Nat→Value)(PT:Bool),J PT→
 split PT (
  Q ⟨(.tuple #[(.int .u32 0),(.int .i64 91)]),(some (.t [none,none])),[],[],[]⟩) (
  ∀wv:Int,wv=(u32.wrap (BitVec.ofInt u32.bits va ||| BitVec.ofInt u32.bits 1).toNat)→
  split wr (
   ∀ND:Int,ND=(u32.wrap (BitVec.ofInt u32.bits wv ||| BitVec.ofInt u32.bits 2).toNat)→
   split ex (
    ∀NF:Int,NF=(u32.wrap (BitVec.ofInt u32.bits ND ||| BitVec.ofInt u32.bits 4).toNat)→
    Q ⟨(.tuple #[(.int .u32 NF),(.int .i64 0)]),(some (.t [none,none])),[],[],[]⟩) (
    Q ⟨(.tuple #[(.int .u32 ND),(.int .i64 0)]),(some (.t [none,none])),[],[],[]⟩)) (
   split ex (
    ∀ND:Int,ND=(u32.wrap (BitVec.ofInt u32.bits wv ||| BitVec.ofInt u32.bits 4).toNat)→
    Q ⟨(.tuple #[(.int .u32 ND),(.int .i64 0)]),(some (.t [none,none])),[],[],[]⟩) (
    Q ⟨(.tuple #[(.int .u32 wv),(.int .i64 0)]),(some (.t [none,none])),[],[],[]⟩)))
theorem Kg:Vc2 Un prog (aQ []) [4] Tryz.f127 (.r' (.two (.two (.node [] (some ⟨[(13,(.one .bool))],[],upN 5 9,[]⟩) [] [] .leaf .leaf) .leaf) .leaf)) [] oX=(∀va wr ex,∀Q,(oX.body va wr ex Q)→Kf va wr ex Q):=by kernel_rfl
theorem Ke:LV Un prog 127 oX:=verify Tryz.func127 aa (tb:= []) trivial (by kernel_rfl) (Kg.mpr fun va wr ex Q h=>by
 obtain⟨NL,h⟩:=h
 exact fun gv=>cY ((((va:Int).tmod 4096:Int) !=0) || (decide ((va:Int)≥1073741824))) (ab (fun c1=>(by grind)) fun c1=>(by grind))<| bF (fun c2=>au h (by(have tm:=Int.tmod_eq_emod_of_nonneg (a:=va) (b:=4096) NL.1);rw [tm]at c2;(have h:fQ va=91:=by grind [fQ]);simp [mgW,h]) rfl rfl) fun c2=>allEq<| ab (fun c3=>allEq<| ab (fun c4=>allEq<| au h (by(have tm:=Int.tmod_eq_emod_of_nonneg (a:=va) (b:=4096) NL.1);rw [tm]at c2;(have h:fQ va=0:=by grind [fQ]);(have h9:va % 4096=0∧va<1073741824:=by grind [fQ]);rw [qw 0 1 rfl (by decide) NL (by omega),qw 1 2 rfl (by decide) (by omega) (by omega),qw 2 4 rfl (by decide) (by omega) (by omega)];simp [mgW,h,c3,c4]) rfl rfl) fun c4=>au h (by(have tm:=Int.tmod_eq_emod_of_nonneg (a:=va) (b:=4096) NL.1);rw [tm]at c2;(have h:fQ va=0:=by grind [fQ]);(have h9:va % 4096=0∧va<1073741824:=by grind [fQ]);rw [qw 0 1 rfl (by decide) NL (by omega),qw 1 2 rfl (by decide) (by omega) (by omega)];simp [mgW,h,c3,c4]) rfl rfl) fun c3=>ab (fun c5=>allEq<| au h (by(have tm:=Int.tmod_eq_emod_of_nonneg (a:=va) (b:=4096) NL.1);rw [tm]at c2;(have h:fQ va=0:=by grind [fQ]);(have h9:va % 4096=0∧va<1073741824:=by grind [fQ]);rw [qw 0 1 rfl (by decide) NL (by omega),qw 2 4 rfl (by decide) (by omega) (by omega)];simp [mgW,h,c3,c5]) rfl rfl) fun c5=>au h (by(have tm:=Int.tmod_eq_emod_of_nonneg (a:=va) (b:=4096) NL.1);rw [tm]at c2;(have h:fQ va=0:=by grind [fQ]);(have h9:va % 4096=0∧va<1073741824:=by grind [fQ]);rw [qw 0 1 rfl (by decide) NL (by omega)];simp [mgW,h,c3,c5]) rfl rfl)
def l6:Ctr Un:=⟨[.one (.int .u32)],[],[],[],fun v K=>(0≤(v:Int)∧(v:Int)<4294967296)∧K ⟨(.tuple #[(.agg #[(.int .u32 (cm v)),(.bool (paW v)),(.bool (paX v))]),(.int .i64 (lE v))]),(some (.t [none,none])),[],[],[]⟩⟩
def Ih(v:Int)(Q:Ou Un→Prop):Prop:=
 ∀(gv:Nat),
 ∀(NJ:Nat),
 (0≤(u32.wrap (BitVec.ofInt u32.bits v &&& ~~~(BitVec.ofInt u32.bits 4095)).toNat)∧(u32.wrap (BitVec.ofInt u32.bits v &&& ~~~(BitVec.ofInt u32.bits 4095)).toNat)<4294967296)∧
 ∃J:Bool→Prop,(
  split ((fQ (u32.wrap (BitVec.ofInt u32.bits v &&& ~~~(BitVec.ofInt u32.bits 4095)).toNat)) !=0) (
   J true) (
   J ((mgW (u32.wrap (BitVec.ofInt u32.bits v &&& ~~~(BitVec.ofInt u32.bits 4095)).toNat) ((u32.wrap (BitVec.ofInt u32.bits v &&& BitVec.ofInt u32.bits 2).toNat) !=0) ((u32.wrap (BitVec.ofInt u32.bits v &&& BitVec.ofInt u32.bits 4).toNat) !=0)) !=v)))∧∀(OJ:Nat→Value)(RX:Bool),J RX→
 split RX (
  Q ⟨(.tuple #[(.agg #[(.int .u32 0),(.bool false),(.bool false)]),(.int .i64 142)]),(some (.t [none,none])),[],[],[]⟩) (
  Q ⟨(.tuple #[(.agg #[(.int .u32 (u32.wrap (BitVec.ofInt u32.bits v &&& ~~~(BitVec.ofInt u32.bits 4095)).toNat)),(.bool ((u32.wrap (BitVec.ofInt u32.bits v &&& BitVec.ofInt u32.bits 2).toNat) !=0)),(.bool ((u32.wrap (BitVec.ofInt u32.bits v &&& BitVec.ofInt u32.bits 4).toNat) !=0))]),(.int .i64 0)]),(some (.t [none,none])),[],[],[]⟩)
theorem Ii:Vc2 Un prog (aQ [(127,oX)]) [] Tryz.f63 (.r' (.r' (.two (.r' (.two (.node [] (some ⟨[(27,(.one .bool))],[],upN 21 7,[]⟩) [] [] .leaf .leaf) .leaf)) .leaf))) [] l6=(∀v,∀Q,(l6.body v Q)→Ih v Q):=by kernel_rfl
theorem Ig:LV Un prog 63 l6:=verify Tryz.func63 aa (tb:= [(127,oX)]) ⟨Ke,trivial⟩ (by kernel_rfl) (Ii.mpr fun v Q h=>by
 obtain⟨NL,h⟩:=h
 exact fun gv NJ=>af (py _) fun s1=>cY ((((fQ (u32.wrap (BitVec.ofInt u32.bits v &&& ~~~(BitVec.ofInt u32.bits 4095)).toNat)):Int) !=0) || (((mgW (u32.wrap (BitVec.ofInt u32.bits v &&& ~~~(BitVec.ofInt u32.bits 4095)).toNat) ((u32.wrap (BitVec.ofInt u32.bits v &&& BitVec.ofInt u32.bits 2).toNat:Int) !=0) ((u32.wrap (BitVec.ofInt u32.bits v &&& BitVec.ofInt u32.bits 4).toNat:Int) !=0)):Int) !=v)) (ab (fun c1=>(by grind)) fun c1=>(by grind))<| bF (fun c2=>au h (by rw [Dv NL,eX 1 2 (by decide) (by omega) NL,eX 2 4 (by decide) (by omega) NL]at c2;(have h:yl v=false:=by grind [yl]);simp [cm,paW,paX,lE,h]) rfl rfl) fun c2=>au h (by rw [Dv NL,eX 1 2 (by decide) (by omega) NL,eX 2 4 (by decide) (by omega) NL]at c2 ⊢;(have h:yl v=true:=by grind [yl]);simp [cm,paW,paX,lE,h]) rfl rfl)
def iw:Ctr Un:=⟨[.agg [.any,.int .i64,.int .i64]],[(0,0)],[.ob 0 []],[0],fun pv aj off rm m K=>pv=Value.pointer (some (Addr.mk (rm 0) 0 none))∧K ⟨(.int .u32 (m.aZ true aj off)),none,[.ob 0 m],[],[]⟩⟩
theorem rH:LV Un prog 172 iw:=by
 show ∀(pv:Value)(aj:Int)(off:Int)(rm:Nat→Nat)(m:Mem),∀Q:Ou Un→Prop,(pv=Value.pointer (some (Addr.mk (rm 0) 0 none))∧Q ⟨(.int .u32 (m.aZ true aj off)),none,[.ob 0 m],[],[]⟩)→∀(X:Nat→Nat→Prop)(w:World),Sat (U:=Un) [(.ob 0 rm m)] X w→ax (U:=Un) [(.ob 0 rm m)] fr0 []→Calls prog 172 #[(.agg #[pv,(.int .i64 aj),(.int .i64 off)])] w (aU (U:=Un) [(.ob 0 rm m)] [0] X w Q)
 intro pv aj off rm m Q hQ X w hs hl
 obtain⟨rfl,hQ⟩:=hQ
 obtain⟨L,hg,hM,hX⟩:=lI hs
 rw [hg]
 refine(Mr hM aj off).mono ?_
 rintro e w' ⟨u,rfl,rfl,h2,q⟩
 exact aU.one (Z:=X 0) (q.mono fun k hk=>(hX k).1 hk) (show cT 0 rm _ (X 0) w' from⟨L,hg,hX,h2⟩) (fun k hk=>.inl hk) hQ trivial
def tI:Ctr Un:=⟨[.agg [.any,.int .i64,.int .i64],.one (.int .u32)],[(0,0)],[.ob 0 []],[0],fun pv aj off v rm m K=>pv=Value.pointer (some (Addr.mk (rm 0) 0 none))∧(0≤(v:Int)∧(v:Int)<4294967296)∧K ⟨(.tuple #[]),(some (.t [])),[.ob 0 (m.write true aj off v)],[],[]⟩⟩
theorem Ij:LV Un prog 173 tI:=by
 show ∀(pv:Value)(aj:Int)(off:Int)(v:Int)(rm:Nat→Nat)(m:Mem),∀Q:Ou Un→Prop,(pv=Value.pointer (some (Addr.mk (rm 0) 0 none))∧(0≤(v:Int)∧(v:Int)<4294967296)∧Q ⟨(.tuple #[]),(some (.t [])),[.ob 0 (m.write true aj off v)],[],[]⟩)→∀(X:Nat→Nat→Prop)(w:World),Sat (U:=Un) [(.ob 0 rm m)] X w→ax (U:=Un) [(.ob 0 rm m)] fr0 []→Calls prog 173 #[(.agg #[pv,(.int .i64 aj),(.int .i64 off)]),(.int .u32 v)] w (aU (U:=Un) [(.ob 0 rm m)] [0] X w Q)
 intro pv aj off v rm m Q hQ X w hs hl
 obtain⟨rfl,hv,hQ⟩:=hQ
 obtain⟨L,hg,hM,hX⟩:=lI hs
 rw [hg]
 refine(Nk hM aj off v hv).mono ?_
 rintro e w' ⟨u,rfl,rfl,h2,q⟩
 exact aU.one (Z:=X 0) (q.mono fun k hk=>(hX k).1 hk) (show cT 0 rm _ (X 0) w' from⟨L,hg,hX,h2⟩) (fun k hk=>.inl hk) hQ (KnO.tup _ (by simp))
def o6:Ctr Un:=⟨[.one (.obj 0 0),.one (.int .i64),.one (.int .i64)],[],[.ob 1 [(1,1,0)],.ob 0 []],[],fun aj off r E rm m K=>K ⟨(.agg #[(.func (.func 172) #[(.agg #[(.pointer (some (Addr.mk (rm 0) 0 none))),(.int .i64 aj),(.int .i64 off)])] #[]),(.func (.func 173) #[(.agg #[(.pointer (some (Addr.mk (rm 0) 0 none))),(.int .i64 aj),(.int .i64 off)])] #[])]),none,[],[],[]⟩⟩
def M8(aj:Int)(off:Int)(r:Nat→Nat)(E:Pd)(rm:Nat→Nat)(m:Mem)(Q:Ou Un→Prop):Prop:=
 Pd.Ok E→
 Mem.Wf m→
 ∀(gv:Nat),
 (some (.pointer (some (Addr.mk (rm 0) 0 none))):Option Value)=some (.pointer (some (Addr.mk (rm 0) 0 none)))∧
 ∀(NJ:Nat),
 Q ⟨(.agg #[(.func (.func 172) #[(.agg #[(.pointer (some (Addr.mk (rm 0) 0 none))),(.int .i64 aj),(.int .i64 off)])] #[]),(.func (.func 173) #[(.agg #[(.pointer (some (Addr.mk (rm 0) 0 none))),(.int .i64 aj),(.int .i64 off)])] #[])]),none,[],[],[]⟩
theorem M9:Vc2 Un prog (aQ [(14,aY)]) [] Tryz.f130 .leaf [] o6=(∀aj off r (E:Pd) rm (m:Mem),∀Q,(o6.body aj off r E rm m Q)→M8 aj off r E rm m Q):=by kernel_rfl
theorem Ik:LV Un prog 130 o6:=verify Tryz.func130 aa (tb:= [(14,aY)]) ⟨cU,trivial⟩ (by kernel_rfl) (M9.mpr fun aj off r E rm m Q h f1 f2 gv=>af (by rfl) fun s3 NJ=>h)
def iy:Ctr Un:=⟨[.one (.obj 0 0),.one (.int .i64),.one (.int .i64),.one (.int .i64)],[],[.ob 1 [(1,1,0)],.ob 0 []],[],fun s p t r E rm m K=>E.n=m.S∧K ⟨(.bool ((E.on m).of p t s)),none,[],[],[]⟩⟩
def Kk(s:Int)(p:Int)(t:Int)(r:Nat→Nat)(E:Pd)(rm:Nat→Nat)(m:Mem)(Q:Ou Un→Prop):Prop:=
 Pd.Ok E→
 Mem.Wf m→
 E.n=m.S∧
 ∀(gv:Nat),
 ∃J:Bool→Prop,(
  split (((E.on m).bc p)==0) (
   split (((E.on m).entry p).typ==t) (
    J (((E.on m).entry p).owner==s)) (
    J false)) (
   J false))∧∀(NU:Nat→Value)(x8:Bool),J x8→
 Q ⟨(.bool x8),none,[],[],[]⟩
theorem Kl:Vc2 Un prog (aQ [(18,cQ)]) [] Tryz.f129 (.r' (.r' (.two (.node [] (some ⟨[(8,(.one .bool))],[],[8]++upN 17 14,[]⟩) [] [] .leaf .leaf) .leaf))) [] iy=(∀s p t r (E:Pd) rm (m:Mem),∀Q,(iy.body s p t r E rm m Q)→Kk s p t r E rm m Q):=by kernel_rfl
section
attribute [local grind=] DB.entry DB.bc DB.of DB.is
theorem wW:LV Un prog 129 iy:=verify Tryz.func129 aa (tb:= [(18,cQ)]) ⟨gV,trivial⟩ (by kernel_rfl) (Kl.mpr fun s p t r E rm m Q h=>by
 obtain⟨NL,h⟩:=h
 exact fun f1 f2=>af ‹_› fun s3 gv=>cY (((((E.on m).bc p):Int)==0) && (((((E.on m).entry p).typ:Int)==t) && ((((E.on m).entry p).owner:Int)==s))) (ab (fun c1=>ab (fun c2=>(by grind)) fun c2=>(by grind)) fun c1=>(by grind))<| cl h (by grind))
end
def fY:Ctr Un:=⟨[.one (.obj 0 0),.one (.int .i64)],[],[.ob 1 [(1,1,0)],.ob 0 []],[1],fun s r E rm m K=>E.n=m.S∧K ⟨(.tuple #[(.int .i64 ((E.on m).tbl s)),(.int .i64 ((E.on m).cC s))]),(some (.t [none,none])),[.ob 0 m],[],[]⟩⟩
def Ia(s:Int)(r:Nat→Nat)(E:Pd)(rm:Nat→Nat)(m:Mem)(Q:Ou Un→Prop):Prop:=
 Pd.Ok E→
 Mem.Wf m→
 E.n=m.S∧
 ∀(gv:Nat),
 ∀Oi:Bool,Oi=((((E.on m).bc s):Int) !=0)→
 split Oi (
  Q ⟨(.tuple #[(.int .i64 0),(.int .i64 5)]),(some (.t [none,none])),[.ob 0 m],[],[]⟩) (
  ∀Q2:Bool,Q2=((((E.on m).entry s).typ:Int) !=1)→
  split Q2 (
   Q ⟨(.tuple #[(.int .i64 0),(.int .i64 124)]),(some (.t [none,none])),[.ob 0 m],[],[]⟩) (
   ∀N9:Bool,N9=((((E.on m).entry s).state:Int)==3)→
   split N9 (
    Q ⟨(.tuple #[(.int .i64 0),(.int .i64 3)]),(some (.t [none,none])),[.ob 0 m],[],[]⟩) (
    (.pointer (some (Addr.mk (rm 0) 0 none)))=Value.pointer (some (Addr.mk (rm 0) 0 none))∧
    ∀(m1:Mem),m1=m→
    Mem.Wf m1→
    ∃J:Bool→Prop,(
     E.n=m1.S∧
     split (decide ((i64.wrap (m.aZ true s 0))≥(E.on m1).S)) (
      J true) (
      E.n=m1.S∧
      J (!((E.on m1).of (i64.wrap (m.aZ true s 0)) 3 s))))∧∀(NU:Nat→Value)(PM:Bool),J PM→
    split PM (
     Q ⟨(.tuple #[(.int .i64 0),(.int .i64 124)]),(some (.t [none,none])),[.ob 0 m1],[],[]⟩) (
     Q ⟨(.tuple #[(.int .i64 (i64.wrap (m.aZ true s 0))),(.int .i64 0)]),(some (.t [none,none])),[.ob 0 m1],[],[]⟩))))
theorem Ib:Vc2 Un prog (aQ [(18,cQ),(130,o6),(172,iw),(120,jd),(129,iy)]) [15,18,22] Tryz.f91 (.r' (.r' (.r' (.r' (.two (.two (.node [] (some ⟨[(43,(.one .bool))],[],upN 31 13,[]⟩) [] [] .leaf .leaf) .leaf) .leaf))))) [] fY=(∀s r (E:Pd) rm (m:Mem),∀Q,(fY.body s r E rm m Q)→Ia s r E rm m Q):=by kernel_rfl
section
attribute [local grind=] DB.entry DB.bc DB.of DB.is DB.tbl DB.cC DB.word
theorem tH:LV Un prog 91 fY:=verify Tryz.func91 aa (tb:= [(18,cQ),(130,o6),(172,iw),(120,jd),(129,iy)]) ⟨gV,Ik,rH,tP,wW,trivial⟩ (by kernel_rfl) (Ib.mpr fun s r E rm m Q h=>by
 obtain⟨NL,h⟩:=h
 exact fun f1 f2=>(by(have hwr:=fun(p o:Int)=>fK (E:=E) f2 p o);(have Zc:=fun(p o:Int)=>aq (x:=m.aZ true p o) (by have:=hwr p o;simp only [DB.word,Pd.fx]at this;omega));exact af ‹_› fun s3 gv=>allEq<| aL (fun c1=>au h (congrArg (fun l=>Value.tuple (List.toArray l)) (ae (cf (by grind)) (ae (cf (by grind)) rfl))) rfl rfl) fun c1=>allEq<| aL (fun c2=>au h (congrArg (fun l=>Value.tuple (List.toArray l)) (ae (cf (by grind)) (ae (cf (by grind)) rfl))) rfl rfl) fun c2=>allEq<| aC (fun c3=>au h (congrArg (fun l=>Value.tuple (List.toArray l)) (ae (cf (by grind)) (ae (cf (by grind)) rfl))) rfl rfl) fun c3=>af (by grind) fun s4 m1 Oe f5=>cY ((decide ((i64.wrap (m.aZ true s 0):Int)≥((E.on m1).S:Int))) || (!((E.on m1).of (i64.wrap (m.aZ true s 0)) 3 s))) (af (by grind) fun s6=>ab (fun c4=>(by grind)) fun c4=>af ‹_› fun s7=>(by grind))<| bF (fun c5=>(by subst Oe;have hwq:=Zc s 0;exact au h (congrArg (fun l=>Value.tuple (List.toArray l)) (ae (cf (by grind)) (ae (cf (by grind)) rfl))) (ae (uO0 (by grind)) rfl) rfl)) fun c5=>(by subst Oe;have hwq:=Zc s 0;exact au h (congrArg (fun l=>Value.tuple (List.toArray l)) (ae (cf (by grind)) (ae (cf (by grind)) rfl))) (ae (uO0 (by grind)) rfl) rfl)))
end
def ka:Ctr Un:=⟨[.one (.obj 0 0),.one (.int .i64),.one (.int .u32)],[],[.ob 1 [(1,1,0)],.ob 0 []],[],fun s v r E rm m K=>E.n=m.S∧(0≤(v:Int)∧(v:Int)<4294967296)∧K ⟨(.tuple #[(.int .i64 (aH v)),(.bool ((E.on m).iK s v))]),(some (.t [none,none])),[],[],[]⟩⟩
def Ff(s:Int)(v:Int)(r:Nat→Nat)(E:Pd)(rm:Nat→Nat)(m:Mem)(Q:Ou Un→Prop):Prop:=
 Pd.Ok E→
 Mem.Wf m→
 (0≤v∧v<4294967296)∧
 ∃J:Int→Bool→Prop,(
  split ((iP v)==0) (
   E.n=m.S∧
   J (aH v) ((E.on m).of (aH v) 4 s)) (
   J (aH v) false))∧∀(Pw:Nat→Value) x6 (x7:Bool),J x6 x7→
 Q ⟨(.tuple #[(.int .i64 x6),(.bool x7)]),(some (.t [none,none])),[],[],[]⟩
theorem Fg:Vc2 Un prog (aQ [(182,dJ),(129,iy)]) [] Tryz.f191 (.r' (.r' (.two (.node [] (some ⟨[(6,(.one (.int .i64))),(7,(.one .bool))],[],[6,7]++upN 15 9,[]⟩) [] [] .leaf .leaf) .leaf))) [] ka=(∀s v r (E:Pd) rm (m:Mem),∀Q,(ka.body s v r E rm m Q)→Ff s v r E rm m Q):=by kernel_rfl
section
attribute [local grind=] DB.entry DB.bc DB.of DB.is DB.iK
theorem Fe:LV Un prog 191 ka:=verify Tryz.func191 aa (tb:= [(182,dJ),(129,iy)]) ⟨mY,wW,trivial⟩ (by kernel_rfl) (Fg.mpr fun s v r E rm m Q h=>by
 obtain⟨NL,NQ,h⟩:=h
 exact fun f1 f2=>af ‹_› fun s3=>dup2<| aC (fun c1=>af ‹_› fun s4=>au h (congrArg (fun l=>Value.tuple (List.toArray l)) (ae rfl (ae (eQb (by grind)) rfl))) rfl rfl) fun c1=>au h (congrArg (fun l=>Value.tuple (List.toArray l)) (ae rfl (ae (eQb (by grind)) rfl))) rfl rfl)
end
def gU:Ctr Un:=⟨[.one (.obj 0 0),.one (.int .i64),.one (.int .i64),.one (.int .i64)],[],[.ob 1 [(1,1,0)],.ob 0 []],[0,1],fun s i q r E rm m K=>E.n=m.S∧K ⟨(.int .i64 ((E.on m).lV s i q)),none,[.ob 1 (((E.on m).add s i q).pd),.ob 0 (((E.on m).add s i q).mem)],[],[]⟩⟩
def zZ(s:Int)(i:Int)(q:Int)(r:Nat→Nat)(E:Pd)(rm:Nat→Nat)(m:Mem)(Q:Ou Un→Prop):Prop:=
 Pd.Ok E→
 Mem.Wf m→
 E.n=m.S∧
 ∀(m1:Mem),m1=m→
 Mem.Wf m1→
 split (((E.on m).cC s) !=0) (
  Q ⟨(.int .i64 ((E.on m).cC s)),none,[.ob 1 E,.ob 0 m1],[],[]⟩) (
  ∃J:Bool→Prop,(
   split (decide (i<0)) (
    J true) (
    J (decide (i≥256))))∧∀(Pw:Nat→Value)(Om:Bool),J Om→
  split Om (
   Q ⟨(.int .i64 4),none,[.ob 1 E,.ob 0 m1],[],[]⟩) (
   E.n=m1.S∧
   ∀(NJ:Nat),
   split (((E.on m1).bc q) !=0) (
    Q ⟨(.int .i64 5),none,[.ob 1 E,.ob 0 m1],[],[]⟩) (
    E.n=m1.S∧
    split (!((E.on m1).of q 4 s)) (
     Q ⟨(.int .i64 124),none,[.ob 1 E,.ob 0 m1],[],[]⟩) (
     ∀(OB:Nat),
     (.pointer (some (Addr.mk (rm 0) 0 none)))=Value.pointer (some (Addr.mk (rm 0) 0 none))∧
     ∀(m2:Mem),m2=m1→
     Mem.Wf m2→
     split ((m1.aZ true ((E.on m).tbl s) i) !=0) (
      Q ⟨(.int .i64 140),none,[.ob 1 E,.ob 0 m2],[],[]⟩) (
      (.pointer (some (Addr.mk (rm 0) 0 none)))=Value.pointer (some (Addr.mk (rm 0) 0 none))∧
      (0≤(bS q)∧(bS q)<4294967296)∧
      ∀(m3:Mem),m3=(m2.write true ((E.on m).tbl s) i (bS q))→
      Mem.Wf m3→
      Q ⟨(.int .i64 0),none,[.ob 1 E,.ob 0 m3],[],[]⟩)))))
theorem z1:Vc2 Un prog (aQ [(91,fY),(18,cQ),(129,iy),(130,o6),(172,iw),(131,iW),(173,tI)]) [] Tryz.f65 (.r' (.r' (.r' (.two (.two (.node [] (some ⟨[(30,(.one .bool))],[],upN 25 6,[]⟩) [] [] .leaf .leaf) .leaf) .leaf)))) [] gU=(∀s i q r (E:Pd) rm (m:Mem),∀Q,(gU.body s i q r E rm m Q)→zZ s i q r E rm m Q):=by kernel_rfl
section
attribute [local grind=] DB.entry DB.bc DB.of DB.is DB.word DB.lV DB.add Pd.lF Mem.bh
theorem zY:LV Un prog 65 gU:=verify Tryz.func65 aa (tb:= [(91,fY),(18,cQ),(129,iy),(130,o6),(172,iw),(131,iW),(173,tI)]) ⟨tH,gV,wW,Ik,rH,zq,Ij,trivial⟩ (by kernel_rfl) (z1.mpr fun s i q r E rm m Q h=>by
 obtain⟨NL,h⟩:=h
 exact fun f1 f2=>(by(have hwr:=fun(p o:Int)=>fK (E:=E) f2 p o);(have Zc:=fun(p o:Int)=>aq (x:=m.aZ true p o) (by have:=hwr p o;simp only [DB.word,Pd.fx]at this;omega));exact af ‹_› fun s3 m1 Oe f4=>aL (fun c1=>au h (cf (by grind)) (ae (uO1 (by grind)) (ae (uO0 (by grind)) rfl)) rfl) fun c1=>cY ((decide ((i:Int)<0)) || (decide ((i:Int)≥256))) (ab (fun c2=>(by grind)) fun c2=>(by grind))<| bF (fun c3=>au h (cf (by grind)) (ae (uO1 (by grind)) (ae (uO0 (by grind)) rfl)) rfl) fun c3=>af (by grind) fun s5 NJ=>aL (fun c4=>au h (cf (by grind)) (ae (uO1 (by grind)) (ae (uO0 (by grind)) rfl)) rfl) fun c4=>af ‹_› fun s6=>bL (fun c5=>au h (cf (by grind)) (ae (uO1 (by grind)) (ae (uO0 (by grind)) rfl)) rfl) fun c5 OB=>af (by grind) fun s7 m2 Qa f8=>aL (fun c6=>au h (cf (by grind)) (ae (uO1 (by grind)) (ae (uO0 (by grind)) rfl)) rfl) fun c6=>af ‹_› fun s9=>af (sX _) fun S5 m3 Pq f11=>au h (cf (by grind)) (ae (uO1 (by grind)) (ae (uO0 (by grind)) rfl)) rfl))
end
def oZ:Ctr Un:=⟨[.one (.obj 0 0),.one (.int .i64),.one (.int .u32)],[],[.ob 1 [(1,1,0)],.ob 0 []],[1],fun s va r E rm m K=>E.n=m.S∧(0≤(va:Int)∧(va:Int)<4294967296)∧split (decide ((E.on m).eH s va=0)) (K ⟨(.tuple #[(.agg #[(.func (.func 172) #[(.agg #[(.pointer (some (Addr.mk (rm 0) 0 none))),(.int .i64 ((E.on m).plP s va)),(.int .i64 (vaJ va))])] #[]),(.func (.func 173) #[(.agg #[(.pointer (some (Addr.mk (rm 0) 0 none))),(.int .i64 ((E.on m).plP s va)),(.int .i64 (vaJ va))])] #[])]),(.int .i64 0)]),(some (.t [none,none])),[.ob 0 m],[],[]⟩) (K ⟨(.tuple #[(.agg #[.nilFunc,.nilFunc]),(.int .i64 ((E.on m).eH s va))]),(some (.t [none,none])),[.ob 0 m],[],[]⟩)⟩
def Ks(s:Int)(va:Int)(r:Nat→Nat)(E:Pd)(rm:Nat→Nat)(m:Mem)(Q:Ou Un→Prop):Prop:=
 Pd.Ok E→
 Mem.Wf m→
 ∀(gv:Nat),
 E.n=m.S∧
 ∀(m1:Mem),m1=m→
 Mem.Wf m1→
 split (((E.on m).cC s) !=0) (
  Q ⟨(.tuple #[(.agg #[.nilFunc,.nilFunc]),(.int .i64 ((E.on m).cC s))]),(some (.t [none,none])),[.ob 0 m1],[],[]⟩) (
  (0≤va∧va<4294967296)∧
  split ((jk va) !=0) (
   Q ⟨(.tuple #[(.agg #[.nilFunc,.nilFunc]),(.int .i64 91)]),(some (.t [none,none])),[.ob 0 m1],[],[]⟩) (
   (.pointer (some (Addr.mk (rm 0) 0 none)))=Value.pointer (some (Addr.mk (rm 0) 0 none))∧
   ∀(m2:Mem),m2=m1→
   Mem.Wf m2→
   E.n=m2.S∧
   (0≤(m1.aZ true ((E.on m).tbl s) (vaI va))∧(m1.aZ true ((E.on m).tbl s) (vaI va))<4294967296)∧
   split (!((E.on m2).iK s (m1.aZ true ((E.on m).tbl s) (vaI va)))) (
    Q ⟨(.tuple #[(.agg #[.nilFunc,.nilFunc]),(.int .i64 141)]),(some (.t [none,none])),[.ob 0 m2],[],[]⟩) (
    Q ⟨(.tuple #[(.agg #[(.func (.func 172) #[(.agg #[(.pointer (some (Addr.mk (rm 0) 0 none))),(.int .i64 (aH (m1.aZ true ((E.on m).tbl s) (vaI va)))),(.int .i64 (vaJ va))])] #[]),(.func (.func 173) #[(.agg #[(.pointer (some (Addr.mk (rm 0) 0 none))),(.int .i64 (aH (m1.aZ true ((E.on m).tbl s) (vaI va)))),(.int .i64 (vaJ va))])] #[])]),(.int .i64 0)]),(some (.t [none,none])),[.ob 0 m2],[],[]⟩)))
theorem Kt:Vc2 Un prog (aQ [(91,fY),(190,lW),(130,o6),(172,iw),(191,ka)]) [] Tryz.f174 .leaf [] oZ=(∀s va r (E:Pd) rm (m:Mem),∀Q,(oZ.body s va r E rm m Q)→Ks s va r E rm m Q):=by kernel_rfl
section
attribute [local grind=] DB.entry DB.bc DB.of DB.is DB.word DB.eH DB.plP DB.bB
theorem Kr:LV Un prog 174 oZ:=verify Tryz.func174 aa (tb:= [(91,fY),(190,lW),(130,o6),(172,iw),(191,ka)]) ⟨tH,HG,Ik,rH,Fe,trivial⟩ (by kernel_rfl) (Kt.mpr fun s va r E rm m Q h=>by
 obtain⟨NL,NQ,h⟩:=h
 exact fun f1 f2 gv=>af ‹_› fun s3 m1 Oe f4=>aL (fun c1=>au (bQ h (by grind)) (congrArg (fun l=>Value.tuple (List.toArray l)) (ae rfl (ae (cf (by grind)) rfl))) (ae (uO0 (by grind)) rfl) rfl) fun c1=>af ‹_› fun s5=>aL (fun c2=>au (bQ h (by grind)) (congrArg (fun l=>Value.tuple (List.toArray l)) (ae rfl (ae (cf (by grind)) rfl))) (ae (uO0 (by grind)) rfl) rfl) fun c2=>af (by grind) fun s6 m2 Qa f7=>af (by grind) fun s8=>af (yi ‹_› _ _ _) fun s9=>bL (fun c3=>au (bQ h (by grind)) (congrArg (fun l=>Value.tuple (List.toArray l)) (ae rfl (ae (cf (by grind)) rfl))) (ae (uO0 (by grind)) rfl) rfl) fun c3=>au (bP h (by grind)) (congrArg (fun l=>Value.tuple (List.toArray l)) (ae (congrArg (fun l=>Value.agg (List.toArray l)) (ae (by grind) (ae (by grind) rfl))) (ae rfl rfl))) (ae (uO0 (by grind)) rfl) rfl)
end
def kO:Ctr Un:=⟨[.one (.obj 0 0),.one (.int .i64),.one (.int .u32)],[],[.ob 1 [(1,1,0)],.ob 0 []],[1],fun s va r E rm m K=>E.n=m.S∧(0≤(va:Int)∧(va:Int)<4294967296)∧split (decide ((E.on m).bB s va=0)) (K ⟨(.tuple #[(.agg #[(.func (.func 172) #[(.agg #[(.pointer (some (Addr.mk (rm 0) 0 none))),(.int .i64 ((E.on m).plP s va)),(.int .i64 (vaJ va))])] #[]),(.func (.func 173) #[(.agg #[(.pointer (some (Addr.mk (rm 0) 0 none))),(.int .i64 ((E.on m).plP s va)),(.int .i64 (vaJ va))])] #[])]),(.int .i64 0)]),(some (.t [none,none])),[.ob 0 m],[],[]⟩) (K ⟨(.tuple #[(.agg #[.nilFunc,.nilFunc]),(.int .i64 ((E.on m).bB s va))]),(some (.t [none,none])),[.ob 0 m],[],[]⟩)⟩
def Ko(s:Int)(va:Int)(r:Nat→Nat)(E:Pd)(rm:Nat→Nat)(m:Mem)(Q:Ou Un→Prop):Prop:=
 Pd.Ok E→
 Mem.Wf m→
 ∀(gv:Nat),
 E.n=m.S∧
 (0≤va∧va<4294967296)∧
 split (decide ((E.on m).eH s va=0)) (
  ∀(m1:Mem),m1=m→
  Mem.Wf m1→
  ∀(NJ:Nat),
  (.pointer (some (Addr.mk (rm 0) 0 none)))=Value.pointer (some (Addr.mk (rm 0) 0 none))∧
  ∀(m2:Mem),m2=m1→
  Mem.Wf m2→
  split ((m1.aZ true ((E.on m).plP s va) (vaJ va)) !=0) (
   Q ⟨(.tuple #[(.agg #[.nilFunc,.nilFunc]),(.int .i64 140)]),(some (.t [none,none])),[.ob 0 m2],[],[]⟩) (
   Q ⟨(.tuple #[(.agg #[(.func (.func 172) #[(.agg #[(.pointer (some (Addr.mk (rm 0) 0 none))),(.int .i64 ((E.on m).plP s va)),(.int .i64 (vaJ va))])] #[]),(.func (.func 173) #[(.agg #[(.pointer (some (Addr.mk (rm 0) 0 none))),(.int .i64 ((E.on m).plP s va)),(.int .i64 (vaJ va))])] #[])]),(.int .i64 0)]),(some (.t [none,none])),[.ob 0 m2],[],[]⟩)) (
  ∀(m1:Mem),m1=m→
  Mem.Wf m1→
  ∀(NJ:Nat),
  split (((E.on m).eH s va) !=0) (
   Q ⟨(.tuple #[(.agg #[.nilFunc,.nilFunc]),(.int .i64 ((E.on m).eH s va))]),(some (.t [none,none])),[.ob 0 m1],[],[]⟩) (
   False))
theorem Kq:Vc2 Un prog (aQ [(174,oZ),(172,iw)]) [] Tryz.f132 .leaf [] kO=(∀s va r (E:Pd) rm (m:Mem),∀Q,(kO.body s va r E rm m Q)→Ko s va r E rm m Q):=by kernel_rfl
section
attribute [local grind=] DB.entry DB.bc DB.of DB.is DB.word DB.eH DB.plP DB.bB
theorem DE:LV Un prog 132 kO:=verify Tryz.func132 aa (tb:= [(174,oZ),(172,iw)]) ⟨Kr,rH,trivial⟩ (by kernel_rfl) (Kq.mpr fun s va r E rm m Q h=>by
 obtain⟨NL,NQ,h⟩:=h
 exact fun f1 f2 gv=>af ‹_› fun s3=>af ‹_› fun s4=>ar (fun c1 m1 Oe f5 NJ=>af (by grind) fun s6 m2 Qa f7=>aL (fun c2=>au (bQ h (by grind)) (congrArg (fun l=>Value.tuple (List.toArray l)) (ae rfl (ae (cf (by grind)) rfl))) (ae (uO0 (by grind)) rfl) rfl) fun c2=>au (bP h (by grind)) rfl (ae (uO0 (by grind)) rfl) rfl) fun c1 m1 Oe f8 NJ=>aL (fun c3=>au (bQ h (by grind)) (congrArg (fun l=>Value.tuple (List.toArray l)) (ae rfl (ae (cf (by grind)) rfl))) (ae (uO0 (by grind)) rfl) rfl) fun c3=>(by exfalso;omega))
end
def oY:Ctr Un:=⟨[.one (.obj 0 0),.one (.int .i64),.one (.int .u32)],[],[.ob 1 [(1,1,0)],.ob 0 []],[1],fun s va r E rm m K=>E.n=m.S∧(0≤(va:Int)∧(va:Int)<4294967296)∧K ⟨(.int .i64 ((E.on m).bB s va)),none,[.ob 0 m],[],[]⟩⟩
def Ki(s:Int)(va:Int)(r:Nat→Nat)(E:Pd)(rm:Nat→Nat)(m:Mem)(Q:Ou Un→Prop):Prop:=
 Pd.Ok E→
 Mem.Wf m→
 E.n=m.S∧
 (0≤va∧va<4294967296)∧
 split (decide ((E.on m).bB s va=0)) (
  ∀(m1:Mem),m1=m→
  Mem.Wf m1→
  ∀(gv:Nat),
  Q ⟨(.int .i64 0),none,[.ob 0 m1],[],[]⟩) (
  ∀(m1:Mem),m1=m→
  Mem.Wf m1→
  ∀(gv:Nat),
  Q ⟨(.int .i64 ((E.on m).bB s va)),none,[.ob 0 m1],[],[]⟩)
theorem Kj:Vc2 Un prog (aQ [(132,kO)]) [] Tryz.f156 .leaf [] oY=(∀s va r (E:Pd) rm (m:Mem),∀Q,(oY.body s va r E rm m Q)→Ki s va r E rm m Q):=by kernel_rfl
section
attribute [local grind=] DB.entry DB.bc DB.of DB.is DB.word DB.eH DB.plP DB.bB
theorem Kh:LV Un prog 156 oY:=verify Tryz.func156 aa (tb:= [(132,kO)]) ⟨DE,trivial⟩ (by kernel_rfl) (Kj.mpr fun s va r E rm m Q h=>by
 obtain⟨NL,NQ,h⟩:=h
 exact fun f1 f2=>af ‹_› fun s3=>af ‹_› fun s4=>ar (fun c1 m1 Oe f5 gv=>au h (cf ‹_›) (ae (uO0 (by grind)) rfl) rfl) fun c1 m1 Oe f6 gv=>au h rfl (ae (uO0 (by grind)) rfl) rfl)
end
def nM:Ctr Un:=⟨[.one (.obj 0 0),.one (.int .i64),.one (.int .u32),.agg [.bool,.int .i64,.bool,.bool]],[],[.ob 1 [(1,1,0)],.ob 0 []],[0,1],fun s va ma mb mc md r E rm m K=>E.n=m.S∧(0≤(va:Int)∧(va:Int)<4294967296)∧K ⟨(.int .i64 ((E.on m).iN s va (Mp.mk ma mb mc md))),none,[.ob 1 (((E.on m).put s va (Mp.mk ma mb mc md)).pd),.ob 0 (((E.on m).put s va (Mp.mk ma mb mc md)).mem)],[],[]⟩⟩
def LY(s:Int)(va:Int)(ma:Bool)(mb:Int)(mc:Bool)(md:Bool)(r:Nat→Nat)(E:Pd)(rm:Nat→Nat)(m:Mem)(Q:Ou Un→Prop):Prop:=
 Pd.Ok E→
 Mem.Wf m→
 ∀(gv:Nat),
 E.n=m.S∧
 (0≤va∧va<4294967296)∧
 split (decide ((E.on m).bB s va=0)) (
  ∀(m1:Mem),m1=m→
  Mem.Wf m1→
  ∀(NJ:Nat),
  split ((Mp.mk ma mb mc md).err !=0) (
   Q ⟨(.int .i64 ((Mp.mk ma mb mc md).err)),none,[.ob 1 E,.ob 0 m1],[],[]⟩) (
   (.pointer (some (Addr.mk (rm 0) 0 none)))=Value.pointer (some (Addr.mk (rm 0) 0 none))∧
   (0≤((Mp.mk ma mb mc md).word)∧((Mp.mk ma mb mc md).word)<4294967296)∧
   ∀(m2:Mem),m2=(m1.write true ((E.on m).plP s va) (vaJ va) ((Mp.mk ma mb mc md).word))→
   Mem.Wf m2→
   Q ⟨(.int .i64 0),none,[.ob 1 E,.ob 0 m2],[],[]⟩)) (
  ∀(m1:Mem),m1=m→
  Mem.Wf m1→
  ∀(NJ:Nat),
  split (((E.on m).bB s va) !=0) (
   Q ⟨(.int .i64 ((E.on m).bB s va)),none,[.ob 1 E,.ob 0 m1],[],[]⟩) (
   split ((Mp.mk ma mb mc md).err !=0) (
    Q ⟨(.int .i64 ((Mp.mk ma mb mc md).err)),none,[.ob 1 E,.ob 0 m1],[],[]⟩) (
    False)))
theorem LZ:Vc2 Un prog (aQ [(132,kO),(133,j7),(173,tI)]) [] Tryz.f67 .leaf [] nM=(∀s va ma mb mc md r (E:Pd) rm (m:Mem),∀Q,(nM.body s va ma mb mc md r E rm m Q)→LY s va ma mb mc md r E rm m Q):=by kernel_rfl
section
attribute [local grind=] DB.entry DB.bc DB.of DB.is DB.word DB.eH DB.plP DB.bB DB.iN DB.put Pd.lF Mem.bh
theorem Ie:LV Un prog 67 nM:=verify Tryz.func67 aa (tb:= [(132,kO),(133,j7),(173,tI)]) ⟨DE,vo,Ij,trivial⟩ (by kernel_rfl) (LZ.mpr fun s va ma mb mc md r E rm m Q h=>by
 obtain⟨NL,NQ,h⟩:=h
 exact fun f1 f2 gv=>af ‹_› fun s3=>af ‹_› fun s4=>ar (fun c1 m1 Oe f5 NJ=>aL (fun c2=>au h (cf (by grind)) (ae (uO1 (by grind)) (ae (uO0 (by grind)) rfl)) rfl) fun c2=>af (by grind) fun s6=>af (C9 _) fun s7 m2 Qa f8=>au h (cf (by grind)) (ae (uO1 (by grind)) (ae (uO0 (by grind)) rfl)) rfl) fun c1 m1 Oe f9 NJ=>aL (fun c3=>au h (cf (by grind)) (ae (uO1 (by grind)) (ae (uO0 (by grind)) rfl)) rfl) fun c3=>aL (fun c4=>au h (cf (by omega)) (ae (uO1 (by omega)) (ae (uO0 (by omega)) rfl)) rfl) fun c4=>(by exfalso;omega))
end
end
end Go.Proofs.YtinhphjfnedhgaaGreatDoor
namespace Go.Proofs.YtinhphjfnedhgaaGreatDoor.V
open Go Go.RowKit
open Go.IntKind (i64 u32 u64)
section
structure Ans(P:Program)(dk:FuncId)(T:TypeId):Prop where
 can:bT P dk=true
 calm:∀(p:Addr)(w:World),CallsDIn (WF none) 0 P dk #[.pointer (some p)] .returning w fun e u w'=>(∃v,e= .returned v)∧u= .returning∧w'=w
 A8:∀(p:Addr)(x:Int)(w:World)(K:World→Prop),aF w p [.int .u32 x] K→CallsDIn (WF none) 0 P dk #[.pointer (some p)] (.panicking [⟨.iface T (.int .u32 x),false,false⟩]) w fun e u w'=>(∃v,e= .returned v)∧settle u= .returning∧K w'
section
variable {U:Uni} {P:Program} {tbl:Tb U} {may:List Nat} {k0:Nat}
variable {w0:World} {X0 X:Nat→Nat→Prop} {w:World} {fr:Fr} {st:St U} {n:Nat} {N:List Nat}
theorem JF {a:Act} {l:List Oper} {dk t:Nat}(h:Dp dk l=some t):∃o,l= [o]∧o.guard=none∧o.dst=none∧∀w,(Oper.semAt none a.eval o).run P w= .ok (.defer ⟨.fn (.func dk) #[],#[a.eval (.tmp t)]⟩) w:=by
 unfold Dp at h
 split at h
 ·rename_i f az ats ty pos aft
  split at h
  ·rename_i ha hf
   injection h with h
   subst h
   have hf:=Nat.eq_of_beq_eq_true hf
   subst hf
   refine⟨_,rfl,rfl,rfl,fun w=>?_⟩
   have ZT:az= #[.tmp _]:=Array.ext' ha
   subst ZT
   have ef:a.eval (.func f)= .func (.func f) #[] #[]:=rfl
   simp [Oper.semAt,execOp,resolve,ef,Deferred.ofValue]
  ·cases h
 ·cases h
theorem LC {ops:Array Oper} {id dk t:Nat} {a:Act} {Q:Exit→Act→World→Prop}(h:Dp dk ops.toList=some t)(hQ:Q .normal {a with defers:=⟨.fn (.func dk) #[],#[a.eval (.tmp t)]⟩::a.defers} w):(Code.region id ops false).wpIn (WF none) 0 P Q a w:=by
 obtain⟨o,ho,hg,hd,Pa⟩:=JF (P:=P) (a:=a) h
 have ho:ops= #[o]:=Array.ext' ho
 subst ho
 refine wpIn_region_list ?_
 simp only [wpListIn]
 rw [if_pos (by unfold Region.wanted;rw [hg])]
 refine⟨fun _ _=>trivial,?_⟩
 show o.uponIn (WF none) 0 P a _ _ ((Oper.semAt none a.eval o).run P w)
 rw [Pa w,Oper.uponIn_defer,hd]
 exact hQ
theorem Ei {id off:Nat} {v:Value} {F:St U→Prop}(hv:∀vs,v≠ .agg vs)(hI:Inv w0 k0 X0 may st.rs X w)(hk:ax st.rs fr st.kn)(h:GR U k0 may id off v st F):
 ∃g cs T,nth st.rs id=some (.blk g cs T)∧aF w ⟨g,off,none⟩ [v] fun w'=>∃st',Steps w0 k0 X0 may st X st' X w'∧ax st'.rs fr st'.kn∧F st':=by
 unfold GR at h
 split at h
 ·rename_i g cs T hn
  split at h
  ·rename_i hc
   rw [Bool.and_eq_true]at hc
   have RK:off<cs.length:=by simpa [Nat.blt_eq]using hc.1
   refine⟨g,cs,T,hn,?_⟩
   obtain⟨hX,hX2,hb⟩:=(hI.sat.res id _ hn:X id g∧(∀k,X id k→k=g)∧Blk w g ⟨cs⟩ T)
   refine⟨g,off,⟨cs⟩,T,rfl,hb,by simp;omega,fun w2 hs=>?_⟩
   have e:setAt (⟨cs⟩:Array Value) off [v]=⟨cK cs off v⟩:=by
    show(⟨cs⟩:Array Value).setIfInBounds off v=_
    apply Array.ext'
    rw [se];simp
   rw [e]at hs
   have Sx:=n5 hI hk hn hc.2 (hs.ch.mono fun k hk=>hk▸hX) (dK.blk g cs (cK cs off v) T (by simp)) (show RS (X id) w2 (.blk g (cK cs off v) T)from⟨hX,hX2,hs.blk⟩) (kn':=fe Lp st.kn) ?_
   ·exact⟨_,Sx.steps,Sx.kn,h⟩
   ·intro key k hm
    obtain⟨h1,h2⟩:=dF hm
    unfold Lp at h2
    split at h2
    ·exact oD (M:= [id]) (fun i _ hi=>by rw [bA,if_neg (fun hh=>hi (by simp [hh.1]))]) (fun i hi a ha=>by
      simp at hi
      subst hi
      rw [hn]at ha
      injection ha with ha
      subst ha
      exact⟨_,by rw [bA,if_pos ⟨rfl,aX hn⟩],.blk _ _ _ _ (by simp)⟩) (.inr rfl) (hk _ _ h1)
    ·cases h2
  ·exact h.elim
 ·exact h.elim
theorem G7 {fn:Func} {rets:List Nat} {Q:Ou U→Prop} {PN:List (Res U)} {bq:List Nat} {kn0:List (Key×Kn)} {a':Act} {w':World} {st':St U} {X':Nat→Nat→Prop} {dk:FuncId} {T:TypeId} {id off g:Nat} {e:Exit}(hA:Ans P dk T)(RB:PN.length=k0)(OO:∀i,i∈bq→i<k0)(hr:Rep n fr a')(hs:Steps w k0 X bq ⟨PN,kn0,[]⟩ X st' X' w')(hk:ax st'.rs fr st'.kn)
 (hg:∃cs T,nth st'.rs id=some (.blk g cs T))(hd:a'.defers= [⟨.fn (.func dk) #[],#[.pointer (some ⟨g,off,none⟩)]⟩])(h:LB U P k0 T id off bq rets Q fn e fr st'):bodyPostM (WF none) 0 P fn (aU PN bq X w Q) e a' w':=by
 have hinv:(invoke (.fn (.func dk) #[]) #[.pointer (some ⟨g,off,none⟩)]).run P w'= .ok (.enter dk #[.pointer (some ⟨g,off,none⟩)]) w':=eN (P:=P) (C:= [dk]) (f:=dk) (by simp [eA,hA.can]) (by simp) _ _
 have go:∀ {u:FrameMode} {R:Ending→FrameMode→World→Prop},u≠ .run→CallsDIn (WF none) 0 P dk #[.pointer (some ⟨g,off,none⟩)] u w' R→(∀e u' w2,R e u' w2→(∃v,e= .returned v)∧LeavesInM (WF none) 0 P fn a'.tmps (aU PN bq X w Q) [] (settle u') w2)→LeavesInM (WF none) 0 P fn a'.tmps (aU PN bq X w Q) a'.defers u w':=by
  intro u R hu hc hR
  rw [hd]
  refine⟨hu,.inr ⟨fun h=>(by cases h),_,_,dk,_,rfl,hinv,fun _ _=>trivial,hc.mono fun e u' w2 h=>?_⟩⟩
  obtain⟨⟨v,rfl⟩,h2⟩:=hR e u' w2 h
  exact h2
 have res:vO U P k0 bq rets Q fn fr st'→LeavesInM (WF none) 0 P fn a'.tmps (aU PN bq X w Q) a'.defers .returning w':=fun h=>go (by simp) (hA.calm _ w') fun e u' w2 ⟨h1,h2,h3⟩=>by
  subst h2;subst h3
  exact⟨h1,rA RB OO hr hs hk h⟩
 unfold LB at h
 split at h
 ·exact res h
 ·exact res h
 ·rename_i T' x
  split at h
  ·rename_i hT
   have hT:=Nat.eq_of_beq_eq_true hT
   subst hT
   obtain⟨g',cs,T2,hn,PF⟩:=Ei (by simp) hs.inv hk h
   obtain⟨cs',T3,RD⟩:=hg
   rw [hn]at RD
   injection RD with RD
   injection RD with e1 e2 e3
   subst e1
   refine go (by simp) (hA.A8 _ x w' _ PF) fun e u' w2 ⟨h1,h2,O7,h3,h4,h5⟩=>⟨h1,?_⟩
   rw [h2]
   exact rA RB OO hr (hs.trans h3) h4 h5
  ·exact h.elim
 ·exact h.elim
theorem F4 {f:Nat} {fn:Func} {an:An} {rets:List Nat} {c:Ctr U} {dk:FuncId} {T:TypeId}(hA:Ans P dk T)(hf:P.funcs[f]? =some fn)(hm:P.follows .mixedOrders=true)(OZ:∀f c,tbl.c f=some c→LV U P f c∧bT P f=true)(OO:iu (fun i=>Nat.blt i c.res.length) c.bq=true)(h:VcD U P tbl dk T N fn an rets c):LV U P f c:=by
 have Qr:∀i,i∈c.bq→i<c.res.length:=fun i hi=>by simpa [Nat.blt_eq]using cD.1 OO i hi
 refine CI (V:=fun code Q fr st=>K4 U P tbl c.bq c.res.length dk T N fn an rets code Q fr st) hf ?_ (fun args ks rs kc Q h=>?_) h
 ·intro code Q PN X w kn fr a RB hI P5 PH PS h
  unfold K4 at h
  split at h
  case h_2=>exact h.elim
  rename_i i0 ops0 i1 ops1 code
  refine wpIn_seq (wpIn_mono (dD OZ hm _ _ _ _ _ X _ w P5 hI PH h) fun e a1 w1 he=>?_)
  cases e
  case normal=>
   obtain⟨Tq,Rn,⟨RH,X1,g1,g2,g3,g4⟩,_⟩:=he
   dsimp only at g4
   split at g4
   case h_2=>exact g4.elim
   rename_i t ht
   split at g4
   case h_2=>exact g4.elim
   rename_i id off hkt
   have g3:Tq.ds= []:=g3.trans PS
   have O5:den U RH.rs (.loc id off)=some (lk Tq.g t Tq.e):=g2.get hkt
   obtain⟨g,cs,T1,hn⟩:∃g cs T1,nth RH.rs id=some (.blk g cs T1):=by
    unfold den at O5
    simp only [PK.id]at O5
    cases hn:nth RH.rs id with
    | none=>rw [hn]at O5;cases O5
    | some r=>cases r<;>first | exact⟨_,_,_,rfl⟩ | (rw [hn]at O5;cases O5)
   have Zp:lk Tq.g t Tq.e= .pointer (some ⟨g,off,none⟩):=by
    simp only [den,PK.id,hn,cA,Option.some.injEq]at O5
    exact O5.symm
   have hev:a1.eval (.tmp t)= .pointer (some ⟨g,off,none⟩):=by rw [Rn.eval];exact Zp
   refine wpIn_seq (LC ht ?_)
   rw [hev,Rn.defers,g3]
   rw [Zp]at g4
   have QY:Rep fn.ntmps ⟨Tq.e,Tq.g,[⟨.fn (.func dk) #[],#[.pointer (some ⟨g,off,none⟩)]⟩]⟩ {a1 with defers:= [⟨.fn (.func dk) #[],#[.pointer (some ⟨g,off,none⟩)]⟩]}:=⟨Rn.size,Rn.get,rfl⟩
   refine wpIn_mono (dD OZ hm code an _ _ _ X1 _ w1 QY g1.inv (g2.same fun _=>rfl) g4) fun e a2 w2 he=>?_
   cases e
   case outgrown=>exact he.elim
   all_goals
    obtain⟨OQ,hr3,⟨O7,X2,k1,k2,k3,k4⟩,_⟩:=he
    obtain⟨b,hb,O9⟩:=k1.root id _ hn
    exact G7 hA RB Qr hr3 (g1.trans k1) k2 (by cases O9;exact⟨_,_,hb⟩) (hr3.defers.trans k3) k4
  case outgrown=>exact he.elim
  all_goals
   obtain⟨Tq,Rn,⟨RH,X1,g1,g2,g3,g4⟩,_⟩:=he
   exact g4.elim
 ·unfold Md at h
  split at h
  case h_2=>exact h.elim
  rename_i code hb Pf
  simp only [Bool.and_eq_true]at Pf
  exact⟨code,hb,Pf.1,Pf.2,h⟩
theorem nQ {f:Nat} {fn:Func} {an:An} {rets:List Nat} {c:Ctr U} {tb:List (Nat×Ctr U)} {sh:Sh} {al:List (Nat×List PK×List PK)} {dk:FuncId} {T:TypeId}(hA:Ans P dk T)(hf:P.funcs[f]? =some fn)(hm:P.follows .mixedOrders=true)(ht:vJ U P tb)(hb:(iu (fun p=>bT P p.1) tb && iu (fun i=>Nat.blt i c.res.length) c.bq)=true)(h:VcD U P ⟨Bb tb,sh,al⟩ dk T N fn an rets c):LV U P f c:=by
 rw [Bool.and_eq_true]at hb
 exact F4 hA hf hm (fun f c ZL=>pA ZL ht hb.1) hb.2 h
end
end
end Go.Proofs.YtinhphjfnedhgaaGreatDoor.V
namespace Go.Proofs.YtinhphjfnedhgaaGreatDoor
open Go.Proofs.Tryz (prog)
open Go Go.RowKit V
open Go.IntKind (i64 u32 u64)
section
set_option maxRecDepth 100000
theorem xQ {w:World} {p:Addr} {v:Value} {K:World→Prop}(h:aF w p [v] K):(∃u,w.cell? p=some u)∧w.frozen? p=false∧K (w.setCell p v):=by
 obtain⟨g,o,cs,T,rfl,hb,hl,hK⟩:=h
 have ho:o<cs.size:=by have:o+1≤cs.size:=hl;omega
 refine⟨⟨cs[o],hb.cell (by simp [ho])⟩,?_,hK _ (hb.set o v)⟩
 have hb:w.heap[g]? =some (.cells cs T (0,0)):=hb
 simp [World.frozen?,hb]
theorem Hv(p:Addr)(w:World):CallsDIn (WF none) 0 prog 82 #[.pointer (some p)] .returning w fun e u w'=>(∃v,e= .returned v)∧u= .returning∧w'=w:=by
 refine callsDIn_of_wpSIn Tryz.func82 rfl trivial fun c₀ cs hu=>?_
 apply wpSIn_seq
 apply wpSIn_region
 simp [wpOpsSIn,go_sem,recoverD,hu,Tryz.ntmps82,Exit.thenS]
 refine wpSIn_of_wpIn rfl (wpIn_block (wpIn_seq (wpIn_region_list ?_)))
 simp [wpListIn,Oper.wpIn,go_sem,Oper.semAt,Region.wanted]
 refine wpIn_cond (t:=true) (by simp [Act.eval,Array.replicate]) ?_
 simp only [if_true]
 refine wpIn_region_list ?_
 simp [wpListIn,Oper.wpIn,go_sem,Oper.semAt,Region.wanted,Exit.inBlock,bodyPostS,results,Tryz.results82]
 cases c₀
 simp_all
theorem Hu(p:Addr)(x:Int)(w:World)(K:World→Prop)(h:aF w p [.int .u32 x] K):CallsDIn (WF none) 0 prog 82 #[.pointer (some p)] (.panicking [⟨.iface 236 (.int .u32 x),false,false⟩]) w fun e u w'=>(∃v,e= .returned v)∧settle u= .returning∧K w':=by
 obtain⟨⟨u0,hc⟩,hz,hK⟩:=xQ h
 refine callsDIn_of_wpSIn Tryz.func82 rfl trivial fun c₀ cs hu=>?_
 apply wpSIn_seq
 apply wpSIn_region
 simp [wpOpsSIn,go_sem,recoverD,hu,Tryz.ntmps82,Exit.thenS]
 refine wpSIn_of_wpIn rfl (wpIn_block (wpIn_seq (wpIn_region_list ?_)))
 simp [wpListIn,Oper.wpIn,go_sem,Oper.semAt,Region.wanted]
 refine wpIn_cond (t:=false) (by simp [Act.eval,Array.replicate]) ?_
 simp only [Bool.false_eq_true,if_false]
 have hta:∀w:World,(Instr.typeAssert (.iface 236 (.int .u32 x)) 20 236 true).run prog w= .ok (.tuple #[.int .u32 x,.bool true]) w:=fun w=>by kernel_rfl
 refine wpIn_seq (wpIn_region_list ?_)
 simp [wpListIn,Oper.wpIn,go_sem,Oper.semAt,Region.wanted,hta]
 refine wpIn_cond (t:=true) (by simp [Act.eval,Array.replicate]) ?_
 simp only [if_true]
 refine wpIn_seq (wpIn_region_list ?_)
 simp [wpListIn,Oper.wpIn,go_sem,Oper.semAt,Region.wanted]
 refine wpIn_region_list ?_
 simp [wpListIn,Oper.wpIn,go_sem,Oper.semAt,Region.wanted,hc,hz,Exit.inBlock,bodyPostS,results,Tryz.results82]
 exact⟨rfl,hK⟩
theorem ans:Ans prog 82 236:=⟨by kernel_rfl,Hv,Hu⟩
end
end Go.Proofs.YtinhphjfnedhgaaGreatDoor
