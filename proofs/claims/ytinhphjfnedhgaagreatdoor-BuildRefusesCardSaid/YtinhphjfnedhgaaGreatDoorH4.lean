/- Chapter 17, BuildRefuses: a call that is refused changes nothing; one that is taken does what the layers below do by hand. -/
import Derived.Test.YtinhphjfnedhgaaGreatDoorH3
import Derived.ProofKit
import Derived.SizedLaws
import Derived.OpenShut
import Derived.LaidMore
import Derived.MakeChecks
import Derived.Handed
import Derived.Deep.SlicePairs
import Derived.KernelRfl
import Derived.RecoverIn
import Derived.Test.YtinhphjfnedhgaaGreatDoorProg
import Derived.Tactics
import Derived.Tactics2
import Derived.Laws.Pointers
import Derived.TacticsInMore
set_option linter.unusedVariables false
set_option linter.unusedSimpArgs false
namespace Go.Proofs.YtinhphjfnedhgaaGreatDoor
open Go.Proofs.Tryz (prog)
open Go Go.RowKit V
open Go.IntKind (i64 u32 u64)
def CR(w:Int):Bool:=decide (w % 256=1∧w / 256<64)
def cE(w:Int):Int:=if CR w then w / 256 else 0
def vh(w:Int):Int:=if w=0 then 92 else if CR w then 0 else 90
def dI(p:Int):Int:=if 0≤p∧p<64 then 256*p+1 else 0
def ei(p:Int):Int:=if 0≤p∧p<64 then 0 else 4
structure Mp where
 fG:Bool
 ak:Int
 write:Bool
 exec:Bool
deriving DecidableEq
def Mp.bits(m:Mp):Int:=(if m.fG then 2 else 0)+(if m.write then 4 else 0)+(if m.exec then 8 else 0)
def Mp.err(m:Mp):Int:=if 0≤m.ak∧m.ak<64 then(if m.exec && !m.fG then 1 else 0)else 4
def Mp.word(m:Mp):Int:=if m.err=0 then 256*m.ak+1+m.bits else 0
abbrev Mp.nil:Mp:=⟨false,0,false,false⟩
def Mp.Gy(w:Int):Mp:=⟨decide (w / 2 % 2=1),w / 256,decide (w / 4 % 2=1),decide (w / 8 % 2=1)⟩
def CN(w:Int):Bool:=decide ((Mp.Gy w).err=0∧(Mp.Gy w).word=w)
theorem CW {p:Int}(h:0≤p∧p<64):u32.wrap (BitVec.ofInt u32.bits (u32.wrap ((u32.wrap p:Int)*2 ^ 8)) ||| BitVec.ofInt u32.bits 1).toNat=256*p+1:=by
 rw [dh (x:=p) (by omega),dh (x:=p*2 ^ 8) (by omega),nJ (by omega) (by omega),show p*2 ^ 8=2 ^ 8*p by omega,fQ 8 (by omega) (by omega) (by omega)];omega
theorem yk(k:Nat)(b:Int)(hb:b=2 ^ k)(hk:k≤3) {p a:Int}(h:0≤p∧p<64)(ha:0≤a∧a<b):u32.wrap (BitVec.ofInt u32.bits (256*p+a) ||| BitVec.ofInt u32.bits b).toNat=256*p+(a+b):=by
 subst hb
 have h3:(2:Int) ^ k≤2 ^ 3:=by exact_mod_cast Nat.pow_le_pow_right (n:=2) (by omega) hk
 have h4:(0:Int)<2 ^ k:=Int.pow_pos (by omega)
 have assoc:∀x y z:Int,nor (nor x y) z=nor x (nor y z):=by
  intro x y z;unfold nor;simp [Nat.or_assoc]
 have e1:nor (2 ^ k*1) a=2 ^ k*1+a:=fQ k (by omega) ha.1 ha.2
 have e2:nor (2 ^ 8*p) a=2 ^ 8*p+a:=fQ 8 h.1 ha.1 (by omega)
 have e3:nor (2 ^ 8*p) (2 ^ k+a)=2 ^ 8*p+(2 ^ k+a):=fQ 8 h.1 (by omega) (by omega)
 rw [Int.mul_one]at e1
 rw [nJ (by omega) (by omega),show 256*p+a=2 ^ 8*p+a by omega,← e2,assoc,mD a,e1,e3]
 omega
theorem o7(k:Nat)(b:Int)(hb:b=2 ^ k)(hk:k≤30) {x:Int}(hx:0≤x∧x<4294967296):((u32.wrap (BitVec.ofInt u32.bits x &&& BitVec.ofInt u32.bits b).toNat:Int) !=0)=decide (x / b % 2=1):=by
 subst hb
 rw [Bool.eq_iff_iff]
 simp only [bne_iff_ne,ne_eq,decide_eq_true_eq]
 show(¬u32.wrap (BitVec.ofInt u32.bits x &&& BitVec.ofInt u32.bits (2 ^ k)).toNat=0)↔x / 2 ^ k % 2=1
 have h3:(2:Int) ^ k≤2 ^ 30:=by exact_mod_cast Nat.pow_le_pow_right (n:=2) (by omega) hk
 have h4:(0:Int)<2 ^ k:=Int.pow_pos (by omega)
 rw [o6 hx (by omega)]
 unfold Fj
 obtain⟨x,rfl⟩:=Int.eq_ofNat_of_zero_le hx.1
 have e:((2:Int) ^ k).toNat=2 ^ k:=by rw [show(2:Int) ^ k=((2 ^ k:Nat):Int)by push_cast;rfl,Int.toNat_natCast]
 rw [e,Int.toNat_natCast]
 have h5:x &&& 2 ^ k=if x.testBit k then 2 ^ k else 0:=by
  apply Nat.eq_of_testBit_eq
  intro j
  rw [Nat.testBit_and,Nat.testBit_two_pow]
  by_cases hj:k=j
  ·subst hj
   cases hb:x.testBit k<;>simp
  ·cases hb:x.testBit k<;>simp [hj,Nat.testBit_two_pow]
 have h6:x.testBit k=decide (x / 2 ^ k % 2=1):=Nat.testBit_eq_decide_div_mod_eq
 rw [h5,h6]
 have h7:((x:Int) / 2 ^ k % 2=1)↔(x / 2 ^ k % 2=1):=by
  rw [show(x:Int) / 2 ^ k % 2=((x / 2 ^ k % 2:Nat):Int)by push_cast;rfl]
  omega
 rw [h7]
 have h8:0<2 ^ k:=Nat.two_pow_pos k
 by_cases h9:x / 2 ^ k % 2=1
 ·simp [h9];omega
 ·simp [h9]
namespace File
def part(l:List U32)(i:Int):Fl:=⟨l.take i.toNat++List.replicate (15 - i.toNat) (U32.mk 0),0,false,false,false⟩
end File
def I4(f:Int→Bool)(lo hi:Int):Bool:=(List.range (hi - lo).toNat).all fun i=>f (lo+(i:Int))
def vT(f:Int→Bool)(n:Int):Int:=(((List.range n.toNat).countP fun(i:Nat)=>f (i:Int):Nat):Int)
theorem Bi {f:Int→Bool} {n:Int}(h:0≤n):vT f (n+1)=vT f n+(if f n then 1 else 0):=by
 unfold vT
 rw [show(n+1).toNat=n.toNat+1 by omega,List.range_succ,List.countP_append,Int.natCast_add]
 congr 1
 rw [List.countP_cons,List.countP_nil,show((n.toNat:Nat):Int)=n by omega]
 cases f n<;>simp
theorem FE {f:Int→Bool} {n:Int}:0≤vT f n:=by unfold vT;omega
theorem FD {f:Int→Bool} {n:Int}(h:0≤n):vT f n≤n:=by
 unfold vT
 have:=List.countP_le_length (p:=fun i=>f ((i:Nat):Int)) (l:=List.range n.toNat)
 rw [List.length_range]at this
 omega
namespace DB
def word(D:DB)(p o:Int):Int:=D.mem.bw true p o
def zero(D:DB)(p lo hi:Int):Bool:=I4 (fun o=>D.word p o==0) lo hi
def is(D:DB)(p t:Int):Bool:=D.has p && (D.at_ p).typ==t
def of(D:DB)(p t o:Int):Bool:=D.is p t && (D.at_ p).owner==o
def named(D:DB)(p:Int)(n q:Int):Int:=vT (fun i=>D.word p i !=0 && cE (D.word p i)==q) n
end DB
theorem G3(k:Nat)(b:Int)(hb:b=2 ^ k) {x:Int}(hx:0≤x)(h:x % (2*b)<b):nor x b=x+b:=by
 have LS:b=((2 ^ k:Nat):Int):=by rw [hb];simp
 obtain⟨n,rfl⟩:=Int.eq_ofNat_of_zero_le hx
 rw [LS]at h ⊢
 unfold nor
 have h2:n % (2*2 ^ k)<2 ^ k:=by exact_mod_cast h
 have e1:n=2 ^ (k+1)*(n / (2*2 ^ k))+n % (2*2 ^ k):=by
  rw [Nat.pow_succ,Nat.mul_comm (2 ^ k) 2];exact(Nat.div_add_mod n _).symm
 have JM:n % (2*2 ^ k)<2 ^ (k+1):=by rw [Nat.pow_succ];omega
 have QQ:2 ^ k+n % (2*2 ^ k)<2 ^ (k+1):=by rw [Nat.pow_succ];omega
 have e2:n ||| 2 ^ k=n+2 ^ k:=by
  generalize n % (2*2 ^ k)=r at *
  generalize n / (2*2 ^ k)=q at *
  have e3:(2 ^ k ||| r)=2 ^ k+r:=by
   have:=Nat.two_pow_add_eq_or_of_lt h2 1
   rw [Nat.mul_one]at this
   exact this.symm
  rw [e1,Nat.two_pow_add_eq_or_of_lt JM,Nat.or_assoc,Nat.or_comm r,e3,← Nat.two_pow_add_eq_or_of_lt QQ,← Nat.two_pow_add_eq_or_of_lt JM]
  omega
 simp only [Int.toNat_natCast]
 rw [e2]
 simp
theorem og(k:Nat)(b:Int)(hb:b=2 ^ k)(hk:b<4294967296) {x:Int}(hx:0≤x∧x<4294967296)(h:x % (2*b)<b):u32.wrap (BitVec.ofInt u32.bits x ||| BitVec.ofInt u32.bits b).toNat=x+b:=by
 have h0:0≤b:=by rw [hb];exact Int.pow_nonneg (by omega)
 rw [nJ hx ⟨h0,hk⟩,G3 k b hb hx.1 h]
theorem Af {x:Int}(hx:0≤x∧x<4294967296):u32.wrap (BitVec.ofInt u32.bits x &&& ~~~(BitVec.ofInt u32.bits 4095)).toNat=x - x % 4096:=by
 obtain⟨n,rfl⟩:=Int.eq_ofNat_of_zero_le hx.1
 have hn:n<2 ^ 32:=by have:=hx.2;omega
 have e:(BitVec.ofInt u32.bits (n:Int) &&& ~~~(BitVec.ofInt u32.bits 4095)).toNat=2 ^ 12*(n / 2 ^ 12):=by
  rw [qx,BitVec.toNat_and,eg (by omega) (by have:=hx.2;omega),show(~~~BitVec.ofInt 32 4095).toNat=2 ^ 12*(2 ^ 20 - 1)from by decide,Int.toNat_natCast]
  apply Nat.eq_of_testBit_eq
  intro i
  rw [Nat.testBit_and,Nat.testBit_two_pow_mul,Nat.testBit_two_pow_mul,Nat.testBit_two_pow_sub_one,Nat.testBit_div_two_pow]
  by_cases h1:12≤i
  ·by_cases h2:i<32
   ·simp [h1,show i - 12<20 by omega,show i - 12+12=i by omega,show 12+(i - 12)=i by omega]
   ·have h3:n.testBit i=false:=Nat.testBit_lt_two_pow (Nat.lt_of_lt_of_le hn (Nat.pow_le_pow_right (by omega) (by omega)))
    simp [h3,show i - 12+12=i by omega,show 12+(i - 12)=i by omega,h1]
  ·simp [h1]
 rw [e,dh]<;>omega
theorem DW {x:Int}(hx:0≤x∧x<4294967296):u32.wrap (BitVec.ofInt u32.bits x &&& BitVec.ofInt u32.bits 1023).toNat=x % 1024:=by
 rw [o6 hx (by omega)]
 exact nM 10 hx.1
theorem vj {m:Mem}(h:m.Wf)(s:Bool)(p o:Int):0≤m.bw s p o∧m.bw s p o<4294967296:=by
 unfold Mem.bw
 split
 ·exact h.1 _ _ _
 ·omega
theorem qq(p:Int):0≤dI p∧dI p<4294967296:=by unfold dI;split<;>omega
theorem zW(p:Mp):0≤p.word∧p.word<4294967296:=by
 unfold Mp.word Mp.bits
 split
 ·rename_i h
  have hp:0≤p.ak∧p.ak<64:=by
   unfold Mp.err at h
   by_cases hp:0≤p.ak∧p.ak<64
   ·exact hp
   ·rw [if_neg hp]at h;omega
  split<;>split<;>split<;>omega
 ·omega
def iz(v:Int):Int:=if 1073741824≤v∨v % 4≠0 then 91 else 0
def vaI(v:Int):Int:=if iz v=0 then v / 4194304 else 0
def vaJ(v:Int):Int:=if iz v=0 then v / 4096 % 1024 else 0
def vaO(v:Int):Int:=if iz v=0 then v / 4 % 1024 else 0
def fm(v:Int):Int:=if v % 4096≠0∨1073741824≤v then 91 else 0
def mgW(v:Int)(a b:Bool):Int:=if fm v=0 then v+1+(if a then 2 else 0)+(if b then 4 else 0)else 0
def vm(w:Int):Bool:=decide (fm (w - w % 4096)=0∧mgW (w - w % 4096) (decide (w / 2 % 2=1)) (decide (w / 4 % 2=1))=w)
def fW(w:Int):Int:=if vm w then 0 else 142
def bD(w:Int):Int:=if vm w then w - w % 4096 else 0
def paW(w:Int):Bool:=vm w && decide (w / 2 % 2=1)
def paX(w:Int):Bool:=vm w && decide (w / 4 % 2=1)
namespace DB
def cp(d:DB)(s:Int):Int:=
 if !d.has s then 5 else if(d.at_ s).typ≠1 then 124 else if(d.at_ s).state=3 then 3 else if d.of (d.word s 0) 3 s then 0 else 124
def tbl(d:DB)(s:Int):Int:=if d.cp s=0 then d.word s 0 else 0
def hH(d:DB)(s i q:Int):Int:=
 if d.cp s≠0 then d.cp s else if i<0∨256≤i then 4 else if !d.has q then 5 else if !d.of q 4 s then 124 else if d.word (d.tbl s) i≠0 then 140 else 0
def add(d:DB)(s i q:Int):DB:=if d.hH s i q=0 then d.aQ (·.write true (d.tbl s) i (dI q))else d
def iD(d:DB)(s w:Int):Bool:=vh w==0 && d.of (cE w) 4 s
def dX(d:DB)(s va:Int):Int:=
 if d.cp s≠0 then d.cp s else if iz va≠0 then 91 else if d.iD s (d.word (d.tbl s) (vaI va))then 0 else 141
def plP(d:DB)(s va:Int):Int:=cE (d.word (d.tbl s) (vaI va))
def bt(d:DB)(s va:Int):Int:=if d.dX s va≠0 then d.dX s va else if d.word (d.plP s va) (vaJ va)≠0 then 140 else 0
def dW(d:DB)(s va:Int)(p:Mp):Int:=if d.bt s va≠0 then d.bt s va else p.err
def put(d:DB)(s va:Int)(p:Mp):DB:=if d.dW s va p=0 then d.aQ (·.write true (d.plP s va) (vaJ va) p.word)else d
end DB
theorem pS {l:List Int} {i:Nat}:((l.map U32.mk).getD i (U32.mk 0)).v=l.getD i 0:=by
 rw [List.getD_eq_getElem?_getD,List.getD_eq_getElem?_getD,List.getElem?_map]
 cases l[i]? <;>rfl
theorem Dg.yh {d:Dg}(h:d.Ok):∀x∈d.save,0≤x∧x<4294967296:=by
 intro x hx
 have h1:=h.n
 obtain⟨q1,q2,q3,q4,q5,q6,q7,q8⟩:=h.st
 simp only [save,List.mem_append,List.mem_cons,List.not_mem_nil,or_false,List.mem_map,List.mem_replicate]at hx
 rcases hx with(h | h | h | h | h | h | h | h | h | h) | ⟨y,hy,rfl⟩ | ⟨_,rfl⟩
 all_goals first
  | (subst h;omega)
  | exact h.words y hy
  | omega
namespace Mem
def wrs(m:Mem)(p:Int):Int→List Int→Mem
 | _,[]=>m
 | o,x::l=>(m.write true p o x).wrs p (o+1) l
theorem uP(p x:Int):∀(l:List Int)(m:Mem)(o:Int),m.wrs p o (l++ [x])=(m.wrs p o l).write true p (o+l.length) x
 | [],m,o=>by simp [wrs]
 | y::l,m,o=>by
  simp only [List.cons_append,wrs,List.length_cons]
  rw [uP p x l]
  congr 1;omega
@[simp] theorem hY(p:Int):∀(l:List Int)(m:Mem)(o:Int),(m.wrs p o l).S=m.S
 | [],_,_=>rfl
 | x::l,m,o=>by rw [wrs,hY p l,bB]
theorem pj {m:Mem} {a i:Int} {l:List Int}(hl:l.length=26)(hi:0≤i∧i<26):m.wrs a 11 (l.take (i64.wrap (i+1)).toNat)=(m.wrs a 11 (l.take i.toNat)).write true a (i64.wrap (11+i)) (l.getD i.toNat 0):=by
 have JM:i.toNat<l.length:=by omega
 rw [ax (x:=i+1) (by omega),ax (x:=11+i) (by omega),show(i+1).toNat=i.toNat+1 by omega,List.take_add_one,List.getElem?_eq_getElem JM,List.getD_eq_getElem?_getD,List.getElem?_eq_getElem JM]
 show m.wrs a 11 (l.take i.toNat++ [l[i.toNat]])=_
 rw [uP,List.length_take]
 congr 1
 omega
def dgW(m:Mem)(p:Int):List U32:=(List.range 26).map fun(i:Nat)=>U32.mk (m.bw true p (11+(i:Int)))
theorem cq(m:Mem)(p:Int):(m.dgW p).length=26:=by rw [dgW,List.length_map,List.length_range]
theorem dO {m:Mem}(h:m.Wf)(p:Int):∀x∈m.dgW p,0≤x.v∧x.v<4294967296:=by
 intro x hx
 obtain⟨i,_,rfl⟩:=List.mem_map.1 hx
 exact vj h _ _ _
end Mem
namespace Dg
def EC(d:Dg):Prop:=d.Ok∧(d.n<16→d.st=S8.first)
theorem C7:new.EC:=⟨km,fun _=>rfl⟩
theorem vv {l:List U32}(h:ao l=0):l.length=26∧nOf l≤36028797018963968∧(nOf l<16→jw l=S8.first)∧∀x∈l.drop (10+(nOf l % 16).toNat),x.v=0:=by
 unfold ao at h
 split at h
 ·omega
 ·rename_i h1
  split at h
  ·omega
  ·rename_i h2
   split at h
   ·rename_i h3
    refine⟨by omega,by omega,fun hn=>?_,fun x hx=>by simpa using List.all_eq_true.1 h3 x hx⟩
    by_cases e:jw l=S8.first
    ·exact e
    ·exact absurd (.inr ⟨hn,e⟩) h2
   ·omega
theorem eV {l:List U32}(hw:∀x∈l,0≤x.v∧x.v<4294967296)(h:ao l=0):(load l).EC:=by
 obtain⟨hl,hn,hf,_⟩:=vv h
 have hr:∀i,i<26→0≤(l.getD i ⟨0⟩).v∧(l.getD i ⟨0⟩).v<4294967296:=fun i hi=>by
  rw [List.getD_eq_getElem?_getD,List.getElem?_eq_getElem (by omega)]
  exact hw _ (List.getElem_mem ..)
 have h0:0≤nOf l:=by unfold nOf;have h8:=hr 8 (by omega);have h9:=hr 9 (by omega);omega
 refine⟨⟨⟨h0,hn⟩,?_,⟨hr 0 (by omega),hr 1 (by omega),hr 2 (by omega),hr 3 (by omega),hr 4 (by omega),hr 5 (by omega),hr 6 (by omega),hr 7 (by omega)⟩,fun x hx=>hw x (List.mem_of_mem_drop (List.mem_of_mem_take hx))⟩,hf⟩
 show((l.drop 10).take (nOf l % 16).toNat).length=(nOf l % 16).toNat
 rw [List.length_take,List.length_drop]
 omega
theorem mX {K:List Int} {d:Dg} {l:List U32}(h:d.EC)(hl:∀x∈l,0≤x.v∧x.v<4294967296):(d.add K l).EC:=by
 refine⟨qE h.1 hl,fun hn=>?_⟩
 unfold add at hn ⊢
 split at hn
 ·rename_i hc;rw [if_pos hc];exact h.2 hn
 ·rename_i hc
  rw [if_neg hc]
  have h0:=h.1.n
  have hw:=h.1.len
  have hn:d.n+l.length<16:=hn
  show(dJ K d.st (d.waits++l)).1=_
  rw [gj (by rw [List.length_append];omega)]
  exact h.2 (by omega)
theorem rY {d:Dg}(h:d.EC):ao (d.save.map U32.mk)=0∧load (d.save.map U32.mk)=d:=by
 have h1:=h.1.n
 have h2:=h.1.len
 have hg:∀i,((d.save.map U32.mk).getD i ⟨0⟩).v=d.save.getD i 0:=fun i=>pS
 have e8:d.save.getD 8 0=d.n / 4294967296:=rfl
 have e9:d.save.getD 9 0=d.n % 4294967296:=rfl
 have hn:nOf (d.save.map U32.mk)=d.n:=by unfold nOf;rw [hg,hg,e8,e9];omega
 have hs:jw (d.save.map U32.mk)=d.st:=by unfold jw;simp only [hg];rfl
 have hd:(d.save.map U32.mk).drop 10=d.waits++List.replicate (16 - d.waits.length) (U32.mk 0):=by
  show((d.waits.map U32.v++List.replicate (16 - d.waits.length) 0).map U32.mk)=_
  rw [List.map_append,List.map_map,List.map_replicate]
  congr 1
  exact(List.map_congr_left fun x _=>rfl).trans (List.map_id _)
 refine⟨lO (by rw [List.length_map,j7 h.1]) (by rw [hn,hs];rintro(h3 | ⟨h3,h4⟩);omega;exact h4 (h.2 h3)) fun i x hx=>?_,?_⟩
 ·rw [hn,← List.drop_drop,hd,← h2,List.drop_left]at hx
  rw [List.getElem?_replicate]at hx
  split at hx
  ·injection hx with hx;rw [← hx]
  ·cases hx
 ·unfold load
  rw [hn,hs,hd,← h2,List.take_left]
end Dg
abbrev dm(l:List U32):Prop:=∀x∈l,0≤x.v∧x.v<4294967296
def opW(k a:Int)(l:List U32):List U32:= [U32.mk k,U32.mk a]++l
theorem xV {k a:Int}(ha:0≤a∧a<4294967296)(hk:k=1∨k=2∨k=4):dm [U32.mk (u32.wrap k),U32.mk a]:=by
 rw [dh (by omega)]
 intro x hx
 rcases List.mem_cons.1 hx with rfl | hx
 ·show 0≤k∧k<4294967296
  omega
 ·obtain rfl:=List.mem_singleton.1 hx
  exact ha
theorem Au {a:Int} {l:List U32}(ha:0≤a∧a<4294967296)(hl:dm l):dm ([U32.mk 3,U32.mk a]++l):=by
 intro x hx
 simp only [List.cons_append,List.nil_append,List.mem_cons]at hx
 rcases hx with rfl | rfl | hx
 ·exact⟨by decide,by decide⟩
 ·exact ha
 ·exact hl x hx
theorem AX {k a:Int}(hk:k=1∨k=2∨k=4):opW k a []= [U32.mk (u32.wrap k),U32.mk a]:=by
 rw [dh (by omega)];rfl
namespace W26
abbrev Ok(x:W26):Prop:=dm x.n
def ws(x:W26):List Int:=x.n.map U32.v
theorem H0(x:W26):x.n.length=26:=rfl
theorem td(x:W26)(i:Nat):x.ws.getD i 0=(x.n.getD i (U32.mk 0)).v:=by
 rw [ws,List.getD_eq_getElem?_getD,List.getD_eq_getElem?_getD,List.getElem?_map]
 cases x.n[i]? <;>rfl
theorem Cm {x:W26}(h:x.Ok) {i:Nat}(hi:i<26):0≤x.ws.getD i 0∧x.ws.getD i 0<4294967296:=by
 rw [td,List.getD_eq_getElem?_getD,List.getElem?_eq_getElem (by rw [H0];exact hi)]
 exact h _ (List.getElem_mem ..)
theorem Iw {l:List U32} {i:Int}(hi:0≤i∧i<26):(⟨W26.c (W26.mk l)⟩:Array Value)[i.toNat *1]? =some (.int .u32 (l.getD i.toNat (U32.mk 0)).v):=by
 have h0:(⟨W26.c (W26.mk l)⟩:Array Value)[i.toNat *1]? =(aF (fun j=>Value.int .u32 (l.getD j (U32.mk 0)).v) (upN 0 26))[i.toNat *1]? :=by simp [W26.c]
 rw [h0]
 obtain⟨j,hj⟩:=bV (l:=upN 0 26) (i:=i.toNat) (by rw [fN];omega)
 rw [Nat.mul_one,← aH,aY,hj]
 have:=iA hj
 rw [show j=i.toNat by omega];rfl
theorem gn(x:W26):x.ws.length=26:=rfl
end W26
theorem W26.ry {l:List U32}(h:l.length=26):W26.n (W26.mk l)=l:=by
 apply List.ext_getElem?
 intro i
 show(aF _ _)[i]? =_
 rw [← aH,aY]
 cases hj:nth (upN 0 26) i with
 | none=>
  rw [List.getElem?_eq_none];rfl
  by_cases hi:i<26
  ·obtain⟨_,h8⟩:=bV (l:=upN 0 26) (i:=i) (by rw [fN];exact hi)
   rw [hj]at h8;cases h8
  ·omega
 | some j=>
  have h1:=iA hj
  have h2:=aU hj
  rw [fN]at h2
  have h3:j=i:=by omega
  subst h3
  show some (U32.mk (l.getD j (U32.mk 0)).v)=_
  rw [List.getD_eq_getElem?_getD,List.getElem?_eq_getElem (by omega)];rfl
theorem W26.nn {l:List U32}(h:l.length=26):W26.n (W26.mk (W26.n (W26.mk l)))=l:=by rw [W26.ry h,W26.ry h]
theorem W26.jZ {l:List U32}(h:l.length=26)(hl:dm l):W26.Ok (W26.mk (W26.n (W26.mk l))):=by
 show dm _
 rw [W26.nn h];exact hl
theorem Dg.svL_eq {d:Dg}(h:d.Ok):d.svL=d.save.map U32.mk:=by
 have e:d.svL=W26.n (W26.mk (d.save.map U32.mk)):=by
  show aF _ _=aF _ _
  congr 1
  funext j
  rw [pS]
 rw [e,W26.ry (by rw [List.length_map,Dg.j7 h])]
theorem Dg.gp {d:Dg}(h:d.Ok):dm d.svL:=by
 rw [Dg.svL_eq h]
 intro x hx
 obtain⟨y,hy,rfl⟩:=List.mem_map.1 hx
 exact Dg.yh h y hy
theorem Dg.xZ {d:Dg}(h:d.Ok):W26.ws (W26.mk (W26.n (W26.mk d.svL)))=d.save:=by
 show(W26.n _).map U32.v=_
 rw [W26.nn (by rfl),Dg.svL_eq h,List.map_map]
 exact(List.map_congr_left fun x _=>rfl).trans (List.map_id _)
namespace Mem
theorem z8 {m:Mem} {p:Int} {i:Nat}(hi:i<26):(m.dgW p)[i]? =some (U32.mk (m.bw true p (11+(i:Int)))):=by
 unfold dgW
 rw [List.getElem?_map,List.getElem?_range hi];rfl
theorem qt {m:Mem} {p i:Int} {l:List U32}(hi:0≤i∧i<26)(h:l=(m.dgW p).take i.toNat++List.replicate (26 - i.toNat) (U32.mk 0)):l.set i.toNat (U32.mk (m.bw true p (i64.wrap (11+i))))=(m.dgW p).take (i64.wrap (i+1)).toNat++List.replicate (26 - (i64.wrap (i+1)).toNat) (U32.mk 0):=by
 subst h
 rw [ax (x:=i+1) (by omega),ax (x:=11+i) (by omega),show(i+1).toNat=i.toNat+1 by omega,List.take_add_one,z8 (by omega),show(11+((i.toNat:Nat):Int))=11+i by omega,show 26 - i.toNat=(26 - (i.toNat+1))+1 by omega,List.replicate_succ]
 have hl:((m.dgW p).take i.toNat).length=i.toNat:=by rw [List.length_take,cq];omega
 rw [List.set_append,if_neg (by omega),hl,Nat.sub_self]
 simp
theorem tO {m:Mem} {p i:Int}(hi:i=26):(m.dgW p).take i.toNat++List.replicate (26 - i.toNat) (U32.mk 0)=m.dgW p:=by
 subst hi
 show(m.dgW p).take 26++ []=_
 rw [List.append_nil,List.take_of_length_le (by rw [cq];omega)]
end Mem
theorem tv {k a:Int} {l:List U32}(ha:0≤a∧a<4294967296)(hk:k=1∨k=2∨k=3∨k=4)(hl:dm l):dm (opW k a l):=by
 intro x hx
 simp only [opW,List.cons_append,List.nil_append,List.mem_cons]at hx
 rcases hx with rfl | rfl | hx
 ·show 0≤k∧k<4294967296
  omega
 ·exact ha
 ·exact hl x hx
def Mem.msd(kk:List Int)(m:Mem)(p k a:Int)(l:List U32):Mem:=
 if Dg.ao (m.dgW p)=0 then m.wrs p 11 ((Dg.load (m.dgW p)).add kk (opW k a l)).save else m
theorem Mem.fB(kk:List Int)(m:Mem)(p k a:Int)(l:List U32):(m.msd kk p k a l).S=m.S:=by unfold Mem.msd;split<;>simp
theorem Sat.swap {U:Uni} {rs JX:List (Res U)} {X:Nat→Nat→Prop} {w:World}(hl:JX.length=rs.length)(hr:∀i b,nth JX i=some b→∃a,nth rs i=some a∧∀X w,RS X w a→RS X w b)(h:Sat rs X w):Sat JX X w:=
 ⟨fun i b hb=>by obtain⟨a,ha,RE⟩:=hr i b hb;exact RE _ _ (h.res i a ha),fun i j hi hj=>h.dis i j (by omega) (by omega)⟩
theorem aT.swap {U:Uni} {rs JX:List (Res U)} {X:Nat→Nat→Prop} {w w':World} {Q Q':Ou U→Prop} {e:Ending}(hl:JX.length=rs.length)(hr:∀i b,nth JX i=some b→∃a,nth rs i=some a∧∀X w,RS X w a→RS X w b)
 (hQ:∀out,Q out→Q' out∧(KnO (rs++out.news) out.res out.kr→KnO (JX++out.news) out.res out.kr)∧out.kc= [])(h:aT rs [] X w Q e w'):aT JX [] X w Q' e w':=by
 obtain⟨out,rs',X',he,hq,JS,hp⟩:=h
 obtain⟨h1,h2,h3⟩:=hQ out hq
 have hu:out.upd= []∧rs'=rs:=by
  cases hu:out.upd with
  | nil=>rw [hu]at JS;simp only [bF,Option.some.injEq]at JS;exact⟨rfl,JS.symm⟩
  | cons a l=>rw [hu]at JS;cases JS
 obtain⟨hu,rfl⟩:=hu
 have Jv:∀i b,nth (JX++out.news) i=some b→∃a,nth (rs'++out.news) i=some a∧∀X w,RS X w a→RS X w b:=by
  intro i b hb
  rw [bf]at hb ⊢
  rw [hl]at hb
  split at hb
  ·rename_i hi;rw [if_pos hi];exact hr i b hb
  ·rename_i hi;rw [if_neg hi];exact⟨b,hb,fun _ _ h=>h⟩
 refine⟨out,JX,X',he,h1,by rw [hu];rfl,⟨Sat.swap (by simp [hl]) Jv hp.sat,hp.ch,fun i hi=>hp.same i (by omega),hp.grow,fun i hi Rz=>hp.new i (by omega) (by omega),hp.kr.imp id h2,fun key k hk=>by rw [h3]at hk;cases hk⟩⟩
theorem zA {T:TypeId} {x:Wt} {r:Nat→Nat} {rest:List (Res Un)}:∀i b,nth (Res.ob 8 r x::rest) i=some b→∃a,nth (Res.lst 1 false T x.A x.c x.l::rest) i=some a∧∀X w,RS X w a→RS X w b
 | 0,b,h=>by
  simp only [nth,Option.some.injEq]at h
  subst h
  exact⟨_,rfl,fun _ _ h=>h⟩
 | i+1,b,h=>⟨b,h,fun _ _ h=>h⟩
theorem vt {T:TypeId} {x:Wt} {r:Nat→Nat} {rest:List (Res Un)}:∀i b,nth (Res.lst 1 false T x.A x.c x.l::rest) i=some b→∃a,nth (Res.ob 8 r x::rest) i=some a∧∀X w,RS X w a→RS X w b
 | 0,b,h=>by
  simp only [nth,Option.some.injEq]at h
  subst h
  exact⟨_,rfl,fun _ _ h=>h⟩
 | i+1,b,h=>⟨b,h,fun _ _ h=>h⟩
theorem kh {f:Nat→Int} {cs:Array Value}(hs:cs.size=1024)(h:∀o,o<1024→cs[o]? =some (.int .u32 (f o))):cs=bu ((List.range 1024).map f):=by
 apply Array.ext_getElem?
 intro i
 by_cases hi:i<1024
 ·rw [h i hi,dV (by simpa using hi),List.getD_eq_getElem?_getD,List.getElem?_map,List.getElem?_range hi];rfl
 ·rw [Array.getElem?_eq_none (by omega),Array.getElem?_eq_none (by simp;omega)]
theorem vJ:∀(l l':List Int),l.length=l'.length→eqL (l.map (Value.int .u32)) (l'.map (Value.int .u32))=decide (l=l')
 | [],[],_=>by simp [eqL]
 | a::l,b::l',hl=>by
  have ih:=vJ l l' (by simpa using hl)
  rw [List.map_cons,List.map_cons,eqL,ih]
  by_cases h:a=b
  ·subst h;simp [lr]
  ·simp [lr,h]
theorem vC:∀(l:List Int),cz (pV [.int .u32] l.length) (l.map (Value.int .u32))=true
 | []=>rfl
 | a::l=>by
  have ih:=vC l
  simpa [pV,cz,kEq]using ih
structure qP(w:World)(a n:Nat)(pg:Nat→Nat)(f:Nat→Nat→Int):Prop where
 row:∃T cs,Blk w a cs T∧∀i,i<n→cs[i]? =some (ptr (pg i))
 pgs:∀i,i<n→gB w (pg i) (f i)
theorem qP.pu {w w':World} {a n:Nat} {pg:Nat→Nat} {f:Nat→Nat→Int}(h:qP w a n pg f)(q:Pu w w'):qP w' a n pg f:=by
 obtain⟨⟨T,cs,hr,h2⟩,h3⟩:=h
 exact⟨⟨T,cs,q.blk hr,h2⟩,fun i hi=>(h3 i hi).pu q⟩
theorem bY.r7 {w:World} {L:dR} {m:Mem}(h:bY w L m)(s:Bool):qP w (L.row s) (m.cnt s) (L.pg s) (m.pg s):=⟨h.rows s,h.pgs s⟩
theorem Gx {w:World} {a n:Nat} {pg:Nat→Nat} {f:Nat→Nat→Int}(h:qP w a n pg f)(hn:n≤64):
 Calls prog 122 #[.slice (some (Addr.mk a 0 none)) n n] w fun e w'=>∃v,e= .returned v∧∃g p,v= .slice (some (Addr.mk g 0 none)) n n∧iP w' g n n p f w.heap.size∧Pu w w':=by
 refine xa _ _ _ ?_
 refine iG CF (by omega) (by omega) (by omega) fun g w1 hM=>?_
 rw [Int.toNat_natCast]at hM ⊢
 refine⟨fun k x w'=>∃i:Nat,x=(i:Int)∧i≤n∧k=n - i∧(∃p,iP w' g n i p f w.heap.size)∧Pu w w',⟨n,0,rfl,by omega,by omega,⟨fun _=>0,⟨⟨_,_,hM.blk,by simp,by simp⟩,by simp,by simp,by simp,by rw [hM.num];exact Nat.le_refl _,by simp⟩⟩,hM.pu⟩,?_⟩
 rintro k _ x w2 ⟨i,rfl,hi,rfl,⟨p,hP⟩,Mg⟩
 refine ae (fun hb=>?_) (fun hb=>?_)
 ·have JY:i<n:=by simpa using hb
  have h2:=h.pu Mg
  obtain⟨T0,Qk,OH,RC⟩:=h2.row
  obtain⟨T1,Vk,U6,KH,VB⟩:=h2.pgs i JY
  refine⟨⟨by omega,by omega⟩,ai _ rfl ⟨some (Addr.mk (pg i) 0 none),by rw [Nat.mul_one,Int.toNat_natCast];exact OH.at (RC i JY),ai _ rfl ⟨Vk,⟨KH,fun j u hj=>U6.at hj⟩,?_⟩⟩⟩
  intro q w3 hq NQ
  have Ns:=made hq NQ
  have Wu:∀v∈Vk.toList,one? v True:=by rw [kh KH VB];exact mr
  refine⟨KH,Wu,fE Ns.blk (by simpa using KH) fun w4 Vt=>?_⟩
  have P3:gB w4 q (f i):=⟨_,_,Vt.blk,by simpa using KH,fun o ho=>by simpa using VB o ho⟩
  have hqn:w2.heap.size≤q:=by rw [Ns.num];exact Nat.le_refl _
  have h24:Pu w2 w4:=(Ch.stored (X:=fun _=>False) (Ns.pu) Vt (.inr hqn))
  obtain⟨T,cs,hr,JR,OI⟩:=hP.more (w2:=w4) h24 P3 hqn JY Mg.size
  refine⟨⟨by omega,by omega⟩,ai _ rfl ?_⟩
  rw [Nat.mul_one,Int.toNat_natCast]
  refine bI hr JR fun w5 hs=>⟨n - (i+1),by omega,i+1,?_,JY,rfl,⟨_,OI _ hs⟩,?_⟩
  ·rw [ax (by omega)];omega
  ·have hg:w.heap.size≤g:=hP.low.1
   exact((Mg.trans h24).mono (by simp):Ch (fun _=>False) w w4).stored hs (.inr hg)
 ·have:i=n:=by simp at hb;omega
  subst this
  exact⟨g,p,rfl,hP,Mg⟩
theorem yp {w:World} {L:dR} {m:Mem}(h:bY w L m):
 Calls prog 51 #[ptr L.g] w fun e w'=>∃v,e= .returned v∧∃L':dR,v=ptr L'.g∧bY w' L' m∧(∀k,L'.X k→w.heap.size≤k)∧Pu w w':=by
 refine uw _ ?_
 obtain⟨T,hd⟩:=h.hd
 have hD:Pu w w.drew:=Pu.aW w
 have hd1:=hD.blk hd
 refine⟨fun _ k=>k=L.g,ai _ rfl ⟨by rw [block_add],_,_,_,hd1.at rfl,ai _ rfl ⟨by rw [block_add],_,_,_,hd1.at rfl,ai _ rfl ⟨by rw [block_add],_,hd1.at rfl,?_⟩⟩⟩⟩
 refine(Gx ((h.r7 true).pu hD) h.dz.1).mono ?_
 rintro e w1 ⟨_,rfl,a,pa,rfl,hA,Jp⟩
 have RA:L.g<w.drew.heap.size:=hd1.lt
 refine⟨_,_,_,rfl,Jp.fe (fun k hk=>by have:k=L.g:=(by simpa [bM]using hk);rw [this];exact RA),fun _ k=>k=L.g,fun _ k hk=>hk,?_⟩
 refine(Gx (((h.r7 false).pu hD).pu Jp) h.dz.2).mono ?_
 rintro e w2 ⟨_,rfl,b,pb,rfl,hB,JD⟩
 have h12:=JD.size
 have h01:=Jp.size
 have h0:=hD.size
 refine⟨_,_,_,rfl,JD.fe (fun k hk=>by have:k=L.g:=(by simpa [bM]using hk);rw [this];omega),fun _ k=>k=L.g,fun _ k hk=>hk,?_⟩
 intro g w3 hg NQ
 have hM:=made hg NQ
 refine⟨hM.kept.mono (fun k hk=>by have:k=L.g:=(by simpa [bM]using hk);rw [this];omega),fun _ k=>k=L.g,fun _ k hk=>hk,?_⟩
 have Vh:=(hA.pu JD).pu hM.pu
 have Vg:=hB.pu hM.pu
 have Q5:∀j,j<m.S→pa j<w1.heap.size:=fun j hj=>(hA.pgs j hj).lt
 have JZ:a<w1.heap.size:=by obtain⟨T,cs,hr,_⟩:=hA.row;exact hr.lt
 have Q4:∀j,j<m.I→pb j<w2.heap.size:=fun j hj=>(hB.pgs j hj).lt
 have hbg:b<w2.heap.size:=by obtain⟨T,cs,hr,_⟩:=hB.row;exact hr.lt
 have hgn:=hM.num
 refine⟨⟨g,a,b,fun s=>match s with | true=>pa | false=>pb,fun s=>m.cnt s⟩,rfl,⟨fun s=>rfl,⟨(148,T.2),hM.blk⟩,fun s=>?_,fun s i hi=>?_,fun s i s' i' hi JY e=>?_,⟨by show a≠g;omega,by show b≠g;omega,fun s i hi=>?_⟩,h.u32,h.dz⟩,?_,((hD.trans Jp).trans JD).trans hM.pu⟩
 ·cases s
  ·obtain⟨T,cs,hr,_,h2⟩:=Vg.row;exact⟨T,cs,hr,h2⟩
  ·obtain⟨T,cs,hr,_,h2⟩:=Vh.row;exact⟨T,cs,hr,h2⟩
 ·cases s
  ·exact Vg.pgs i hi
  ·exact Vh.pgs i hi
 ·cases s<;>cases s'<;>simp only [Mem.cnt]at hi JY<;>simp only at e
  ·exact⟨rfl,hB.inj _ _ hi JY e⟩
  ·have:=hB.low.2 i hi;have:=Q5 i' JY;omega
  ·have:=hB.low.2 i' JY;have:=Q5 i hi;omega
  ·exact⟨rfl,hA.inj _ _ hi JY e⟩
 ·cases s<;>simp only [Mem.cnt]at hi<;>simp only
  ·have:=hB.low.2 i hi;have:=Q4 i hi;have:=hB.dis i hi
   refine⟨?_,?_,this⟩<;>omega
  ·have:=hA.low.2 i hi;have:=Q5 i hi;have h3:=hA.dis i hi;have:=hB.low.1
   refine⟨?_,h3,?_⟩<;>omega
 ·rintro k (rfl | rfl | rfl | ⟨s,i,hi,rfl⟩)
  ·omega
  ·have:=hA.low.1;omega
  ·have:=hB.low.1;omega
  ·cases s<;>simp only [Mem.cnt]at hi<;>simp only
   ·have:=hB.low.2 i hi;omega
   ·have:=hA.low.2 i hi;omega
def kA(n n':Nat)(f g:Nat→Nat→Int):Bool:=decide (n=n') && (List.range n).all fun i=>(List.range 1024).all fun o=>f i o==g i o
theorem jJ {n n':Nat} {f g:Nat→Nat→Int}:kA n n' f g=true↔n=n'∧∀i,i<n→∀o,o<1024→f i o=g i o:=by simp [kA]
theorem wj {n n':Nat} {f g:Nat→Nat→Int}(h:¬(n=n'∧∀i,i<n→∀o,o<1024→f i o=g i o)):kA n n' f g=false:=by
 rw [← Bool.not_eq_true,jJ];exact h
theorem Dh {w:World} {a b n n':Nat} {pa pb:Nat→Nat} {f g:Nat→Nat→Int}(h1:qP w a n pa f)(h2:qP w b n' pb g)(hn:n≤64):
 Calls prog 124 #[.slice (some (Addr.mk a 0 none)) n n,.slice (some (Addr.mk b 0 none)) n' n'] w fun e w'=>∃v,e= .returned v∧v= .bool (kA n n' f g)∧Pu w w':=by
 refine ux _ _ _ _ _ _ ?_
 refine aK (fun c=>?_) (fun c=>?_)
 ·exact⟨by rw [wj (by rintro⟨e,_⟩;exact c (by rw [e]))],Ch.refl _ _⟩
 obtain rfl:n=n':=by omega
 refine⟨fun k x w'=>∃i:Nat,x=(i:Int)∧i≤n∧k=n - i∧(∀j,j<i→∀o,o<1024→f j o=g j o)∧Pu w w',⟨n,0,rfl,by omega,by omega,by simp,Ch.refl _ _⟩,?_⟩
 rintro k _ x w2 ⟨i,rfl,hi,rfl,JW,Mg⟩
 refine ae (fun hb=>?_) (fun hb=>?_)
 ·have JY:i<n:=by simpa using hb
  have hq:=Mg.drew
  have g1:=h1.pu hq
  have g2:=h2.pu hq
  obtain⟨T0,Qk,OH,RC⟩:=g1.row
  obtain⟨T1,Vk,U6,KH,VB⟩:=g1.pgs i JY
  obtain⟨T2,RI,LW,O1⟩:=g2.row
  obtain⟨T3,cs3,hb3,P2,Lv⟩:=g2.pgs i JY
  refine⟨⟨by omega,by omega⟩,ai _ rfl ⟨some (Addr.mk (pa i) 0 none),by rw [Nat.mul_one,Int.toNat_natCast];exact OH.at (RC i JY),ai _ rfl ⟨Vk,⟨KH,fun j u hj=>U6.at hj⟩,⟨by omega,by omega⟩,ai _ rfl ⟨some (Addr.mk (pb i) 0 none),by rw [Nat.mul_one,Int.toNat_natCast];exact LW.at (O1 i JY),ai _ rfl ⟨cs3,⟨P2,fun j u hj=>hb3.at hj⟩,?_⟩⟩⟩⟩⟩
  rw [kh KH VB,kh P2 Lv]
  have hf:∀l:List Int,l.length=1024→cz (pV [.int .u32] 1024) (bu l).toList=true:=fun l hl=>by rw [← hl];simpa [bu]using vC l
  refine⟨hf _ (by simp),hf _ (by simp),?_⟩
  have he:cf (bu ((List.range 1024).map (f i))) (bu ((List.range 1024).map (g i)))=true↔∀o,o<1024→f i o=g i o:=by
   unfold cf bu
   rw [show((List.range 1024).map (f i)).map (Value.int .u32)=(((List.range 1024).map (f i)).map (Value.int .u32))from rfl,List.toList_toArray,List.toList_toArray,vJ _ _ (by simp),decide_eq_true_eq]
   constructor
   ·intro e o ho
    have:=congrArg (fun l=>l[o]?) e
    simpa [List.getElem?_map,List.getElem?_range ho]using this
   ·exact fun e=>List.map_congr_left fun o ho=>e o (by simpa using ho)
  refine cQ (fun c=>?_) (fun c=>?_)
  ·have c:¬∀o,o<1024→f i o=g i o:=fun e=>by rw [he.2 e]at c;cases c
   exact⟨by rw [wj (by rintro⟨_,e⟩;exact c (e i JY))],hq⟩
  ·exact⟨n - (i+1),by omega,i+1,by rw [ax (by omega)];omega,JY,rfl,fun j hj=>by
    by_cases e:j=i
    ·rw [e];exact he.1 c
    ·exact JW j (by omega),hq⟩
 ·have:i=n:=by simp at hb;omega
  subst this
  exact⟨by rw [jJ.2 ⟨rfl,JW⟩],Mg⟩
def Mem.same(m o:Mem):Bool:=kA m.S o.S (m.pg true) (o.pg true) && kA m.I o.I (m.pg false) (o.pg false)
theorem H4 {w:World} {L L':dR} {m o:Mem}(h:bY w L m)(h2:bY w L' o):
 Calls prog 59 #[ptr L.g,ptr L'.g] w fun e w'=>∃v,e= .returned v∧v= .bool (m.same o)∧Pu w w':=by
 refine wQ _ _ ?_
 refine⟨fun x w'=>x=m.same o∧Pu w w',?_,fun _ x w' ⟨hx,q⟩=>⟨by rw [hx],q⟩⟩
 obtain⟨T,hd⟩:=h.hd
 obtain⟨T',hd'⟩:=h2.hd
 have hD:Pu w w.drew:=Pu.aW w
 have d1:=hD.blk hd
 have d2:=hD.blk hd'
 refine⟨fun _ k=>k=L.g∨k=L'.g,ai _ rfl ⟨by rw [block_add];exact .inl rfl,_,_,_,d1.at rfl,ai _ rfl ⟨by rw [block_add];exact .inr rfl,_,_,_,d2.at rfl,?_⟩⟩⟩
 refine(Dh ((h.r7 true).pu hD) ((h2.r7 true).pu hD) h.dz.1).mono ?_
 rintro e w1 ⟨_,rfl,rfl,Jp⟩
 have JM:∀k,k=L.g∨k=L'.g→k<w.drew.heap.size:=by rintro k (rfl | rfl);exact d1.lt;exact d2.lt
 refine⟨_,rfl,Jp.fe (fun k hk=>JM k (by simpa [bM]using hk)),fun _ k=>k=L.g∨k=L'.g,fun _ k hk=>hk,?_⟩
 refine ae (fun c=>?_) (fun c=>?_)
 ·have e1:=Jp.blk d1
  have e2:=Jp.blk d2
  have h01:=Jp.size
  refine ai _ rfl ⟨by rw [block_add];exact .inl rfl,_,_,_,e1.at rfl,ai _ rfl ⟨by rw [block_add];exact .inr rfl,_,_,_,e2.at rfl,?_⟩⟩
  refine(Dh (((h.r7 false).pu hD).pu Jp) (((h2.r7 false).pu hD).pu Jp) h.dz.2).mono ?_
  rintro e w2 ⟨_,rfl,rfl,JD⟩
  refine⟨_,rfl,JD.fe (fun k hk=>by have:=JM k (by simpa [bM]using hk);omega),fun _ k=>k=L.g∨k=L'.g,fun _ k hk=>hk,?_,(hD.trans Jp).trans JD⟩
  have c':kA m.S o.S (m.pg true) (o.pg true)=true:=c
  rw [Mem.same,c',Bool.true_and];rfl
 ·have c':kA m.S o.S (m.pg true) (o.pg true)=false:=c
  exact⟨by rw [Mem.same,c',Bool.false_and],hD.trans Jp⟩
section
namespace Mem
def rd(m:Mem)(s:Bool)(p o:Int):Mem:=if m.has s p && dM o then m.tick 1 else m
def ku(m:Mem)(s:Bool)(p:Int)(s':Bool)(p':Int):Int:=if m.has s p && m.has s' p' then 0 else 5
def copy(m:Mem)(s:Bool)(p:Int)(s':Bool)(p':Int):Mem:=if m.has s p && m.has s' p' then(m.tick 2048).fill s p.toNat (m.pg s' p'.toNat)else m
def words(m:Mem)(s:Bool)(p:Nat):List U32:=(List.range 1024).map fun o=>U32.mk (m.pg s p o)
end Mem
section
variable {w:World} {L:dR} {m:Mem}
theorem Gv(h:bY w L m)(s:Bool)(p o:Int):
 Calls prog 92 #[ptr L.g,fr s p,.int .i64 o] w fun e w'=>∃v,e= .returned v∧v= .tuple #[.int .u32 (m.bw s p o),.int .i64 (m.err s p o)]∧bY w' L (m.rd s p o)∧Ch L.X w w':=by
 refine wS _ s p o ?_
 intro g1 w1 hg hw
 have hM:=made hg hw
 refine⟨_,_,⟨hM.blk.at rfl,hM.blk.at rfl⟩,(Gu (h.pu hM.pu) s p o).mono ?_⟩
 rintro e w2 ⟨_,rfl,⟨hh,rfl,h2,hc⟩ | ⟨hh,rfl,he,hp⟩⟩
 ·refine⟨_,_,rfl,ae (fun hb=>by simp at hb) (fun _=>?_)⟩
  have O1:Ch L.X w w2:=((Ch.refl _ w).made hM).trans hc
  have WN:=hh
  simp only [Bool.and_eq_true]at hh
  have hi:=Mem.dA hh.1
  have ho:=Mem.gQ hh.2
  obtain⟨T,cs,hr,JR,Kq⟩:=h2.pgs s p.toNat (by simpa using hi)
  refine ai _ rfl ⟨_,hr.cell (Kq _ (by omega)),?_,?_,O1⟩
  ·simp [Mem.bw,Mem.err,hh.1,hh.2,Mem.tick]
  ·simpa [Mem.rd,WN]using h2
 ·refine⟨_,_,rfl,ae (fun _=>⟨?_,?_,(hM.pu.trans hp).mono (by simp)⟩) (fun hb=>absurd (by simpa using hb) he)⟩
  ·simp [Mem.bw,hh]
  ·simpa [Mem.rd,hh]using (h.pu hM.pu).pu hp
theorem H7(h:bY w L m)(s:Bool)(p:Int)(s':Bool)(p':Int):
 Calls prog 66 #[ptr L.g,fr s p,fr s' p'] w fun e w'=>∃v,e= .returned v∧v= .int .i64 (m.ku s p s' p')∧bY w' L (m.copy s p s' p')∧Ch L.X w w':=by
 refine xc _ s p s' p' ?_
 intro g1 w1 hg hw g2 w2 hg2 Wk
 have hM:=made hg hw
 have OP:=made hg2 Wk
 have hD:Pu w w2.drew:=(hM.pu.trans OP.pu).drew
 have l1:g1<w2.drew.heap.size:=by have:=hM.lt;have:=OP.pu.size;exact Nat.lt_of_lt_of_le ‹_› ‹_›
 have l2:g2<w2.drew.heap.size:=OP.lt
 refine⟨fun _ k=>k<w2.drew.heap.size,l1,_,_,⟨(OP.old hM.blk).drew.at rfl,(OP.old hM.blk).drew.at rfl⟩,l2,_,_,⟨OP.blk.drew.at rfl,OP.blk.drew.at rfl⟩,(mAt (h.pu hD) s p).mono ?_⟩
 rintro e w3 ⟨_,rfl,rfl,hp⟩
 refine⟨_,rfl,hp.fe (fun k hk=>by simpa [bM]using hk),fun _ k=>k<w2.drew.heap.size,fun _ _ h=>h,(mAt ((h.pu hD).pu hp) s' p').mono ?_⟩
 rintro e w4 ⟨_,rfl,rfl,UD⟩
 have Lr:=(hD.trans hp).trans UD
 refine⟨_,rfl,fun _ k=>k<w2.drew.heap.size,fun _ _ h=>h,fun b w'=>w4=w'∧b= !(m.has s p && m.has s' p'),?_,?_⟩
 ·refine ae (fun hb=>⟨rfl,?_⟩) (fun hb=>⟨rfl,?_⟩)
  ·cases hq:m.has s p<;>simp [hq]at hb ⊢
  ·cases hq:m.has s p
   ·simp [hq]at hb
   ·cases Vu:m.has s' p'<;>simp
 rintro _ x _ ⟨rfl,rfl⟩
 refine ae (fun hb=>?_) (fun hb=>?_)
 ·have LS:(m.has s p && m.has s' p')=false:=by simpa only [Bool.not_eq_true']using hb
  refine⟨by simp [Mem.ku,LS],by simpa [Mem.copy,LS]using h.pu Lr,Lr.mono (by simp)⟩
 ·have LS:(m.has s p && m.has s' p')=true:=by simpa only [Bool.not_eq_false']using hb
  have hh:=LS
  simp only [Bool.and_eq_true]at hh
  have hi:=Mem.dA hh.1
  have JY:=Mem.dA hh.2
  have h4:=h.pu Lr
  obtain⟨T,hd⟩:=h4.hd
  refine Hb hd rfl (ai _ rfl (bI hd (by simp) fun w5 hs=>?_))
  have h5:=h4.C9 hs
  obtain⟨T',cs,hr,JR,Kq⟩:=h5.pgs s' p'.toNat JY
  obtain⟨T2,RI,LW,QG,hcs2⟩:=h5.pgs s p.toNat hi
  rw [if_pos hh.1,if_pos hh.2]
  refine ai _ rfl ⟨cs,⟨JR,fun i u hu=>hr.at hu⟩,ai _ rfl ⟨JR,?_,fE LW (by simp [JR,QG]) fun w6 hs6=>⟨?_,?_,?_⟩⟩⟩
  ·rw [kh JR Kq];exact mr
  ·simp [Mem.ku,LS]
  ·have:=h5.ak (f:=m.pg s' p'.toNat) hi hs6 (by simpa using JR) (fun o ho=>by simpa using Kq o ho) (fun o=>h.u32 _ _ _)
   simp only [Mem.copy,LS,if_true];exact this
  ·exact((Lr.mono (by simp):Ch L.X w w4).stored hs (.inl (.inl rfl))).stored hs6 (.inl (h.inX hi))
theorem H6(h:bY w L m)(s:Bool)(p:Int):
 Calls prog 69 #[ptr L.g,fr s p] w fun e w'=>∃v,e= .returned v∧
  (m.has s p=true∧bY w' L (m.tick 1024)∧Ch L.X w w'∧(∃g,v= .tuple #[.slice (some (Addr.mk g 0 none)) 1024 1024,.int .i64 0]∧w.heap.size≤g∧g<w'.heap.size∧Own w' (fun k=>k=g) 29 (some (Addr.mk g 0 none)) 1024 1024 (m.words s p.toNat))∨
   m.has s p=false∧v= .tuple #[.slice none 0 0,.int .i64 5]∧Pu w w'):=by
 refine wW _ s p ?_
 intro g1 w1 hg hw
 have hM:=made hg hw
 refine⟨_,_,⟨hM.blk.at rfl,hM.blk.at rfl⟩,(Df (h.pu hM.pu) s p 1).mono ?_⟩
 rintro e w2 ⟨_,rfl,⟨hh,rfl,h2,hc⟩ | ⟨hh,rfl,hp⟩⟩
 ·refine⟨_,_,rfl,ae (fun hb=>by simp at hb) (fun _=>?_)⟩
  have O1:Ch L.X w w2:=((Ch.refl _ w).made hM).trans hc
  have hi:=Mem.dA hh
  refine iG pO (by omega) (by omega) (by omega) fun g w3 Ns=>?_
  have h3:=h2.pu Ns.pu
  obtain⟨T,cs,hr,JR,Kq⟩:=h3.pgs s p.toNat (by simpa using hi)
  have Ki:cs=bu ((List.range 1024).map ((m.tick 1024).pg s p.toNat)):=kh JR Kq
  subst Ki
  refine ai _ rfl ?_
  rintro A rfl N rfl C rfl
  have hg:(1024:Int).toNat=1024:=rfl
  rw [hg]at Ns ⊢
  have hbk:Blk w3 g (bu (List.replicate 1024 0)) 29:=by rw [fi];exact Ns.blk
  have hz:(List.replicate 1024 (0:Int)).length=1024:=List.length_replicate
  have hl:((List.range 1024).map ((m.tick 1024).pg s p.toNat)).length=1024:=by rw [List.length_map,List.length_range]
  have hw:(((List.range 1024).map ((m.tick 1024).pg s p.toNat)).map U32.mk)=m.words s p.toNat:=by rw [List.map_map];rfl
  generalize (List.range 1024).map ((m.tick 1024).pg s p.toNat)=l at *
  generalize List.replicate 1024 (0:Int)=z at *
  have MF:cP w3 (fun _=>True) .u32 (some (Addr.mk (L.pg s p.toNat) 0 none)) 1024 1024 ((l.drop 0).take 1024):=cP.row hr trivial (Nat.le_refl _) (by omega)
  have e1:(l.drop 0).take 1024=l:=by rw [List.drop_zero,List.take_of_length_le (by omega)]
  rw [e1]at MF
  have e2:(if 1024=0 then Addr.mk (L.pg s p.toNat) 0 none else(Addr.mk (L.pg s p.toNat) 0 none).add (0*1))=Addr.mk (L.pg s p.toNat) 0 none:=rfl
  rw [e2]
  refine nS pO hbk rfl MF (by omega) fun w4 hs=>?_
  have e3:iu z 0 (l.take (min (1024 - 0) 1024))=l:=by
   rw [show min (1024 - 0) 1024=1024 from rfl,List.take_of_length_le (by omega),mn _ _ (by rw [hl,hz])]
  rw [e3]at hs
  have hn:w2.heap.size≤g:=by rw [Ns.num];exact Nat.le_refl _
  have Lv:Ch L.X w w3:=O1.made Ns
  have Vz:w.heap.size≤g:=Nat.le_trans O1.size hn
  have hnx:∀k,L.X k→k≠g:=fun k hk=>by have:=h2.lt k hk;omega
  have h4:bY w4 L (m.tick 1024):=h3.kept (B:=fun k=>k≠g) hs.kept hnx
  have ho:=Own.ofRow (w:=w4) (e:=29) hs.blk hl (by decide)
  rw [hw]at ho
  refine Or.inl ?_
  exact⟨hh,h4,Lv.stored hs (.inr Vz),g,rfl,Vz,hs.blk.lt,ho⟩
 ·refine⟨_,_,rfl,ae (fun _=>?_) (fun hb=>by simp at hb)⟩
  exact Or.inr ⟨hh,rfl,hM.pu.trans hp⟩
end
end
@[simp] theorem Mem.lX(m:Mem)(s:Bool)(p:Int)(s':Bool)(p':Int):(m.copy s p s' p').S=m.S:=by unfold Mem.copy;split<;>rfl
namespace DB
def aX(d:DB)(n:Int):Int:=if d.has n then 0 else 1
def bj(d:DB)(n:Int):Int:=if(d.entry n).typ=0 then 0 else 2
def eE(d:DB)(n:Int):Int:=if n<(d.mem.I:Int)then 0 else 17
def aR(d:DB)(s:Int):Int:=if !d.has s then 1 else if(d.at_ s).typ≠1 then 3 else if(d.at_ s).state≠1 then 4 else 0
def fq(w:Int):Int:=if fW w=0 then 0 else 6
def eG(d:DB)(s va:Int):Int:=if d.bt s va=0 then 0 else if d.bt s va=140 then 7 else 21
def bW(d:DB)(s f:Int):Int:=if d.aX s≠0 then d.aX s else if d.aX f≠0 then d.aX f else if s=f then 16 else if d.bj s≠0 then d.bj s else if d.bj f≠0 then d.bj f else if d.aE≥64 then 24 else 0
def bx(d:DB)(s f:Int):DB:=if d.bW s f=0 then(d.aM s f).aQ (·.wrs s 11 Dg.new.save)else d
def bE(d:DB)(s p:Int):Int:=if d.aR s≠0 then d.aR s else if d.aX p≠0 then d.aX p else d.bj p
def bp(kk:List Int)(d:DB)(s p b:Int):DB:=if d.bE s p=0 then(d.take p 2 s).aQ (fun m=>(m.write true p 0 b).msd kk s 1 b [])else d
def cR(d:DB)(s p i:Int):Int:=if d.aR s≠0 then d.aR s else if d.aX p≠0 then d.aX p else if 256≤i then 16 else if d.bj p≠0 then d.bj p else if d.word (d.tbl s) i=0 then 0 else 7
def cX(kk:List Int)(d:DB)(s p i:Int):DB:=if d.cR s p i=0 then((d.take p 4 s).add s i p).aQ (·.msd kk s 2 i [])else d
def cT(d:DB)(s p w n:Int):Int:=if d.aR s≠0 then d.aR s else if d.aX p≠0 then d.aX p else if fq w≠0 then fq w else if d.eE n≠0 then d.eE n else if d.bj p≠0 then d.bj p else d.eG s (bD w)
def cj(d:DB)(s p w n:Int):DB:=((d.take p 5 s).aQ (·.copy true p false n)).put s (bD w) (Mp.mk true p (paW w) (paX w))
def eo(kk:List Int)(d:DB)(s p w n:Int):DB:=if d.cT s p w n=0 then(d.cj s p w n).aQ (fun m=>m.msd kk s 3 w (m.words true p.toNat))else d
def dj(d:DB)(s w n:Int):Int:=if d.aR s≠0 then d.aR s else if fq w≠0 then fq w else if paX w then 6 else if d.eE n≠0 then d.eE n else d.eG s (bD w)
def cY(kk:List Int)(d:DB)(s w n:Int):DB:=if d.dj s w n=0 then(d.put s (bD w) (Mp.mk false n (paW w) false)).aQ (·.msd kk s 4 w [])else d
end DB
theorem DB.cK {d:DB} {f:Mem→Mem}(h:(f d.mem).S=d.mem.S):(d.aQ f).pd=d.pd:=by
 show Pd.mk _ _ _=Pd.mk _ _ _
 rw [show(d.aQ f).S=d.S from h];rfl
theorem DB.iF(d:DB):d.pd.on d.mem=d:=rfl
theorem DB.dH {d:DB} {n:Int}(h:¬d.aX n≠0):d.has n=true:=by
 unfold DB.aX at h
 cases hh:d.has n
 ·rw [hh]at h;simp at h
 ·rfl
theorem DB.dK {d:DB} {n:Int}(hn:d.has n=true)(h:¬d.bj n≠0):(d.at_ n).typ=0:=by
 unfold DB.bj DB.entry at h
 rw [if_pos hn]at h
 by_cases h0:(d.at_ n).typ=0
 ·exact h0
 ·rw [if_neg h0]at h;simp at h
theorem DB.eJ {d:DB} {s q:Int}(h1:¬d.aX s≠0)(h2:¬d.aX q≠0)(h3:¬s=q)(h4:¬d.bj s≠0)(h5:¬d.bj q≠0):d.aO s q=if d.aE≥64 then 240 else 0:=by
 have a1:=DB.dH h1
 have a2:=DB.dH h2
 unfold DB.aO
 simp [a1,a2,h3,DB.dK a1 h4,DB.dK a2 h5]
theorem ja {w:Int}(h:0≤w∧w<4294967296):0≤bD w∧bD w<4294967296:=by
 unfold bD
 split<;>omega
theorem Mem.fT {m:Mem}(h:m.Wf)(s:Bool)(p:Nat):dm (m.words s p):=by
 intro x hx
 obtain⟨o,_,rfl⟩:=List.mem_map.1 hx
 exact h.1 _ _ _
theorem Mem.mL(m:Mem)(s:Bool)(p:Int)(s':Bool)(p':Int)(b:Bool)(q:Int):(m.copy s p s' p').has b q=m.has b q:=by
 unfold Mem.copy
 split
 ·cases b<;>rfl
 ·rfl
theorem DB.bH(d:DB)(p t s:Int):(d.take p t s).mem=d.mem:=by unfold DB.take;split<;>rfl
theorem DB.Fb(d:DB)(s va:Int)(M:Mp)(p:Int):(d.put s va M).mem.has true p=d.mem.has true p:=by
 unfold DB.put
 split
 ·exact DB.cI ..
 ·rfl
theorem DB.yJ(d:DB)(s p w n:Int):(d.cj s p w n).mem.has true p=d.has p:=by
 rw [DB.cj,DB.Fb]
 show((d.take p 5 s).mem.copy true p false n).has true p=_
 rw [Mem.mL,DB.bH];rfl
namespace Mem
theorem iZ {m:Mem} {s s':Bool} {p o v:Int} {q:Nat}(h:¬(s'=s∧q=p.toNat)):(m.write s p o v).pg s' q=m.pg s' q:=by
 unfold write
 split
 ·funext x;exact if_neg h
 ·rfl
theorem ts {m:Mem} {s s' b:Bool} {p p':Int} {q:Nat}(h:¬(b=s∧q=p.toNat)):(m.copy s p s' p').pg b q=m.pg b q:=by
 unfold copy
 split
 ·funext x;exact if_neg h
 ·rfl
theorem AR {m:Mem} {s s':Bool} {p p':Int}(h:m.has s p=true)(h':m.has s' p'=true):(m.copy s p s' p').pg s p.toNat=m.pg s' p'.toNat:=by
 unfold copy
 rw [if_pos (by simp [h,h'])]
 funext x;exact if_pos ⟨rfl,rfl⟩
theorem tN {m m':Mem} {s:Int}(hS:m'.S=m.S)(h:m.has true s=true→m'.pg true s.toNat=m.pg true s.toNat):m'.dgW s=m.dgW s:=by
 unfold dgW
 refine List.map_congr_left fun i _=>?_
 have hh:m'.has true s=m.has true s:=by unfold has cnt;rw [hS]
 unfold bw
 rw [hh]
 cases hs:m.has true s
 ·rfl
 ·rw [h hs]
theorem tA {m:Mem} {s p:Int}(hs:m.has true s=true)(hp:0≤p)(h:p≠s):¬(true=true∧s.toNat=p.toNat):=by
 have:=ay hs
 omega
theorem eY {m:Mem} {s p o v:Int}(h:p≠s):(m.write true p o v).dgW s=m.dgW s:=by
 refine tN (bB ..) fun hs=>?_
 by_cases hp:0≤p
 ·exact iZ (tA hs hp h)
 ·unfold write
  rw [if_neg]
  simp [has];omega
theorem vN {m:Mem} {s p q:Int} {b:Bool}(h:p≠s):(m.copy true p b q).dgW s=m.dgW s:=by
 refine tN (lX ..) fun hs=>?_
 by_cases hp:0≤p
 ·exact ts (tA hs hp h)
 ·unfold copy
  rw [if_neg]
  simp [has];omega
end Mem
namespace DB
theorem fu {d:DB} {s:Int}(h:¬d.aR s≠0):d.has s=true∧(d.at_ s).typ=1∧(d.at_ s).state=1:=by
 unfold aR at h
 cases hs:d.has s
 ·rw [hs]at h;simp at h
 ·by_cases h1:(d.at_ s).typ=1
  ·by_cases h2:(d.at_ s).state=1
   ·exact⟨rfl,h1,h2⟩
   ·simp [hs,h1,h2]at h
  ·simp [hs,h1]at h
theorem g7 {d:DB} {p t o:Int}(h:d.of p t o=true):d.has p=true∧(d.at_ p).typ=t∧(d.at_ p).owner=o:=by
 simpa [of,is,and_assoc]using h
theorem Ai {d:DB} {s i q:Int}(h:d.hH s i q=0):d.cp s=0∧d.of (d.tbl s) 3 s=true:=by
 have h1:d.cp s=0:=by
  by_cases h1:d.cp s=0
  ·exact h1
  ·unfold hH at h;rw [if_pos h1]at h;exact h
 refine⟨h1,?_⟩
 unfold tbl
 rw [if_pos h1]
 unfold cp at h1
 split at h1
 ·omega
 ·split at h1
  ·omega
  ·split at h1
   ·omega
   ·split at h1
    ·assumption
    ·omega
theorem CQ {d:DB} {s va:Int} {M:Mp}(h:d.dW s va M=0):d.of (d.plP s va) 4 s=true∧M.err=0∧d.bt s va=0∧d.dX s va=0:=by
 have h1:d.bt s va=0:=by
  by_cases h1:d.bt s va=0
  ·exact h1
  ·unfold dW at h;rw [if_pos h1]at h;exact absurd h h1
 have h2:d.dX s va=0:=by
  by_cases h2:d.dX s va=0
  ·exact h2
  ·unfold bt at h1;rw [if_pos h2]at h1;exact h1
 refine⟨?_,by unfold dW at h;rw [if_neg (by omega)]at h;exact h,h1,h2⟩
 unfold dX at h2
 split at h2
 ·omega
 ·split at h2
  ·omega
  ·split at h2
   ·rename_i h3
    simp only [iD,Bool.and_eq_true]at h3
    exact h3.2
   ·omega
theorem z9 {d:DB} {s i q x:Int}(h:(d.at_ x).typ≠3):(d.add s i q).mem.dgW x=d.mem.dgW x:=by
 unfold add
 split
 ·rename_i he
  exact Mem.eY fun e=>h (e▸(g7 (Ai he).2).2.1)
 ·rfl
theorem oX {d:DB} {s va x:Int} {M:Mp}(h:(d.at_ x).typ≠4):(d.put s va M).mem.dgW x=d.mem.dgW x:=by
 unfold put
 split
 ·rename_i he
  exact Mem.eY fun e=>h (e▸(g7 (CQ he).1).2.1)
 ·rfl
theorem mh {d:DB} {p t s q:Int}(hq:0≤q)(hs:d.has s=true)(h:q≠p):((d.take p t s).at_ q).typ=(d.at_ q).typ:=by
 unfold take
 split
 ·rename_i he
  have hp:d.has p=true:=by
   cases hp:d.has p
   ·unfold aZ at he;simp [hp]at he
   ·rfl
  have h1:=ay hp
  have h2:=ay hs
  unfold bT more
  rw [bR h2.1 hq,bR h1.1 h2.1,bR h1.1 hq,if_neg h]
  split
  ·rename_i e
   subst e
   rw [if_neg h]
  ·rfl
 ·rfl
theorem AE {d:DB} {p t s:Int}(hp:0≤p)(hs:d.has s=true)(h:s≠p)(ht:(d.at_ p).typ=0):((d.take p t s).at_ p).typ=0∨((d.take p t s).at_ p).typ=t:=by
 unfold take
 split
 ·right
  have h2:=ay hs
  unfold bT more
  rw [bR h2.1 hp,if_neg (Ne.symm h),bR hp hp,if_pos rfl]
 ·exact .inl ht
theorem yx {d:DB} {s p o v:Int}(h:¬d.aR s≠0)(hp:¬d.aX p≠0)(hu:¬d.bj p≠0):((d.take p 2 s).mem.write true p o v).dgW s=d.mem.dgW s:=by
 have h1:=fu h
 have h2:=dK (dH hp) hu
 rw [bH,Mem.eY]
 rintro rfl;omega
theorem A9 {d:DB} {s p i q:Int}(h:¬d.aR s≠0)(hp:¬d.aX p≠0)(hu:¬d.bj p≠0):((d.take p 4 s).add s i q).mem.dgW s=d.mem.dgW s:=by
 have h1:=fu h
 have h2:=dK (dH hp) hu
 rw [z9,bH]
 rw [mh (ay h1.1).1 h1.1 (by rintro rfl;omega)];omega
theorem Dp {d:DB} {s p w n:Int}(h:¬d.aR s≠0)(hp:¬d.aX p≠0)(hu:¬d.bj p≠0):(d.cj s p w n).mem.dgW s=d.mem.dgW s:=by
 have h1:=fu h
 have h2:=dK (dH hp) hu
 have h3:s≠p:=by rintro rfl;omega
 rw [cj,oX]
 ·show((d.take p 5 s).mem.copy true p false n).dgW s=_
  rw [Mem.vN h3.symm,bH]
 ·show((d.take p 5 s).at_ s).typ≠4
  rw [mh (ay h1.1).1 h1.1 h3];omega
theorem Ba {d:DB} {s va:Int} {M:Mp}(h:¬d.aR s≠0):(d.put s va M).mem.dgW s=d.mem.dgW s:=by
 have h1:=fu h
 rw [oX];omega
theorem yA {d:DB} {n:Int}(h0:0≤n)(h:¬d.eE n≠0):d.mem.has false n=true:=by
 unfold eE at h
 split at h
 ·exact decide_eq_true (show 0≤n∧n<(d.mem.I:Int)from⟨h0,by assumption⟩)
 ·simp at h
theorem CL {d:DB} {s va:Int} {M:Mp} {b:Bool} {q:Int}(hq:0≤q)(h:b=true→(d.at_ q).typ≠4):(d.put s va M).mem.pg b q.toNat=d.mem.pg b q.toNat:=by
 unfold put
 split
 ·rename_i he
  have h1:=g7 (CQ he).1
  refine Mem.iZ ?_
  rintro⟨rfl,e⟩
  have h2:=ay h1.1
  have:q=d.plP s va:=by omega
  exact h rfl (this▸h1.2.1)
 ·rfl
theorem vX(d:DB)(s p w n q:Int)(b:Bool):(d.cj s p w n).mem.has b q=d.mem.has b q:=by
 unfold cj put
 split
 ·show(Mem.write ((d.take p 5 s).mem.copy true p false n) _ _ _ _).has b q=_
  rw [DB.cI,Mem.mL,bH]
 ·show((d.take p 5 s).mem.copy true p false n).has b q=_
  rw [Mem.mL,bH]
theorem tT {d:DB} {s p w n:Int}(h:¬d.aR s≠0)(hp:¬d.aX p≠0)(hu:¬d.bj p≠0)(hn:0≤n)(hi:¬d.eE n≠0):(d.cj s p w n).mem.words false n.toNat=(d.cj s p w n).mem.words true p.toNat:=by
 have h1:=fu h
 have Jp:=dH hp
 have h2:=dK Jp hu
 have h3:s≠p:=by rintro rfl;omega
 have e1:(d.cj s p w n).mem.pg false n.toNat=d.mem.pg false n.toNat:=by
  rw [cj,CL hn (fun h=>by cases h)]
  show((d.take p 5 s).mem.copy true p false n).pg false n.toNat=_
  rw [Mem.ts (by rintro⟨h,_⟩;cases h),bH]
 have e2:(d.cj s p w n).mem.pg true p.toNat=d.mem.pg false n.toNat:=by
  rw [cj,CL (ay Jp).1 (fun _=>?_)]
  ·show((d.take p 5 s).mem.copy true p false n).pg true p.toNat=_
   rw [Mem.AR (by rw [bH];exact Jp) (by rw [bH];exact yA hn hi),bH]
  ·show((d.take p 5 s).at_ p).typ≠4
   rcases AE (t:=5) (ay Jp).1 h1.1 h3 h2 with h | h<;>omega
 unfold Mem.words
 rw [e1,e2]
end DB
section
abbrev svO(r rm:Nat→Nat)(E:Pd)(m:Mem)(rest:List (Res Un)):List (Res Un):= .ob 1 r E:: .ob 0 rm m::rest
section
variable {r r1 rm:Nat→Nat} {s:Sv} {E:Pd} {m:Mem} {rest:List (Res Un)} {X:Nat→Nat→Prop} {w:World}
theorem kX(hs:Sat (U:=Un) (.ob 9 r s::rest) X w):∃(r1 rm:Nat→Nat)(X1:Nat→Nat→Prop),Sat (svO r1 rm s.D.pd s.D.mem rest) X1 w∧av (svO r1 rm s.D.pd s.D.mem rest) fr0 [(.l 0 1,.p (.obj 1 0 0))]∧(s.pD=r1 0∧s.pM=rm 0∧r1 1=rm 0)∧(∀i,i<2→∀k,X1 i k→X 0 k)∧∀i,X1 (i+2)=X (i+1):=by
 obtain⟨a,L,h1,h2,h3⟩:=(hs.res 0 _ rfl:cw 9 r s (X 0) w)
 have QK:=h2.pd
 rw [show(fg.M ⟨s.pD,a,L⟩).g=s.pM from h1]at QK
 have sub:∀i,i<2→∀k,(fun i=>match i with | 0=>(fun k=>k=s.pD∨k=a) | 1=>L.X | i+2=>X (i+1):Nat→Nat→Prop) i k→X 0 k:=fun i hi k hk=>by
  match i,hi with
  | 0,_=>exact(h3 k).1 (hk.elim .inl fun h=>.inr (.inl h))
  | 1,_=>exact(h3 k).1 (.inr (.inr hk))
 refine⟨fun i=>if i=0 then s.pD else s.pM,fun _=>s.pM,fun i=>match i with | 0=>(fun k=>k=s.pD∨k=a) | 1=>L.X | i+2=>X (i+1),⟨fun i x hx=>?_,fun i j hi hj Kh k hk Kf=>?_⟩,qk ⟨_,_,_,rfl,rfl⟩,⟨rfl,rfl,rfl⟩,sub,fun i=>rfl⟩
 ·match i with
  | 0=>
   simp only [svO,nth,Option.some.injEq]at hx;subst hx
   exact(⟨a,fun k=>Iff.rfl,QK⟩:cw 1 (fun i=>if i=0 then s.pD else s.pM) s.D.pd (fun k=>k=s.pD∨k=a) w)
  | 1=>
   simp only [svO,nth,Option.some.injEq]at hx;subst hx
   exact(⟨L,h1.symm,fun k=>Iff.rfl,h2.mem⟩:cw 0 (fun _=>s.pM) s.D.mem L.X w)
  | i+2=>exact hs.res (i+1) x hx
 ·have e:∀i,i+2<(svO (fun i=>if i=0 then s.pD else s.pM) (fun _=>s.pM) s.D.pd s.D.mem rest).length→i+1<(Res.ob (U:=Un) 9 r s::rest).length:=fun i h=>by simp at h ⊢;omega
  have d01:∀k,(k=s.pD∨k=a)→¬L.X k:=fun k hk hL=>by
   rcases hk with rfl | rfl
   ·exact h2.dis.2.1 hL
   ·exact h2.dis.2.2 hL
  match i,j,hi,hj,Kh with
  | 0,1,_,_,_=>exact d01 k hk Kf
  | 1,0,_,_,_=>exact d01 k Kf hk
  | 0,j+2,_,hj,_=>exact hs.dis 0 (j+1) (by simp) (e j hj) (by omega) k (sub 0 (by omega) k hk) Kf
  | 1,j+2,_,hj,_=>exact hs.dis 0 (j+1) (by simp) (e j hj) (by omega) k (sub 1 (by omega) k hk) Kf
  | i+2,0,hi,_,_=>exact hs.dis 0 (i+1) (by simp) (e i hi) (by omega) k (sub 0 (by omega) k Kf) hk
  | i+2,1,hi,_,_=>exact hs.dis 0 (i+1) (by simp) (e i hi) (by omega) k (sub 1 (by omega) k Kf) hk
  | i+2,j+2,hi,hj,h=>exact hs.dis (i+1) (j+1) (e i hi) (e j hj) (by omega) k hk Kf
  | 0,0,_,_,h=>exact absurd rfl h
  | 1,1,_,_,h=>exact absurd rfl h
theorem Cv(h0:RS (U:=Un) (X 0) w (.ob 1 r1 E))(h1:RS (U:=Un) (X 1) w (.ob 0 rm m))(hd:∀k,X 0 k→¬X 1 k)(l:r1 1=rm 0)(hn:E.n=m.S):cw 9 r ⟨E.on m,r1 0,rm 0⟩ (fun k=>X 0 k∨X 1 k) w:=by
 obtain⟨a,LX,hp⟩:=(h0:cw 1 r1 E (X 0) w)
 obtain⟨L,hg,Mi,hm⟩:=(h1:cw 0 rm m (X 1) w)
 rw [l,hg]at hp
 refine⟨a,L,hg.symm,hp.db hm hn ⟨fun hx=>hd _ ((LX _).1 (.inl rfl)) ((Mi _).1 hx),fun hx=>hd _ ((LX _).1 (.inr rfl)) ((Mi _).1 hx)⟩,fun k=>⟨fun hk=>?_,fun hk=>?_⟩⟩
 ·rcases hk with hk | hk | hk
  ·exact .inl ((LX k).1 (.inl hk))
  ·exact .inl ((LX k).1 (.inr hk))
  ·exact .inr ((Mi k).1 hk)
 ·rcases hk with hk | hk
  ·exact((LX k).2 hk).elim .inl fun h=>.inr (.inl h)
  ·exact .inr (.inr ((Mi k).2 hk))
end
section
variable {P:Program} {f:Nat} {args:Array Value} {r:Nat→Nat} {s:Sv} {rest:List (Res Un)} {X:Nat→Nat→Prop} {w:World} {Q:Ou Un→Prop} {v:Value} {k k1:Option Kn}
theorem qv {X:Nat→Nat→Prop} {w w':World}(h:Ch (fun k=>∃j,j∈([]:List Nat)∧X j k) w w'):Pu w w':=h.mono fun k hk=>by obtain⟨j,hj,_⟩:=hk;cases hj
theorem svD(KT:iH k1 v= .returned v)(D':DB)(M:List Nat)(us:List (Upd Un))(hM:∀j,j∈M→j<2)(hs:Sat (U:=Un) (.ob 9 r s::rest) X w)(hn:D'.pd.n=D'.mem.S)(JS:∀r1 rm,bF (svO r1 rm s.D.pd s.D.mem rest) M us=some (svO r1 rm D'.pd D'.mem rest))
 (hc:∀(r1 rm:Nat→Nat)(X1:Nat→Nat→Prop),Sat (svO r1 rm s.D.pd s.D.mem rest) X1 w→av (svO r1 rm s.D.pd s.D.mem rest) fr0 [(.l 0 1,.p (.obj 1 0 0))]→s.pD=r1 0∧s.pM=rm 0→Calls P f args w (aT (svO r1 rm s.D.pd s.D.mem rest) M X1 w (fun o=>o=⟨v,k1,us,[],[]⟩)))
 (hQ:Q ⟨v,k,[.ob 9 ⟨D',s.pD,s.pM⟩],[],[]⟩)(hk:KnO (U:=Un) (.ob 9 r ⟨D',s.pD,s.pM⟩::rest) v k):Calls P f args w (aT (U:=Un) (.ob 9 r s::rest) [0] X w Q):=by
 obtain⟨r1,rm,X1,KH,Lu,⟨e1,e2,e3⟩,OC,_⟩:=kX hs
 refine(hc r1 rm X1 KH Lu ⟨e1,e2⟩).mono ?_
 rintro e w' ⟨out,rs',X',rfl,rfl,ha,hp⟩
 rw [JS]at ha
 injection ha with ha
 subst ha
 have hsat:Sat (svO r1 rm D'.pd D'.mem rest) X' w':=by have:=hp.sat;rwa [List.append_nil]at this
 have hz:∀i,i<2→∀k,X' i k→X 0 k∨w.heap.size≤k:=fun i hi k hk=>by
  by_cases hm:i∈M
  ·exact(hp.grow i hm k hk).imp (OC i hi k) id
  ·have:=hp.same i (show i<rest.length+1+1 by omega) hm
   exact .inl (OC i hi k (this▸hk))
 have hu:=Cv (r:=r) (hsat.res 0 _ rfl) (hsat.res 1 _ rfl) (hsat.dis 0 1 (by simp) (by simp) (by omega)) e3 hn
 rw [← e1,← e2]at hu
 rw [KT]
 exact aT.first (Z:=fun k=>X' 0 k∨X' 1 k) hs (hp.ch.mono fun k ⟨j,hj,h⟩=>OC j (hM j hj) k h) hu (fun k hk=>hk.elim (hz 0 (by omega) k) (hz 1 (by omega) k)) hQ hk
theorem svL {t:Nat} {T:TypeId} {l:List (Un.el t)}(hs:Sat (U:=Un) [.ob 9 r s] X w)(hc:∀(r1 rm:Nat→Nat)(X1:Nat→Nat→Prop),Sat (svO r1 rm s.D.pd s.D.mem []) X1 w→av (svO r1 rm s.D.pd s.D.mem []) fr0 [(.l 0 1,.p (.obj 1 0 0))]→s.pD=r1 0∧s.pM=rm 0→Calls P f args w (aT (svO r1 rm s.D.pd s.D.mem []) [] X1 w (fun o=>∃A c,o=⟨.slice A l.length c,some (.p (.sl 2 0)),[],[.lst t true T A c l],[]⟩)))
 (hQ:∀A c,Q ⟨.slice A l.length c,some (.p (.sl 1 0)),[],[.lst t true T A c l],[]⟩):Calls P f args w (aT (U:=Un) [.ob 9 r s] [] X w Q):=by
 obtain⟨r1,rm,X1,KH,Lu,e,_,_⟩:=kX hs
 refine(hc r1 rm X1 KH Lu ⟨e.1,e.2.1⟩).mono ?_
 rintro e w' ⟨out,rs',X',rfl,⟨A,c,rfl⟩,JS,hp⟩
 have Va:svO r1 rm s.D.pd s.D.mem []=rs':=by simpa [bF]using JS
 subst Va
 exact aT.more hs (qv hp.ch) (hp.sat.res 2 _ rfl) (hp.new 2 (by simp) (by simp)) (hQ A c) rfl
theorem svN {rN rM:Nat→Nat} {E:Pd} {m:Mem} {kc:List (Key×Kn)}(KT:iH k1 v= .returned v)(hs:Sat (U:=Un) [.ob 9 r s] X w)(hn:E.n=m.S) {e:Ending} {w':World} {r1 rm:Nat→Nat} {X1 X':Nat→Nat→Prop}(hp:xd (svO r1 rm s.D.pd s.D.mem []) [] X1 w ⟨v,k1,[],[.ob 1 rN E,.ob 0 rM m],kc⟩ w' (svO r1 rm s.D.pd s.D.mem []) X')(hl:rN 1=rM 0)(he:e=iH k1 v)
 (hQ:Q ⟨v,k,[.ob 9 ⟨E.on m,rN 0,rM 0⟩],[],[]⟩)(hk:KnO (U:=Un) [.ob 9 r ⟨E.on m,rN 0,rM 0⟩] v k):aT (U:=Un) [.ob 9 r s] [0] X w Q e w':=by
 have hu:=Cv (r:=r) (X:=fun i=>X' (i+2)) (hp.sat.res 2 _ rfl) (hp.sat.res 3 _ rfl) (hp.sat.dis 2 3 (show 2<4 by decide) (show 3<4 by decide) (by omega)) hl hn
 rw [he,KT]
 exact aT.first (Z:=fun k=>X' 2 k∨X' 3 k) hs ((qv hp.ch).mono fun k hk=>hk.elim) hu (fun k hk=>.inr (hk.elim (hp.new 2 (by simp) (by simp) k) (hp.new 3 (by simp) (by simp) k))) hQ hk
end
end
def LOp.Ok(o:LOp):Prop:=(0≤o.a∧o.a<4294967296)∧(0≤o.b∧o.b<4294967296)∧(0≤o.c∧o.c<4294967296)∧(0≤o.d∧o.d<4294967296)
def okM(s i:Int):Bool:=decide ((1≤s∧s≤64)∧(1≤i∧i≤64))
theorem zU {s i:Int}(h:okM s i=true):(1≤s∧s≤64)∧(1≤i∧i≤64):=of_decide_eq_true h
theorem zV {s i:Int}(h:okM s i=false):s<1∨s>64∨i<1∨i>64:=by
 have:=of_decide_eq_false h;omega
theorem Fk {s i:Int} {w:World}(h:okM s i=false):Calls prog 27 #[.int .i64 s,.int .i64 i] w fun e w'=>e= .returned (.tuple #[.pointer none,.int .i64 1])∧w'=w:=by
 have h:=zV h
 refine(qU (R:=fun v w'=>v= .tuple #[.pointer none,.int .i64 1]∧w'=w) s i ⟨fun b w'=>w=w'∧b=true,?_,?_⟩).mono ?_
 ·refine ae (fun hb=>⟨rfl,rfl⟩) (fun h1=>ae (fun hb=>⟨rfl,rfl⟩) (fun h2=>ae (fun hb=>⟨rfl,rfl⟩) (fun h3=>⟨rfl,?_⟩)))
  simp at h1 h2 h3 ⊢;omega
 ·rintro _ x _ ⟨rfl,rfl⟩
  exact dL ⟨rfl,rfl⟩
 ·rintro e w' ⟨v,rfl,rfl,rfl⟩;exact⟨rfl,rfl⟩
namespace DB
def bh(d:DB)(o:LOp):Int:=if o.k=1 then d.bW o.a o.b else if o.k=2 then d.bE o.a o.b else if o.k=3 then d.cR o.a o.b o.c else if o.k=4 then d.cT o.a o.b o.c o.d else d.dj o.a o.b o.c
def call(kk:List Int)(d:DB)(o:LOp):DB:=if o.k=1 then d.bx o.a o.b else if o.k=2 then d.bp kk o.a o.b o.c else if o.k=3 then d.cX kk o.a o.b o.c else if o.k=4 then d.eo kk o.a o.b o.c o.d else d.cY kk o.a o.b o.c
def sk(d:DB)(p:Int):Bool:=d.has p && (d.has (d.at_ p).owner && ((d.at_ p).typ !=0 && ((d.at_ (d.at_ p).owner).state==3 && ((d.at_ p).typ !=1 || (d.at_ p).refs==0))))
def mJ(d:DB)(p:Int):Bool:=d.has p && ((d.at_ p).typ==1 && (d.at_ p).state==1)
def beside(d:DB)(o:LOp):DB:=
 if o.k=6 then d.aQ (·.write false o.a (o.b % 1024) o.c)
 else if o.k=7 then(if d.mJ o.a then(d.aQ (·.wrs o.a 11 (List.replicate 26 0))).setState o.a 2 else d)
 else if o.k=8 then d.setState o.a 3
 else if o.k=9 then(if d.sk o.a then d.eC o.a else d)
 else d
end DB
abbrev Sm(x:Int):Prop:=0≤x∧x≤24
namespace DB
theorem HV(d:DB)(n:Int):Sm (d.aX n):=by unfold aX;split<;>decide
theorem HM(d:DB)(n:Int):Sm (d.bj n):=by unfold bj;split<;>decide
theorem Ib(d:DB)(n:Int):Sm (d.eE n):=by unfold eE;split<;>decide
theorem Ix(d:DB)(n:Int):Sm (d.aR n):=by unfold aR;(repeat' split)<;>decide
theorem H3(n:Int):Sm (fq n):=by unfold fq;split<;>decide
theorem HN(d:DB)(s va:Int):Sm (d.eG s va):=by unfold eG;(repeat' split)<;>decide
theorem FF(d:DB)(o:LOp):Sm (d.bh o):=by
 unfold bh bW bE cR cT dj
 (repeat' split)<;>first | decide | exact HV .. | exact HM .. | exact Ib .. | exact Ix .. | exact H3 .. | exact HN ..
end DB
theorem CJ {m:Mem} {a i:Int}(hi:0≤i∧i<26):m.wrs a 11 ((List.replicate 26 (0:Int)).take (i64.wrap (i+1)).toNat)=(m.wrs a 11 ((List.replicate 26 (0:Int)).take i.toNat)).write true a (i64.wrap (11+i)) 0:=by
 rw [Mem.pj (by rfl) hi]
 congr 1
 rw [List.getD_eq_getElem?_getD,List.getElem?_replicate]
 split<;>rfl
theorem DB.Co {D:DB} {j:Nat} {x:Int}(h:D.words[j]? =some x):DB.wd (D.words.map U32.mk) j=x:=by
 unfold DB.wd
 rw [pS,List.getD_eq_getElem?_getD,h];rfl
theorem DB.HJ(D:DB):DB.wd (D.words.map U32.mk) 0=D.aE:=DB.Co rfl
theorem DB.HI {D:DB} {p:Nat}(hp:p<D.S):DB.wd (D.words.map U32.mk) (1+2*p)=(D.ent p).w0∧DB.wd (D.words.map U32.mk) (2+2*p)=(D.ent p).w1:=by
 have h1:=kV (fun p=>(D.ent p).w0) (fun p=>(D.ent p).w1) D.S (2*p) (by omega)
 have h2:=kV (fun p=>(D.ent p).w0) (fun p=>(D.ent p).w1) D.S (2*p+1) (by omega)
 rw [if_pos (by omega),show 2*p / 2=p by omega]at h1
 rw [if_neg (by omega),show(2*p+1) / 2=p by omega]at h2
 refine⟨DB.Co ?_,DB.Co ?_⟩
 ·rw [D.words_eq,show 1+2*p=2*p+1 by omega,List.getElem?_cons_succ];exact h1
 ·rw [D.words_eq,show 2+2*p=(2*p+1)+1 by omega,List.getElem?_cons_succ];exact h2
theorem DB.Av {D:DB}(h:D.Ok):dm (D.words.map U32.mk):=by
 intro x hx
 obtain⟨y,hy,rfl⟩:=List.mem_map.1 hx
 have hb:=h.aE
 simp only [DB.words,List.mem_cons,List.mem_flatMap,List.mem_range,List.not_mem_nil,or_false]at hy
 show 0≤y∧y<4294967296
 rcases hy with rfl | ⟨p,hp,rfl | rfl⟩
 ·omega
 ·exact Ent.uT (h.ent p hp).1
 ·exact Ent.uS (h.ent p hp).1
theorem DB.yq {D:DB}(h:D.Ok):DB.ao D.mem (D.words.map U32.mk)=0∧(DB.load D.mem (D.words.map U32.mk)).aE=D.aE∧∀p,p<D.S→(DB.load D.mem (D.words.map U32.mk)).ent p=D.ent p:=by
 have he:∀p,p<D.S→Ent.dec (DB.wd (D.words.map U32.mk) (1+2*p)) (DB.wd (D.words.map U32.mk) (2+2*p))=D.ent p∧Ent.eI (DB.wd (D.words.map U32.mk) (1+2*p)) (DB.wd (D.words.map U32.mk) (2+2*p))=0:=fun p hp=>by
  rw [(DB.HI hp).1,(DB.HI hp).2]
  exact Ent.tP (h.ent p hp).1
 have hb:=h.aE
 refine⟨DB.om (by rw [List.length_map,DB.cC];rfl) (by rw [DB.HJ];omega) fun p hp=>?_,DB.HJ D,fun p hp=>(he p hp).1⟩
 unfold DB.j3
 rw [(he p hp).1,(he p hp).2]
 have:=(h.ent p hp).2
 simp only [Bool.and_eq_true,decide_eq_true_eq]
 exact⟨rfl,this⟩
theorem PdP.congr {w:World} {g a mg:Nat} {E F:Pd}(h:PdP w g a mg E)(hn:F.n=E.n)(hb:F.aE=E.aE)(he:∀p,p<E.n→F.ent p=E.ent p):PdP w g a mg F:=by
 refine⟨?_,?_,⟨fun p hp=>?_,by rw [hb];exact h.ok.aE,by rw [hn];exact h.ok.dz⟩,h.ne⟩
 ·have:=h.hd;rw [← hn,← hb]at this;exact this
 ·obtain⟨T,cs,h1,h2,h3⟩:=h.ws
  refine⟨T,cs,h1,by rw [hn];exact h2,fun p hp=>?_⟩
  rw [hn]at hp
  rw [he p hp];exact h3 p hp
 ·rw [hn]at hp
  rw [he p hp,hn];exact h.ok.ent p hp
end Go.Proofs.YtinhphjfnedhgaaGreatDoor
namespace Go.Proofs.YtinhphjfnedhgaaGreatDoor
open Go.Proofs.Tryz (prog)
open Go Go.RowKit V Go.ChangeShapes Go.WideShapes Go.ChangeAt
open Go.IntKind (i64 u32 u64)
open Enc (enc)
section
theorem wf_u32 {x:Int}(h:(Lit.int .u32 x).wf=true):0≤x∧x<4294967296:=by
 have:0≤x∧x≤4294967295:=by simpa [Lit.wf,IntKind.min,IntKind.max,IntKind.signed,IntKind.bits]using h
 omega
section
variable {P:Program} {W:World} {H:Type} {enc:TypeId×Value→H}
theorem CY {t:TypeId} {f0 f1:Field} {v:Value} {d:DataW H} {p:List MemPlace}(ht:P.underlying t=some (.struct #[f0,f1]))(o:f0.offset=0∧f1.offset=1)(c:P.cellsOf f0.type=1∧P.cellsOf f1.type=1)(u0:P.underlying f0.type=some (.int .i64))(u1:P.underlying f1.type=some (.int .i64))(ct:P.cellsOf t=2)
 {base:Nat}(hv:Value.okWide P W .any base t v)(h:DataW.Trod enc P W 0 (fun _=>true) true t v d p):∃a b:Int,v= .agg #[.int .i64 a,.int .i64 b]:=by
 obtain⟨⟨cs⟩,rfl,hc⟩:=okWide_struct ht hv
 obtain⟨fuel,hf⟩:=h
 obtain⟨y0,y1,n,_,_,g0,g1⟩:=trod_struct2 ht hf
 rw [ct]at hc
 match cs,hc with
 | [v0,v1],_=>
  obtain⟨o0,o1⟩:=o
  obtain⟨c0,c1⟩:=c
  rw [o0,c0]at g0
  rw [o1,c1]at g1
  obtain⟨n0,e0,_,_⟩:=DataW.trod_int u0 g0
  obtain⟨n1,e1,_,_⟩:=DataW.trod_int u1 g1
  simp [Value.cells]at e0 e1
  subst e0 e1
  exact⟨n0,n1,rfl⟩
theorem CZ {t e:TypeId} {f0 f1 f2 f3 f4:Field} {v:Value} {d:DataW H} {p:List MemPlace}(ht:P.underlying t=some (.slice e))(he:P.underlying e=some (.struct #[f0,f1,f2,f3,f4]))
 (ce:P.cellsOf e=5)(o:f0.offset=0∧f1.offset=1∧f2.offset=2∧f3.offset=3∧f4.offset=4)(c:P.cellsOf f0.type=1∧P.cellsOf f1.type=1∧P.cellsOf f2.type=1∧P.cellsOf f3.type=1∧P.cellsOf f4.type=1)
 (u0:P.underlying f0.type=some (.int .i64))(u1:P.underlying f1.type=some (.int .u32))(u2:P.underlying f2.type=some (.int .u32))(u3:P.underlying f3.type=some (.int .u32))(u4:P.underlying f4.type=some (.int .u32))
 {base:Nat}(hv:Value.okWide P W .any base t v)(h:DataW.Trod enc P W 0 (fun _=>true) true t v d p):
 ∃(A:Option Addr)(n c:Nat)(l:List LOp),v= .slice A n c∧Rd W (fun k=>0<n∧∃p,A=some p∧k=p.block) A n c l∧(∀x∈l,x.Ok)∧(∀p,A=some p→0<n→∃x:Int,W.cell? (p.add 0)=some (.int .i64 x))∧
  (c=0∨∃el sp,d= .slice el sp∧el.length+sp.length=c):=by
 obtain⟨a0,len,cap,rfl⟩:=okWide_slice ht hv
 obtain⟨fuel,hf⟩:=h
 rcases Go.Deep.open_slice ht hf with⟨Kq,hx⟩ | ⟨a,len',cap',m,n,D,Pl,Kq,_,hl,hm,hmm,hx,Kv⟩
 ·simp [Value.cells]at Kq
  obtain⟨rfl,rfl,rfl⟩:=Kq
  exact⟨none,0,0,[],rfl,⟨rfl,Nat.le_refl _,fun k hk=>by omega,fun i x hi=>by simp at hi⟩,by simp,fun p hp=>by simp at hp,.inl rfl⟩
 ·simp [Value.cells]at Kq
  obtain⟨rfl,rfl,rfl⟩:=Kq
  simp only [if_true]at hmm
  subst hmm
  simp only [Prod.mk.injEq]at hx
  have each:∀i,i<m→∃x:LOp,(∀j,j<5→W.cell? ((a.add (i*5)).add j)=(V.Enc.enc x:List Value)[j]?)∧x.Ok:=by
   intro i hi
   obtain⟨cs',h1,h2⟩:=Kv i hi
   rw [ce]at h1
   obtain⟨_,hlen,hc⟩:=World.cells?_some h1
   obtain⟨xs,k,hk,Nq,_,Uk,hf⟩:=DataW.trod_struct he h2
   obtain⟨o0,o1,o2,o3,o4⟩:=o
   obtain⟨c0,c1,c2,c3,c4⟩:=c
   match xs,Uk,cs',hlen with
   | [y0,y1,y2,y3,y4],_,[v0,v1,v2,v3,v4],_=>
    have g0:=hf 0 f0 rfl
    have g1:=hf 1 f1 rfl
    have g2:=hf 2 f2 rfl
    have g3:=hf 3 f3 rfl
    have g4:=hf 4 f4 rfl
    simp [o0,o1,o2,o3,o4,c0,c1,c2,c3,c4]at g0 g1 g2 g3 g4
    obtain⟨n0,e0,_,_⟩:=DataW.trod_int u0 g0
    obtain⟨n1,e1,_,w1⟩:=DataW.trod_int u1 g1
    obtain⟨n2,e2,_,w2⟩:=DataW.trod_int u2 g2
    obtain⟨n3,e3,_,w3⟩:=DataW.trod_int u3 g3
    obtain⟨n4,e4,_,w4⟩:=DataW.trod_int u4 g4
    simp at e0 e1 e2 e3 e4
    subst e0 e1 e2 e3 e4
    exact⟨⟨n0,n1,n2,n3,n4⟩,fun j hj=>hc j hj,wf_u32 w1,wf_u32 w2,wf_u32 w3,wf_u32 w4⟩
  have:Inhabited LOp:=⟨⟨0,0,0,0,0⟩⟩
  obtain⟨q,hq⟩:=Go.Deep.choose_lt each
  have hb:∀i,i<m→a.block<W.heap.size:=fun i hi=>by
   have h1:=(hq i hi).1 0 (by omega)
   have h2:W.cell? ((a.add (i*5)).add 0)=some (.int .i64 (q i).k):=h1
   have:=World.block_lt_of_cell? W _ h2
   rwa [V.block_add,V.block_add]at this
  refine⟨some a,len,m,(List.range len).map q,rfl,⟨by simp,hl,fun k ⟨h1,p,hp,hk⟩=>?_,fun j x hj=>?_⟩,fun x hx=>?_,fun p hp h0=>?_,.inr ⟨_,_,hx.1,by simp;omega⟩⟩
  ·injection hp with hp
   subst hp;subst hk
   exact hb 0 (by omega)
  ·have Pr:j<len:=by
    rcases Nat.lt_or_ge j len with h | h
    ·exact h
    ·rw [List.getElem?_eq_none (by simpa using h)]at hj;cases hj
   rw [List.getElem?_map,List.getElem?_range Pr]at hj
   injection hj with hj
   subst hj
   exact⟨a,rfl,⟨by omega,a,rfl,rfl⟩,fun i hi=>(hq j (by omega)).1 i hi⟩
  ·obtain⟨i,hi,rfl⟩:=List.mem_map.1 hx
   have:=List.mem_range.1 hi
   exact(hq i (by omega)).2
  ·injection hp with hp
   subst hp
   have h1:=(hq 0 (by omega)).1 0 (by omega)
   rw [Nat.zero_mul]at h1
   have e:(a.add 0).add 0=a.add 0:=by rw [add_add]
   rw [e]at h1
   exact⟨_,h1⟩
theorem AW {n:Nat} {e:TypeId} {k:IntKind} {t:TypeId} {fuel base:Nat} {sp:Nat→Bool} {held:Bool} {cs:List Value} {l:List Int} {q:List MemPlace}(ht:P.underlying t=some (.array n e))(ue:P.underlying e=some (.int k))(ce:P.cellsOf e=1)
 (h:DataW.trod enc P W base sp held fuel t cs=some (.agg (l.map fun x=>.lit (.int k x)),q))(QY:P.cellsOf t=n):cs=l.map (Value.int k):=by
 obtain⟨xs,m,rfl,hx,hl,Uk,WU⟩:=DataW.trod_array ht h
 have hc:cs.length=n:=hl.trans QY
 simp only [Prod.mk.injEq,DataW.agg.injEq]at hx
 have hn:l.length=n:=by have:=congrArg List.length hx.1;simpa [Uk]using this
 refine List.ext_getElem? fun i=>?_
 by_cases hi:i<n
 ·have h1:=WU i hi
  rw [ce,Nat.mul_one]at h1
  have Rz:i<cs.length:=by omega
  rw [show(cs.drop i).take 1= [cs[i]]from by rw [List.drop_eq_getElem_cons Rz];rfl]at h1
  have hi3:i<xs.length:=by omega
  rw [List.getElem?_eq_getElem hi3]at h1
  obtain⟨x,e1,e2,_⟩:=DataW.trod_int ue h1
  have e3:=congrArg (fun z=>z[i]?) hx.1
  simp only [List.getElem?_map,List.getElem?_eq_getElem hi3,Option.map_some,e2]at e3
  have hi4:i<l.length:=by omega
  simp only [List.getElem?_eq_getElem hi4,Option.map_some,Option.some.injEq]at e3
  injection e3 with e3
  injection e3 with _ e3
  injection e1 with e1 _
  rw [List.getElem?_eq_getElem Rz,e1,List.getElem?_map,List.getElem?_eq_getElem hi4,Option.map_some,e3]
 ·rw [List.getElem?_eq_none (by omega),List.getElem?_eq_none (by simp;omega)]
theorem CX {n:String} {g:Nat} {cs:Array Value} {ps:List MemPlace}(hg:P.globalNamed n=some g)(hv:W.var? P n=some cs)(h0:0<cs.size)(LR:MemPlace.row ⟨g,0,none⟩ cs.size ⊆ ps)(hc:∀b off,MemPlace.cell b off∈ps→(∃c t,W.heap[b]? =some (.cells c t (0,0)))∧∀u v,W.cell? ⟨b,off,none⟩=some (.iface u v)→Value.okWide P W .any 0 u v):∃T,Blk W g cs T:=by
 have h1:MemPlace.cell g 0∈ps:=LR (by unfold MemPlace.row;exact List.mem_map.2 ⟨0,List.mem_range.2 h0,rfl⟩)
 obtain⟨⟨c,t,h2⟩,_⟩:=hc _ _ h1
 unfold World.var? at hv
 rw [hg]at hv
 simp only [Option.bind_some,h2,Option.some.injEq]at hv
 subst hv
 exact⟨t,h2⟩
theorem cell_of {g:Nat} {cs:Array Value} {T:TypeId} {p:Addr} {v:Value}(hb:Blk W g cs T)(hg:p.block=g)(h:W.cell? p=some v):v∈cs.toList:=by
 subst hg
 unfold Blk at hb
 unfold World.cell? at h
 rw [hb]at h
 simp only at h
 split at h
 ·cases h
 ·rw [← Array.getElem?_toList]at h
  exact List.mem_of_getElem? h
end
end
end Go.Proofs.YtinhphjfnedhgaaGreatDoor
namespace Go.Proofs.YtinhphjfnedhgaaGreatDoor
open Go.Proofs.Tryz (prog)
open Go Go.RowKit V
open Go.IntKind (i64 u32 u64)
section
set_option maxRecDepth 100000
set_option maxHeartbeats 1000000
attribute [local irreducible] Vc2 VcD
attribute [local grind=] Pd.dF Pd.eD Pd.jC Pd.mB Pd.bJ Pd.g6 Pd.jB Pd.gG Pd.mm DB.cD
attribute [local grind .] Pd.Ok.ent
attribute [local grind→] Pd.Ok.dz
section
attribute [local grind=] DB.take DB.aZ DB.bT DB.more DB.C3 DB.turns
end
section
attribute [local grind=] DB.setState DB.aV DB.Gq
end
section
attribute [local grind=] DB.eC DB.cO DB.bZ DB.more Pd.ki Mem.qJ DB.tx Ent.tK
end
section
attribute [local grind=] DB.aM DB.aO DB.bn Pd.yl Pd.C2 Pd.r9 Pd.EV Mem.bB ax dh Ent.ok Pd.yf DB.mem_set DB.A3 DB.cn
attribute [local grind→] Pd.Ok.aE
end
def own(D:DB)(s:Int):List I64:=if D.cD s then D.G1 s D.S else []
end
end Go.Proofs.YtinhphjfnedhgaaGreatDoor
namespace Go.Proofs.YtinhphjfnedhgaaGreatDoor
open Go.Proofs.Tryz (prog)
open Go Go.RowKit V
open Go.IntKind (i64 u32 u64)
section
set_option maxRecDepth 10000
set_option maxHeartbeats 1000000
theorem IM {w:World}:
 Calls prog 125 #[] w fun e w'=>∃v,e= .returned v∧∃g:Nat,∃L:DgL,v= .pointer (some (Addr.mk g 0 none))∧nj w' g L Dg.new∧(∀k,L.X g k→w.heap.size≤k)∧Pu w w':=by
 refine yW ?_
 have hp:=Ch.refl (fun _=>False) w
 refine Calls.mono (CE) ?_
 rintro e wv ⟨_,rfl,rfl,Jo⟩
 refine⟨_,_,_,_,_,_,_,_,rfl,?_⟩
 refine mkd fun gv Jb Jh=>?_
 have I7:=Jh.blk
 have hp:=Ch.made (Ch.pu hp Jo) Jh
 exact⟨gv,⟨fun _=>False,none,0,0⟩,rfl,⟨⟨_,I7⟩,Rd.nil,fun h=>h⟩,by have:=Jh.num;have:=Jo.size;rintro k (rfl | hk);omega;exact hk.elim,hp⟩
theorem IN {g:Nat} {L:DgL} {D:Dg} {Z:Nat→Prop} {wordsA:Option Addr} {wordsN:Nat} {wordsC:Nat} {l:List U32} {K:List Int} {w:World}(h:nj w g L D)(hz:Rd w Z wordsA wordsN wordsC l)(hk:ln w 0 K)(ok:D.Ok)(hlen:l.length≤1099511627776)(hzg:¬Z g)(RA:¬g=0):
 Calls prog 135 #[(.pointer (some (Addr.mk g 0 none))),(.slice wordsA wordsN wordsC)] w fun e w'=>∃v,e= .returned v∧∃L':DgL,v= .tuple #[]∧nj w' g L' (D.add K l)∧(∀k,(L'.X g) k→(L.X g) k∨w.heap.size≤k)∧Ch (L.X g) w w':=by
 refine yY (some (Addr.mk g 0 none)) _ _ _ ?_
 have hn:=ok.n
 have Wc:=hz
 have hg9:=h.lt g (.inl rfl)
 have hp:=Ch.refl (L.X g) w
 have Kd:=h.lt
 have Uj:=hz.lt
 have KQ:=hk.lt
 obtain⟨⟨hT,hb⟩,hr,M5⟩:=h
 have Np:=hr.lt
 refine ai _ rfl ⟨_,hb.at rfl,?_⟩
 refine aq (fun c1=>?_) (fun c1=>?_)
 ·exact⟨L,rfl,by have hc:(l.length:Int)>36028797018963968 - D.n:=(by have:=hz.len;rw [ax (by omega)]at c1;omega);rw [Dg.add,if_pos hc];exact⟨⟨_,hb⟩,hr,M5⟩,fun k hk=>.inl hk,hp⟩
 ·have hzl:=hz.len
  have MR:=hr.len
  have hn:=ok.n
  have NH:=ok.len
  have Q1:=hr.cap
  rw [ax (by omega)]at c1
  refine ai _ rfl ⟨_,hb.at rfl,ai _ rfl (bI hb (by simp) fun wv ND=>?_)⟩
  have hb:Blk wv g #[(.int .u32 D.st.a),(.int .u32 D.st.b),(.int .u32 D.st.c),(.int .u32 D.st.d),(.int .u32 D.st.e),(.int .u32 D.st.f),(.int .u32 D.st.g),(.int .u32 D.st.h),(.int .i64 (i64.wrap (D.n+((wordsN:Nat):Int)))),(.slice L.a L.n L.c)] _:=ND.blk.cast (by kernel_rfl)
  refine⟨bXU [] [3,7,12] wv.drew (fun _=>False),?_⟩
  have hb:=Blk.drew hb
  refine ai _ rfl ⟨.inl (by decide),_,_,_,hb.at rfl,ai _ rfl ⟨.inl (by decide),_,_,_,hb.at rfl,ai _ rfl ⟨.inl (by decide),_,_,_,hb.at rfl,⟨by omega,⟨by omega,?_⟩⟩⟩⟩⟩
  have hr:=(hr.ch ND.ch (fun k hx e=>(M5) (e▸hx))).pu (Pu.aW _)
  rintro Qy Rg Qw Re Qx Rf
  have QC:=Rd.all hr Rg Re Rf (by omega) (by omega)
  have hz:=(hz.ch ND.ch (fun k hx e=>(hzg) (e▸hx))).pu (Pu.aW _)
  have hp:=Ch.drew (Ch.call hp ND.ch (by exact fun k hk=>.inl (.inl hk)))
  refine Hq zG QC (by omega) hz (by omega) (by omega) fun A_wv1 c_wv1 Jb Ui Jf=>?_
  refine bXU.qc Jf (by decide) ?_
  have hp:=Ch.pu hp Jf
  have hz:=hz.pu Jf
  have hk:=((hk.ch ND.ch (fun k hx e=>(RA) (e▸hx))).pu (Pu.aW _)).pu Jf
  have hb:=Pu.blk Jf hb
  refine⟨fun mz leftA leftN leftC W=>∃Z_ll:Nat→Prop,∃ll:List U32,∃S:S8,∃n2:Int,mz=ll.length∧(dJ K S ll=dJ K D.st (D.waits++l))∧(¬Z_ll g)∧(ll.length≤1099511627800)∧(n2=D.n+l.length)∧Rd W Z_ll leftA leftN leftC ll∧Ch (L.X g) w W∧Rd W Z wordsA wordsN wordsC l∧ln W 0 K∧Blk W g #[(.int .u32 S.a),(.int .u32 S.b),(.int .u32 S.c),(.int .u32 S.d),(.int .u32 S.e),(.int .u32 S.f),(.int .u32 S.g),(.int .u32 S.h),(.int .i64 n2),(.slice L.a L.n L.c)] hT,⟨_,(fun k=>(L.Y k∨wv.drew.heap.size≤k)∧k<Jb.heap.size),(D.waits++l),D.st,_,rfl,rfl,(by rintro⟨h | h,_⟩;exact M5 h;exact absurd (Nat.lt_of_lt_of_le hg9 (Nat.le_trans ND.kept.size h)) (Nat.lt_irrefl _)),(by rw [List.length_append];omega),(by rw [ax (by omega)];omega),Ui,hp,hz,hk,hb⟩,?_⟩
  rintro _ _ leftA leftN leftC Jc ⟨Z_ll,ll,S,n2,rfl,hI,hlz,hlb,NU,KD,hp,hz,hk,hb⟩
  refine aq (fun c2=>?_) (fun c2=>?_)
  ·refine⟨bXU [] [4,7] Jc.drew (fun _=>False),?_⟩
   have hb:=Blk.drew hb
   have KD:=KD.pu (Pu.aW _)
   refine ai _ rfl ⟨.inl (by decide),_,_,_,_,_,_,_,_,⟨hb.at2 rfl,hb.at2 rfl,hb.at2 rfl,hb.at2 rfl,hb.at2 rfl,hb.at2 rfl,hb.at2 rfl,hb.at2 rfl⟩,⟨by omega,?_⟩⟩
   obtain⟨p3,WZ,hz3,Lv⟩:=KD.u32 (by omega)
   refine ai p3 WZ ⟨.inl (by decide),_,_,_,_,_,_,_,_,_,_,_,_,_,_,_,_,⟨Lv 0 (by omega),Lv 1 (by omega),Lv 2 (by omega),Lv 3 (by omega),Lv 4 (by omega),Lv 5 (by omega),Lv 6 (by omega),Lv 7 (by omega),Lv 8 (by omega),Lv 9 (by omega),Lv 10 (by omega),Lv 11 (by omega),Lv 12 (by omega),Lv 13 (by omega),Lv 14 (by omega),Lv 15 (by omega)⟩,?_⟩
   have hk:=hk.pu (Pu.aW _)
   refine Calls.mono (GR hk _ _ _ _ _ _ _ _ _ _ _ _ _ _ _ _ _ _ _ _ _ _ _ _) ?_
   rintro e Ji ⟨_,rfl,rfl,JC⟩
   refine⟨_,_,_,_,_,_,_,_,rfl,?_⟩
   refine bXU.qc JC (by decide) ?_
   have hb:=Pu.blk JC hb
   refine ai _ rfl (bI hb (by simp) fun Jq Js=>?_)
   have hb:Blk Jq g #[(.int .u32 ((ji K (S8.mk S.a S.b S.c S.d S.e S.f S.g S.h) [((ll.getD 0 ⟨0⟩).v),((ll.getD 1 ⟨0⟩).v),((ll.getD 2 ⟨0⟩).v),((ll.getD 3 ⟨0⟩).v),((ll.getD 4 ⟨0⟩).v),((ll.getD 5 ⟨0⟩).v),((ll.getD 6 ⟨0⟩).v),((ll.getD 7 ⟨0⟩).v),((ll.getD 8 ⟨0⟩).v),((ll.getD 9 ⟨0⟩).v),((ll.getD 10 ⟨0⟩).v),((ll.getD 11 ⟨0⟩).v),((ll.getD 12 ⟨0⟩).v),((ll.getD 13 ⟨0⟩).v),((ll.getD 14 ⟨0⟩).v),((ll.getD 15 ⟨0⟩).v)]).a)),(.int .u32 ((ji K (S8.mk S.a S.b S.c S.d S.e S.f S.g S.h) [((ll.getD 0 ⟨0⟩).v),((ll.getD 1 ⟨0⟩).v),((ll.getD 2 ⟨0⟩).v),((ll.getD 3 ⟨0⟩).v),((ll.getD 4 ⟨0⟩).v),((ll.getD 5 ⟨0⟩).v),((ll.getD 6 ⟨0⟩).v),((ll.getD 7 ⟨0⟩).v),((ll.getD 8 ⟨0⟩).v),((ll.getD 9 ⟨0⟩).v),((ll.getD 10 ⟨0⟩).v),((ll.getD 11 ⟨0⟩).v),((ll.getD 12 ⟨0⟩).v),((ll.getD 13 ⟨0⟩).v),((ll.getD 14 ⟨0⟩).v),((ll.getD 15 ⟨0⟩).v)]).b)),(.int .u32 ((ji K (S8.mk S.a S.b S.c S.d S.e S.f S.g S.h) [((ll.getD 0 ⟨0⟩).v),((ll.getD 1 ⟨0⟩).v),((ll.getD 2 ⟨0⟩).v),((ll.getD 3 ⟨0⟩).v),((ll.getD 4 ⟨0⟩).v),((ll.getD 5 ⟨0⟩).v),((ll.getD 6 ⟨0⟩).v),((ll.getD 7 ⟨0⟩).v),((ll.getD 8 ⟨0⟩).v),((ll.getD 9 ⟨0⟩).v),((ll.getD 10 ⟨0⟩).v),((ll.getD 11 ⟨0⟩).v),((ll.getD 12 ⟨0⟩).v),((ll.getD 13 ⟨0⟩).v),((ll.getD 14 ⟨0⟩).v),((ll.getD 15 ⟨0⟩).v)]).c)),(.int .u32 ((ji K (S8.mk S.a S.b S.c S.d S.e S.f S.g S.h) [((ll.getD 0 ⟨0⟩).v),((ll.getD 1 ⟨0⟩).v),((ll.getD 2 ⟨0⟩).v),((ll.getD 3 ⟨0⟩).v),((ll.getD 4 ⟨0⟩).v),((ll.getD 5 ⟨0⟩).v),((ll.getD 6 ⟨0⟩).v),((ll.getD 7 ⟨0⟩).v),((ll.getD 8 ⟨0⟩).v),((ll.getD 9 ⟨0⟩).v),((ll.getD 10 ⟨0⟩).v),((ll.getD 11 ⟨0⟩).v),((ll.getD 12 ⟨0⟩).v),((ll.getD 13 ⟨0⟩).v),((ll.getD 14 ⟨0⟩).v),((ll.getD 15 ⟨0⟩).v)]).d)),(.int .u32 ((ji K (S8.mk S.a S.b S.c S.d S.e S.f S.g S.h) [((ll.getD 0 ⟨0⟩).v),((ll.getD 1 ⟨0⟩).v),((ll.getD 2 ⟨0⟩).v),((ll.getD 3 ⟨0⟩).v),((ll.getD 4 ⟨0⟩).v),((ll.getD 5 ⟨0⟩).v),((ll.getD 6 ⟨0⟩).v),((ll.getD 7 ⟨0⟩).v),((ll.getD 8 ⟨0⟩).v),((ll.getD 9 ⟨0⟩).v),((ll.getD 10 ⟨0⟩).v),((ll.getD 11 ⟨0⟩).v),((ll.getD 12 ⟨0⟩).v),((ll.getD 13 ⟨0⟩).v),((ll.getD 14 ⟨0⟩).v),((ll.getD 15 ⟨0⟩).v)]).e)),(.int .u32 ((ji K (S8.mk S.a S.b S.c S.d S.e S.f S.g S.h) [((ll.getD 0 ⟨0⟩).v),((ll.getD 1 ⟨0⟩).v),((ll.getD 2 ⟨0⟩).v),((ll.getD 3 ⟨0⟩).v),((ll.getD 4 ⟨0⟩).v),((ll.getD 5 ⟨0⟩).v),((ll.getD 6 ⟨0⟩).v),((ll.getD 7 ⟨0⟩).v),((ll.getD 8 ⟨0⟩).v),((ll.getD 9 ⟨0⟩).v),((ll.getD 10 ⟨0⟩).v),((ll.getD 11 ⟨0⟩).v),((ll.getD 12 ⟨0⟩).v),((ll.getD 13 ⟨0⟩).v),((ll.getD 14 ⟨0⟩).v),((ll.getD 15 ⟨0⟩).v)]).f)),(.int .u32 ((ji K (S8.mk S.a S.b S.c S.d S.e S.f S.g S.h) [((ll.getD 0 ⟨0⟩).v),((ll.getD 1 ⟨0⟩).v),((ll.getD 2 ⟨0⟩).v),((ll.getD 3 ⟨0⟩).v),((ll.getD 4 ⟨0⟩).v),((ll.getD 5 ⟨0⟩).v),((ll.getD 6 ⟨0⟩).v),((ll.getD 7 ⟨0⟩).v),((ll.getD 8 ⟨0⟩).v),((ll.getD 9 ⟨0⟩).v),((ll.getD 10 ⟨0⟩).v),((ll.getD 11 ⟨0⟩).v),((ll.getD 12 ⟨0⟩).v),((ll.getD 13 ⟨0⟩).v),((ll.getD 14 ⟨0⟩).v),((ll.getD 15 ⟨0⟩).v)]).g)),(.int .u32 ((ji K (S8.mk S.a S.b S.c S.d S.e S.f S.g S.h) [((ll.getD 0 ⟨0⟩).v),((ll.getD 1 ⟨0⟩).v),((ll.getD 2 ⟨0⟩).v),((ll.getD 3 ⟨0⟩).v),((ll.getD 4 ⟨0⟩).v),((ll.getD 5 ⟨0⟩).v),((ll.getD 6 ⟨0⟩).v),((ll.getD 7 ⟨0⟩).v),((ll.getD 8 ⟨0⟩).v),((ll.getD 9 ⟨0⟩).v),((ll.getD 10 ⟨0⟩).v),((ll.getD 11 ⟨0⟩).v),((ll.getD 12 ⟨0⟩).v),((ll.getD 13 ⟨0⟩).v),((ll.getD 14 ⟨0⟩).v),((ll.getD 15 ⟨0⟩).v)]).h)),(.int .i64 n2),(.slice L.a L.n L.c)] _:=Js.blk.cast (by kernel_rfl)
   refine bXU.grow Js.ch ?_
   refine⟨by omega,?_⟩
   have KD:=(KD.pu JC).ch Js.ch (fun k hx e=>(hlz) (e▸hx))
   rintro Ny Rc Nw Ra Nx Rb
   have QB:=Rd.from_ (lo:=16) KD Rc Ra Rb (by omega) (by have:=KD.cap;omega)
   have hp:=Ch.call (Ch.pu (Ch.drew hp) JC) Js.ch (by exact fun k hk=>.inl (.inl hk))
   have hz:=((hz.pu (Pu.aW _)).pu JC).ch Js.ch (fun k hx e=>(hzg) (e▸hx))
   have hk:=(hk.pu JC).ch Js.ch (fun k hx e=>(RA) (e▸hx))
   exact⟨_,by rw [List.length_drop];have:=KD.len;omega,Z_ll,(ll.drop 16),(ji K S ((ll.take 16).map U32.v)),n2,rfl,(by rw [← hI,← iK (by have:=KD.len;omega)]),hlz,(by rw [List.length_drop];omega),NU,QB,hp,hz,hk,hb.cast (IA (congrArg (Value.int .u32) (by rw [j6 (by have:=KD.len;omega)])) (congrArg (Value.int .u32) (by rw [j6 (by have:=KD.len;omega)])) (congrArg (Value.int .u32) (by rw [j6 (by have:=KD.len;omega)])) (congrArg (Value.int .u32) (by rw [j6 (by have:=KD.len;omega)])) (congrArg (Value.int .u32) (by rw [j6 (by have:=KD.len;omega)])) (congrArg (Value.int .u32) (by rw [j6 (by have:=KD.len;omega)])) (congrArg (Value.int .u32) (by rw [j6 (by have:=KD.len;omega)])) (congrArg (Value.int .u32) (by rw [j6 (by have:=KD.len;omega)])) (rfl) (rfl))⟩
  ·have QG:=hp.size
   have hog:¬Jc.heap.size≤g:=by omega
   refine o5 zG KD (by omega) (by omega) fun A_wv3 Ll Ji KG JC=>?_
   have hb:=Pu.blk JC hb
   refine ai _ rfl (bI hb (by simp) fun Jq Js=>?_)
   have hb:Blk Jq g #[(.int .u32 S.a),(.int .u32 S.b),(.int .u32 S.c),(.int .u32 S.d),(.int .u32 S.e),(.int .u32 S.f),(.int .u32 S.g),(.int .u32 S.h),(.int .i64 n2),(.slice A_wv3 leftN Ll)] _:=Js.blk.cast (by kernel_rfl)
   have KG:=KG.ch Js.ch (fun k hx e=>hog (e▸hx.1))
   have hp:=Ch.call (Ch.pu hp JC) Js.ch (by exact fun k hk=>.inl (.inl hk))
   exact⟨⟨fun k=>Jc.heap.size≤k∧k<Jq.heap.size,A_wv3,leftN,Ll⟩,rfl,by have hn:=ok.n;have hc:¬(l.length:Int)>36028797018963968 - D.n:=(by have:=Wc.len;omega);have ha:dJ K D.st (D.waits++l)=(S,ll):=(by rw [← hI,gj (by have:=KD.len;omega)]);rw [Dg.add,if_neg hc,ha];exact⟨⟨_,Blk.cast hb (by rw [← NU])⟩,(KG).GX (fun k hk=>⟨hk.1.1,hk.2⟩) (fun k hk=>hk.2),fun h=>absurd h.1 hog⟩,fun k hk=>hk.elim (fun e=>.inl (.inl e)) (fun h=>.inr (Nat.le_trans QG h.1)),hp⟩
theorem HP {g:Nat} {L:DgL} {D:Dg} {w:World}(h:nj w g L D)(ok:D.Ok):
 Calls prog 126 #[(.pointer (some (Addr.mk g 0 none)))] w fun e w'=>∃v,e= .returned v∧v= .agg (bu D.save)∧Pu w w':=by
 refine wq (some (Addr.mk g 0 none)) ?_
 have Um:=h.rd.len
 have NH:=ok.len
 have hp:=Ch.refl (fun _=>False) w
 have Kd:=h.lt
 obtain⟨⟨hT,hb⟩,hr,M5⟩:=h
 have Np:=hr.lt
 refine mkd fun gv wv Jh=>?_
 have Jm:=Jh.lo hp
 have Vr:=Jh.ne hb
 have I7:Blk wv gv (bu (List.replicate 26 0)) _:=Jh.blk.cast (fi _ _)
 have hp:=Ch.made hp Jh
 have hb:=Made.old Jh hb
 refine mkd fun Jj Jb Jz=>?_
 have KB:=Jz.lo hp
 have LJ:=Jz.ne hb
 have Ku:=Jz.ne I7
 have Ja:Blk Jb Jj (bu (List.replicate 26 0)) _:=Jz.blk.cast (fi _ _)
 refine⟨bXU [] [] Jb.drew (fun _=>False),?_⟩
 refine⟨by omega,?_⟩
 rintro _ rfl _ rfl _ rfl
 refine ai _ rfl ?_
 rintro _ rfl _ rfl _ rfl
 have Ja:=Blk.drew Ja
 have hb:=Blk.drew (Made.old Jz hb)
 refine mP mq Ja (o:=0) rfl (by(simp;done)) (cP.pre (Z:=fun _=>True) (o:=0) (r:= [D.st.a,D.st.b,D.st.c,D.st.d,D.st.e,D.st.f,D.st.g,D.st.h]) hb trivial rfl (by(simp;done)) (by rfl) (by rfl)) (by(simp;done)) fun Jc J7=>?_
 have Ja:=J7.blk
 refine bXU.qc J7.ch (by decide) ?_
 refine⟨bXU [] [3,10] Jc.drew (fun _=>False),?_⟩
 have hb:=Blk.drew (Ch.blk J7.ch hb (LJ))
 have Ja:=Blk.drew Ja
 refine ai _ rfl ⟨.inl (by decide),_,hb.at rfl,ai _ rfl ⟨.inl (by decide),_,hb.at rfl,⟨by decide,lJ (i:=8) Ja (by(simp;done)) fun Ji Jn=>?_⟩⟩⟩
 have Ja:=Jn.blk
 refine bXU.qc Jn.ch (by decide) ?_
 refine⟨by decide,lJ (i:=9) Ja (by(simp;done)) fun Jq Js=>?_⟩
 have Ja:=Js.blk
 refine bXU.grow Js.ch ?_
 refine⟨bXU [] [4] Jq.drew (fun _=>False),?_⟩
 refine⟨by omega,?_⟩
 rintro _ rfl _ rfl _ rfl
 have hb:=Blk.drew (Ch.blk Js.ch (Ch.blk Jn.ch hb (LJ)) (LJ))
 refine ai _ rfl ⟨.inl (by decide),_,_,_,hb.at rfl,?_⟩
 have Ja:=Blk.drew Ja
 have hr:=(((((((hr.pu Jh.pu).pu Jz.pu).pu (Pu.aW _)).ch J7.ch (fun k hx e=>(fun hx=>absurd (Np _ hx) (Nat.not_lt.2 KB)) (e▸hx))).pu (Pu.aW _)).ch Jn.ch (fun k hx e=>(fun hx=>absurd (Np _ hx) (Nat.not_lt.2 KB)) (e▸hx))).ch Js.ch (fun k hx e=>(fun hx=>absurd (Np _ hx) (Nat.not_lt.2 KB)) (e▸hx))).pu (Pu.aW _)
 refine mP mq Ja (o:=10) rfl (by(simp;done)) (hr).ints (by(simp;omega)) fun JP KP=>?_
 have Ja:=KP.blk
 refine bXU.qc KP.ch (by decide) ?_
 have I7:=Ch.blk KP.ch (Blk.drew (Ch.blk Js.ch (Ch.blk Jn.ch (Blk.drew (Ch.blk J7.ch (Blk.drew (Made.old Jz I7)) (Ku))) (Ku)) (Ku))) (Ku)
 refine⟨bu (iu (((iu (List.replicate 26 0) 0 ([D.st.a,D.st.b,D.st.c,D.st.d,D.st.e,D.st.f,D.st.g,D.st.h].take (min (8 - 0) ((Int.toNat 8) - 0)))).set 8 (u32.wrap ((u64.wrap D.n:Int).fdiv (2 ^ 32)))).set 9 (u32.wrap D.n)) 10 ((List.map U32.v D.waits).take (min L.n (26 - (Int.toNat 10))))),Ja.tl (by(simp;done)),⟨by rw [eB];(simp;done),mr,nC I7 (by(simp;done)) fun J0 PU=>?_⟩⟩
 have I7:=PU.blk
 refine⟨bu (iu (((iu (List.replicate 26 0) 0 ([D.st.a,D.st.b,D.st.c,D.st.d,D.st.e,D.st.f,D.st.g,D.st.h].take (min (8 - 0) ((Int.toNat 8) - 0)))).set 8 (u32.wrap ((u64.wrap D.n:Int).fdiv (2 ^ 32)))).set 9 (u32.wrap D.n)) 10 ((List.map U32.v D.waits).take (min L.n (26 - (Int.toNat 10))))),I7.tl (by(simp;done)),?_⟩
 have hp:=Ch.call (Ch.call (Ch.drew (Ch.call (Ch.call (Ch.drew (Ch.call (Ch.drew (Ch.made hp Jz)) J7.ch (by exact fun k e=>.inr (e▸KB)))) Jn.ch (by exact fun k e=>.inr (e▸KB))) Js.ch (by exact fun k e=>.inr (e▸KB)))) KP.ch (by exact fun k e=>.inr (e▸KB))) PU.ch (by exact fun k e=>.inr (e▸Jm))
 exact⟨congrArg (fun l=>Value.agg (bu l)) (by exact Dg.save_eq ok (Dg.GN ok.n) (u32_eq _) Um),hp⟩
theorem HQ {Z:Nat→Prop} {wordsA:Option Addr} {wordsN:Nat} {wordsC:Nat} {l:List U32} {w:World}(hz:Rd w Z wordsA wordsN wordsC l)(hw:∀x∈l,0≤x.v∧x.v<4294967296):
 Calls prog 70 #[(.slice wordsA wordsN wordsC)] w fun e w'=>∃v,e= .returned v∧∃p:Option Addr,v= .tuple #[(.pointer p),(.int .i64 (Dg.ao l))]∧(Dg.ao l=0→∃g L,p=some (Addr.mk g 0 none)∧nj w' g L (Dg.load l)∧∀k,L.X g k→w.heap.size≤k)∧Pu w w':=by
 refine wx _ _ _ ?_
 have hl:=hz.len
 have Q1:=hz.cap
 have hp:=Ch.refl (fun _=>False) w
 have Uj:=hz.lt
 refine aK (fun c1=>?_) (fun c1=>?_)
 ·exact⟨none,congrArg Value.tuple (rz (rfl) (congrArg (Value.int .i64) (by rw [Dg.mF (by omega)]))),fun h=>absurd h (by rw [Dg.mF (by omega)];omega),hp⟩
 ·have LN:l.length=26:=by omega
  have UJ:=Dg.nOf_eq hw LN
  refine⟨by omega,?_⟩
  obtain⟨p2,Vb,Rr,O1⟩:=hz.u32 (by omega)
  refine ai p2 Vb ?_
  have hz:=hz.pu (Pu.aW _)
  refine⟨_,O1 8 (by omega),⟨by omega,?_⟩⟩
  obtain⟨p3,WZ,hz3,Lv⟩:=hz.u32 (by omega)
  refine ai p3 WZ ⟨_,Lv 9 (by omega),?_⟩
  rintro n e_n
  obtain rfl:n=Dg.nOf l:=e_n.trans (by exact UJ.1)
  refine⟨by omega,⟨by omega,?_⟩⟩
  rintro L8 Rj L7 Rh Mt Ri
  have QD:=Rd.cut (lo:=0) (hi:=(Int.toNat 8)) hz Rj Rh Ri (by omega) (by omega) (by omega)
  refine⟨by omega,?_⟩
  obtain⟨p4,ha4,hz4,Qc⟩:=QD.u32 (by omega)
  refine ai p4 ha4 ⟨_,_,_,_,_,_,_,_,⟨Qc 0 (by omega),Qc 1 (by omega),Qc 2 (by omega),Qc 3 (by omega),Qc 4 (by omega),Qc 5 (by omega),Qc 6 (by omega),Qc 7 (by omega)⟩,?_⟩
  have hp:=Ch.drew hp
  refine mkd fun gv wv Jh=>?_
  have Jm:=Jh.lo hp
  have I7:=Jh.blk
  refine⟨_,?_,fun _ Lx Jb h=>h⟩
  refine⟨bXU [9] [] wv.drew (fun _=>False),?_⟩
  refine aq (fun c5=>?_) (fun c5=>?_)
  ·refine dL ?_
   have hp:=Ch.drew (Ch.made hp Jh)
   exact⟨none,congrArg Value.tuple (rz (rfl) (congrArg (Value.int .i64) (by rw [Dg.gJ LN (.inl c5)]))),fun h=>absurd h (by rw [Dg.gJ LN (.inl c5)];omega),hp⟩
  ·refine aq (fun c6=>?_) (fun c6=>?_)
   ·have I7:=Blk.drew I7
    refine⟨.inr ⟨by decide,bX.ld I7 (fun h=>h) _⟩,_,_,_,_,_,_,_,_,⟨I7.at2 rfl,I7.at2 rfl,I7.at2 rfl,I7.at2 rfl,I7.at2 rfl,I7.at2 rfl,I7.at2 rfl,I7.at2 rfl⟩,?_⟩
    refine Calls.mono (CE) ?_
    rintro e Jb ⟨_,rfl,rfl,Jf⟩
    refine⟨_,_,_,_,_,_,_,_,rfl,?_⟩
    refine bXU.fC Jf (by decide) ?_
    refine cQ (fun c7=>?_) (fun c7=>?_)
    ·have La:Dg.jw l≠S8.first:=by intro h;simp [Dg.jw,S8.first]at h;simp [cf,eqL,lr,S8.first,h]at c7
     have hp:=Ch.pu (Ch.drew (Ch.made hp Jh)) Jf
     exact⟨none,congrArg Value.tuple (rz (rfl) (congrArg (Value.int .i64) (by rw [Dg.gJ LN (.inr ⟨c6,La⟩)]))),fun h=>absurd h (by rw [Dg.gJ LN (.inr ⟨c6,La⟩)];omega),hp⟩
    ·have La:Dg.jw l=S8.first:=by simp [cf,eqL,lr,S8.first]at c7;simp [Dg.jw,S8.first,c7]
     have hg:¬(Dg.nOf l>36028797018963968∨(Dg.nOf l<16∧Dg.jw l≠S8.first)):=by rintro(h | h);exact c5 h;exact h.2 La
     rintro waits Mj
     obtain rfl:waits=Dg.nOf l % 16:=Mj.trans (by rw [Int.tmod_eq_emod_of_nonneg UJ.2.1,ax (by omega)])
     refine⟨by(simp only [IntKind.wrap_i64];omega),?_⟩
     have hz:=((hz.pu Jh.pu).pu (Pu.aW _)).pu Jf
     rintro Nv Nh LA Nf N3 Ng
     have KA:=Rd.from_ (lo:=(Int.toNat (i64.wrap (10+(Dg.nOf l % 16))))) hz Nh Nf Ng (by(rw [Dg.lo_eq];omega)) (by have:=hz.cap;omega)
     have hp:=Ch.pu (Ch.drew (Ch.made hp Jh)) Jf
     have I7:=Pu.blk Jf I7
     refine⟨fun mz LQ W=>mz=(LA - LQ).toNat∧(0≤LQ∧LQ≤LA)∧(∀(i:Nat)(x:U32),i<LQ.toNat→(l.drop (10+(Dg.nOf l % 16).toNat))[i]? =some x→x.v=0)∧Ch (fun _=>False) w W∧Rd W Z wordsA wordsN wordsC l∧Blk W gv #[(.int .u32 ((((l.drop 0).take ((Int.toNat 8) - 0)).getD 0 ⟨0⟩).v)),(.int .u32 ((((l.drop 0).take ((Int.toNat 8) - 0)).getD 1 ⟨0⟩).v)),(.int .u32 ((((l.drop 0).take ((Int.toNat 8) - 0)).getD 2 ⟨0⟩).v)),(.int .u32 ((((l.drop 0).take ((Int.toNat 8) - 0)).getD 3 ⟨0⟩).v)),(.int .u32 ((((l.drop 0).take ((Int.toNat 8) - 0)).getD 4 ⟨0⟩).v)),(.int .u32 ((((l.drop 0).take ((Int.toNat 8) - 0)).getD 5 ⟨0⟩).v)),(.int .u32 ((((l.drop 0).take ((Int.toNat 8) - 0)).getD 6 ⟨0⟩).v)),(.int .u32 ((((l.drop 0).take ((Int.toNat 8) - 0)).getD 7 ⟨0⟩).v)),(.int .i64 (i64.wrap (Dg.nOf l))),(.slice none 0 0)] 228∧Rd W Z Nv LA N3 (l.drop (Int.toNat (i64.wrap (10+(Dg.nOf l % 16))))),⟨_,rfl,(by omega),(by intro i x h;omega),hp,hz,I7,KA⟩,?_⟩
     rintro _ _ LQ Jc ⟨rfl,h0,hq,hp,hz,I7,KA⟩
     refine aq (fun c8=>?_) (fun c8=>?_)
     ·obtain⟨p9,x9,ha9,Rs,Rq,hc9⟩:=KA.ld (i:=LQ) (by omega) (by omega)
      refine⟨by constructor<;>omega,ai p9 ha9 ⟨_,hc9 0 (by decide),?_⟩⟩
      refine aK (fun MW=>?_) (fun MW=>?_)
      ·exact⟨none,congrArg Value.tuple (rz (rfl) (congrArg (Value.int .i64) (by rw [Dg.lo_eq]at Rs;rw [Dg.eW LN hg Rs MW]))),fun h=>absurd h (by rw [Dg.eW LN hg (Dg.lo_eq▸Rs) MW];omega),hp⟩
      ·exact⟨_,by rw [IntKind.wrap_i64];omega,rfl,by rw [IntKind.wrap_i64];omega,by rw [ax (by omega)];intro i x hi hx;by_cases he:i=LQ.toNat;(subst he;(rw [Dg.lo_eq]at Rs;rw [hx]at Rs;injection Rs with e;rw [e];simpa using MW));exact hq i x (by omega) hx,hp,hz,I7,KA⟩
     ·have Rq:=hp
      have hgw:gv<Jc.heap.size:=I7.lt
      refine⟨by(simp only [IntKind.wrap_i64];omega),⟨by(simp only [IntKind.wrap_i64];omega),⟨by(simp only [IntKind.wrap_i64];omega),?_⟩⟩⟩
      rintro O6 Nd Mm Nb O5 Nc
      have M0:=Rd.cut (lo:=10) (hi:=(Int.toNat (i64.wrap (10+(Dg.nOf l % 16))))) hz Nd Nb Nc (by(rw [Dg.lo_eq];omega)) (by(rw [Dg.lo_eq];omega)) (by omega)
      refine o5 zG M0 (by have:= @Dg.lo_eq l;omega) (by have:= @Dg.lo_eq l;omega) fun A_wv3 Ll Ji KG JC=>?_
      have I7:=Pu.blk JC I7
      refine bI I7 (by simp) fun Jq Js=>?_
      have I7:Blk Jq gv #[(.int .u32 ((((l.drop 0).take ((Int.toNat 8) - 0)).getD 0 ⟨0⟩).v)),(.int .u32 ((((l.drop 0).take ((Int.toNat 8) - 0)).getD 1 ⟨0⟩).v)),(.int .u32 ((((l.drop 0).take ((Int.toNat 8) - 0)).getD 2 ⟨0⟩).v)),(.int .u32 ((((l.drop 0).take ((Int.toNat 8) - 0)).getD 3 ⟨0⟩).v)),(.int .u32 ((((l.drop 0).take ((Int.toNat 8) - 0)).getD 4 ⟨0⟩).v)),(.int .u32 ((((l.drop 0).take ((Int.toNat 8) - 0)).getD 5 ⟨0⟩).v)),(.int .u32 ((((l.drop 0).take ((Int.toNat 8) - 0)).getD 6 ⟨0⟩).v)),(.int .u32 ((((l.drop 0).take ((Int.toNat 8) - 0)).getD 7 ⟨0⟩).v)),(.int .i64 (i64.wrap (Dg.nOf l))),(.slice A_wv3 Mm Ll)] _:=Js.blk.cast (by kernel_rfl)
      have KG:=KG.ch Js.ch (fun k hx e=>absurd hx.1 (by omega))
      have hp:=Ch.call (Ch.pu hp JC) Js.ch (by exact fun k e=>.inr (e▸Jm))
      exact⟨_,congrArg Value.tuple (rz (rfl) (congrArg (Value.int .i64) (by rw [(Dg.lO LN hg (fun i x hx=>hq i x (by have:=(List.getElem?_eq_some_iff.1 hx).1;rw [List.length_drop]at this;have:= @Dg.lo_eq l;omega) hx))]))),fun _=>⟨gv,⟨fun k=>(Jc.heap.size≤k∧k<Ji.heap.size)∧k<Jq.heap.size,A_wv3,Mm,Ll⟩,rfl,⟨⟨_,Blk.cast I7 (by simp [Dg.load,Dg.jw];have:=UJ.2;exact(ax (x:=Dg.nOf l) (by omega)).symm)⟩,by have h9:=(KG).rd;have h8:= @Dg.lo_eq l;have e:Dg.load l=⟨Dg.jw l,Dg.nOf l,(l.drop 10).take (Int.toNat (i64.wrap (10+Dg.nOf l % 16)) - 10)⟩:=(by rw [h8,Nat.add_sub_cancel_left];rfl);rw [e];exact h9,by intro h;exact absurd h.1.1 (by have:=Jh.num;have:=Rq.size;omega)⟩,fun k hk=>hk.elim (fun e=>by rw [e];exact Jm) (fun h=>by have:=Rq.size;have:=h.1.1;omega)⟩,hp⟩
   ·have hg:¬(Dg.nOf l>36028797018963968∨(Dg.nOf l<16∧Dg.jw l≠S8.first)):=by rintro(h | h);exact c5 h;exact c6 h.1
    refine kY ?_
    rintro waits Mj
    obtain rfl:waits=Dg.nOf l % 16:=Mj.trans (by rw [Int.tmod_eq_emod_of_nonneg UJ.2.1,ax (by omega)])
    refine⟨by(simp only [IntKind.wrap_i64];omega),?_⟩
    have hz:=(hz.pu Jh.pu).pu (Pu.aW _)
    rintro Nv Nh LA Nf N3 Ng
    have KA:=Rd.from_ (lo:=(Int.toNat (i64.wrap (10+(Dg.nOf l % 16))))) hz Nh Nf Ng (by(rw [Dg.lo_eq];omega)) (by have:=hz.cap;omega)
    have hp:=Ch.drew (Ch.made hp Jh)
    have I7:=Blk.drew I7
    refine⟨fun mz LQ W=>mz=(LA - LQ).toNat∧(0≤LQ∧LQ≤LA)∧(∀(i:Nat)(x:U32),i<LQ.toNat→(l.drop (10+(Dg.nOf l % 16).toNat))[i]? =some x→x.v=0)∧Ch (fun _=>False) w W∧Rd W Z wordsA wordsN wordsC l∧Blk W gv #[(.int .u32 ((((l.drop 0).take ((Int.toNat 8) - 0)).getD 0 ⟨0⟩).v)),(.int .u32 ((((l.drop 0).take ((Int.toNat 8) - 0)).getD 1 ⟨0⟩).v)),(.int .u32 ((((l.drop 0).take ((Int.toNat 8) - 0)).getD 2 ⟨0⟩).v)),(.int .u32 ((((l.drop 0).take ((Int.toNat 8) - 0)).getD 3 ⟨0⟩).v)),(.int .u32 ((((l.drop 0).take ((Int.toNat 8) - 0)).getD 4 ⟨0⟩).v)),(.int .u32 ((((l.drop 0).take ((Int.toNat 8) - 0)).getD 5 ⟨0⟩).v)),(.int .u32 ((((l.drop 0).take ((Int.toNat 8) - 0)).getD 6 ⟨0⟩).v)),(.int .u32 ((((l.drop 0).take ((Int.toNat 8) - 0)).getD 7 ⟨0⟩).v)),(.int .i64 (i64.wrap (Dg.nOf l))),(.slice none 0 0)] 228∧Rd W Z Nv LA N3 (l.drop (Int.toNat (i64.wrap (10+(Dg.nOf l % 16))))),⟨_,rfl,(by omega),(by intro i x h;omega),hp,hz,I7,KA⟩,?_⟩
    rintro _ _ LQ Jc ⟨rfl,h0,hq,hp,hz,I7,KA⟩
    refine aq (fun Ni=>?_) (fun Ni=>?_)
    ·obtain⟨p12,K6,W2,NG,hz12,WX⟩:=KA.ld (i:=LQ) (by omega) (by omega)
     refine⟨by constructor<;>omega,ai p12 W2 ⟨_,WX 0 (by decide),?_⟩⟩
     refine aK (fun Nt=>?_) (fun Nt=>?_)
     ·exact⟨none,congrArg Value.tuple (rz (rfl) (congrArg (Value.int .i64) (by rw [Dg.lo_eq]at NG;rw [Dg.eW LN hg NG Nt]))),fun h=>absurd h (by rw [Dg.eW LN hg (Dg.lo_eq▸NG) Nt];omega),hp⟩
     ·exact⟨_,by rw [IntKind.wrap_i64];omega,rfl,by rw [IntKind.wrap_i64];omega,by rw [ax (by omega)];intro i x hi hx;by_cases he:i=LQ.toNat;(subst he;(rw [Dg.lo_eq]at NG;rw [hx]at NG;injection NG with e;rw [e];simpa using Nt));exact hq i x (by omega) hx,hp,hz,I7,KA⟩
    ·have Rq:=hp
     have hgw:gv<Jc.heap.size:=I7.lt
     refine⟨by(simp only [IntKind.wrap_i64];omega),⟨by(simp only [IntKind.wrap_i64];omega),⟨by(simp only [IntKind.wrap_i64];omega),?_⟩⟩⟩
     rintro O6 Nd Mm Nb O5 Nc
     have M0:=Rd.cut (lo:=10) (hi:=(Int.toNat (i64.wrap (10+(Dg.nOf l % 16))))) hz Nd Nb Nc (by(rw [Dg.lo_eq];omega)) (by(rw [Dg.lo_eq];omega)) (by omega)
     refine o5 zG M0 (by have:= @Dg.lo_eq l;omega) (by have:= @Dg.lo_eq l;omega) fun A_wv3 Ll Ji KG JC=>?_
     have I7:=Pu.blk JC I7
     refine bI I7 (by simp) fun Jq Js=>?_
     have I7:Blk Jq gv #[(.int .u32 ((((l.drop 0).take ((Int.toNat 8) - 0)).getD 0 ⟨0⟩).v)),(.int .u32 ((((l.drop 0).take ((Int.toNat 8) - 0)).getD 1 ⟨0⟩).v)),(.int .u32 ((((l.drop 0).take ((Int.toNat 8) - 0)).getD 2 ⟨0⟩).v)),(.int .u32 ((((l.drop 0).take ((Int.toNat 8) - 0)).getD 3 ⟨0⟩).v)),(.int .u32 ((((l.drop 0).take ((Int.toNat 8) - 0)).getD 4 ⟨0⟩).v)),(.int .u32 ((((l.drop 0).take ((Int.toNat 8) - 0)).getD 5 ⟨0⟩).v)),(.int .u32 ((((l.drop 0).take ((Int.toNat 8) - 0)).getD 6 ⟨0⟩).v)),(.int .u32 ((((l.drop 0).take ((Int.toNat 8) - 0)).getD 7 ⟨0⟩).v)),(.int .i64 (i64.wrap (Dg.nOf l))),(.slice A_wv3 Mm Ll)] _:=Js.blk.cast (by kernel_rfl)
     have KG:=KG.ch Js.ch (fun k hx e=>absurd hx.1 (by omega))
     have hp:=Ch.call (Ch.pu hp JC) Js.ch (by exact fun k e=>.inr (e▸Jm))
     exact⟨_,congrArg Value.tuple (rz (rfl) (congrArg (Value.int .i64) (by rw [(Dg.lO LN hg (fun i x hx=>hq i x (by have:=(List.getElem?_eq_some_iff.1 hx).1;rw [List.length_drop]at this;have:= @Dg.lo_eq l;omega) hx))]))),fun _=>⟨gv,⟨fun k=>(Jc.heap.size≤k∧k<Ji.heap.size)∧k<Jq.heap.size,A_wv3,Mm,Ll⟩,rfl,⟨⟨_,Blk.cast I7 (by simp [Dg.load,Dg.jw];have:=UJ.2;exact(ax (x:=Dg.nOf l) (by omega)).symm)⟩,by have h9:=(KG).rd;have h8:= @Dg.lo_eq l;have e:Dg.load l=⟨Dg.jw l,Dg.nOf l,(l.drop 10).take (Int.toNat (i64.wrap (10+Dg.nOf l % 16)) - 10)⟩:=(by rw [h8,Nat.add_sub_cancel_left];rfl);rw [e];exact h9,by intro h;exact absurd h.1.1 (by have:=Jh.num;have:=Rq.size;omega)⟩,fun k hk=>hk.elim (fun e=>by rw [e];exact Jm) (fun h=>by have:=Rq.size;have:=h.1.1;omega)⟩,hp⟩
end
end Go.Proofs.YtinhphjfnedhgaaGreatDoor
namespace Go.Proofs.YtinhphjfnedhgaaGreatDoor
open Go.Proofs.Tryz (prog)
open Go Go.RowKit V
open Go.IntKind (i64 u32 u64)
section
set_option maxRecDepth 100000
set_option maxHeartbeats 1000000
attribute [local irreducible] Vc2 VcD
def HD:Ctr Un:=⟨[.one (.int .i64),.one (.int .i64)],[],[],[],fun s i K=>((1≤(s:Int)∧(s:Int)≤64)∧(1≤(i:Int)∧(i:Int)≤64))∧∀(rN:Nat→Nat),K ⟨(.tuple #[(.pointer (some (Addr.mk (rN 0) 0 none))),(.int .i64 0)]),(some (.t [(some (.obj 0 0 0)),none])),[],[(.ob 0 rN (Mem.fresh s.toNat i.toNat))],[]⟩⟩
theorem Ev:LV Un prog 27 HD:=by
 show ∀(s:Int)(i:Int),∀Q:Ou Un→Prop,(((1≤(s:Int)∧(s:Int)≤64)∧(1≤(i:Int)∧(i:Int)≤64))∧∀(rN:Nat→Nat),Q ⟨(.tuple #[(.pointer (some (Addr.mk (rN 0) 0 none))),(.int .i64 0)]),(some (.t [(some (.obj 0 0 0)),none])),[],[(.ob 0 rN (Mem.fresh s.toNat i.toNat))],[]⟩)→∀(X:Nat→Nat→Prop)(w:World),Sat (U:=Un) [] X w→av (U:=Un) [] fr0 []→Calls prog 27 #[(.int .i64 s),(.int .i64 i)] w (aT (U:=Un) [] [] X w Q)
 intro s i Q hQ X w hs hl
 obtain⟨⟨h1,h2⟩,hQ⟩:=hQ
 refine(IU s i h1 h2).mono ?_
 rintro e w' ⟨u,rfl,L,rfl,hM,hf,q⟩
 exact aT.sb (Z:=L.X) hs q (show RS (U:=Un) L.X w' (.ob 0 (fun _=>L.g) (Mem.fresh s.toNat i.toNat))from(⟨L,rfl,fun _=>Iff.rfl,hM⟩:cw 0 (fun _=>L.g) (Mem.fresh s.toNat i.toNat) L.X w')) hf (hQ (fun _=>L.g)) (KnO.pair rfl) (fun _ _ h=>by cases h)
def rb:Ctr Un:=⟨[.one (.obj 0 0)],[],[.ob 0 []],[0],fun rm m K=>1≤m.S∧∀(rN:Nat→Nat),K ⟨(.pointer (some (Addr.mk (rN 0) 0 none))),(some (.p (.obj 1 0 0))),[.ob 0 (m.dD m.S)],[(.ob 1 rN ((DB.new m).pd))],[(.l 1 1,.p (.obj 0 0 0))]⟩⟩
theorem EI:LV Un prog 29 rb:=by
 show ∀(rm:Nat→Nat)(m:Mem),∀Q:Ou Un→Prop,(1≤m.S∧∀(rN:Nat→Nat),Q ⟨(.pointer (some (Addr.mk (rN 0) 0 none))),(some (.p (.obj 1 0 0))),[.ob 0 (m.dD m.S)],[(.ob 1 rN ((DB.new m).pd))],[(.l 1 1,.p (.obj 0 0 0))]⟩)→∀(X:Nat→Nat→Prop)(w:World),Sat (U:=Un) [(.ob 0 rm m)] X w→av (U:=Un) [(.ob 0 rm m)] fr0 []→Calls prog 29 #[(.pointer (some (Addr.mk (rm 0) 0 none)))] w (aT (U:=Un) [(.ob 0 rm m)] [0] X w Q)
 intro rm m Q hQ X w hs hl
 obtain⟨hS,hQ⟩:=hQ
 obtain⟨L,hg,hM,hX⟩:=lx hs
 rw [hg]
 refine(I3 hM hS).mono ?_
 rintro e w' ⟨u,rfl,g,a,rfl,OP,hD,⟨U6,O3⟩,q⟩
 have JM:∀k,L.X k→k<w.heap.size:=hM.lt
 exact aT.C1 (k:=some (.p (.obj 1 0 0))) (kc:= [(.l 1 1,.p (.obj 0 0 0))]) (Z0:=X 0) (Z1:=fun k=>k=g∨k=a) (q.mono fun k hk=>(hX k).1 hk) (show cw 0 rm (m.dD m.S) (X 0) w' from⟨L,hg,hX,OP⟩) (fun k hk=>.inl hk) (show RS (U:=Un) (fun k=>k=g∨k=a) w' (.ob 1 (fun i=>if i=0 then g else L.g) (DB.new m).pd)from(⟨a,fun k=>Iff.rfl,hD.pd⟩:cw 1 (fun i=>if i=0 then g else L.g) (DB.new m).pd (fun k=>k=g∨k=a) w'))
  (fun k hk=>by rcases hk with rfl | rfl;exact U6;exact O3) (fun k hk Kf=>by have:=JM k ((hX k).2 hk);rcases Kf with rfl | rfl<;>omega) (hQ (fun i=>if i=0 then g else L.g)) rfl (qk ⟨_,_,_,rfl,show some (Value.pointer (some ⟨rm 0,0,none⟩))=some (.pointer (some ⟨L.g,0,none⟩))by rw [hg]⟩)
def fz:Ctr Un:=⟨[.one (.obj 0 0)],[],[.ob 1 [(1,1,0)],.ob 0 []],[],fun r E rm m K=>E.n=m.S∧∀(A:Option Addr)(c:Nat),K ⟨(.slice A (((E.on m).words.map U32.mk).length) c),(some (.p (.sl 2 0))),[],[(.lst 1 true 29 A c ((E.on m).words.map U32.mk))],[]⟩⟩
theorem nk:LV Un prog 52 fz:=by
 show ∀(r:Nat→Nat)(E:Pd)(rm:Nat→Nat)(m:Mem),∀Q:Ou Un→Prop,(E.n=m.S∧∀(A:Option Addr)(c:Nat),Q ⟨(.slice A (((E.on m).words.map U32.mk).length) c),(some (.p (.sl 2 0))),[],[(.lst 1 true 29 A c ((E.on m).words.map U32.mk))],[]⟩)→∀(X:Nat→Nat→Prop)(w:World),Sat (U:=Un) [(.ob 1 r E),(.ob 0 rm m)] X w→av (U:=Un) [(.ob 1 r E),(.ob 0 rm m)] fr0 [(.l 0 1,.p (.obj 1 0 0))]→Calls prog 52 #[(.pointer (some (Addr.mk (r 0) 0 none)))] w (aT (U:=Un) [(.ob 1 r E),(.ob 0 rm m)] [] X w Q)
 intro r E rm m Q hQ X w hs hl
 obtain⟨hn,hQ⟩:=hQ
 obtain⟨a,L,hg,hr,hD,LX,Mi⟩:=vl hs hl hn
 refine(Hj hD).mono ?_
 rintro e w' ⟨u,rfl,g,n,rfl,ho,hz,q⟩
 have NL:=ho.len
 subst NL
 exact aT.more hs q (G2 (U:=Un) (t:=1) ho) (fun k hk=>by have:=hk.1;omega) (hQ _ _) rfl
def yX:Ctr Un:=⟨[],[],[],[],fun K=>∀(rN:Nat→Nat),K ⟨(.pointer (some (Addr.mk (rN 0) 0 none))),(some (.p (.obj 0 0 0))),[],[(.ob 4 rN Dg.new)],[]⟩⟩
theorem Hz:LV Un prog 125 yX:=by
 show ∀Q:Ou Un→Prop,(∀(rN:Nat→Nat),Q ⟨(.pointer (some (Addr.mk (rN 0) 0 none))),(some (.p (.obj 0 0 0))),[],[(.ob 4 rN Dg.new)],[]⟩)→∀(X:Nat→Nat→Prop)(w:World),Sat (U:=Un) [] X w→av (U:=Un) [] fr0 []→Calls prog 125 #[] w (aT (U:=Un) [] [] X w Q)
 intro Q hQ X w hs hl
 refine IM.mono ?_
 rintro e w' ⟨u,rfl,g,L,rfl,hD,hf,q⟩
 exact aT.sb (Z:=L.X g) hs q (show RS (U:=Un) (L.X g) w' (.ob 4 (fun _=>g) Dg.new)from(⟨L,fun _=>Iff.rfl,hD⟩:cw 4 (fun _=>g) Dg.new (L.X g) w')) hf (hQ (fun _=>g)) rfl (fun _ _ h=>by cases h)
def qK:Ctr Un:=⟨[.one (.obj 0 0),.one (.sl 1)],[(2,5)],[.ob 4 [],.lst 1 false 29,.ob 5 []],[0],fun r d A c l rk kk K=>d.Ok∧l.length≤1099511627776∧K ⟨(.tuple #[]),(some (.t [])),[.ob 4 (d.add kk l)],[],[]⟩⟩
theorem Ee:LV Un prog 135 qK:=by
 show ∀(r:Nat→Nat)(d:Dg)(A:Option Addr)(c:Nat)(l:List U32)(rk:Nat→Nat)(kk:List Int),∀Q:Ou Un→Prop,(d.Ok∧l.length≤1099511627776∧Q ⟨(.tuple #[]),(some (.t [])),[.ob 4 (d.add kk l)],[],[]⟩)→∀(X:Nat→Nat→Prop)(w:World),Sat (U:=Un) [(.ob 4 r d),(.lst 1 false 29 A c l),(.ob 5 rk kk)] X w→av (U:=Un) [(.ob 4 r d),(.lst 1 false 29 A c l),(.ob 5 rk kk)] fr0 []→Calls prog 135 #[(.pointer (some (Addr.mk (r 0) 0 none))),(.slice A l.length c)] w (aT (U:=Un) [(.ob 4 r d),(.lst 1 false 29 A c l),(.ob 5 rk kk)] [0] X w Q)
 intro r d A c l rk kk Q hQ X w hs hl
 obtain⟨Kg,hlen,hQ⟩:=hQ
 obtain⟨L,hX,hD⟩:=(hs.res 0 _ rfl:cw 4 r d (X 0) w)
 have hr:Rd w (X 1) A l.length c l:=hs.res 1 _ rfl
 obtain⟨W6,hK⟩:=(hs.res 2 _ rfl:cw 5 rk kk (X 2) w)
 have h0:X 0 (r 0):=(hX _).1 (.inl rfl)
 refine(IN hD hr hK Kg hlen (fun h=>hs.dis 0 1 (by simp) (by simp) (by omega) _ h0 h) (fun h=>hs.dis 0 2 (by simp) (by simp) (by omega) _ h0 ((W6 _).1 h))).mono ?_
 rintro e w' ⟨u,rfl,L',rfl,hD',hg,q⟩
 exact aT.first (Z:=L'.X (r 0)) hs (q.mono fun k hk=>(hX k).1 hk) (show cw 4 r (d.add kk l) (L'.X (r 0)) w' from⟨L',fun _=>Iff.rfl,hD'⟩) (fun k hk=>(hg k hk).imp (fun h=>(hX k).1 h) id) hQ (KnO.tup _ (by simp))
def jM:Ctr Un:=⟨[.one (.obj 0 0)],[],[.ob 4 []],[],fun r d K=>d.Ok∧K ⟨(.agg ⟨Dg.sv d⟩),none,[],[],[]⟩⟩
theorem ub:LV Un prog 126 jM:=by
 show ∀(r:Nat→Nat)(d:Dg),∀Q:Ou Un→Prop,(d.Ok∧Q ⟨(.agg ⟨Dg.sv d⟩),none,[],[],[]⟩)→∀(X:Nat→Nat→Prop)(w:World),Sat (U:=Un) [(.ob 4 r d)] X w→av (U:=Un) [(.ob 4 r d)] fr0 []→Calls prog 126 #[(.pointer (some (Addr.mk (r 0) 0 none)))] w (aT (U:=Un) [(.ob 4 r d)] [] X w Q)
 intro r d Q hQ X w hs hl
 obtain⟨Kg,hQ⟩:=hQ
 obtain⟨L,hX,hD⟩:=(hs.res 0 _ rfl:cw 4 r d (X 0) w)
 refine(HP hD Kg).mono ?_
 rintro e w' ⟨u,rfl,rfl,q⟩
 rw [CH (by rw [Dg.j7 Kg])]
 exact aT.pu hs q hQ trivial
end
end Go.Proofs.YtinhphjfnedhgaaGreatDoor
namespace Go.Proofs.YtinhphjfnedhgaaGreatDoor
open Go.Proofs.Tryz (prog)
open Go Go.RowKit V
open Go.IntKind (i64 u32 u64)
section
theorem Mem.cC(m:Mem)(s:Bool)(p:Nat):(m.words s p).length=1024:=by rw [Mem.words,List.length_map,List.length_range]
theorem Mem.Gp(m:Mem)(s:Bool)(p o:Int):m.rd s p o=m:=by unfold Mem.rd;split<;>rfl
theorem A4 {w:World} {L:dR} {m:Mem}(h:bY w L m):Calls prog 55 #[ptr L.g] w fun e w'=>∃v,e= .returned v∧v= .int .i64 m.I∧w'=w:=by
 obtain⟨T,hd⟩:=h.hd
 exact oK _ (Fv hd rfl ⟨rfl,rfl⟩)
section
variable {w:World} {g:Nat} {L:jN} {m:Mem}
end
end
end Go.Proofs.YtinhphjfnedhgaaGreatDoor
namespace Go.Proofs.YtinhphjfnedhgaaGreatDoor
open Go.Proofs.Tryz (prog)
open Go Go.RowKit V
open Go.IntKind (i64 u32 u64)
section
set_option maxRecDepth 100000
set_option maxHeartbeats 1000000
attribute [local irreducible] Vc2 VcD
def jP:Ctr Un:=⟨[.one (.obj 0 0),.agg [.bool,.int .i64],.one (.int .i64)],[],[.ob 0 []],[0],fun fa fb off rm m K=>K ⟨(.tuple #[(.int .u32 (m.bw fa fb off)),(.int .i64 (m.err fa fb off))]),(some (.t [none,none])),[.ob 0 m],[],[]⟩⟩
theorem um:LV Un prog 92 jP:=by
 show ∀(fa:Bool)(fb:Int)(off:Int)(rm:Nat→Nat)(m:Mem),∀Q:Ou Un→Prop,(Q ⟨(.tuple #[(.int .u32 (m.bw fa fb off)),(.int .i64 (m.err fa fb off))]),(some (.t [none,none])),[.ob 0 m],[],[]⟩)→∀(X:Nat→Nat→Prop)(w:World),Sat (U:=Un) [(.ob 0 rm m)] X w→av (U:=Un) [(.ob 0 rm m)] fr0 []→Calls prog 92 #[(.pointer (some (Addr.mk (rm 0) 0 none))),(.agg #[(.bool fa),(.int .i64 fb)]),(.int .i64 off)] w (aT (U:=Un) [(.ob 0 rm m)] [0] X w Q)
 intro fa fb off rm m Q hQ X w hs hl
 obtain⟨L,hg,hM,hX⟩:=lx hs
 rw [hg]
 refine(Gv hM fa fb off).mono ?_
 rintro e w' ⟨u,rfl,rfl,h2,q⟩
 rw [Mem.Gp]at h2
 exact aT.one (Z:=X 0) (q.mono fun k hk=>(hX k).1 hk) (show cw 0 rm _ (X 0) w' from⟨L,hg,hX,h2⟩) (fun k hk=>.inl hk) hQ (KnO.tup _ (by simp))
def er:Ctr Un:=⟨[.one (.obj 0 0)],[],[.ob 0 []],[],fun rm m K=>K ⟨(.int .i64 (m.I:Int)),none,[],[],[]⟩⟩
theorem kF:LV Un prog 55 er:=by
 show ∀(rm:Nat→Nat)(m:Mem),∀Q:Ou Un→Prop,(Q ⟨(.int .i64 (m.I:Int)),none,[],[],[]⟩)→∀(X:Nat→Nat→Prop)(w:World),Sat (U:=Un) [(.ob 0 rm m)] X w→av (U:=Un) [(.ob 0 rm m)] fr0 []→Calls prog 55 #[(.pointer (some (Addr.mk (rm 0) 0 none)))] w (aT (U:=Un) [(.ob 0 rm m)] [] X w Q)
 intro rm m Q hQ X w hs hl
 obtain⟨L,hg,hM,hX⟩:=lx hs
 rw [hg]
 refine(A4 hM).mono ?_
 rintro e w' ⟨u,rfl,rfl,q⟩
 subst q
 exact aT.pu hs (Ch.refl _ _) hQ trivial
def jR:Ctr Un:=⟨[.one (.obj 0 0),.agg [.bool,.int .i64],.agg [.bool,.int .i64]],[],[.ob 0 []],[0],fun fa fb fc fd rm m K=>K ⟨(.int .i64 (m.ku fa fb fc fd)),none,[.ob 0 (m.copy fa fb fc fd)],[],[]⟩⟩
theorem uv:LV Un prog 66 jR:=by
 show ∀(fa:Bool)(fb:Int)(fc:Bool)(fd:Int)(rm:Nat→Nat)(m:Mem),∀Q:Ou Un→Prop,(Q ⟨(.int .i64 (m.ku fa fb fc fd)),none,[.ob 0 (m.copy fa fb fc fd)],[],[]⟩)→∀(X:Nat→Nat→Prop)(w:World),Sat (U:=Un) [(.ob 0 rm m)] X w→av (U:=Un) [(.ob 0 rm m)] fr0 []→Calls prog 66 #[(.pointer (some (Addr.mk (rm 0) 0 none))),(.agg #[(.bool fa),(.int .i64 fb)]),(.agg #[(.bool fc),(.int .i64 fd)])] w (aT (U:=Un) [(.ob 0 rm m)] [0] X w Q)
 intro fa fb fc fd rm m Q hQ X w hs hl
 obtain⟨L,hg,hM,hX⟩:=lx hs
 rw [hg]
 refine(H7 hM fa fb fc fd).mono ?_
 rintro e w' ⟨u,rfl,rfl,h2,q⟩
 exact aT.one (Z:=X 0) (q.mono fun k hk=>(hX k).1 hk) (show cw 0 rm _ (X 0) w' from⟨L,hg,hX,h2⟩) (fun k hk=>.inl hk) hQ trivial
def jQ:Ctr Un:=⟨[.one (.obj 0 0),.agg [.bool,.int .i64]],[],[.ob 0 []],[0],fun fa fb rm m K=>split (m.has fa fb) (∀(A:Option Addr),K ⟨(.tuple #[(.slice A ((m.words fa fb.toNat).length) 1024),(.int .i64 0)]),(some (.t [(some (.sl 1 0)),none])),[.ob 0 m],[(.lst 1 true 29 A 1024 (m.words fa fb.toNat))],[]⟩) (K ⟨(.tuple #[(.slice none 0 0),(.int .i64 5)]),(some (.t [none,none])),[.ob 0 m],[],[]⟩)⟩
theorem uo:LV Un prog 69 jQ:=by
 show ∀(fa:Bool)(fb:Int)(rm:Nat→Nat)(m:Mem),∀Q:Ou Un→Prop,(split (m.has fa fb) (∀(A:Option Addr),Q ⟨(.tuple #[(.slice A ((m.words fa fb.toNat).length) 1024),(.int .i64 0)]),(some (.t [(some (.sl 1 0)),none])),[.ob 0 m],[(.lst 1 true 29 A 1024 (m.words fa fb.toNat))],[]⟩) (Q ⟨(.tuple #[(.slice none 0 0),(.int .i64 5)]),(some (.t [none,none])),[.ob 0 m],[],[]⟩))→∀(X:Nat→Nat→Prop)(w:World),Sat (U:=Un) [(.ob 0 rm m)] X w→av (U:=Un) [(.ob 0 rm m)] fr0 []→Calls prog 69 #[(.pointer (some (Addr.mk (rm 0) 0 none))),(.agg #[(.bool fa),(.int .i64 fb)])] w (aT (U:=Un) [(.ob 0 rm m)] [0] X w Q)
 intro fa fb rm m Q hQ X w hs hl
 obtain⟨L,hg,hM,hX⟩:=lx hs
 rw [hg]
 refine(H6 hM fa fb).mono ?_
 rintro e w' ⟨u,rfl,⟨hh,h2,q,g,rfl,WD,JM,ho⟩ | ⟨hh,rfl,q⟩⟩
 ·have hQ:=bK hQ hh (some (Addr.mk g 0 none))
  rw [Mem.cC]at hQ
  have hr:RS (U:=Un) (fun k=>k=g) w' (.lst 1 true 29 (some (Addr.mk g 0 none)) 1024 (m.words fa fb.toNat)):=⟨(by have h9:=Mem.cC m fa fb.toNat;show Own w' _ _ _ (m.words fa fb.toNat).length _ _;rw [h9];exact ho),fun k hk=>hk▸JM⟩
  exact aT.C1 (k:=some (.t [some (.sl 1 0),none])) (kc:= []) (Z0:=X 0) (q.mono fun k hk=>(hX k).1 hk) (show cw 0 rm m (X 0) w' from⟨L,hg,hX,h2⟩) (fun k hk=>.inl hk) hr (fun k hk=>hk▸WD) (fun k h1 h3=>by have:=hs.lt (i:=0) (by simp) k h1;omega) hQ (KnO.pair (by show some (Value.slice _ (m.words fa fb.toNat).length _)=_;rw [Mem.cC])) (fun _ _ h=>by cases h)
 ·exact aT.one (Z:=X 0) (q.mono fun k hk=>hk.elim) (show cw 0 rm m (X 0) w' from⟨L,hg,hX,hM.pu q⟩) (fun k hk=>.inl hk) (bL hQ hh) (KnO.tup _ (by simp))
end
end Go.Proofs.YtinhphjfnedhgaaGreatDoor
namespace Go.Proofs.YtinhphjfnedhgaaGreatDoor
open Go.Proofs.Tryz (prog)
open Go Go.RowKit V
open Go.IntKind (i64 u32 u64)
section
set_option maxRecDepth 10000
set_option maxHeartbeats 1000000
theorem EX {w:World}(ma:Bool)(mb:Int)(mc:Bool)(md:Bool):
 Calls prog 133 #[(.agg #[(.bool ma),(.int .i64 mb),(.bool mc),(.bool md)])] w fun e w'=>∃v,e= .returned v∧v= .tuple #[(.int .u32 ((Mp.mk ma mb mc md).word)),(.int .i64 ((Mp.mk ma mb mc md).err))]∧Pu w w':=by
 refine rA _ _ _ _ ?_
 have hp:=Ch.refl (fun _=>False) w
 refine mkd fun gv wv Jh=>?_
 have I7:=Jh.blk
 refine⟨fun x w'=>x=((decide ((mb:Int)<0)) || (decide ((mb:Int)>63)))∧Pu wv w',?_,?_⟩
 ·refine⟨_,I7.at2 rfl,?_⟩
  refine ae (fun c1=>?_) (fun c1=>?_)
  ·exact⟨by simp only [c1,Bool.true_and,Bool.and_true,Bool.false_and,Bool.and_false,Bool.true_or,Bool.or_true,Bool.false_or,Bool.or_false,Bool.not_true,Bool.not_false,if_true,if_false,Bool.false_eq_true],Ch.refl _ _⟩
  ·refine⟨_,I7.at2 rfl,?_⟩
   exact⟨by simp only [c1,Bool.true_and,Bool.and_true,Bool.false_and,Bool.and_false,Bool.true_or,Bool.or_true,Bool.false_or,Bool.or_false,Bool.not_true,Bool.not_false,if_true,if_false,Bool.false_eq_true],Ch.refl _ _⟩
 rintro _ _ Jb ⟨rfl,Jf⟩
 refine cH (fun c2=>?_) (fun c2=>?_)
 ·have hp:=Ch.pu (Ch.made hp Jh) Jf
  exact⟨congrArg Value.tuple (rz (congrArg (Value.int .u32) (by grind [Mp.word,Mp.err,Mp.bits])) (congrArg (Value.int .i64) (by grind [Mp.word,Mp.err,Mp.bits]))),hp⟩
 ·refine⟨fun x w'=>x=(md && (!ma))∧Pu Jb w',?_,?_⟩
  ·have I7:=Pu.blk Jf I7
   refine⟨_,I7.at rfl,?_⟩
   refine ae (fun c3=>?_) (fun c3=>?_)
   ·refine⟨_,I7.at2 rfl,?_⟩
    exact⟨by simp only [c3,Bool.true_and,Bool.and_true,Bool.false_and,Bool.and_false,Bool.true_or,Bool.or_true,Bool.false_or,Bool.or_false,Bool.not_true,Bool.not_false,if_true,if_false,Bool.false_eq_true],Ch.refl _ _⟩
   ·exact⟨by simp only [c3,Bool.true_and,Bool.and_true,Bool.false_and,Bool.and_false,Bool.true_or,Bool.or_true,Bool.false_or,Bool.or_false,Bool.not_true,Bool.not_false,if_true,if_false,Bool.false_eq_true],Ch.refl _ _⟩
  rintro _ _ Jc ⟨rfl,JI⟩
  refine eA (fun c4=>?_) (fun c4=>?_)
  ·have hp:=Ch.pu (Ch.pu (Ch.made hp Jh) Jf) JI
   exact⟨congrArg Value.tuple (rz (congrArg (Value.int .u32) (by grind [Mp.word,Mp.err,Mp.bits])) (congrArg (Value.int .i64) (by grind [Mp.word,Mp.err,Mp.bits]))),hp⟩
  ·have P3:0≤mb∧mb<64:=by grind
   have I7:=Pu.blk JI (Pu.blk Jf I7)
   refine⟨_,I7.at2 rfl,?_⟩
   rintro _ rfl
   refine⟨_,I7.at2 rfl,⟨_,I7.at rfl,⟨_,I7.at rfl,?_⟩⟩⟩
   refine mkd fun Ju Jq Km=>?_
   have I8:=Km.blk
   have hp:=Ch.made (Ch.pu (Ch.pu (Ch.made hp Jh) Jf) JI) Km
   have I7:=Made.old Km I7
   refine⟨fun mz JP Lx W=>Ch (fun _=>False) w W∧(∃T,Blk W gv #[(.bool ma),(.int .i64 mb),(.bool mc),(.bool md)] T)∧(∃T,Blk W Ju #[(.bool ma),(.int .u32 2),(.bool mc),(.int .u32 4),(.bool md),(.int .u32 8)] T)∧((mz=3∧JP=(256*mb+1)∧Lx=0)∨(mz=2∧JP=(256*mb+(1+(if ma then 2 else 0)))∧Lx=1)∨(mz=1∧JP=(256*mb+(1+(if ma then 2 else 0)+(if mc then 4 else 0)))∧Lx=2)∨(mz=0∧JP=(256*mb+(1+(if ma then 2 else 0)+(if mc then 4 else 0)+(if md then 8 else 0)))∧Lx=3)),⟨_,hp,⟨_,I7⟩,⟨_,I8⟩,.inl ⟨rfl,by exact CW P3,rfl⟩⟩,?_⟩
   rintro _ _ JP Lx J0 ⟨hp,⟨_,I7⟩,⟨_,I8⟩,hU⟩
   rcases hU with⟨rfl,rfl,rfl⟩ | ⟨rfl,rfl,rfl⟩ | ⟨rfl,rfl,rfl⟩ | ⟨rfl,rfl,rfl⟩
   ·refine dL ⟨by decide,⟨_,_,⟨I8.at2 rfl,I8.at2 rfl⟩,?_⟩⟩
    refine mkd fun NX JU Jt=>?_
    have KR:=Jt.lo hp
    have JV:=Jt.ne I7
    have ne_gv3_gv5:=Jt.ne I8
    have Ks:=Jt.blk
    refine cv Ks (by simp) fun JN I9=>?_
    have Ks:Blk JN NX #[(.bool ma),(.int .u32 2)] _:=I9.blk
    refine⟨_,Ks.at rfl,?_⟩
    refine ae (fun c5=>?_) (fun c5=>?_)
    ·refine⟨_,Ks.at rfl,?_⟩
     rintro _ rfl
     have hp:=Ch.call (Ch.made hp Jt) I9.ch (by exact fun k e=>.inr (e▸KR))
     have I7:=Ch.blk I9.ch (Made.old Jt I7) (JV)
     have I8:=Ch.blk I9.ch (Made.old Jt I8) (ne_gv3_gv5)
     exact⟨2,by decide,hp,⟨_,I7⟩,⟨_,I8⟩,.inr (.inl ⟨rfl,by(rw [yk 1 2 (by decide) (by omega) P3 (a:=1) (by constructor<;>grind)];simp only [c2,c4,c5,if_true];done),rfl⟩)⟩
    ·have hp:=Ch.call (Ch.made hp Jt) I9.ch (by exact fun k e=>.inr (e▸KR))
     have I7:=Ch.blk I9.ch (Made.old Jt I7) (JV)
     have I8:=Ch.blk I9.ch (Made.old Jt I8) (ne_gv3_gv5)
     exact⟨2,by decide,hp,⟨_,I7⟩,⟨_,I8⟩,.inr (.inl ⟨rfl,by(simp [c2,c4,c5];done),rfl⟩)⟩
   ·refine dL ⟨by decide,⟨_,_,⟨I8.at2 rfl,I8.at2 rfl⟩,?_⟩⟩
    refine mkd fun NX JU Jt=>?_
    have KR:=Jt.lo hp
    have JV:=Jt.ne I7
    have ne_gv3_gv5:=Jt.ne I8
    have Ks:=Jt.blk
    refine cv Ks (by simp) fun JN I9=>?_
    have Ks:Blk JN NX #[(.bool mc),(.int .u32 4)] _:=I9.blk
    refine⟨_,Ks.at rfl,?_⟩
    refine ae (fun c6=>?_) (fun c6=>?_)
    ·refine⟨_,Ks.at rfl,?_⟩
     rintro _ rfl
     have hp:=Ch.call (Ch.made hp Jt) I9.ch (by exact fun k e=>.inr (e▸KR))
     have I7:=Ch.blk I9.ch (Made.old Jt I7) (JV)
     have I8:=Ch.blk I9.ch (Made.old Jt I8) (ne_gv3_gv5)
     exact⟨1,by decide,hp,⟨_,I7⟩,⟨_,I8⟩,.inr (.inr (.inl ⟨rfl,by(rw [yk 2 4 (by decide) (by omega) P3 (a:=(1+(if ma then 2 else 0))) (by constructor<;>grind)];simp only [c2,c4,c6,if_true];done),rfl⟩))⟩
    ·have hp:=Ch.call (Ch.made hp Jt) I9.ch (by exact fun k e=>.inr (e▸KR))
     have I7:=Ch.blk I9.ch (Made.old Jt I7) (JV)
     have I8:=Ch.blk I9.ch (Made.old Jt I8) (ne_gv3_gv5)
     exact⟨1,by decide,hp,⟨_,I7⟩,⟨_,I8⟩,.inr (.inr (.inl ⟨rfl,by(simp [c2,c4,c6];done),rfl⟩))⟩
   ·refine dL ⟨by decide,⟨_,_,⟨I8.at2 rfl,I8.at2 rfl⟩,?_⟩⟩
    refine mkd fun NX JU Jt=>?_
    have KR:=Jt.lo hp
    have JV:=Jt.ne I7
    have ne_gv3_gv5:=Jt.ne I8
    have Ks:=Jt.blk
    refine cv Ks (by simp) fun JN I9=>?_
    have Ks:Blk JN NX #[(.bool md),(.int .u32 8)] _:=I9.blk
    refine⟨_,Ks.at rfl,?_⟩
    refine ae (fun c7=>?_) (fun c7=>?_)
    ·refine⟨_,Ks.at rfl,?_⟩
     rintro _ rfl
     have hp:=Ch.call (Ch.made hp Jt) I9.ch (by exact fun k e=>.inr (e▸KR))
     have I7:=Ch.blk I9.ch (Made.old Jt I7) (JV)
     have I8:=Ch.blk I9.ch (Made.old Jt I8) (ne_gv3_gv5)
     exact⟨0,by decide,hp,⟨_,I7⟩,⟨_,I8⟩,.inr (.inr (.inr (⟨rfl,by(rw [yk 3 8 (by decide) (by omega) P3 (a:=(1+(if ma then 2 else 0)+(if mc then 4 else 0))) (by constructor<;>grind)];simp only [c2,c4,c7,if_true];done),rfl⟩)))⟩
    ·have hp:=Ch.call (Ch.made hp Jt) I9.ch (by exact fun k e=>.inr (e▸KR))
     have I7:=Ch.blk I9.ch (Made.old Jt I7) (JV)
     have I8:=Ch.blk I9.ch (Made.old Jt I8) (ne_gv3_gv5)
     exact⟨0,by decide,hp,⟨_,I7⟩,⟨_,I8⟩,.inr (.inr (.inr (⟨rfl,by(simp [c2,c4,c7];done),rfl⟩)))⟩
   ·refine kY ?_
    exact⟨congrArg Value.tuple (rz (congrArg (Value.int .u32) (by grind [Mp.word,Mp.err,Mp.bits])) (congrArg (Value.int .i64) (by grind [Mp.word,Mp.err,Mp.bits]))),hp⟩
end
end Go.Proofs.YtinhphjfnedhgaaGreatDoor
namespace Go.Proofs.YtinhphjfnedhgaaGreatDoor
open Go.Proofs.Tryz (prog)
open Go Go.RowKit V
open Go.IntKind (i64 u32 u64)
section
set_option maxRecDepth 100000
set_option maxHeartbeats 1000000
attribute [local irreducible] Vc2 VcD
def hO:Ctr Un:=⟨[.one (.int .i64)],[],[],[],fun p K=>K ⟨(.tuple #[(.int .u32 (dI p)),(.int .i64 (ei p))]),(some (.t [none,none])),[],[],[]⟩⟩
def D7(p:Int)(Q:Ou Un→Prop):Prop:=
 ∃J:Bool→Prop,(
  split (decide (p<0)) (
   J true) (
   J (decide (p≥64))))∧∀(L5:Nat→Value)(x9:Bool),J x9→
 split x9 (
  Q ⟨(.tuple #[(.int .u32 0),(.int .i64 4)]),(some (.t [none,none])),[],[],[]⟩) (
  Q ⟨(.tuple #[(.int .u32 (u32.wrap (BitVec.ofInt u32.bits (u32.wrap ((u32.wrap p)*2 ^ 8)) ||| BitVec.ofInt u32.bits 1).toNat)),(.int .i64 0)]),(some (.t [none,none])),[],[],[]⟩)
theorem D8:Vc2 Un prog (bc []) [] Tryz.f131 (.r' (.two (.two (.node [] (some ⟨[(9,(.one .bool))],[],upN 4 6,[]⟩) [] [] .leaf .leaf) .leaf) .leaf)) [] hO=(∀p,∀Q,(hO.body p Q)→D7 p Q):=by kernel_rfl
theorem wm:LV Un prog 131 hO:=verify Tryz.func131 aa (tb:= []) trivial (by kernel_rfl) (D8.mpr fun p Q h=>gA ((decide ((p:Int)<0)) || (decide ((p:Int)≥64))) (ae (fun c1=>(by grind)) fun c1=>(by grind))<| cH (fun c2=>au h (by(have h:¬(0≤p∧p<64):=by grind);simp [dI,ei,h]) rfl rfl) fun c2=>au h (by(have h:0≤p∧p<64:=by grind);rw [CW h];simp [dI,ei,h]) rfl rfl)
def eL:Ctr Un:=⟨[.one (.int .u32),.one (.int .i64),.one (.fn 131)],[],[],[],fun v x K=>∀(ra:Int)(re:Int),((ra=(if v≠0∧ei x=0∧dI x=v then x else 0)∧re=(if v=0 then 92 else if ei x=0∧dI x=v then 0 else 90)))→K ⟨(.tuple #[(.int .i64 ra),(.int .i64 re)]),(some (.t [none,none])),[],[],[]⟩⟩
def rC(v:Int)(x:Int)(Q:Ou Un→Prop):Prop:=
 split (v==0) (
  Q ⟨(.tuple #[(.int .i64 0),(.int .i64 92)]),(some (.t [none,none])),[],[],[]⟩) (
  ∃J:Bool→Prop,(
   split ((ei x) !=0) (
    J true) (
    J ((dI x) !=v)))∧∀(L5:Nat→Value)(Ms:Bool),J Ms→
  split Ms (
   Q ⟨(.tuple #[(.int .i64 0),(.int .i64 90)]),(some (.t [none,none])),[],[],[]⟩) (
   Q ⟨(.tuple #[(.int .i64 x),(.int .i64 0)]),(some (.t [none,none])),[],[],[]⟩))
theorem rD:Vc2 Un prog (bc [(131,hO)]) [] Tryz.f195 (.r' (.r' (.r' (.two (.r' (.two (.node [] (some ⟨[(26,(.one .bool))],[],upN 20 7,[]⟩) [] [] .leaf .leaf) .leaf)) .leaf)))) [] eL=(∀v x,∀Q,(eL.body v x Q)→rC v x Q):=by kernel_rfl
theorem rB:LV Un prog 195 eL:=verify Tryz.func195 aa (tb:= [(131,hO)]) ⟨wm,trivial⟩ (by kernel_rfl) (rD.mpr fun v x Q h=>by
 try skip
 exact aB (fun c1=>(h 0 92 (by omega))) fun c1=>gA ((((ei x):Int) !=0) || (((dI x):Int) !=v)) (ae (fun c2=>(by grind)) fun c2=>(by grind))<| cH (fun c3=>(h 0 90 (by grind))) fun c3=>(h x 0 (by grind)))
def eM:Ctr Un:=⟨[.one (.int .u32)],[],[],[],fun v K=>(0≤(v:Int)∧(v:Int)<4294967296)∧K ⟨(.tuple #[(.int .i64 (cE v)),(.int .i64 (vh v))]),(some (.t [none,none])),[],[],[]⟩⟩
def rF(v:Int)(Q:Ou Un→Prop):Prop:=
 ∀(ra:Int)(re:Int),
 ((ra=(if v≠0∧ei (i64.wrap (v.fdiv (2 ^ 8)))=0∧dI (i64.wrap (v.fdiv (2 ^ 8)))=v then(i64.wrap (v.fdiv (2 ^ 8)))else 0)∧re=(if v=0 then 92 else if ei (i64.wrap (v.fdiv (2 ^ 8)))=0∧dI (i64.wrap (v.fdiv (2 ^ 8)))=v then 0 else 90)))→
 Q ⟨(.tuple #[(.int .i64 ra),(.int .i64 re)]),(some (.t [none,none])),[],[],[]⟩
theorem rG:Vc2 Un prog (bc [(195,eL)]) [] Tryz.f182 .leaf [] eM=(∀v,∀Q,(eM.body v Q)→rF v Q):=by kernel_rfl
theorem rE:LV Un prog 182 eM:=verify Tryz.func182 aa (tb:= [(195,eL)]) ⟨rB,trivial⟩ (by kernel_rfl) (rG.mpr fun v Q h=>by
 obtain⟨Jl,h⟩:=h
 exact fun ra re f1=>(by(have e0:i64.wrap ((v:Int).fdiv (2 ^ 8))=v / 256:=by rw [ly,ax (by omega)];rfl);rw [e0]at f1;(have h1:(ei (v / 256)=0∧dI (v / 256)=v)↔CR v=true:=(by simp only [ei,dI,CR,decide_eq_true_eq];constructor<;>intro h<;>grind));(have h2:v=0→CR v=false:=by intro h;subst h;decide);exact au h (by simp only [h1]at f1;rw [f1.1,f1.2];simp only [cE,vh]<;>grind) rfl rfl))
def nY:Ctr Un:=⟨[.agg [.bool,.int .i64,.bool,.bool]],[],[],[],fun ma mb mc md K=>K ⟨(.tuple #[(.int .u32 ((Mp.mk ma mb mc md).word)),(.int .i64 ((Mp.mk ma mb mc md).err))]),(some (.t [none,none])),[],[],[]⟩⟩
theorem Bw:LV Un prog 133 nY:=by
 show ∀(ma:Bool)(mb:Int)(mc:Bool)(md:Bool),∀Q:Ou Un→Prop,(Q ⟨(.tuple #[(.int .u32 ((Mp.mk ma mb mc md).word)),(.int .i64 ((Mp.mk ma mb mc md).err))]),(some (.t [none,none])),[],[],[]⟩)→∀(X:Nat→Nat→Prop)(w:World),Sat (U:=Un) [] X w→av (U:=Un) [] fr0 []→Calls prog 133 #[(.agg #[(.bool ma),(.int .i64 mb),(.bool mc),(.bool md)])] w (aT (U:=Un) [] [] X w Q)
 intro ma mb mc md Q hQ X w hs hl
 refine(EX ma mb mc md).mono ?_
 rintro e w' ⟨u,rfl,rfl,q⟩
 exact aT.pu hs q hQ (KnO.tup _ (by simp))
end
section
set_option maxRecDepth 100000
set_option maxHeartbeats 1000000
attribute [local irreducible] Vc2 VcD
attribute [local grind=] Pd.dF Pd.eD Pd.jC Pd.mB Pd.bJ Pd.g6 Pd.jB Pd.gG Pd.mm
attribute [local grind .] Pd.Ok.ent
attribute [local grind→] Pd.Ok.dz
theorem uR {E:Pd} {m:Mem}(h:m.Wf)(p o:Int):0≤(E.on m).word p o∧(E.on m).word p o<4294967296:=by
 show 0≤m.bw true p o∧m.bw true p o<_
 unfold Mem.bw
 split
 ·exact h.1 _ _ _
 ·omega
structure xR(D:DB)(p:Int)(l:List I64)(n:Int):Prop where
 len:l.length=D.S
 val:∀q:Int,0≤q→q<(D.S:Int)→(l.getD q.toNat (I64.mk 0)).v=D.named p n q
theorem qb(D:DB)(p q:Int) {n:Int}(h:0≤n):D.named p (n+1) q=D.named p n q+(if D.word p n !=0 && cE (D.word p n)==q then 1 else 0):=Bi h
theorem xR.zero(D:DB)(p:Int)(n:Nat)(h:n=D.S):xR D p (List.replicate n (I64.mk 0)) 0:=
 ⟨by simp [h],fun q h1 h2=>by rw [List.getD_eq_getElem?_getD,List.getElem?_replicate,if_pos (by omega)];rfl⟩
theorem xR.skip {D:DB} {p n:Int} {l:List I64}(h:xR D p l n)(h0:0≤n)(hw:D.word p n=0):xR D p l (n+1):=
 ⟨h.len,fun q h1 h2=>by rw [h.val q h1 h2,qb D p q h0,hw];simp⟩
theorem xR.put {D:DB} {p n:Int} {l:List I64}(h:xR D p l n)(h0:0≤n∧n<256)(hw:¬D.word p n=0)(hp:0≤cE (D.word p n)∧cE (D.word p n)<(D.S:Int)):
 xR D p (l.set (cE (D.word p n)).toNat (I64.mk (i64.wrap ((l.getD (cE (D.word p n)).toNat (I64.mk 0)).v+1)))) (n+1):=by
 refine⟨by simp [h.len],fun q h1 h2=>?_⟩
 have hr:=FD (f:=fun i=>D.word p i !=0 && cE (D.word p i)==cE (D.word p n)) h0.1
 have LW:=FE (f:=fun i=>D.word p i !=0 && cE (D.word p i)==cE (D.word p n)) (n:=n)
 have hv:=h.val _ hp.1 hp.2
 rw [qb D p q h0.1,List.getD_eq_getElem?_getD,List.getElem?_set]
 by_cases hq:cE (D.word p n)=q
 ·subst hq
  rw [if_pos rfl,if_pos (by rw [h.len];omega)]
  show i64.wrap _=_
  rw [hv]
  unfold DB.named at *
  rw [ax (by omega)]
  simp [hw]
 ·rw [if_neg (by omega),← List.getD_eq_getElem?_getD,h.val q h1 h2]
  simp [hq]
end
section
set_option maxRecDepth 100000
set_option maxHeartbeats 1000000
attribute [local irreducible] Vc2 VcD
attribute [local grind=] Pd.dF Pd.eD Pd.jC Pd.mB Pd.bJ Pd.g6 Pd.jB Pd.gG Pd.mm Pd.ru
attribute [local grind .] Pd.Ok.ent
attribute [local grind→] Pd.Ok.dz
section
attribute [local grind=] DB.entry DB.aS DB.of DB.is
end
section
attribute [local grind=] DB.entry DB.aS DB.of DB.is
end
section
attribute [local grind=] DB.entry DB.aS DB.of DB.is DB.tbl DB.cp DB.word
end
section
attribute [local grind=] DB.entry DB.aS DB.of DB.is DB.word DB.hH DB.add Pd.ki Mem.bB
end
section
attribute [local grind=] DB.entry DB.aS DB.of DB.is DB.word DB.dX DB.plP DB.bt DB.iD
end
section
attribute [local grind=] DB.entry DB.aS DB.of DB.is DB.word DB.dX DB.plP DB.bt DB.iD
end
section
attribute [local grind=] DB.entry DB.aS DB.of DB.is DB.word DB.dX DB.plP DB.bt DB.iD DB.dW DB.put Pd.ki Mem.bB
end
end
section
set_option maxRecDepth 100000
set_option maxHeartbeats 1000000
attribute [local irreducible] Vc2 VcD
attribute [local grind=] Pd.dF Pd.eD Pd.jC Pd.mB Pd.bJ Pd.g6 Pd.jB Pd.gG Pd.mm Pd.ru
attribute [local grind .] Pd.Ok.ent
attribute [local grind→] Pd.Ok.dz
section
attribute [local grind=] DB.aX
end
section
attribute [local grind=] DB.bj
end
section
attribute [local grind=] DB.aR DB.aX DB.entry
end
section
attribute [local grind=] DB.eG
end
section
attribute [local grind=] DB.bW Pd.r9 DB.aX DB.bj
end
section
attribute [local grind=] DB.bE DB.aX DB.bj
end
section
attribute [local grind=] DB.cR DB.word DB.aX DB.bj
end
section
attribute [local grind=] DB.cT DB.eE DB.fq DB.aX DB.bj
end
section
attribute [local grind=] DB.dj DB.eE DB.fq DB.aX DB.bj
end
end
section
set_option maxRecDepth 100000
end
end Go.Proofs.YtinhphjfnedhgaaGreatDoor
namespace Go.Proofs.YtinhphjfnedhgaaGreatDoor
open Go.Proofs.Tryz (prog)
open Go Go.RowKit V
open Go.IntKind (i64 u32 u64)
section
set_option maxRecDepth 10000
set_option maxHeartbeats 1000000
def DB.row(D:DB)(p:Nat):List Value:= [.int .i64 (p:Int),.agg #[.int .i64 (D.ent p).typ,.int .i64 (D.ent p).owner,.int .i64 (D.ent p).refs,.int .i64 (D.ent p).state,.bool (D.ent p).bS]]
def DB.rows(D:DB):List (List Value):=(List.range D.S).map D.row
def fg.XI(L:fg)(g:Nat):Nat→Prop:=fun k=>L.X k∨k=g
theorem DBP.it {L:fg} {D:DB} {w A:World} {g:Nat}(h:DBP w L D)(k:Kept (L.XI g) w A):DBP A L D:=h.ch (Ch.Fg k) fun _ hx hn=>hn (.inl hx)
end
end Go.Proofs.YtinhphjfnedhgaaGreatDoor
namespace Go.Proofs.YtinhphjfnedhgaaGreatDoor
open Go.Proofs.Tryz (prog)
open Go Go.RowKit V
open Go.IntKind (i64 u32 u64)
section
set_option maxRecDepth 100000
set_option maxHeartbeats 1000000
attribute [local irreducible] Vc2 VcD
attribute [local grind=] Pd.dF Pd.eD Pd.jC Pd.mB Pd.bJ Pd.g6 Pd.jB Pd.gG Pd.mm
attribute [local grind .] Pd.Ok.ent
attribute [local grind→] Pd.Ok.dz
def nc:Ctr Un:=⟨[.one (.obj 0 0),.agg [.bool,.int .i64],.one (.int .i64)],[],[.ob 0 []],[],fun fa fb off rm m K=>K ⟨(.int .u32 (m.bw fa fb off)),none,[],[],[]⟩⟩
theorem Ao:LV Un prog 33 nc:=by
 show ∀(fa:Bool)(fb:Int)(off:Int)(rm:Nat→Nat)(m:Mem),∀Q:Ou Un→Prop,(Q ⟨(.int .u32 (m.bw fa fb off)),none,[],[],[]⟩)→∀(X:Nat→Nat→Prop)(w:World),Sat (U:=Un) [(.ob 0 rm m)] X w→av (U:=Un) [(.ob 0 rm m)] fr0 []→Calls prog 33 #[(.pointer (some (Addr.mk (rm 0) 0 none))),(.agg #[(.bool fa),(.int .i64 fb)]),(.int .i64 off)] w (aT (U:=Un) [(.ob 0 rm m)] [] X w Q)
 intro fa fb off rm m Q hQ X w hs hl
 obtain⟨L,hg,hM,hX⟩:=lx hs
 rw [hg]
 refine(H5 hM fa fb off).mono ?_
 rintro e w' ⟨u,rfl,rfl,q⟩
 exact aT.pu hs q hQ trivial
def dq:Ctr Un:=⟨[.one (.obj 0 0),.agg [.bool,.int .i64],.one (.int .i64),.one (.int .u32)],[],[.ob 0 []],[0],fun fa fb off v rm m K=>(0≤(v:Int)∧(v:Int)<4294967296)∧K ⟨(.int .i64 (m.err fa fb off)),none,[.ob 0 (m.write fa fb off v)],[],[]⟩⟩
theorem jn:LV Un prog 42 dq:=by
 show ∀(fa:Bool)(fb:Int)(off:Int)(v:Int)(rm:Nat→Nat)(m:Mem),∀Q:Ou Un→Prop,((0≤(v:Int)∧(v:Int)<4294967296)∧Q ⟨(.int .i64 (m.err fa fb off)),none,[.ob 0 (m.write fa fb off v)],[],[]⟩)→∀(X:Nat→Nat→Prop)(w:World),Sat (U:=Un) [(.ob 0 rm m)] X w→av (U:=Un) [(.ob 0 rm m)] fr0 []→Calls prog 42 #[(.pointer (some (Addr.mk (rm 0) 0 none))),(.agg #[(.bool fa),(.int .i64 fb)]),(.int .i64 off),(.int .u32 v)] w (aT (U:=Un) [(.ob 0 rm m)] [0] X w Q)
 intro fa fb off v rm m Q hQ X w hs hl
 obtain⟨Jl,hQ⟩:=hQ
 obtain⟨L,hg,hM,hX⟩:=lx hs
 rw [hg]
 refine(yo hM fa fb off v Jl).mono ?_
 rintro e w' ⟨u,rfl,rfl,h2,q⟩
 exact aT.one (Z:=X 0) (q.mono fun k hk=>(hX k).1 hk) (show cw 0 rm _ (X 0) w' from⟨L,hg,hX,h2⟩) (fun k hk=>.inl hk) hQ trivial
theorem G0 {r rm:Nat→Nat} {E:Pd} {m:Mem}(hl:av (U:=Un) [.ob 1 r E,.ob 0 rm m] fr0 [(.l 0 1,.p (.obj 1 0 0))]):r 1=rm 0:=by
 obtain⟨t',r',s',Pp,hk⟩:=hl _ _ (List.mem_singleton.2 rfl)
 simp only [nth,Option.some.injEq,Res.ob.injEq]at Pp
 obtain⟨rfl,rfl,_⟩:=Pp
 have hk:some (Value.pointer (some ⟨rm 0,0,none⟩))=some (Value.pointer (some ⟨r 1,0,none⟩)):=hk
 simp only [Option.some.injEq,Value.pointer.injEq,Addr.mk.injEq]at hk
 exact hk.1.symm
def l4:Ctr Un:=⟨[.one (.obj 0 0)],[],[.ob 1 [(1,1,0)],.ob 0 []],[],fun r E rm m K=>K ⟨(.pointer (some (Addr.mk (r 1) 0 none))),(some (.p (.obj 1 0 0))),[],[],[]⟩⟩
def zn(r:Nat→Nat)(E:Pd)(rm:Nat→Nat)(m:Mem)(Q:Ou Un→Prop):Prop:=
 Pd.Ok E→
 Mem.Wf m→
 Q ⟨(.pointer (some (Addr.mk (r 1) 0 none))),(some (.p (.obj 1 0 0))),[],[],[]⟩
theorem zo:Vc2 Un prog (bc []) [] Tryz.f14 .leaf [] l4=(∀r (E:Pd) rm (m:Mem),∀Q,(l4.body r E rm m Q)→zn r E rm m Q):=by kernel_rfl
theorem zm:LV Un prog 14 l4:=verify Tryz.func14 aa (tb:= []) trivial (by kernel_rfl) (zo.mpr fun r E rm m Q h f1 f2=>h)
def aJ:Ctr Un:=⟨[.one (.obj 0 0)],[],[.ob 1 [(1,1,0)],.ob 0 []],[],fun r E rm m K=>K ⟨(.pointer (some (Addr.mk (rm 0) 0 none))),(some (.p (.obj 1 0 0))),[],[],[]⟩⟩
theorem bO:LV Un prog 14 aJ:=by
 show ∀(r:Nat→Nat)(E:Pd)(rm:Nat→Nat)(m:Mem),∀Q:Ou Un→Prop,(Q ⟨(.pointer (some (Addr.mk (rm 0) 0 none))),(some (.p (.obj 1 0 0))),[],[],[]⟩)→∀(X:Nat→Nat→Prop)(w:World),Sat (U:=Un) [(.ob 1 r E),(.ob 0 rm m)] X w→av (U:=Un) [(.ob 1 r E),(.ob 0 rm m)] fr0 [(.l 0 1,.p (.obj 1 0 0))]→Calls prog 14 #[(.pointer (some (Addr.mk (r 0) 0 none)))] w (aT (U:=Un) [(.ob 1 r E),(.ob 0 rm m)] [] X w Q)
 intro r E rm m Q hQ X w hs hl
 exact zm r E rm m Q (show Q ⟨.pointer (some (Addr.mk (r 1) 0 none)),some (.p (.obj 1 0 0)),[],[],[]⟩from(by rw [G0 hl];exact hQ)) X w hs hl
def kQ:Ctr Un:=⟨[.one (.obj 0 0)],[],[.ob 1 [(1,1,0)],.ob 0 []],[],fun r E rm m K=>E.n=m.S∧K ⟨(.int .i64 ((E.on m).S:Int)),none,[],[],[]⟩⟩
theorem xJ:LV Un prog 120 kQ:=by
 show ∀(r:Nat→Nat)(E:Pd)(rm:Nat→Nat)(m:Mem),∀Q:Ou Un→Prop,(E.n=m.S∧Q ⟨(.int .i64 ((E.on m).S:Int)),none,[],[],[]⟩)→∀(X:Nat→Nat→Prop)(w:World),Sat (U:=Un) [(.ob 1 r E),(.ob 0 rm m)] X w→av (U:=Un) [(.ob 1 r E),(.ob 0 rm m)] fr0 [(.l 0 1,.p (.obj 1 0 0))]→Calls prog 120 #[(.pointer (some (Addr.mk (r 0) 0 none)))] w (aT (U:=Un) [(.ob 1 r E),(.ob 0 rm m)] [] X w Q)
 intro r E rm m Q hQ X w hs hl
 obtain⟨hn,hQ⟩:=hQ
 obtain⟨a,L,hg,hr,hD,LX,Mi⟩:=vl hs hl hn
 refine(DG hD).mono ?_
 rintro e w' ⟨u,rfl,rfl,rfl⟩
 exact aT.pu hs (Ch.refl _ _) hQ trivial
def cB:Ctr Un:=⟨[.one (.obj 0 0),.one (.int .i64)],[],[.ob 1 [(1,1,0)],.ob 0 []],[],fun p r E rm m K=>E.n=m.S∧K ⟨(.tuple #[(.agg #[(.int .i64 (((E.on m).entry p).typ)),(.int .i64 (((E.on m).entry p).owner)),(.int .i64 (((E.on m).entry p).refs)),(.int .i64 (((E.on m).entry p).state)),(.bool (((E.on m).entry p).bS))]),(.int .i64 ((E.on m).aS p))]),(some (.t [none,none])),[],[],[]⟩⟩
theorem gm:LV Un prog 18 cB:=by
 show ∀(p:Int)(r:Nat→Nat)(E:Pd)(rm:Nat→Nat)(m:Mem),∀Q:Ou Un→Prop,(E.n=m.S∧Q ⟨(.tuple #[(.agg #[(.int .i64 (((E.on m).entry p).typ)),(.int .i64 (((E.on m).entry p).owner)),(.int .i64 (((E.on m).entry p).refs)),(.int .i64 (((E.on m).entry p).state)),(.bool (((E.on m).entry p).bS))]),(.int .i64 ((E.on m).aS p))]),(some (.t [none,none])),[],[],[]⟩)→∀(X:Nat→Nat→Prop)(w:World),Sat (U:=Un) [(.ob 1 r E),(.ob 0 rm m)] X w→av (U:=Un) [(.ob 1 r E),(.ob 0 rm m)] fr0 [(.l 0 1,.p (.obj 1 0 0))]→Calls prog 18 #[(.pointer (some (Addr.mk (r 0) 0 none))),(.int .i64 p)] w (aT (U:=Un) [(.ob 1 r E),(.ob 0 rm m)] [] X w Q)
 intro p r E rm m Q hQ X w hs hl
 obtain⟨hn,hQ⟩:=hQ
 obtain⟨a,L,hg,hr,hD,LX,Mi⟩:=vl hs hl hn
 refine(Hl hD p).mono ?_
 rintro e w' ⟨u,rfl,rfl,q⟩
 exact aT.pu hs q hQ (KnO.tup _ (by simp))
def dB:Ctr Un:=⟨[.one (.obj 0 0),.one (.int .i64),.one (.int .i64)],[],[.ob 1 [(1,1,0)],.ob 0 []],[0,1],fun p q r E rm m K=>E.n=m.S∧K ⟨(.int .i64 ((E.on m).aO p q)),none,[.ob 1 (((E.on m).aM p q).pd),.ob 0 (((E.on m).aM p q).mem)],[],[]⟩⟩
theorem jW:LV Un prog 60 dB:=by
 show ∀(p:Int)(q:Int)(r:Nat→Nat)(E:Pd)(rm:Nat→Nat)(m:Mem),∀Q:Ou Un→Prop,(E.n=m.S∧Q ⟨(.int .i64 ((E.on m).aO p q)),none,[.ob 1 (((E.on m).aM p q).pd),.ob 0 (((E.on m).aM p q).mem)],[],[]⟩)→∀(X:Nat→Nat→Prop)(w:World),Sat (U:=Un) [(.ob 1 r E),(.ob 0 rm m)] X w→av (U:=Un) [(.ob 1 r E),(.ob 0 rm m)] fr0 [(.l 0 1,.p (.obj 1 0 0))]→Calls prog 60 #[(.pointer (some (Addr.mk (r 0) 0 none))),(.int .i64 p),(.int .i64 q)] w (aT (U:=Un) [(.ob 1 r E),(.ob 0 rm m)] [0,1] X w Q)
 intro p q r E rm m Q hQ X w hs hl
 obtain⟨hn,hQ⟩:=hQ
 obtain⟨a,L,hg,hr,hD,LX,Mi⟩:=vl hs hl hn
 refine(yE hD p q).mono ?_
 rintro e w' ⟨u,rfl,rfl,h2,q⟩
 exact zN hs LX Mi hg hr h2 q hQ trivial
def fA:Ctr Un:=⟨[.one (.obj 0 0),.one (.int .i64),.one (.int .i64),.one (.int .i64)],[],[.ob 1 [(1,1,0)],.ob 0 []],[0,1],fun p t o r E rm m K=>E.n=m.S∧K ⟨(.int .i64 ((E.on m).aZ p t o)),none,[.ob 1 (((E.on m).take p t o).pd),.ob 0 (((E.on m).take p t o).mem)],[],[]⟩⟩
theorem nm:LV Un prog 64 fA:=by
 show ∀(p:Int)(t:Int)(o:Int)(r:Nat→Nat)(E:Pd)(rm:Nat→Nat)(m:Mem),∀Q:Ou Un→Prop,(E.n=m.S∧Q ⟨(.int .i64 ((E.on m).aZ p t o)),none,[.ob 1 (((E.on m).take p t o).pd),.ob 0 (((E.on m).take p t o).mem)],[],[]⟩)→∀(X:Nat→Nat→Prop)(w:World),Sat (U:=Un) [(.ob 1 r E),(.ob 0 rm m)] X w→av (U:=Un) [(.ob 1 r E),(.ob 0 rm m)] fr0 [(.l 0 1,.p (.obj 1 0 0))]→Calls prog 64 #[(.pointer (some (Addr.mk (r 0) 0 none))),(.int .i64 p),(.int .i64 t),(.int .i64 o)] w (aT (U:=Un) [(.ob 1 r E),(.ob 0 rm m)] [0,1] X w Q)
 intro p t o r E rm m Q hQ X w hs hl
 obtain⟨hn,hQ⟩:=hQ
 obtain⟨a,L,hg,hr,hD,LX,Mi⟩:=vl hs hl hn
 refine(Im hD p t o).mono ?_
 rintro e w' ⟨u,rfl,rfl,h2,q⟩
 exact zN hs LX Mi hg hr h2 q hQ trivial
def uJ:Ctr Un:=⟨[.one (.obj 0 0),.one (.int .i64)],[],[.ob 1 [(1,1,0)],.ob 0 []],[0,1],fun p r E rm m K=>E.n=m.S∧K ⟨(.int .i64 ((E.on m).cO p)),none,[.ob 1 (((E.on m).eC p).pd),.ob 0 (((E.on m).eC p).mem)],[],[]⟩⟩
theorem Gk:LV Un prog 45 uJ:=by
 show ∀(p:Int)(r:Nat→Nat)(E:Pd)(rm:Nat→Nat)(m:Mem),∀Q:Ou Un→Prop,(E.n=m.S∧Q ⟨(.int .i64 ((E.on m).cO p)),none,[.ob 1 (((E.on m).eC p).pd),.ob 0 (((E.on m).eC p).mem)],[],[]⟩)→∀(X:Nat→Nat→Prop)(w:World),Sat (U:=Un) [(.ob 1 r E),(.ob 0 rm m)] X w→av (U:=Un) [(.ob 1 r E),(.ob 0 rm m)] fr0 [(.l 0 1,.p (.obj 1 0 0))]→Calls prog 45 #[(.pointer (some (Addr.mk (r 0) 0 none))),(.int .i64 p)] w (aT (U:=Un) [(.ob 1 r E),(.ob 0 rm m)] [0,1] X w Q)
 intro p r E rm m Q hQ X w hs hl
 obtain⟨hn,hQ⟩:=hQ
 obtain⟨a,L,hg,hr,hD,LX,Mi⟩:=vl hs hl hn
 refine(Ir hD p).mono ?_
 rintro e w' ⟨u,rfl,rfl,h2,q⟩
 exact zN hs LX Mi hg hr h2 q hQ trivial
def kP:Ctr Un:=⟨[.one (.obj 0 0),.one (.int .i64),.one (.int .i64)],[],[.ob 1 [(1,1,0)],.ob 0 []],[0,1],fun p t r E rm m K=>E.n=m.S∧K ⟨(.int .i64 ((E.on m).aV p t)),none,[.ob 1 (((E.on m).setState p t).pd),.ob 0 (((E.on m).setState p t).mem)],[],[]⟩⟩
theorem xG:LV Un prog 43 kP:=by
 show ∀(p:Int)(t:Int)(r:Nat→Nat)(E:Pd)(rm:Nat→Nat)(m:Mem),∀Q:Ou Un→Prop,(E.n=m.S∧Q ⟨(.int .i64 ((E.on m).aV p t)),none,[.ob 1 (((E.on m).setState p t).pd),.ob 0 (((E.on m).setState p t).mem)],[],[]⟩)→∀(X:Nat→Nat→Prop)(w:World),Sat (U:=Un) [(.ob 1 r E),(.ob 0 rm m)] X w→av (U:=Un) [(.ob 1 r E),(.ob 0 rm m)] fr0 [(.l 0 1,.p (.obj 1 0 0))]→Calls prog 43 #[(.pointer (some (Addr.mk (r 0) 0 none))),(.int .i64 p),(.int .i64 t)] w (aT (U:=Un) [(.ob 1 r E),(.ob 0 rm m)] [0,1] X w Q)
 intro p t r E rm m Q hQ X w hs hl
 obtain⟨hn,hQ⟩:=hQ
 obtain⟨a,L,hg,hr,hD,LX,Mi⟩:=vl hs hl hn
 refine(Bf hD p t).mono ?_
 rintro e w' ⟨u,rfl,rfl,h2,q⟩
 exact zN hs LX Mi hg hr h2 q hQ trivial
end
section
set_option maxRecDepth 100000
set_option maxHeartbeats 1000000
attribute [local irreducible] Vc2 VcD
def kD:Ctr Un:=⟨[.one (.sl 0)],[],[.ob 7 []],[],fun rw l K=>dm l∧split (decide (Dg.ao l=0)) (∀(rN:Nat→Nat),K ⟨(.tuple #[(.pointer (some (Addr.mk (rN 0) 0 none))),(.int .i64 0)]),(some (.t [(some (.obj 1 0 0)),none])),[],[(.ob 4 rN (Dg.load l))],[]⟩) (∀(dp:Value),K ⟨(.tuple #[dp,(.int .i64 (Dg.ao l))]),(some (.t [none,none])),[],[],[]⟩)⟩
theorem wy:LV Un prog 70 kD:=by
 show ∀(rw:Nat→Nat)(l:List U32),∀Q:Ou Un→Prop,(dm l∧split (decide (Dg.ao l=0)) (∀(rN:Nat→Nat),Q ⟨(.tuple #[(.pointer (some (Addr.mk (rN 0) 0 none))),(.int .i64 0)]),(some (.t [(some (.obj 1 0 0)),none])),[],[(.ob 4 rN (Dg.load l))],[]⟩) (∀(dp:Value),Q ⟨(.tuple #[dp,(.int .i64 (Dg.ao l))]),(some (.t [none,none])),[],[],[]⟩))→∀(X:Nat→Nat→Prop)(w:World),Sat (U:=Un) [(.ob 7 rw l)] X w→av (U:=Un) [(.ob 7 rw l)] fr0 []→Calls prog 70 #[(.slice (some (Addr.mk (rw 0) 0 none)) l.length l.length)] w (aT (U:=Un) [(.ob 7 rw l)] [] X w Q)
 intro rw l Q hQ X w hs hl
 obtain⟨hw,hQ⟩:=hQ
 obtain⟨hX,NT⟩:=(hs.res 0 _ rfl:cw 7 rw l (X 0) w)
 have hr:Rd w (X 0) (some (Addr.mk (rw 0) 0 none)) l.length l.length l:=zJ hX NT
 refine(HQ hr hw).mono ?_
 rintro e w' ⟨u,rfl,p,rfl,Kg,q⟩
 by_cases he:Dg.ao l=0
 ·obtain⟨g,L,rfl,hD,WD⟩:=Kg he
  have hQ:=bK hQ (decide_eq_true he) (fun _=>g)
  rw [he]
  exact aT.sb (Z:=L.X g) hs q (show RS (U:=Un) (L.X g) w' (.ob 4 (fun _=>g) (Dg.load l))from(⟨L,fun _=>Iff.rfl,hD⟩:cw 4 (fun _=>g) (Dg.load l) (L.X g) w')) WD hQ (KnO.pair rfl) (fun _ _ h=>by cases h)
 ·exact aT.pu hs q (bL hQ (decide_eq_false he) (.pointer p)) (KnO.tup _ (by simp))
def fv:Ctr Un:=⟨[],[],[],[],fun K=>K ⟨(.agg ⟨Dg.sv Dg.new⟩),none,[],[],[]⟩⟩
def Ef(Q:Ou Un→Prop):Prop:=
 ∀(gv:Nat),
 ∀(s:List U32),s=(W26.n (W26.mk []))→
 ∀(rN:Nat→Nat),
 ∀(s1:Dg),s1=Dg.new→
 s1.Ok∧
 (s.length=26)∧
 ∀(s2:List U32),s2=(Dg.svL s1)→
 (s2.length=26)∧
 Q ⟨(.agg ⟨W26.c (W26.mk s2)⟩),none,[],[],[]⟩
theorem Eg:Vc2 Un prog (bc [(125,yX),(126,jM)]) [] Tryz.f62 .leaf [] fv=(∀Q,(fv.body Q)→Ef Q):=by kernel_rfl
theorem qM:LV Un prog 62 fv:=verify Tryz.func62 aa (tb:= [(125,yX),(126,jM)]) ⟨Hz,ub,trivial⟩ (by kernel_rfl) (Eg.mpr fun Q h gv s NM rN s1 MJ=>af (by rw [MJ];exact Dg.km) fun s1=>af (by rw [NM];rfl) fun s2 s2 JF=>af (by rw [JF];rfl) fun s3=>au h (by rw [JF,MJ];rfl) rfl rfl)
def gl:Ctr Un:=⟨[.agg [.int .i64,.int .u32],.one (.nsl)],[],[],[],fun k a K=>∀(A:Option Addr)(c:Nat),K ⟨(.slice A ([U32.mk (u32.wrap k),U32.mk a].length) c),(some (.p (.sl 0 0))),[],[(.lst 1 true 29 A c ([U32.mk (u32.wrap k),U32.mk a]))],[]⟩⟩
def wC(k:Int)(a:Int)(Q:Ou Un→Prop):Prop:=
 ∀(gv:Nat),
 ∀(Jj:Nat),
 ∀(l:List U32),l=([U32.mk (u32.wrap k),U32.mk a]:List U32)→
 (l.length*4≤140737488355328)∧
 ∀(A:Option Addr)(c:Nat),
 ∀(l1:List U32),l1=l→
 Q ⟨(.slice A l.length c),(some (.p (.sl 0 0))),[],[(.lst 1 true 29 A c l1)],[]⟩
theorem wD:Vc2 Un prog (bc []) [] Tryz.f219 .leaf [2] gl=(∀k a,∀Q,(gl.body k a Q)→wC k a Q):=by kernel_rfl
theorem wB:LV Un prog 219 gl:=verify Tryz.func219 aa (tb:= []) trivial (by kernel_rfl) (wD.mpr fun k a Q h gv Jj l Lh=>af (by grind) fun s1 A c l1 Vd=>(by(have hl9: [U32.mk (u32.wrap k),U32.mk a]=l1:=by subst_vars;rfl);exact au (h A c) (by grind) rfl (ab (congrArg (Res.lst (U:=Un) 1 true 29 _ _) ‹_›) rfl)))
def oB:Ctr Un:=⟨[.agg [.int .u32,.sl 0],.one (.nsl)],[],[.lst 1 false 29],[],fun a A0 c0 l K=>l.length≤1024∧∀(A:Option Addr)(c:Nat),K ⟨(.slice A (([U32.mk 3,U32.mk a]++(show List U32 from l)).length) c),(some (.p (.sl 1 0))),[],[(.lst 1 true 29 A c ([U32.mk 3,U32.mk a]++(show List U32 from l)))],[]⟩⟩
def wF(a:Int)(A0:Option Addr)(c0:Nat)(l:List U32)(Q:Ou Un→Prop):Prop:=
 ∀(gv:Nat),
 ∀(Jj:Nat),
 ∀(l1:List U32),l1=([U32.mk 3,U32.mk a]:List U32)→
 (l1.length*4≤140737488355328)∧
 ∀(A:Option Addr)(c:Nat),
 ∀(l2:List U32),l2=l1→
 ((l2.length+l.length)*4≤140737488355328)∧
 ∀(A1:Option Addr)(c1:Nat),
 ∀(l3:List U32),l3=(l2++l)→
 Q ⟨(.slice A1 ((l2++l).length) c1),(some (.p (.sl 1 0))),[],[(.lst 1 true 29 A1 c1 l3)],[]⟩
theorem wG:Vc2 Un prog (bc []) [] Tryz.f218 (.r' (.two (.node [] none [] [(2,[1]),(6,[1])] .leaf .leaf) .leaf)) [3] oB=(∀a A0 c0 (l:List U32),∀Q,(l.length≤1024∧∀(A:Option Addr)(c:Nat),Q ⟨(.slice A (([U32.mk 3,U32.mk a]++(show List U32 from l)).length) c),(some (.p (.sl 1 0))),[],[(.lst 1 true 29 A c ([U32.mk 3,U32.mk a]++(show List U32 from l)))],[]⟩)→wF a A0 c0 l Q):=by kernel_rfl
theorem wE:LV Un prog 218 oB:=verify Tryz.func218 aa (tb:= []) trivial (by kernel_rfl) (wG.mpr fun a A0 c0 l Q h=>by
 obtain⟨Jl,h⟩:=h
 exact fun gv Jj l1 Vd=>af (by subst_vars;simp;try omega) fun s1 A c l2 h_l2=>af (by subst_vars;simp;try omega) fun s2 A1 c1 l3 h_l3=>(by(have hl9: [U32.mk 3,U32.mk a]++l=l3:=by subst_vars;rfl);exact au (h A1 c1) (by grind) rfl (ab (congrArg (Res.lst (U:=Un) 1 true 29 _ _) ‹_›) rfl)))
def lY:Ctr Un:=⟨[.agg [.int .u32,.hdr],.one (.nsl)],[(0,8)],[.ob 8 []],[],fun a A0 n0 c0 rw x K=>(A0=Wt.A x∧n0=(Wt.l x).length∧c0=Wt.c x)∧(Wt.l x).length≤1024∧∀(A:Option Addr)(c:Nat),K ⟨(.slice A (([U32.mk 3,U32.mk a]++(show List U32 from(Wt.l x))).length) c),(some (.p (.sl 1 0))),[],[(.lst 1 true 29 A c ([U32.mk 3,U32.mk a]++(show List U32 from(Wt.l x))))],[]⟩⟩
theorem yZ:LV Un prog 218 lY:=by
 show ∀(a:Int)(A0:Option Addr)(n0:Nat)(c0:Nat) (rw:Nat→Nat)(x:Wt),∀Q:Ou Un→Prop,((A0=Wt.A x∧n0=(Wt.l x).length∧c0=Wt.c x)∧(Wt.l x).length≤1024∧∀(A:Option Addr)(c:Nat),Q ⟨(.slice A (([U32.mk 3,U32.mk a]++(show List U32 from(Wt.l x))).length) c),(some (.p (.sl 1 0))),[],[(.lst 1 true 29 A c ([U32.mk 3,U32.mk a]++(show List U32 from(Wt.l x))))],[]⟩)→∀(X:Nat→Nat→Prop)(w:World),Sat (U:=Un) [(.ob 8 rw x)] X w→av (U:=Un) [(.ob 8 rw x)] fr0 []→Calls prog 218 #[(.agg #[(.int .u32 a),(.slice A0 n0 c0)]),(.slice none 0 0)] w (aT (U:=Un) [(.ob 8 rw x)] [] X w Q)
 intro a A0 n0 c0 rw x Q hQ X w hs hl
 obtain⟨⟨rfl,rfl,rfl⟩,hle,hQ⟩:=hQ
 refine(wE a x.A x.c x.l (fun out=>Q out∧∃A c,out=⟨.slice A ([U32.mk 3,U32.mk a]++x.l).length c,some (.p (.sl 1 0)),[],[.lst 1 true 29 A c ([U32.mk 3,U32.mk a]++x.l)],[]⟩) ⟨hle,fun A c=>⟨hQ A c,A,c,rfl⟩⟩ X w (show Sat (U:=Un) [.lst 1 false 29 x.A x.c x.l] X w from Sat.swap (rs:= [.ob 8 rw x]) rfl (vt (x:=x)) hs) (fun _ _ h=>by cases h)).mono fun e w' h=>?_
 refine aT.swap (rs:= [.lst 1 false 29 x.A x.c x.l]) rfl (zA (x:=x)) (fun out h=>?_) (show aT (U:=Un) [.lst 1 false 29 x.A x.c x.l] [] X w _ e w' from h)
 obtain⟨h,A,c,rfl⟩:=h
 exact⟨h,id,rfl⟩
def jk:Ctr Un:=⟨[.agg [.int .i64,.int .u32,.nsl]],[],[],[],fun k a K=>((k:Int)=1∨(k:Int)=2∨(k:Int)=4)∧K ⟨(.tuple #[(.iface 260 (.agg #[(.int .i64 k),(.int .u32 a)])),(.int .i64 0)]),(some (.t [none,none])),[],[],[]⟩⟩
def BC(k:Int)(a:Int)(Q:Ou Un→Prop):Prop:=
 ∀(gv:Nat),
 ∃J:Bool→Prop,(
  split (k==3) (
   ∀x4:Bool,x4=((((0:Nat):Int):Int)==1024)→
   J x4) (
   ∀x4:Bool,x4=false→
   J x4))∧∀(Ka:Nat→Value)(x4:Bool),J x4→
 split x4 (
  Q ⟨(.tuple #[(.iface 258 (.agg #[(.int .u32 a),(.slice none 0 0)])),(.int .i64 0)]),(some (.t [none,none])),[],[],[]⟩) (
  ∃J1:Bool→Prop,(
   split (decide (k≥1)) (
    split (decide (k<5)) (
     split (k !=3) (
      ∀KE:Bool,KE=((((0:Nat):Int):Int)==0)→
      J1 KE) (
      ∀KE:Bool,KE=false→
      J1 KE)) (
     ∀KE:Bool,KE=false→
     J1 KE)) (
    ∀KE:Bool,KE=false→
    J1 KE))∧∀(J8:Nat→Value)(KE:Bool),J1 KE→
  split KE (
   Q ⟨(.tuple #[(.iface 260 (.agg #[(.int .i64 k),(.int .u32 a)])),(.int .i64 0)]),(some (.t [none,none])),[],[],[]⟩) (
   Q ⟨(.tuple #[.nilIface,(.int .i64 150)]),(some (.t [none,none])),[],[],[]⟩))
theorem BD:Vc2 Un prog (bc []) [4,20] Tryz.f134 (.r' (.two (.two (.two (.node [] (some ⟨[(4,(.one .bool))],[],upN 4 10,[]⟩) [] [] .leaf .leaf) (.r' (.two (.node [] (some ⟨[(20,(.one .bool))],[],upN 20 20,[]⟩) [] [] .leaf .leaf) .leaf))) .leaf) .leaf)) [] jk=(∀k a,∀Q,(jk.body k a Q)→BC k a Q):=by kernel_rfl
theorem BB:LV Un prog 134 jk:=verify Tryz.func134 aa (tb:= []) trivial (by kernel_rfl) (BD.mpr fun k a Q h=>by
 obtain⟨Jl,h⟩:=h
 exact fun gv=>gA (((k:Int)==3) && ((((0:Nat):Int):Int)==1024)) (ae (fun c1=>allEq<| (by grind)) fun c1=>allEq<| (by grind))<| eA (fun c2=>au h (congrArg (fun l=>Value.tuple (List.toArray l)) (ab (by grind) (ab rfl rfl))) rfl rfl) fun c2=>gA ((decide ((k:Int)≥1)) && ((decide ((k:Int)<5)) && (((k:Int) !=3) && ((((0:Nat):Int):Int)==0)))) (ae (fun c3=>ae (fun c4=>ae (fun c5=>allEq<| (by grind)) fun c5=>allEq<| (by grind)) fun c4=>allEq<| (by grind)) fun c3=>allEq<| (by grind))<| eA (fun c6=>h) fun c6=>au h (congrArg (fun l=>Value.tuple (List.toArray l)) (ab (by grind) (ab (cr (by grind)) rfl))) rfl rfl)
def jl:Ctr Un:=⟨[.agg [.int .i64,.int .u32,.hdr]],[],[],[],fun k a A0 n0 c0 K=>(k:Int)=3∧n0=1024∧K ⟨(.tuple #[(.iface 258 (.agg #[(.int .u32 a),(.slice A0 n0 c0)])),(.int .i64 0)]),(some (.t [none,none])),[],[],[]⟩⟩
def BF(k:Int)(a:Int)(A0:Option Addr)(n0:Nat)(c0:Nat)(Q:Ou Un→Prop):Prop:=
 ∀(gv:Nat),
 ∃J:Bool→Prop,(
  split (k==3) (
   ∀x4:Bool,x4=((((n0:Nat):Int):Int)==1024)→
   J x4) (
   ∀x4:Bool,x4=false→
   J x4))∧∀(Ka:Nat→Value)(x4:Bool),J x4→
 split x4 (
  Q ⟨(.tuple #[(.iface 258 (.agg #[(.int .u32 a),(.slice A0 n0 c0)])),(.int .i64 0)]),(some (.t [none,none])),[],[],[]⟩) (
  ∃J1:Bool→Prop,(
   split (decide (k≥1)) (
    split (decide (k<5)) (
     split (k !=3) (
      ∀KE:Bool,KE=((((n0:Nat):Int):Int)==0)→
      J1 KE) (
      ∀KE:Bool,KE=false→
      J1 KE)) (
     ∀KE:Bool,KE=false→
     J1 KE)) (
    ∀KE:Bool,KE=false→
    J1 KE))∧∀(J8:Nat→Value)(KE:Bool),J1 KE→
  split KE (
   Q ⟨(.tuple #[(.iface 260 (.agg #[(.int .i64 k),(.int .u32 a)])),(.int .i64 0)]),(some (.t [none,none])),[],[],[]⟩) (
   Q ⟨(.tuple #[.nilIface,(.int .i64 150)]),(some (.t [none,none])),[],[],[]⟩))
theorem BG:Vc2 Un prog (bc []) [4,20] Tryz.f134 (.r' (.two (.two (.two (.node [] (some ⟨[(4,(.one .bool))],[],upN 4 10,[]⟩) [] [] .leaf .leaf) (.r' (.two (.node [] (some ⟨[(20,(.one .bool))],[],upN 20 20,[]⟩) [] [] .leaf .leaf) .leaf))) .leaf) .leaf)) [] jl=(∀k a A0 n0 c0,∀Q,(jl.body k a A0 n0 c0 Q)→BF k a A0 n0 c0 Q):=by kernel_rfl
theorem BE:LV Un prog 134 jl:=verify Tryz.func134 aa (tb:= []) trivial (by kernel_rfl) (BG.mpr fun k a A0 n0 c0 Q h=>by
 obtain⟨Jl,Jp,h⟩:=h
 exact fun gv=>gA (((k:Int)==3) && ((((n0:Nat):Int):Int)==1024)) (ae (fun c1=>allEq<| (by grind)) fun c1=>allEq<| (by grind))<| eA (fun c2=>h) fun c2=>gA ((decide ((k:Int)≥1)) && ((decide ((k:Int)<5)) && (((k:Int) !=3) && ((((n0:Nat):Int):Int)==0)))) (ae (fun c3=>ae (fun c4=>ae (fun c5=>allEq<| (by grind)) fun c5=>allEq<| (by grind)) fun c4=>allEq<| (by grind)) fun c3=>allEq<| (by grind))<| eA (fun c6=>au h (congrArg (fun l=>Value.tuple (List.toArray l)) (ab (by grind) (ab rfl rfl))) rfl rfl) fun c6=>au h (congrArg (fun l=>Value.tuple (List.toArray l)) (ab (by grind) (ab (cr (by grind)) rfl))) rfl rfl)
def eO:Ctr Un:=⟨[.enc 8,.agg [.int .i64,.int .u32,.nsl]],[(0,5)],[.ob 5 []],[],fun f k a rk kk K=>W26.Ok f∧(0≤(a:Int)∧(a:Int)<4294967296)∧((k:Int)=1∨(k:Int)=2∨(k:Int)=4)∧split (decide ((Dg.ao (W26.n f))=0)) (K ⟨(.tuple #[(.agg ⟨Dg.sv ((Dg.load (W26.n f)).add kk (opW k a []))⟩),(.int .i64 0)]),(some (.t [none,none])),[],[],[]⟩) (K ⟨(.tuple #[(.agg ⟨W26.c (W26.mk [])⟩),(.int .i64 (Dg.ao (W26.n f)))]),(some (.t [none,none])),[],[],[]⟩)⟩
def y8(f:W26)(k:Int)(a:Int)(rk:Nat→Nat)(kk:List Int)(Q:Ou Un→Prop):Prop:=
 ∀(gv:Nat),
 ∀(s:List U32),s=(W26.n f)→
 ∀(Jj:Nat),
 ∀(Kz:Nat),
 ∀(s1:List U32),s1=(W26.n (W26.mk []))→
 (k=1∨k=2∨k=4)∧
 ((s.length=26∧s.length=26)∧0<26)∧
 dm s∧
 split (decide (Dg.ao s=0)) (
  ∀(rN:Nat→Nat),
  ∀(s2:Dg),s2=(Dg.load s)→
  ∀(A:Option Addr)(c:Nat),
  ∀(l:List U32),l= [U32.mk (u32.wrap k),U32.mk a]→
  s2.Ok∧
  l.length≤1099511627776∧
  ∀(s3:Dg),s3=(s2.add kk l)→
  s3.Ok∧
  (s1.length=26)∧
  ∀(s4:List U32),s4=(Dg.svL s3)→
  (s4.length=26)∧
  Q ⟨(.tuple #[(.agg ⟨W26.c (W26.mk s4)⟩),(.int .i64 0)]),(some (.t [none,none])),[],[],[]⟩) (
  ∀(dp:Value),
  split ((Dg.ao s) !=0) (
   (s1.length=26)∧
   ∀(s2:List U32),s2=(W26.n (W26.mk []))→
   (s2.length=26)∧
   Q ⟨(.tuple #[(.agg ⟨W26.c (W26.mk s2)⟩),(.int .i64 (Dg.ao s))]),(some (.t [none,none])),[],[],[]⟩) (
   ∀(A:Option Addr)(c:Nat),
   ∀(l:List U32),l= [U32.mk (u32.wrap k),U32.mk a]→
   False))
theorem y9:Vc2 Un prog (bc [(134,jk),(70,kD),(219,gl),(135,qK),(126,jM)]) [] Tryz.f68 .leaf [] eO=(∀(f:W26) k a rk (kk:List Int),∀Q,(eO.body f k a rk kk Q)→y8 f k a rk kk Q):=by kernel_rfl
theorem qN:LV Un prog 68 eO:=verify Tryz.func68 aa (tb:= [(134,jk),(70,kD),(219,gl),(135,qK),(126,jM)]) ⟨BB,wy,wB,Ee,ub,trivial⟩ (by kernel_rfl) (y9.mpr fun f k a rk kk Q h=>by
 obtain⟨Jl,Jp,JD,h⟩:=h
 exact fun gv s NM Jj Kz s1 MJ=>af ‹_› fun e1=>af (by subst_vars;exact⟨⟨rfl,rfl⟩,by omega⟩) fun e2=>af (by subst_vars;assumption) fun e3=>aq (fun c1 rN s2 JF A c l Lh=>af (by subst_vars;exact(Dg.eV Jl (by simpa using c1)).1) fun e4=>af (by grind) fun e5 s3 JB=>af (by subst_vars;exact Dg.qE (Dg.eV Jl (by simpa using c1)).1 (xV Jp JD)) fun e6=>af (by subst_vars;rfl) fun e7 s4 K4=>af (by subst_vars;rfl) fun e8=>au (bK h (by grind)) (by subst_vars;rw [AX JD];rfl) rfl rfl) fun c1 dp=>aK (fun c2=>af (by subst_vars;rfl) fun e9 s2 JF=>af (by grind) fun VG=>au (bL h (by grind)) (by subst_vars;rfl) rfl rfl) fun c2 A c l Lh=>(by exfalso;omega))
def lZ:Ctr Un:=⟨[.enc 8,.agg [.int .i64,.int .u32,.hdr]],[(0,8),(1,5)],[.ob 8 [],.ob 5 []],[],fun f k a A0 n0 c0 rw x rk kk K=>W26.Ok f∧(0≤(a:Int)∧(a:Int)<4294967296)∧(k:Int)=3∧(A0=Wt.A x∧n0=(Wt.l x).length∧c0=Wt.c x)∧(Wt.l x).length=1024∧dm (Wt.l x)∧split (decide ((Dg.ao (W26.n f))=0)) (K ⟨(.tuple #[(.agg ⟨Dg.sv ((Dg.load (W26.n f)).add kk (opW k a (Wt.l x)))⟩),(.int .i64 0)]),(some (.t [none,none])),[],[],[]⟩) (K ⟨(.tuple #[(.agg ⟨W26.c (W26.mk [])⟩),(.int .i64 (Dg.ao (W26.n f)))]),(some (.t [none,none])),[],[],[]⟩)⟩
def y6(f:W26)(k:Int)(a:Int)(A0:Option Addr)(n0:Nat)(c0:Nat) (rw:Nat→Nat)(x:Wt)(rk:Nat→Nat)(kk:List Int)(Q:Ou Un→Prop):Prop:=
 ∀(gv:Nat),
 ∀(s:List U32),s=(W26.n f)→
 ∀(Jj:Nat),
 ∀(Kz:Nat),
 ∀(s1:List U32),s1=(W26.n (W26.mk []))→
 k=3∧
 n0=1024∧
 ((s.length=26∧s.length=26)∧0<26)∧
 dm s∧
 split (decide (Dg.ao s=0)) (
  ∀(rN:Nat→Nat),
  ∀(s2:Dg),s2=(Dg.load s)→
  (A0=Wt.A x∧n0=(Wt.l x).length∧c0=Wt.c x)∧
  (Wt.l x).length≤1024∧
  ∀(A:Option Addr)(c:Nat),
  ∀(l:List U32),l=([U32.mk 3,U32.mk a]++(show List U32 from(Wt.l x)))→
  s2.Ok∧
  l.length≤1099511627776∧
  ∀(s3:Dg),s3=(s2.add kk l)→
  s3.Ok∧
  (s1.length=26)∧
  ∀(s4:List U32),s4=(Dg.svL s3)→
  (s4.length=26)∧
  Q ⟨(.tuple #[(.agg ⟨W26.c (W26.mk s4)⟩),(.int .i64 0)]),(some (.t [none,none])),[],[],[]⟩) (
  ∀(dp:Value),
  split ((Dg.ao s) !=0) (
   (s1.length=26)∧
   ∀(s2:List U32),s2=(W26.n (W26.mk []))→
   (s2.length=26)∧
   Q ⟨(.tuple #[(.agg ⟨W26.c (W26.mk s2)⟩),(.int .i64 (Dg.ao s))]),(some (.t [none,none])),[],[],[]⟩) (
   (A0=Wt.A x∧n0=(Wt.l x).length∧c0=Wt.c x)∧
   (Wt.l x).length≤1024∧
   ∀(A:Option Addr)(c:Nat),
   ∀(l:List U32),l=([U32.mk 3,U32.mk a]++(show List U32 from(Wt.l x)))→
   False))
theorem y7:Vc2 Un prog (bc [(134,jl),(70,kD),(218,lY),(135,qK),(126,jM)]) [] Tryz.f68 .leaf [] lZ=(∀(f:W26) k a A0 n0 c0 rw (x:Wt) rk (kk:List Int),∀Q,(lZ.body f k a A0 n0 c0 rw x rk kk Q)→y6 f k a A0 n0 c0 rw x rk kk Q):=by kernel_rfl
theorem y5:LV Un prog 68 lZ:=verify Tryz.func68 aa (tb:= [(134,jl),(70,kD),(218,lY),(135,qK),(126,jM)]) ⟨BE,wy,yZ,Ee,ub,trivial⟩ (by kernel_rfl) (y7.mpr fun f k a A0 n0 c0 rw x rk kk Q h=>by
 obtain⟨Jl,Jp,JD,NI,Lr,Wr,h⟩:=h
 exact fun gv s NM Jj Kz s1 MJ=>af ‹_› fun e1=>af (by omega) fun e2=>af (by subst_vars;exact⟨⟨rfl,rfl⟩,by omega⟩) fun e3=>af (by subst_vars;assumption) fun e4=>aq (fun c1 rN s2 JF=>af ‹_› fun e5=>af (by omega) fun e6 A c l Lh=>af (by subst_vars;exact(Dg.eV Jl (by simpa using c1)).1) fun e7=>af (by grind) fun e8 s3 JB=>af (by subst_vars;exact Dg.qE (Dg.eV Jl (by simpa using c1)).1 (Au Jp Wr)) fun e9=>af (by subst_vars;rfl) fun VG s4 K4=>af (by subst_vars;rfl) fun VF=>au (bK h (by grind)) (by subst_vars;rfl) rfl rfl) fun c1 dp=>aK (fun c2=>af (by subst_vars;rfl) fun Xg s2 JF=>af (by grind) fun Xf=>au (bL h (by grind)) (by subst_vars;rfl) rfl rfl) fun c2=>af ‹_› fun Xe=>af (by omega) fun Xd A c l Lh=>(by exfalso;omega))
def ia:Ctr Un:=⟨[.enc 8,.agg [.int .i64,.int .u32,.sl 0]],[(1,5)],[.lst 1 false 29,.ob 5 []],[],fun f k a A0 c0 l rk kk K=>W26.Ok f∧(0≤(a:Int)∧(a:Int)<4294967296)∧(k:Int)=3∧l.length=1024∧dm l∧split (decide ((Dg.ao (W26.n f))=0)) (K ⟨(.tuple #[(.agg ⟨Dg.sv ((Dg.load (W26.n f)).add kk (opW k a l))⟩),(.int .i64 0)]),(some (.t [none,none])),[],[],[]⟩) (K ⟨(.tuple #[(.agg ⟨W26.c (W26.mk [])⟩),(.int .i64 (Dg.ao (W26.n f)))]),(some (.t [none,none])),[],[],[]⟩)⟩
theorem qO:LV Un prog 68 ia:=by
 show ∀(f:W26)(k:Int)(a:Int)(A0:Option Addr)(c0:Nat)(l:List U32)(rk:Nat→Nat)(kk:List Int),∀Q:Ou Un→Prop,(W26.Ok f∧(0≤(a:Int)∧(a:Int)<4294967296)∧(k:Int)=3∧l.length=1024∧dm l∧split (decide ((Dg.ao (W26.n f))=0)) (Q ⟨(.tuple #[(.agg ⟨Dg.sv ((Dg.load (W26.n f)).add kk (opW k a l))⟩),(.int .i64 0)]),(some (.t [none,none])),[],[],[]⟩) (Q ⟨(.tuple #[(.agg ⟨W26.c (W26.mk [])⟩),(.int .i64 (Dg.ao (W26.n f)))]),(some (.t [none,none])),[],[],[]⟩))→∀(X:Nat→Nat→Prop)(w:World),Sat (U:=Un) [(.lst 1 false 29 A0 c0 l),(.ob 5 rk kk)] X w→av (U:=Un) [(.lst 1 false 29 A0 c0 l),(.ob 5 rk kk)] fr0 []→Calls prog 68 #[(.agg ⟨W26.c f⟩),(.agg #[(.int .i64 k),(.int .u32 a),(.slice A0 l.length c0)])] w (aT (U:=Un) [(.lst 1 false 29 A0 c0 l),(.ob 5 rk kk)] [] X w Q)
 intro f k a A0 c0 l rk kk Q hQ X w hs hl
 obtain⟨h1,h2,h3,h4,h5,hQ⟩:=hQ
 refine(y5 f k a A0 l.length c0 (fun _=>0) ⟨A0,c0,l⟩ rk kk (fun out=>Q out∧out.kr=some (.t [none,none])∧(∃a b,out.res= .tuple #[a,b])∧out.kc= []) ⟨h1,h2,h3,⟨rfl,rfl,rfl⟩,h4,h5,?_⟩ X w (show Sat (U:=Un) [.ob 8 (fun _=>0) (⟨A0,c0,l⟩:Wt),.ob 5 rk kk] X w from Sat.swap (rs:= [.lst 1 false 29 A0 c0 l,.ob 5 rk kk]) rfl (zA (x:=⟨A0,c0,l⟩)) hs) (fun _ _ h=>by cases h)).mono fun e w' h=>?_
 ·rcases eR hQ with⟨hb,hQ⟩ | ⟨hb,hQ⟩
  ·exact ae (fun _=>⟨hQ,rfl,⟨_,_,rfl⟩,rfl⟩) (fun h=>by rw [hb]at h;cases h)
  ·exact ae (fun h=>by rw [hb]at h;cases h) (fun _=>⟨hQ,rfl,⟨_,_,rfl⟩,rfl⟩)
 refine aT.swap (rs:= [.ob 8 (fun _=>0) (⟨A0,c0,l⟩:Wt),.ob 5 rk kk]) rfl (vt (x:=⟨A0,c0,l⟩)) (fun out h=>?_) (show aT (U:=Un) [.ob 8 (fun _=>0) (⟨A0,c0,l⟩:Wt),.ob 5 rk kk] [] X w _ e w' from h)
 obtain⟨h,hk,⟨a',b',hv⟩,hc⟩:=h
 exact⟨h,fun _=>by rw [hk,hv];exact KnO.tup _ (by simp),hc⟩
end
section
set_option maxRecDepth 100000
def wH(ca:Option Addr)(cb:Int)(cc:Int)(R:aD)(w:World):Prop:=
 ∀(gv:Nat)(wv:World),gv=w.heap.size→wv=w.alloc (.cells #[(.pointer ca),(.int .i64 cb),(.int .i64 cc)] 254)→
 ∃x7:Option Addr,wv.cell? ((Addr.mk gv 0 none).add 0)=some (.pointer x7)∧
 ∃x9:Int,wv.cell? ((Addr.mk gv 0 none).add 1)=some (.int .i64 x9)∧
 ∃K6:Int,wv.cell? ((Addr.mk gv 0 none).add 2)=some (.int .i64 K6)∧
 Calls prog 92 #[(.pointer x7),(.agg #[(.bool true),(.int .i64 x9)]),(.int .i64 K6)] wv fun e Jb=>
 ∃KO:Int,∃KU:Int,e= .returned (.tuple #[(.int .u32 KO),(.int .i64 KU)])∧
 R (.int .u32 KO) Jb
def Ej:Ann:= .leaf
theorem PRead_eq(ca:Option Addr)(cb:Int)(cc:Int)(R:aD)(w:World):wH ca cb cc R w=vcF prog aP [] Tryz.f172 Ej [(.agg #[(.pointer ca),(.int .i64 cb),(.int .i64 cc)])] R none w:=by kernel_rfl
theorem wI(ca:Option Addr)(cb:Int)(cc:Int) {R:aD} {w:World}(h:wH ca cb cc R w):Calls prog 172 #[(.agg #[(.pointer ca),(.int .i64 cb),(.int .i64 cc)])] w fun e w'=>∃v,e= .returned v∧R v w':=
 aj Tryz.func172 aw aa ((PRead_eq ca cb cc R w).mp h)
def Al(ca:Option Addr)(cb:Int)(cc:Int)(wv:Int)(R:aD)(w:World):Prop:=
 ∀(gv:Nat)(Jb:World),gv=w.heap.size→Jb=w.alloc (.cells #[(.pointer ca),(.int .i64 cb),(.int .i64 cc)] 254)→
 ∃x5:Option Addr,Jb.cell? ((Addr.mk gv 0 none).add 0)=some (.pointer x5)∧
 ∃x7:Int,Jb.cell? ((Addr.mk gv 0 none).add 1)=some (.int .i64 x7)∧
 ∃Kb:Int,Jb.cell? ((Addr.mk gv 0 none).add 2)=some (.int .i64 Kb)∧
 Calls prog 42 #[(.pointer x5),(.agg #[(.bool true),(.int .i64 x7)]),(.int .i64 Kb),(.int .u32 wv)] Jb fun e Jc=>
 ∃K6:Int,e= .returned (.int .i64 K6)∧
 R (.tuple #[]) Jc
def F4:Ann:= .leaf
theorem PLay_eq(ca:Option Addr)(cb:Int)(cc:Int)(wv:Int)(R:aD)(w:World):Al ca cb cc wv R w=vcF prog aP [] Tryz.f173 F4 [(.agg #[(.pointer ca),(.int .i64 cb),(.int .i64 cc)]),(.int .u32 wv)] R none w:=by kernel_rfl
theorem za(ca:Option Addr)(cb:Int)(cc:Int)(wv:Int) {R:aD} {w:World}(h:Al ca cb cc wv R w):Calls prog 173 #[(.agg #[(.pointer ca),(.int .i64 cb),(.int .i64 cc)]),(.int .u32 wv)] w fun e w'=>∃v,e= .returned v∧R v w':=
 aj Tryz.func173 aw aa ((PLay_eq ca cb cc wv R w).mp h)
end
end Go.Proofs.YtinhphjfnedhgaaGreatDoor
namespace Go.Proofs.YtinhphjfnedhgaaGreatDoor
open Go.Proofs.Tryz (prog)
open Go Go.RowKit V
open Go.IntKind (i64 u32 u64)
section
section
variable {w:World} {L:dR} {m:Mem}
theorem HX(h:bY w L m)(p o:Int):
 Calls prog 172 #[.agg #[ptr L.g,.int .i64 p,.int .i64 o]] w fun e w'=>∃v,e= .returned v∧v= .int .u32 (m.bw true p o)∧bY w' L m∧Ch L.X w w':=by
 refine wI _ p o ?_
 intro g1 w1 hg hw
 have hM:=made hg hw
 refine⟨_,hM.blk.at rfl,_,hM.blk.at rfl,_,hM.blk.at rfl,(Gv (h.pu hM.pu) true p o).mono ?_⟩
 rintro e w2 ⟨_,rfl,rfl,h2,q⟩
 rw [Mem.Gp]at h2
 exact⟨_,_,rfl,rfl,h2,((Ch.refl _ w).made hM).trans q⟩
theorem IS(h:bY w L m)(p o v:Int)(hv:0≤v∧v<4294967296):
 Calls prog 173 #[.agg #[ptr L.g,.int .i64 p,.int .i64 o],.int .u32 v] w fun e w'=>∃u,e= .returned u∧u= .tuple #[]∧bY w' L (m.write true p o v)∧Ch L.X w w':=by
 refine za _ p o v ?_
 intro g1 w1 hg hw
 have hM:=made hg hw
 refine⟨_,hM.blk.at rfl,_,hM.blk.at rfl,_,hM.blk.at rfl,(yo (h.pu hM.pu) true p o v hv).mono ?_⟩
 rintro e w2 ⟨_,rfl,rfl,h2,q⟩
 exact⟨_,rfl,rfl,h2,((Ch.refl _ w).made hM).trans q⟩
end
end
end Go.Proofs.YtinhphjfnedhgaaGreatDoor
namespace Go.Proofs.YtinhphjfnedhgaaGreatDoor
open Go.Proofs.Tryz (prog)
open Go Go.RowKit V
open Go.IntKind (i64 u32 u64)
section
set_option maxRecDepth 100000
set_option maxHeartbeats 1000000
attribute [local irreducible] Vc2 VcD
attribute [local grind=] Pd.dF Pd.eD Pd.jC Pd.mB Pd.bJ Pd.g6 Pd.jB Pd.gG Pd.mm Pd.ru
attribute [local grind .] Pd.Ok.ent
attribute [local grind→] Pd.Ok.dz
def kC:Ctr Un:=⟨[.one (.int .u32)],[],[],[],fun v K=>(0≤(v:Int)∧(v:Int)<4294967296)∧K ⟨(.tuple #[(.int .i64 (vaI v)),(.int .i64 (vaJ v)),(.int .i64 (vaO v)),(.int .i64 (iz v))]),(some (.t [none,none,none,none])),[],[],[]⟩⟩
def D5(v:Int)(Q:Ou Un→Prop):Prop:=
 ∃J:Bool→Prop,(
  split (decide (v≥1073741824)) (
   J true) (
   J ((v.tmod 4) !=0)))∧∀(L5:Nat→Value)(K6:Bool),J K6→
 split K6 (
  Q ⟨(.tuple #[(.int .i64 0),(.int .i64 0),(.int .i64 0),(.int .i64 91)]),(some (.t [none,none,none,none])),[],[],[]⟩) (
  Q ⟨(.tuple #[(.int .i64 (i64.wrap (v.fdiv (2 ^ 22)))),(.int .i64 (i64.wrap (u32.wrap (BitVec.ofInt u32.bits (v.fdiv (2 ^ 12)) &&& BitVec.ofInt u32.bits 1023).toNat))),(.int .i64 (i64.wrap (u32.wrap (BitVec.ofInt u32.bits (v.fdiv (2 ^ 2)) &&& BitVec.ofInt u32.bits 1023).toNat))),(.int .i64 0)]),(some (.t [none,none,none,none])),[],[],[]⟩)
theorem D6:Vc2 Un prog (bc []) [] Tryz.f190 (.r' (.two (.two (.node [] (some ⟨[(12,(.one .bool))],[],upN 6 7,[]⟩) [] [] .leaf .leaf) .leaf) .leaf)) [] kC=(∀v,∀Q,(kC.body v Q)→D5 v Q):=by kernel_rfl
theorem D4:LV Un prog 190 kC:=verify Tryz.func190 aa (tb:= []) trivial (by kernel_rfl) (D6.mpr fun v Q h=>by
 obtain⟨Jl,h⟩:=h
 exact gA ((decide ((v:Int)≥1073741824)) || (((v:Int).tmod 4:Int) !=0)) (ae (fun c1=>(by grind)) fun c1=>(by grind))<| cH (fun c2=>au h (by(have tm:=Int.tmod_eq_emod_of_nonneg (a:=v) (b:=4) Jl.1);rw [tm]at c2;(have h:iz v=91:=by grind [iz]);simp [vaI,vaJ,vaO,h]) rfl rfl) fun c2=>au h (by(have tm:=Int.tmod_eq_emod_of_nonneg (a:=v) (b:=4) Jl.1);rw [tm]at c2;(have h:iz v=0:=by grind [iz]);rw [ly,ly,ly,DW (x:=v / 2 ^ 12) (by omega),DW (x:=v / 2 ^ 2) (by omega),ax (by omega),ax (by omega),ax (by omega)];simp [vaI,vaJ,vaO,h]) rfl rfl)
def m7:Ctr Un:=⟨[.agg [.int .u32,.bool,.bool]],[],[],[],fun va wr ex K=>(0≤(va:Int)∧(va:Int)<4294967296)∧K ⟨(.tuple #[(.int .u32 (mgW va wr ex)),(.int .i64 (fm va))]),(some (.t [none,none])),[],[],[]⟩⟩
def FX(va:Int)(wr:Bool)(ex:Bool)(Q:Ou Un→Prop):Prop:=
 ∀(gv:Nat),
 ∃J:Bool→Prop,(
  split ((va.tmod 4096) !=0) (
   J true) (
   J (decide (va≥1073741824))))∧∀(Ka:Nat→Value)(KJ:Bool),J KJ→
 split KJ (
  Q ⟨(.tuple #[(.int .u32 0),(.int .i64 91)]),(some (.t [none,none])),[],[],[]⟩) (
  ∀wv:Int,wv=(u32.wrap (BitVec.ofInt u32.bits va ||| BitVec.ofInt u32.bits 1).toNat)→
  split wr (
   ∀Jb:Int,Jb=(u32.wrap (BitVec.ofInt u32.bits wv ||| BitVec.ofInt u32.bits 2).toNat)→
   split ex (
    ∀Jc:Int,Jc=(u32.wrap (BitVec.ofInt u32.bits Jb ||| BitVec.ofInt u32.bits 4).toNat)→
    Q ⟨(.tuple #[(.int .u32 Jc),(.int .i64 0)]),(some (.t [none,none])),[],[],[]⟩) (
    Q ⟨(.tuple #[(.int .u32 Jb),(.int .i64 0)]),(some (.t [none,none])),[],[],[]⟩)) (
   split ex (
    ∀Jb:Int,Jb=(u32.wrap (BitVec.ofInt u32.bits wv ||| BitVec.ofInt u32.bits 4).toNat)→
    Q ⟨(.tuple #[(.int .u32 Jb),(.int .i64 0)]),(some (.t [none,none])),[],[],[]⟩) (
    Q ⟨(.tuple #[(.int .u32 wv),(.int .i64 0)]),(some (.t [none,none])),[],[],[]⟩)))
theorem FY:Vc2 Un prog (bc []) [4] Tryz.f127 (.r' (.two (.two (.node [] (some ⟨[(13,(.one .bool))],[],upN 5 9,[]⟩) [] [] .leaf .leaf) .leaf) .leaf)) [] m7=(∀va wr ex,∀Q,(m7.body va wr ex Q)→FX va wr ex Q):=by kernel_rfl
theorem FW:LV Un prog 127 m7:=verify Tryz.func127 aa (tb:= []) trivial (by kernel_rfl) (FY.mpr fun va wr ex Q h=>by
 obtain⟨Jl,h⟩:=h
 exact fun gv=>gA ((((va:Int).tmod 4096:Int) !=0) || (decide ((va:Int)≥1073741824))) (ae (fun c1=>(by grind)) fun c1=>(by grind))<| cH (fun c2=>au h (by(have tm:=Int.tmod_eq_emod_of_nonneg (a:=va) (b:=4096) Jl.1);rw [tm]at c2;(have h:fm va=91:=by grind [fm]);simp [mgW,h]) rfl rfl) fun c2=>allEq<| ae (fun c3=>allEq<| ae (fun c4=>allEq<| au h (by(have tm:=Int.tmod_eq_emod_of_nonneg (a:=va) (b:=4096) Jl.1);rw [tm]at c2;(have h:fm va=0:=by grind [fm]);(have h9:va % 4096=0∧va<1073741824:=by grind [fm]);rw [og 0 1 rfl (by decide) Jl (by omega),og 1 2 rfl (by decide) (by omega) (by omega),og 2 4 rfl (by decide) (by omega) (by omega)];simp [mgW,h,c3,c4]) rfl rfl) fun c4=>au h (by(have tm:=Int.tmod_eq_emod_of_nonneg (a:=va) (b:=4096) Jl.1);rw [tm]at c2;(have h:fm va=0:=by grind [fm]);(have h9:va % 4096=0∧va<1073741824:=by grind [fm]);rw [og 0 1 rfl (by decide) Jl (by omega),og 1 2 rfl (by decide) (by omega) (by omega)];simp [mgW,h,c3,c4]) rfl rfl) fun c3=>ae (fun c5=>allEq<| au h (by(have tm:=Int.tmod_eq_emod_of_nonneg (a:=va) (b:=4096) Jl.1);rw [tm]at c2;(have h:fm va=0:=by grind [fm]);(have h9:va % 4096=0∧va<1073741824:=by grind [fm]);rw [og 0 1 rfl (by decide) Jl (by omega),og 2 4 rfl (by decide) (by omega) (by omega)];simp [mgW,h,c3,c5]) rfl rfl) fun c5=>au h (by(have tm:=Int.tmod_eq_emod_of_nonneg (a:=va) (b:=4096) Jl.1);rw [tm]at c2;(have h:fm va=0:=by grind [fm]);(have h9:va % 4096=0∧va<1073741824:=by grind [fm]);rw [og 0 1 rfl (by decide) Jl (by omega)];simp [mgW,h,c3,c5]) rfl rfl)
def fy:Ctr Un:=⟨[.one (.int .u32)],[],[],[],fun v K=>(0≤(v:Int)∧(v:Int)<4294967296)∧K ⟨(.tuple #[(.agg #[(.int .u32 (bD v)),(.bool (paW v)),(.bool (paX v))]),(.int .i64 (fW v))]),(some (.t [none,none])),[],[],[]⟩⟩
def Ek(v:Int)(Q:Ou Un→Prop):Prop:=
 ∀(gv:Nat),
 ∀(Jj:Nat),
 (0≤(u32.wrap (BitVec.ofInt u32.bits v &&& ~~~(BitVec.ofInt u32.bits 4095)).toNat)∧(u32.wrap (BitVec.ofInt u32.bits v &&& ~~~(BitVec.ofInt u32.bits 4095)).toNat)<4294967296)∧
 ∃J:Bool→Prop,(
  split ((fm (u32.wrap (BitVec.ofInt u32.bits v &&& ~~~(BitVec.ofInt u32.bits 4095)).toNat)) !=0) (
   J true) (
   J ((mgW (u32.wrap (BitVec.ofInt u32.bits v &&& ~~~(BitVec.ofInt u32.bits 4095)).toNat) ((u32.wrap (BitVec.ofInt u32.bits v &&& BitVec.ofInt u32.bits 2).toNat) !=0) ((u32.wrap (BitVec.ofInt u32.bits v &&& BitVec.ofInt u32.bits 4).toNat) !=0)) !=v)))∧∀(J8:Nat→Value)(MO:Bool),J MO→
 split MO (
  Q ⟨(.tuple #[(.agg #[(.int .u32 0),(.bool false),(.bool false)]),(.int .i64 142)]),(some (.t [none,none])),[],[],[]⟩) (
  Q ⟨(.tuple #[(.agg #[(.int .u32 (u32.wrap (BitVec.ofInt u32.bits v &&& ~~~(BitVec.ofInt u32.bits 4095)).toNat)),(.bool ((u32.wrap (BitVec.ofInt u32.bits v &&& BitVec.ofInt u32.bits 2).toNat) !=0)),(.bool ((u32.wrap (BitVec.ofInt u32.bits v &&& BitVec.ofInt u32.bits 4).toNat) !=0))]),(.int .i64 0)]),(some (.t [none,none])),[],[],[]⟩)
theorem El:Vc2 Un prog (bc [(127,m7)]) [] Tryz.f63 (.r' (.r' (.two (.r' (.two (.node [] (some ⟨[(27,(.one .bool))],[],upN 21 7,[]⟩) [] [] .leaf .leaf) .leaf)) .leaf))) [] fy=(∀v,∀Q,(fy.body v Q)→Ek v Q):=by kernel_rfl
theorem qR:LV Un prog 63 fy:=verify Tryz.func63 aa (tb:= [(127,m7)]) ⟨FW,trivial⟩ (by kernel_rfl) (El.mpr fun v Q h=>by
 obtain⟨Jl,h⟩:=h
 exact fun gv Jj=>af (nA _) fun s1=>gA ((((fm (u32.wrap (BitVec.ofInt u32.bits v &&& ~~~(BitVec.ofInt u32.bits 4095)).toNat)):Int) !=0) || (((mgW (u32.wrap (BitVec.ofInt u32.bits v &&& ~~~(BitVec.ofInt u32.bits 4095)).toNat) ((u32.wrap (BitVec.ofInt u32.bits v &&& BitVec.ofInt u32.bits 2).toNat:Int) !=0) ((u32.wrap (BitVec.ofInt u32.bits v &&& BitVec.ofInt u32.bits 4).toNat:Int) !=0)):Int) !=v)) (ae (fun c1=>(by grind)) fun c1=>(by grind))<| cH (fun c2=>au h (by rw [Af Jl,o7 1 2 (by decide) (by omega) Jl,o7 2 4 (by decide) (by omega) Jl]at c2;(have h:vm v=false:=by grind [vm]);simp [bD,paW,paX,fW,h]) rfl rfl) fun c2=>au h (by rw [Af Jl,o7 1 2 (by decide) (by omega) Jl,o7 2 4 (by decide) (by omega) Jl]at c2 ⊢;(have h:vm v=true:=by grind [vm]);simp [bD,paW,paX,fW,h]) rfl rfl)
def gL:Ctr Un:=⟨[.agg [.any,.int .i64,.int .i64]],[(0,0)],[.ob 0 []],[0],fun pv ak off rm m K=>pv=Value.pointer (some (Addr.mk (rm 0) 0 none))∧K ⟨(.int .u32 (m.bw true ak off)),none,[.ob 0 m],[],[]⟩⟩
theorem o8:LV Un prog 172 gL:=by
 show ∀(pv:Value)(ak:Int)(off:Int)(rm:Nat→Nat)(m:Mem),∀Q:Ou Un→Prop,(pv=Value.pointer (some (Addr.mk (rm 0) 0 none))∧Q ⟨(.int .u32 (m.bw true ak off)),none,[.ob 0 m],[],[]⟩)→∀(X:Nat→Nat→Prop)(w:World),Sat (U:=Un) [(.ob 0 rm m)] X w→av (U:=Un) [(.ob 0 rm m)] fr0 []→Calls prog 172 #[(.agg #[pv,(.int .i64 ak),(.int .i64 off)])] w (aT (U:=Un) [(.ob 0 rm m)] [0] X w Q)
 intro pv ak off rm m Q hQ X w hs hl
 obtain⟨rfl,hQ⟩:=hQ
 obtain⟨L,hg,hM,hX⟩:=lx hs
 rw [hg]
 refine(HX hM ak off).mono ?_
 rintro e w' ⟨u,rfl,rfl,h2,q⟩
 exact aT.one (Z:=X 0) (q.mono fun k hk=>(hX k).1 hk) (show cw 0 rm _ (X 0) w' from⟨L,hg,hX,h2⟩) (fun k hk=>.inl hk) hQ trivial
def qS:Ctr Un:=⟨[.agg [.any,.int .i64,.int .i64],.one (.int .u32)],[(0,0)],[.ob 0 []],[0],fun pv ak off v rm m K=>pv=Value.pointer (some (Addr.mk (rm 0) 0 none))∧(0≤(v:Int)∧(v:Int)<4294967296)∧K ⟨(.tuple #[]),(some (.t [])),[.ob 0 (m.write true ak off v)],[],[]⟩⟩
theorem Em:LV Un prog 173 qS:=by
 show ∀(pv:Value)(ak:Int)(off:Int)(v:Int)(rm:Nat→Nat)(m:Mem),∀Q:Ou Un→Prop,(pv=Value.pointer (some (Addr.mk (rm 0) 0 none))∧(0≤(v:Int)∧(v:Int)<4294967296)∧Q ⟨(.tuple #[]),(some (.t [])),[.ob 0 (m.write true ak off v)],[],[]⟩)→∀(X:Nat→Nat→Prop)(w:World),Sat (U:=Un) [(.ob 0 rm m)] X w→av (U:=Un) [(.ob 0 rm m)] fr0 []→Calls prog 173 #[(.agg #[pv,(.int .i64 ak),(.int .i64 off)]),(.int .u32 v)] w (aT (U:=Un) [(.ob 0 rm m)] [0] X w Q)
 intro pv ak off v rm m Q hQ X w hs hl
 obtain⟨rfl,hv,hQ⟩:=hQ
 obtain⟨L,hg,hM,hX⟩:=lx hs
 rw [hg]
 refine(IS hM ak off v hv).mono ?_
 rintro e w' ⟨u,rfl,rfl,h2,q⟩
 exact aT.one (Z:=X 0) (q.mono fun k hk=>(hX k).1 hk) (show cw 0 rm _ (X 0) w' from⟨L,hg,hX,h2⟩) (fun k hk=>.inl hk) hQ (KnO.tup _ (by simp))
def nb:Ctr Un:=⟨[.one (.obj 0 0),.one (.int .i64),.one (.int .i64)],[],[.ob 1 [(1,1,0)],.ob 0 []],[],fun ak off r E rm m K=>K ⟨(.agg #[(.func (.func 172) #[(.agg #[(.pointer (some (Addr.mk (rm 0) 0 none))),(.int .i64 ak),(.int .i64 off)])] #[]),(.func (.func 173) #[(.agg #[(.pointer (some (Addr.mk (rm 0) 0 none))),(.int .i64 ak),(.int .i64 off)])] #[])]),none,[],[],[]⟩⟩
def ID(ak:Int)(off:Int)(r:Nat→Nat)(E:Pd)(rm:Nat→Nat)(m:Mem)(Q:Ou Un→Prop):Prop:=
 Pd.Ok E→
 Mem.Wf m→
 ∀(gv:Nat),
 (some (.pointer (some (Addr.mk (rm 0) 0 none))):Option Value)=some (.pointer (some (Addr.mk (rm 0) 0 none)))∧
 ∀(Jj:Nat),
 Q ⟨(.agg #[(.func (.func 172) #[(.agg #[(.pointer (some (Addr.mk (rm 0) 0 none))),(.int .i64 ak),(.int .i64 off)])] #[]),(.func (.func 173) #[(.agg #[(.pointer (some (Addr.mk (rm 0) 0 none))),(.int .i64 ak),(.int .i64 off)])] #[])]),none,[],[],[]⟩
theorem IE:Vc2 Un prog (bc [(14,aJ)]) [] Tryz.f130 .leaf [] nb=(∀ak off r (E:Pd) rm (m:Mem),∀Q,(nb.body ak off r E rm m Q)→ID ak off r E rm m Q):=by kernel_rfl
theorem En:LV Un prog 130 nb:=verify Tryz.func130 aa (tb:= [(14,aJ)]) ⟨bO,trivial⟩ (by kernel_rfl) (IE.mpr fun ak off r E rm m Q h f1 f2 gv=>af (by rfl) fun s3 Jj=>h)
def gM:Ctr Un:=⟨[.one (.obj 0 0),.one (.int .i64),.one (.int .i64),.one (.int .i64)],[],[.ob 1 [(1,1,0)],.ob 0 []],[],fun s p t r E rm m K=>E.n=m.S∧K ⟨(.bool ((E.on m).of p t s)),none,[],[],[]⟩⟩
def F2(s:Int)(p:Int)(t:Int)(r:Nat→Nat)(E:Pd)(rm:Nat→Nat)(m:Mem)(Q:Ou Un→Prop):Prop:=
 Pd.Ok E→
 Mem.Wf m→
 E.n=m.S∧
 ∀(gv:Nat),
 ∃J:Bool→Prop,(
  split (((E.on m).aS p)==0) (
   split (((E.on m).entry p).typ==t) (
    J (((E.on m).entry p).owner==s)) (
    J false)) (
   J false))∧∀(Ka:Nat→Value)(x8:Bool),J x8→
 Q ⟨(.bool x8),none,[],[],[]⟩
theorem F3:Vc2 Un prog (bc [(18,cB)]) [] Tryz.f129 (.r' (.r' (.two (.node [] (some ⟨[(8,(.one .bool))],[],[8]++upN 17 14,[]⟩) [] [] .leaf .leaf) .leaf))) [] gM=(∀s p t r (E:Pd) rm (m:Mem),∀Q,(gM.body s p t r E rm m Q)→F2 s p t r E rm m Q):=by kernel_rfl
section
attribute [local grind=] DB.entry DB.aS DB.of DB.is
theorem uh:LV Un prog 129 gM:=verify Tryz.func129 aa (tb:= [(18,cB)]) ⟨gm,trivial⟩ (by kernel_rfl) (F3.mpr fun s p t r E rm m Q h=>by
 obtain⟨Jl,h⟩:=h
 exact fun f1 f2=>af ‹_› fun s3 gv=>gA (((((E.on m).aS p):Int)==0) && (((((E.on m).entry p).typ:Int)==t) && ((((E.on m).entry p).owner:Int)==s))) (ae (fun c1=>ae (fun c2=>(by grind)) fun c2=>(by grind)) fun c1=>(by grind))<| mG h (by grind))
end
def fx:Ctr Un:=⟨[.one (.obj 0 0),.one (.int .i64)],[],[.ob 1 [(1,1,0)],.ob 0 []],[1],fun s r E rm m K=>E.n=m.S∧K ⟨(.tuple #[(.int .i64 ((E.on m).tbl s)),(.int .i64 ((E.on m).cp s))]),(some (.t [none,none])),[.ob 0 m],[],[]⟩⟩
def Eh(s:Int)(r:Nat→Nat)(E:Pd)(rm:Nat→Nat)(m:Mem)(Q:Ou Un→Prop):Prop:=
 Pd.Ok E→
 Mem.Wf m→
 E.n=m.S∧
 ∀(gv:Nat),
 ∀Mv:Bool,Mv=((((E.on m).aS s):Int) !=0)→
 split Mv (
  Q ⟨(.tuple #[(.int .i64 0),(.int .i64 5)]),(some (.t [none,none])),[.ob 0 m],[],[]⟩) (
  ∀NO:Bool,NO=((((E.on m).entry s).typ:Int) !=1)→
  split NO (
   Q ⟨(.tuple #[(.int .i64 0),(.int .i64 124)]),(some (.t [none,none])),[.ob 0 m],[],[]⟩) (
   ∀Kw:Bool,Kw=((((E.on m).entry s).state:Int)==3)→
   split Kw (
    Q ⟨(.tuple #[(.int .i64 0),(.int .i64 3)]),(some (.t [none,none])),[.ob 0 m],[],[]⟩) (
    (.pointer (some (Addr.mk (rm 0) 0 none)))=Value.pointer (some (Addr.mk (rm 0) 0 none))∧
    ∀(m1:Mem),m1=m→
    Mem.Wf m1→
    ∃J:Bool→Prop,(
     E.n=m1.S∧
     split (decide ((i64.wrap (m.bw true s 0))≥(E.on m1).S)) (
      J true) (
      E.n=m1.S∧
      J (!((E.on m1).of (i64.wrap (m.bw true s 0)) 3 s))))∧∀(Ka:Nat→Value)(Lx:Bool),J Lx→
    split Lx (
     Q ⟨(.tuple #[(.int .i64 0),(.int .i64 124)]),(some (.t [none,none])),[.ob 0 m1],[],[]⟩) (
     Q ⟨(.tuple #[(.int .i64 (i64.wrap (m.bw true s 0))),(.int .i64 0)]),(some (.t [none,none])),[.ob 0 m1],[],[]⟩))))
theorem Ei:Vc2 Un prog (bc [(18,cB),(130,nb),(172,gL),(120,kQ),(129,gM)]) [15,18,22] Tryz.f91 (.r' (.r' (.r' (.r' (.two (.two (.node [] (some ⟨[(43,(.one .bool))],[],upN 31 13,[]⟩) [] [] .leaf .leaf) .leaf) .leaf))))) [] fx=(∀s r (E:Pd) rm (m:Mem),∀Q,(fx.body s r E rm m Q)→Eh s r E rm m Q):=by kernel_rfl
section
attribute [local grind=] DB.entry DB.aS DB.of DB.is DB.tbl DB.cp DB.word
theorem qQ:LV Un prog 91 fx:=verify Tryz.func91 aa (tb:= [(18,cB),(130,nb),(172,gL),(120,kQ),(129,gM)]) ⟨gm,En,o8,xJ,uh,trivial⟩ (by kernel_rfl) (Ei.mpr fun s r E rm m Q h=>by
 obtain⟨Jl,h⟩:=h
 exact fun f1 f2=>(by(have Wi:=fun(p o:Int)=>uR (E:=E) f2 p o);(have Uo:=fun(p o:Int)=>ax (x:=m.bw true p o) (by have:=Wi p o;simp only [DB.word,Pd.g6]at this;omega));exact af ‹_› fun s3 gv=>allEq<| aK (fun c1=>au h (congrArg (fun l=>Value.tuple (List.toArray l)) (ab (cr (by grind)) (ab (cr (by grind)) rfl))) rfl rfl) fun c1=>allEq<| aK (fun c2=>au h (congrArg (fun l=>Value.tuple (List.toArray l)) (ab (cr (by grind)) (ab (cr (by grind)) rfl))) rfl rfl) fun c2=>allEq<| aB (fun c3=>au h (congrArg (fun l=>Value.tuple (List.toArray l)) (ab (cr (by grind)) (ab (cr (by grind)) rfl))) rfl rfl) fun c3=>af (by grind) fun s4 m1 Jg f5=>gA ((decide ((i64.wrap (m.bw true s 0):Int)≥((E.on m1).S:Int))) || (!((E.on m1).of (i64.wrap (m.bw true s 0)) 3 s))) (af (by grind) fun s6=>ae (fun c4=>(by grind)) fun c4=>af ‹_› fun s7=>(by grind))<| cH (fun c5=>(by subst Jg;have hwq:=Uo s 0;exact au h (congrArg (fun l=>Value.tuple (List.toArray l)) (ab (cr (by grind)) (ab (cr (by grind)) rfl))) (ab (uO0 (by grind)) rfl) rfl)) fun c5=>(by subst Jg;have hwq:=Uo s 0;exact au h (congrArg (fun l=>Value.tuple (List.toArray l)) (ab (cr (by grind)) (ab (cr (by grind)) rfl))) (ab (uO0 (by grind)) rfl) rfl)))
end
def jm:Ctr Un:=⟨[.one (.obj 0 0),.one (.int .i64),.one (.int .u32)],[],[.ob 1 [(1,1,0)],.ob 0 []],[],fun s v r E rm m K=>E.n=m.S∧(0≤(v:Int)∧(v:Int)<4294967296)∧K ⟨(.tuple #[(.int .i64 (cE v)),(.bool ((E.on m).iD s v))]),(some (.t [none,none])),[],[],[]⟩⟩
def BJ(s:Int)(v:Int)(r:Nat→Nat)(E:Pd)(rm:Nat→Nat)(m:Mem)(Q:Ou Un→Prop):Prop:=
 Pd.Ok E→
 Mem.Wf m→
 (0≤v∧v<4294967296)∧
 ∃J:Int→Bool→Prop,(
  split ((vh v)==0) (
   E.n=m.S∧
   J (cE v) ((E.on m).of (cE v) 4 s)) (
   J (cE v) false))∧∀(L5:Nat→Value) x6 (x7:Bool),J x6 x7→
 Q ⟨(.tuple #[(.int .i64 x6),(.bool x7)]),(some (.t [none,none])),[],[],[]⟩
theorem BK:Vc2 Un prog (bc [(182,eM),(129,gM)]) [] Tryz.f191 (.r' (.r' (.two (.node [] (some ⟨[(6,(.one (.int .i64))),(7,(.one .bool))],[],[6,7]++upN 15 9,[]⟩) [] [] .leaf .leaf) .leaf))) [] jm=(∀s v r (E:Pd) rm (m:Mem),∀Q,(jm.body s v r E rm m Q)→BJ s v r E rm m Q):=by kernel_rfl
section
attribute [local grind=] DB.entry DB.aS DB.of DB.is DB.iD
theorem BI:LV Un prog 191 jm:=verify Tryz.func191 aa (tb:= [(182,eM),(129,gM)]) ⟨rE,uh,trivial⟩ (by kernel_rfl) (BK.mpr fun s v r E rm m Q h=>by
 obtain⟨Jl,Jp,h⟩:=h
 exact fun f1 f2=>af ‹_› fun s3=>dup2<| aB (fun c1=>af ‹_› fun s4=>au h (congrArg (fun l=>Value.tuple (List.toArray l)) (ab rfl (ab (eQb (by grind)) rfl))) rfl rfl) fun c1=>au h (congrArg (fun l=>Value.tuple (List.toArray l)) (ab rfl (ab (eQb (by grind)) rfl))) rfl rfl)
end
def cU:Ctr Un:=⟨[.one (.obj 0 0),.one (.int .i64),.one (.int .i64),.one (.int .i64)],[],[.ob 1 [(1,1,0)],.ob 0 []],[0,1],fun s i q r E rm m K=>E.n=m.S∧K ⟨(.int .i64 ((E.on m).hH s i q)),none,[.ob 1 (((E.on m).add s i q).pd),.ob 0 (((E.on m).add s i q).mem)],[],[]⟩⟩
def wJ(s:Int)(i:Int)(q:Int)(r:Nat→Nat)(E:Pd)(rm:Nat→Nat)(m:Mem)(Q:Ou Un→Prop):Prop:=
 Pd.Ok E→
 Mem.Wf m→
 E.n=m.S∧
 ∀(m1:Mem),m1=m→
 Mem.Wf m1→
 split (((E.on m).cp s) !=0) (
  Q ⟨(.int .i64 ((E.on m).cp s)),none,[.ob 1 E,.ob 0 m1],[],[]⟩) (
  ∃J:Bool→Prop,(
   split (decide (i<0)) (
    J true) (
    J (decide (i≥256))))∧∀(L5:Nat→Value)(KN:Bool),J KN→
  split KN (
   Q ⟨(.int .i64 4),none,[.ob 1 E,.ob 0 m1],[],[]⟩) (
   E.n=m1.S∧
   ∀(Jj:Nat),
   split (((E.on m1).aS q) !=0) (
    Q ⟨(.int .i64 5),none,[.ob 1 E,.ob 0 m1],[],[]⟩) (
    E.n=m1.S∧
    split (!((E.on m1).of q 4 s)) (
     Q ⟨(.int .i64 124),none,[.ob 1 E,.ob 0 m1],[],[]⟩) (
     ∀(Kz:Nat),
     (.pointer (some (Addr.mk (rm 0) 0 none)))=Value.pointer (some (Addr.mk (rm 0) 0 none))∧
     ∀(m2:Mem),m2=m1→
     Mem.Wf m2→
     split ((m1.bw true ((E.on m).tbl s) i) !=0) (
      Q ⟨(.int .i64 140),none,[.ob 1 E,.ob 0 m2],[],[]⟩) (
      (.pointer (some (Addr.mk (rm 0) 0 none)))=Value.pointer (some (Addr.mk (rm 0) 0 none))∧
      (0≤(dI q)∧(dI q)<4294967296)∧
      ∀(m3:Mem),m3=(m2.write true ((E.on m).tbl s) i (dI q))→
      Mem.Wf m3→
      Q ⟨(.int .i64 0),none,[.ob 1 E,.ob 0 m3],[],[]⟩)))))
theorem wK:Vc2 Un prog (bc [(91,fx),(18,cB),(129,gM),(130,nb),(172,gL),(131,hO),(173,qS)]) [] Tryz.f65 (.r' (.r' (.r' (.two (.two (.node [] (some ⟨[(30,(.one .bool))],[],upN 25 6,[]⟩) [] [] .leaf .leaf) .leaf) .leaf)))) [] cU=(∀s i q r (E:Pd) rm (m:Mem),∀Q,(cU.body s i q r E rm m Q)→wJ s i q r E rm m Q):=by kernel_rfl
section
attribute [local grind=] DB.entry DB.aS DB.of DB.is DB.word DB.hH DB.add Pd.ki Mem.bB
theorem kE:LV Un prog 65 cU:=verify Tryz.func65 aa (tb:= [(91,fx),(18,cB),(129,gM),(130,nb),(172,gL),(131,hO),(173,qS)]) ⟨qQ,gm,uh,En,o8,wm,Em,trivial⟩ (by kernel_rfl) (wK.mpr fun s i q r E rm m Q h=>by
 obtain⟨Jl,h⟩:=h
 exact fun f1 f2=>(by(have Wi:=fun(p o:Int)=>uR (E:=E) f2 p o);(have Uo:=fun(p o:Int)=>ax (x:=m.bw true p o) (by have:=Wi p o;simp only [DB.word,Pd.g6]at this;omega));exact af ‹_› fun s3 m1 Jg f4=>aK (fun c1=>au h (cr (by grind)) (ab (uO1 (by grind)) (ab (uO0 (by grind)) rfl)) rfl) fun c1=>gA ((decide ((i:Int)<0)) || (decide ((i:Int)≥256))) (ae (fun c2=>(by grind)) fun c2=>(by grind))<| cH (fun c3=>au h (cr (by grind)) (ab (uO1 (by grind)) (ab (uO0 (by grind)) rfl)) rfl) fun c3=>af (by grind) fun s5 Jj=>aK (fun c4=>au h (cr (by grind)) (ab (uO1 (by grind)) (ab (uO0 (by grind)) rfl)) rfl) fun c4=>af ‹_› fun s6=>cQ (fun c5=>au h (cr (by grind)) (ab (uO1 (by grind)) (ab (uO0 (by grind)) rfl)) rfl) fun c5 Kz=>af (by grind) fun s7 m2 Jw f8=>aK (fun c6=>au h (cr (by grind)) (ab (uO1 (by grind)) (ab (uO0 (by grind)) rfl)) rfl) fun c6=>af ‹_› fun s9=>af (qq _) fun s10 m3 Ke f11=>au h (cr (by grind)) (ab (uO1 (by grind)) (ab (uO0 (by grind)) rfl)) rfl))
end
def m9:Ctr Un:=⟨[.one (.obj 0 0),.one (.int .i64),.one (.int .u32)],[],[.ob 1 [(1,1,0)],.ob 0 []],[1],fun s va r E rm m K=>E.n=m.S∧(0≤(va:Int)∧(va:Int)<4294967296)∧split (decide ((E.on m).dX s va=0)) (K ⟨(.tuple #[(.agg #[(.func (.func 172) #[(.agg #[(.pointer (some (Addr.mk (rm 0) 0 none))),(.int .i64 ((E.on m).plP s va)),(.int .i64 (vaJ va))])] #[]),(.func (.func 173) #[(.agg #[(.pointer (some (Addr.mk (rm 0) 0 none))),(.int .i64 ((E.on m).plP s va)),(.int .i64 (vaJ va))])] #[])]),(.int .i64 0)]),(some (.t [none,none])),[.ob 0 m],[],[]⟩) (K ⟨(.tuple #[(.agg #[.nilFunc,.nilFunc]),(.int .i64 ((E.on m).dX s va))]),(some (.t [none,none])),[.ob 0 m],[],[]⟩)⟩
def F8(s:Int)(va:Int)(r:Nat→Nat)(E:Pd)(rm:Nat→Nat)(m:Mem)(Q:Ou Un→Prop):Prop:=
 Pd.Ok E→
 Mem.Wf m→
 ∀(gv:Nat),
 E.n=m.S∧
 ∀(m1:Mem),m1=m→
 Mem.Wf m1→
 split (((E.on m).cp s) !=0) (
  Q ⟨(.tuple #[(.agg #[.nilFunc,.nilFunc]),(.int .i64 ((E.on m).cp s))]),(some (.t [none,none])),[.ob 0 m1],[],[]⟩) (
  (0≤va∧va<4294967296)∧
  split ((iz va) !=0) (
   Q ⟨(.tuple #[(.agg #[.nilFunc,.nilFunc]),(.int .i64 91)]),(some (.t [none,none])),[.ob 0 m1],[],[]⟩) (
   (.pointer (some (Addr.mk (rm 0) 0 none)))=Value.pointer (some (Addr.mk (rm 0) 0 none))∧
   ∀(m2:Mem),m2=m1→
   Mem.Wf m2→
   E.n=m2.S∧
   (0≤(m1.bw true ((E.on m).tbl s) (vaI va))∧(m1.bw true ((E.on m).tbl s) (vaI va))<4294967296)∧
   split (!((E.on m2).iD s (m1.bw true ((E.on m).tbl s) (vaI va)))) (
    Q ⟨(.tuple #[(.agg #[.nilFunc,.nilFunc]),(.int .i64 141)]),(some (.t [none,none])),[.ob 0 m2],[],[]⟩) (
    Q ⟨(.tuple #[(.agg #[(.func (.func 172) #[(.agg #[(.pointer (some (Addr.mk (rm 0) 0 none))),(.int .i64 (cE (m1.bw true ((E.on m).tbl s) (vaI va)))),(.int .i64 (vaJ va))])] #[]),(.func (.func 173) #[(.agg #[(.pointer (some (Addr.mk (rm 0) 0 none))),(.int .i64 (cE (m1.bw true ((E.on m).tbl s) (vaI va)))),(.int .i64 (vaJ va))])] #[])]),(.int .i64 0)]),(some (.t [none,none])),[.ob 0 m2],[],[]⟩)))
theorem F9:Vc2 Un prog (bc [(91,fx),(190,kC),(130,nb),(172,gL),(191,jm)]) [] Tryz.f174 .leaf [] m9=(∀s va r (E:Pd) rm (m:Mem),∀Q,(m9.body s va r E rm m Q)→F8 s va r E rm m Q):=by kernel_rfl
section
attribute [local grind=] DB.entry DB.aS DB.of DB.is DB.word DB.dX DB.plP DB.bt
theorem F7:LV Un prog 174 m9:=verify Tryz.func174 aa (tb:= [(91,fx),(190,kC),(130,nb),(172,gL),(191,jm)]) ⟨qQ,D4,En,o8,BI,trivial⟩ (by kernel_rfl) (F9.mpr fun s va r E rm m Q h=>by
 obtain⟨Jl,Jp,h⟩:=h
 exact fun f1 f2 gv=>af ‹_› fun s3 m1 Jg f4=>aK (fun c1=>au (bL h (by grind)) (congrArg (fun l=>Value.tuple (List.toArray l)) (ab rfl (ab (cr (by grind)) rfl))) (ab (uO0 (by grind)) rfl) rfl) fun c1=>af ‹_› fun s5=>aK (fun c2=>au (bL h (by grind)) (congrArg (fun l=>Value.tuple (List.toArray l)) (ab rfl (ab (cr (by grind)) rfl))) (ab (uO0 (by grind)) rfl) rfl) fun c2=>af (by grind) fun s6 m2 Jw f7=>af (by grind) fun s8=>af (vj ‹_› _ _ _) fun s9=>cQ (fun c3=>au (bL h (by grind)) (congrArg (fun l=>Value.tuple (List.toArray l)) (ab rfl (ab (cr (by grind)) rfl))) (ab (uO0 (by grind)) rfl) rfl) fun c3=>au (bK h (by grind)) (congrArg (fun l=>Value.tuple (List.toArray l)) (ab (congrArg (fun l=>Value.agg (List.toArray l)) (ab (by grind) (ab (by grind) rfl))) (ab rfl rfl))) (ab (uO0 (by grind)) rfl) rfl)
end
def jO:Ctr Un:=⟨[.one (.obj 0 0),.one (.int .i64),.one (.int .u32)],[],[.ob 1 [(1,1,0)],.ob 0 []],[1],fun s va r E rm m K=>E.n=m.S∧(0≤(va:Int)∧(va:Int)<4294967296)∧split (decide ((E.on m).bt s va=0)) (K ⟨(.tuple #[(.agg #[(.func (.func 172) #[(.agg #[(.pointer (some (Addr.mk (rm 0) 0 none))),(.int .i64 ((E.on m).plP s va)),(.int .i64 (vaJ va))])] #[]),(.func (.func 173) #[(.agg #[(.pointer (some (Addr.mk (rm 0) 0 none))),(.int .i64 ((E.on m).plP s va)),(.int .i64 (vaJ va))])] #[])]),(.int .i64 0)]),(some (.t [none,none])),[.ob 0 m],[],[]⟩) (K ⟨(.tuple #[(.agg #[.nilFunc,.nilFunc]),(.int .i64 ((E.on m).bt s va))]),(some (.t [none,none])),[.ob 0 m],[],[]⟩)⟩
def F5(s:Int)(va:Int)(r:Nat→Nat)(E:Pd)(rm:Nat→Nat)(m:Mem)(Q:Ou Un→Prop):Prop:=
 Pd.Ok E→
 Mem.Wf m→
 ∀(gv:Nat),
 E.n=m.S∧
 (0≤va∧va<4294967296)∧
 split (decide ((E.on m).dX s va=0)) (
  ∀(m1:Mem),m1=m→
  Mem.Wf m1→
  ∀(Jj:Nat),
  (.pointer (some (Addr.mk (rm 0) 0 none)))=Value.pointer (some (Addr.mk (rm 0) 0 none))∧
  ∀(m2:Mem),m2=m1→
  Mem.Wf m2→
  split ((m1.bw true ((E.on m).plP s va) (vaJ va)) !=0) (
   Q ⟨(.tuple #[(.agg #[.nilFunc,.nilFunc]),(.int .i64 140)]),(some (.t [none,none])),[.ob 0 m2],[],[]⟩) (
   Q ⟨(.tuple #[(.agg #[(.func (.func 172) #[(.agg #[(.pointer (some (Addr.mk (rm 0) 0 none))),(.int .i64 ((E.on m).plP s va)),(.int .i64 (vaJ va))])] #[]),(.func (.func 173) #[(.agg #[(.pointer (some (Addr.mk (rm 0) 0 none))),(.int .i64 ((E.on m).plP s va)),(.int .i64 (vaJ va))])] #[])]),(.int .i64 0)]),(some (.t [none,none])),[.ob 0 m2],[],[]⟩)) (
  ∀(m1:Mem),m1=m→
  Mem.Wf m1→
  ∀(Jj:Nat),
  split (((E.on m).dX s va) !=0) (
   Q ⟨(.tuple #[(.agg #[.nilFunc,.nilFunc]),(.int .i64 ((E.on m).dX s va))]),(some (.t [none,none])),[.ob 0 m1],[],[]⟩) (
   False))
theorem F6:Vc2 Un prog (bc [(174,m9),(172,gL)]) [] Tryz.f132 .leaf [] jO=(∀s va r (E:Pd) rm (m:Mem),∀Q,(jO.body s va r E rm m Q)→F5 s va r E rm m Q):=by kernel_rfl
section
attribute [local grind=] DB.entry DB.aS DB.of DB.is DB.word DB.dX DB.plP DB.bt
theorem Am:LV Un prog 132 jO:=verify Tryz.func132 aa (tb:= [(174,m9),(172,gL)]) ⟨F7,o8,trivial⟩ (by kernel_rfl) (F6.mpr fun s va r E rm m Q h=>by
 obtain⟨Jl,Jp,h⟩:=h
 exact fun f1 f2 gv=>af ‹_› fun s3=>af ‹_› fun s4=>aq (fun c1 m1 Jg f5 Jj=>af (by grind) fun s6 m2 Jw f7=>aK (fun c2=>au (bL h (by grind)) (congrArg (fun l=>Value.tuple (List.toArray l)) (ab rfl (ab (cr (by grind)) rfl))) (ab (uO0 (by grind)) rfl) rfl) fun c2=>au (bK h (by grind)) rfl (ab (uO0 (by grind)) rfl) rfl) fun c1 m1 Jg f8 Jj=>aK (fun c3=>au (bL h (by grind)) (congrArg (fun l=>Value.tuple (List.toArray l)) (ab rfl (ab (cr (by grind)) rfl))) (ab (uO0 (by grind)) rfl) rfl) fun c3=>(by exfalso;omega))
end
def m8:Ctr Un:=⟨[.one (.obj 0 0),.one (.int .i64),.one (.int .u32)],[],[.ob 1 [(1,1,0)],.ob 0 []],[1],fun s va r E rm m K=>E.n=m.S∧(0≤(va:Int)∧(va:Int)<4294967296)∧K ⟨(.int .i64 ((E.on m).bt s va)),none,[.ob 0 m],[],[]⟩⟩
def F0(s:Int)(va:Int)(r:Nat→Nat)(E:Pd)(rm:Nat→Nat)(m:Mem)(Q:Ou Un→Prop):Prop:=
 Pd.Ok E→
 Mem.Wf m→
 E.n=m.S∧
 (0≤va∧va<4294967296)∧
 split (decide ((E.on m).bt s va=0)) (
  ∀(m1:Mem),m1=m→
  Mem.Wf m1→
  ∀(gv:Nat),
  Q ⟨(.int .i64 0),none,[.ob 0 m1],[],[]⟩) (
  ∀(m1:Mem),m1=m→
  Mem.Wf m1→
  ∀(gv:Nat),
  Q ⟨(.int .i64 ((E.on m).bt s va)),none,[.ob 0 m1],[],[]⟩)
theorem F1:Vc2 Un prog (bc [(132,jO)]) [] Tryz.f156 .leaf [] m8=(∀s va r (E:Pd) rm (m:Mem),∀Q,(m8.body s va r E rm m Q)→F0 s va r E rm m Q):=by kernel_rfl
section
attribute [local grind=] DB.entry DB.aS DB.of DB.is DB.word DB.dX DB.plP DB.bt
theorem FZ:LV Un prog 156 m8:=verify Tryz.func156 aa (tb:= [(132,jO)]) ⟨Am,trivial⟩ (by kernel_rfl) (F1.mpr fun s va r E rm m Q h=>by
 obtain⟨Jl,Jp,h⟩:=h
 exact fun f1 f2=>af ‹_› fun s3=>af ‹_› fun s4=>aq (fun c1 m1 Jg f5 gv=>au h (cr ‹_›) (ab (uO0 (by grind)) rfl) rfl) fun c1 m1 Jg f6 gv=>au h rfl (ab (uO0 (by grind)) rfl) rfl)
end
def ib:Ctr Un:=⟨[.one (.obj 0 0),.one (.int .i64),.one (.int .u32),.agg [.bool,.int .i64,.bool,.bool]],[],[.ob 1 [(1,1,0)],.ob 0 []],[0,1],fun s va ma mb mc md r E rm m K=>E.n=m.S∧(0≤(va:Int)∧(va:Int)<4294967296)∧K ⟨(.int .i64 ((E.on m).dW s va (Mp.mk ma mb mc md))),none,[.ob 1 (((E.on m).put s va (Mp.mk ma mb mc md)).pd),.ob 0 (((E.on m).put s va (Mp.mk ma mb mc md)).mem)],[],[]⟩⟩
def HA(s:Int)(va:Int)(ma:Bool)(mb:Int)(mc:Bool)(md:Bool)(r:Nat→Nat)(E:Pd)(rm:Nat→Nat)(m:Mem)(Q:Ou Un→Prop):Prop:=
 Pd.Ok E→
 Mem.Wf m→
 ∀(gv:Nat),
 E.n=m.S∧
 (0≤va∧va<4294967296)∧
 split (decide ((E.on m).bt s va=0)) (
  ∀(m1:Mem),m1=m→
  Mem.Wf m1→
  ∀(Jj:Nat),
  split ((Mp.mk ma mb mc md).err !=0) (
   Q ⟨(.int .i64 ((Mp.mk ma mb mc md).err)),none,[.ob 1 E,.ob 0 m1],[],[]⟩) (
   (.pointer (some (Addr.mk (rm 0) 0 none)))=Value.pointer (some (Addr.mk (rm 0) 0 none))∧
   (0≤((Mp.mk ma mb mc md).word)∧((Mp.mk ma mb mc md).word)<4294967296)∧
   ∀(m2:Mem),m2=(m1.write true ((E.on m).plP s va) (vaJ va) ((Mp.mk ma mb mc md).word))→
   Mem.Wf m2→
   Q ⟨(.int .i64 0),none,[.ob 1 E,.ob 0 m2],[],[]⟩)) (
  ∀(m1:Mem),m1=m→
  Mem.Wf m1→
  ∀(Jj:Nat),
  split (((E.on m).bt s va) !=0) (
   Q ⟨(.int .i64 ((E.on m).bt s va)),none,[.ob 1 E,.ob 0 m1],[],[]⟩) (
   split ((Mp.mk ma mb mc md).err !=0) (
    Q ⟨(.int .i64 ((Mp.mk ma mb mc md).err)),none,[.ob 1 E,.ob 0 m1],[],[]⟩) (
    False)))
theorem HB:Vc2 Un prog (bc [(132,jO),(133,nY),(173,qS)]) [] Tryz.f67 .leaf [] ib=(∀s va ma mb mc md r (E:Pd) rm (m:Mem),∀Q,(ib.body s va ma mb mc md r E rm m Q)→HA s va ma mb mc md r E rm m Q):=by kernel_rfl
section
attribute [local grind=] DB.entry DB.aS DB.of DB.is DB.word DB.dX DB.plP DB.bt DB.dW DB.put Pd.ki Mem.bB
theorem ug:LV Un prog 67 ib:=verify Tryz.func67 aa (tb:= [(132,jO),(133,nY),(173,qS)]) ⟨Am,Bw,Em,trivial⟩ (by kernel_rfl) (HB.mpr fun s va ma mb mc md r E rm m Q h=>by
 obtain⟨Jl,Jp,h⟩:=h
 exact fun f1 f2 gv=>af ‹_› fun s3=>af ‹_› fun s4=>aq (fun c1 m1 Jg f5 Jj=>aK (fun c2=>au h (cr (by grind)) (ab (uO1 (by grind)) (ab (uO0 (by grind)) rfl)) rfl) fun c2=>af (by grind) fun s6=>af (zW _) fun s7 m2 Jw f8=>au h (cr (by grind)) (ab (uO1 (by grind)) (ab (uO0 (by grind)) rfl)) rfl) fun c1 m1 Jg f9 Jj=>aK (fun c3=>au h (cr (by grind)) (ab (uO1 (by grind)) (ab (uO0 (by grind)) rfl)) rfl) fun c3=>aK (fun c4=>au h (cr (by omega)) (ab (uO1 (by omega)) (ab (uO0 (by omega)) rfl)) rfl) fun c4=>(by exfalso;omega))
end
end
end Go.Proofs.YtinhphjfnedhgaaGreatDoor
namespace Go.Proofs.YtinhphjfnedhgaaGreatDoor.V
open Go Go.RowKit
open Go.IntKind (i64 u32 u64)
section
structure Ans(P:Program)(dk:FuncId)(T:TypeId):Prop where
 can:bP P dk=true
 calm:∀(p:Addr)(w:World),CallsDIn (WF none) 0 P dk #[.pointer (some p)] .returning w fun e u w'=>(∃v,e= .returned v)∧u= .returning∧w'=w
 IJ:∀(p:Addr)(x:Int)(w:World)(K:World→Prop),aG w p [.int .u32 x] K→CallsDIn (WF none) 0 P dk #[.pointer (some p)] (.panicking [⟨.iface T (.int .u32 x),false,false⟩]) w fun e u w'=>(∃v,e= .returned v)∧settle u= .returning∧K w'
section
variable {U:Uni} {P:Program} {tbl:Tb U} {may:List Nat} {k0:Nat}
variable {w0:World} {X0 X:Nat→Nat→Prop} {w:World} {fr:Fr} {st:St U} {n:Nat} {N:List Nat}
theorem FA {a:Act} {l:List Oper} {dk t:Nat}(h:Aa dk l=some t):∃o,l= [o]∧o.guard=none∧o.dst=none∧∀w,(Oper.semAt none a.eval o).run P w= .ok (.defer ⟨.fn (.func dk) #[],#[a.eval (.tmp t)]⟩) w:=by
 unfold Aa at h
 split at h
 ·rename_i f az ats ty pos aft
  split at h
  ·rename_i ha hf
   injection h with h
   subst h
   have hf:=Nat.eq_of_beq_eq_true hf
   subst hf
   refine⟨_,rfl,rfl,rfl,fun w=>?_⟩
   have Vb:az= #[.tmp _]:=Array.ext' ha
   subst Vb
   have ef:a.eval (.func f)= .func (.func f) #[] #[]:=rfl
   simp [Oper.semAt,execOp,resolve,ef,Deferred.ofValue]
  ·cases h
 ·cases h
theorem Hg {ops:Array Oper} {id dk t:Nat} {a:Act} {Q:Exit→Act→World→Prop}(h:Aa dk ops.toList=some t)(hQ:Q .normal {a with defers:=⟨.fn (.func dk) #[],#[a.eval (.tmp t)]⟩::a.defers} w):(Code.region id ops false).wpIn (WF none) 0 P Q a w:=by
 obtain⟨o,ho,hg,hd,KK⟩:=FA (P:=P) (a:=a) h
 have ho:ops= #[o]:=Array.ext' ho
 subst ho
 refine wpIn_region_list ?_
 simp only [wpListIn]
 rw [if_pos (by unfold Region.wanted;rw [hg])]
 refine⟨fun _ _=>trivial,?_⟩
 show o.uponIn (WF none) 0 P a _ _ ((Oper.semAt none a.eval o).run P w)
 rw [KK w,Oper.uponIn_defer,hd]
 exact hQ
theorem A7 {id off:Nat} {v:Value} {F:St U→Prop}(hv:∀vs,v≠ .agg vs)(hI:Inv w0 k0 X0 may st.rs X w)(hk:av st.rs fr st.kn)(h:Di U k0 may id off v st F):
 ∃g cs T,nth st.rs id=some (.blk g cs T)∧aG w ⟨g,off,none⟩ [v] fun w'=>∃st',Steps w0 k0 X0 may st X st' X w'∧av st'.rs fr st'.kn∧F st':=by
 unfold Di at h
 split at h
 ·rename_i g cs T hn
  split at h
  ·rename_i hc
   rw [Bool.and_eq_true]at hc
   have M5:off<cs.length:=by simpa [Nat.blt_eq]using hc.1
   refine⟨g,cs,T,hn,?_⟩
   obtain⟨hX,W6,hb⟩:=(hI.sat.res id _ hn:X id g∧(∀k,X id k→k=g)∧Blk w g ⟨cs⟩ T)
   refine⟨g,off,⟨cs⟩,T,rfl,hb,by simp;omega,fun w2 hs=>?_⟩
   have e:setAt (⟨cs⟩:Array Value) off [v]=⟨cy cs off v⟩:=by
    show(⟨cs⟩:Array Value).setIfInBounds off v=_
    apply Array.ext'
    rw [pK];simp
   rw [e]at hs
   have NS:=ml hI hk hn hc.2 (hs.ch.mono fun k hk=>hk▸hX) (de.blk g cs (cy cs off v) T (by simp)) (show RS (X id) w2 (.blk g (cy cs off v) T)from⟨hX,W6,hs.blk⟩) (kn':=eH G6 st.kn) ?_
   ·exact⟨_,NS.steps,NS.kn,h⟩
   ·intro key k hm
    obtain⟨h1,h2⟩:=cW hm
    unfold G6 at h2
    split at h2
    ·exact mN (M:= [id]) (fun i _ hi=>by rw [br,if_neg (fun hh=>hi (by simp [hh.1]))]) (fun i hi a ha=>by
      simp at hi
      subst hi
      rw [hn]at ha
      injection ha with ha
      subst ha
      exact⟨_,by rw [br,if_pos ⟨rfl,aU hn⟩],.blk _ _ _ _ (by simp)⟩) (.inr rfl) (hk _ _ h1)
    ·cases h2
  ·exact h.elim
 ·exact h.elim
theorem Dz {fn:Func} {rets:List Nat} {Q:Ou U→Prop} {K8:List (Res U)} {bk:List Nat} {Wb:List (Key×Kn)} {a':Act} {w':World} {st':St U} {X':Nat→Nat→Prop} {dk:FuncId} {T:TypeId} {id off g:Nat} {e:Exit}(hA:Ans P dk T)(MR:K8.length=k0)(Ko:∀i,i∈bk→i<k0)(hr:Rep n fr a')(hs:Steps w k0 X bk ⟨K8,Wb,[]⟩ X st' X' w')(hk:av st'.rs fr st'.kn)
 (hg:∃cs T,nth st'.rs id=some (.blk g cs T))(hd:a'.defers= [⟨.fn (.func dk) #[],#[.pointer (some ⟨g,off,none⟩)]⟩])(h:Hf U P k0 T id off bk rets Q fn e fr st'):bodyPostM (WF none) 0 P fn (aT K8 bk X w Q) e a' w':=by
 have hinv:(invoke (.fn (.func dk) #[]) #[.pointer (some ⟨g,off,none⟩)]).run P w'= .ok (.enter dk #[.pointer (some ⟨g,off,none⟩)]) w':=ek (P:=P) (C:= [dk]) (f:=dk) (by simp [dP,hA.can]) (by simp) _ _
 have go:∀ {u:FrameMode} {R:Ending→FrameMode→World→Prop},u≠ .run→CallsDIn (WF none) 0 P dk #[.pointer (some ⟨g,off,none⟩)] u w' R→(∀e u' w2,R e u' w2→(∃v,e= .returned v)∧LeavesInM (WF none) 0 P fn a'.tmps (aT K8 bk X w Q) [] (settle u') w2)→LeavesInM (WF none) 0 P fn a'.tmps (aT K8 bk X w Q) a'.defers u w':=by
  intro u R hu hc hR
  rw [hd]
  refine⟨hu,.inr ⟨fun h=>(by cases h),_,_,dk,_,rfl,hinv,fun _ _=>trivial,hc.mono fun e u' w2 h=>?_⟩⟩
  obtain⟨⟨v,rfl⟩,h2⟩:=hR e u' w2 h
  exact h2
 have res:tn U P k0 bk rets Q fn fr st'→LeavesInM (WF none) 0 P fn a'.tmps (aT K8 bk X w Q) a'.defers .returning w':=fun h=>go (by simp) (hA.calm _ w') fun e u' w2 ⟨h1,h2,h3⟩=>by
  subst h2;subst h3
  exact⟨h1,oV MR Ko hr hs hk h⟩
 unfold Hf at h
 split at h
 ·exact res h
 ·exact res h
 ·rename_i T' x
  split at h
  ·rename_i hT
   have hT:=Nat.eq_of_beq_eq_true hT
   subst hT
   obtain⟨g',cs,T2,hn,La⟩:=A7 (by simp) hs.inv hk h
   obtain⟨cs',T3,MT⟩:=hg
   rw [hn]at MT
   injection MT with MT
   injection MT with e1 e2 e3
   subst e1
   refine go (by simp) (hA.IJ _ x w' _ La) fun e u' w2 ⟨h1,h2,KF,h3,h4,h5⟩=>⟨h1,?_⟩
   rw [h2]
   exact oV MR Ko hr (hs.trans h3) h4 h5
  ·exact h.elim
 ·exact h.elim
theorem Cp {f:Nat} {fn:Func} {an:An} {rets:List Nat} {c:Ctr U} {dk:FuncId} {T:TypeId}(hA:Ans P dk T)(hf:P.funcs[f]? =some fn)(hm:P.follows .mixedOrders=true)(Kx:∀f c,tbl.c f=some c→LV U P f c∧bP P f=true)(Ko:gK (fun i=>Nat.blt i c.res.length) c.bk=true)(h:VcD U P tbl dk T N fn an rets c):LV U P f c:=by
 have LM:∀i,i∈c.bk→i<c.res.length:=fun i hi=>by simpa [Nat.blt_eq]using cu.1 Ko i hi
 refine zD (V:=fun code Q fr st=>GK U P tbl c.bk c.res.length dk T N fn an rets code Q fr st) hf ?_ (fun args ks rs kc Q h=>?_) h
 ·intro code Q K8 X w kn fr a MR hI Lq K2 Lc h
  unfold GK at h
  split at h
  case h_2=>exact h.elim
  rename_i i0 ops0 i1 ops1 code
  refine wpIn_seq (wpIn_mono (cV Kx hm _ _ _ _ _ X _ w Lq hI K2 h) fun e a1 w1 he=>?_)
  cases e
  case normal=>
   obtain⟨OQ,MC,⟨MZ,X1,g1,g2,g3,g4⟩,_⟩:=he
   dsimp only at g4
   split at g4
   case h_2=>exact g4.elim
   rename_i t ht
   split at g4
   case h_2=>exact g4.elim
   rename_i id off hkt
   have g3:OQ.ds= []:=g3.trans Lc
   have KC:den U MZ.rs (.loc id off)=some (lk OQ.g t OQ.e):=g2.get hkt
   obtain⟨g,cs,T1,hn⟩:∃g cs T1,nth MZ.rs id=some (.blk g cs T1):=by
    unfold den at KC
    simp only [PK.id]at KC
    cases hn:nth MZ.rs id with
    | none=>rw [hn]at KC;cases KC
    | some r=>cases r<;>first | exact⟨_,_,_,rfl⟩ | (rw [hn]at KC;cases KC)
   have UB:lk OQ.g t OQ.e= .pointer (some ⟨g,off,none⟩):=by
    simp only [den,PK.id,hn,cm,Option.some.injEq]at KC
    exact KC.symm
   have hev:a1.eval (.tmp t)= .pointer (some ⟨g,off,none⟩):=by rw [MC.eval];exact UB
   refine wpIn_seq (Hg ht ?_)
   rw [hev,MC.defers,g3]
   rw [UB]at g4
   have LW:Rep fn.ntmps ⟨OQ.e,OQ.g,[⟨.fn (.func dk) #[],#[.pointer (some ⟨g,off,none⟩)]⟩]⟩ {a1 with defers:= [⟨.fn (.func dk) #[],#[.pointer (some ⟨g,off,none⟩)]⟩]}:=⟨MC.size,MC.get,rfl⟩
   refine wpIn_mono (cV Kx hm code an _ _ _ X1 _ w1 LW g1.inv (g2.same fun _=>rfl) g4) fun e a2 w2 he=>?_
   cases e
   case outgrown=>exact he.elim
   all_goals
    obtain⟨Kr,hr3,⟨KF,X2,k1,k2,k3,k4⟩,_⟩:=he
    obtain⟨b,hb,KI⟩:=k1.root id _ hn
    exact Dz hA MR LM hr3 (g1.trans k1) k2 (by cases KI;exact⟨_,_,hb⟩) (hr3.defers.trans k3) k4
  case outgrown=>exact he.elim
  all_goals
   obtain⟨OQ,MC,⟨MZ,X1,g1,g2,g3,g4⟩,_⟩:=he
   exact g4.elim
 ·unfold HK at h
  split at h
  case h_2=>exact h.elim
  rename_i code hb KM
  simp only [Bool.and_eq_true]at KM
  exact⟨code,hb,KM.1,KM.2,h⟩
theorem l7 {f:Nat} {fn:Func} {an:An} {rets:List Nat} {c:Ctr U} {tb:List (Nat×Ctr U)} {sh:Sh} {al:List (Nat×List PK×List PK)} {dk:FuncId} {T:TypeId}(hA:Ans P dk T)(hf:P.funcs[f]? =some fn)(hm:P.follows .mixedOrders=true)(ht:th U P tb)(hb:(gK (fun p=>bP P p.1) tb && gK (fun i=>Nat.blt i c.res.length) c.bk)=true)(h:VcD U P ⟨AD tb,sh,al⟩ dk T N fn an rets c):LV U P f c:=by
 rw [Bool.and_eq_true]at hb
 exact Cp hA hf hm (fun f c U1=>nB U1 ht hb.1) hb.2 h
end
end
end Go.Proofs.YtinhphjfnedhgaaGreatDoor.V
namespace Go.Proofs.YtinhphjfnedhgaaGreatDoor
open Go.Proofs.Tryz (prog)
open Go Go.RowKit V
open Go.IntKind (i64 u32 u64)
section
set_option maxRecDepth 100000
theorem uX {w:World} {p:Addr} {v:Value} {K:World→Prop}(h:aG w p [v] K):(∃u,w.cell? p=some u)∧w.frozen? p=false∧K (w.setCell p v):=by
 obtain⟨g,o,cs,T,rfl,hb,hl,hK⟩:=h
 have ho:o<cs.size:=by have:o+1≤cs.size:=hl;omega
 refine⟨⟨cs[o],hb.cell (by simp [ho])⟩,?_,hK _ (hb.set o v)⟩
 have hb:w.heap[g]? =some (.cells cs T (0,0)):=hb
 simp [World.frozen?,hb]
theorem DV(p:Addr)(w:World):CallsDIn (WF none) 0 prog 82 #[.pointer (some p)] .returning w fun e u w'=>(∃v,e= .returned v)∧u= .returning∧w'=w:=by
 refine callsDIn_of_wpSIn Tryz.func82 rfl trivial fun c₀ cs hu=>?_
 apply wpSIn_seq
 apply wpSIn_region
 simp [wpOpsSIn,go_sem,recoverD,hu,Tryz.ntmps82,Exit.thenS]
 refine wpSIn_of_wpIn rfl (wpIn_block (wpIn_seq (wpIn_region_list ?_)))
 simp [wpListIn,Oper.wpIn,go_sem,Oper.semAt,Region.wanted]
 refine wpIn_cond (t:=true) (by simp [Act.eval,Array.replicate]) ?_
 simp only [if_true]
 refine wpIn_region_list ?_
 simp [wpListIn,Oper.wpIn,go_sem,Oper.semAt,Region.wanted,Exit.inBlock,bodyPostS,results,Tryz.results82]
 cases c₀
 simp_all
theorem DU(p:Addr)(x:Int)(w:World)(K:World→Prop)(h:aG w p [.int .u32 x] K):CallsDIn (WF none) 0 prog 82 #[.pointer (some p)] (.panicking [⟨.iface 236 (.int .u32 x),false,false⟩]) w fun e u w'=>(∃v,e= .returned v)∧settle u= .returning∧K w':=by
 obtain⟨⟨u0,hc⟩,hz,hK⟩:=uX h
 refine callsDIn_of_wpSIn Tryz.func82 rfl trivial fun c₀ cs hu=>?_
 apply wpSIn_seq
 apply wpSIn_region
 simp [wpOpsSIn,go_sem,recoverD,hu,Tryz.ntmps82,Exit.thenS]
 refine wpSIn_of_wpIn rfl (wpIn_block (wpIn_seq (wpIn_region_list ?_)))
 simp [wpListIn,Oper.wpIn,go_sem,Oper.semAt,Region.wanted]
 refine wpIn_cond (t:=false) (by simp [Act.eval,Array.replicate]) ?_
 simp only [Bool.false_eq_true,if_false]
 have hta:∀w:World,(Instr.typeAssert (.iface 236 (.int .u32 x)) 20 236 true).run prog w= .ok (.tuple #[.int .u32 x,.bool true]) w:=fun w=>by kernel_rfl
 refine wpIn_seq (wpIn_region_list ?_)
 simp [wpListIn,Oper.wpIn,go_sem,Oper.semAt,Region.wanted,hta]
 refine wpIn_cond (t:=true) (by simp [Act.eval,Array.replicate]) ?_
 simp only [if_true]
 refine wpIn_seq (wpIn_region_list ?_)
 simp [wpListIn,Oper.wpIn,go_sem,Oper.semAt,Region.wanted]
 refine wpIn_region_list ?_
 simp [wpListIn,Oper.wpIn,go_sem,Oper.semAt,Region.wanted,hc,hz,Exit.inBlock,bodyPostS,results,Tryz.results82]
 exact⟨rfl,hK⟩
theorem ans:Ans prog 82 236:=⟨by kernel_rfl,DV,DU⟩
end
section
set_option maxRecDepth 100000
set_option maxHeartbeats 1000000
attribute [local irreducible] Vc2 VcD
attribute [local grind=] Pd.dF Pd.eD Pd.jC Pd.mB Pd.bJ Pd.g6 Pd.jB Pd.gG Pd.mm Pd.ru
attribute [local grind .] Pd.Ok.ent
attribute [local grind→] Pd.Ok.dz
def bU:Ctr Un:=⟨[.one (.int .i64)],[],[],[],fun p K=>K ⟨(.agg #[(.bool true),(.int .i64 p)]),none,[],[],[]⟩⟩
def zu(p:Int)(Q:Ou Un→Prop):Prop:=
 ∀(gv:Nat),
 Q ⟨(.agg #[(.bool true),(.int .i64 p)]),none,[],[],[]⟩
theorem zv:Vc2 Un prog (bc []) [] Tryz.f88 .leaf [] bU=(∀p,∀Q,(bU.body p Q)→zu p Q):=by kernel_rfl
theorem fL:LV Un prog 88 bU:=verify Tryz.func88 aa (tb:= []) trivial (by kernel_rfl) (zv.mpr fun p Q h gv=>h)
def gN:Ctr Un:=⟨[.one (.obj 0 0),.one (.int .i64),.enc 8],[],[.ob 1 [(1,1,0)],.ob 0 []],[1],fun s f r E rm m K=>E.n=m.S∧W26.Ok f∧K ⟨(.tuple #[]),(some (.t [])),[.ob 0 (m.wrs s 11 (W26.ws f))],[],[]⟩⟩
def Gl(s:Int)(f:W26)(r:Nat→Nat)(E:Pd)(rm:Nat→Nat)(m:Mem)(Q:Ou Un→Prop):Prop:=
 Pd.Ok E→
 Mem.Wf m→
 ∀(gv:Nat),
 ∀(s1:List U32),s1=(W26.n f)→
 (s1.length=26)∧
 ∃I:Nat→Int→Mem→Prop,(∃m1,I m1 0 m)∧∀(m1:Nat)(Ka:Nat→Value)(x9:Int)(JO:Mem),I m1 x9 JO→
 Mem.Wf JO→
 split (decide (x9<26)) (
  (0≤x9∧x9<(26:Int))∧
  ∃K6:Int,(⟨W26.c (W26.mk s1)⟩:Array Value)[Int.toNat x9*1]? =some (.int .u32 K6)∧
  (0≤K6∧K6<4294967296)∧
  ∀(m3:Mem),m3=(JO.write true s (i64.wrap (11+x9)) K6)→
  Mem.Wf m3→
  ∃m2,m2<m1∧I m2 (i64.wrap (x9+1)) m3) (
  Q ⟨(.tuple #[]),(some (.t [])),[.ob 0 JO],[],[]⟩)
theorem Gm:Vc2 Un prog (bc [(14,aJ),(88,bU),(42,dq)]) [] Tryz.f86 (.r' (.r' (.two (.node [] (some ⟨[(9,(.one (.int .i64)))],[],[6,7]++upN 9 13,[(1,(.ob 0))]⟩) [] [] .leaf .leaf) .leaf))) [] gN=(∀s (f:W26) r (E:Pd) rm (m:Mem),∀Q,(gN.body s f r E rm m Q)→Gl s f r E rm m Q):=by kernel_rfl
theorem uM:LV Un prog 86 gN:=verify Tryz.func86 aa (tb:= [(14,aJ),(88,bU),(42,dq)]) ⟨bO,fL,jn,trivial⟩ (by kernel_rfl) (Gm.mpr fun s f r E rm m Q h=>by
 obtain⟨Jl,Jp,h⟩:=h
 exact fun f1 f2 gv s1 MJ=>af (by subst_vars;rfl) fun e3=>⟨fun m1 x9 JO=>(m1=(26 - x9).toNat)∧(0≤x9∧x9≤26)∧(JO=m.wrs s 11 ((W26.ws f).take x9.toNat)),⟨_,rfl,(by omega),(by rfl)⟩,fun m1 _ x9 JO ⟨hm,h1,h2⟩=>fun f4=>aq (fun c1=>af (by omega) fun e5=>⟨((W26.ws f).getD x9.toNat 0),af (by subst_vars;rw [W26.td];exact W26.Iw (by omega)) fun e6=>af (W26.Cm Jp (by omega)) fun e7 m3 Ke f8=>⟨_,(by rw [ax (by omega)];omega),rfl,(by rw [ax (by omega)];omega),(by rw [Mem.pj (W26.gn f) (by omega),← h2];assumption)⟩⟩) fun c1=>au h rfl (ab (uO0 (by rw [h2,List.take_of_length_le];rw [W26.gn];omega)) rfl) rfl⟩)
def cx:Ctr Un:=⟨[.one (.obj 0 0),.one (.int .i64),.agg [.int .i64,.int .u32,.nsl]],[(2,5)],[.ob 1 [(1,1,0)],.ob 0 [],.ob 5 []],[1],fun s k a r E rm m rk kk K=>E.n=m.S∧(0≤(a:Int)∧(a:Int)<4294967296)∧((k:Int)=1∨(k:Int)=2∨(k:Int)=4)∧K ⟨(.tuple #[]),(some (.t [])),[.ob 0 (m.msd kk s k a [])],[],[]⟩⟩
def rL(s:Int)(k:Int)(a:Int)(r:Nat→Nat)(E:Pd)(rm:Nat→Nat)(m:Mem)(rk:Nat→Nat)(kk:List Int)(Q:Ou Un→Prop):Prop:=
 Pd.Ok E→
 Mem.Wf m→
 ∀(gv:Nat),
 ∀(Jj:Nat),
 ∀(s1:List U32),s1=(W26.n (W26.mk []))→
 ∃I:Nat→Int→Mem→List U32→Prop,(∃m1,I m1 0 m s1)∧∀(m1:Nat)(J8:Nat→Value)(Kb:Int)(JO:Mem)(s4:List U32),I m1 Kb JO s4→
 Mem.Wf JO→
 split (decide (Kb<26)) (
  ∀(m3:Mem),m3=JO→
  Mem.Wf m3→
  ((0≤Kb∧Kb<(s4.length:Int))∧Kb<(26:Int))∧
  True∧
  ∀(s2:List U32),s2=(List.set s4 Kb.toNat (U32.mk (JO.bw true s (i64.wrap (11+Kb)))))→
  ∃m2,m2<m1∧I m2 (i64.wrap (Kb+1)) m3 s2) (
  (s4.length=26)∧
  W26.Ok (W26.mk (W26.n (W26.mk s4)))∧
  (0≤a∧a<4294967296)∧
  (k=1∨k=2∨k=4)∧
  split (decide ((Dg.ao (W26.n (W26.mk (W26.n (W26.mk s4)))))=0)) (
   ∀(Ju:Nat),
   ∀(s2:List U32),s2=(W26.n (W26.mk []))→
   (s2.length=26)∧
   ∀(s3:List U32),s3=(Dg.svL ((Dg.load (W26.n (W26.mk (W26.n (W26.mk s4))))).add kk (opW k a [])))→
   (s3.length=26)∧
   E.n=JO.S∧
   W26.Ok (W26.mk (W26.n (W26.mk s3)))∧
   ∀(m3:Mem),m3=(JO.wrs s 11 (W26.ws (W26.mk (W26.n (W26.mk s3)))))→
   Mem.Wf m3→
   Q ⟨(.tuple #[]),(some (.t [])),[.ob 0 m3],[],[]⟩) (
   ∀(Ju:Nat),
   ∀(s2:List U32),s2=(W26.n (W26.mk []))→
   (s2.length=26)∧
   ∀(s3:List U32),s3=(W26.n (W26.mk []))→
   split ((Dg.ao (W26.n (W26.mk (W26.n (W26.mk s4)))))==0) (
    (s3.length=26)∧
    E.n=JO.S∧
    W26.Ok (W26.mk (W26.n (W26.mk s3)))∧
    ∀(m3:Mem),m3=(JO.wrs s 11 (W26.ws (W26.mk (W26.n (W26.mk s3)))))→
    Mem.Wf m3→
    Q ⟨(.tuple #[]),(some (.t [])),[.ob 0 m3],[],[]⟩) (
    Q ⟨(.tuple #[]),(some (.t [])),[.ob 0 JO],[],[]⟩)))
theorem rO:Vc2 Un prog (bc [(14,aJ),(88,bU),(92,jP),(68,eO),(86,gN)]) [] Tryz.f89 (.r' (.r' (.two (.r' (.two (.node [] (some ⟨[(10,(.one (.int .i64)))],[],[7]++upN 10 16,[(1,(.ob 0)),(4,(.ob 7))]⟩) [] [] .leaf .leaf) .leaf)) .leaf))) [] cx=(∀s k a r (E:Pd) rm (m:Mem) rk (kk:List Int),∀Q,(cx.body s k a r E rm m rk kk Q)→rL s k a r E rm m rk kk Q):=by kernel_rfl
theorem iR:LV Un prog 89 cx:=verify Tryz.func89 aa (tb:= [(14,aJ),(88,bU),(92,jP),(68,eO),(86,gN)]) ⟨bO,fL,um,qN,uM,trivial⟩ (by kernel_rfl) (rO.mpr fun s k a r E rm m rk kk Q h=>by
 obtain⟨Jl,Jp,JD,h⟩:=h
 exact fun f1 f2 gv Jj s1 MJ=>⟨fun m1 Kb JO s4=>(m1=(26 - Kb).toNat)∧(0≤Kb∧Kb≤26)∧(JO=m)∧(s4=(m.dgW s).take Kb.toNat++List.replicate (26 - Kb.toNat) (U32.mk 0)),⟨_,rfl,(by omega),(by rfl),(by subst_vars;rfl)⟩,fun m1 _ Kb JO s4 ⟨hm,h1,h2,h3⟩=>fun f3=>aq (fun c1 m3 Ke f4=>af (by rw [h3];simp [Mem.cq];omega) fun e5=>af trivial fun _ s2 JF=>⟨_,(by rw [ax (by omega)];omega),rfl,(by rw [ax (by omega)];omega),(by subst_vars;rfl),(by subst h2;rw [JF];exact Mem.qt (by omega) h3)⟩) fun c1=>(by(have h4:s4=m.dgW s:=by rw [h3];exact Mem.tO (by omega));(have h5:W26.n (W26.mk (W26.n (W26.mk s4)))=m.dgW s:=by rw [h4];exact W26.nn (Mem.cq m s));rw [h5];exact af (by rw [h4];exact Mem.cq m s) fun e7=>af (by rw [h4];exact W26.jZ (Mem.cq m s) (Mem.dO f2 s)) fun e8=>af ‹_› fun e9=>af ‹_› fun VG=>aq (fun c2=>(by(have h6:=(Dg.mX (K:=kk) (l:=opW k a []) (Dg.eV (Mem.dO f2 s) c2) (tv (k:=k) (a:=a) Jp (by omega) (fun x hx=>absurd hx (by simp)))).1);exact fun Ju s2 JF=>af (by subst_vars;rfl) fun VF s3 JB=>af (by subst_vars;rfl) fun Xg=>af (by grind) fun Xf=>af (by subst JB;exact W26.jZ rfl (Dg.gp h6)) fun Xe m3 Ke f15=>au h rfl (ab (uO0 (by rw [Ke,JB,Dg.xZ h6,h2];unfold Mem.msd;rw [if_pos c2])) rfl) rfl)) fun c2 Ju s2 JF=>af (by subst_vars;rfl) fun Vj s3 JB=>aB (fun c3=>(by exfalso;exact c2 c3)) fun c3=>au h rfl (ab (uO0 (by rw [h2];unfold Mem.msd;rw [if_neg c2])) rfl) rfl)⟩)
def fR:Ctr Un:=⟨[.one (.obj 0 0),.one (.int .i64),.agg [.int .i64,.int .u32,.sl 2]],[(3,5)],[.ob 1 [(1,1,0)],.ob 0 [],.lst 1 false 29,.ob 5 []],[1],fun s k a r E rm m A0 c0 l rk kk K=>E.n=m.S∧(0≤(a:Int)∧(a:Int)<4294967296)∧(k:Int)=3∧l.length=1024∧dm l∧K ⟨(.tuple #[]),(some (.t [])),[.ob 0 (m.msd kk s k a l)],[],[]⟩⟩
def rR(s:Int)(k:Int)(a:Int)(r:Nat→Nat)(E:Pd)(rm:Nat→Nat)(m:Mem)(A0:Option Addr)(c0:Nat)(l:List U32)(rk:Nat→Nat)(kk:List Int)(Q:Ou Un→Prop):Prop:=
 Pd.Ok E→
 Mem.Wf m→
 ∀(gv:Nat),
 ∀(Jj:Nat),
 ∀(s1:List U32),s1=(W26.n (W26.mk []))→
 ∃I:Nat→Int→Mem→List U32→Prop,(∃m1,I m1 0 m s1)∧∀(m1:Nat)(J8:Nat→Value)(Kb:Int)(JO:Mem)(s5:List U32),I m1 Kb JO s5→
 Mem.Wf JO→
 split (decide (Kb<26)) (
  ∀(m3:Mem),m3=JO→
  Mem.Wf m3→
  ((0≤Kb∧Kb<(s5.length:Int))∧Kb<(26:Int))∧
  True∧
  ∀(s2:List U32),s2=(List.set s5 Kb.toNat (U32.mk (JO.bw true s (i64.wrap (11+Kb)))))→
  ∃m2,m2<m1∧I m2 (i64.wrap (Kb+1)) m3 s2) (
  (s5.length=26)∧
  W26.Ok (W26.mk (W26.n (W26.mk s5)))∧
  (0≤a∧a<4294967296)∧
  k=3∧
  l.length=1024∧
  dm l∧
  split (decide ((Dg.ao (W26.n (W26.mk (W26.n (W26.mk s5)))))=0)) (
   ∀(Ju:Nat),
   ∀(s2:List U32),s2=(W26.n (W26.mk []))→
   (s2.length=26)∧
   ∀(s3:List U32),s3=(Dg.svL ((Dg.load (W26.n (W26.mk (W26.n (W26.mk s5))))).add kk (opW k a l)))→
   (s3.length=26)∧
   E.n=JO.S∧
   W26.Ok (W26.mk (W26.n (W26.mk s3)))∧
   ∀(m3:Mem),m3=(JO.wrs s 11 (W26.ws (W26.mk (W26.n (W26.mk s3)))))→
   Mem.Wf m3→
   Q ⟨(.tuple #[]),(some (.t [])),[.ob 0 m3],[],[]⟩) (
   ∀(Ju:Nat),
   ∀(s2:List U32),s2=(W26.n (W26.mk []))→
   (s2.length=26)∧
   ∀(s3:List U32),s3=(W26.n (W26.mk []))→
   split ((Dg.ao (W26.n (W26.mk (W26.n (W26.mk s5)))))==0) (
    (s3.length=26)∧
    E.n=JO.S∧
    W26.Ok (W26.mk (W26.n (W26.mk s3)))∧
    ∀(m3:Mem),m3=(JO.wrs s 11 (W26.ws (W26.mk (W26.n (W26.mk s3)))))→
    Mem.Wf m3→
    Q ⟨(.tuple #[]),(some (.t [])),[.ob 0 m3],[],[]⟩) (
    Q ⟨(.tuple #[]),(some (.t [])),[.ob 0 JO],[],[]⟩)))
theorem rS:Vc2 Un prog (bc [(14,aJ),(88,bU),(92,jP),(68,ia),(86,gN)]) [] Tryz.f89 (.r' (.r' (.two (.r' (.two (.node [] (some ⟨[(10,(.one (.int .i64)))],[],[7]++upN 10 16,[(1,(.ob 0)),(5,(.ob 7))]⟩) [] [] .leaf .leaf) .leaf)) .leaf))) [] fR=(∀s k a r (E:Pd) rm (m:Mem) A0 c0 (l:List U32) rk (kk:List Int),∀Q,(E.n=m.S∧(0≤(a:Int)∧(a:Int)<4294967296)∧(k:Int)=3∧l.length=1024∧dm l∧Q ⟨(.tuple #[]),(some (.t [])),[.ob 0 (m.msd kk s k a l)],[],[]⟩)→rR s k a r E rm m A0 c0 l rk kk Q):=by kernel_rfl
theorem rQ:LV Un prog 89 fR:=verify Tryz.func89 aa (tb:= [(14,aJ),(88,bU),(92,jP),(68,ia),(86,gN)]) ⟨bO,fL,um,qO,uM,trivial⟩ (by kernel_rfl) (rS.mpr fun s k a r E rm m A0 c0 l rk kk Q h=>by
 obtain⟨Jl,Jp,JD,NI,Lr,h⟩:=h
 exact fun f1 f2 gv Jj s1 MJ=>⟨fun m1 Kb JO s5=>(m1=(26 - Kb).toNat)∧(0≤Kb∧Kb≤26)∧(JO=m)∧(s5=(m.dgW s).take Kb.toNat++List.replicate (26 - Kb.toNat) (U32.mk 0)),⟨_,rfl,(by omega),(by rfl),(by subst_vars;rfl)⟩,fun m1 _ Kb JO s5 ⟨hm,h1,h2,h3⟩=>fun f3=>aq (fun c1 m3 Ke f4=>af (by rw [h3];simp [Mem.cq];omega) fun e5=>af trivial fun _ s2 JF=>⟨_,(by rw [ax (by omega)];omega),rfl,(by rw [ax (by omega)];omega),(by subst_vars;rfl),(by subst h2;rw [JF];exact Mem.qt (by omega) h3)⟩) fun c1=>(by(have h4:s5=m.dgW s:=by rw [h3];exact Mem.tO (by omega));(have h5:W26.n (W26.mk (W26.n (W26.mk s5)))=m.dgW s:=by rw [h4];exact W26.nn (Mem.cq m s));rw [h5];exact af (by rw [h4];exact Mem.cq m s) fun e7=>af (by rw [h4];exact W26.jZ (Mem.cq m s) (Mem.dO f2 s)) fun e8=>af ‹_› fun e9=>af ‹_› fun VG=>af ‹_› fun VF=>af ‹_› fun Xg=>aq (fun c2=>(by(have h6:=(Dg.mX (K:=kk) (l:=opW k a l) (Dg.eV (Mem.dO f2 s) c2) (tv (k:=k) (a:=a) Jp (by omega) Lr)).1);exact fun Ju s2 JF=>af (by subst_vars;rfl) fun Xf s3 JB=>af (by subst_vars;rfl) fun Xe=>af (by grind) fun Xd=>af (by subst JB;exact W26.jZ rfl (Dg.gp h6)) fun Vj m3 Ke f17=>au h rfl (ab (uO0 (by rw [Ke,JB,Dg.xZ h6,h2];unfold Mem.msd;rw [if_pos c2])) rfl) rfl)) fun c2 Ju s2 JF=>af (by subst_vars;rfl) fun e18 s3 JB=>aB (fun c3=>(by exfalso;exact c2 c3)) fun c3=>au h rfl (ab (uO0 (by rw [h2];unfold Mem.msd;rw [if_neg c2])) rfl) rfl)⟩)
def bg:Ctr Un:=⟨[.one (.bool),.one (.int .u32)],[],[],[],fun yes c K=>split yes (K ⟨(.iface 236 (.int .u32 c)),(some .pan),[],[],[]⟩) (K ⟨(.tuple #[]),(some (.t [])),[],[],[]⟩)⟩
def zw(yes:Bool)(c:Int)(Q:Ou Un→Prop):Prop:=
 split yes (
  Q ⟨(.iface 236 (.int .u32 c)),(some .pan),[],[],[]⟩) (
  Q ⟨(.tuple #[]),(some (.t [])),[],[],[]⟩)
theorem zx:Vc2 Un prog (bc []) [] Tryz.f84 .leaf [] bg=(∀yes c,∀Q,(bg.body yes c Q)→zw yes c Q):=by kernel_rfl
theorem dC:LV Un prog 84 bg:=verify Tryz.func84 aa (tb:= []) trivial (by kernel_rfl) (zx.mpr fun yes c Q h=>ae (fun c1=>(bK h ‹_›)) fun c1=>(bL h ‹_›))
def dt:Ctr Un:=⟨[.one (.obj 0 0),.one (.int .u32)],[],[.ob 1 [(1,1,0)],.ob 0 []],[],fun n r E rm m K=>E.n=m.S∧(0≤(n:Int)∧(n:Int)<4294967296)∧split (decide (((E.on m).aX n)≠0)) (K ⟨(.iface 236 (.int .u32 ((E.on m).aX n))),(some .pan),[],[],[]⟩) (K ⟨(.int .i64 n),none,[],[],[]⟩)⟩
def EM(n:Int)(r:Nat→Nat)(E:Pd)(rm:Nat→Nat)(m:Mem)(Q:Ou Un→Prop):Prop:=
 Pd.Ok E→
 Mem.Wf m→
 E.n=m.S∧
 split (decide ((i64.wrap n)≥(E.on m).S)) (
  Q ⟨(.iface 236 (.int .u32 1)),(some .pan),[],[],[]⟩) (
  Q ⟨(.int .i64 (i64.wrap n)),none,[],[],[]⟩)
theorem EN:Vc2 Un prog (bc [(120,kQ),(84,bg)]) [] Tryz.f83 .leaf [] dt=(∀n r (E:Pd) rm (m:Mem),∀Q,(dt.body n r E rm m Q)→EM n r E rm m Q):=by kernel_rfl
section
attribute [local grind=] DB.aX
theorem kS:LV Un prog 83 dt:=verify Tryz.func83 aa (tb:= [(120,kQ),(84,bg)]) ⟨xJ,dC,trivial⟩ (by kernel_rfl) (EN.mpr fun n r E rm m Q h=>by
 obtain⟨Jl,Jp,h⟩:=h
 exact fun f1 f2=>(by(have Um:i64.wrap n=n:=ax (by omega));rw [Um];exact af ‹_› fun s3=>aq (fun c1=>au (bK h (by grind)) (congrArg (Value.iface 236) (bQ (by grind))) rfl rfl) fun c1=>qi (bL h (by grind)) (by omega)))
end
def eQ:Ctr Un:=⟨[.one (.obj 0 0),.one (.int .u32)],[],[.ob 1 [(1,1,0)],.ob 0 []],[],fun n r E rm m K=>E.n=m.S∧(0≤(n:Int)∧(n:Int)<4294967296)∧split (decide (((E.on m).eE n)≠0)) (K ⟨(.iface 236 (.int .u32 ((E.on m).eE n))),(some .pan),[],[],[]⟩) (K ⟨(.agg #[(.bool false),(.int .i64 n)]),none,[],[],[]⟩)⟩
def zs(n:Int)(r:Nat→Nat)(E:Pd)(rm:Nat→Nat)(m:Mem)(Q:Ou Un→Prop):Prop:=
 Pd.Ok E→
 Mem.Wf m→
 ∀(gv:Nat),
 split (decide ((i64.wrap n)≥m.I)) (
  Q ⟨(.iface 236 (.int .u32 17)),(some .pan),[],[],[]⟩) (
  Q ⟨(.agg #[(.bool false),(.int .i64 (i64.wrap n))]),none,[],[],[]⟩)
theorem zt:Vc2 Un prog (bc [(14,aJ),(55,er),(84,bg)]) [] Tryz.f94 .leaf [] eQ=(∀n r (E:Pd) rm (m:Mem),∀Q,(eQ.body n r E rm m Q)→zs n r E rm m Q):=by kernel_rfl
section
attribute [local grind=] DB.eE
theorem rl:LV Un prog 94 eQ:=verify Tryz.func94 aa (tb:= [(14,aJ),(55,er),(84,bg)]) ⟨bO,kF,dC,trivial⟩ (by kernel_rfl) (zt.mpr fun n r E rm m Q h=>by
 obtain⟨Jl,Jp,h⟩:=h
 exact fun f1 f2=>(by(have Um:i64.wrap n=n:=ax (by omega));rw [Um];exact fun gv=>aq (fun c1=>au (bK h (by grind)) (congrArg (Value.iface 236) (bQ (by grind))) rfl rfl) fun c1=>au (bL h (by grind)) (congrArg (fun l=>Value.agg (List.toArray l)) (ab rfl (ab (cr (by omega)) rfl))) rfl rfl))
end
def ez:Ctr Un:=⟨[.one (.obj 0 0),.one (.int .i64)],[],[.ob 1 [(1,1,0)],.ob 0 []],[],fun n r E rm m K=>E.n=m.S∧split (decide (((E.on m).bj n)≠0)) (K ⟨(.iface 236 (.int .u32 ((E.on m).bj n))),(some .pan),[],[],[]⟩) (K ⟨(.tuple #[]),(some (.t [])),[],[],[]⟩)⟩
def EO(n:Int)(r:Nat→Nat)(E:Pd)(rm:Nat→Nat)(m:Mem)(Q:Ou Un→Prop):Prop:=
 Pd.Ok E→
 Mem.Wf m→
 E.n=m.S∧
 ∀(gv:Nat),
 split (((E.on m).entry n).typ !=0) (
  Q ⟨(.iface 236 (.int .u32 2)),(some .pan),[],[],[]⟩) (
  Q ⟨(.tuple #[]),(some (.t [])),[],[],[]⟩)
theorem EP:Vc2 Un prog (bc [(18,cB),(84,bg)]) [] Tryz.f85 .leaf [] ez=(∀n r (E:Pd) rm (m:Mem),∀Q,(ez.body n r E rm m Q)→EO n r E rm m Q):=by kernel_rfl
section
attribute [local grind=] DB.bj
theorem nu:LV Un prog 85 ez:=verify Tryz.func85 aa (tb:= [(18,cB),(84,bg)]) ⟨gm,dC,trivial⟩ (by kernel_rfl) (EP.mpr fun n r E rm m Q h=>by
 obtain⟨Jl,h⟩:=h
 exact fun f1 f2=>af ‹_› fun s3 gv=>aK (fun c1=>au (bK h (by grind)) (congrArg (Value.iface 236) (bQ (by grind))) rfl rfl) fun c1=>(bL h (by grind)))
end
def cl:Ctr Un:=⟨[.one (.obj 0 0),.one (.int .u32)],[],[.ob 1 [(1,1,0)],.ob 0 []],[],fun s r E rm m K=>E.n=m.S∧(0≤(s:Int)∧(s:Int)<4294967296)∧split (decide (((E.on m).aR s)≠0)) (K ⟨(.iface 236 (.int .u32 ((E.on m).aR s))),(some .pan),[],[],[]⟩) (K ⟨(.int .i64 s),none,[],[],[]⟩)⟩
def uN(s:Int)(r:Nat→Nat)(E:Pd)(rm:Nat→Nat)(m:Mem)(Q:Ou Un→Prop):Prop:=
 Pd.Ok E→
 Mem.Wf m→
 E.n=m.S∧
 (0≤s∧s<4294967296)∧
 split (decide (((E.on m).aX s)≠0)) (
  Q ⟨(.iface 236 (.int .u32 ((E.on m).aX s))),(some .pan),[],[],[]⟩) (
  E.n=m.S∧
  ∀(gv:Nat),
  split (((E.on m).entry s).typ !=1) (
   Q ⟨(.iface 236 (.int .u32 3)),(some .pan),[],[],[]⟩) (
   split (((E.on m).entry s).state !=1) (
    Q ⟨(.iface 236 (.int .u32 4)),(some .pan),[],[],[]⟩) (
    Q ⟨(.int .i64 s),none,[],[],[]⟩)))
theorem uO:Vc2 Un prog (bc [(83,dt),(18,cB),(84,bg)]) [] Tryz.f87 .leaf [] cl=(∀s r (E:Pd) rm (m:Mem),∀Q,(cl.body s r E rm m Q)→uN s r E rm m Q):=by kernel_rfl
section
attribute [local grind=] DB.aR DB.aX DB.entry
theorem gO:LV Un prog 87 cl:=verify Tryz.func87 aa (tb:= [(83,dt),(18,cB),(84,bg)]) ⟨kS,gm,dC,trivial⟩ (by kernel_rfl) (uO.mpr fun s r E rm m Q h=>by
 obtain⟨Jl,Jp,h⟩:=h
 exact fun f1 f2=>af ‹_› fun s3=>af ‹_› fun s4=>aq (fun c1=>au (bK h (by grind)) (congrArg (Value.iface 236) (bQ (by grind))) rfl rfl) fun c1=>af ‹_› fun s5 gv=>aK (fun c2=>au (bK h (by grind)) (congrArg (Value.iface 236) (bQ (by grind))) rfl rfl) fun c2=>aK (fun c3=>au (bK h (by grind)) (congrArg (Value.iface 236) (bQ (by grind))) rfl rfl) fun c3=>(bL h (by grind)))
end
def eu:Ctr Un:=⟨[.one (.int .u32)],[],[],[],fun w K=>(0≤(w:Int)∧(w:Int)<4294967296)∧split (decide (DB.fq w≠0)) (K ⟨(.iface 236 (.int .u32 (DB.fq w))),(some .pan),[],[],[]⟩) (K ⟨(.agg #[(.int .u32 (bD w)),(.bool (paW w)),(.bool (paX w))]),none,[],[],[]⟩)⟩
def xS(w:Int)(Q:Ou Un→Prop):Prop:=
 ∀(gv:Nat),
 (0≤w∧w<4294967296)∧
 ∀(Jj:Nat),
 split ((fW w) !=0) (
  Q ⟨(.iface 236 (.int .u32 6)),(some .pan),[],[],[]⟩) (
  Q ⟨(.agg #[(.int .u32 (bD w)),(.bool (paW w)),(.bool (paX w))]),none,[],[],[]⟩)
theorem xT:Vc2 Un prog (bc [(63,fy),(84,bg)]) [] Tryz.f93 .leaf [] eu=(∀w,∀Q,(eu.body w Q)→xS w Q):=by kernel_rfl
section
attribute [local grind=] DB.fq
theorem oE:LV Un prog 93 eu:=verify Tryz.func93 aa (tb:= [(63,fy),(84,bg)]) ⟨qR,dC,trivial⟩ (by kernel_rfl) (xT.mpr fun w Q h=>by
 obtain⟨Jl,h⟩:=h
 exact fun gv=>af ‹_› fun s1 Jj=>aK (fun c1=>au (bK h (by grind)) (congrArg (Value.iface 236) (bQ (by grind))) rfl rfl) fun c1=>(bL h (by grind)))
end
def fM:Ctr Un:=⟨[.one (.obj 0 0),.one (.int .i64),.one (.int .u32)],[],[.ob 1 [(1,1,0)],.ob 0 []],[1],fun s va r E rm m K=>E.n=m.S∧(0≤(va:Int)∧(va:Int)<4294967296)∧split (decide (((E.on m).eG s va)≠0)) (K ⟨(.iface 236 (.int .u32 ((E.on m).eG s va))),(some .pan),[.ob 0 m],[],[]⟩) (K ⟨(.tuple #[]),(some (.t [])),[.ob 0 m],[],[]⟩)⟩
def Cj(s:Int)(va:Int)(r:Nat→Nat)(E:Pd)(rm:Nat→Nat)(m:Mem)(Q:Ou Un→Prop):Prop:=
 Pd.Ok E→
 Mem.Wf m→
 E.n=m.S∧
 (0≤va∧va<4294967296)∧
 ∀(m1:Mem),m1=m→
 Mem.Wf m1→
 split (((E.on m).bt s va)==140) (
  Q ⟨(.iface 236 (.int .u32 7)),(some .pan),[.ob 0 m1],[],[]⟩) (
  split (((E.on m).bt s va) !=0) (
   Q ⟨(.iface 236 (.int .u32 21)),(some .pan),[.ob 0 m1],[],[]⟩) (
   Q ⟨(.tuple #[]),(some (.t [])),[.ob 0 m1],[],[]⟩))
theorem Ck:Vc2 Un prog (bc [(156,m8),(84,bg)]) [] Tryz.f95 .leaf [] fM=(∀s va r (E:Pd) rm (m:Mem),∀Q,(fM.body s va r E rm m Q)→Cj s va r E rm m Q):=by kernel_rfl
section
attribute [local grind=] DB.eG
theorem tc:LV Un prog 95 fM:=verify Tryz.func95 aa (tb:= [(156,m8),(84,bg)]) ⟨FZ,dC,trivial⟩ (by kernel_rfl) (Ck.mpr fun s va r E rm m Q h=>by
 obtain⟨Jl,Jp,h⟩:=h
 exact fun f1 f2=>af ‹_› fun s3=>af ‹_› fun s4 m1 Jg f5=>aB (fun c1=>au (bK h (by grind)) (congrArg (Value.iface 236) (bQ (by grind))) (ab (uO0 (by grind)) rfl) rfl) fun c1=>aK (fun c2=>au (bK h (by grind)) (congrArg (Value.iface 236) (bQ (by grind))) (ab (uO0 (by grind)) rfl) rfl) fun c2=>au (bL h (by grind)) rfl (ab (uO0 (by grind)) rfl) rfl)
end
def fK:Ctr Un:=⟨[.one (.obj 0 0),.one (.int .u32),.one (.int .u32)],[(2,5)],[.ob 1 [(1,1,0)],.ob 0 [],.ob 5 []],[0,1],fun s q r E rm m rk kk K=>E.n=m.S∧(0≤(s:Int)∧(s:Int)<4294967296)∧(0≤(q:Int)∧(q:Int)<4294967296)∧K ⟨(.int .u32 ((E.on m).bW s q)),none,[.ob 1 (((E.on m).bx s q).pd),.ob 0 (((E.on m).bx s q).mem)],[],[]⟩⟩
def Cd(s:Int)(q:Int)(r:Nat→Nat)(E:Pd)(rm:Nat→Nat)(m:Mem)(rk:Nat→Nat)(kk:List Int)(Q:Ou Un→Prop):Prop:=
 Pd.Ok E→
 Mem.Wf m→
 ∀(gv:Nat),
 E.n=m.S∧
 (0≤s∧s<4294967296)∧
 split (decide (((E.on m).aX s)≠0)) (
  Q ⟨(.int .u32 ((E.on m).aX s)),none,[.ob 1 E,.ob 0 m],[],[]⟩) (
  E.n=m.S∧
  (0≤q∧q<4294967296)∧
  split (decide (((E.on m).aX q)≠0)) (
   Q ⟨(.int .u32 ((E.on m).aX q)),none,[.ob 1 E,.ob 0 m],[],[]⟩) (
   split (s==q) (
    Q ⟨(.int .u32 16),none,[.ob 1 E,.ob 0 m],[],[]⟩) (
    E.n=m.S∧
    split (decide (((E.on m).bj s)≠0)) (
     Q ⟨(.int .u32 ((E.on m).bj s)),none,[.ob 1 E,.ob 0 m],[],[]⟩) (
     E.n=m.S∧
     split (decide (((E.on m).bj q)≠0)) (
      Q ⟨(.int .u32 ((E.on m).bj q)),none,[.ob 1 E,.ob 0 m],[],[]⟩) (
      E.n=m.S∧
      ∀(E1:Pd),E1=((E.on m).aM s q).pd→
      Pd.Ok E1→
      ∀(m1:Mem),m1=((E.on m).aM s q).mem→
      Mem.Wf m1→
      split (((E.on m).aO s q) !=0) (
       Q ⟨(.int .u32 24),none,[.ob 1 E1,.ob 0 m1],[],[]⟩) (
       E1.n=m1.S∧
       W26.Ok (W26.mk (Dg.svL Dg.new))∧
       ∀(m2:Mem),m2=(m1.wrs s 11 (W26.ws (W26.mk (Dg.svL Dg.new))))→
       Mem.Wf m2→
       Q ⟨(.int .u32 0),none,[.ob 1 E1,.ob 0 m2],[],[]⟩))))))
theorem Ce:VcD Un prog (bc [(83,dt),(84,bg),(85,ez),(60,dB),(62,fv),(86,gN)]) 82 236 [] Tryz.f31 .leaf [] fK=(∀s q r (E:Pd) rm (m:Mem) rk (kk:List Int),∀Q,(fK.body s q r E rm m rk kk Q)→Cd s q r E rm m rk kk Q):=by kernel_rfl
section
attribute [local grind=] DB.bW
theorem ta:LV Un prog 31 fK:=l7 ans Tryz.func31 aa (tb:= [(83,dt),(84,bg),(85,ez),(60,dB),(62,fv),(86,gN)]) ⟨kS,dC,nu,jW,qM,uM,trivial⟩ (by kernel_rfl) (Ce.mpr fun s q r E rm m rk kk Q h=>by
 obtain⟨Jl,Jp,JD,h⟩:=h
 exact fun f1 f2 gv=>af ‹_› fun s3=>af ‹_› fun s4=>aq (fun c1=>au h (bQ (by grind)) (ab (uO1 (by(rw [DB.bx,if_neg (by grind)];exact Pd.bJ _ _ Jl))) (ab (uO0 (by(rw [DB.bx,if_neg (by grind)];(subst_vars;rfl)))) rfl)) rfl) fun c1=>af ‹_› fun s5=>af ‹_› fun s6=>aq (fun c2=>au h (bQ (by grind)) (ab (uO1 (by(rw [DB.bx,if_neg (by grind)];exact Pd.bJ _ _ Jl))) (ab (uO0 (by(rw [DB.bx,if_neg (by grind)];(subst_vars;rfl)))) rfl)) rfl) fun c2=>aB (fun c3=>au h (bQ (by grind)) (ab (uO1 (by(rw [DB.bx,if_neg (by grind)];exact Pd.bJ _ _ Jl))) (ab (uO0 (by(rw [DB.bx,if_neg (by grind)];(subst_vars;rfl)))) rfl)) rfl) fun c3=>af ‹_› fun s7=>aq (fun c4=>au h (bQ (by grind)) (ab (uO1 (by(rw [DB.bx,if_neg (by grind)];exact Pd.bJ _ _ Jl))) (ab (uO0 (by(rw [DB.bx,if_neg (by grind)];(subst_vars;rfl)))) rfl)) rfl) fun c4=>af ‹_› fun s8=>aq (fun c5=>au h (bQ (by grind)) (ab (uO1 (by(rw [DB.bx,if_neg (by grind)];exact Pd.bJ _ _ Jl))) (ab (uO0 (by(rw [DB.bx,if_neg (by grind)];(subst_vars;rfl)))) rfl)) rfl) fun c5=>af ‹_› fun s9 E1 Jy f10 m1 Jg f11=>aK (fun c6=>(by have htk:=DB.eJ c1 c2 c3 c4 c5;exact au h (bQ (by grind)) (ab (uO1 (by rw [DB.bx,if_neg (by grind)];subst_vars;rw [DB.aM,if_neg c6])) (ab (uO0 (by rw [DB.bx,if_neg (by grind)];subst_vars;rw [DB.aM,if_neg c6])) rfl)) rfl)) fun c6=>af (by(subst_vars;rfl)) fun MQ=>af (by show dm _;rw [W26.ry (by rfl)];exact Dg.gp Dg.km) fun V9 m2 Jw f14=>(by have htk:=DB.eJ c1 c2 c3 c4 c5;exact au h (bQ (by grind)) (ab (uO1 (by(rw [DB.bx,if_pos (by grind)];subst_vars;exact DB.cK (by simp only [Mem.fB,Mem.bB,Mem.hY])))) (ab (uO0 (by(rw [DB.bx,if_pos (by grind)];subst_vars;rfl))) rfl)) rfl))
end
def eP:Ctr Un:=⟨[.one (.obj 0 0),.one (.int .u32),.one (.int .u32),.one (.int .u32)],[(2,5)],[.ob 1 [(1,1,0)],.ob 0 [],.ob 5 []],[0,1],fun s p b r E rm m rk kk K=>E.n=m.S∧(0≤(s:Int)∧(s:Int)<4294967296)∧(0≤(p:Int)∧(p:Int)<4294967296)∧(0≤(b:Int)∧(b:Int)<4294967296)∧K ⟨(.int .u32 ((E.on m).bE s p)),none,[.ob 1 ((DB.bp kk (E.on m) s p b).pd),.ob 0 ((DB.bp kk (E.on m) s p b).mem)],[],[]⟩⟩
def zq(s:Int)(p:Int)(b:Int)(r:Nat→Nat)(E:Pd)(rm:Nat→Nat)(m:Mem)(rk:Nat→Nat)(kk:List Int)(Q:Ou Un→Prop):Prop:=
 Pd.Ok E→
 Mem.Wf m→
 ∀(gv:Nat),
 E.n=m.S∧
 (0≤s∧s<4294967296)∧
 split (decide (((E.on m).aR s)≠0)) (
  Q ⟨(.int .u32 ((E.on m).aR s)),none,[.ob 1 E,.ob 0 m],[],[]⟩) (
  E.n=m.S∧
  (0≤p∧p<4294967296)∧
  split (decide (((E.on m).aX p)≠0)) (
   Q ⟨(.int .u32 ((E.on m).aX p)),none,[.ob 1 E,.ob 0 m],[],[]⟩) (
   E.n=m.S∧
   split (decide (((E.on m).bj p)≠0)) (
    Q ⟨(.int .u32 ((E.on m).bj p)),none,[.ob 1 E,.ob 0 m],[],[]⟩) (
    E.n=m.S∧
    ∀(E1:Pd),E1=((E.on m).take p 2 s).pd→
    Pd.Ok E1→
    ∀(m1:Mem),m1=((E.on m).take p 2 s).mem→
    Mem.Wf m1→
    (0≤b∧b<4294967296)∧
    ∀(m2:Mem),m2=(m1.write true p 0 b)→
    Mem.Wf m2→
    E1.n=m2.S∧
    (0≤b∧b<4294967296)∧
    ((1:Int)=1∨(1:Int)=2∨(1:Int)=4)∧
    ∀(m3:Mem),m3=(m2.msd kk s 1 b [])→
    Mem.Wf m3→
    Q ⟨(.int .u32 0),none,[.ob 1 E1,.ob 0 m3],[],[]⟩)))
theorem zr:VcD Un prog (bc [(87,cl),(83,dt),(85,ez),(64,fA),(14,aJ),(88,bU),(42,dq),(89,cx)]) 82 236 [] Tryz.f32 .leaf [] eP=(∀s p b r (E:Pd) rm (m:Mem) rk (kk:List Int),∀Q,(eP.body s p b r E rm m rk kk Q)→zq s p b r E rm m rk kk Q):=by kernel_rfl
section
attribute [local grind=] DB.bE DB.aX DB.bj
theorem rj:LV Un prog 32 eP:=l7 ans Tryz.func32 aa (tb:= [(87,cl),(83,dt),(85,ez),(64,fA),(14,aJ),(88,bU),(42,dq),(89,cx)]) ⟨gO,kS,nu,nm,bO,fL,jn,iR,trivial⟩ (by kernel_rfl) (zr.mpr fun s p b r E rm m rk kk Q h=>by
 obtain⟨Jl,Jp,JD,NI,h⟩:=h
 exact fun f1 f2 gv=>af ‹_› fun s3=>af ‹_› fun s4=>aq (fun c1=>au h (bQ (by grind)) (ab (uO1 (by(rw [DB.bp,if_neg (by grind)];exact Pd.bJ _ _ Jl))) (ab (uO0 (by(rw [DB.bp,if_neg (by grind)];(subst_vars;rfl)))) rfl)) rfl) fun c1=>af ‹_› fun s5=>af ‹_› fun s6=>aq (fun c2=>au h (bQ (by grind)) (ab (uO1 (by(rw [DB.bp,if_neg (by grind)];exact Pd.bJ _ _ Jl))) (ab (uO0 (by(rw [DB.bp,if_neg (by grind)];(subst_vars;rfl)))) rfl)) rfl) fun c2=>af ‹_› fun s7=>aq (fun c3=>au h (bQ (by grind)) (ab (uO1 (by(rw [DB.bp,if_neg (by grind)];exact Pd.bJ _ _ Jl))) (ab (uO0 (by(rw [DB.bp,if_neg (by grind)];(subst_vars;rfl)))) rfl)) rfl) fun c3=>af ‹_› fun s8 E1 Jy f9 m1 Jg f10=>af ‹_› fun JO m2 Jw f12=>af (by(subst_vars;(simp only [Mem.bB,Mem.hY,Mem.fB,Mem.lX];rfl))) fun V9=>af ‹_› fun s14=>af (by decide) fun Ua m3 Ke f16=>au h (bQ (by grind)) (ab (uO1 (by(rw [DB.bp,if_pos (by grind)];subst_vars;exact DB.cK (by simp only [Mem.fB,Mem.bB,Mem.hY])))) (ab (uO0 (by(rw [DB.bp,if_pos (by grind)];subst_vars;rfl))) rfl)) rfl)
end
def js:Ctr Un:=⟨[.one (.obj 0 0),.one (.int .u32),.one (.int .u32),.one (.int .u32)],[(2,5)],[.ob 1 [(1,1,0)],.ob 0 [],.ob 5 []],[0,1],fun s p i r E rm m rk kk K=>E.n=m.S∧(0≤(s:Int)∧(s:Int)<4294967296)∧(0≤(p:Int)∧(p:Int)<4294967296)∧(0≤(i:Int)∧(i:Int)<4294967296)∧K ⟨(.int .u32 ((E.on m).cR s p i)),none,[.ob 1 ((DB.cX kk (E.on m) s p i).pd),.ob 0 ((DB.cX kk (E.on m) s p i).mem)],[],[]⟩⟩
def Cb(s:Int)(p:Int)(i:Int)(r:Nat→Nat)(E:Pd)(rm:Nat→Nat)(m:Mem)(rk:Nat→Nat)(kk:List Int)(Q:Ou Un→Prop):Prop:=
 Pd.Ok E→
 Mem.Wf m→
 ∀(gv:Nat),
 E.n=m.S∧
 (0≤s∧s<4294967296)∧
 split (decide (((E.on m).aR s)≠0)) (
  Q ⟨(.int .u32 ((E.on m).aR s)),none,[.ob 1 E,.ob 0 m],[],[]⟩) (
  E.n=m.S∧
  (0≤p∧p<4294967296)∧
  split (decide (((E.on m).aX p)≠0)) (
   Q ⟨(.int .u32 ((E.on m).aX p)),none,[.ob 1 E,.ob 0 m],[],[]⟩) (
   split (decide (i≥256)) (
    Q ⟨(.int .u32 16),none,[.ob 1 E,.ob 0 m],[],[]⟩) (
    E.n=m.S∧
    split (decide (((E.on m).bj p)≠0)) (
     Q ⟨(.int .u32 ((E.on m).bj p)),none,[.ob 1 E,.ob 0 m],[],[]⟩) (
     E.n=m.S∧
     ∀(m1:Mem),m1=m→
     Mem.Wf m1→
     ∀(m2:Mem),m2=m1→
     Mem.Wf m2→
     split ((m1.bw true ((E.on m).tbl s) (i64.wrap i)) !=0) (
      Q ⟨(.int .u32 7),none,[.ob 1 E,.ob 0 m2],[],[]⟩) (
      E.n=m2.S∧
      ∀(E1:Pd),E1=((E.on m2).take p 4 s).pd→
      Pd.Ok E1→
      ∀(m3:Mem),m3=((E.on m2).take p 4 s).mem→
      Mem.Wf m3→
      E1.n=m3.S∧
      ∀(E2:Pd),E2=((E1.on m3).add s (i64.wrap i) p).pd→
      Pd.Ok E2→
      ∀(m4:Mem),m4=((E1.on m3).add s (i64.wrap i) p).mem→
      Mem.Wf m4→
      E2.n=m4.S∧
      (0≤i∧i<4294967296)∧
      ((2:Int)=1∨(2:Int)=2∨(2:Int)=4)∧
      ∀(m5:Mem),m5=(m4.msd kk s 2 i [])→
      Mem.Wf m5→
      Q ⟨(.int .u32 0),none,[.ob 1 E2,.ob 0 m5],[],[]⟩)))))
theorem Cc:VcD Un prog (bc [(87,cl),(83,dt),(84,bg),(85,ez),(91,fx),(14,aJ),(88,bU),(92,jP),(64,fA),(65,cU),(89,cx)]) 82 236 [] Tryz.f34 .leaf [] js=(∀s p i r (E:Pd) rm (m:Mem) rk (kk:List Int),∀Q,(js.body s p i r E rm m rk kk Q)→Cb s p i r E rm m rk kk Q):=by kernel_rfl
section
attribute [local grind=] DB.cR DB.word DB.aX DB.bj
theorem Ca:LV Un prog 34 js:=l7 ans Tryz.func34 aa (tb:= [(87,cl),(83,dt),(84,bg),(85,ez),(91,fx),(14,aJ),(88,bU),(92,jP),(64,fA),(65,cU),(89,cx)]) ⟨gO,kS,dC,nu,qQ,bO,fL,um,nm,kE,iR,trivial⟩ (by kernel_rfl) (Cc.mpr fun s p i r E rm m rk kk Q h=>by
 obtain⟨Jl,Jp,JD,NI,h⟩:=h
 exact fun f1 f2=>(by(have Uo:i64.wrap i=i:=ax (by omega));rw [Uo];exact fun gv=>af ‹_› fun s3=>af ‹_› fun s4=>aq (fun c1=>au h (bQ (by grind)) (ab (uO1 (by(rw [DB.cX,if_neg (by grind)];exact Pd.bJ _ _ Jl))) (ab (uO0 (by(rw [DB.cX,if_neg (by grind)];(subst_vars;rfl)))) rfl)) rfl) fun c1=>af ‹_› fun s5=>af ‹_› fun s6=>aq (fun c2=>au h (bQ (by grind)) (ab (uO1 (by(rw [DB.cX,if_neg (by grind)];exact Pd.bJ _ _ Jl))) (ab (uO0 (by(rw [DB.cX,if_neg (by grind)];(subst_vars;rfl)))) rfl)) rfl) fun c2=>aq (fun c3=>au h (bQ (by grind)) (ab (uO1 (by(rw [DB.cX,if_neg (by grind)];exact Pd.bJ _ _ Jl))) (ab (uO0 (by(rw [DB.cX,if_neg (by grind)];(subst_vars;rfl)))) rfl)) rfl) fun c3=>af ‹_› fun s7=>aq (fun c4=>au h (bQ (by grind)) (ab (uO1 (by(rw [DB.cX,if_neg (by grind)];exact Pd.bJ _ _ Jl))) (ab (uO0 (by(rw [DB.cX,if_neg (by grind)];(subst_vars;rfl)))) rfl)) rfl) fun c4=>af ‹_› fun s8 m1 Jg f9 m2 Jw f10=>aK (fun c5=>au h (bQ (by grind)) (ab (uO1 (by(rw [DB.cX,if_neg (by grind)];exact Pd.bJ _ _ Jl))) (ab (uO0 (by(rw [DB.cX,if_neg (by grind)];(subst_vars;rfl)))) rfl)) rfl) fun c5=>af (by(subst_vars;assumption)) fun JO E1 Jy f12 m3 Ke f13=>af (by(subst_vars;rfl)) fun s14 E2 MK f15 m4 ON f16=>af (by(subst_vars;rfl)) fun V7=>af ‹_› fun s18=>af (by decide) fun s19 m5 Q7 f20=>au h (bQ (by grind)) (ab (uO1 (by(rw [DB.cX,if_pos (by grind)];subst_vars;exact DB.cK (by simp only [Mem.fB,Mem.bB,Mem.hY])))) (ab (uO0 (by(rw [DB.cX,if_pos (by grind)];subst_vars;rfl))) rfl)) rfl))
end
def kT:Ctr Un:=⟨[.one (.obj 0 0),.one (.int .u32),.one (.int .u32),.one (.int .u32),.one (.int .u32)],[(2,5)],[.ob 1 [(1,1,0)],.ob 0 [],.ob 5 []],[0,1],fun s p v n r E rm m rk kk K=>E.n=m.S∧(0≤(s:Int)∧(s:Int)<4294967296)∧(0≤(p:Int)∧(p:Int)<4294967296)∧(0≤(v:Int)∧(v:Int)<4294967296)∧(0≤(n:Int)∧(n:Int)<4294967296)∧K ⟨(.int .u32 ((E.on m).cT s p v n)),none,[.ob 1 ((DB.eo kk (E.on m) s p v n).pd),.ob 0 ((DB.eo kk (E.on m) s p v n).mem)],[],[]⟩⟩
def ES(s:Int)(p:Int)(v:Int)(n:Int)(r:Nat→Nat)(E:Pd)(rm:Nat→Nat)(m:Mem)(rk:Nat→Nat)(kk:List Int)(Q:Ou Un→Prop):Prop:=
 Pd.Ok E→
 Mem.Wf m→
 ∀(gv:Nat),
 E.n=m.S∧
 (0≤s∧s<4294967296)∧
 split (decide (((E.on m).aR s)≠0)) (
  Q ⟨(.int .u32 ((E.on m).aR s)),none,[.ob 1 E,.ob 0 m],[],[]⟩) (
  E.n=m.S∧
  (0≤p∧p<4294967296)∧
  split (decide (((E.on m).aX p)≠0)) (
   Q ⟨(.int .u32 ((E.on m).aX p)),none,[.ob 1 E,.ob 0 m],[],[]⟩) (
   (0≤v∧v<4294967296)∧
   split (decide (DB.fq v≠0)) (
    Q ⟨(.int .u32 (DB.fq v)),none,[.ob 1 E,.ob 0 m],[],[]⟩) (
    ∀(Jj:Nat),
    E.n=m.S∧
    (0≤n∧n<4294967296)∧
    split (decide (((E.on m).eE n)≠0)) (
     Q ⟨(.int .u32 ((E.on m).eE n)),none,[.ob 1 E,.ob 0 m],[],[]⟩) (
     ∀(Kz:Nat),
     E.n=m.S∧
     split (decide (((E.on m).bj p)≠0)) (
      Q ⟨(.int .u32 ((E.on m).bj p)),none,[.ob 1 E,.ob 0 m],[],[]⟩) (
      E.n=m.S∧
      (0≤(bD v)∧(bD v)<4294967296)∧
      split (decide (((E.on m).eG s (bD v))≠0)) (
       ∀(m1:Mem),m1=m→
       Mem.Wf m1→
       Q ⟨(.int .u32 ((E.on m).eG s (bD v))),none,[.ob 1 E,.ob 0 m1],[],[]⟩) (
       ∀(m1:Mem),m1=m→
       Mem.Wf m1→
       E.n=m1.S∧
       ∀(E1:Pd),E1=((E.on m1).take p 5 s).pd→
       Pd.Ok E1→
       ∀(m2:Mem),m2=((E.on m1).take p 5 s).mem→
       Mem.Wf m2→
       ∀(m3:Mem),m3=(m2.copy true p false n)→
       Mem.Wf m3→
       E1.n=m3.S∧
       (0≤(bD v)∧(bD v)<4294967296)∧
       ∀(E2:Pd),E2=((E1.on m3).put s (bD v) (Mp.mk true p (paW v) (paX v))).pd→
       Pd.Ok E2→
       ∀(m4:Mem),m4=((E1.on m3).put s (bD v) (Mp.mk true p (paW v) (paX v))).mem→
       Mem.Wf m4→
       split (m4.has true p) (
        ∀(A:Option Addr),
        ∀(m5:Mem),m5=m4→
        Mem.Wf m5→
        ∀(l:List U32),l=(m4.words true p.toNat)→
        (some (.slice A l.length 1024):Option Value)=some (.slice A ((m4.words true p.toNat).length) 1024)∧
        E2.n=m5.S∧
        (0≤v∧v<4294967296)∧
        (3:Int)=3∧
        l.length=1024∧
        dm l∧
        ∀(m6:Mem),m6=(m5.msd kk s 3 v l)→
        Mem.Wf m6→
        Q ⟨(.int .u32 0),none,[.ob 1 E2,.ob 0 m6],[],[]⟩) (
        ∀(m5:Mem),m5=m4→
        Mem.Wf m5→
        False)))))))
theorem ET:VcD Un prog (bc [(87,cl),(83,dt),(93,eu),(94,eQ),(85,ez),(95,fM),(64,fA),(14,aJ),(88,bU),(66,jR),(67,ib),(69,jQ),(89,fR)]) 82 236 [] Tryz.f35 (.r' (.r' (.r' (.r' (.r' (.r' (.r' (.two (.node [] none [] [(4,[5])] .leaf .leaf) (.two (.node [] none [] [(3,[4]),(7,[4]),(9,[4])] .leaf .leaf) .leaf))))))))) [] kT=(∀s p v n r (E:Pd) rm (m:Mem) rk (kk:List Int),∀Q,(kT.body s p v n r E rm m rk kk Q)→ES s p v n r E rm m rk kk Q):=by kernel_rfl
section
attribute [local grind=] DB.cT DB.aX DB.bj
theorem ER:LV Un prog 35 kT:=l7 ans Tryz.func35 aa (tb:= [(87,cl),(83,dt),(93,eu),(94,eQ),(85,ez),(95,fM),(64,fA),(14,aJ),(88,bU),(66,jR),(67,ib),(69,jQ),(89,fR)]) ⟨gO,kS,oE,rl,nu,tc,nm,bO,fL,uv,ug,uo,rQ,trivial⟩ (by kernel_rfl) (ET.mpr fun s p v n r E rm m rk kk Q h=>by
 obtain⟨Jl,Jp,JD,NI,Lr,h⟩:=h
 exact fun f1 f2 gv=>af ‹_› fun s3=>af ‹_› fun s4=>aq (fun c1=>au h (bQ (by grind)) (ab (uO1 (by(rw [DB.eo,if_neg (by grind)];exact Pd.bJ _ _ Jl))) (ab (uO0 (by(rw [DB.eo,if_neg (by grind)];(subst_vars;rfl)))) rfl)) rfl) fun c1=>af ‹_› fun s5=>af ‹_› fun s6=>aq (fun c2=>au h (bQ (by grind)) (ab (uO1 (by(rw [DB.eo,if_neg (by grind)];exact Pd.bJ _ _ Jl))) (ab (uO0 (by(rw [DB.eo,if_neg (by grind)];(subst_vars;rfl)))) rfl)) rfl) fun c2=>af ‹_› fun s7=>aq (fun c3=>au h (bQ (by grind)) (ab (uO1 (by(rw [DB.eo,if_neg (by grind)];exact Pd.bJ _ _ Jl))) (ab (uO0 (by(rw [DB.eo,if_neg (by grind)];(subst_vars;rfl)))) rfl)) rfl) fun c3 Jj=>af ‹_› fun s8=>af ‹_› fun s9=>aq (fun c4=>au h (bQ (by grind)) (ab (uO1 (by(rw [DB.eo,if_neg (by grind)];exact Pd.bJ _ _ Jl))) (ab (uO0 (by(rw [DB.eo,if_neg (by grind)];(subst_vars;rfl)))) rfl)) rfl) fun c4 Kz=>af ‹_› fun s10=>aq (fun c5=>au h (bQ (by grind)) (ab (uO1 (by(rw [DB.eo,if_neg (by grind)];exact Pd.bJ _ _ Jl))) (ab (uO0 (by(rw [DB.eo,if_neg (by grind)];(subst_vars;rfl)))) rfl)) rfl) fun c5=>af ‹_› fun JO=>af (ja ‹_›) fun MQ=>aq (fun c6 m1 Jg f13=>au h (bQ (by grind)) (ab (uO1 (by(rw [DB.eo,if_neg (by grind)];exact Pd.bJ _ _ Jl))) (ab (uO0 (by(rw [DB.eo,if_neg (by grind)];(subst_vars;rfl)))) rfl)) rfl) fun c6 m1 Jg f14=>af (by(subst_vars;assumption)) fun Ua E1 Jy f16 m2 Jw f17 m3 Ke f18=>af (by(subst_vars;(simp only [Mem.bB,Mem.hY,Mem.fB,Mem.lX];rfl))) fun s19=>af (ja ‹_›) fun s20 E2 MK f21 m4 ON f22=>ae (fun c7 A m5 Q7 f23 l Lh=>af (by(subst_vars;rfl)) fun s24=>af (by(subst_vars;rfl)) fun s25=>af ‹_› fun s26=>af (by omega) fun s27=>af (by subst_vars;exact Mem.cC _ _ _) fun s28=>af (by subst_vars;exact Mem.fT ‹_› _ _) fun s29 m6 h_m6 f30=>au h (bQ (by grind)) (ab (uO1 (by(rw [DB.eo,if_pos (by grind)];subst_vars;exact DB.cK (by simp only [Mem.fB,Mem.bB,Mem.hY])))) (ab (uO0 (by(rw [DB.eo,if_pos (by grind)];subst_vars;rfl))) rfl)) rfl) fun c7=>(by exfalso;rw [show m4=((E.on m).cj s p v n).mem by subst_vars;rfl,DB.yJ,DB.dH c2]at c7;cases c7))
end
def jt:Ctr Un:=⟨[.one (.obj 0 0),.one (.int .u32),.one (.int .u32),.one (.int .u32)],[(2,5)],[.ob 1 [(1,1,0)],.ob 0 [],.ob 5 []],[0,1],fun s v n r E rm m rk kk K=>E.n=m.S∧(0≤(s:Int)∧(s:Int)<4294967296)∧(0≤(v:Int)∧(v:Int)<4294967296)∧(0≤(n:Int)∧(n:Int)<4294967296)∧K ⟨(.int .u32 ((E.on m).dj s v n)),none,[.ob 1 ((DB.cY kk (E.on m) s v n).pd),.ob 0 ((DB.cY kk (E.on m) s v n).mem)],[],[]⟩⟩
def Cg(s:Int)(v:Int)(n:Int)(r:Nat→Nat)(E:Pd)(rm:Nat→Nat)(m:Mem)(rk:Nat→Nat)(kk:List Int)(Q:Ou Un→Prop):Prop:=
 Pd.Ok E→
 Mem.Wf m→
 ∀(gv:Nat),
 E.n=m.S∧
 (0≤s∧s<4294967296)∧
 split (decide (((E.on m).aR s)≠0)) (
  Q ⟨(.int .u32 ((E.on m).aR s)),none,[.ob 1 E,.ob 0 m],[],[]⟩) (
  (0≤v∧v<4294967296)∧
  split (decide (DB.fq v≠0)) (
   Q ⟨(.int .u32 (DB.fq v)),none,[.ob 1 E,.ob 0 m],[],[]⟩) (
   ∀(Jj:Nat),
   split (paX v) (
    Q ⟨(.int .u32 6),none,[.ob 1 E,.ob 0 m],[],[]⟩) (
    E.n=m.S∧
    (0≤n∧n<4294967296)∧
    split (decide (((E.on m).eE n)≠0)) (
     Q ⟨(.int .u32 ((E.on m).eE n)),none,[.ob 1 E,.ob 0 m],[],[]⟩) (
     ∀(Kz:Nat),
     E.n=m.S∧
     (0≤(bD v)∧(bD v)<4294967296)∧
     split (decide (((E.on m).eG s (bD v))≠0)) (
      ∀(m1:Mem),m1=m→
      Mem.Wf m1→
      Q ⟨(.int .u32 ((E.on m).eG s (bD v))),none,[.ob 1 E,.ob 0 m1],[],[]⟩) (
      ∀(m1:Mem),m1=m→
      Mem.Wf m1→
      E.n=m1.S∧
      (0≤(bD v)∧(bD v)<4294967296)∧
      ∀(E1:Pd),E1=((E.on m1).put s (bD v) (Mp.mk false n (paW v) false)).pd→
      Pd.Ok E1→
      ∀(m2:Mem),m2=((E.on m1).put s (bD v) (Mp.mk false n (paW v) false)).mem→
      Mem.Wf m2→
      E1.n=m2.S∧
      (0≤v∧v<4294967296)∧
      ((4:Int)=1∨(4:Int)=2∨(4:Int)=4)∧
      ∀(m3:Mem),m3=(m2.msd kk s 4 v [])→
      Mem.Wf m3→
      Q ⟨(.int .u32 0),none,[.ob 1 E1,.ob 0 m3],[],[]⟩)))))
theorem Ci:VcD Un prog (bc [(87,cl),(93,eu),(84,bg),(94,eQ),(95,fM),(67,ib),(89,cx)]) 82 236 [] Tryz.f36 .leaf [] jt=(∀s v n r (E:Pd) rm (m:Mem) rk (kk:List Int),∀Q,(jt.body s v n r E rm m rk kk Q)→Cg s v n r E rm m rk kk Q):=by kernel_rfl
section
attribute [local grind=] DB.dj DB.aX DB.bj
theorem Cf:LV Un prog 36 jt:=l7 ans Tryz.func36 aa (tb:= [(87,cl),(93,eu),(84,bg),(94,eQ),(95,fM),(67,ib),(89,cx)]) ⟨gO,oE,dC,rl,tc,ug,iR,trivial⟩ (by kernel_rfl) (Ci.mpr fun s v n r E rm m rk kk Q h=>by
 obtain⟨Jl,Jp,JD,NI,h⟩:=h
 exact fun f1 f2 gv=>af ‹_› fun s3=>af ‹_› fun s4=>aq (fun c1=>au h (bQ (by grind)) (ab (uO1 (by(rw [DB.cY,if_neg (by grind)];exact Pd.bJ _ _ Jl))) (ab (uO0 (by(rw [DB.cY,if_neg (by grind)];(subst_vars;rfl)))) rfl)) rfl) fun c1=>af ‹_› fun s5=>aq (fun c2=>au h (bQ (by grind)) (ab (uO1 (by(rw [DB.cY,if_neg (by grind)];exact Pd.bJ _ _ Jl))) (ab (uO0 (by(rw [DB.cY,if_neg (by grind)];(subst_vars;rfl)))) rfl)) rfl) fun c2 Jj=>ae (fun c3=>au h (bQ (by grind)) (ab (uO1 (by(rw [DB.cY,if_neg (by grind)];exact Pd.bJ _ _ Jl))) (ab (uO0 (by(rw [DB.cY,if_neg (by grind)];(subst_vars;rfl)))) rfl)) rfl) fun c3=>af ‹_› fun s6=>af ‹_› fun s7=>aq (fun c4=>au h (bQ (by grind)) (ab (uO1 (by(rw [DB.cY,if_neg (by grind)];exact Pd.bJ _ _ Jl))) (ab (uO0 (by(rw [DB.cY,if_neg (by grind)];(subst_vars;rfl)))) rfl)) rfl) fun c4 Kz=>af ‹_› fun s8=>af (ja ‹_›) fun s9=>aq (fun c5 m1 Jg f10=>au h (bQ (by grind)) (ab (uO1 (by(rw [DB.cY,if_neg (by grind)];exact Pd.bJ _ _ Jl))) (ab (uO0 (by(rw [DB.cY,if_neg (by grind)];(subst_vars;rfl)))) rfl)) rfl) fun c5 m1 Jg f11=>af (by(subst_vars;assumption)) fun MQ=>af (ja ‹_›) fun V9 E1 Jy f14 m2 Jw f15=>af (by(subst_vars;rfl)) fun V8=>af ‹_› fun V7=>af (by decide) fun s18 m3 Ke f19=>au h (bQ (by grind)) (ab (uO1 (by(rw [DB.cY,if_pos (by grind)];subst_vars;exact DB.cK (by simp only [Mem.fB,Mem.bB,Mem.hY])))) (ab (uO0 (by(rw [DB.cY,if_pos (by grind)];subst_vars;rfl))) rfl)) rfl)
end
end
end Go.Proofs.YtinhphjfnedhgaaGreatDoor
namespace Go.Proofs.YtinhphjfnedhgaaGreatDoor
open Go.Proofs.Tryz (prog)
open Go Go.RowKit V
open Go.IntKind (i64 u32 u64)
theorem sr {w w1:World} {L:fg} {D:DB} {L':dR} {s:Nat} {T':TypeId}(h:DBP w L D)(hq:Pu w w1)(hM:bY w1 L' D.mem)(hX:∀k,L'.X k→w.heap.size≤k)(hb:Blk w1 s (bu (List.replicate D.n2 0)) T')(Vs:w.heap.size≤s)(Rt:¬L'.X s) {R:aD}(hR:∀v w',(∃L2:fg,v=ptr L2.g∧DBP w' L2 D∧(∀k,L2.X k→w.heap.size≤k)∧Pu w w')→R v w'):
 ∀(gv:Nat)(Jc:World),gv=w1.heap.size→Jc=w1.alloc (.cells #[ptr L'.g,.int .i64 D.aE,.slice (some (Addr.mk s 0 none)) D.n2 D.n2] 110)→
 Kept (bM (fun _ k=>k=L.g) [0,1,2,5,6,9,10,11,12]) w1 Jc∧∃b3:Nat→Nat→Prop,(∀i k,(fun _ k=>k=L.g:Nat→Nat→Prop) i k→b3 i k)∧
 ∃b4:Nat→Nat→Prop,
 b4 3 (((Addr.mk gv 0 none).add 2).block)∧
 ∃LH:Option Addr,∃LF:Nat,∃LG:Nat,Jc.drew.cell? ((Addr.mk gv 0 none).add 2)=some (.slice LH LF LG)∧
 ar (some (Addr.mk L.g 0 none)) fun M3=>
 b4 7 ((M3.add 2).block)∧
 ∃LD:Option Addr,∃LB:Nat,∃LC:Nat,Jc.drew.cell? (M3.add 2)=some (.slice LD LB LC)∧
 ∃L6:Int,∃Ji,(Builtin.copy_ #[62,62] 3 #[(.slice LH LF LG),(.slice LD LB LC)]:Sem Value).run prog Jc.drew= .ok (.int .i64 L6) Ji∧
 Kept (bM b4 [0,4]) Jc.drew Ji∧∃b5:Nat→Nat→Prop,(∀i k,b4 i k→b5 i k)∧
 R (.pointer (some (Addr.mk gv 0 none))) Ji:=by
 intro gv w2 hg Wk
 have hm:=made hg Wk
 have hmn:=hm.num
 have OZ:Pu w w2.drew:=(hq.trans hm.pu).trans (Pu.aW w2)
 have Q9:=h.pu OZ
 have hMm:bY w2.drew L' D.mem:=(hM.pu hm.pu).pu (Pu.aW w2)
 have Q3:Blk w2.drew s (bu (List.replicate D.n2 0)) T':=(hm.old hb).drew
 have RD:=hm.blk.drew
 have QI:=hb.lt
 have WO:L.g<w.heap.size:=h.lt _ (.inl rfl)
 have Wh:=hq.size
 obtain⟨T0,hd0⟩:=Q9.hd
 refine⟨hm.kept.mono (fun k hk=>by have:k=L.g:=(by simpa [bM]using hk);rw [this];omega),fun _ k=>k=L.g,fun _ k hk=>hk,fun _ k=>k=gv∨k=L.g,by rw [block_add];exact .inl rfl,_,_,_,RD.at rfl,ai _ rfl ⟨by rw [block_add];exact .inr rfl,_,_,_,hd0.at rfl,?_⟩⟩
 obtain⟨x,w3,KK,La⟩:=nS (P:=prog) (dT:=62) (sT:=62) (ty:=3) (dn:=D.n2) (dc:=D.n2) pO Q3 rfl Q9.ints (by simp) (K:=fun w3=>bz w2.drew s (bu (iu (List.replicate D.n2 0) 0 (D.ws.take (min D.n2 D.n2)))) T' w3) (fun _ hs=>hs)
 have NH:D.ws.length=D.n2:=D.gn
 rw [List.take_of_length_le (by omega),mn _ _ (by rw [NH];simp)]at La
 refine⟨x,w3,KK,La.kept.mono (fun k hk=>by have:k=gv∨k=L.g:=(by simpa [bM]using hk);rcases this with e | e<;>omega),fun _ k=>k=gv∨k=L.g,fun _ k hk=>hk,hR _ _ ⟨⟨gv,s,L'⟩,rfl,⟨⟨_,La.old RD (show gv≠s by omega)⟩,⟨T',_,La.blk,by rw [eB,NH],fun p hp=>?_⟩,hMm.ch La.ch fun k hk e=>Rt (e▸hk),h.ok,⟨by show s≠gv;omega,fun(hx:L'.X gv)=>absurd (hM.lt gv hx) (by omega),Rt⟩⟩,?_,?_⟩⟩
 ·have JD:p<D.S:=hp
  have e1:=kV (fun p=>(D.ent p).w0) (fun p=>(D.ent p).w1) D.S (2*p) (by omega)
  have e2:=kV (fun p=>(D.ent p).w0) (fun p=>(D.ent p).w1) D.S (2*p+1) (by omega)
  have f1:D.ws[2*p]? =some (D.ent p).w0:=by
   show((List.range D.S).flatMap fun p=>[(D.ent p).w0,(D.ent p).w1])[2*p]? =_
   rw [e1,if_pos (by omega),show 2*p / 2=p by omega]
  have f2:D.ws[2*p+1]? =some (D.ent p).w1:=by
   show((List.range D.S).flatMap fun p=>[(D.ent p).w0,(D.ent p).w1])[2*p+1]? =_
   rw [e2,if_neg (by omega),show(2*p+1) / 2=p by omega]
  have hl:D.ws.length=2*D.S:=D.gn
  exact⟨by rw [dV (by omega),List.getD_eq_getElem?_getD,f1];rfl,by rw [dV (by omega),List.getD_eq_getElem?_getD,f2];rfl⟩
 ·rintro k (e | e | hk)
  ·rw [e];show w.heap.size≤gv;omega
  ·rw [e];exact Vs
  ·exact hX k hk
 ·exact Ch.stored (X:=fun _=>False) OZ La (.inr Vs)
theorem Hm {w:World} {L:fg} {D:DB}(h:DBP w L D):
 Calls prog 17 #[ptr L.g] w fun e w'=>∃v,e= .returned v∧∃L2:fg,v=ptr L2.g∧DBP w' L2 D∧(∀k,L2.X k→w.heap.size≤k)∧Pu w w':=by
 refine uL _ ?_
 have hD:Pu w w.drew:=Pu.aW w
 have h1:=h.pu hD
 obtain⟨T,hd⟩:=h1.hd
 have WO:L.g<w.drew.heap.size:=hd.lt
 have h0s:w.drew.heap.size=w.heap.size:=rfl
 have hm64:=h.mem.dz.1
 have fe:∀(l:List Nat)(k:Nat),bM (fun _ k=>k=L.g) l k→k=L.g:=fun l k hk=>by
  induction l with
  | nil=>simp [bM]at hk
  | cons a l ih=>
   cases l with
   | nil=>exact hk
   | cons c l=>rcases(show k=L.g∨bM (fun _ k=>k=L.g) (c::l) k from hk)with hk | hk;exact hk;exact ih hk
 refine⟨fun _ k=>k=L.g,ai _ rfl ⟨by rw [block_add],_,hd.at rfl,ai _ rfl ⟨by rw [block_add],_,hd.at rfl,ai _ rfl ⟨by rw [block_add],_,_,_,hd.at rfl,?_⟩⟩⟩⟩
 refine⟨?_,?_⟩
 ·refine(yp h1.mem).mono ?_
  rintro e w1 ⟨_,rfl,L',rfl,hM,hX,Jp⟩
  refine⟨_,rfl,Jp.fe (fun k hk=>by rw [fe _ k hk];exact WO),fun _ k=>k=L.g,fun _ k hk=>hk,?_⟩
  refine iG pO (by omega) (by unfold DB.n2;omega) (by unfold DB.n2;omega) fun s w2 hs=>?_
  have hp1s:=Jp.size
  refine⟨hs.kept.mono (fun k hk=>by rw [fe _ k hk];omega),fun _ k=>k=L.g,fun _ k hk=>hk,?_⟩
  rw [Int.toNat_natCast]at hs ⊢
  have hq:Pu w w2:=(hD.trans Jp).trans hs.pu
  have OP:=hM.pu hs.pu
  have hsn:=hs.num
  have hb:Blk w2 s (bu (List.replicate D.n2 0)) _:=hs.blk.cast (fi _ _)
  have Rt:¬L'.X s:=fun hx=>by have:=hM.lt s hx;omega
  have Vs:w.heap.size≤s:=by omega
  have hX:∀k,L'.X k→w.heap.size≤k:=hX
  exact sr h hq OP hX hb Vs Rt fun _ _ h=>h
 ·refine iG pO (by omega) (by unfold DB.n2;omega) (by unfold DB.n2;omega) fun s w1 hs=>?_
  refine⟨hs.kept.mono (fun k hk=>by rw [fe _ k hk];omega),fun _ k=>k=L.g,fun _ k hk=>hk,?_⟩
  rw [Int.toNat_natCast]at hs ⊢
  refine(yp (h1.mem.pu hs.pu)).mono ?_
  rintro e w2 ⟨_,rfl,L',rfl,hM,hX,Jp⟩
  have KH:=hs.pu.size
  refine⟨_,rfl,Jp.fe (fun k hk=>by rw [fe _ k hk];omega),fun _ k=>k=L.g,fun _ k hk=>hk,?_⟩
  have hq:Pu w w2:=(hD.trans hs.pu).trans Jp
  have hsn:=hs.num
  have hb:Blk w2 s (bu (List.replicate D.n2 0)) _:=Jp.blk (hs.blk.cast (fi _ _))
  have Rt:¬L'.X s:=fun hx=>by have:=hX s hx;have:=hs.blk.lt;omega
  exact sr h hq hM (fun k hk=>by have:=hX k hk;omega) hb (by omega) Rt fun _ _ h=>h
section
section
variable {U:Uni}
theorem aT.two {rs:List (Res U)} {X:Nat→Nat→Prop} {w w':World} {Q:Ou U→Prop} {v:Value} {k:Option Kn} {Z1 Z2:Nat→Prop} {r1 r2:Res U} {kc:List (Key×Kn)}(hs:Sat rs X w)(q:Pu w w')(h1:RS Z1 w' r1)(h2:RS Z2 w' r2)(Pm:∀k,Z1 k→w.heap.size≤k)(Rr:∀k,Z2 k→w.heap.size≤k)(hd:∀k,Z1 k→¬Z2 k)(hQ:Q ⟨v,k,[],[r1,r2],kc⟩)(hk:KnO (rs++ [r1,r2]) v k)
 (QU:∀key k,(key,k)∈kc→fw (rs++ [r1,r2]) fr0 key k):aT rs [] X w Q (.returned v) w':=by
 have n1:nth (rs++ [r1,r2]) rs.length=some r1:=by rw [bf,if_neg (by omega),Nat.sub_self];rfl
 have n2:nth (rs++ [r1,r2]) (rs.length+1)=some r2:=by rw [bf,if_neg (by omega),show rs.length+1 - rs.length=1 by omega];rfl
 let X':Nat→Nat→Prop:=fun i=>if i=rs.length then Z1 else if i=rs.length+1 then Z2 else X i
 have e1:X' rs.length=Z1:=if_pos rfl
 have e2:X' (rs.length+1)=Z2:=by show(if _ then _ else if _ then _ else _)=_;rw [if_neg (by omega),if_pos rfl]
 have e0:∀i,i<rs.length→X' i=X i:=fun i hi=>by show(if _ then _ else if _ then _ else _)=_;rw [if_neg (by omega),if_neg (by omega)]
 have new:∀i,rs.length≤i→i<rs.length+2→∀k,X' i k→w.heap.size≤k:=fun i ha hb k hk=>by
  rcases(show i=rs.length∨i=rs.length+1 by omega)with e | e
  ·subst e;rw [e1]at hk;exact Pm k hk
  ·subst e;rw [e2]at hk;exact Rr k hk
 refine⟨⟨v,k,[],[r1,r2],kc⟩,rs,X',ft hk,hQ,by simp [bF],⟨⟨fun i r hr=>?_,fun i j hi hj Kh k KT Kf=>?_⟩,q.mono (fun _ h=>h.elim),fun i hi _=>e0 i hi,fun i hi=>(by cases hi),fun i ha hb=>new i ha (by simpa using hb),.inr hk,fun key k hm _=>QU key k hm⟩⟩
 ·have hl:=aU hr
  simp only [List.length_append,List.length_cons,List.length_nil]at hl
  by_cases hi:i<rs.length
  ·rw [bf,if_pos hi]at hr
   rw [e0 i hi]
   exact(hs.res i r hr).ch q (by simp)
  ·rcases(show i=rs.length∨i=rs.length+1 by omega)with e | e
   ·subst e;rw [n1]at hr;injection hr with hr;subst hr;rw [e1];exact h1
   ·subst e;rw [n2]at hr;injection hr with hr;subst hr;rw [e2];exact h2
 ·simp only [List.length_append,List.length_cons,List.length_nil]at hi hj
  by_cases JY:i<rs.length
  ·have hl:k<w.heap.size:=hs.lt JY k (by rw [e0 i JY]at KT;exact KT)
   by_cases MD:j<rs.length
   ·rw [e0 i JY]at KT;rw [e0 j MD]at Kf
    exact hs.dis i j JY MD Kh k KT Kf
   ·have:=new j (by omega) (by omega) k Kf;omega
  ·by_cases MD:j<rs.length
   ·have hl:k<w.heap.size:=hs.lt MD k (by rw [e0 j MD]at Kf;exact Kf)
    have:=new i (by omega) (by omega) k KT;omega
   ·rcases(show i=rs.length∧j=rs.length+1∨j=rs.length∧i=rs.length+1 by omega)with⟨ea,eb⟩ | ⟨ea,eb⟩
    ·subst ea;subst eb;rw [e1]at KT;rw [e2]at Kf;exact hd k KT Kf
    ·subst ea;subst eb;rw [e2]at KT;rw [e1]at Kf;exact hd k Kf KT
end
end
end Go.Proofs.YtinhphjfnedhgaaGreatDoor
namespace Go.Proofs.YtinhphjfnedhgaaGreatDoor
open Go.Proofs.Tryz (prog)
open Go Go.RowKit V
open Go.IntKind (i64 u32 u64)
section
set_option maxRecDepth 100000
set_option maxHeartbeats 1000000
attribute [local irreducible] Vc2 VcD
def uk:Ctr Un:=⟨[.one (.obj 0 0),.one (.obj 1 0)],[],[.ob 0 [],.ob 0 []],[],fun rm m ro o K=>K ⟨(.bool (m.same o)),none,[],[],[]⟩⟩
theorem Ga:LV Un prog 59 uk:=by
 show ∀(rm:Nat→Nat)(m:Mem)(ro:Nat→Nat)(o:Mem),∀Q:Ou Un→Prop,(Q ⟨(.bool (m.same o)),none,[],[],[]⟩)→∀(X:Nat→Nat→Prop)(w:World),Sat (U:=Un) [(.ob 0 rm m),(.ob 0 ro o)] X w→av (U:=Un) [(.ob 0 rm m),(.ob 0 ro o)] fr0 []→Calls prog 59 #[(.pointer (some (Addr.mk (rm 0) 0 none))),(.pointer (some (Addr.mk (ro 0) 0 none)))] w (aT (U:=Un) [(.ob 0 rm m),(.ob 0 ro o)] [] X w Q)
 intro rm m ro o Q hQ X w hs hl
 obtain⟨L,hg,hX,hM⟩:=(hs.res 0 _ rfl:cw 0 rm m (X 0) w)
 obtain⟨L',WR,hX',RG⟩:=(hs.res 1 _ rfl:cw 0 ro o (X 1) w)
 rw [hg,WR]
 refine(H4 hM RG).mono ?_
 rintro e w' ⟨u,rfl,rfl,q⟩
 exact aT.pu hs q hQ trivial
def ir:Ctr Un:=⟨[.one (.obj 0 0)],[],[.ob 1 [(1,1,0)],.ob 0 []],[],fun r E rm m K=>E.n=m.S∧∀(rN:Nat→Nat)(rM:Nat→Nat),K ⟨(.pointer (some (Addr.mk (rN 0) 0 none))),(some (.p (.obj 2 0 0))),[],[(.ob 1 rN E),(.ob 0 rM m)],[(.l 2 1,.p (.obj 3 0 0))]⟩⟩
theorem nt:LV Un prog 17 ir:=by
 show ∀(r:Nat→Nat)(E:Pd)(rm:Nat→Nat)(m:Mem),∀Q:Ou Un→Prop,(E.n=m.S∧∀(rN:Nat→Nat)(rM:Nat→Nat),Q ⟨(.pointer (some (Addr.mk (rN 0) 0 none))),(some (.p (.obj 2 0 0))),[],[(.ob 1 rN E),(.ob 0 rM m)],[(.l 2 1,.p (.obj 3 0 0))]⟩)→∀(X:Nat→Nat→Prop)(w:World),Sat (U:=Un) [(.ob 1 r E),(.ob 0 rm m)] X w→av (U:=Un) [(.ob 1 r E),(.ob 0 rm m)] fr0 [(.l 0 1,.p (.obj 1 0 0))]→Calls prog 17 #[(.pointer (some (Addr.mk (r 0) 0 none)))] w (aT (U:=Un) [(.ob 1 r E),(.ob 0 rm m)] [] X w Q)
 intro r E rm m Q hQ X w hs hl
 obtain⟨hn,hQ⟩:=hQ
 obtain⟨a,L,hg,hr,hD,LX,Mi⟩:=vl hs hl hn
 refine(Hm hD).mono ?_
 rintro e w' ⟨u,rfl,L2,rfl,Q9,hz,q⟩
 have QK:=Q9.pd
 rw [Pd.bJ E m hn]at QK
 exact aT.two (Z1:=fun k=>k=L2.g∨k=L2.a) (Z2:=L2.M.X) (k:=some (.p (.obj 2 0 0))) (kc:= [(.l 2 1,.p (.obj 3 0 0))]) hs q
  (show RS (U:=Un) _ w' (.ob 1 (fun i=>if i=0 then L2.g else L2.M.g) E)from(⟨L2.a,fun k=>Iff.rfl,QK⟩:cw 1 (fun i=>if i=0 then L2.g else L2.M.g) E (fun k=>k=L2.g∨k=L2.a) w'))
  (show RS (U:=Un) _ w' (.ob 0 (fun _=>L2.M.g) m)from(⟨L2.M,rfl,fun _=>Iff.rfl,Q9.mem⟩:cw 0 (fun _=>L2.M.g) m L2.M.X w'))
  (fun k hk=>hz k (hk.imp id .inl)) (fun k hk=>hz k (.inr (.inr hk))) (fun k h1 h2=>by rcases h1 with rfl | rfl;exact Q9.dis.2.1 h2;exact Q9.dis.2.2 h2) (hQ (fun i=>if i=0 then L2.g else L2.M.g) (fun _=>L2.M.g)) rfl (qk ⟨_,_,_,rfl,rfl⟩)
end
section
set_option maxRecDepth 100000
set_option maxHeartbeats 1000000
attribute [local irreducible] Vc2 VcD
attribute [local grind=] Pd.dF Pd.eD Pd.jC Pd.mB Pd.bJ Pd.g6 Pd.jB Pd.gG Pd.mm Pd.ru
attribute [local grind .] Pd.Ok.ent
attribute [local grind→] Pd.Ok.dz
end
section
set_option maxRecDepth 100000
set_option maxHeartbeats 1000000
attribute [local irreducible] Vc2 VcD
end
end Go.Proofs.YtinhphjfnedhgaaGreatDoor
