/- SnapForms returns true for every input: a snapshot that the program reads is read alike by the document's answer, with the same refusals and the same words. -/
import Derived.Test.YtoghdgcmhbanbaaGreatDoorF2
import Derived.KernelRfl
import Derived.Laws.MakeOwn
set_option linter.unusedVariables false
set_option linter.unusedSimpArgs false
section
namespace Go.Proofs.YtoghdgcmhbanbaaGreatDoor
open Go Go.RowKit V
open Go.IntKind (i64 u32 u64 wrap_i64 wrap_u32)
theorem vJ:S1 Tryz.prog 26 22 (O 0) 4:=S1.of (by kernel_rfl) (by kernel_rfl) rfl
theorem K3:S1 Tryz.prog 143 141 (.pointer none) 8:=S1.of (by kernel_rfl) (by kernel_rfl) rfl
def iI(w:World)(g:Nat)(f:Nat->Int):Prop:=∃T cs,Blk w g cs T/\cs.size=1024/\∀o,o<1024->cs[o]? =some (O (f o))
structure lJ(w:World)(g n k:Nat)(pg:Nat->Nat)(f:Nat->Nat->Int)(b:Nat):Prop where
 row:∃T cs,Blk w g cs T/\cs.size=n/\∀i,i<k->cs[i]? =some (ptr (pg i))
 pgs:∀i,i<k->iI w (pg i) (f i)
 inj:∀i j,i<k->j<k->pg i=pg j->i=j
 dis:∀i,i<k->pg i≠g
 low:b<=g/\∀i,i<k->b<=pg i
theorem iI.lt {w:World}{g:Nat}{f:Nat->Int}(h:iI w g f):g<w.heap.size:=by obtain⟨T,cs,a,_⟩:=h;exact a.lt
theorem iI.pu {w w':World}{g:Nat}{f:Nat->Int}(h:iI w g f)(a:Pu w w'):iI w' g f:=by obtain⟨T,cs,b,c⟩:=h;exact⟨T,cs,a.blk b,c⟩
theorem iI.old {w w':World}{g a:Nat}{f:Nat->Int}{cs:Array Value}{T:TypeId}(h:iI w g f)(b:br w a cs T w')(c:g≠a):iI w' g f:=by obtain⟨T,cs,d,e⟩:=h;exact⟨T,cs,b.old d c,e⟩
theorem lJ.pu {w w':World}{g n k b:Nat}{pg:Nat->Nat}{f:Nat->Nat->Int}(h:lJ w g n k pg f b)(a:Pu w w'):lJ w' g n k pg f b:=by
 obtain⟨⟨T,cs,c,d⟩,e,j,l,o⟩:=h;exact⟨⟨T,cs,a.blk c,d⟩,λi hi=>(e i hi).pu a,j,l,o⟩
theorem lJ.more {w w1 w2:World}{g n k b p:Nat}{pg:Nat->Nat}{f:Nat->Nat->Int}(h:lJ w g n k pg f b)(l:Pu w w1)(t:iI w1 p (f k))(y:w.heap.size<=p)(z:k<n)(A:b<=w.heap.size):
 ∃T cs,Blk w1 g cs T/\k+1<=cs.size/\∀w2,br w1 g (setAt cs k [ptr p]) T w2->lJ w2 g n (k+1) (λi=>if i=k then p else pg i) f b:=by
 obtain⟨⟨T,cs,o,u,v⟩,q,x,r,s⟩:=h;have B:=o.lt;have hold:∀i,i<k->pg i≠p:=λi hi=>by have:=(q i hi).lt;omega
 refine⟨T,cs,l.blk o,by omega,λw2 a=>⟨⟨T,_,a.blk,by rw[fe];exact u,λi hi=>?_⟩,λi hi=>?_,λi j hi C=>?_,λi hi=>?_,s.1,λi hi=>?_⟩⟩
 ·rw[dO _ _ _ _ (by simp;omega)];by_cases e:i=k
  ·subst e;simp
  ·rw[if_neg (by simp;omega),if_neg e];exact v i (by omega)
 ·by_cases e:i=k
  ·subst e;rw[if_pos rfl];exact t.old a (by omega)
  ·rw[if_neg e];exact((q i (by omega)).pu l).old a (r i (by omega))
 ·by_cases e:i=k<;>by_cases c:j=k
  ·intro _;omega
  ·rw[if_pos e,if_neg c];intro d;exact absurd d.symm (hold j (by omega))
  ·rw[if_neg e,if_pos c];intro d;exact absurd d (hold i (by omega))
  ·rw[if_neg e,if_neg c];exact x i j (by omega) (by omega)
 ·split
  ·omega
  ·exact r i (by omega)
 ·split
  ·omega
  ·exact s.2 i (by omega)
section
variable {w:World}{L:fP}{m:Mem}
theorem KF(n:Nat)(A:n<=64):
 Calls Tryz.prog 84 #[.int .i64 n] w λe w'=>∃v,e=.returned v/\∃g pg,v=.slice (pvA g) n n/\lJ w' g n n pg (λ_ _=>0) w.heap.size/\Pu w w':=by
 refine BV _ ?_;refine j3 K3 (by omega) (by omega) (by omega) λg w1 a=>?_;rw[Int.toNat_natCast]at a ⊢;refine⟨λk x w'=>∃i:Nat,x=(i:Int)/\i<=n/\k=n - i/\(∃pg,lJ w' g n i pg (λ_ _=>0) w.heap.size)/\Pu w w',⟨n,0,rfl,by omega,by omega,⟨λ_=>0,⟨_,_,a.blk,by simp,by simp⟩,by simp,by simp,by simp,by have:=a.num;omega,by simp⟩,a.pu⟩,?_⟩;rintro k _ x w2 ⟨i,rfl,hi,rfl,⟨pg,c⟩,d⟩;refine ab (λf=>?_) (λf=>?_)
 ·have h:i<n:=by simpa using f
  intro p j q r;have b:=made q r;obtain⟨T,cs,s,t,u⟩:=c.more (w2:=j) b.pu ⟨_,_,b.blk,by simp,λo y=>by simp[y]⟩ (by rw[b.num];omega) h d.size;refine⟨⟨by omega,by omega⟩,ah _ rfl ?_⟩;rw[Nat.mul_one,Int.toNat_natCast];refine aL s t λB l=>⟨n - (i+1),by omega,i+1,?_,h,rfl,⟨_,u _ l⟩,?_⟩
  ·rw[aa (by omega)];omega
  ·have z:w.heap.size<=g:=c.low.1;exact((d.made b).mono (by simp):Ch (λ_=>False) w j).stored l (.inr z)
 ·have:i=n:=by simp at f;omega
  subst this;exact⟨g,pg,rfl,c,d⟩
theorem Np(s i:Int)(J:1<=s/\s<=64)(hi:1<=i/\i<=64):
 Calls Tryz.prog 68 #[.int .i64 s,.int .i64 i] w λe w'=>∃v,e=.returned v/\∃L:fP,v=.tuple #[ptr L.g,.int .i64 0]/\cH w' L (Mem.fresh s.toNat i.toNat)/\(∀k,L.X k->w.heap.size<=k)/\Pu w w':=by
 refine Dp s i ?_;refine⟨λb w'=>w=w'/\b=false,?_,?_⟩
 ·refine ab (λf=>by simp at f;omega) (λ_=>ab (λf=>by simp at f;omega) (λ_=>ab (λf=>by simp at f;omega) (λ_=>⟨rfl,by simp;omega⟩)))
 rintro _ x _ ⟨rfl,rfl⟩;refine ab (λf=>by cases f) (λ_=>?_);obtain⟨S,rfl⟩:=Int.eq_ofNat_of_zero_le (show 0<=s by omega);obtain⟨I,rfl⟩:=Int.eq_ofNat_of_zero_le (show 0<=i by omega);refine(KF S (by omega)).mono ?_;rintro e w1 ⟨_,rfl,a,t,rfl,d,u⟩;refine⟨_,_,_,rfl,(KF I (by omega)).mono ?_⟩;rintro e w2 ⟨_,rfl,b,y,rfl,c,o⟩;refine⟨_,_,_,rfl,?_⟩;intro g K C E;have l:=made C E;have z:=(d.pu o).pu l.pu;have A:=c.pu l.pu;have p:∀j,j<S->t j<w1.heap.size:=λj q=>(d.pgs j q).lt;have M:a<w1.heap.size:=by obtain⟨T,cs,h,_⟩:=d.row;exact h.lt
 have F:∀j,j<I->y j<w2.heap.size:=λj q=>(c.pgs j q).lt;have N:b<w2.heap.size:=by obtain⟨T,cs,h,_⟩:=c.row;exact h.lt
 have O:=o.size;have P:=u.size;have Q:=l.num;refine⟨⟨g,a,b,λs=>match s with|true=>t|false=>y,λs=>match s with|true=>S|false=>I⟩,rfl,⟨λs=>by cases s<;>rfl,⟨(_,_),l.blk⟩,λs=>?_,λs i hi=>?_,λs i G B hi n e=>?_,⟨by show a≠g;omega,by show b≠g;omega,λs i hi=>?_⟩,λ_ _ _=>by simp[Mem.fresh],by simp[Mem.fresh];omega⟩,?_,(u.trans o).made l⟩
 ·cases s
  ·obtain⟨T,cs,h,_,r⟩:=A.row;exact⟨T,cs,h,r⟩
  ·obtain⟨T,cs,h,_,r⟩:=z.row;exact⟨T,cs,h,r⟩
 ·cases s
  ·exact A.pgs i hi
  ·exact z.pgs i hi
 ·cases s<;>cases G<;>simp only[Mem.cnt,Mem.fresh,Int.toNat_natCast]at hi n<;>simp only at e
  ·exact⟨rfl,c.inj _ _ hi n e⟩
  ·have:=c.low.2 i hi;have:=p B n;omega
  ·have:=c.low.2 B n;have:=p i hi;omega
  ·exact⟨rfl,d.inj _ _ hi n e⟩
 ·cases s<;>simp only[Mem.cnt,Mem.fresh,Int.toNat_natCast]at hi<;>simp only
  ·have:=c.low.2 i hi;have:=F i hi;have:=c.dis i hi;refine⟨?_,?_,this⟩<;>omega
  ·have:=d.low.2 i hi;have:=p i hi;have H:=d.dis i hi;have:=c.low.1;refine⟨?_,H,?_⟩<;>omega
 ·rintro k (rfl|rfl|rfl|⟨s,i,hi,rfl⟩)
  ·omega
  ·exact d.low.1
  ·have:=c.low.1;omega
  ·cases s<;>simp only[Mem.cnt,Mem.fresh,Int.toNat_natCast]at hi<;>simp only
   ·have:=c.low.2 i hi;omega
   ·exact d.low.2 i hi
theorem Lu(h:cH w L m)(s:Bool)(p t:Int):
 Calls Tryz.prog 108 #[ptr L.g,fr s p,.int .i64 t] w λe w'=>∃v,e=.returned v/\
  (m.has s p=true/\v=.tuple #[ptr (L.pg s p.toNat),.int .i64 0]/\cH w' L (m.tick (i64.wrap (t*1024)))/\Ch L.X w w'\/
   m.has s p=false/\v=.tuple #[.pointer none,.int .i64 5]/\Pu w w'):=by
 refine yV _ s p t ?_;intro k w1 i hw;have a:=made i hw;refine⟨_,_,⟨a.blk.at rfl,a.blk.at rfl⟩,(mAt (h.pu a.pu) s p).mono ?_⟩;rintro e w2 ⟨_,rfl,rfl,j⟩;have b:=a.pu.trans j;refine⟨_,rfl,?_⟩;cases l:m.has s p with
 |false=>exact ab (λ_=>.inr ⟨rfl,rfl,b⟩) (λc=>by simp at c)
 | true=>
  refine ab (λc=>by simp at c) (λ_=>?_);have d:=h.pu b;obtain⟨T,hd⟩:=d.hd;refine Ny hd rfl (ah _ rfl (aL hd (by simp) λn f=>.inl ⟨rfl,rfl,d.KB f,?_⟩));exact(b.mono (by simp)).stored f (.inl (.inl rfl))
theorem MA(h:cH w L m)(s:Bool)(p:Int):
 Calls Tryz.prog 87 #[ptr L.g,fr s p] w λe w'=>∃v,e=.returned v/\v=.int .i64 (m.xn s p)/\cH w' L (m.zero s p)/\Ch L.X w w':=by
 refine BT _ s p ?_;intro t w1 l hw;have a:=made l hw;refine⟨_,_,⟨a.blk.at rfl,a.blk.at rfl⟩,(Lu (h.pu a.pu) s p 1).mono ?_⟩;rintro e w2 ⟨_,rfl,⟨b,rfl,d,n⟩|⟨b,rfl,i⟩⟩
 ·refine⟨_,_,rfl,ab (λ_=>ah _ rfl ?_) (λc=>by simp at c)⟩;rintro A rfl N rfl C rfl;have hi:=Mem.fK b;obtain⟨T,cs,q,r,u⟩:=d.pgs s p.toNat (by simpa using hi);refine HN (o:=0) vJ rfl q (by omega) (by omega) λx j=>⟨?_,?_,?_⟩
  ·simp[Mem.xn,b]
  ·have:=d.aV (f:=λ_=>0) (by simpa using hi) j (by rw[fe];exact r) (λo y=>?_) (λo=>by simp)
   ·simp only[Mem.zero,b,if_true];exact this
   ·have k:(List.replicate (1024 - 0) (O 0)).length=1024:=List.length_replicate ..;rw[dO _ _ _ _ (by rw[k];omega),if_pos (by rw[k];omega),List.getElem?_replicate,if_pos (by omega)]
  ·exact(((Ch.refl _ w).made a).trans n).stored j (.inl (h.inX hi))
 ·refine⟨_,_,rfl,ab (λc=>by simp at c) (λ_=>⟨?_,?_,?_⟩)⟩
  ·simp[Mem.xn,b]
  ·simpa[Mem.zero,b]using (h.pu a.pu).pu i
  ·exact(a.pu.trans i).mono (by simp)
end
end Go.Proofs.YtoghdgcmhbanbaaGreatDoor
end
section
namespace Go.Proofs.YtoghdgcmhbanbaaGreatDoor
open Go Go.RowKit V
open Go.IntKind (i64 u32 u64 wrap_i64 wrap_u32)
structure Ent where
 typ:Int
 owner:Int
 refs:Int
 state:Int
 bw:Bool
deriving DecidableEq
namespace Ent
abbrev free:Ent:=⟨0,0,0,0,false⟩
def ok(e:Ent):Bool:=
 decide (0<=e.typ/\e.typ<=6/\0<=e.owner/\e.owner<=63/\0<=e.refs/\e.refs<=63/\(e.typ=0->e.owner=0)/\(e.typ≠1->e.refs=0/\e.state=0)/\(e.typ=1->1<=e.state/\e.state<=3)/\(e.typ≠2->e.bw=false))
def w0(e:Ent):Int:=e.typ+16*e.state+65536*e.owner+(if e.bw then 256 else 0)
def w1(e:Ent):Int:=e.refs
def parts(a b:Int):Ent:=⟨a % 8,a / 65536 % 64,b % 64,a / 16 % 4,decide (a / 256 % 2=1)⟩
def dec(a b:Int):Ent:=if(parts a b).ok && decide ((parts a b).w0=a) && decide ((parts a b).w1=b)then parts a b else free
def cF(a b:Int):Int:=if(parts a b).ok && decide ((parts a b).w0=a) && decide ((parts a b).w1=b)then 0 else 110
theorem iu {e:Ent}(h:e.ok=true):0<=e.typ/\e.typ<=6/\0<=e.owner/\e.owner<=63/\0<=e.refs/\e.refs<=63/\(e.typ=0->e.owner=0)/\(e.typ≠1->e.refs=0/\e.state=0)/\(e.typ=1->1<=e.state/\e.state<=3)/\(e.typ≠2->e.bw=false):=by
 simpa only[ok,decide_eq_true_eq]using h
theorem ir {e:Ent}(h:e.ok=true):0<=e.state/\e.state<=3:=by
 have:=iu h;by_cases a:e.typ=1<;>omega
theorem E4 {e:Ent}(h:e.ok=true):parts e.w0 e.w1=e:=by
 have a:=iu h;have b:=ir h;obtain⟨t,o,r,s,n⟩:=e;simp only at a b;cases n<;>simp only[parts,w0,w1,Ent.mk.injEq,decide_eq_true_eq,decide_eq_false_iff_not,if_true,Bool.false_eq_true,if_false]<;>omega
theorem Em {e:Ent}(h:e.ok=true):dec e.w0 e.w1=e/\cF e.w0 e.w1=0:=by
 unfold dec cF;rw[E4 h];simp[h]
theorem zh {e:Ent}(h:e.ok=true):0<=e.w0/\e.w0<4294967296:=by
 have a:=iu h;have b:=ir h;unfold w0;split<;>omega
theorem zg {e:Ent}(h:e.ok=true):0<=e.w1/\e.w1<4294967296:=by
 have a:=iu h;unfold w1;omega
theorem JO:free.ok=true:=by decide
theorem fW {a b:Int}(h:cF a b=0):(dec a b).ok=true/\(dec a b).w0=a/\(dec a b).w1=b:=by
 unfold cF at h;unfold dec;split at h
 ·rename_i c;rw[if_pos c];simp only[Bool.and_eq_true,decide_eq_true_eq]at c;exact⟨c.1.1,c.1.2,c.2⟩
 ·omega
end Ent
structure DB where
 mem:Mem
 aR:Int
 ent:Nat->Ent
namespace DB
def S(d:DB):Nat:=d.mem.S
def has(d:DB)(p:Int):Bool:=decide (0<=p/\p<(d.S:Int))
def at_(d:DB)(p:Int):Ent:=d.ent p.toNat
def set(d:DB)(p:Int)(e:Ent):DB:= {d with ent:=λq=>if q=p.toNat then e else d.ent q}
def entry(d:DB)(p:Int):Ent:=if d.has p then d.at_ p else .free
def lr(d:DB)(p:Int):Int:=if d.has p then 0 else 5
def iT(d:DB)(p:Int):Bool:=d.has p && (d.at_ p).typ==1
def eW(d:DB)(m:Mem):DB:=⟨m,d.aR,d.ent⟩
def kz(d:DB)(b:Int):DB:=⟨d.mem,b,d.ent⟩
def G5(d:DB)(f:Mem->Mem):DB:=d.eW (f d.mem)
def free(d:DB):Int:=(((List.range d.S).filter λp=>(d.ent p).typ==0).length:Int)
def fH(d:DB)(s:Int)(p:Nat):Bool:=(p:Int) !=s && (d.ent p).typ !=0 && (d.ent p).owner==s
def turns(t:Int):Bool:=t==4 || t==5 || t==6
def IV(d:DB)(p t s:Int):Int:=
 if !d.has p then 5 else if t !=2 && !turns t then 124 else if !d.iT s || decide ((d.at_ s).refs>=63)then 122 else if(d.at_ p).typ !=0 then 120 else 0
def more(d:DB)(s k:Int):DB:=d.set s {d.at_ s with refs:=(d.at_ s).refs+k}
def KT(d:DB)(p t s:Int):DB:=(d.set p ⟨t,s,0,0,false⟩).more s 1
def take(d:DB)(p t s:Int):DB:=if d.IV p t s=0 then d.KT p t s else d
def words(d:DB):List Int:=d.aR::(List.range d.S).flatMap λp=>[(d.ent p).w0,(d.ent p).w1]
structure Ok(d:DB):Prop where
 ent:∀p,p<d.S->(d.ent p).ok=true/\(d.ent p).owner<d.S
 aR:0<=d.aR/\d.aR<=64
@[simp] theorem ND(d:DB)(p:Int)(e:Ent):(d.set p e).S=d.S:=rfl
@[simp] theorem Na(d:DB)(p q:Int)(e:Ent):(d.set p e).has q=d.has q:=rfl
@[simp] theorem mem_set(d:DB)(p:Int)(e:Ent):(d.set p e).mem=d.mem:=rfl
@[simp] theorem LQ(d:DB)(p:Int)(e:Ent):(d.set p e).aR=d.aR:=rfl
@[simp] theorem KC(d:DB)(m:Mem):(d.eW m).mem=m:=rfl
@[simp] theorem HY(d:DB)(m:Mem):(d.eW m).aR=d.aR:=rfl
@[simp] theorem LU(d:DB)(m:Mem)(p:Int):(d.eW m).at_ p=d.at_ p:=rfl
@[simp] theorem Mf(d:DB)(m:Mem):(d.eW m).S=m.S:=rfl
@[simp] theorem Md(d:DB)(b:Int):(d.kz b).mem=d.mem:=rfl
@[simp] theorem JW(d:DB)(b:Int):(d.kz b).aR=b:=rfl
@[simp] theorem MX(d:DB)(b p:Int):(d.kz b).at_ p=d.at_ p:=rfl
@[simp] theorem Nc(d:DB)(b:Int):(d.kz b).S=d.S:=rfl
@[simp] theorem Gg(d:DB)(m m':Mem):(d.eW m).eW m'=d.eW m':=rfl
theorem rO {d:DB}{p:Int}(h:d.has p=true):0<=p/\p<(d.S:Int):=by simpa[has]using h
theorem fK {d:DB}{p:Int}(h:d.has p=true):p.toNat<d.S:=by have:=rO h;omega
theorem Ok.at_ {d:DB}(h:d.Ok){p:Int}(a:d.has p=true):(d.at_ p).ok=true/\(d.at_ p).owner<d.S/\0<=(d.at_ p).owner:=
 ⟨(h.ent _ (fK a)).1,(h.ent _ (fK a)).2,(Ent.iu (h.ent _ (fK a)).1).2.2.1⟩
end DB
end Go.Proofs.YtoghdgcmhbanbaaGreatDoor
end
section
namespace Go.Proofs.YtoghdgcmhbanbaaGreatDoor
open Go Go.RowKit V
open Go.IntKind (i64 u32 u64 wrap_i64 wrap_u32)
structure gE where
 g:Nat
 a:Nat
 M:fP
def gE.X(L:gE):Nat->Prop:=λk=>k=L.g\/k=L.a\/L.M.X k
abbrev DB.n2(D:DB):Nat:=2*D.mem.S
structure DBP(w:World)(L:gE)(D:DB):Prop where
 hd:∃T,Blk w L.g #[.pointer (some (Addr.mk L.M.g 0 none)),.int .i64 D.aR,.slice (some (Addr.mk L.a 0 none)) D.n2 D.n2] T
 ws:∃T cs,Blk w L.a cs T/\cs.size=D.n2/\∀p,p<D.S->cs[2*p]? =some (O (D.ent p).w0)/\cs[2*p+1]? =some (O (D.ent p).w1)
 mem:cH w L.M D.mem
 ok:D.Ok
 dis:L.a≠L.g/\¬L.M.X L.g/\¬L.M.X L.a
section
variable {w w' w2:World}{L:gE}{D:DB}{Y:Nat->Prop}
theorem DBP.lt(h:DBP w L D):∀k,L.X k->k<w.heap.size:=by
 rintro k (rfl|rfl|a)
 ·obtain⟨T,hd⟩:=h.hd;exact hd.lt
 ·obtain⟨T,cs,b,_⟩:=h.ws;exact b.lt
 ·exact h.mem.lt k a
theorem DBP.ch(h:DBP w L D)(a:Ch Y w w')(b:∀k,L.X k->¬Y k):DBP w' L D:=by
 refine⟨?_,?_,h.mem.ch a λk c=>b k (.inr (.inr c)),h.ok,h.dis⟩
 ·obtain⟨T,hd⟩:=h.hd;exact⟨T,a.blk hd (b _ (.inl rfl))⟩
 ·obtain⟨T,cs,d,e⟩:=h.ws;exact⟨T,cs,a.blk d (b _ (.inr (.inl rfl))),e⟩
theorem DBP.pu(h:DBP w L D)(a:Pu w w'):DBP w' L D:=h.ch a (by simp)
theorem DBP.S64(h:DBP w L D):D.S<=64:=h.mem.dD.1
theorem DBP.G5(h:DBP w L D){m:Mem}(hm:cH w' L.M m)(b:Ch L.M.X w w')(a:m.S=D.mem.S):DBP w' L (D.eW m):=by
 refine⟨?_,?_,hm,⟨λp d=>?_,h.ok.aR⟩,h.dis⟩
 ·obtain⟨T,hd⟩:=h.hd;refine⟨T,?_⟩;show Blk w' L.g #[_,_,.slice _ (2*m.S) (2*m.S)] T;rw[a];exact b.blk hd h.dis.2.1
 ·obtain⟨T,cs,e,f⟩:=h.ws;refine⟨T,cs,b.blk e h.dis.2.2,?_⟩;show cs.size=2*m.S/\∀p,p<m.S->_;rw[a];exact f
 ·have c:p<m.S:=d;rw[a]at c;have:=h.ok.ent p c;refine⟨this.1,?_⟩;show _<(m.S:Int);rw[a];exact this.2
theorem DBP.Gw(h:DBP w L D){x:Int}{T:TypeId}(a:br w L.g #[.pointer (some (Addr.mk L.M.g 0 none)),.int .i64 x,.slice (some (Addr.mk L.a 0 none)) D.n2 D.n2] T w2)(b:0<=x/\x<=64):DBP w2 L (D.kz x):=by
 refine⟨⟨T,a.blk⟩,?_,h.mem.ch a.ch λk c e=>h.dis.2.1 (e▸c),⟨h.ok.ent,b⟩,h.dis⟩;obtain⟨T,cs,d,f⟩:=h.ws;exact⟨T,cs,a.old d h.dis.1,f⟩
theorem DBP.Mk(h:DBP w L D){p:Int}{e:Ent}(f:D.has p=true)(he:e.ok=true)(i:e.owner<D.S){cs:Array Value}{T:TypeId}(j:Blk w L.a cs T)(a:br w L.a (setAt cs (2*p.toNat) [.int .u32 e.w0,.int .u32 e.w1]) T w2):DBP w2 L (D.set p e):=by
 obtain⟨s,t,l,b,n⟩:=h.ws;obtain⟨rfl,rfl⟩:=j.inj l;have u:=DB.fK f;refine⟨?_,⟨T,_,a.blk,by rw[fe];exact b,λq hq=>?_⟩,h.mem.ch a.ch λk o e=>h.dis.2.2 (e▸o),⟨λq hq=>?_,h.ok.aR⟩,h.dis⟩
 ·obtain⟨T,hd⟩:=h.hd;exact⟨T,a.old hd h.dis.1.symm⟩
 ·have c:2*p.toNat+ [Value.int .u32 e.w0,Value.int .u32 e.w1].length<=cs.size:=by
   have r:D.n2=2*D.S:=rfl;rw[b,r];simp only[List.length_cons,List.length_nil];omega
  rw[dO _ _ _ _ c,dO _ _ _ _ c];simp only[DB.set,List.length_cons,List.length_nil];by_cases d:q=p.toNat
  ·subst d;simp
  ·rw[if_neg (by omega),if_neg (by omega:¬(2*p.toNat<=2*q+1/\2*q+1<2*p.toNat+(0+1+1)))];simp only[d,if_false];exact n q hq
 ·simp only[DB.set];split
  ·exact⟨he,i⟩
  ·exact h.ok.ent q hq
theorem lL(x:Int):0<=u32.wrap x/\u32.wrap x<4294967296:=by rw[u32_eq];omega
end
end Go.Proofs.YtoghdgcmhbanbaaGreatDoor
end
section
set_option maxRecDepth 100000
namespace Go.Proofs.YtoghdgcmhbanbaaGreatDoor
open Go Go.RowKit V
open Go.IntKind (i64 u32 u64 wrap_i64 wrap_u32)
open Go.Proofs (Tryz.prog)
theorem vv(aV:Int){R:aK}{w:World}(h:∀(a:Nat)(c:World),a=w.heap.size->c=w.alloc (.cells (#[vB false,J 0]) 111)->ao c (vA a) [vB true,J aV] λb=>∃d:Bool,∃e:Int,(b.cell? ((vA a).add 0)=some (vB d)/\b.cell? ((vA a).add 1)=some (J e))/\R (.agg #[vB d,J e]) b):Calls Tryz.prog 88 #[J aV] w (aT R):=rvc [] (.leaf) Tryz.func88 h
theorem oM(d:oA){R:aK}{w:World}(h:ai d λb=>∃c:oA,∃a e:Nat,w.cell? (b.add 2)=some (.slice c a e)/\R (J (i64.wrap ((((a:Nat):Int):Int).tdiv 2))) w):Calls Tryz.prog 73 #[(.pointer d)] w (aT R):=rvc [] (.leaf) Tryz.func73 h
theorem vw(d:oA){R:aK}{w:World}(h:ai d λb=>∃a:oA,w.cell? (b.add 0)=some (.pointer a)/\R (.pointer a) w):Calls Tryz.prog 47 #[(.pointer d)] w (aT R):=rvc [] (.leaf) Tryz.func47 h
theorem uS(d:oA)(aV:Int){R:aK}{w:World}(h:∃b:Bool->World->Prop,(split (decide ((aV:Int)>=0)) (Calls Tryz.prog 73 #[(.pointer d)] w λe a=>∃c:Int,e=.returned (J c)/\b (decide ((aV:Int)<c)) a) (b false w))/\∀(_gv:Nat->Value)(f:Bool),∀a,b f a->R (vB f) a):Calls Tryz.prog 75 #[(.pointer d),J aV] w (aT R):=rvc [] (aq (.node none (.node (some ⟨[(4,.one (.bool))],(rgN 4 9)⟩) .leaf .leaf) .leaf)) Tryz.func75 h
theorem Gf(d:oA)(aV:Int){R:aK}{w:World}(h:∀(b:Nat)(a:World),b=w.heap.size->a=w.alloc (.cells (#[J 0,J 0,J 0,J 0,vB false]) 137)->ai d λN=>∃c:oA,∃f i:Nat,a.cell? (N.add 2)=some (.slice c f i)/\(0<=(i64.wrap (2*aV):Int)/\(i64.wrap (2*aV):Int)<=((f:Nat):Int))/\∀k:oA,k=(if i=(Int.toNat (i64.wrap (2*aV)))then c else(c:oA).map (·.add ((Int.toNat (i64.wrap (2*aV)))*1)))->∀l:Nat,l=f - (Int.toNat (i64.wrap (2*aV)))->∀P:Nat,P=i - (Int.toNat (i64.wrap (2*aV)))->2<=l/\ai k λn=>∃o p:Int,(a.cell? (n.add 0)=some (O o)/\a.cell? (n.add 1)=some (O p))/\Calls Tryz.prog 74 #[(.agg #[O o,O p])] a λe q=>∃r s t u:Int,∃v:Bool,∃Q:Int,e=.returned (.tuple #[(.agg #[J r,J s,J t,J u,vB v]),J Q])/\∀(j:Nat)(x:World),j=q.heap.size->x=q.alloc (.cells (#[J 0,J 0,J 0,J 0,vB false]) 137)->ao x (vA j) [J r,J s,J t,J u,vB v] λy=>∃z A B C:Int,∃E:Bool,ar y (vA j) 0 [J z,J A,J B,J C,vB E]/\ao y (vA b) [J z,J A,J B,J C,vB E] λF=>∃G H I K:Int,∃M:Bool,ar F (vA b) 0 [J G,J H,J I,J K,vB M]/\R (.agg #[J G,J H,J I,J K,vB M]) F):Calls Tryz.prog 142 #[(.pointer d),J aV] w (aT R):=rvc [] (.leaf) Tryz.func142 h
theorem zb(d:oA)(aV:Int){R:aK}{w:World}(h:∀(a:Nat)(l:World),a=w.heap.size->l=w.alloc (.cells (#[J 0,J 0,J 0,J 0,vB false]) 137)->Calls Tryz.prog 75 #[(.pointer d),J aV] l λe n=>∃o:Bool,e=.returned (vB o)/\split (!o) (ao n (vA a) [J 0,J 0,J 0,J 0,vB false] λk=>∃b c f i:Int,∃j:Bool,ar k (vA a) 0 [J b,J c,J f,J i,vB j]/\R (.tuple #[(.agg #[J b,J c,J f,J i,vB j]),J 5]) k) (Calls Tryz.prog 142 #[(.pointer d),J aV] n λe k=>∃p q r s:Int,∃t:Bool,e=.returned (.agg #[J p,J q,J r,J s,vB t])/\ao k (vA a) [J p,J q,J r,J s,vB t] λu=>∃b c f i:Int,∃j:Bool,ar u (vA a) 0 [J b,J c,J f,J i,vB j]/\R (.tuple #[(.agg #[J b,J c,J f,J i,vB j]),J 0]) u)):Calls Tryz.prog 110 #[(.pointer d),J aV] w (aT R):=rvc [] (.leaf) Tryz.func110 h
theorem uR(d:oA)(aV:Int){R:aK}{w:World}(h:∃b:Bool->World->Prop,(Calls Tryz.prog 75 #[(.pointer d),J aV] w λe a=>∃c:Bool,e=.returned (vB c)/\split c (Calls Tryz.prog 142 #[(.pointer d),J aV] a λe j=>∃f k l n:Int,∃o:Bool,e=.returned (.agg #[J f,J k,J l,J n,vB o])/\b ((f:Int)==1) j) (b false a))/\∀(_gv:Nat->Value)(i:Bool),∀a,b i a->R (vB i) a):Calls Tryz.prog 144 #[(.pointer d),J aV] w (aT R):=rvc [] (aq (.node none (.node (some ⟨[(4,.one (.bool))],(rgN 4 11)⟩) .leaf .leaf) .leaf)) Tryz.func144 h
end Go.Proofs.YtoghdgcmhbanbaaGreatDoor
end
section
set_option maxRecDepth 100000
namespace Go.Proofs.YtoghdgcmhbanbaaGreatDoor
open Go Go.RowKit V
open Go.IntKind (i64 u32 u64 wrap_i64 wrap_u32)
open Go.Proofs (Tryz.prog)
theorem yQ(bQ c:Int){R:aK}{w:World}(h:∃a:Bool->World->Prop,(split (decide ((bQ:Int)<1)) (a true w) (split (decide ((bQ:Int)>64)) (a true w) (split (decide ((c:Int)<1)) (a true w) (a (decide ((c:Int)>64)) w))))/\∀(_gv:Nat->Value)(f:Bool),∀d,a f d->split f (R (.tuple #[(.pointer none),J 1]) d) (∀(e:Nat)(j:World),e=d.heap.size->j=d.alloc (.cells #[(.slice none 0 0),J bQ,J 0] 117)->∀i:Int,i=0->∃I:Nat->Int->World->Prop,(∃m,I m i j)/\∀(m:Nat)(_gv2:Nat->Value)(i1:Int),∀b,I m i1 b->split (decide ((i1:Int)<(i64.wrap (bQ+c)))) (∃k:oA,∃l n:Nat,b.cell? ((vA e).add 0)=some (.slice k l n)/\∀(o:Nat)(p:World),o=b.heap.size->p=b.alloc (.cells #[(.slice none 0 0)] 26)->∃q:oA,∃r s:Nat,∃t,(Builtin.append_ #[55,55] 55 #[(.slice k l n),(.slice (pvA o) 1 1)]:Sem Value).run Tryz.prog p=.ok (.slice q r s) t/\ao t ((vA e).add 0) [(.slice q r s)] λv=>∀i2:Int,i2=(i64.wrap (i1+1))->∃u,u<m/\I u i2 v) (R (.tuple #[(.pointer (pvA e)),J 0]) b))):Calls Tryz.prog 34 #[J bQ,J c] w (aT R):=rvc [7] (aq (.node none (.node none (.node (some ⟨[(21,.one (.bool))],(rgN 8 14)⟩) .leaf .leaf) .leaf) (aq (.node none (aq (.node none (.node (some ⟨[(7,.one (.int .i64))],[7,25,26,27,28,29,30,31,32,33,34,35,36,37,38,39,40]⟩) .leaf .leaf) .leaf)) .leaf)))) Tryz.func34 h
theorem uB(m:oA)(c:Bool)(d:Int){R:aK}{w:World}(h:∀(b:Nat)(a:World),b=w.heap.size->a=w.alloc (.cells #[vB c,J d] 81)->∃e:Int,a.cell? ((vA b).add 1)=some (J e)/\split (decide ((e:Int)<0)) (R (J (-1)) a) (∃f:Bool,a.cell? ((vA b).add 0)=some (vB f)/\split f (∃i:Int,a.drew.cell? ((vA b).add 1)=some (J i)/\ai m λr=>∃j:Int,a.drew.cell? (r.add 1)=some (J j)/\split (decide ((i:Int)<j)) (∃k:Int,a.drew.cell? ((vA b).add 1)=some (J k)/\R (J k) a.drew) (R (J (-1)) a.drew)) (∃l:Int,a.drew.cell? ((vA b).add 1)=some (J l)/\ai m λs=>∃t:oA,∃n u:Nat,a.drew.cell? (s.add 0)=some (.slice t n u)/\ai m λv=>∃o:Int,a.drew.cell? (v.add 1)=some (J o)/\split (decide ((l:Int)<(i64.wrap (((n:Nat):Int) - o)))) (ai m λx=>∃p:Int,a.drew.drew.cell? (x.add 1)=some (J p)/\∃q:Int,a.drew.drew.cell? ((vA b).add 1)=some (J q)/\R (J (i64.wrap (p+q))) a.drew.drew) (R (J (-1)) a.drew)))):Calls Tryz.prog 53 #[(.pointer m),(.agg #[vB c,J d])] w (aT R):=rvc [] (.leaf) Tryz.func53 h
theorem vl(m:oA)(j:Bool)(k off:Int){R:aK}{w:World}(h:∀(i:Nat)(f:World),i=w.heap.size->f=w.alloc (.cells #[vB j,J k] 81)->∃l:Bool,∃n:Int,(f.cell? ((vA i).add 0)=some (vB l)/\f.cell? ((vA i).add 1)=some (J n))/\Calls Tryz.prog 53 #[(.pointer m),(.agg #[vB l,J n])] f λe b=>∃a:Int,e=.returned (J a)/\∃d:Bool->World->Prop,(split (decide ((a:Int)<0)) (d true b) (split (decide ((off:Int)<0)) (d true b) (split (decide ((off:Int)>=1024)) (d true b) (ai m λy=>∃o:oA,∃p z:Nat,b.cell? (y.add 0)=some (.slice o p z)/\(0<=(a:Int)/\(a:Int)<((p:Nat):Int))/\ai o λA=>∃B:oA,∃q C:Nat,b.cell? (A.add (Int.toNat a*1))=some (.slice B q C)/\d ((((q:Nat):Int):Int)==0) b))))/\∀(_gv1:Nat->Value)(r:Bool),∀c,d r c->split r (R (O 0) c) (ai m λE=>∃s:oA,∃t F:Nat,c.cell? (E.add 0)=some (.slice s t F)/\(0<=(a:Int)/\(a:Int)<((t:Nat):Int))/\ai s λG=>∃u:oA,∃v H:Nat,c.cell? (G.add (Int.toNat a*1))=some (.slice u v H)/\(0<=(off:Int)/\(off:Int)<((v:Nat):Int))/\ai u λI=>∃x:Int,c.cell? (I.add (Int.toNat off*1))=some (O x)/\R (O x) c)):Calls Tryz.prog 64 #[(.pointer m),(.agg #[vB j,J k]),J off] w (aT R):=rvc [] (aq (aq (.node none (.node none (.node (some ⟨[(31,.one (.bool))],(rgN 11 21)⟩) .leaf .leaf) .leaf) .leaf))) Tryz.func64 h
theorem rp(m:oA){R:aK}{w:World}(h:ai m λb=>∃a:Int,w.cell? (b.add 1)=some (J a)/\R (J a) w):Calls Tryz.prog 54 #[(.pointer m)] w (aT R):=rvc [] (.leaf) Tryz.func54 h
theorem oI(m:oA){R:aK}{w:World}(h:ai m λc=>∃d:oA,∃a e:Nat,w.drew.cell? (c.add 0)=some (.slice d a e)/\ai m λf=>∃b:Int,w.drew.cell? (f.add 1)=some (J b)/\R (J (i64.wrap (((a:Nat):Int) - b))) w.drew):Calls Tryz.prog 56 #[(.pointer m)] w (aT R):=rvc [] (.leaf) Tryz.func56 h
end Go.Proofs.YtoghdgcmhbanbaaGreatDoor
end
section
namespace Go.Proofs.YtoghdgcmhbanbaaGreatDoor
open Go Go.RowKit V
open Go.IntKind (i64 u32 u64 wrap_i64 wrap_u32)
namespace Mem
def idx(m:Mem)(s:Bool)(p:Nat):Nat:=match s with
 |true=>p
 |false=>m.S+p
def word(m:Mem)(i o:Nat):Int:=if i<m.S then m.pg true i o else m.pg false (i - m.S) o
def place(m:Mem)(s:Bool)(p:Int):Int:=if m.has s p then(m.idx s p.toNat:Int)else -1
theorem Ef(m:Mem)(p:Nat):m.idx false p=m.S+p:=rfl
theorem Ee(m:Mem)(p:Nat):m.idx true p=p:=rfl
theorem MU(m:Mem):m.cnt false=m.I:=rfl
theorem KG(m:Mem):m.cnt true=m.S:=rfl
theorem xu(m:Mem){i:Nat}(h:i<m.S)(o:Nat):m.word i o=m.pg true i o:=if_pos h
theorem xv(m:Mem){i:Nat}(h:¬i<m.S)(o:Nat):m.word i o=m.pg false (i - m.S) o:=if_neg h
theorem zf(m:Mem){s:Bool}{p:Nat}(a:p<m.cnt s)(o:Nat):m.word (m.idx s p) o=m.pg s p o:=by
 cases s
 ·rw[Ef,xv m (by omega),show m.S+p - m.S=p by omega]
 ·rw[Ee,xu m a]
theorem Hp(m:Mem){s:Bool}{p:Nat}(a:p<m.cnt s):m.idx s p<m.S+m.I:=by
 cases s
 ·rw[MU]at a;rw[Ef];omega
 ·rw[KG]at a;rw[Ee];omega
theorem vx(m:Mem){s:Bool}{p:Nat}(b:p<m.cnt s)(f:Nat->Int){i:Nat}(o:Nat):(m.fill s p f).word i o=if i=m.idx s p then f o else m.word i o:=by
 by_cases h:i<m.S
 ·rw[xu _ (show i<(m.fill s p f).S from h),xu m h];cases s
  ·rw[Ef,if_neg (by omega)];simp[fill]
  ·rw[Ee];simp[fill]
 ·rw[xv _ (show ¬i<(m.fill s p f).S from h),xv m h];show(m.fill s p f).pg false (i - m.S) o=_;cases s
  ·rw[Ef];by_cases a:i=m.S+p
   ·rw[if_pos a];simp[fill,a]
   ·rw[if_neg a];simp only[fill];rw[if_neg (by rintro⟨_,c⟩;omega)]
  ·rw[Ee,if_neg (by rw[KG]at b;omega)];simp[fill]
end Mem
structure eU where
 g:Nat
 a:Nat
 c:Nat
 n:Nat
 pg:Nat->Option (Nat×Nat)
def GR:Option (Nat×Nat)->Value
 |none=>.slice none 0 0
 |some (b,c)=>.slice (pvA b) 1024 c
def eU.X(L:eU):Nat->Prop:=λk=>k=L.g\/k=L.a\/∃i c,i<L.n/\L.pg i=some (k,c)
def PgB(w:World)(b:Nat)(f:Nat->Int):Prop:=∃T cs,Blk w b cs T/\1024<=cs.size/\∀o,o<1024->cs[o]? =some (O (f o))
structure bV(w:World)(g:Nat)(L:eU)(m:Mem):Prop where
 gq:L.g=g
 n:L.n=m.S+m.I
 hd:∃T:TypeId×Int,Blk w L.g #[.slice (some (Addr.mk L.a 0 none)) L.n L.c,.int .i64 m.S,.int .i64 T.2] T.1
 row:∃T cs,Blk w L.a cs T/\L.n<=cs.size/\∀i,i<L.n->cs[i]? =some (GR (L.pg i))
 nil:∀i,i<L.n->L.pg i=none->∀o,m.word i o=0
 pgs:∀i b c,i<L.n->L.pg i=some (b,c)->PgB w b (m.word i)
 inj:∀i j b c c',i<L.n->j<L.n->L.pg i=some (b,c)->L.pg j=some (b,c')->i=j
 dis:L.a≠L.g/\∀i b c,i<L.n->L.pg i=some (b,c)->b≠L.g/\b≠L.a
 u32:∀s i o,0<=m.pg s i o/\m.pg s i o<4294967296
 dD:m.S<=64/\m.I<=64
section
variable {w w' w2:World}{g:Nat}{L:eU}{m:Mem}{Y:Nat->Prop}
theorem PgB.lt {b:Nat}{f:Nat->Int}(h:PgB w b f):b<w.heap.size:=by obtain⟨T,cs,a,_⟩:=h;exact a.lt
theorem PgB.ch {b:Nat}{f:Nat->Int}(h:PgB w b f)(a:Ch Y w w')(c:¬Y b):PgB w' b f:=by obtain⟨T,cs,d,e⟩:=h;exact⟨T,cs,a.blk d c,e⟩
theorem bV.lt(h:bV w g L m):∀k,L.X k->k<w.heap.size:=by
 rintro k (rfl|rfl|⟨i,c,hi,a⟩)
 ·obtain⟨T,hd⟩:=h.hd;exact hd.lt
 ·obtain⟨T,cs,b,_⟩:=h.row;exact b.lt
 ·exact(h.pgs i k c hi a).lt
theorem bV.ch(h:bV w g L m)(a:Ch Y w w')(d:∀k,L.X k->¬Y k):bV w' g L m:=by
 refine⟨h.gq,h.n,?_,?_,h.nil,λi b c hi e=>(h.pgs i b c hi e).ch a (d _ (.inr (.inr ⟨i,c,hi,e⟩))),h.inj,h.dis,h.u32,h.dD⟩
 ·obtain⟨T,hd⟩:=h.hd;exact⟨T,a.blk hd (d _ (.inl rfl))⟩
 ·obtain⟨T,cs,f,j⟩:=h.row;exact⟨T,cs,a.blk f (d _ (.inr (.inl rfl))),j⟩
theorem bV.pu(h:bV w g L m)(a:Pu w w'):bV w' g L m:=h.ch a (by simp)
theorem bV.tick(h:bV w g L m){x:Int}{T:TypeId}(a:br w L.g #[.slice (some (Addr.mk L.a 0 none)) L.n L.c,.int .i64 m.S,.int .i64 x] T w2):bV w2 g L m:=by
 refine⟨h.gq,h.n,⟨(T,x),a.blk⟩,?_,h.nil,λi b c hi d=>(h.pgs i b c hi d).ch a.ch (h.dis.2 i b c hi d).1,h.inj,h.dis,h.u32,h.dD⟩;obtain⟨e,cs,f,j⟩:=h.row;exact⟨e,cs,a.old f h.dis.1,j⟩
def eU.put(L:eU)(i:Nat)(v:Option (Nat×Nat)):eU:= {L with pg:=λj=>if j=i then v else L.pg j}
theorem eU.M0 {L:eU}{i:Nat}{v:Option (Nat×Nat)}{k:Nat}(h:(L.put i v).X k):L.X k\/∃c,v=some (k,c):=by
 rcases h with h|h|⟨j,c,b,a⟩
 ·exact .inl (.inl h)
 ·exact .inl (.inr (.inl h))
 ·simp only[eU.put]at a;split at a
  ·exact .inr ⟨c,a⟩
  ·exact .inl (.inr (.inr ⟨j,c,b,a⟩))
theorem bV.lay(h:bV w g L m){s:Bool}{p:Nat}(q:p<m.cnt s){v:Option (Nat×Nat)}{f:Nat->Int}(t:∀o,0<=f o/\f o<4294967296)
 (u:v=none->∀o,f o=0)(d:∀b c,v=some (b,c)->PgB w b f/\¬L.X b){cs:Array Value}{T:TypeId}(x:Blk w L.a cs T)(n:br w L.a (setAt cs (m.idx s p) [GR v]) T w2):
 bV w2 g (L.put (m.idx s p) v) (m.fill s p f):=by
 have hi:=m.Hp q;obtain⟨G,H,y,z,A⟩:=h.row;obtain⟨rfl,rfl⟩:=x.inj y;have I:=h.n;refine⟨h.gq,h.n,?_,⟨T,_,n.blk,by rw[fe];exact z,λi a=>?_⟩,λi a hq o=>?_,λi b c a hq=>?_,λi j b c c' a r k l=>?_,⟨h.dis.1,λi b c a hq=>?_⟩,λB i o=>?_,h.dD⟩
 ·obtain⟨C,hd⟩:=h.hd;exact⟨C,n.old hd h.dis.1.symm⟩
 ·rw[dO _ _ _ _ (by simp;omega)];simp only[eU.put,List.length_cons,List.length_nil];by_cases e:i=m.idx s p
  ·subst e;simp
  ·rw[if_neg (by omega),if_neg e];exact A i a
 ·rw[m.vx q];simp only[eU.put]at hq;split at hq
  ·rename_i e;rw[if_pos e];exact u hq o
  ·rename_i e;rw[if_neg e];exact h.nil i a hq o
 ·have E:(m.fill s p f).word i=if i=m.idx s p then f else m.word i:=by
   funext o;rw[m.vx q];split<;>rfl
  rw[E];simp only[eU.put]at hq;split at hq
  ·rename_i e;rw[if_pos e];exact(d b c hq).1.ch n.ch λF=>(d b c hq).2 (.inr (.inl F))
  ·rename_i e;rw[if_neg e];exact(h.pgs i b c a hq).ch n.ch (h.dis.2 i b c a hq).2
 ·simp only[eU.put]at k l;split at k<;>split at l
  ·omega
  ·exact absurd (.inr (.inr ⟨j,c',r,l⟩)) (d b c k).2
  ·exact absurd (.inr (.inr ⟨i,c,a,k⟩)) (d b c' l).2
  ·exact h.inj i j b c c' a r k l
 ·simp only[eU.put]at hq;split at hq
  ·have:=(d b c hq).2;exact⟨λe=>this (.inl e),λe=>this (.inr (.inl e))⟩
  ·exact h.dis.2 i b c a hq
 ·simp only[Mem.fill];split
  ·exact t o
  ·exact h.u32 B i o
end
end Go.Proofs.YtoghdgcmhbanbaaGreatDoor
end
section
set_option maxRecDepth 10000
set_option maxHeartbeats 1000000
namespace Go.Proofs.YtoghdgcmhbanbaaGreatDoor
open Go Go.RowKit V
open Go.IntKind (i64 u32 u64 wrap_i64 wrap_u32)
theorem vL {g:Nat}{L:eU}{m:Mem}{w:World}(h:bV w g L m):
 Calls Tryz.prog 54 #[(.pointer (pvA g))] w λe w'=>∃v,e=.returned v/\v=.int .i64 m.S/\w'=w:=by
 refine rp (pvA g) ?_;obtain⟨_,a⟩:=(by have b:=h.hd;rwa[h.gq]at b:∃T:TypeId×Int,Blk _ _ #[_,_,.int .i64 T.2] T.1);refine ah _ rfl ⟨_,a.at rfl,?_⟩;exact⟨rfl,rfl⟩
theorem qi {g:Nat}{L:eU}{m:Mem}{w:World}(h:bV w g L m):
 Calls Tryz.prog 56 #[(.pointer (pvA g))] w λe w'=>∃v,e=.returned v/\v=.int .i64 m.I/\Pu w w':=by
 refine oI (pvA g) ?_;have d:=h;have a:=Ch.refl (λ_=>False) w;have f:=h.lt;refine ah _ rfl ?_;have h:=h.pu (Pu.aw _);obtain⟨_,b⟩:=(by have c:=h.hd;rwa[h.gq]at c:∃T:TypeId×Int,Blk _ _ #[_,_,.int .i64 T.2] T.1);refine⟨_,_,_,b.at rfl,ah _ rfl ⟨_,b.at rfl,?_⟩⟩;have a:=Ch.drew a;exact⟨congrArg (Value.int .i64) (by have i:=h.n;have j:=h.dD;rw[aa (by omega)];omega),a⟩
theorem zF {g:Nat}{L:eU}{m:Mem}{w:World}(h:bV w g L m)(d:Bool)(j:Int):
 Calls Tryz.prog 53 #[(.pointer (pvA g)),(.agg #[vB d,J j])] w λe w'=>∃v,e=.returned v/\v=.int .i64 (m.place d j)/\Pu w w':=by
 refine uB (pvA g) _ _ ?_;have p:=h.n;have q:=h.dD;have a:=Ch.refl (λ_=>False) w;have r:=h.lt;refine mkd λs t c=>?_;have b:=c.blk;refine⟨_,b.at rfl,?_⟩;refine af (λk=>?_) (λk=>?_)
 ·have a:=Ch.made a c;exact⟨congrArg (Value.int .i64) (by unfold Mem.place Mem.has Mem.cnt Mem.idx;cases d<;>simp_all[wrap_i64]<;>omega),a⟩
 ·refine⟨_,b.at rfl,?_⟩;refine ab (λl=>?_) (λl=>?_)
  ·have b:=Blk.drew b;have h:=(h.pu c.pu).pu (Pu.aw _);obtain⟨_,f⟩:=(by have i:=h.hd;rwa[h.gq]at i:∃T:TypeId×Int,Blk _ _ #[_,_,.int .i64 T.2] T.1);refine⟨_,b.at rfl,ah _ rfl ⟨_,f.at rfl,?_⟩⟩;refine af (λn=>?_) (λn=>?_)
   ·refine⟨_,b.at rfl,?_⟩;have a:=Ch.drew (Ch.made a c);exact⟨congrArg (Value.int .i64) (by unfold Mem.place Mem.has Mem.cnt Mem.idx;cases d<;>simp_all[wrap_i64]<;>omega),a⟩
   ·have a:=Ch.drew (Ch.made a c);exact⟨congrArg (Value.int .i64) (by unfold Mem.place Mem.has Mem.cnt Mem.idx;cases d<;>simp_all[wrap_i64]<;>omega),a⟩
  ·have b:=Blk.drew b;have h:=(h.pu c.pu).pu (Pu.aw _);obtain⟨_,f⟩:=(by have i:=h.hd;rwa[h.gq]at i:∃T:TypeId×Int,Blk _ _ #[_,_,.int .i64 T.2] T.1);refine⟨_,b.at rfl,ah _ rfl ⟨_,_,_,f.at rfl,ah _ rfl ⟨_,f.at rfl,?_⟩⟩⟩;refine af (λo=>?_) (λo=>?_)
   ·refine ah _ rfl ?_;have f:=Blk.drew f;have b:=Blk.drew b;refine⟨_,f.at rfl,_,b.at rfl,?_⟩;have a:=Ch.drew (Ch.drew (Ch.made a c));exact⟨congrArg (Value.int .i64) (by unfold Mem.place Mem.has Mem.cnt Mem.idx;cases d<;>simp_all[wrap_i64]<;>omega),a⟩
   ·have a:=Ch.drew (Ch.made a c);exact⟨congrArg (Value.int .i64) (by unfold Mem.place Mem.has Mem.cnt Mem.idx;cases d<;>simp_all[wrap_i64]<;>omega),a⟩
end Go.Proofs.YtoghdgcmhbanbaaGreatDoor
end
section
namespace Go.Proofs.YtoghdgcmhbanbaaGreatDoor
open Go Go.RowKit V
open Go.IntKind (i64 u32 u64 wrap_i64 wrap_u32)
section
variable {w:World}{g:Nat}{L:eU}{m:Mem}
theorem E2 {s:Bool}{p:Int}:(m.place s p<0)↔m.has s p=false:=by
 unfold Mem.place;cases h:m.has s p
 ·simp
 ·simp
theorem vR {s:Bool}{p:Int}(h:m.has s p=true):m.place s p=(m.idx s p.toNat:Int):=by unfold Mem.place;rw[if_pos h]
theorem bV.slot(h:bV w g L m){s:Bool}{p:Nat}(a:p<m.cnt s):∃T cs,Blk w L.a cs T/\L.n<=cs.size/\m.idx s p<L.n/\cs[m.idx s p]? =some (GR (L.pg (m.idx s p))):=by
 obtain⟨T,cs,b,c,d⟩:=h.row;have hi:=m.Hp a;have e:=h.n;exact⟨T,cs,b,c,by omega,d _ (by omega)⟩
theorem DL(h:bV w g L m)(s:Bool)(p o:Int):
 Calls Tryz.prog 64 #[ptr g,fr s p,.int .i64 o] w λe w'=>∃u,e=.returned u/\u=.int .u32 (m.gp s p o)/\Pu w w':=by
 refine vl _ s p o ?_;refine mkd λE w1 k=>?_;refine⟨_,_,⟨k.blk.at rfl,k.blk.at rfl⟩,(zF (h.pu k.pu) s p).mono ?_⟩;rintro e w2 ⟨_,rfl,rfl,t⟩;have d:Pu w w2:=(show Pu w w1 from k.pu).trans t;have f:=h.pu d;have v:=f.gq;subst v;obtain⟨T,hd⟩:=f.hd;refine⟨_,rfl,?_⟩;cases i:m.has s p with
 | false=>
  refine⟨λb w'=>w2=w'/\b=true,ab (λ_=>⟨rfl,rfl⟩) (λa=>by simp[E2,i]at a),?_⟩;rintro _ _ _ ⟨rfl,rfl⟩;exact aU ⟨by simp[Mem.gp,i],d⟩
 | true=>
  have n:=Mem.fK i;obtain⟨T2,cs,q,F,hi,j⟩:=f.slot n;have G:=vR i;have r:(m.place s p).toNat=m.idx s p.toNat:=by omega
  cases l:L.pg (m.idx s p.toNat)with
  | none=>
   rw[l]at j;refine⟨λb w'=>w2=w'/\b=true,ab (λ_=>⟨rfl,rfl⟩) (λ_=>ab (λ_=>⟨rfl,rfl⟩) (λ_=>ab (λ_=>⟨rfl,rfl⟩) (λ_=>?_))),?_⟩
   ·refine ah _ rfl ⟨_,_,_,hd.at rfl,by omega,ah _ rfl ⟨none,0,0,?_,rfl,rfl⟩⟩;rw[Nat.mul_one,r];exact q.at j
   ·rintro _ _ _ ⟨rfl,rfl⟩;refine aU ⟨?_,d⟩;have:=f.nil _ hi l o.toNat;rw[Mem.zf m n]at this;simp[Mem.gp,this]
  | some y=>
   obtain⟨b,c⟩:=y;rw[l]at j;obtain⟨H,I,z,J,hw⟩:=f.pgs _ b c hi l;refine⟨λx w'=>w2=w'/\x= !(Mem.iR o),ab (λa=>?_) (λ_=>ab (λa=>⟨rfl,?_⟩) (λA=>ab (λa=>⟨rfl,?_⟩) (λa=>?_))),?_⟩
   ·have:m.place s p<0:=by simpa using a
    omega
   ·have:o<0:=by simpa using a
    simp[Mem.iR];omega
   ·have:o>=1024:=by simpa using a
    simp[Mem.iR];omega
   ·have B:0<=o:=by simpa using A
    have C:o<1024:=by simpa using a
    refine ah _ rfl ⟨_,_,_,hd.at rfl,by omega,ah _ rfl ⟨some (vA b),1024,c,?_,rfl,?_⟩⟩
    ·rw[Nat.mul_one,r];exact q.at j
    ·simp[Mem.iR,B,C]
   ·rintro _ x _ ⟨rfl,rfl⟩;refine bo (λa=>?_) (λa=>?_)
    ·exact⟨by simp[Mem.gp,a],d⟩
    ·have K:=Mem.v5 a;refine ah _ rfl ⟨_,_,_,hd.at rfl,by omega,ah _ rfl ⟨some (vA b),1024,c,?_,?_⟩⟩
     ·rw[Nat.mul_one,r];exact q.at j
     ·refine⟨by omega,ah _ rfl ⟨m.word (m.idx s p.toNat) o.toNat,?_,?_,d⟩⟩
      ·rw[Nat.mul_one];exact z.at (hw o.toNat (by omega))
      ·simp only[Mem.gp,i,a,Bool.and_self,if_true];rw[Mem.zf m n]
def Mc(L a:eU)(w:World):Prop:=∀k,a.X k->L.X k\/w.heap.size<=k
theorem Mc.refl(L:eU)(w:World):Mc L L w:=λ_ h=>.inl h
theorem IY:S1 Tryz.prog 55 26 (.slice none 0 0) 24:=S1.of (by kernel_rfl) (by kernel_rfl) rfl
theorem Le(s i:Int)(X:1<=s/\s<=64)(hi:1<=i/\i<=64):
 Calls Tryz.prog 34 #[.int .i64 s,.int .i64 i] w λe w'=>∃v,e=.returned v/\∃g L,v=.tuple #[ptr g,.int .i64 0]/\bV w' g L (Mem.fresh s.toNat i.toNat)/\(∀k,L.X k->w.heap.size<=k)/\Pu w w':=by
 refine yQ s i ?_;refine⟨λb w'=>w=w'/\b=false,?_,?_⟩
 ·refine ab (λa=>by simp at a;omega) (λ_=>ab (λa=>by simp at a;omega) (λ_=>ab (λa=>by simp at a;omega) (λ_=>⟨rfl,by simp;omega⟩)))
 rintro _ x _ ⟨rfl,rfl⟩;refine bG ?_;obtain⟨S,rfl⟩:=Int.eq_ofNat_of_zero_le (show 0<=s by omega);obtain⟨I,rfl⟩:=Int.eq_ofNat_of_zero_le (show 0<=i by omega);refine mkd λd w1 p=>?_;rintro _ rfl;have J:SN Tryz.prog 55 26 (.slice none 0 0) 1 24:=IY.sn;refine⟨λk x W=>∃(j:Nat)(A:oA)(c:Nat),k=S+I - j/\x=(j:Int)/\j<=S+I/\cG W (λk=>w.heap.size<=k/\k≠d) 26 1 A j c (List.replicate j (.slice none 0 0))/\(∃T,Blk W d #[.slice A j c,.int .i64 S,.int .i64 0] T)/\Pu w W,
  ⟨_,0,none,0,rfl,rfl,by omega,cG.nil,⟨_,p.blk⟩,p.pu⟩,?_⟩
 rintro _ _ _ w2 ⟨j,A,c,rfl,rfl,K,r,⟨T,a⟩,y⟩;rw[aa (x:=(S:Int)+(I:Int)) (by omega)];refine af (λM=>?_) (λM=>?_)
 ·refine⟨_,_,_,a.at rfl,?_⟩;refine mkd λZ w3 f=>?_;have an:d<w2.heap.size:=a.lt;refine tX J (r.pu f.pu) (news:= [.slice none 0 0]) (m:=1) rfl (λq u hu=>by
   match q with
   |0=>simp at hu;subst hu;exact f.blk.at rfl
   |q+1=>simp at hu) (by simp[Value.oneCell']) (by omega) (by omega) λA' c' z N C=>?_
  have O:=p.lo (Ch.refl (λ_=>False) w);have P:Pu w z:=(y.made f).call C λk ⟨b,n,l⟩=>.inr (by have:=r.2 b n;omega);have Q:Blk z d #[.slice A j c,.int .i64 S,.int .i64 0] T:=C.blk (f.old a) fun⟨b,n,l⟩=>(r.2 b n).2 l;refine aL Q (by simp) λw5 B=>?_;rintro _ rfl;have az:=f.num;refine⟨S+I - (j+1),by omega,j+1,A',c',rfl,by rw[aa (by omega)];omega,by omega,?_,⟨T,B.blk⟩,P.stored B (.inr O)⟩;have R:cG z (λk=>w.heap.size<=k/\k≠d) 26 1 A' (j+1) c' (List.replicate (j+1) (.slice none 0 0)):=by
   rw[List.replicate_succ'];exact N.mono λk l=>l.elim id λe=>by subst e;have:=y.size;have:=f.size;omega
  exact R.ch B.ch λk l e=>l.2 e
 ·have:j=S+I:=by omega
  subst this;obtain⟨E,cur,n,F,G,H,U⟩:=r.blk (by omega);subst n;have aA:E<w2.heap.size:=G.lt;refine⟨d,⟨d,E,c,S+I,λ_=>none⟩,rfl,⟨rfl,rfl,⟨(T,_),a⟩,⟨_,cur,G,by rw[Nat.mul_one]at H;exact H,λq hq=>?_⟩,λq hq _ o=>(by unfold Mem.word;split<;>rfl),λq b c hq h=>(by cases h),λq j b c c' hq K h=>(by cases h),⟨F.2,λq b c hq h=>(by cases h)⟩,λ_ _ _=>by simp[Mem.fresh],by simp[Mem.fresh];omega⟩,?_,y⟩
  ·have t:(cur.toList.take ((S+I)*1))[q]? =some (.slice none 0 0):=by
    have V:q<S+I:=hq;rw[U,List.getElem?_replicate,if_pos V]
   rw[List.getElem?_take]at t;split at t
   ·simpa[GR]using t
   ·cases t
  ·rintro k (rfl|rfl|⟨q,c',_,hq⟩)
   ·exact p.lo (Ch.refl (λ_=>False) w)
   ·exact F.1
   ·cases hq
end
end Go.Proofs.YtoghdgcmhbanbaaGreatDoor
end
section
namespace Go.Proofs.YtoghdgcmhbanbaaGreatDoor
open Go Go.RowKit V
open Go.IntKind (i64 u32 u64 wrap_i64 wrap_u32)
open Enc (enc)
instance:Enc Ent:=⟨λe=>[.int .i64 e.typ,.int .i64 e.owner,.int .i64 e.refs,.int .i64 e.state,.bool e.bw],5,λ_=>rfl,by simp[Value.oneCell'],by omega⟩
structure jJ where
 g:Nat
 e:Nat
 c:Nat
 M:eU
def jJ.X(L:jJ):Nat->Prop:=λk=>k=L.g\/k=L.e\/L.M.X k
abbrev DB.ax(D:DB):List Ent:=(List.range D.S).map D.ent
structure eV(w:World)(g:Nat)(L:jJ)(D:DB):Prop where
 gq:L.g=g
 hd:∃T,Blk w L.g #[.pointer (some (Addr.mk L.M.g 0 none)),.slice (some (Addr.mk L.e 0 none)) D.S L.c,.int .i64 D.aR] T
 es:Own w (λk=>k=L.e) 101 (some (Addr.mk L.e 0 none)) D.S L.c D.ax
 mem:bV w L.M.g L.M D.mem
 ok:D.Ok
 pos:1<=D.S
 dis:L.e≠L.g/\¬L.M.X L.g/\¬L.M.X L.e
section
variable {w w' w2:World}{g:Nat}{L:jJ}{D:DB}{Y:Nat->Prop}
theorem eV.hd'(h:eV w g L D):∃T,Blk w g #[.pointer (some (Addr.mk L.M.g 0 none)),.slice (some (Addr.mk L.e 0 none)) D.S L.c,.int .i64 D.aR] T:=h.gq▸h.hd
theorem eV.lt(h:eV w g L D):∀k,L.X k->k<w.heap.size:=by
 rintro k (rfl|rfl|a)
 ·obtain⟨T,hd⟩:=h.hd;exact hd.lt
 ·obtain⟨b,d,c,e⟩:=h.es.lt h.pos;have:b=L.e:=c;omega
 ·exact h.mem.lt k a
theorem eV.ch(h:eV w g L D)(a:Ch Y w w')(b:∀k,L.X k->¬Y k):eV w' g L D:=by
 refine⟨h.gq,?_,h.es.ch a λk e=>b k (.inr (.inl e)),h.mem.ch a λk c=>b k (.inr (.inr c)),h.ok,h.pos,h.dis⟩;obtain⟨T,hd⟩:=h.hd;exact⟨T,a.blk hd (b _ (.inl rfl))⟩
theorem eV.pu(h:eV w g L D)(a:Pu w w'):eV w' g L D:=h.ch a (by simp)
theorem eV.S64(h:eV w g L D):D.S<=64:=h.mem.dD.1
theorem eV.G5(h:eV w g L D){m:Mem}{M:eU}(hm:bV w' L.M.g M m)(c:Ch L.M.X w w')(d:∀k,M.X k->L.M.X k\/w.heap.size<=k)(f:m.S=D.mem.S):eV w' g {L with M:=M} (D.eW m)/\(∀k,jJ.X {L with M:=M} k->L.X k\/w.heap.size<=k):=by
 have i:∀k,L.X k->¬L.M.X k->¬M.X k:=λk a l n=>(d k n).elim l λo=>absurd (h.lt k a) (Nat.not_lt.2 o);have q:DB.ax (D.eW m)=D.ax:=by show List.map D.ent (List.range m.S)=List.map D.ent (List.range D.mem.S);rw[f]
 have b:DB.S (D.eW m)=D.S:=f;refine⟨⟨h.gq,?_,?_,?_,⟨λp j=>?_,h.ok.aR⟩,by rw[b];exact h.pos,h.dis.1,i _ (.inl rfl) h.dis.2.1,i _ (.inr (.inl rfl)) h.dis.2.2⟩,?_⟩
 ·obtain⟨T,hd⟩:=h.hd;refine⟨T,?_⟩;rw[b];show Blk w' L.g #[.pointer (some (Addr.mk M.g 0 none)),_,_] T;rw[hm.gq];exact c.blk hd h.dis.2.1
 ·rw[q,b];exact h.es.ch c λk e=>e▸h.dis.2.2
 ·show bV w' M.g M m;have:=hm.gq;rw[this];exact hm
 ·rw[b]at j ⊢;exact h.ok.ent p j
 ·rintro k (a|a|a)
  ·exact .inl (.inl a)
  ·exact .inl (.inr (.inl a))
  ·exact(d k a).imp (λh=>.inr (.inr h)) id
theorem eV.Gw(h:eV w g L D){x:Int}{T:TypeId}(a:br w g #[.pointer (some (Addr.mk L.M.g 0 none)),.slice (some (Addr.mk L.e 0 none)) D.S L.c,.int .i64 x] T w2)(b:0<=x/\x<=64):eV w2 g L (D.kz x):=by
 have c:=h.gq;subst c;exact⟨rfl,⟨T,a.blk⟩,h.es.ch a.ch λk e d=>h.dis.1 (by rw[<-e,d]),h.mem.ch a.ch λk f e=>h.dis.2.1 (e▸f),⟨h.ok.ent,b⟩,h.pos,h.dis⟩
theorem eV.ldE(h:eV w g L D){i:Int}(b:0<=i)(c:i<(D.S:Int)):∃p,some (Addr.mk L.e 0 none)=some p/\∀j,j<5->w.cell? ((p.add (i.toNat *5)).add j)=(enc (D.at_ i))[j]? :=by
 obtain⟨p,x,d,a,f,e⟩:=h.es.rd.ld b c;refine⟨p,d,?_⟩;have hi:i.toNat<D.S:=by omega
 rw[List.getElem?_map,List.getElem?_range hi]at a;injection a with a
 subst a;exact e
theorem DB.AD(D:DB){p:Int}(e:Ent):(D.set p e).ax=D.ax.set p.toNat e:=by
 apply List.ext_getElem?;intro i;show((List.range D.S).map (D.set p e).ent)[i]? =_;rw[List.getElem?_set,List.getElem?_map,List.getElem?_map];by_cases hi:i<D.S
 ·rw[List.getElem?_range hi];simp only[DB.set,Option.map_some];by_cases a:p.toNat=i
  ·rw[if_pos a.symm,if_pos a,if_pos (by simp;omega)]
  ·rw[if_neg (λe=>a e.symm),if_neg a]
 ·rw[List.getElem?_eq_none (by simp;omega)];simp;omega
theorem EZ(h:eV w g L D):Calls Tryz.prog 54 #[ptr L.M.g] w λe w'=>∃v,e=.returned v/\v=.int .i64 D.mem.S/\w'=w:=vL h.mem
theorem zB(h:eV w g L D):Calls Tryz.prog 56 #[ptr L.M.g] w λe w'=>∃v,e=.returned v/\v=.int .i64 D.mem.I/\Pu w w':=qi h.mem
end
end Go.Proofs.YtoghdgcmhbanbaaGreatDoor
end
section
set_option maxRecDepth 100000
namespace Go.Proofs.YtoghdgcmhbanbaaGreatDoor
open Go Go.RowKit V
open Go.IntKind (i64 u32 u64 wrap_i64 wrap_u32)
open Go.Proofs (Tryz.prog)
end Go.Proofs.YtoghdgcmhbanbaaGreatDoor
end
section
set_option maxRecDepth 100000
namespace Go.Proofs.YtoghdgcmhbanbaaGreatDoor
open Go Go.RowKit V
open Go.IntKind (i64 u32 u64 wrap_i64 wrap_u32)
open Go.Proofs (Tryz.prog)
theorem u7(q:Bool)(r:Int)(s md:Bool){R:aK}{w:World}(h:∀(a:Nat)(f:World),a=w.heap.size->f=w.alloc (.cells #[vB q,J r,vB s,vB md] 220)->∃n:Bool->World->Prop,(∃t:Int,f.cell? (((vA a).add 0).add 1)=some (J t)/\split (decide ((t:Int)<0)) (n true f) (∃u:Int,f.cell? (((vA a).add 0).add 1)=some (J u)/\n (decide ((u:Int)>63)) f))/\∀(_gv1:Nat->Value)(v:Bool),∀d,n v d->split v (R (.tuple #[O 0,J 4]) d) (∃o:Bool->World->Prop,(∃x:Bool,d.cell? ((vA a).add 3)=some (vB x)/\split x (∃y:Bool,d.cell? (((vA a).add 0).add 0)=some (vB y)/\o (!y) d) (o false d))/\∀(_gv2:Nat->Value)(z:Bool),∀b,o z b->split z (R (.tuple #[O 0,J 1]) b) (∃A:Int,b.cell? (((vA a).add 0).add 1)=some (J A)/\∀B:Int,B=(u32.wrap (BitVec.ofInt u32.bits (u32.wrap ((u32.wrap A:Int)*2 ^ 8)) ||| BitVec.ofInt u32.bits 1).toNat)->∃C:Bool,b.cell? (((vA a).add 0).add 0)=some (vB C)/\∃E:Bool,b.cell? ((vA a).add 2)=some (vB E)/\∃F:Bool,b.cell? ((vA a).add 3)=some (vB F)/\∀(p:Nat)(G:World),p=b.heap.size->G=b.alloc (.cells #[vB C,O 2,vB E,O 4,vB F,O 8] 247)->∃I:Nat->Int->Int->World->Prop,(∃m,I m B 0 G)/\∀(m:Nat)(_gv4:Nat->Value)(j c:Int),∀e,I m j c e->split (decide ((c:Int)<((3:Nat):Int))) ((0<=(c:Int)/\(c:Int)<((3:Nat):Int))/\∃H:Bool,∃K:Int,(e.cell? (((vA p).add (Int.toNat c*2)).add 0)=some (vB H)/\e.cell? (((vA p).add (Int.toNat c*2)).add 1)=some (O K))/\∀(k:Nat)(M:World),k=e.heap.size->M=e.alloc (.cells (#[vB false,O 0]) 247)->ao M (vA k) [vB H,O K] λl=>∃N:Bool,l.cell? ((vA k).add 0)=some (vB N)/\split N (∃P:Int,l.cell? ((vA k).add 1)=some (O P)/\∀Q:Int,Q=(u32.wrap (BitVec.ofInt u32.bits j ||| BitVec.ofInt u32.bits P).toNat)->∃i,i<m/\I i Q (i64.wrap (c+1)) l) (∃i,i<m/\I i j (i64.wrap (c+1)) l)) (R (.tuple #[O j,J 0]) e)))):Calls Tryz.prog 176 #[(.agg #[vB q,J r,vB s,vB md])] w (aT R):=rvc [4] (aq (.node none (.node none (.node (some ⟨[(16,.one (.bool))],(rgN 7 10)⟩) .leaf .leaf) .leaf) (.node none (.node none (.node (some ⟨[(24,.one (.bool))],(rgN 17 8)⟩) .leaf .leaf) .leaf) (aq (.node none (aq (.node none (.node (some ⟨[(4,.one (.int .u32)),(43,.one (.int .i64))],[4,6,43,44,45,46,47,48,49,50,51,52,53]⟩) .leaf .leaf) .leaf)) .leaf))))) Tryz.func176 h
end Go.Proofs.YtoghdgcmhbanbaaGreatDoor
end
section
set_option maxRecDepth 100000
namespace Go.Proofs.YtoghdgcmhbanbaaGreatDoor
open Go Go.RowKit V
open Go.IntKind (i64 u32 u64 wrap_i64 wrap_u32)
open Go.Proofs (Tryz.prog)
theorem kj(x k:Int){R:aK}{w:World}(h:∀s:Int,s=(u64.wrap (BitVec.ofInt u64.bits (u64.wrap k) &&& BitVec.ofInt u64.bits 31).toNat)->fY s λa=>fY (u64.wrap (32 - s)) λb=>R (O (u32.wrap (BitVec.ofInt u32.bits (u32.wrap ((x:Int)*2 ^ (min a u32.bits))) ||| BitVec.ofInt u32.bits ((x:Int).fdiv (2 ^ (min b u32.bits)))).toNat)) w):Calls Tryz.prog 180 #[O x,J k] w (aT R):=rvc [5] (.leaf) Tryz.func180 h
theorem yG(a n:Int){R:aK}{w:World}(h:Calls Tryz.prog 180 #[O a,J (i64.wrap (0 - n))] w λe c=>∃b:Int,e=.returned (O b)/\R (O b) c):Calls Tryz.prog 169 #[O a,J n] w (aT R):=rvc [] (.leaf) Tryz.func169 h
theorem vn(a n:Int){R:aK}{w:World}(h:fY n λb=>fY (u64.wrap (32 - n)) λc=>R (O (u32.wrap (BitVec.ofInt u32.bits ((a:Int).fdiv (2 ^ (min b u32.bits))) ||| BitVec.ofInt u32.bits (u32.wrap ((a:Int)*2 ^ (min c u32.bits)))).toNat)) w):Calls Tryz.prog 178 #[O a,(.int .u64 n)] w (aT R):=rvc [] (.leaf) Tryz.func178 h
theorem rf(B C E F G H K M N P Q S T U V W:Int){R:aK}{w:World}(h:∀(o:Nat)(p:World),o=w.heap.size->p=w.alloc (.cells (iK B C E F G H K M N P Q S T U V W) 205)->∀(q:Nat)(r:World),q=p.heap.size->r=p.alloc (.cells (Array.replicate 64 (O 0)) 235)->∀(a:Nat)(X:World),a=r.heap.size->X=r.alloc (.cells (Array.replicate 64 (O 0)) 235)->∃b:bP,∀Z:oA,Z=(some (if 64=0 then Addr.mk a 0 none else(vA a).add (0*1)))->∀an:Nat,an=64 - 0->∀az:Nat,az=64 - 0->∀aA:oA,aA=(some (if 16=0 then Addr.mk o 0 none else(vA o).add (0*1)))->∀aC:Nat,aC=16 - 0->∀aN:Nat,aN=16 - 0->∃x9:Int,∃a0,(Builtin.copy_ #[26,26] 3 #[(.slice Z an az),(.slice aA aC aN)]:Sem Value).run Tryz.prog X.drew=.ok (J x9) a0/\∃b1:bP,(∀i k,b i k->b1 i k)/\∀t:Int,t=16->∃I:Nat->Int->World->Prop,(∃m,I m t a0)/\∀(m:Nat)(_gv3:Nat->Value)(t1:Int),∀c,I m t1 c->split (decide ((t1:Int)<64)) ((0<=(i64.wrap (t1 - 15):Int)/\(i64.wrap (t1 - 15):Int)<((64:Nat):Int))/\∃j:Int,c.drew.cell? ((vA a).add (Int.toNat (i64.wrap (t1 - 15))*1))=some (O j)/\(0<=(i64.wrap (t1 - 2):Int)/\(i64.wrap (t1 - 2):Int)<((64:Nat):Int))/\∃l:Int,c.drew.cell? ((vA a).add (Int.toNat (i64.wrap (t1 - 2))*1))=some (O l)/\∃n:bP,(0<=(i64.wrap (t1 - 16):Int)/\(i64.wrap (t1 - 16):Int)<((64:Nat):Int))/\n 4 (((vA a).add (Int.toNat (i64.wrap (t1 - 16))*1)).block)/\∃a1:Int,c.drew.drew.cell? ((vA a).add (Int.toNat (i64.wrap (t1 - 16))*1))=some (O a1)/\(0<=(i64.wrap (t1 - 7):Int)/\(i64.wrap (t1 - 7):Int)<((64:Nat):Int))/\n 17 (((vA a).add (Int.toNat (i64.wrap (t1 - 7))*1)).block)/\∃a2:Int,c.drew.drew.cell? ((vA a).add (Int.toNat (i64.wrap (t1 - 7))*1))=some (O a2)/\Calls Tryz.prog 169 #[O j,J 7] c.drew.drew λe d=>∃a3:Int,e=.returned (O a3)/\Kept (aX n [0,1,2,3,4,7,10,11,14,15,16,17,19,21,24,25]) c.drew.drew d/\∃s:bP,(∀i k,n i k->s i k)/\Calls Tryz.prog 169 #[O j,J 18] d λe x=>∃a4:Int,e=.returned (O a4)/\Kept (aX s [0,1,2,3,4,10,11,14,15,16,17,19,21,24,25]) d x/\∃y:bP,(∀i k,s i k->y i k)/\Calls Tryz.prog 169 #[O l,J 17] x λe z=>∃a5:Int,e=.returned (O a5)/\Kept (aX y [0,1,2,3,4,9,10,11,12,13,14,15,16,17,18,21,24,25]) x z/\∃A:bP,(∀i k,y i k->A i k)/\Calls Tryz.prog 169 #[O l,J 19] z λe a6=>∃a7:Int,e=.returned (O a7)/\Kept (aX A [0,1,2,3,4,5,9,10,11,12,13,14,15,16,17,18,24,25]) z a6/\∃b6:bP,(∀i k,A i k->b6 i k)/\(0<=(t1:Int)/\(t1:Int)<((64:Nat):Int))/\ao a6 ((vA a).add (Int.toNat t1*1)) [O (u32.wrap ((u32.wrap ((u32.wrap (a1+(u32.wrap (BitVec.ofInt u32.bits (u32.wrap (BitVec.ofInt u32.bits a3 ^^^ BitVec.ofInt u32.bits a4).toNat) ^^^ BitVec.ofInt u32.bits ((j:Int).fdiv (2 ^ 3))).toNat)))+a2))+(u32.wrap (BitVec.ofInt u32.bits (u32.wrap (BitVec.ofInt u32.bits a5 ^^^ BitVec.ofInt u32.bits a7).toNat) ^^^ BitVec.ofInt u32.bits ((l:Int).fdiv (2 ^ 10))).toNat)))] λa8=>∃b7:bP,(∀i k,b6 i k->b7 i k)/\∀t2:Int,t2=(i64.wrap (t1+1))->∃m1,m1<m/\I m1 t2 a8) (∃f:Array Value,(f.size=64/\∀i u,f[i]? =some u->c.cell? ((vA a).add i)=some u)/\f.size=64/\(∀v∈f.toList,one? v True)/\ao c (vA q) f.toList λd=>∃r0:Array Value,(r0.size=64/\∀i u,r0[i]? =some u->d.cell? ((vA q).add i)=some u)/\R (.agg r0) d)):Calls Tryz.prog 168 #[(.agg (iK B C E F G H K M N P Q S T U V W))] w (aT R):=rvc [4] (aq (aq (aq (.node none (aq (.node none (.node (some ⟨[(4,.one (.int .i64))],[4,5,6,10,11,12,13,14,15,16,17,18,19,20,21,22,23,24,25,26,27,28,29,30,31,32,33,34,35,36,37,38,39,40,41,42,43,44,45,46,47,48,49,50]⟩) .leaf .leaf) .leaf)) .leaf)))) Tryz.func168 h
theorem yJ(H K M N P Q S T U V W X Z an az aA aC aN a0 a1 a2 a3 a4 a5:Int){R:aK}{w:World}(h:∀(t:Nat)(x:World),t=w.heap.size->x=w.alloc (.cells (q8a H K M N P Q S T) 54)->∀(a6:Nat)(y:World),a6=x.heap.size->y=x.alloc (.cells (iK U V W X Z an az aA aC aN a0 a1 a2 a3 a4 a5) 205)->∀(z:Nat)(u:World),z=y.heap.size->u=y.alloc (.cells (z8a) 54)->∃a7 a8 a9 ba bb bc bd bg:Int,ar u (vA t) 0 [O a7,O a8,O a9,O ba,O bb,O bc,O bd,O bg]/\∀(a:Nat)(bl:World),a=u.heap.size->bl=u.alloc (.cells (z8a) 54)->ao bl (vA a) (q8l a7 a8 a9 ba bb bc bd bg) λbs=>∃bA bC bN b0 b8 b9 ca cb cc cf cg cj ck ct cA cC:Int,ar bs (vA a6) 0 [O bA,O bC,O bN,O b0,O b8,O b9,O ca,O cb,O cc,O cf,O cg,O cj,O ck,O ct,O cA,O cC]/\Calls Tryz.prog 168 #[(.agg (iK bA bC bN b0 b8 b9 ca cb cc cf cg cj ck ct cA cC))] bs λe e6=>∃cM:Array Value,e=.returned (.agg cM)/\∃I:Nat->Int->World->Prop,(∃m,I m 0 e6)/\∀(m:Nat)(_gv4:Nat->Value)(d:Int),∀f,I m d f->split (decide ((d:Int)<64)) ((0<=(d:Int)/\(d:Int)<((64:Nat):Int))/\∃cN:Int,cM[Int.toNat d*1]? =some (O cN)/\(0<=(0:Int)/\(0:Int)<((8:Nat):Int))/\∃p:Int,f.drew.cell? ((vA a).add (Int.toNat 0*1))=some (O p)/\(0<=(4:Int)/\(4:Int)<((8:Nat):Int))/\∃q:Int,f.drew.cell? ((vA a).add (Int.toNat 4*1))=some (O q)/\∃b:bP,(0<=(7:Int)/\(7:Int)<((8:Nat):Int))/\b 1 (((vA a).add (Int.toNat 7*1)).block)/\∃c0:Int,f.drew.drew.cell? ((vA a).add (Int.toNat 7*1))=some (O c0)/\(0<=(5:Int)/\(5:Int)<((8:Nat):Int))/\b 13 (((vA a).add (Int.toNat 5*1)).block)/\∃c1:Int,f.drew.drew.cell? ((vA a).add (Int.toNat 5*1))=some (O c1)/\(0<=(6:Int)/\(6:Int)<((8:Nat):Int))/\b 18 (((vA a).add (Int.toNat 6*1)).block)/\∃c2:Int,f.drew.drew.cell? ((vA a).add (Int.toNat 6*1))=some (O c2)/\(0<=(d:Int)/\(d:Int)<((64:Nat):Int))/\b 24 (((vA 1).add (Int.toNat d*1)).block)/\∃c3:Int,f.drew.drew.cell? ((vA 1).add (Int.toNat d*1))=some (O c3)/\Calls Tryz.prog 169 #[O q,J 6] f.drew.drew λe j=>∃c4:Int,e=.returned (O c4)/\Kept (aX b [0,1,4,7,11,12,13,14,15,16,17,18,19,20,22,23,24,26]) f.drew.drew j/\∃s:bP,(∀i k,b i k->s i k)/\Calls Tryz.prog 169 #[O q,J 11] j λe n=>∃c5:Int,e=.returned (O c5)/\Kept (aX s [0,1,7,11,12,13,14,15,16,17,18,19,20,22,23,24,26]) j n/\∃A:bP,(∀i k,s i k->A i k)/\Calls Tryz.prog 169 #[O q,J 25] n λe o=>∃c6:Int,e=.returned (O c6)/\Kept (aX A [0,1,6,11,12,13,14,15,16,17,18,19,20,22,23,24,26]) n o/\∃b3:bP,(∀i k,A i k->b3 i k)/\∀t1:Int,t1=(u32.wrap ((u32.wrap ((u32.wrap ((u32.wrap (c0+(u32.wrap (BitVec.ofInt u32.bits (u32.wrap (BitVec.ofInt u32.bits c4 ^^^ BitVec.ofInt u32.bits c5).toNat) ^^^ BitVec.ofInt u32.bits c6).toNat)))+(u32.wrap (BitVec.ofInt u32.bits (u32.wrap (BitVec.ofInt u32.bits q &&& BitVec.ofInt u32.bits c1).toNat) ^^^ BitVec.ofInt u32.bits (u32.wrap (BitVec.ofInt u32.bits (u32.wrap (BitVec.ofInt u32.bits (if u32.signed then -1 else u32.max) ^^^ BitVec.ofInt u32.bits q).toNat) &&& BitVec.ofInt u32.bits c2).toNat)).toNat)))+c3))+cN))->∃r:bP,(0<=(1:Int)/\(1:Int)<((8:Nat):Int))/\r 10 (((vA a).add (Int.toNat 1*1)).block)/\∃c7:Int,o.drew.cell? ((vA a).add (Int.toNat 1*1))=some (O c7)/\(0<=(2:Int)/\(2:Int)<((8:Nat):Int))/\r 14 (((vA a).add (Int.toNat 2*1)).block)/\∃c8:Int,o.drew.cell? ((vA a).add (Int.toNat 2*1))=some (O c8)/\(0<=(1:Int)/\(1:Int)<((8:Nat):Int))/\r 18 (((vA a).add (Int.toNat 1*1)).block)/\∃c9:Int,o.drew.cell? ((vA a).add (Int.toNat 1*1))=some (O c9)/\(0<=(2:Int)/\(2:Int)<((8:Nat):Int))/\r 20 (((vA a).add (Int.toNat 2*1)).block)/\∃da:Int,o.drew.cell? ((vA a).add (Int.toNat 2*1))=some (O da)/\Calls Tryz.prog 169 #[O p,J 2] o.drew λe B=>∃dc:Int,e=.returned (O dc)/\Kept (aX r [2,5,8,9,10,11,12,13,14,15,16,17,18,19,20,21,22]) o.drew B/\∃C:bP,(∀i k,r i k->C i k)/\Calls Tryz.prog 169 #[O p,J 13] B λe E=>∃dd:Int,e=.returned (O dd)/\Kept (aX C [5,8,9,10,11,12,13,14,15,16,17,18,19,20,21,22]) B E/\∃F:bP,(∀i k,C i k->F i k)/\Calls Tryz.prog 169 #[O p,J 22] E λe l=>∃dk:Int,e=.returned (O dk)/\Kept (aX F [4,8,9,10,11,12,13,14,15,16,17,18,19,20,21,22]) E l/\∃b7:bP,(∀i k,F i k->b7 i k)/\∀t2:Int,t2=(u32.wrap ((u32.wrap (BitVec.ofInt u32.bits (u32.wrap (BitVec.ofInt u32.bits dc ^^^ BitVec.ofInt u32.bits dd).toNat) ^^^ BitVec.ofInt u32.bits dk).toNat)+(u32.wrap (BitVec.ofInt u32.bits (u32.wrap (BitVec.ofInt u32.bits (u32.wrap (BitVec.ofInt u32.bits p &&& BitVec.ofInt u32.bits c7).toNat) ^^^ BitVec.ofInt u32.bits (u32.wrap (BitVec.ofInt u32.bits p &&& BitVec.ofInt u32.bits c8).toNat)).toNat) ^^^ BitVec.ofInt u32.bits (u32.wrap (BitVec.ofInt u32.bits c9 &&& BitVec.ofInt u32.bits da).toNat)).toNat)))->(0<=(0:Int)/\(0:Int)<((8:Nat):Int))/\∃dp:Int,l.cell? ((vA a).add (Int.toNat 0*1))=some (O dp)/\(0<=(1:Int)/\(1:Int)<((8:Nat):Int))/\∃dr:Int,l.cell? ((vA a).add (Int.toNat 1*1))=some (O dr)/\(0<=(2:Int)/\(2:Int)<((8:Nat):Int))/\∃dA:Int,l.cell? ((vA a).add (Int.toNat 2*1))=some (O dA)/\(0<=(3:Int)/\(3:Int)<((8:Nat):Int))/\∃dC:Int,l.cell? ((vA a).add (Int.toNat 3*1))=some (O dC)/\(0<=(4:Int)/\(4:Int)<((8:Nat):Int))/\∃dN:Int,l.cell? ((vA a).add (Int.toNat 4*1))=some (O dN)/\(0<=(5:Int)/\(5:Int)<((8:Nat):Int))/\∃dT:Int,l.cell? ((vA a).add (Int.toNat 5*1))=some (O dT)/\(0<=(6:Int)/\(6:Int)<((8:Nat):Int))/\∃ea:Int,l.cell? ((vA a).add (Int.toNat 6*1))=some (O ea)/\ao l (vA a) [O (u32.wrap (t1+t2)),O dp,O dr,O dA,O (u32.wrap (dC+t1)),O dN,O dT,O ea] λe7=>∃m1,m1<m/\I m1 (i64.wrap (d+1)) e7) (∃G:Nat->Int->World->Prop,(∃v,G v 0 f)/\∀(v:Nat)(_gv5:Nat->Value)(c:Int),∀j,G v c j->split (decide ((c:Int)<8)) (∃b:bP,(0<=(c:Int)/\(c:Int)<((8:Nat):Int))/\b 2 (((vA a).add (Int.toNat c*1)).block)/\∃eb:Int,j.drew.cell? ((vA a).add (Int.toNat c*1))=some (O eb)/\(0<=(c:Int)/\(c:Int)<((8:Nat):Int))/\b 5 (((vA t).add (Int.toNat c*1)).block)/\∃ec:Int,j.drew.cell? ((vA t).add (Int.toNat c*1))=some (O ec)/\(0<=(c:Int)/\(c:Int)<((8:Nat):Int))/\ao j.drew ((vA a).add (Int.toNat c*1)) [O (u32.wrap (eb+ec))] λn=>∃s:bP,(∀i k,b i k->s i k)/\∃m3,m3<v/\G m3 (i64.wrap (c+1)) n) (∃ed ee ei er et ey eL eM:Int,ar j (vA a) 0 [O ed,O ee,O ei,O er,O et,O ey,O eL,O eM]/\ao j (vA z) (q8l ed ee ei er et ey eL eM) λn=>∃eN eS e0 e1 e2 e3 e4 e5:Int,ar n (vA z) 0 [O eN,O eS,O e0,O e1,O e2,O e3,O e4,O e5]/\R (.agg (q8a eN eS e0 e1 e2 e3 e4 e5)) n))):Calls Tryz.prog 138 #[(.agg (q8a H K M N P Q S T)),(.agg (iK U V W X Z an az aA aC aN a0 a1 a2 a3 a4 a5))] w (aT R):=rvc [10,11] (aq (aq (.node none (aq (.node none (.node (some ⟨[(16,.one (.int .i64))],[6,7,8,9,10,11,16,17,18,19,20,21,22,23,24,25,26,27,28,29,30,31,32,33,34,35,36,37,38,39,40,41,42,43,44,45,46,47,48,49,50,51,52,53,54,55,56,57,58,59,60,61,62,63,64,65,66,67,68,69,70,71,72,73,74,75,76,77,78,79,80,81,82,83,84,85,86,87,88,89,90,91,92,93,94,95,96]⟩) .leaf .leaf) .leaf)) (.node none (aq (.node none (.node (some ⟨[(97,.one (.int .i64))],[12,97,98,99,100,101,102,103,104,105,106,107,108]⟩) .leaf .leaf) .leaf)) .leaf)))) Tryz.func138 h
theorem uF(U V W X Z an az aA aC aN a0 a1 a2 a3 a4 a5 a6 a7 a8 a9 ba bb bc bd:Int){R:aK}{w:World}(h:∀(B:Nat)(H:World),B=w.heap.size->H=w.alloc (.cells (q8a U V W X Z an az aA) 54)->∀(bg:Nat)(J:World),bg=H.heap.size->J=H.alloc (.cells (iK aC aN a0 a1 a2 a3 a4 a5 a6 a7 a8 a9 ba bb bc bd) 205)->∀(K:Nat)(M:World),K=J.heap.size->M=J.alloc (.cells (z8a) 54)->∀(j:Nat)(bl:World),j=M.heap.size->bl=M.alloc (.cells (Array.replicate 64 (O 0)) 235)->∀t:Int,t=0->∃I:Nat->Int->World->Prop,(∃m,I m t bl)/\∀(m:Nat)(_gv4:Nat->Value)(t1:Int),∀f,I m t1 f->split (decide ((t1:Int)<64)) (split (decide ((t1:Int)<16)) ((0<=(t1:Int)/\(t1:Int)<((16:Nat):Int))/\∃bs:Int,f.cell? ((vA bg).add (Int.toNat t1*1))=some (O bs)/\(0<=(t1:Int)/\(t1:Int)<((64:Nat):Int))/\ao f ((vA j).add (Int.toNat t1*1)) [O bs] λq=>∀t2:Int,t2=(i64.wrap (t1+1))->∃x,x<m/\I x t2 q) ((0<=(i64.wrap (t1 - 15):Int)/\(i64.wrap (t1 - 15):Int)<((64:Nat):Int))/\∃C:Int,f.cell? ((vA j).add (Int.toNat (i64.wrap (t1 - 15))*1))=some (O C)/\(0<=(i64.wrap (t1 - 2):Int)/\(i64.wrap (t1 - 2):Int)<((64:Nat):Int))/\∃E:Int,f.cell? ((vA j).add (Int.toNat (i64.wrap (t1 - 2))*1))=some (O E)/\∃b:bP,(0<=(i64.wrap (t1 - 7):Int)/\(i64.wrap (t1 - 7):Int)<((64:Nat):Int))/\b 12 (((vA j).add (Int.toNat (i64.wrap (t1 - 7))*1)).block)/\∃bA:Int,f.drew.cell? ((vA j).add (Int.toNat (i64.wrap (t1 - 7))*1))=some (O bA)/\(0<=(i64.wrap (t1 - 16):Int)/\(i64.wrap (t1 - 16):Int)<((64:Nat):Int))/\b 26 (((vA j).add (Int.toNat (i64.wrap (t1 - 16))*1)).block)/\∃bC:Int,f.drew.cell? ((vA j).add (Int.toNat (i64.wrap (t1 - 16))*1))=some (O bC)/\Calls Tryz.prog 178 #[O E,(.int .u64 17)] f.drew λe q=>∃bN:Int,e=.returned (O bN)/\Kept (aX b [0,3,6,7,9,10,11,12,14,16,19,20,23,24,25,26]) f.drew q/\∃n:bP,(∀i k,b i k->n i k)/\Calls Tryz.prog 178 #[O E,(.int .u64 19)] q λe y=>∃b0:Int,e=.returned (O b0)/\Kept (aX n [0,6,7,9,10,11,12,14,16,19,20,23,24,25,26]) q y/\∃r:bP,(∀i k,n i k->r i k)/\Calls Tryz.prog 178 #[O C,(.int .u64 7)] y λe c=>∃b8:Int,e=.returned (O b8)/\Kept (aX r [0,5,6,7,8,9,10,11,12,13,16,19,20,23,24,25,26]) y c/\∃z:bP,(∀i k,r i k->z i k)/\Calls Tryz.prog 178 #[O C,(.int .u64 18)] c λe d=>∃b9:Int,e=.returned (O b9)/\Kept (aX z [0,1,5,6,7,8,9,10,11,12,13,19,20,23,24,25,26]) c d/\∃o:bP,(∀i k,z i k->o i k)/\(0<=(t1:Int)/\(t1:Int)<((64:Nat):Int))/\ao d ((vA j).add (Int.toNat t1*1)) [O (u32.wrap ((u32.wrap ((u32.wrap ((u32.wrap (BitVec.ofInt u32.bits (u32.wrap (BitVec.ofInt u32.bits bN ^^^ BitVec.ofInt u32.bits b0).toNat) ^^^ BitVec.ofInt u32.bits ((E:Int).fdiv (2 ^ 10))).toNat)+bA))+(u32.wrap (BitVec.ofInt u32.bits (u32.wrap (BitVec.ofInt u32.bits b8 ^^^ BitVec.ofInt u32.bits b9).toNat) ^^^ BitVec.ofInt u32.bits ((C:Int).fdiv (2 ^ 3))).toNat)))+bC))] λl=>∃A:bP,(∀i k,o i k->A i k)/\∀t2:Int,t2=(i64.wrap (t1+1))->∃x,x<m/\I x t2 l)) (∃ca cb cc cf cg cj ck ct:Int,ar f (vA B) 0 [O ca,O cb,O cc,O cf,O cg,O cj,O ck,O ct]/\∀(a:Nat)(q:World),a=f.heap.size->q=f.alloc (.cells (z8a) 54)->ao q (vA a) (q8l ca cb cc cf cg cj ck ct) λy=>∀t2:Int,t2=0->∃N:Nat->Int->World->Prop,(∃F,N F t2 y)/\∀(F:Nat)(_gv6:Nat->Value)(t3:Int),∀c,N F t3 c->split (decide ((t3:Int)<64)) ((0<=(0:Int)/\(0:Int)<((8:Nat):Int))/\∃u:Int,c.cell? ((vA a).add (Int.toNat 0*1))=some (O u)/\(0<=(4:Int)/\(4:Int)<((8:Nat):Int))/\∃v:Int,c.cell? ((vA a).add (Int.toNat 4*1))=some (O v)/\∃b:bP,(0<=(7:Int)/\(7:Int)<((8:Nat):Int))/\b 1 (((vA a).add (Int.toNat 7*1)).block)/\∃cA:Int,c.drew.cell? ((vA a).add (Int.toNat 7*1))=some (O cA)/\(0<=(5:Int)/\(5:Int)<((8:Nat):Int))/\b 13 (((vA a).add (Int.toNat 5*1)).block)/\∃cC:Int,c.drew.cell? ((vA a).add (Int.toNat 5*1))=some (O cC)/\(0<=(6:Int)/\(6:Int)<((8:Nat):Int))/\b 18 (((vA a).add (Int.toNat 6*1)).block)/\∃cM:Int,c.drew.cell? ((vA a).add (Int.toNat 6*1))=some (O cM)/\(0<=(t3:Int)/\(t3:Int)<((64:Nat):Int))/\b 24 (((vA 2).add (Int.toNat t3*1)).block)/\∃cN:Int,c.drew.cell? ((vA 2).add (Int.toNat t3*1))=some (O cN)/\(0<=(t3:Int)/\(t3:Int)<((64:Nat):Int))/\b 28 (((vA j).add (Int.toNat t3*1)).block)/\∃c0:Int,c.drew.cell? ((vA j).add (Int.toNat t3*1))=some (O c0)/\Calls Tryz.prog 178 #[O v,(.int .u64 6)] c.drew λe d=>∃c1:Int,e=.returned (O c1)/\Kept (aX b [0,1,4,7,11,12,13,14,15,16,17,18,19,20,22,23,24,26,27,28]) c.drew d/\∃n:bP,(∀i k,b i k->n i k)/\Calls Tryz.prog 178 #[O v,(.int .u64 11)] d λe l=>∃c2:Int,e=.returned (O c2)/\Kept (aX n [0,1,7,11,12,13,14,15,16,17,18,19,20,22,23,24,26,27,28]) d l/\∃r:bP,(∀i k,n i k->r i k)/\Calls Tryz.prog 178 #[O v,(.int .u64 25)] l λe s=>∃c3:Int,e=.returned (O c3)/\Kept (aX r [0,1,6,11,12,13,14,15,16,17,18,19,20,22,23,24,26,27,28]) l s/\∃z:bP,(∀i k,r i k->z i k)/\∀t11:Int,t11=(u32.wrap ((u32.wrap ((u32.wrap ((u32.wrap (cA+(u32.wrap (BitVec.ofInt u32.bits (u32.wrap (BitVec.ofInt u32.bits c1 ^^^ BitVec.ofInt u32.bits c2).toNat) ^^^ BitVec.ofInt u32.bits c3).toNat)))+(u32.wrap (BitVec.ofInt u32.bits (u32.wrap (BitVec.ofInt u32.bits v &&& BitVec.ofInt u32.bits cC).toNat) ^^^ BitVec.ofInt u32.bits (u32.wrap (BitVec.ofInt u32.bits (u32.wrap (BitVec.ofInt u32.bits (if u32.signed then -1 else u32.max) ^^^ BitVec.ofInt u32.bits v).toNat) &&& BitVec.ofInt u32.bits cM).toNat)).toNat)))+cN))+c0))->∃o:bP,(0<=(1:Int)/\(1:Int)<((8:Nat):Int))/\o 10 (((vA a).add (Int.toNat 1*1)).block)/\∃c4:Int,s.drew.cell? ((vA a).add (Int.toNat 1*1))=some (O c4)/\(0<=(2:Int)/\(2:Int)<((8:Nat):Int))/\o 14 (((vA a).add (Int.toNat 2*1)).block)/\∃c5:Int,s.drew.cell? ((vA a).add (Int.toNat 2*1))=some (O c5)/\(0<=(1:Int)/\(1:Int)<((8:Nat):Int))/\o 18 (((vA a).add (Int.toNat 1*1)).block)/\∃c6:Int,s.drew.cell? ((vA a).add (Int.toNat 1*1))=some (O c6)/\(0<=(2:Int)/\(2:Int)<((8:Nat):Int))/\o 20 (((vA a).add (Int.toNat 2*1)).block)/\∃c7:Int,s.drew.cell? ((vA a).add (Int.toNat 2*1))=some (O c7)/\Calls Tryz.prog 178 #[O u,(.int .u64 2)] s.drew λe P=>∃c8:Int,e=.returned (O c8)/\Kept (aX o [2,5,8,9,10,11,12,13,14,15,16,17,18,19,20,21,22]) s.drew P/\∃A:bP,(∀i k,o i k->A i k)/\Calls Tryz.prog 178 #[O u,(.int .u64 13)] P λe Q=>∃c9:Int,e=.returned (O c9)/\Kept (aX A [5,8,9,10,11,12,13,14,15,16,17,18,19,20,21,22]) P Q/\∃S:bP,(∀i k,A i k->S i k)/\Calls Tryz.prog 178 #[O u,(.int .u64 22)] Q λe p=>∃da:Int,e=.returned (O da)/\Kept (aX S [4,8,9,10,11,12,13,14,15,16,17,18,19,20,21,22]) Q p/\∃b7:bP,(∀i k,S i k->b7 i k)/\∀t21:Int,t21=(u32.wrap ((u32.wrap (BitVec.ofInt u32.bits (u32.wrap (BitVec.ofInt u32.bits c8 ^^^ BitVec.ofInt u32.bits c9).toNat) ^^^ BitVec.ofInt u32.bits da).toNat)+(u32.wrap (BitVec.ofInt u32.bits (u32.wrap (BitVec.ofInt u32.bits (u32.wrap (BitVec.ofInt u32.bits u &&& BitVec.ofInt u32.bits c4).toNat) ^^^ BitVec.ofInt u32.bits (u32.wrap (BitVec.ofInt u32.bits u &&& BitVec.ofInt u32.bits c5).toNat)).toNat) ^^^ BitVec.ofInt u32.bits (u32.wrap (BitVec.ofInt u32.bits c6 &&& BitVec.ofInt u32.bits c7).toNat)).toNat)))->(0<=(0:Int)/\(0:Int)<((8:Nat):Int))/\∃dc:Int,p.cell? ((vA a).add (Int.toNat 0*1))=some (O dc)/\(0<=(1:Int)/\(1:Int)<((8:Nat):Int))/\∃dd:Int,p.cell? ((vA a).add (Int.toNat 1*1))=some (O dd)/\(0<=(2:Int)/\(2:Int)<((8:Nat):Int))/\∃dk:Int,p.cell? ((vA a).add (Int.toNat 2*1))=some (O dk)/\(0<=(3:Int)/\(3:Int)<((8:Nat):Int))/\∃dp:Int,p.cell? ((vA a).add (Int.toNat 3*1))=some (O dp)/\(0<=(4:Int)/\(4:Int)<((8:Nat):Int))/\∃dr:Int,p.cell? ((vA a).add (Int.toNat 4*1))=some (O dr)/\(0<=(5:Int)/\(5:Int)<((8:Nat):Int))/\∃dA:Int,p.cell? ((vA a).add (Int.toNat 5*1))=some (O dA)/\(0<=(6:Int)/\(6:Int)<((8:Nat):Int))/\∃dC:Int,p.cell? ((vA a).add (Int.toNat 6*1))=some (O dC)/\ao p (vA a) [O (u32.wrap (t11+t21)),O dc,O dd,O dk,O (u32.wrap (dp+t11)),O dr,O dA,O dC] λe3=>∀t4:Int,t4=(i64.wrap (t3+1))->∃m3,m3<F/\N m3 t4 e3) (∀i:Int,i=0->∃T:Nat->Int->World->Prop,(∃G,T G i c)/\∀(G:Nat)(_gv7:Nat->Value)(i1:Int),∀d,T G i1 d->split (decide ((i1:Int)<8)) (∃b:bP,(0<=(i1:Int)/\(i1:Int)<((8:Nat):Int))/\b 3 (((vA a).add (Int.toNat i1*1)).block)/\∃dN:Int,d.drew.cell? ((vA a).add (Int.toNat i1*1))=some (O dN)/\(0<=(i1:Int)/\(i1:Int)<((8:Nat):Int))/\b 6 (((vA B).add (Int.toNat i1*1)).block)/\∃dT:Int,d.drew.cell? ((vA B).add (Int.toNat i1*1))=some (O dT)/\(0<=(i1:Int)/\(i1:Int)<((8:Nat):Int))/\ao d.drew ((vA a).add (Int.toNat i1*1)) [O (u32.wrap (dN+dT))] λl=>∃n:bP,(∀i k,b i k->n i k)/\∀i2:Int,i2=(i64.wrap (i1+1))->∃m5,m5<G/\T m5 i2 l) (∃ea eb ec ed ee ei er et:Int,ar d (vA a) 0 [O ea,O eb,O ec,O ed,O ee,O ei,O er,O et]/\ao d (vA K) (q8l ea eb ec ed ee ei er et) λl=>∃ey eL eM eN eS e0 e1 e2:Int,ar l (vA K) 0 [O ey,O eL,O eM,O eN,O eS,O e0,O e1,O e2]/\R (.agg (q8a ey eL eM eN eS e0 e1 e2)) l)))):Calls Tryz.prog 160 #[(.agg (q8a U V W X Z an az aA)),(.agg (iK aC aN a0 a1 a2 a3 a4 a5 a6 a7 a8 a9 ba bb bc bd))] w (aT R):=rvc [6,10,13,14,15] (aq (aq (.node none (aq (.node none (.node (some ⟨[(6,.one (.int .i64))],[6,7,8,16,17,18,19,20,21,22,23,24,25,26,27,28,29,30,31,32,33,34,35,36,37,38,39,40,41,42,43,44,45,46,47,48,49,50,51,52,53,54,55,56,57,58,59,60,61,62,63]⟩) .leaf .leaf) .leaf)) (aq (.node none (aq (.node none (.node (some ⟨[(10,.one (.int .i64))],[10,11,12,13,14,65,66,67,68,69,70,71,72,73,74,75,76,77,78,79,80,81,82,83,84,85,86,87,88,89,90,91,92,93,94,95,96,97,98,99,100,101,102,103,104,105,106,107,108,109,110,111,112,113,114,115,116,117,118,119,120,121,122,123,124,125,126,127,128,129,130,131,132,133,134,135,136,137,138,139,140,141,142,143,144,145,146]⟩) .leaf .leaf) .leaf)) (.node none (aq (.node none (.node (some ⟨[(15,.one (.int .i64))],[15,147,148,149,150,151,152,153,154,155,156,157,158,159]⟩) .leaf .leaf) .leaf)) .leaf)))))) Tryz.func160 h
theorem yI {R:aK}{w:World}(h:∀(a:Nat)(b:World),a=w.heap.size->b=w.alloc (.cells (z8a) 54)->ao b (vA a) (q8l 1779033703 3144134277 1013904242 2773480762 1359893119 2600822924 528734635 1541459225) λc=>∃d e f i j k l n:Int,ar c (vA a) 0 [O d,O e,O f,O i,O j,O k,O l,O n]/\R (.agg (q8a d e f i j k l n)) c):Calls Tryz.prog 172 #[] w (aT R):=rvc [] (.leaf) Tryz.func172 h
theorem uD {R:aK}{w:World}(h:∀(a:Nat)(b:World),a=w.heap.size->b=w.alloc (.cells (z8a) 54)->ao b (vA a) (q8l 1779033703 3144134277 1013904242 2773480762 1359893119 2600822924 528734635 1541459225) λc=>∃d e f i j k l n:Int,ar c (vA a) 0 [O d,O e,O f,O i,O j,O k,O l,O n]/\R (.agg (q8a d e f i j k l n)) c):Calls Tryz.prog 156 #[] w (aT R):=rvc [] (.leaf) Tryz.func156 h
end Go.Proofs.YtoghdgcmhbanbaaGreatDoor
end
section
set_option maxRecDepth 10000
set_option maxHeartbeats 1000000
namespace Go.Proofs.YtoghdgcmhbanbaaGreatDoor
open Go Go.RowKit V
open Go.IntKind (i64 u32 u64 wrap_i64 wrap_u32)
theorem sW:S1 Tryz.prog 26 22 (O 0) 4:=S1.of (by kernel_rfl) (by kernel_rfl) rfl
theorem sL:SN Tryz.prog 26 22 (O 0) 1 4:=sW.sn
theorem pE {w:World}(x k:Int)(a: -31<=k/\k<= -1):
 Calls Tryz.prog 180 #[O x,J k] w λe w'=>∃v,e=.returned v/\v=.int .u32 (mV x (-k))/\Pu w w':=by
 refine kj _ _ ?_;have b:=Mr a;have c:=Ch.refl (λ_=>False) w;rintro _ rfl;refine ij (by(rw[b];omega)) (ij (by(rw[IntKind.wrap_u64];omega)) ?_);exact⟨congrArg (Value.int .u32) (by rw[b];exact rot_eq a),c⟩
theorem jk {w:World}(b n:Int)(f:1<=n/\n<=31):
 Calls Tryz.prog 169 #[O b,J n] w λe w'=>∃v,e=.returned v/\v=.int .u32 (mV b n)/\Pu w w':=by
 refine yG _ _ ?_;have c:i64.wrap (0 - n)= -n:=by rw[aa (by omega)];omega
 have a:=Ch.refl (λ_=>False) w;refine Calls.mono (pE _ _ (by rw[c];omega)) ?_;rintro e h ⟨_,rfl,rfl,d⟩;refine⟨_,rfl,?_⟩;have a:=Ch.pu a d;exact⟨congrArg (Value.int .u32) (by rw[c,Int.neg_neg]),a⟩
theorem gg {w:World}(a n:Int)(d:1<=n/\n<=31):
 Calls Tryz.prog 178 #[O a,(.int .u64 n)] w λe w'=>∃v,e=.returned v/\v=.int .u32 (mV a n)/\Pu w w':=by
 refine vn _ _ ?_;have b:u64.wrap (32 - n)=32 - n:=dz (by omega);have c:=Ch.refl (λ_=>False) w;refine ij (by omega) (ij (by omega) ?_);exact⟨congrArg (Value.int .u32) (by rw[b];rfl),c⟩
theorem ES {w:World}(p q r s t u x y z A B C E F G H:Int):
 Calls Tryz.prog 168 #[(.agg (iK p q r s t u x y z A B C E F G H))] w λe w'=>∃v,e=.returned v/\v=.agg (bD (ae [p,q,r,s,t,u,x,y,z,A,B,C,E,F,G,H] 48))/\Pu w w':=by
 refine rf _ _ _ _ _ _ _ _ _ _ _ _ _ _ _ _ ?_;obtain⟨n,Q⟩:∃n,n= [p,q,r,s,t,u,x,y,z,A,B,C,E,F,G,H]:=⟨_,rfl⟩;have f:n.length=16:=by rw[Q];rfl
 have b:=Ch.refl (λ_=>False) w;refine mkd λS wv T=>?_;have c:=T.blk;have b:=Ch.made b T;refine mkd λU aC I=>?_;have aN:=I.lo b;have a2:=I.ne c;have d:Blk aC U (bD (List.replicate 64 0)) _:=I.blk.cast (jz _ _);have b:=Ch.made b I;have c:=Made.old I c;refine mkd λV R j=>?_;have X:=j.lo b;have an:=j.ne c;have az:=j.ne d;have a:Blk R V (bD (List.replicate 64 0)) _:=j.blk.cast (jz _ _);refine⟨bXU [] [] R.drew (λ_=>False),?_⟩;rintro _ rfl _ rfl _ rfl;rintro _ rfl _ rfl _ rfl;have a:=Blk.drew a;have c:=Blk.drew (Made.old j c);have c:Blk R.drew S (bD [p,q,r,s,t,u,x,y,z,A,B,C,E,F,G,H]) _:=c.cast (by rfl);refine AI sW a (o:=0) rfl (by(simp;done)) (aD.Nk (Z:=λ_=>True) c trivial rfl (by(simp;done)) (by(simp;done)) (by(simp;done))) (by(simp;done)) λa3 J=>?_;have a:=J.blk;refine bXU.grow J.ch ?_;rintro _ rfl;have b:=Ch.call (Ch.drew (Ch.made b j)) J.ch (by exact λk e=>.inr (e▸X));have c:=Ch.blk J.ch c (an);have d:=Ch.blk J.ch (Blk.drew (Made.old j d)) (az);refine⟨λmz t1 W=>mz=(64 - t1).toNat/\(16<=t1/\t1<=64)/\Ch (λ_=>False) w W/\Blk W S (bD ([p,q,r,s,t,u,x,y,z,A,B,C,E,F,G,H])) 205/\Blk W U (bD (List.replicate 64 0)) 235/\Blk W V (bD (ae n (t1.toNat - 16))) 235,⟨_,rfl,(by omega),b,c,d,a.cast (congrArg bD (by subst Q;rfl))⟩,?_⟩;rintro _ _ t1 a0 ⟨rfl,h0,b,c,d,a⟩;refine af (λc1=>?_) (λc1=>?_)
 ·refine⟨by(simp only[wrap_i64];omega),?_⟩;have a:=Blk.drew a;refine⟨_,a.gG (i:=(i64.wrap (t1 - 15))) (by(rw[bU f];simp only[wrap_i64];omega)),by(simp only[wrap_i64];omega),_,a.gG (i:=(i64.wrap (t1 - 2))) (by(rw[bU f];simp only[wrap_i64];omega)),?_⟩;refine⟨bXU [4,17] [] a0.drew.drew (λ_=>False),?_⟩;have a:=Blk.drew a;refine⟨by(simp only[wrap_i64];omega),.inr ⟨by decide,bX.ld a (λh=>h) _⟩,_,a.gG (i:=(i64.wrap (t1 - 16))) (by(rw[bU f];simp only[wrap_i64];omega)),by(simp only[wrap_i64];omega),.inr ⟨by decide,bX.ld a (λh=>h) _⟩,_,a.gG (i:=(i64.wrap (t1 - 7))) (by(rw[bU f];simp only[wrap_i64];omega)),?_⟩;refine Calls.mono (jk _ _ (by omega)) ?_;rintro e a1 ⟨_,rfl,rfl,K⟩;refine⟨_,rfl,?_⟩;refine bXU.cV K (by decide) ?_;refine Calls.mono (jk _ _ (by omega)) ?_;rintro e a4 ⟨_,rfl,rfl,M⟩;refine⟨_,rfl,?_⟩;refine bXU.cV M (by decide) ?_;refine Calls.mono (jk _ _ (by omega)) ?_;rintro e a5 ⟨_,rfl,rfl,N⟩;refine⟨_,rfl,?_⟩;refine bXU.cV N (by decide) ?_;refine Calls.mono (jk _ _ (by omega)) ?_;rintro e a6 ⟨_,rfl,rfl,O⟩;refine⟨_,rfl,?_⟩;refine bXU.cV O (by decide) ?_;have a:=Pu.blk O (Pu.blk N (Pu.blk M (Pu.blk K a)));refine⟨by omega,mQ a (by(rw[bU f];omega)) λa7 P=>?_⟩;have a:=P.blk;refine bXU.grow P.ch ?_;rintro _ rfl;have b:=Ch.call (Ch.pu (Ch.pu (Ch.pu (Ch.pu (Ch.drew (Ch.drew b)) K) M) N) O) P.ch (by exact λk e=>.inr (e▸X));have c:=Ch.blk P.ch (Pu.blk O (Pu.blk N (Pu.blk M (Pu.blk K (Blk.drew (Blk.drew c)))))) (an);have d:=Ch.blk P.ch (Pu.blk O (Pu.blk N (Pu.blk M (Pu.blk K (Blk.drew (Blk.drew d)))))) (az);exact⟨_,by rw[wrap_i64];omega,rfl,by rw[wrap_i64];omega,b,c,d,a.cast (congrArg bD (by exact qg (by omega)))⟩
 ·refine⟨bD (ae n (t1.toNat - 16)),a.GH (by(simp[bU f];done)),by rw[eF];(simp[bU f];done),GF,vH d (by(simp[bU f];done)) λa1 aA=>?_⟩;have d:=aA.blk;refine⟨bD (ae n (t1.toNat - 16)),d.GH (by(simp[bU f];done)),?_⟩;have b:=Ch.call b aA.ch (by exact λk e=>.inr (e▸aN));exact⟨congrArg (λl=>Value.agg (bD l)) (by have:t1=64:=(by omega);subst this;rw[<-Q];rfl),b⟩
theorem GA {K:List Int}{w:World}(p:cR w 1 K)(r t z A B E P az aA aC aN a0 a1 a2 a3 a4 a5 a6 a7 a8 a9 ba bc bd:Int):
 Calls Tryz.prog 138 #[(.agg (q8a r t z A B E P az)),(.agg (iK aA aC aN a0 a1 a2 a3 a4 a5 a6 a7 a8 a9 ba bc bd))] w λe w'=>∃v,e=.returned v/\v=.agg (w8 (jq K (S8.mk r t z A B E P az) [aA,aC,aN,a0,a1,a2,a3,a4,a5,a6,a7,a8,a9,ba,bc,bd]))/\Pu w w':=by
 refine yJ _ _ _ _ _ _ _ _ _ _ _ _ _ _ _ _ _ _ _ _ _ _ _ _ ?_;obtain⟨a,x⟩:∃a,a= [aA,aC,aN,a0,a1,a2,a3,a4,a5,a6,a7,a8,a9,ba,bc,bd]:=⟨_,rfl⟩;have hB:a.length=16:=by rw[x];rfl
 obtain⟨ss,q⟩:∃ss,ss=(S8.mk r t z A B E P az):=⟨_,rfl⟩;have n:=Ch.refl (λ_=>False) w;have F:=p.lt;refine mkd λgv wv bC=>?_;have c:=bC.blk;refine mkd λbN b6 bA=>?_;have f:=bA.blk;have n:=Ch.made (Ch.made n bC) bA;have c:=Made.old bA c;refine mkd λb0 b7 Q=>?_;have b2:=Q.lo n;have b8:=Q.ne c;have b9:=Q.ne f;have j:=Q.blk;have c:=Made.old Q c;refine⟨_,_,_,_,_,_,_,_,⟨c.at rfl,c.at rfl,c.at rfl,c.at rfl,c.at rfl,c.at rfl,c.at rfl,c.at rfl⟩,?_⟩;have n:=Ch.made n Q;have f:=Made.old Q f;refine mkd λu ca G=>?_;have s:=G.lo n;have H:=G.ne c;have I:=G.ne f;have J:=G.ne j;have b:=G.blk;refine aI b rfl λcb bg=>?_;have b:=bg.blk;have f:=Ch.blk bg.ch (Made.old G f) (I);refine⟨_,_,_,_,_,_,_,_,_,_,_,_,_,_,_,_,⟨f.at rfl,f.at rfl,f.at rfl,f.at rfl,f.at rfl,f.at rfl,f.at rfl,f.at rfl,f.at rfl,f.at rfl,f.at rfl,f.at rfl,f.at rfl,f.at rfl,f.at rfl,f.at rfl⟩,?_⟩;refine Calls.mono (ES _ _ _ _ _ _ _ _ _ _ _ _ _ _ _ _) ?_;rintro e cc ⟨_,rfl,rfl,bl⟩;refine⟨_,rfl,?_⟩;have n:=Ch.pu (Ch.call (Ch.made n G) bg.ch (by exact λk e=>.inr (e▸s))) bl;have p:=(((((p.pu bC.pu).pu bA.pu).pu Q.pu).pu G.pu).ch bg.ch (λk o e=>(λo=>absurd (F _ o) (Nat.not_lt.2 s)) (e▸o))).pu bl;have c:=Pu.blk bl (Ch.blk bg.ch (Made.old G c) (H));have f:=Pu.blk bl f;have j:=Pu.blk bl (Ch.blk bg.ch (Made.old G j) (J));have b:=Pu.blk bl b;refine⟨λC R W=>C=(64 - R).toNat/\(0<=R/\R<=64)/\Ch (λ_=>False) w W/\cR W 1 K/\Blk W gv (q8a r t z A B E P az) 54/\Blk W bN (iK aA aC aN a0 a1 a2 a3 a4 a5 a6 a7 a8 a9 ba bc bd) 205/\Blk W b0 z8a 54/\Blk W u (w8 (av K (ae a 48) ss R.toNat)) 54,⟨_,rfl,(by omega),n,p,c,f,j,b.cast (AS (congrArg (Value.int .u32) (by subst q;rfl)) (congrArg (Value.int .u32) (by subst q;rfl)) (congrArg (Value.int .u32) (by subst q;rfl)) (congrArg (Value.int .u32) (by subst q;rfl)) (congrArg (Value.int .u32) (by subst q;rfl)) (congrArg (Value.int .u32) (by subst q;rfl)) (congrArg (Value.int .u32) (by subst q;rfl)) (congrArg (Value.int .u32) (by subst q;rfl)))⟩,?_⟩;rintro _ _ R b3 ⟨rfl,h0,n,p,c,f,j,b⟩;refine af (λc1=>?_) (λc1=>?_)
 ·refine⟨by omega,_,zv (l:=(ae [aA,aC,aN,a0,a1,a2,a3,a4,a5,a6,a7,a8,a9,ba,bc,bd] 48)) (i:=R) (by(rw[bU rfl];omega)),by decide,?_⟩;have b:=Blk.drew b;refine⟨_,b.at rfl,by decide,_,b.at rfl,?_⟩;refine⟨bXU [1,13,18,24] [] b3.drew.drew (λ_=>False),?_⟩;have b:=Blk.drew b;have p:=(p.pu (Pu.aw _)).pu (Pu.aw _);obtain⟨_,b1⟩:=p.blk;refine⟨by decide,.inr ⟨by decide,bX.ld b (λh=>h) _⟩,_,b.at rfl,by decide,.inr ⟨by decide,bX.ld b (λh=>h) _⟩,_,b.at rfl,by decide,.inr ⟨by decide,bX.ld b (λh=>h) _⟩,_,b.at rfl,by omega,.inr ⟨by decide,bX.ld b1 (λh=>h) _⟩,_,b1.gG (i:=R) (by(have h9:=p.len;omega)),?_⟩;refine Calls.mono (jk _ _ (by omega)) ?_;rintro e N ⟨_,rfl,rfl,S⟩;refine⟨_,rfl,?_⟩;refine bXU.cV S (by decide) ?_;refine Calls.mono (jk _ _ (by omega)) ?_;rintro e y ⟨_,rfl,rfl,U⟩;refine⟨_,rfl,?_⟩;refine bXU.cV U (by decide) ?_;refine Calls.mono (jk _ _ (by omega)) ?_;rintro e b4 ⟨_,rfl,rfl,V⟩;refine⟨_,rfl,?_⟩;refine bXU.cV V (by decide) ?_;rintro _ rfl;refine⟨bXU [10,14,18,20] [] b4.drew (λ_=>False),?_⟩;have b:=Blk.drew (Pu.blk V (Pu.blk U (Pu.blk S b)));refine⟨by decide,.inr ⟨by decide,bX.ld b (λh=>h) _⟩,_,b.at rfl,by decide,.inr ⟨by decide,bX.ld b (λh=>h) _⟩,_,b.at rfl,by decide,.inr ⟨by decide,bX.ld b (λh=>h) _⟩,_,b.at rfl,by decide,.inr ⟨by decide,bX.ld b (λh=>h) _⟩,_,b.at rfl,?_⟩;refine Calls.mono (jk _ _ (by omega)) ?_;rintro e cf ⟨_,rfl,rfl,X⟩;refine⟨_,rfl,?_⟩;refine bXU.cV X (by decide) ?_;refine Calls.mono (jk _ _ (by omega)) ?_;rintro e cg ⟨_,rfl,rfl,Z⟩;refine⟨_,rfl,?_⟩;refine bXU.cV Z (by decide) ?_;refine Calls.mono (jk _ _ (by omega)) ?_;rintro e cj ⟨_,rfl,rfl,an⟩;refine⟨_,rfl,?_⟩;refine bXU.cV an (by decide) ?_;rintro _ rfl;have b:=Pu.blk an (Pu.blk Z (Pu.blk X b));refine⟨by decide,_,b.at rfl,by decide,_,b.at rfl,by decide,_,b.at rfl,by decide,_,b.at rfl,by decide,_,b.at rfl,by decide,_,b.at rfl,by decide,_,b.at rfl,aI b rfl λck bs=>?_⟩;have b:=bs.blk;have n:=Ch.call (Ch.pu (Ch.pu (Ch.pu (Ch.drew (Ch.pu (Ch.pu (Ch.pu (Ch.drew (Ch.drew n)) S) U) V)) X) Z) an) bs.ch (by exact λk e=>.inr (e▸s));have p:=(((((((p.pu S).pu U).pu V).pu (Pu.aw _)).pu X).pu Z).pu an).ch bs.ch (λk o e=>(λo=>absurd (F _ o) (Nat.not_lt.2 s)) (e▸o));have c:=Ch.blk bs.ch (Pu.blk an (Pu.blk Z (Pu.blk X (Blk.drew (Pu.blk V (Pu.blk U (Pu.blk S (Blk.drew (Blk.drew c))))))))) (H);have f:=Ch.blk bs.ch (Pu.blk an (Pu.blk Z (Pu.blk X (Blk.drew (Pu.blk V (Pu.blk U (Pu.blk S (Blk.drew (Blk.drew f))))))))) (I);have j:=Ch.blk bs.ch (Pu.blk an (Pu.blk Z (Pu.blk X (Blk.drew (Pu.blk V (Pu.blk U (Pu.blk S (Blk.drew (Blk.drew j))))))))) (J);exact⟨_,by rw[wrap_i64];omega,rfl,by rw[wrap_i64];omega,n,p,c,f,j,b.cast (AS (congrArg (Value.int .u32) (by rw[bR (by omega),x];rfl)) (congrArg (Value.int .u32) (by rw[bR (by omega),x];rfl)) (congrArg (Value.int .u32) (by rw[bR (by omega),x];rfl)) (congrArg (Value.int .u32) (by rw[bR (by omega),x];rfl)) (congrArg (Value.int .u32) (by rw[bR (by omega),x];rfl)) (congrArg (Value.int .u32) (by rw[bR (by omega),x];rfl)) (congrArg (Value.int .u32) (by rw[bR (by omega),x];rfl)) (congrArg (Value.int .u32) (by rw[bR (by omega),x];rfl)))⟩
 ·have b5:R.toNat=64:=by omega
  rw[b5]at b;refine⟨λC M W=>Ch (λ_=>False) w W/\cR W 1 K/\(∃T,Blk W gv (q8a r t z A B E P az) T)/\(∃T,Blk W bN (iK aA aC aN a0 a1 a2 a3 a4 a5 a6 a7 a8 a9 ba bc bd) T)/\(∃T,Blk W b0 z8a T)/\((C=8/\M=0/\(∃T,Blk W u (w8 (av K (ae a 48) ss 64)) T))\/(C=7/\M=1/\(∃T,Blk W u #[O (aJ (av K (ae a 48) ss 64).a r),O (av K (ae a 48) ss 64).b,O (av K (ae a 48) ss 64).c,O (av K (ae a 48) ss 64).d,O (av K (ae a 48) ss 64).e,O (av K (ae a 48) ss 64).f,O (av K (ae a 48) ss 64).g,O (av K (ae a 48) ss 64).h] T))\/(C=6/\M=2/\(∃T,Blk W u #[O (aJ (av K (ae a 48) ss 64).a r),O (aJ (av K (ae a 48) ss 64).b t),O (av K (ae a 48) ss 64).c,O (av K (ae a 48) ss 64).d,O (av K (ae a 48) ss 64).e,O (av K (ae a 48) ss 64).f,O (av K (ae a 48) ss 64).g,O (av K (ae a 48) ss 64).h] T))\/(C=5/\M=3/\(∃T,Blk W u #[O (aJ (av K (ae a 48) ss 64).a r),O (aJ (av K (ae a 48) ss 64).b t),O (aJ (av K (ae a 48) ss 64).c z),O (av K (ae a 48) ss 64).d,O (av K (ae a 48) ss 64).e,O (av K (ae a 48) ss 64).f,O (av K (ae a 48) ss 64).g,O (av K (ae a 48) ss 64).h] T))\/(C=4/\M=4/\(∃T,Blk W u #[O (aJ (av K (ae a 48) ss 64).a r),O (aJ (av K (ae a 48) ss 64).b t),O (aJ (av K (ae a 48) ss 64).c z),O (aJ (av K (ae a 48) ss 64).d A),O (av K (ae a 48) ss 64).e,O (av K (ae a 48) ss 64).f,O (av K (ae a 48) ss 64).g,O (av K (ae a 48) ss 64).h] T))\/(C=3/\M=5/\(∃T,Blk W u #[O (aJ (av K (ae a 48) ss 64).a r),O (aJ (av K (ae a 48) ss 64).b t),O (aJ (av K (ae a 48) ss 64).c z),O (aJ (av K (ae a 48) ss 64).d A),O (aJ (av K (ae a 48) ss 64).e B),O (av K (ae a 48) ss 64).f,O (av K (ae a 48) ss 64).g,O (av K (ae a 48) ss 64).h] T))\/(C=2/\M=6/\(∃T,Blk W u #[O (aJ (av K (ae a 48) ss 64).a r),O (aJ (av K (ae a 48) ss 64).b t),O (aJ (av K (ae a 48) ss 64).c z),O (aJ (av K (ae a 48) ss 64).d A),O (aJ (av K (ae a 48) ss 64).e B),O (aJ (av K (ae a 48) ss 64).f E),O (av K (ae a 48) ss 64).g,O (av K (ae a 48) ss 64).h] T))\/(C=1/\M=7/\(∃T,Blk W u #[O (aJ (av K (ae a 48) ss 64).a r),O (aJ (av K (ae a 48) ss 64).b t),O (aJ (av K (ae a 48) ss 64).c z),O (aJ (av K (ae a 48) ss 64).d A),O (aJ (av K (ae a 48) ss 64).e B),O (aJ (av K (ae a 48) ss 64).f E),O (aJ (av K (ae a 48) ss 64).g P),O (av K (ae a 48) ss 64).h] T))\/(C=0/\M=8/\(∃T,Blk W u #[O (aJ (av K (ae a 48) ss 64).a r),O (aJ (av K (ae a 48) ss 64).b t),O (aJ (av K (ae a 48) ss 64).c z),O (aJ (av K (ae a 48) ss 64).d A),O (aJ (av K (ae a 48) ss 64).e B),O (aJ (av K (ae a 48) ss 64).f E),O (aJ (av K (ae a 48) ss 64).g P),O (aJ (av K (ae a 48) ss 64).h az)] T))),⟨_,n,p,⟨_,c⟩,⟨_,f⟩,⟨_,j⟩,.inl ⟨rfl,rfl,_,b⟩⟩,?_⟩;rintro _ _ M N ⟨n,p,⟨_,c⟩,⟨_,f⟩,⟨_,j⟩,hU⟩;rcases hU with⟨rfl,rfl,_,b⟩|⟨rfl,rfl,_,b⟩|⟨rfl,rfl,_,b⟩|⟨rfl,rfl,_,b⟩|⟨rfl,rfl,_,b⟩|⟨rfl,rfl,_,b⟩|⟨rfl,rfl,_,b⟩|⟨rfl,rfl,_,b⟩|⟨rfl,rfl,_,b⟩
  ·refine aU ?_;refine⟨bXU [] [2,5] N.drew (λ_=>False),?_⟩;have b:=Blk.drew b;have c:=Blk.drew c;refine⟨by decide,.inl (by decide),_,b.at rfl,by decide,.inl (by decide),_,c.at rfl,by decide,aL b (by simp) λy d=>?_⟩;have b:Blk y u #[_,O (av K (ae a 48) ss 64).b,O (av K (ae a 48) ss 64).c,O (av K (ae a 48) ss 64).d,O (av K (ae a 48) ss 64).e,O (av K (ae a 48) ss 64).f,O (av K (ae a 48) ss 64).g,O (av K (ae a 48) ss 64).h] _:=d.blk;refine bXU.grow d.ch ?_;have n:=Ch.call (Ch.drew n) d.ch (by exact λk e=>.inr (e▸s));have p:=(p.pu (Pu.aw _)).ch d.ch (λk o e=>(λo=>absurd (F _ o) (Nat.not_lt.2 s)) (e▸o));have c:=Ch.blk d.ch c (H);have f:=Ch.blk d.ch (Blk.drew f) (I);have j:=Ch.blk d.ch (Blk.drew j) (J);exact⟨7,by decide,n,p,⟨_,c⟩,⟨_,f⟩,⟨_,j⟩,.inr (.inl ⟨rfl,rfl,_,b⟩)⟩
  ·refine aU ?_;refine⟨bXU [] [2,5] N.drew (λ_=>False),?_⟩;have b:=Blk.drew b;have c:=Blk.drew c;refine⟨by decide,.inl (by decide),_,b.at rfl,by decide,.inl (by decide),_,c.at rfl,by decide,aL b (by simp) λy d=>?_⟩;have b:Blk y u #[O (aJ (av K (ae a 48) ss 64).a r),_,O (av K (ae a 48) ss 64).c,O (av K (ae a 48) ss 64).d,O (av K (ae a 48) ss 64).e,O (av K (ae a 48) ss 64).f,O (av K (ae a 48) ss 64).g,O (av K (ae a 48) ss 64).h] _:=d.blk;refine bXU.grow d.ch ?_;have n:=Ch.call (Ch.drew n) d.ch (by exact λk e=>.inr (e▸s));have p:=(p.pu (Pu.aw _)).ch d.ch (λk o e=>(λo=>absurd (F _ o) (Nat.not_lt.2 s)) (e▸o));have c:=Ch.blk d.ch c (H);have f:=Ch.blk d.ch (Blk.drew f) (I);have j:=Ch.blk d.ch (Blk.drew j) (J);exact⟨6,by decide,n,p,⟨_,c⟩,⟨_,f⟩,⟨_,j⟩,.inr (.inr (.inl ⟨rfl,rfl,_,b⟩))⟩
  ·refine aU ?_;refine⟨bXU [] [2,5] N.drew (λ_=>False),?_⟩;have b:=Blk.drew b;have c:=Blk.drew c;refine⟨by decide,.inl (by decide),_,b.at rfl,by decide,.inl (by decide),_,c.at rfl,by decide,aL b (by simp) λy d=>?_⟩;have b:Blk y u #[O (aJ (av K (ae a 48) ss 64).a r),O (aJ (av K (ae a 48) ss 64).b t),_,O (av K (ae a 48) ss 64).d,O (av K (ae a 48) ss 64).e,O (av K (ae a 48) ss 64).f,O (av K (ae a 48) ss 64).g,O (av K (ae a 48) ss 64).h] _:=d.blk;refine bXU.grow d.ch ?_;have n:=Ch.call (Ch.drew n) d.ch (by exact λk e=>.inr (e▸s));have p:=(p.pu (Pu.aw _)).ch d.ch (λk o e=>(λo=>absurd (F _ o) (Nat.not_lt.2 s)) (e▸o));have c:=Ch.blk d.ch c (H);have f:=Ch.blk d.ch (Blk.drew f) (I);have j:=Ch.blk d.ch (Blk.drew j) (J);exact⟨5,by decide,n,p,⟨_,c⟩,⟨_,f⟩,⟨_,j⟩,.inr (.inr (.inr (.inl ⟨rfl,rfl,_,b⟩)))⟩
  ·refine aU ?_;refine⟨bXU [] [2,5] N.drew (λ_=>False),?_⟩;have b:=Blk.drew b;have c:=Blk.drew c;refine⟨by decide,.inl (by decide),_,b.at rfl,by decide,.inl (by decide),_,c.at rfl,by decide,aL b (by simp) λy d=>?_⟩;have b:Blk y u #[O (aJ (av K (ae a 48) ss 64).a r),O (aJ (av K (ae a 48) ss 64).b t),O (aJ (av K (ae a 48) ss 64).c z),_,O (av K (ae a 48) ss 64).e,O (av K (ae a 48) ss 64).f,O (av K (ae a 48) ss 64).g,O (av K (ae a 48) ss 64).h] _:=d.blk;refine bXU.grow d.ch ?_;have n:=Ch.call (Ch.drew n) d.ch (by exact λk e=>.inr (e▸s));have p:=(p.pu (Pu.aw _)).ch d.ch (λk o e=>(λo=>absurd (F _ o) (Nat.not_lt.2 s)) (e▸o));have c:=Ch.blk d.ch c (H);have f:=Ch.blk d.ch (Blk.drew f) (I);have j:=Ch.blk d.ch (Blk.drew j) (J);exact⟨4,by decide,n,p,⟨_,c⟩,⟨_,f⟩,⟨_,j⟩,.inr (.inr (.inr (.inr (.inl ⟨rfl,rfl,_,b⟩))))⟩
  ·refine aU ?_;refine⟨bXU [] [2,5] N.drew (λ_=>False),?_⟩;have b:=Blk.drew b;have c:=Blk.drew c;refine⟨by decide,.inl (by decide),_,b.at rfl,by decide,.inl (by decide),_,c.at rfl,by decide,aL b (by simp) λy d=>?_⟩;have b:Blk y u #[O (aJ (av K (ae a 48) ss 64).a r),O (aJ (av K (ae a 48) ss 64).b t),O (aJ (av K (ae a 48) ss 64).c z),O (aJ (av K (ae a 48) ss 64).d A),_,O (av K (ae a 48) ss 64).f,O (av K (ae a 48) ss 64).g,O (av K (ae a 48) ss 64).h] _:=d.blk;refine bXU.grow d.ch ?_;have n:=Ch.call (Ch.drew n) d.ch (by exact λk e=>.inr (e▸s));have p:=(p.pu (Pu.aw _)).ch d.ch (λk o e=>(λo=>absurd (F _ o) (Nat.not_lt.2 s)) (e▸o));have c:=Ch.blk d.ch c (H);have f:=Ch.blk d.ch (Blk.drew f) (I);have j:=Ch.blk d.ch (Blk.drew j) (J);exact⟨3,by decide,n,p,⟨_,c⟩,⟨_,f⟩,⟨_,j⟩,.inr (.inr (.inr (.inr (.inr (.inl ⟨rfl,rfl,_,b⟩)))))⟩
  ·refine aU ?_;refine⟨bXU [] [2,5] N.drew (λ_=>False),?_⟩;have b:=Blk.drew b;have c:=Blk.drew c;refine⟨by decide,.inl (by decide),_,b.at rfl,by decide,.inl (by decide),_,c.at rfl,by decide,aL b (by simp) λy d=>?_⟩;have b:Blk y u #[O (aJ (av K (ae a 48) ss 64).a r),O (aJ (av K (ae a 48) ss 64).b t),O (aJ (av K (ae a 48) ss 64).c z),O (aJ (av K (ae a 48) ss 64).d A),O (aJ (av K (ae a 48) ss 64).e B),_,O (av K (ae a 48) ss 64).g,O (av K (ae a 48) ss 64).h] _:=d.blk;refine bXU.grow d.ch ?_;have n:=Ch.call (Ch.drew n) d.ch (by exact λk e=>.inr (e▸s));have p:=(p.pu (Pu.aw _)).ch d.ch (λk o e=>(λo=>absurd (F _ o) (Nat.not_lt.2 s)) (e▸o));have c:=Ch.blk d.ch c (H);have f:=Ch.blk d.ch (Blk.drew f) (I);have j:=Ch.blk d.ch (Blk.drew j) (J);exact⟨2,by decide,n,p,⟨_,c⟩,⟨_,f⟩,⟨_,j⟩,.inr (.inr (.inr (.inr (.inr (.inr (.inl ⟨rfl,rfl,_,b⟩))))))⟩
  ·refine aU ?_;refine⟨bXU [] [2,5] N.drew (λ_=>False),?_⟩;have b:=Blk.drew b;have c:=Blk.drew c;refine⟨by decide,.inl (by decide),_,b.at rfl,by decide,.inl (by decide),_,c.at rfl,by decide,aL b (by simp) λy d=>?_⟩;have b:Blk y u #[O (aJ (av K (ae a 48) ss 64).a r),O (aJ (av K (ae a 48) ss 64).b t),O (aJ (av K (ae a 48) ss 64).c z),O (aJ (av K (ae a 48) ss 64).d A),O (aJ (av K (ae a 48) ss 64).e B),O (aJ (av K (ae a 48) ss 64).f E),_,O (av K (ae a 48) ss 64).h] _:=d.blk;refine bXU.grow d.ch ?_;have n:=Ch.call (Ch.drew n) d.ch (by exact λk e=>.inr (e▸s));have p:=(p.pu (Pu.aw _)).ch d.ch (λk o e=>(λo=>absurd (F _ o) (Nat.not_lt.2 s)) (e▸o));have c:=Ch.blk d.ch c (H);have f:=Ch.blk d.ch (Blk.drew f) (I);have j:=Ch.blk d.ch (Blk.drew j) (J);exact⟨1,by decide,n,p,⟨_,c⟩,⟨_,f⟩,⟨_,j⟩,.inr (.inr (.inr (.inr (.inr (.inr (.inr (.inl ⟨rfl,rfl,_,b⟩)))))))⟩
  ·refine aU ?_;refine⟨bXU [] [2,5] N.drew (λ_=>False),?_⟩;have b:=Blk.drew b;have c:=Blk.drew c;refine⟨by decide,.inl (by decide),_,b.at rfl,by decide,.inl (by decide),_,c.at rfl,by decide,aL b (by simp) λy d=>?_⟩;have b:Blk y u #[O (aJ (av K (ae a 48) ss 64).a r),O (aJ (av K (ae a 48) ss 64).b t),O (aJ (av K (ae a 48) ss 64).c z),O (aJ (av K (ae a 48) ss 64).d A),O (aJ (av K (ae a 48) ss 64).e B),O (aJ (av K (ae a 48) ss 64).f E),O (aJ (av K (ae a 48) ss 64).g P),_] _:=d.blk;refine bXU.grow d.ch ?_;have n:=Ch.call (Ch.drew n) d.ch (by exact λk e=>.inr (e▸s));have p:=(p.pu (Pu.aw _)).ch d.ch (λk o e=>(λo=>absurd (F _ o) (Nat.not_lt.2 s)) (e▸o));have c:=Ch.blk d.ch c (H);have f:=Ch.blk d.ch (Blk.drew f) (I);have j:=Ch.blk d.ch (Blk.drew j) (J);exact⟨0,by decide,n,p,⟨_,c⟩,⟨_,f⟩,⟨_,j⟩,.inr (.inr (.inr (.inr (.inr (.inr (.inr (.inr (⟨rfl,rfl,_,b⟩))))))))⟩
  ·refine bG ⟨_,_,_,_,_,_,_,_,⟨b.at rfl,b.at rfl,b.at rfl,b.at rfl,b.at rfl,b.at rfl,b.at rfl,b.at rfl⟩,aI j rfl λy d=>?_⟩;have j:=d.blk;refine⟨_,_,_,_,_,_,_,_,⟨j.at rfl,j.at rfl,j.at rfl,j.at rfl,j.at rfl,j.at rfl,j.at rfl,j.at rfl⟩,?_⟩;have n:=Ch.call n d.ch (by exact λk e=>.inr (e▸b2));exact⟨congrArg Value.agg (AS (congrArg (Value.int .u32) (by rw[<-x,<-q];subst q;rfl)) (congrArg (Value.int .u32) (by rw[<-x,<-q];subst q;rfl)) (congrArg (Value.int .u32) (by rw[<-x,<-q];subst q;rfl)) (congrArg (Value.int .u32) (by rw[<-x,<-q];subst q;rfl)) (congrArg (Value.int .u32) (by rw[<-x,<-q];subst q;rfl)) (congrArg (Value.int .u32) (by rw[<-x,<-q];subst q;rfl)) (congrArg (Value.int .u32) (by rw[<-x,<-q];subst q;rfl)) (congrArg (Value.int .u32) (by rw[<-x,<-q];subst q;rfl))),n⟩
theorem GQ {K:List Int}{w:World}(o:cR w 2 K)(r t z B C H R aA aC aN a0 a1 a2 a3 a4 a5 a6 a7 a8 a9 ba bc bd bg:Int):
 Calls Tryz.prog 160 #[(.agg (q8a r t z B C H R aA)),(.agg (iK aC aN a0 a1 a2 a3 a4 a5 a6 a7 a8 a9 ba bc bd bg))] w λe w'=>∃v,e=.returned v/\v=.agg (w8 (jq K (S8.mk r t z B C H R aA) [aC,aN,a0,a1,a2,a3,a4,a5,a6,a7,a8,a9,ba,bc,bd,bg]))/\Pu w w':=by
 refine uF _ _ _ _ _ _ _ _ _ _ _ _ _ _ _ _ _ _ _ _ _ _ _ _ ?_;obtain⟨a,u⟩:∃a,a= [aC,aN,a0,a1,a2,a3,a4,a5,a6,a7,a8,a9,ba,bc,bd,bg]:=⟨_,rfl⟩;have S:a.length=16:=by rw[u];rfl
 obtain⟨ss,q⟩:∃ss,ss=(S8.mk r t z B C H R aA):=⟨_,rfl⟩;have l:=Ch.refl (λ_=>False) w;have F:=o.lt;refine mkd λgv wv b5=>?_;have c:=b5.blk;refine mkd λb1 cC b2=>?_;have n:=b2.blk;have l:=Ch.made (Ch.made l b5) b2;have c:=Made.old b2 c;refine mkd λb6 cM U=>?_;have cg:=U.lo l;have cN:=U.ne c;have c0:=U.ne n;have j:=U.blk;have l:=Ch.made l U;have c:=Made.old U c;have n:=Made.old U n;refine mkd λb3 cj I=>?_;have b4:=I.lo l;have b7:=I.ne c;have b8:=I.ne n;have b9:=I.ne j;have f:Blk cj b3 (bD (List.replicate 64 0)) _:=I.blk.cast (jz _ _);rintro _ rfl;have l:=Ch.made l I;have o:=(((o.pu b5.pu).pu b2.pu).pu U.pu).pu I.pu;have c:=Made.old I c;have n:=Made.old I n;have j:=Made.old I j;refine⟨λE t1 W=>E=(64 - t1).toNat/\(0<=t1/\t1<=64)/\Ch (λ_=>False) w W/\cR W 2 K/\Blk W gv (q8a r t z B C H R aA) 54/\Blk W b1 (iK aC aN a0 a1 a2 a3 a4 a5 a6 a7 a8 a9 ba bc bd bg) 205/\Blk W b6 z8a 54/\Blk W b3 (bD (fD a t1)) 235,⟨_,rfl,(by omega),l,o,c,n,j,f.cast (congrArg bD (by simp[fD]))⟩,?_⟩;rintro _ _ t1 ca ⟨rfl,h0,l,o,c,n,j,f⟩;refine af (λc1=>?_) (λc1=>?_)
 ·refine af (λc2=>?_) (λc2=>?_)
  ·refine⟨by omega,?_⟩;have n:Blk ca b1 (bD [aC,aN,a0,a1,a2,a3,a4,a5,a6,a7,a8,a9,ba,bc,bd,bg]) _:=n.cast (by rfl);refine⟨_,n.gG (i:=t1) (by(simp;omega)),by omega,mQ f (by(rw[fU S (by omega)];omega)) λcb b0=>?_⟩;have f:=b0.blk;rintro _ rfl;have l:=Ch.call l b0.ch (by exact λk e=>.inr (e▸b4));have o:=o.ch b0.ch (λk p e=>(λp=>absurd (F _ p) (Nat.not_lt.2 b4)) (e▸p));have c:=Ch.blk b0.ch c (b7);have n:=Ch.blk b0.ch n (b8);have j:=Ch.blk b0.ch j (b9);exact⟨_,by rw[wrap_i64];omega,rfl,by rw[wrap_i64];omega,l,o,c,n,j,f.cast (congrArg bD (by(rw[<-u];exact Cf S (by omega))))⟩
  ·refine⟨by(simp only[wrap_i64];omega),_,f.gG (i:=(i64.wrap (t1 - 15))) (by(rw[fU S (by omega)];simp only[wrap_i64];omega)),by(simp only[wrap_i64];omega),_,f.gG (i:=(i64.wrap (t1 - 2))) (by(rw[fU S (by omega)];simp only[wrap_i64];omega)),?_⟩;refine⟨bXU [12,26] [] ca.drew (λ_=>False),?_⟩;have f:=Blk.drew f;refine⟨by(simp only[wrap_i64];omega),.inr ⟨by decide,bX.ld f (λh=>h) _⟩,_,f.gG (i:=(i64.wrap (t1 - 7))) (by(rw[fU S (by omega)];simp only[wrap_i64];omega)),by(simp only[wrap_i64];omega),.inr ⟨by decide,bX.ld f (λh=>h) _⟩,_,f.gG (i:=(i64.wrap (t1 - 16))) (by(rw[fU S (by omega)];simp only[wrap_i64];omega)),?_⟩;refine Calls.mono (gg _ _ (by omega)) ?_;rintro e cb ⟨_,rfl,rfl,bl⟩;refine⟨_,rfl,?_⟩;refine bXU.cV bl (by decide) ?_;refine Calls.mono (gg _ _ (by omega)) ?_;rintro e ck ⟨_,rfl,rfl,bs⟩;refine⟨_,rfl,?_⟩;refine bXU.cV bs (by decide) ?_;refine Calls.mono (gg _ _ (by omega)) ?_;rintro e cc ⟨_,rfl,rfl,bA⟩;refine⟨_,rfl,?_⟩;refine bXU.cV bA (by decide) ?_;refine Calls.mono (gg _ _ (by omega)) ?_;rintro e J ⟨_,rfl,rfl,A⟩;refine⟨_,rfl,?_⟩;refine bXU.cV A (by decide) ?_;have f:=Pu.blk A (Pu.blk bA (Pu.blk bs (Pu.blk bl f)));refine⟨by omega,mQ f (by(rw[fU S (by omega)];omega)) λx d=>?_⟩;have f:=d.blk;refine bXU.grow d.ch ?_;rintro _ rfl;have l:=Ch.call (Ch.pu (Ch.pu (Ch.pu (Ch.pu (Ch.drew l) bl) bs) bA) A) d.ch (by exact λk e=>.inr (e▸b4));have o:=(((((o.pu (Pu.aw _)).pu bl).pu bs).pu bA).pu A).ch d.ch (λk p e=>(λp=>absurd (F _ p) (Nat.not_lt.2 b4)) (e▸p));have c:=Ch.blk d.ch (Pu.blk A (Pu.blk bA (Pu.blk bs (Pu.blk bl (Blk.drew c))))) (b7);have n:=Ch.blk d.ch (Pu.blk A (Pu.blk bA (Pu.blk bs (Pu.blk bl (Blk.drew n))))) (b8);have j:=Ch.blk d.ch (Pu.blk A (Pu.blk bA (Pu.blk bs (Pu.blk bl (Blk.drew j))))) (b9);exact⟨_,by rw[wrap_i64];omega,rfl,by rw[wrap_i64];omega,l,o,c,n,j,f.cast (congrArg bD (by(rw[zs (by omega),<-Ce];rfl)))⟩
 ·rw[Cg c1 h0.2]at f;refine⟨_,_,_,_,_,_,_,_,⟨c.at rfl,c.at rfl,c.at rfl,c.at rfl,c.at rfl,c.at rfl,c.at rfl,c.at rfl⟩,?_⟩;refine mkd λy cb G=>?_;have s:=G.lo l;have M:=G.ne c;have N:=G.ne n;have P:=G.ne j;have Q:=G.ne f;have b:=G.blk;refine aI b rfl λck bC=>?_;have b:=bC.blk;rintro _ rfl;have l:=Ch.call (Ch.made l G) bC.ch (by exact λk e=>.inr (e▸s));have o:=(o.pu G.pu).ch bC.ch (λk p e=>(λp=>absurd (F _ p) (Nat.not_lt.2 s)) (e▸p));have c:=Ch.blk bC.ch (Made.old G c) (M);have n:=Ch.blk bC.ch (Made.old G n) (N);have j:=Ch.blk bC.ch (Made.old G j) (P);have f:=Ch.blk bC.ch (Made.old G f) (Q);refine⟨λE t3 W=>E=(64 - t3).toNat/\(0<=t3/\t3<=64)/\Ch (λ_=>False) w W/\cR W 2 K/\Blk W gv (q8a r t z B C H R aA) 54/\Blk W b1 (iK aC aN a0 a1 a2 a3 a4 a5 a6 a7 a8 a9 ba bc bd bg) 205/\Blk W b6 z8a 54/\Blk W b3 (bD (ae a 48)) 235/\Blk W y (w8 (av K (ae a 48) ss t3.toNat)) 54,⟨_,rfl,(by omega),l,o,c,n,j,f,b.cast (AS (congrArg (Value.int .u32) (by subst q;rfl)) (congrArg (Value.int .u32) (by subst q;rfl)) (congrArg (Value.int .u32) (by subst q;rfl)) (congrArg (Value.int .u32) (by subst q;rfl)) (congrArg (Value.int .u32) (by subst q;rfl)) (congrArg (Value.int .u32) (by subst q;rfl)) (congrArg (Value.int .u32) (by subst q;rfl)) (congrArg (Value.int .u32) (by subst q;rfl)))⟩,?_⟩;rintro _ _ t3 cc ⟨rfl,h0,l,o,c,n,j,f,b⟩;refine af (λc3=>?_) (λc3=>?_)
  ·refine⟨by decide,_,b.at rfl,by decide,_,b.at rfl,?_⟩;refine⟨bXU [1,13,18,24,28] [] cc.drew (λ_=>False),?_⟩;have b:=Blk.drew b;have o:=o.pu (Pu.aw _);obtain⟨_,cf⟩:=o.blk;have f:=Blk.drew f;refine⟨by decide,.inr ⟨by decide,bX.ld b (λh=>h) _⟩,_,b.at rfl,by decide,.inr ⟨by decide,bX.ld b (λh=>h) _⟩,_,b.at rfl,by decide,.inr ⟨by decide,bX.ld b (λh=>h) _⟩,_,b.at rfl,by omega,.inr ⟨by decide,bX.ld cf (λh=>h) _⟩,_,cf.gG (i:=t3) (by(have h9:=o.len;omega)),by omega,.inr ⟨by decide,bX.ld f (λh=>h) _⟩,_,f.gG (i:=t3) (by(rw[bU S];omega)),?_⟩;refine Calls.mono (gg _ _ (by omega)) ?_;rintro e J ⟨_,rfl,rfl,A⟩;refine⟨_,rfl,?_⟩;refine bXU.cV A (by decide) ?_;refine Calls.mono (gg _ _ (by omega)) ?_;rintro e x ⟨_,rfl,rfl,V⟩;refine⟨_,rfl,?_⟩;refine bXU.cV V (by decide) ?_;refine Calls.mono (gg _ _ (by omega)) ?_;rintro e ct ⟨_,rfl,rfl,X⟩;refine⟨_,rfl,?_⟩;refine bXU.cV X (by decide) ?_;rintro _ rfl;refine⟨bXU [10,14,18,20] [] ct.drew (λ_=>False),?_⟩;have b:=Blk.drew (Pu.blk X (Pu.blk V (Pu.blk A b)));refine⟨by decide,.inr ⟨by decide,bX.ld b (λh=>h) _⟩,_,b.at rfl,by decide,.inr ⟨by decide,bX.ld b (λh=>h) _⟩,_,b.at rfl,by decide,.inr ⟨by decide,bX.ld b (λh=>h) _⟩,_,b.at rfl,by decide,.inr ⟨by decide,bX.ld b (λh=>h) _⟩,_,b.at rfl,?_⟩;refine Calls.mono (gg _ _ (by omega)) ?_;rintro e c4 ⟨_,rfl,rfl,Z⟩;refine⟨_,rfl,?_⟩;refine bXU.cV Z (by decide) ?_;refine Calls.mono (gg _ _ (by omega)) ?_;rintro e c5 ⟨_,rfl,rfl,an⟩;refine⟨_,rfl,?_⟩;refine bXU.cV an (by decide) ?_;refine Calls.mono (gg _ _ (by omega)) ?_;rintro e c6 ⟨_,rfl,rfl,az⟩;refine⟨_,rfl,?_⟩;refine bXU.cV az (by decide) ?_;rintro _ rfl;have b:=Pu.blk az (Pu.blk an (Pu.blk Z b));refine⟨by decide,_,b.at rfl,by decide,_,b.at rfl,by decide,_,b.at rfl,by decide,_,b.at rfl,by decide,_,b.at rfl,by decide,_,b.at rfl,by decide,_,b.at rfl,aI b rfl λc7 bN=>?_⟩;have b:=bN.blk;rintro _ rfl;have l:=Ch.call (Ch.pu (Ch.pu (Ch.pu (Ch.drew (Ch.pu (Ch.pu (Ch.pu (Ch.drew l) A) V) X)) Z) an) az) bN.ch (by exact λk e=>.inr (e▸s));have o:=(((((((o.pu A).pu V).pu X).pu (Pu.aw _)).pu Z).pu an).pu az).ch bN.ch (λk p e=>(λp=>absurd (F _ p) (Nat.not_lt.2 s)) (e▸p));have c:=Ch.blk bN.ch (Pu.blk az (Pu.blk an (Pu.blk Z (Blk.drew (Pu.blk X (Pu.blk V (Pu.blk A (Blk.drew c)))))))) (M);have n:=Ch.blk bN.ch (Pu.blk az (Pu.blk an (Pu.blk Z (Blk.drew (Pu.blk X (Pu.blk V (Pu.blk A (Blk.drew n)))))))) (N);have j:=Ch.blk bN.ch (Pu.blk az (Pu.blk an (Pu.blk Z (Blk.drew (Pu.blk X (Pu.blk V (Pu.blk A (Blk.drew j)))))))) (P);have f:=Ch.blk bN.ch (Pu.blk az (Pu.blk an (Pu.blk Z (Blk.drew (Pu.blk X (Pu.blk V (Pu.blk A f))))))) (Q);exact⟨_,by rw[wrap_i64];omega,rfl,by rw[wrap_i64];omega,l,o,c,n,j,f,b.cast (AS (congrArg (Value.int .u32) (by rw[bR (by omega),u];rfl)) (congrArg (Value.int .u32) (by rw[bR (by omega),u];rfl)) (congrArg (Value.int .u32) (by rw[bR (by omega),u];rfl)) (congrArg (Value.int .u32) (by rw[bR (by omega),u];rfl)) (congrArg (Value.int .u32) (by rw[bR (by omega),u];rfl)) (congrArg (Value.int .u32) (by rw[bR (by omega),u];rfl)) (congrArg (Value.int .u32) (by rw[bR (by omega),u];rfl)) (congrArg (Value.int .u32) (by rw[bR (by omega),u];rfl)))⟩
  ·have cA:t3.toNat=64:=by omega
   rw[cA]at b;rintro _ rfl;refine⟨λE i1 W=>Ch (λ_=>False) w W/\cR W 2 K/\(∃T,Blk W gv (q8a r t z B C H R aA) T)/\(∃T,Blk W b1 (iK aC aN a0 a1 a2 a3 a4 a5 a6 a7 a8 a9 ba bc bd bg) T)/\(∃T,Blk W b6 z8a T)/\(∃T,Blk W b3 (bD (ae a 48)) T)/\((E=8/\i1=0/\(∃T,Blk W y (w8 (av K (ae a 48) ss 64)) T))\/(E=7/\i1=1/\(∃T,Blk W y #[O (aJ (av K (ae a 48) ss 64).a r),O (av K (ae a 48) ss 64).b,O (av K (ae a 48) ss 64).c,O (av K (ae a 48) ss 64).d,O (av K (ae a 48) ss 64).e,O (av K (ae a 48) ss 64).f,O (av K (ae a 48) ss 64).g,O (av K (ae a 48) ss 64).h] T))\/(E=6/\i1=2/\(∃T,Blk W y #[O (aJ (av K (ae a 48) ss 64).a r),O (aJ (av K (ae a 48) ss 64).b t),O (av K (ae a 48) ss 64).c,O (av K (ae a 48) ss 64).d,O (av K (ae a 48) ss 64).e,O (av K (ae a 48) ss 64).f,O (av K (ae a 48) ss 64).g,O (av K (ae a 48) ss 64).h] T))\/(E=5/\i1=3/\(∃T,Blk W y #[O (aJ (av K (ae a 48) ss 64).a r),O (aJ (av K (ae a 48) ss 64).b t),O (aJ (av K (ae a 48) ss 64).c z),O (av K (ae a 48) ss 64).d,O (av K (ae a 48) ss 64).e,O (av K (ae a 48) ss 64).f,O (av K (ae a 48) ss 64).g,O (av K (ae a 48) ss 64).h] T))\/(E=4/\i1=4/\(∃T,Blk W y #[O (aJ (av K (ae a 48) ss 64).a r),O (aJ (av K (ae a 48) ss 64).b t),O (aJ (av K (ae a 48) ss 64).c z),O (aJ (av K (ae a 48) ss 64).d B),O (av K (ae a 48) ss 64).e,O (av K (ae a 48) ss 64).f,O (av K (ae a 48) ss 64).g,O (av K (ae a 48) ss 64).h] T))\/(E=3/\i1=5/\(∃T,Blk W y #[O (aJ (av K (ae a 48) ss 64).a r),O (aJ (av K (ae a 48) ss 64).b t),O (aJ (av K (ae a 48) ss 64).c z),O (aJ (av K (ae a 48) ss 64).d B),O (aJ (av K (ae a 48) ss 64).e C),O (av K (ae a 48) ss 64).f,O (av K (ae a 48) ss 64).g,O (av K (ae a 48) ss 64).h] T))\/(E=2/\i1=6/\(∃T,Blk W y #[O (aJ (av K (ae a 48) ss 64).a r),O (aJ (av K (ae a 48) ss 64).b t),O (aJ (av K (ae a 48) ss 64).c z),O (aJ (av K (ae a 48) ss 64).d B),O (aJ (av K (ae a 48) ss 64).e C),O (aJ (av K (ae a 48) ss 64).f H),O (av K (ae a 48) ss 64).g,O (av K (ae a 48) ss 64).h] T))\/(E=1/\i1=7/\(∃T,Blk W y #[O (aJ (av K (ae a 48) ss 64).a r),O (aJ (av K (ae a 48) ss 64).b t),O (aJ (av K (ae a 48) ss 64).c z),O (aJ (av K (ae a 48) ss 64).d B),O (aJ (av K (ae a 48) ss 64).e C),O (aJ (av K (ae a 48) ss 64).f H),O (aJ (av K (ae a 48) ss 64).g R),O (av K (ae a 48) ss 64).h] T))\/(E=0/\i1=8/\(∃T,Blk W y #[O (aJ (av K (ae a 48) ss 64).a r),O (aJ (av K (ae a 48) ss 64).b t),O (aJ (av K (ae a 48) ss 64).c z),O (aJ (av K (ae a 48) ss 64).d B),O (aJ (av K (ae a 48) ss 64).e C),O (aJ (av K (ae a 48) ss 64).f H),O (aJ (av K (ae a 48) ss 64).g R),O (aJ (av K (ae a 48) ss 64).h aA)] T))),⟨_,l,o,⟨_,c⟩,⟨_,n⟩,⟨_,j⟩,⟨_,f⟩,.inl ⟨rfl,rfl,_,b⟩⟩,?_⟩;rintro _ _ i1 J ⟨l,o,⟨_,c⟩,⟨_,n⟩,⟨_,j⟩,⟨_,f⟩,hU⟩;rcases hU with⟨rfl,rfl,_,b⟩|⟨rfl,rfl,_,b⟩|⟨rfl,rfl,_,b⟩|⟨rfl,rfl,_,b⟩|⟨rfl,rfl,_,b⟩|⟨rfl,rfl,_,b⟩|⟨rfl,rfl,_,b⟩|⟨rfl,rfl,_,b⟩|⟨rfl,rfl,_,b⟩
   ·refine aU ?_;refine⟨bXU [] [3,6] J.drew (λ_=>False),?_⟩;have b:=Blk.drew b;have c:=Blk.drew c;refine⟨by decide,.inl (by decide),_,b.at rfl,by decide,.inl (by decide),_,c.at rfl,by decide,aL b (by simp) λx d=>?_⟩;have b:Blk x y #[_,O (av K (ae a 48) ss 64).b,O (av K (ae a 48) ss 64).c,O (av K (ae a 48) ss 64).d,O (av K (ae a 48) ss 64).e,O (av K (ae a 48) ss 64).f,O (av K (ae a 48) ss 64).g,O (av K (ae a 48) ss 64).h] _:=d.blk;refine bXU.grow d.ch ?_;rintro _ rfl;have l:=Ch.call (Ch.drew l) d.ch (by exact λk e=>.inr (e▸s));have o:=(o.pu (Pu.aw _)).ch d.ch (λk p e=>(λp=>absurd (F _ p) (Nat.not_lt.2 s)) (e▸p));have c:=Ch.blk d.ch c (M);have n:=Ch.blk d.ch (Blk.drew n) (N);have j:=Ch.blk d.ch (Blk.drew j) (P);have f:=Ch.blk d.ch (Blk.drew f) (Q);exact⟨7,by decide,l,o,⟨_,c⟩,⟨_,n⟩,⟨_,j⟩,⟨_,f⟩,.inr (.inl ⟨rfl,rfl,_,b⟩)⟩
   ·refine aU ?_;refine⟨bXU [] [3,6] J.drew (λ_=>False),?_⟩;have b:=Blk.drew b;have c:=Blk.drew c;refine⟨by decide,.inl (by decide),_,b.at rfl,by decide,.inl (by decide),_,c.at rfl,by decide,aL b (by simp) λx d=>?_⟩;have b:Blk x y #[O (aJ (av K (ae a 48) ss 64).a r),_,O (av K (ae a 48) ss 64).c,O (av K (ae a 48) ss 64).d,O (av K (ae a 48) ss 64).e,O (av K (ae a 48) ss 64).f,O (av K (ae a 48) ss 64).g,O (av K (ae a 48) ss 64).h] _:=d.blk;refine bXU.grow d.ch ?_;rintro _ rfl;have l:=Ch.call (Ch.drew l) d.ch (by exact λk e=>.inr (e▸s));have o:=(o.pu (Pu.aw _)).ch d.ch (λk p e=>(λp=>absurd (F _ p) (Nat.not_lt.2 s)) (e▸p));have c:=Ch.blk d.ch c (M);have n:=Ch.blk d.ch (Blk.drew n) (N);have j:=Ch.blk d.ch (Blk.drew j) (P);have f:=Ch.blk d.ch (Blk.drew f) (Q);exact⟨6,by decide,l,o,⟨_,c⟩,⟨_,n⟩,⟨_,j⟩,⟨_,f⟩,.inr (.inr (.inl ⟨rfl,rfl,_,b⟩))⟩
   ·refine aU ?_;refine⟨bXU [] [3,6] J.drew (λ_=>False),?_⟩;have b:=Blk.drew b;have c:=Blk.drew c;refine⟨by decide,.inl (by decide),_,b.at rfl,by decide,.inl (by decide),_,c.at rfl,by decide,aL b (by simp) λx d=>?_⟩;have b:Blk x y #[O (aJ (av K (ae a 48) ss 64).a r),O (aJ (av K (ae a 48) ss 64).b t),_,O (av K (ae a 48) ss 64).d,O (av K (ae a 48) ss 64).e,O (av K (ae a 48) ss 64).f,O (av K (ae a 48) ss 64).g,O (av K (ae a 48) ss 64).h] _:=d.blk;refine bXU.grow d.ch ?_;rintro _ rfl;have l:=Ch.call (Ch.drew l) d.ch (by exact λk e=>.inr (e▸s));have o:=(o.pu (Pu.aw _)).ch d.ch (λk p e=>(λp=>absurd (F _ p) (Nat.not_lt.2 s)) (e▸p));have c:=Ch.blk d.ch c (M);have n:=Ch.blk d.ch (Blk.drew n) (N);have j:=Ch.blk d.ch (Blk.drew j) (P);have f:=Ch.blk d.ch (Blk.drew f) (Q);exact⟨5,by decide,l,o,⟨_,c⟩,⟨_,n⟩,⟨_,j⟩,⟨_,f⟩,.inr (.inr (.inr (.inl ⟨rfl,rfl,_,b⟩)))⟩
   ·refine aU ?_;refine⟨bXU [] [3,6] J.drew (λ_=>False),?_⟩;have b:=Blk.drew b;have c:=Blk.drew c;refine⟨by decide,.inl (by decide),_,b.at rfl,by decide,.inl (by decide),_,c.at rfl,by decide,aL b (by simp) λx d=>?_⟩;have b:Blk x y #[O (aJ (av K (ae a 48) ss 64).a r),O (aJ (av K (ae a 48) ss 64).b t),O (aJ (av K (ae a 48) ss 64).c z),_,O (av K (ae a 48) ss 64).e,O (av K (ae a 48) ss 64).f,O (av K (ae a 48) ss 64).g,O (av K (ae a 48) ss 64).h] _:=d.blk;refine bXU.grow d.ch ?_;rintro _ rfl;have l:=Ch.call (Ch.drew l) d.ch (by exact λk e=>.inr (e▸s));have o:=(o.pu (Pu.aw _)).ch d.ch (λk p e=>(λp=>absurd (F _ p) (Nat.not_lt.2 s)) (e▸p));have c:=Ch.blk d.ch c (M);have n:=Ch.blk d.ch (Blk.drew n) (N);have j:=Ch.blk d.ch (Blk.drew j) (P);have f:=Ch.blk d.ch (Blk.drew f) (Q);exact⟨4,by decide,l,o,⟨_,c⟩,⟨_,n⟩,⟨_,j⟩,⟨_,f⟩,.inr (.inr (.inr (.inr (.inl ⟨rfl,rfl,_,b⟩))))⟩
   ·refine aU ?_;refine⟨bXU [] [3,6] J.drew (λ_=>False),?_⟩;have b:=Blk.drew b;have c:=Blk.drew c;refine⟨by decide,.inl (by decide),_,b.at rfl,by decide,.inl (by decide),_,c.at rfl,by decide,aL b (by simp) λx d=>?_⟩;have b:Blk x y #[O (aJ (av K (ae a 48) ss 64).a r),O (aJ (av K (ae a 48) ss 64).b t),O (aJ (av K (ae a 48) ss 64).c z),O (aJ (av K (ae a 48) ss 64).d B),_,O (av K (ae a 48) ss 64).f,O (av K (ae a 48) ss 64).g,O (av K (ae a 48) ss 64).h] _:=d.blk;refine bXU.grow d.ch ?_;rintro _ rfl;have l:=Ch.call (Ch.drew l) d.ch (by exact λk e=>.inr (e▸s));have o:=(o.pu (Pu.aw _)).ch d.ch (λk p e=>(λp=>absurd (F _ p) (Nat.not_lt.2 s)) (e▸p));have c:=Ch.blk d.ch c (M);have n:=Ch.blk d.ch (Blk.drew n) (N);have j:=Ch.blk d.ch (Blk.drew j) (P);have f:=Ch.blk d.ch (Blk.drew f) (Q);exact⟨3,by decide,l,o,⟨_,c⟩,⟨_,n⟩,⟨_,j⟩,⟨_,f⟩,.inr (.inr (.inr (.inr (.inr (.inl ⟨rfl,rfl,_,b⟩)))))⟩
   ·refine aU ?_;refine⟨bXU [] [3,6] J.drew (λ_=>False),?_⟩;have b:=Blk.drew b;have c:=Blk.drew c;refine⟨by decide,.inl (by decide),_,b.at rfl,by decide,.inl (by decide),_,c.at rfl,by decide,aL b (by simp) λx d=>?_⟩;have b:Blk x y #[O (aJ (av K (ae a 48) ss 64).a r),O (aJ (av K (ae a 48) ss 64).b t),O (aJ (av K (ae a 48) ss 64).c z),O (aJ (av K (ae a 48) ss 64).d B),O (aJ (av K (ae a 48) ss 64).e C),_,O (av K (ae a 48) ss 64).g,O (av K (ae a 48) ss 64).h] _:=d.blk;refine bXU.grow d.ch ?_;rintro _ rfl;have l:=Ch.call (Ch.drew l) d.ch (by exact λk e=>.inr (e▸s));have o:=(o.pu (Pu.aw _)).ch d.ch (λk p e=>(λp=>absurd (F _ p) (Nat.not_lt.2 s)) (e▸p));have c:=Ch.blk d.ch c (M);have n:=Ch.blk d.ch (Blk.drew n) (N);have j:=Ch.blk d.ch (Blk.drew j) (P);have f:=Ch.blk d.ch (Blk.drew f) (Q);exact⟨2,by decide,l,o,⟨_,c⟩,⟨_,n⟩,⟨_,j⟩,⟨_,f⟩,.inr (.inr (.inr (.inr (.inr (.inr (.inl ⟨rfl,rfl,_,b⟩))))))⟩
   ·refine aU ?_;refine⟨bXU [] [3,6] J.drew (λ_=>False),?_⟩;have b:=Blk.drew b;have c:=Blk.drew c;refine⟨by decide,.inl (by decide),_,b.at rfl,by decide,.inl (by decide),_,c.at rfl,by decide,aL b (by simp) λx d=>?_⟩;have b:Blk x y #[O (aJ (av K (ae a 48) ss 64).a r),O (aJ (av K (ae a 48) ss 64).b t),O (aJ (av K (ae a 48) ss 64).c z),O (aJ (av K (ae a 48) ss 64).d B),O (aJ (av K (ae a 48) ss 64).e C),O (aJ (av K (ae a 48) ss 64).f H),_,O (av K (ae a 48) ss 64).h] _:=d.blk;refine bXU.grow d.ch ?_;rintro _ rfl;have l:=Ch.call (Ch.drew l) d.ch (by exact λk e=>.inr (e▸s));have o:=(o.pu (Pu.aw _)).ch d.ch (λk p e=>(λp=>absurd (F _ p) (Nat.not_lt.2 s)) (e▸p));have c:=Ch.blk d.ch c (M);have n:=Ch.blk d.ch (Blk.drew n) (N);have j:=Ch.blk d.ch (Blk.drew j) (P);have f:=Ch.blk d.ch (Blk.drew f) (Q);exact⟨1,by decide,l,o,⟨_,c⟩,⟨_,n⟩,⟨_,j⟩,⟨_,f⟩,.inr (.inr (.inr (.inr (.inr (.inr (.inr (.inl ⟨rfl,rfl,_,b⟩)))))))⟩
   ·refine aU ?_;refine⟨bXU [] [3,6] J.drew (λ_=>False),?_⟩;have b:=Blk.drew b;have c:=Blk.drew c;refine⟨by decide,.inl (by decide),_,b.at rfl,by decide,.inl (by decide),_,c.at rfl,by decide,aL b (by simp) λx d=>?_⟩;have b:Blk x y #[O (aJ (av K (ae a 48) ss 64).a r),O (aJ (av K (ae a 48) ss 64).b t),O (aJ (av K (ae a 48) ss 64).c z),O (aJ (av K (ae a 48) ss 64).d B),O (aJ (av K (ae a 48) ss 64).e C),O (aJ (av K (ae a 48) ss 64).f H),O (aJ (av K (ae a 48) ss 64).g R),_] _:=d.blk;refine bXU.grow d.ch ?_;rintro _ rfl;have l:=Ch.call (Ch.drew l) d.ch (by exact λk e=>.inr (e▸s));have o:=(o.pu (Pu.aw _)).ch d.ch (λk p e=>(λp=>absurd (F _ p) (Nat.not_lt.2 s)) (e▸p));have c:=Ch.blk d.ch c (M);have n:=Ch.blk d.ch (Blk.drew n) (N);have j:=Ch.blk d.ch (Blk.drew j) (P);have f:=Ch.blk d.ch (Blk.drew f) (Q);exact⟨0,by decide,l,o,⟨_,c⟩,⟨_,n⟩,⟨_,j⟩,⟨_,f⟩,.inr (.inr (.inr (.inr (.inr (.inr (.inr (.inr (⟨rfl,rfl,_,b⟩))))))))⟩
   ·refine bG ⟨_,_,_,_,_,_,_,_,⟨b.at rfl,b.at rfl,b.at rfl,b.at rfl,b.at rfl,b.at rfl,b.at rfl,b.at rfl⟩,aI j rfl λx d=>?_⟩;have j:=d.blk;refine⟨_,_,_,_,_,_,_,_,⟨j.at rfl,j.at rfl,j.at rfl,j.at rfl,j.at rfl,j.at rfl,j.at rfl,j.at rfl⟩,?_⟩;have l:=Ch.call l d.ch (by exact λk e=>.inr (e▸cg));exact⟨congrArg Value.agg (AS (congrArg (Value.int .u32) (by rw[<-u,<-q];subst q;rfl)) (congrArg (Value.int .u32) (by rw[<-u,<-q];subst q;rfl)) (congrArg (Value.int .u32) (by rw[<-u,<-q];subst q;rfl)) (congrArg (Value.int .u32) (by rw[<-u,<-q];subst q;rfl)) (congrArg (Value.int .u32) (by rw[<-u,<-q];subst q;rfl)) (congrArg (Value.int .u32) (by rw[<-u,<-q];subst q;rfl)) (congrArg (Value.int .u32) (by rw[<-u,<-q];subst q;rfl)) (congrArg (Value.int .u32) (by rw[<-u,<-q];subst q;rfl))),l⟩
theorem Gz {w:World}:
 Calls Tryz.prog 172 #[] w λe w'=>∃v,e=.returned v/\v=.agg (w8 S8.first)/\Pu w w':=by
 refine yI ?_;have b:=Ch.refl (λ_=>False) w;refine mkd λh i c=>?_;have f:=c.lo b;have a:=c.blk;refine aI a rfl λj d=>?_;have a:=d.blk;refine⟨_,_,_,_,_,_,_,_,⟨a.at rfl,a.at rfl,a.at rfl,a.at rfl,a.at rfl,a.at rfl,a.at rfl,a.at rfl⟩,?_⟩;have b:=Ch.call (Ch.made b c) d.ch (by exact λk e=>.inr (e▸f));exact⟨congrArg Value.agg (AS (congrArg (Value.int .u32) (by rfl)) (congrArg (Value.int .u32) (by rfl)) (congrArg (Value.int .u32) (by rfl)) (congrArg (Value.int .u32) (by rfl)) (congrArg (Value.int .u32) (by rfl)) (congrArg (Value.int .u32) (by rfl)) (congrArg (Value.int .u32) (by rfl)) (congrArg (Value.int .u32) (by rfl))),b⟩
theorem zH {w:World}:
 Calls Tryz.prog 156 #[] w λe w'=>∃v,e=.returned v/\v=.agg (w8 S8.first)/\Pu w w':=by
 refine uD ?_;have b:=Ch.refl (λ_=>False) w;refine mkd λh i c=>?_;have f:=c.lo b;have a:=c.blk;refine aI a rfl λj d=>?_;have a:=d.blk;refine⟨_,_,_,_,_,_,_,_,⟨a.at rfl,a.at rfl,a.at rfl,a.at rfl,a.at rfl,a.at rfl,a.at rfl,a.at rfl⟩,?_⟩;have b:=Ch.call (Ch.made b c) d.ch (by exact λk e=>.inr (e▸f));exact⟨congrArg Value.agg (AS (congrArg (Value.int .u32) (by rfl)) (congrArg (Value.int .u32) (by rfl)) (congrArg (Value.int .u32) (by rfl)) (congrArg (Value.int .u32) (by rfl)) (congrArg (Value.int .u32) (by rfl)) (congrArg (Value.int .u32) (by rfl)) (congrArg (Value.int .u32) (by rfl)) (congrArg (Value.int .u32) (by rfl))),b⟩
end Go.Proofs.YtoghdgcmhbanbaaGreatDoor
end
section
set_option maxRecDepth 100000
namespace Go.Proofs.YtoghdgcmhbanbaaGreatDoor
open Go Go.RowKit V
open Go.IntKind (i64 u32 u64 wrap_i64 wrap_u32)
open Go.Proofs (Tryz.prog)
theorem CY {R:aK}{w:World}(h:Calls Tryz.prog 172 #[] w λe a=>∃b c d f i j k l:Int,e=.returned (.agg (q8a b c d f i j k l))/\∀(n:Nat)(o:World),n=a.heap.size->o=a.alloc (.cells #[O b,O c,O d,O f,O i,O j,O k,O l,J 0,(.slice none 0 0)] 203)->R (.pointer (pvA n)) o):Calls Tryz.prog 165 #[] w (aT R):=rvc [] (.leaf) Tryz.func165 h
theorem C5(d u:oA)(au v:Nat){R:aK}{w:World}(h:ai d λp8=>∃x:Int,w.cell? (p8.add 8)=some (J x)/\split (decide ((((au:Nat):Int):Int)>(i64.wrap (36028797018963968 - x)))) (R (.tuple #[]) w) (ai d λb9=>∃y:Int,w.cell? (b9.add 8)=some (J y)/\ai d λca=>ao w (ca.add 8) [J (i64.wrap (y+((au:Nat):Int)))] λj=>∃b:bP,ai d λz=>b 3 ((z.add 9).block)/\∃r:oA,∃cb A:Nat,j.drew.cell? (z.add 9)=some (.slice r cb A)/\ai d λB=>b 7 ((B.add 9).block)/\∃cc:oA,∃o cf:Nat,j.drew.cell? (B.add 9)=some (.slice cc o cf)/\ai d λC=>b 12 ((C.add 9).block)/\∃cg:oA,∃a cj:Nat,j.drew.cell? (C.add 9)=some (.slice cg a cj)/\(0<=(((a:Nat):Int):Int)/\(((a:Nat):Int):Int)<=((A:Nat):Int))/\(0<=(((o:Nat):Int):Int)/\(((o:Nat):Int):Int)<=((Int.toNat ((a:Nat):Int):Nat):Int))/\∀E:oA,E=(if(Int.toNat ((a:Nat):Int))=0 then r else(r:oA).map (·.add (0*1)))->∀F:Nat,F=(Int.toNat ((o:Nat):Int)) - 0->∀G:Nat,G=(Int.toNat ((a:Nat):Int)) - 0->∃H:oA,∃K M:Nat,∃s,(Builtin.append_ #[26,26] 26 #[(.slice E F G),(.slice u au v)]:Sem Value).run Tryz.prog j.drew=.ok (.slice H K M) s/\Kept (aX b [0,1,4,5,6,9,10,11]) j.drew s/\∃b1:bP,(∀i k,b i k->b1 i k)/\∃I:Nat->Option Addr->Nat->Nat->World->Prop,(∃m,I m H K M s)/\∀(m:Nat)(_gv:Nat->Value)(l:oA)(c p:Nat),∀f,I m l c p f->split (decide ((((c:Nat):Int):Int)>=16)) (∃q:bP,ai d λN=>q 4 ((N.add 0).block)/\∃P Q S T U V W X:Int,ar f.drew (N.add 0) 0 [O P,O Q,O S,O T,O U,O V,O W,O X]/\16<=c/\ai l λZ=>q 7 (Z.block)/\∃an az aA aC aN a0 a1 a2 a3 a4 a5 a6 a7 a8 a9 ba:Int,ar f.drew Z 0 [O an,O az,O aA,O aC,O aN,O a0,O a1,O a2,O a3,O a4,O a5,O a6,O a7,O a8,O a9,O ba]/\Calls Tryz.prog 138 #[(.agg (q8a P Q S T U V W X)),(.agg (iK an az aA aC aN a0 a1 a2 a3 a4 a5 a6 a7 a8 a9 ba))] f.drew λe n=>∃bb bc bd bg bl bs bA bC:Int,e=.returned (.agg (q8a bb bc bd bg bl bs bA bC))/\Kept (aX q [0,1]) f.drew n/\∃b3:bP,(∀i k,q i k->b3 i k)/\ai d λck=>ao n (ck.add 0) (q8l bb bc bd bg bl bs bA bC) λt=>∃b4:bP,(∀i k,b3 i k->b4 i k)/\(0<=(16:Int)/\(16:Int)<=((c:Nat):Int))/\∀bN:oA,bN=(if p=(Int.toNat 16)then l else(l:oA).map (·.add ((Int.toNat 16)*1)))->∀b0:Nat,b0=c - (Int.toNat 16)->∀b5:Nat,b5=p - (Int.toNat 16)->∃m1,m1<m/\I m1 bN b0 b5 t) (∃b6:oA,∃b7 b8:Nat,∃n,(Builtin.append_ #[26,26] 26 #[(.slice none 0 0),(.slice l c p)]:Sem Value).run Tryz.prog f=.ok (.slice b6 b7 b8) n/\ai d λct=>ao n (ct.add 9) [(.slice b6 b7 b8)] λt=>R (.tuple #[]) t))):Calls Tryz.prog 106 #[(.pointer d),(.slice u au v)] w (aT R):=rvc [4] (aq (aq (aq (.node none (.node none (.node (some ⟨[(4,.one (.slice))],[4,39,40,41,42,43,44,45,46,47,48,49,50,51,52,53,54]⟩) .leaf .leaf) .leaf) .leaf)))) Tryz.func106 h
theorem BD(a:oA)(au j:Nat){R:aK}{w:World}(h:split ((((au:Nat):Int):Int) !=26) (R (.tuple #[(.pointer none),J 20]) w) ((0<=(8:Int)/\(8:Int)<((au:Nat):Int))/\ai a λa6=>∃r:Int,w.drew.cell? (a6.add (Int.toNat 8*1))=some (O r)/\(0<=(9:Int)/\(9:Int)<((au:Nat):Int))/\ai a λa7=>∃s:Int,w.drew.cell? (a7.add (Int.toNat 9*1))=some (O s)/\∀n:Int,n=(u64.wrap (BitVec.ofInt u64.bits (u64.wrap ((u64.wrap r:Int)*2 ^ 32)) ||| BitVec.ofInt u64.bits (u64.wrap s)).toNat)->(0<=(8:Int)/\(8:Int)<=((j:Nat):Int))/\(0<=(8:Int)/\(8:Int)<=((Int.toNat 8:Nat):Int))/\∀t:oA,t=(if(Int.toNat 8)=0 then a else(a:oA).map (·.add (0*1)))->∀u:Nat,u=(Int.toNat 8) - 0->∀a8:Nat,a8=(Int.toNat 8) - 0->8<=u/\ai t λa9=>∃v x y z A B C E:Int,ar w.drew a9 0 [O v,O x,O y,O z,O A,O B,O C,O E]/\∀(l:Nat)(c:World),l=w.drew.heap.size->c=w.drew.alloc (.cells #[O v,O x,O y,O z,O A,O B,O C,O E,J (i64.wrap n),(.slice none 0 0)] 203)->∃p:Bool->World->Prop,(∃b:bP,split (decide ((n:Int)>36028797018963968)) (p true c.drew) (split (decide ((n:Int)<16)) (b 9 (((vA l).add 0).block)/\∃F G H K M N P Q:Int,ar c.drew ((vA l).add 0) 0 [O F,O G,O H,O K,O M,O N,O P,O Q]/\Calls Tryz.prog 172 #[] c.drew λe d=>∃S T U V W X Z an:Int,e=.returned (.agg (q8a S T U V W X Z an))/\Kept (aX b [0,6,7,8,9]) c.drew d/\∃b1:bP,(∀i k,b i k->b1 i k)/\p (!(bk (q8a F G H K M N P Q) (q8a S T U V W X Z an))) d) (p false c.drew)))/\∀(_gv1:Nat->Value)(az:Bool),∀d,p az d->split az (R (.tuple #[(.pointer none),J 20]) d) (∀waits:Int,waits=(i64.wrap ((n:Int).tmod 16))->(0<=(i64.wrap (10+waits):Int)/\(i64.wrap (10+waits):Int)<=((au:Nat):Int))/\∀aA:oA,aA=(if j=(Int.toNat (i64.wrap (10+waits)))then a else(a:oA).map (·.add ((Int.toNat (i64.wrap (10+waits)))*1)))->∀q:Nat,q=au - (Int.toNat (i64.wrap (10+waits)))->∀ba:Nat,ba=j - (Int.toNat (i64.wrap (10+waits)))->∃I:Nat->Int->World->Prop,(∃m,I m 0 d)/\∀(m:Nat)(_gv2:Nat->Value)(f:Int),∀o,I m f o->split (decide ((f:Int)<((q:Nat):Int))) ((0<=(f:Int)/\(f:Int)<((q:Nat):Int))/\ai aA λbb=>∃aC:Int,o.cell? (bb.add (Int.toNat f*1))=some (O aC)/\split ((aC:Int) !=0) (R (.tuple #[(.pointer none),J 20]) o) (∃m1,m1<m/\I m1 (i64.wrap (f+1)) o)) ((0<=(i64.wrap (10+waits):Int)/\(i64.wrap (10+waits):Int)<=((j:Nat):Int))/\(0<=(i64.wrap (10+waits):Int)/\(i64.wrap (10+waits):Int)<=((Int.toNat (i64.wrap (10+waits)):Nat):Int))/\(0<=(10:Int)/\(10:Int)<=((Int.toNat (i64.wrap (10+waits)):Nat):Int))/\∀aN:oA,aN=(if(Int.toNat (i64.wrap (10+waits)))=(Int.toNat 10)then a else(a:oA).map (·.add ((Int.toNat 10)*1)))->∀a0:Nat,a0=(Int.toNat (i64.wrap (10+waits))) - (Int.toNat 10)->∀a1:Nat,a1=(Int.toNat (i64.wrap (10+waits))) - (Int.toNat 10)->∃a2:oA,∃a3 a4:Nat,∃a5,(Builtin.append_ #[26,26] 26 #[(.slice none 0 0),(.slice aN a0 a1)]:Sem Value).run Tryz.prog o=.ok (.slice a2 a3 a4) a5/\ao a5 ((vA l).add 9) [(.slice a2 a3 a4)] λbc=>R (.tuple #[(.pointer (pvA l)),J 0]) bc)))):Calls Tryz.prog 147 #[(.slice a au j)] w (aT R):=rvc [4,6] (aq (aq (aq (aq (.node none (.node none (.node (some ⟨[(43,.one (.bool))],(rgN 30 14)⟩) .leaf .leaf) .leaf) (aq (.node none (aq (.node none (.node (some ⟨[(52,.one (.int .i64))],[2,3,8,52,53,54,55,56,57,58]⟩) .leaf .leaf) .leaf)) .leaf))))))) Tryz.func147 h
theorem vo(B:oA)(au cf:Nat){R:aK}{w:World}(h:∀(y:Nat)(H:World),y=w.heap.size->H=w.alloc (.cells (#[O 0,O 0,O 0,O 0,O 0,O 0,O 0,O 0,(.slice none 0 0),J 0]) 187)->split ((((au:Nat):Int):Int) !=26) (ao H (vA y) [O 0,O 0,O 0,O 0,O 0,O 0,O 0,O 0,(.slice none 0 0),J 0] λC=>∃a c d f j l o p:Int,∃q:oA,∃r s:Nat,∃t:Int,ar C (vA y) 0 [O a,O c,O d,O f,O j,O l,O o,O p,.slice q r s,J t]/\R (.tuple #[(.agg #[O a,O c,O d,O f,O j,O l,O o,O p,(.slice q r s),J t]),J 20]) C) (∀(z:Nat)(C:World),z=H.heap.size->C=H.alloc (.cells (#[O 0,O 0,O 0,O 0,O 0,O 0,O 0,O 0,(.slice none 0 0),J 0]) 187)->∀i:Int,i=0->∃I:Nat->Int->World->Prop,(∃m,I m i C)/\∀(m:Nat)(_gv2:Nat->Value)(i1:Int),∀v,I m i1 v->split (decide ((i1:Int)<8)) ((0<=(i1:Int)/\(i1:Int)<((au:Nat):Int))/\ai B λcg=>∃Q:Int,v.cell? (cg.add (Int.toNat i1*1))=some (O Q)/\(0<=(i1:Int)/\(i1:Int)<((8:Nat):Int))/\ao v (((vA z).add 0).add (Int.toNat i1*1)) [O Q] λA=>∀i2:Int,i2=(i64.wrap (i1+1))->∃S,S<m/\I S i2 A) ((0<=(8:Int)/\(8:Int)<((au:Nat):Int))/\ai B λcj=>∃T:Int,v.drew.cell? (cj.add (Int.toNat 8*1))=some (O T)/\(0<=(9:Int)/\(9:Int)<((au:Nat):Int))/\ai B λck=>∃U:Int,v.drew.cell? (ck.add (Int.toNat 9*1))=some (O U)/\∀n:Int,n=(u64.wrap ((u64.wrap ((u64.wrap T:Int)*2 ^ 32))+(u64.wrap U)))->∃K:Bool->World->Prop,(∃b:bP,split (decide ((n:Int)>36028797018963968)) (K true v.drew.drew) (split (decide ((n:Int)<16)) (b 7 (((vA z).add 0).block)/\∃V W X Z an az aA aC:Int,ar v.drew.drew ((vA z).add 0) 0 [O V,O W,O X,O Z,O an,O az,O aA,O aC]/\Calls Tryz.prog 156 #[] v.drew.drew λe A=>∃aN a0 a1 a2 a3 a4 a5 a6:Int,e=.returned (.agg (q8a aN a0 a1 a2 a3 a4 a5 a6))/\Kept (aX b [0,6,7]) v.drew.drew A/\∃E:bP,(∀i k,b i k->E i k)/\K (!(bk (q8a V W X Z an az aA aC) (q8a aN a0 a1 a2 a3 a4 a5 a6))) A) (K false v.drew.drew)))/\∀(_gv3:Nat->Value)(a7:Bool),∀A,K a7 A->split a7 (ao A (vA y) [O 0,O 0,O 0,O 0,O 0,O 0,O 0,O 0,(.slice none 0 0),J 0] λM=>∃a c d f j l o p:Int,∃q:oA,∃r s:Nat,∃t:Int,ar M (vA y) 0 [O a,O c,O d,O f,O j,O l,O o,O p,.slice q r s,J t]/\R (.tuple #[(.agg #[O a,O c,O d,O f,O j,O l,O o,O p,(.slice q r s),J t]),J 20]) M) (ao A ((vA z).add 9) [J (i64.wrap n)] λM=>∀i2:Int,i2=10->∃N:Nat->Int->World->Prop,(∃F,N F i2 M)/\∀(F:Nat)(_gv4:Nat->Value)(i3:Int),∀u,N F i3 u->split (decide ((i3:Int)<26)) (split (decide ((i3:Int)<(i64.wrap (10+(i64.wrap ((n:Int).tmod 16)))))) (∃b:bP,b 1 (((vA z).add 8).block)/\∃a8:oA,∃a9 ba:Nat,u.drew.cell? ((vA z).add 8)=some (.slice a8 a9 ba)/\(0<=(i3:Int)/\(i3:Int)<((au:Nat):Int))/\ai B λbb=>b 5 ((bb.add (Int.toNat i3*1)).block)/\∃bc:Int,u.drew.cell? (bb.add (Int.toNat i3*1))=some (O bc)/\∀(bd:Nat)(x:World),bd=u.drew.heap.size->x=u.drew.alloc (.cells #[O bc] 22)->Kept (aX b [0,1]) u.drew x/\∃E:bP,(∀i k,b i k->E i k)/\∃bg:oA,∃bl bs:Nat,∃P,(Builtin.append_ #[26,26] 26 #[(.slice a8 a9 ba),(.slice (pvA bd) 1 1)]:Sem Value).run Tryz.prog x=.ok (.slice bg bl bs) P/\Kept (aX E [2,3]) x P/\∃b2:bP,(∀i k,E i k->b2 i k)/\ao P ((vA z).add 8) [(.slice bg bl bs)] λct=>∃b3:bP,(∀i k,b2 i k->b3 i k)/\∀i4:Int,i4=(i64.wrap (i3+1))->∃G,G<F/\N G i4 ct) ((0<=(i3:Int)/\(i3:Int)<((au:Nat):Int))/\ai B λcA=>∃bA:Int,u.cell? (cA.add (Int.toNat i3*1))=some (O bA)/\split ((bA:Int) !=0) (ao u (vA y) [O 0,O 0,O 0,O 0,O 0,O 0,O 0,O 0,(.slice none 0 0),J 0] λx=>∃a c d f j l o p:Int,∃q:oA,∃r s:Nat,∃t:Int,ar x (vA y) 0 [O a,O c,O d,O f,O j,O l,O o,O p,.slice q r s,J t]/\R (.tuple #[(.agg #[O a,O c,O d,O f,O j,O l,O o,O p,(.slice q r s),J t]),J 20]) x) (∀i4:Int,i4=(i64.wrap (i3+1))->∃G,G<F/\N G i4 u))) (∃bC bN b0 b4 b5 b6 b7 b8:Int,∃b9:oA,∃ca cb:Nat,∃cc:Int,ar u (vA z) 0 [O bC,O bN,O b0,O b4,O b5,O b6,O b7,O b8,.slice b9 ca cb,J cc]/\ao u (vA y) [O bC,O bN,O b0,O b4,O b5,O b6,O b7,O b8,(.slice b9 ca cb),J cc] λx=>∃a c d f j l o p:Int,∃q:oA,∃r s:Nat,∃t:Int,ar x (vA y) 0 [O a,O c,O d,O f,O j,O l,O o,O p,.slice q r s,J t]/\R (.tuple #[(.agg #[O a,O c,O d,O f,O j,O l,O o,O p,(.slice q r s),J t]),J 0]) x))))):Calls Tryz.prog 128 #[(.slice B au cf)] w (aT R):=rvc [5,6,7] (aq (aq (aq (.node none (aq (.node none (.node (some ⟨[(5,.one (.int .i64))],[5,12,13,14,15,16,17,18,19,20,21,22]⟩) .leaf .leaf) .leaf)) (aq (.node none (.node none (.node (some ⟨[(44,.one (.bool))],(rgN 33 12)⟩) .leaf .leaf) .leaf) (aq (.node none (aq (.node none (.node (some ⟨[(7,.one (.int .i64))],[3,7,49,50,51,52,53,54,55,56,57,58,59,60,61,62,63,64,65,66,67,68,69,70,71,72,73]⟩) .leaf .leaf) .leaf)) .leaf)))))))) Tryz.func128 h
end Go.Proofs.YtoghdgcmhbanbaaGreatDoor
end
section
set_option maxRecDepth 10000
set_option maxHeartbeats 1000000
namespace Go.Proofs.YtoghdgcmhbanbaaGreatDoor
open Go Go.RowKit V
open Go.IntKind (i64 u32 u64 wrap_i64 wrap_u32)
theorem Ni {w:World}:
 Calls Tryz.prog 165 #[] w λe w'=>∃v,e=.returned v/\∃g:Nat,∃L:DgL,v=.pointer (pvA g)/\jL w' g L Dg.new/\(∀k,L.X g k->w.heap.size<=k)/\Pu w w':=by
 refine CY ?_;have a:=Ch.refl (λ_=>False) w;refine Calls.mono (Gz) ?_;rintro e j ⟨_,rfl,rfl,c⟩;refine⟨_,_,_,_,_,_,_,_,rfl,?_⟩;refine mkd λd l b=>?_;have f:=b.blk;have a:=Ch.made (Ch.pu a c) b;exact⟨d,⟨λ_=>False,none,0,0⟩,rfl,⟨⟨_,f⟩,Rd.nil,λh=>h⟩,by have:=b.num;have:=c.size;rintro k (rfl|i);omega;exact i.elim,a⟩
theorem K1 {g:Nat}{L:DgL}{D:Dg}{Z:Nat->Prop}{y:Option Addr}{au z:Nat}{l:List U32}{K:List Int}{w:World}(h:jL w g L D)(i:Rd w Z y au z l)(c:cR w 1 K)(ok:D.Ok)(hlen:l.length<=1099511627776)(H:¬Z g)(I:¬g=1):
 Calls Tryz.prog 106 #[(.pointer (pvA g)),(.slice y au z)] w λe w'=>∃v,e=.returned v/\∃M:DgL,v=.tuple #[]/\jL w' g M (D.add K l)/\(∀k,(M.X g) k->(L.X g) k\/w.heap.size<=k)/\Ch (L.X g) w w':=by
 refine C5 (pvA g) _ _ _ ?_;have N:=ok.n;have az:=i;have aA:=h.lt g (.inl rfl);have j:=Ch.refl (L.X g) w;have bb:=h.lt;have bc:=i.lt;have bd:=c.lt;obtain⟨⟨hT,b⟩,q,A⟩:=h;have bg:=q.lt;refine ah _ rfl ⟨_,b.at rfl,?_⟩;refine af (λB=>?_) (λB=>?_)
 ·exact⟨L,rfl,by have C:(l.length:Int)>36028797018963968 - D.n:=(by have:=i.len;rw[aa (by omega)]at B;omega);rw[Dg.add,if_pos C];exact⟨⟨_,b⟩,q,A⟩,λk c=>.inl c,j⟩
 ·have bl:=i.len;have bs:=q.len;have N:=ok.n;have bA:=ok.len;have bC:=q.cap;rw[aa (by omega)]at B;refine ah _ rfl ⟨_,b.at rfl,ah _ rfl (aL b (by simp) λE r=>?_)⟩;have b:Blk E g #[O D.st.a,O D.st.b,O D.st.c,O D.st.d,O D.st.e,O D.st.f,O D.st.g,O D.st.h,J (i64.wrap (D.n+((au:Nat):Int))),(.slice L.a L.n L.c)] _:=r.blk.cast (by kernel_rfl);refine⟨bXU [] [3,7,12] E.drew (λ_=>False),?_⟩;have b:=Blk.drew b;refine ah _ rfl ⟨.inl (by decide),_,_,_,b.at rfl,ah _ rfl ⟨.inl (by decide),_,_,_,b.at rfl,ah _ rfl ⟨.inl (by decide),_,_,_,b.at rfl,by omega,by omega,?_⟩⟩⟩;have q:=(q.ch r.ch (λk n e=>(A) (e▸n))).pu (Pu.aw _);rintro bN aC b0 aN b1 a0;have a1:=Rd.all q aC aN a0 (by omega) (by omega);have i:=(i.ch r.ch (λk n e=>(H) (e▸n))).pu (Pu.aw _);have j:=Ch.drew (Ch.call j r.ch (by exact λk c=>.inl (.inl c)));refine LW sL a1 (by omega) i (by omega) (by omega) λb2 b3 a2 a3 s=>?_;refine bXU.D4 s (by decide) ?_;have j:=Ch.pu j s;have i:=i.pu s;have c:=((c.ch r.ch (λk n e=>(I) (e▸n))).pu (Pu.aw _)).pu s;have b:=Pu.blk s b;refine⟨λmz P t Q W=>∃u:Nat->Prop,∃a:List U32,∃S:S8,∃n2:Int,mz=a.length/\(bf K S a=bf K D.st (D.waits++l))/\(¬u g)/\(a.length<=1099511627800)/\(n2=D.n+l.length)/\Rd W u P t Q a/\Ch (L.X g) w W/\Rd W Z y au z l/\cR W 1 K/\Blk W g #[O S.a,O S.b,O S.c,O S.d,O S.e,O S.f,O S.g,O S.h,J n2,(.slice L.a L.n L.c)] hT,⟨_,(λk=>(L.Y k\/E.drew.heap.size<=k)/\k<a2.heap.size),(D.waits++l),D.st,_,rfl,rfl,(by rintro⟨h|h,_⟩;exact A h;exact absurd (Nat.lt_of_lt_of_le aA (Nat.le_trans r.kept.size h)) (Nat.lt_irrefl _)),(by rw[List.length_append];omega),(by rw[aa (by omega)];omega),a3,j,i,c,b⟩,?_⟩;rintro _ _ P t Q F ⟨u,a,S,n2,rfl,R,T,b4,U,d,j,i,c,b⟩;refine af (λc2=>?_) (λc2=>?_)
  ·refine⟨bXU [] [4,7] F.drew (λ_=>False),?_⟩;have b:=Blk.drew b;have d:=d.pu (Pu.aw _);refine ah _ rfl ⟨.inl (by decide),_,_,_,_,_,_,_,_,⟨b.at2 rfl,b.at2 rfl,b.at2 rfl,b.at2 rfl,b.at2 rfl,b.at2 rfl,b.at2 rfl,b.at2 rfl⟩,by omega,?_⟩;obtain⟨p3,a4,b5,f⟩:=d.u32 (by omega);refine ah p3 a4 ⟨.inl (by decide),_,_,_,_,_,_,_,_,_,_,_,_,_,_,_,_,⟨f 0 (by omega),f 1 (by omega),f 2 (by omega),f 3 (by omega),f 4 (by omega),f 5 (by omega),f 6 (by omega),f 7 (by omega),f 8 (by omega),f 9 (by omega),f 10 (by omega),f 11 (by omega),f 12 (by omega),f 13 (by omega),f 14 (by omega),f 15 (by omega)⟩,?_⟩;have c:=c.pu (Pu.aw _);refine Calls.mono (GA c _ _ _ _ _ _ _ _ _ _ _ _ _ _ _ _ _ _ _ _ _ _ _ _) ?_;rintro e a5 ⟨_,rfl,rfl,p⟩;refine⟨_,_,_,_,_,_,_,_,rfl,?_⟩;refine bXU.D4 p (by decide) ?_;have b:=Pu.blk p b;refine ah _ rfl (aL b (by simp) λx o=>?_);have b:Blk x g #[O (jq K (S8.mk S.a S.b S.c S.d S.e S.f S.g S.h) [((a.getD 0 ⟨0⟩).v),((a.getD 1 ⟨0⟩).v),((a.getD 2 ⟨0⟩).v),((a.getD 3 ⟨0⟩).v),((a.getD 4 ⟨0⟩).v),((a.getD 5 ⟨0⟩).v),((a.getD 6 ⟨0⟩).v),((a.getD 7 ⟨0⟩).v),((a.getD 8 ⟨0⟩).v),((a.getD 9 ⟨0⟩).v),((a.getD 10 ⟨0⟩).v),((a.getD 11 ⟨0⟩).v),((a.getD 12 ⟨0⟩).v),((a.getD 13 ⟨0⟩).v),((a.getD 14 ⟨0⟩).v),((a.getD 15 ⟨0⟩).v)]).a,O (jq K (S8.mk S.a S.b S.c S.d S.e S.f S.g S.h) [((a.getD 0 ⟨0⟩).v),((a.getD 1 ⟨0⟩).v),((a.getD 2 ⟨0⟩).v),((a.getD 3 ⟨0⟩).v),((a.getD 4 ⟨0⟩).v),((a.getD 5 ⟨0⟩).v),((a.getD 6 ⟨0⟩).v),((a.getD 7 ⟨0⟩).v),((a.getD 8 ⟨0⟩).v),((a.getD 9 ⟨0⟩).v),((a.getD 10 ⟨0⟩).v),((a.getD 11 ⟨0⟩).v),((a.getD 12 ⟨0⟩).v),((a.getD 13 ⟨0⟩).v),((a.getD 14 ⟨0⟩).v),((a.getD 15 ⟨0⟩).v)]).b,O (jq K (S8.mk S.a S.b S.c S.d S.e S.f S.g S.h) [((a.getD 0 ⟨0⟩).v),((a.getD 1 ⟨0⟩).v),((a.getD 2 ⟨0⟩).v),((a.getD 3 ⟨0⟩).v),((a.getD 4 ⟨0⟩).v),((a.getD 5 ⟨0⟩).v),((a.getD 6 ⟨0⟩).v),((a.getD 7 ⟨0⟩).v),((a.getD 8 ⟨0⟩).v),((a.getD 9 ⟨0⟩).v),((a.getD 10 ⟨0⟩).v),((a.getD 11 ⟨0⟩).v),((a.getD 12 ⟨0⟩).v),((a.getD 13 ⟨0⟩).v),((a.getD 14 ⟨0⟩).v),((a.getD 15 ⟨0⟩).v)]).c,O (jq K (S8.mk S.a S.b S.c S.d S.e S.f S.g S.h) [((a.getD 0 ⟨0⟩).v),((a.getD 1 ⟨0⟩).v),((a.getD 2 ⟨0⟩).v),((a.getD 3 ⟨0⟩).v),((a.getD 4 ⟨0⟩).v),((a.getD 5 ⟨0⟩).v),((a.getD 6 ⟨0⟩).v),((a.getD 7 ⟨0⟩).v),((a.getD 8 ⟨0⟩).v),((a.getD 9 ⟨0⟩).v),((a.getD 10 ⟨0⟩).v),((a.getD 11 ⟨0⟩).v),((a.getD 12 ⟨0⟩).v),((a.getD 13 ⟨0⟩).v),((a.getD 14 ⟨0⟩).v),((a.getD 15 ⟨0⟩).v)]).d,O (jq K (S8.mk S.a S.b S.c S.d S.e S.f S.g S.h) [((a.getD 0 ⟨0⟩).v),((a.getD 1 ⟨0⟩).v),((a.getD 2 ⟨0⟩).v),((a.getD 3 ⟨0⟩).v),((a.getD 4 ⟨0⟩).v),((a.getD 5 ⟨0⟩).v),((a.getD 6 ⟨0⟩).v),((a.getD 7 ⟨0⟩).v),((a.getD 8 ⟨0⟩).v),((a.getD 9 ⟨0⟩).v),((a.getD 10 ⟨0⟩).v),((a.getD 11 ⟨0⟩).v),((a.getD 12 ⟨0⟩).v),((a.getD 13 ⟨0⟩).v),((a.getD 14 ⟨0⟩).v),((a.getD 15 ⟨0⟩).v)]).e,O (jq K (S8.mk S.a S.b S.c S.d S.e S.f S.g S.h) [((a.getD 0 ⟨0⟩).v),((a.getD 1 ⟨0⟩).v),((a.getD 2 ⟨0⟩).v),((a.getD 3 ⟨0⟩).v),((a.getD 4 ⟨0⟩).v),((a.getD 5 ⟨0⟩).v),((a.getD 6 ⟨0⟩).v),((a.getD 7 ⟨0⟩).v),((a.getD 8 ⟨0⟩).v),((a.getD 9 ⟨0⟩).v),((a.getD 10 ⟨0⟩).v),((a.getD 11 ⟨0⟩).v),((a.getD 12 ⟨0⟩).v),((a.getD 13 ⟨0⟩).v),((a.getD 14 ⟨0⟩).v),((a.getD 15 ⟨0⟩).v)]).f,O (jq K (S8.mk S.a S.b S.c S.d S.e S.f S.g S.h) [((a.getD 0 ⟨0⟩).v),((a.getD 1 ⟨0⟩).v),((a.getD 2 ⟨0⟩).v),((a.getD 3 ⟨0⟩).v),((a.getD 4 ⟨0⟩).v),((a.getD 5 ⟨0⟩).v),((a.getD 6 ⟨0⟩).v),((a.getD 7 ⟨0⟩).v),((a.getD 8 ⟨0⟩).v),((a.getD 9 ⟨0⟩).v),((a.getD 10 ⟨0⟩).v),((a.getD 11 ⟨0⟩).v),((a.getD 12 ⟨0⟩).v),((a.getD 13 ⟨0⟩).v),((a.getD 14 ⟨0⟩).v),((a.getD 15 ⟨0⟩).v)]).g,O (jq K (S8.mk S.a S.b S.c S.d S.e S.f S.g S.h) [((a.getD 0 ⟨0⟩).v),((a.getD 1 ⟨0⟩).v),((a.getD 2 ⟨0⟩).v),((a.getD 3 ⟨0⟩).v),((a.getD 4 ⟨0⟩).v),((a.getD 5 ⟨0⟩).v),((a.getD 6 ⟨0⟩).v),((a.getD 7 ⟨0⟩).v),((a.getD 8 ⟨0⟩).v),((a.getD 9 ⟨0⟩).v),((a.getD 10 ⟨0⟩).v),((a.getD 11 ⟨0⟩).v),((a.getD 12 ⟨0⟩).v),((a.getD 13 ⟨0⟩).v),((a.getD 14 ⟨0⟩).v),((a.getD 15 ⟨0⟩).v)]).h,J n2,(.slice L.a L.n L.c)] _:=o.blk.cast (by kernel_rfl);refine bXU.grow o.ch ?_;refine⟨by omega,?_⟩;have d:=(d.pu p).ch o.ch (λk n e=>(T) (e▸n));rintro b6 a6 b7 a7 b8 a8;have a9:=Rd.from_ (lo:=16) d a6 a7 a8 (by omega) (by have:=d.cap;omega);have j:=Ch.call (Ch.pu (Ch.drew j) p) o.ch (by exact λk c=>.inl (.inl c));have i:=((i.pu (Pu.aw _)).pu p).ch o.ch (λk n e=>(H) (e▸n));have c:=(c.pu p).ch o.ch (λk n e=>(I) (e▸n));exact⟨_,by rw[List.length_drop];have:=d.len;omega,u,(a.drop 16),(jq K S ((a.take 16).map U32.v)),n2,rfl,(by rw[<-R,<-dy (by have:=d.len;omega)]),T,(by rw[List.length_drop];omega),U,a9,j,i,c,b.cast (mB (congrArg (Value.int .u32) (by rw[ji (by have:=d.len;omega)])) (congrArg (Value.int .u32) (by rw[ji (by have:=d.len;omega)])) (congrArg (Value.int .u32) (by rw[ji (by have:=d.len;omega)])) (congrArg (Value.int .u32) (by rw[ji (by have:=d.len;omega)])) (congrArg (Value.int .u32) (by rw[ji (by have:=d.len;omega)])) (congrArg (Value.int .u32) (by rw[ji (by have:=d.len;omega)])) (congrArg (Value.int .u32) (by rw[ji (by have:=d.len;omega)])) (congrArg (Value.int .u32) (by rw[ji (by have:=d.len;omega)])) (rfl) (rfl))⟩
  ·have ba:=j.size;have V:¬F.heap.size<=g:=by omega
   refine lX sL d (by omega) (by omega) λX an a5 G p=>?_;have b:=Pu.blk p b;refine ah _ rfl (aL b (by simp) λx o=>?_);have b:Blk x g #[O S.a,O S.b,O S.c,O S.d,O S.e,O S.f,O S.g,O S.h,J n2,(.slice X t an)] _:=o.blk.cast (by kernel_rfl);have G:=G.ch o.ch (λk n e=>V (e▸n.1));have j:=Ch.call (Ch.pu j p) o.ch (by exact λk c=>.inl (.inl c));exact⟨⟨λk=>F.heap.size<=k/\k<x.heap.size,X,t,an⟩,rfl,by have N:=ok.n;have C:¬(l.length:Int)>36028797018963968 - D.n:=(by have:=az.len;omega);have ha:bf K D.st (D.waits++l)=(S,a):=(by rw[<-R,eB (by have:=d.len;omega)]);rw[Dg.add,if_neg C,ha];exact⟨⟨_,Blk.cast b (by rw[<-U])⟩,(G).Lc (λk c=>⟨c.1.1,c.2⟩) (λk c=>c.2),λh=>absurd h.1 V⟩,λk c=>c.elim (λe=>.inl (.inl e)) (λh=>.inr (Nat.le_trans ba h.1)),j⟩
theorem Mm {Z:Nat->Prop}{Q:Option Addr}{au R:Nat}{l:List U32}{w:World}(c:Rd w Z Q au R l)(hw:∀x∈l,0<=x.v/\x.v<4294967296):
 Calls Tryz.prog 147 #[(.slice Q au R)] w λe w'=>∃v,e=.returned v/\∃p:oA,v=.tuple #[(.pointer p),J (Dg.aF l)]/\(Dg.aF l=0->∃g L,p=some (vA g)/\jL w' g L (Dg.load l)/\∀k,L.X g k->w.heap.size<=k)/\Pu w w':=by
 refine BD _ _ _ ?_;have hl:=c.len;have b7:=c.cap;have b:=Ch.refl (λ_=>False) w;have b8:=c.lt;refine aG (λc1=>?_) (λc1=>?_)
 ·exact⟨none,congrArg Value.tuple (ly (rfl) (congrArg (Value.int .i64) (by rw[Dg.j5 (by omega)]))),λh=>absurd h (by rw[Dg.j5 (by omega)];omega),b⟩
 ·have j:l.length=26:=by omega
  have E:=Dg.nOf_eq hw j;refine⟨by omega,?_⟩;obtain⟨p2,a7,b9,a8⟩:=c.u32 (by omega);refine ah p2 a7 ?_;have c:=c.pu (Pu.aw _);refine⟨_,a8 8 (by omega),by omega,?_⟩;obtain⟨p3,a9,ca,ba⟩:=c.u32 (by omega);refine ah p3 a9 ⟨_,ba 9 (by omega),?_⟩;rintro n bb;obtain rfl:n=Dg.nOf l:=bb.trans (by exact E.1);refine⟨by omega,by omega,?_⟩;rintro cb bc cc bd cf bg;have bl:=Rd.cut (lo:=0) (hi:=(Int.toNat 8)) c bc bd bg (by omega) (by omega) (by omega);refine⟨by omega,?_⟩;obtain⟨p4,bs,cg,r⟩:=bl.u32 (by omega);refine ah p4 bs ⟨_,_,_,_,_,_,_,_,⟨r 0 (by omega),r 1 (by omega),r 2 (by omega),r 3 (by omega),r 4 (by omega),r 5 (by omega),r 6 (by omega),r 7 (by omega)⟩,?_⟩;have b:=Ch.drew b;refine mkd λs wv o=>?_;have S:=o.lo b;have a:=o.blk;refine⟨_,?_,λ_ cj bA h=>h⟩;refine⟨bXU [9] [] wv.drew (λ_=>False),?_⟩;refine af (λF=>?_) (λF=>?_)
  ·refine aU ?_;have b:=Ch.drew (Ch.made b o);exact⟨none,congrArg Value.tuple (ly (rfl) (congrArg (Value.int .i64) (by rw[Dg.eH j (.inl F)]))),λh=>absurd h (by rw[Dg.eH j (.inl F)];omega),b⟩
  ·refine af (λT=>?_) (λT=>?_)
   ·have a:=Blk.drew a;refine⟨.inr ⟨by decide,bX.ld a (λh=>h) _⟩,_,_,_,_,_,_,_,_,⟨a.at2 rfl,a.at2 rfl,a.at2 rfl,a.at2 rfl,a.at2 rfl,a.at2 rfl,a.at2 rfl,a.at2 rfl⟩,?_⟩;refine Calls.mono (Gz) ?_;rintro e bA ⟨_,rfl,rfl,G⟩;refine⟨_,_,_,_,_,_,_,_,rfl,?_⟩;refine bXU.cV G (by decide) ?_;refine bo (λU=>?_) (λU=>?_)
    ·have V:Dg.jj l≠S8.first:=by intro h;simp[Dg.jj,S8.first]at h;simp[bk,eqL,jt,S8.first,h]at U
     have b:=Ch.pu (Ch.drew (Ch.made b o)) G;exact⟨none,congrArg Value.tuple (ly (rfl) (congrArg (Value.int .i64) (by rw[Dg.eH j (.inr ⟨T,V⟩)]))),λh=>absurd h (by rw[Dg.eH j (.inr ⟨T,V⟩)];omega),b⟩
    ·have V:Dg.jj l=S8.first:=by simp[bk,eqL,jt,S8.first]at U;simp[Dg.jj,S8.first,U]
     have t:¬(Dg.nOf l>36028797018963968\/(Dg.nOf l<16/\Dg.jj l≠S8.first)):=by rintro(h|h);exact F h;exact h.2 V
     rintro waits az;obtain rfl:waits=Dg.nOf l % 16:=az.trans (by rw[Int.tmod_eq_emod_of_nonneg E.2.1,aa (by omega)]);refine⟨by(simp only[wrap_i64];omega),?_⟩;have c:=((c.pu o.pu).pu (Pu.aw _)).pu G;rintro aA aC u aN a0 a1;have q:=Rd.from_ (lo:=(Int.toNat (i64.wrap (10+(Dg.nOf l % 16))))) c aC aN a1 (by(rw[Dg.lo_eq];omega)) (by have:=c.cap;omega);have b:=Ch.pu (Ch.drew (Ch.made b o)) G;have a:=Pu.blk G a;refine⟨λmz d W=>mz=(u - d).toNat/\(0<=d/\d<=u)/\(∀(i:Nat)(x:U32),i<d.toNat->(l.drop (10+(Dg.nOf l % 16).toNat))[i]? =some x->x.v=0)/\Ch (λ_=>False) w W/\Rd W Z Q au R l/\Blk W s #[O (((l.drop 0).take ((Int.toNat 8) - 0)).getD 0 ⟨0⟩).v,O (((l.drop 0).take ((Int.toNat 8) - 0)).getD 1 ⟨0⟩).v,O (((l.drop 0).take ((Int.toNat 8) - 0)).getD 2 ⟨0⟩).v,O (((l.drop 0).take ((Int.toNat 8) - 0)).getD 3 ⟨0⟩).v,O (((l.drop 0).take ((Int.toNat 8) - 0)).getD 4 ⟨0⟩).v,O (((l.drop 0).take ((Int.toNat 8) - 0)).getD 5 ⟨0⟩).v,O (((l.drop 0).take ((Int.toNat 8) - 0)).getD 6 ⟨0⟩).v,O (((l.drop 0).take ((Int.toNat 8) - 0)).getD 7 ⟨0⟩).v,J (i64.wrap (Dg.nOf l)),(.slice none 0 0)] 203/\Rd W Z aA u a0 (l.drop (Int.toNat (i64.wrap (10+(Dg.nOf l % 16))))),⟨_,rfl,(by omega),(by intro i x h;omega),b,c,a,q⟩,?_⟩;rintro _ _ d H ⟨rfl,h0,hq,b,c,a,q⟩;refine af (λc8=>?_) (λc8=>?_)
     ·obtain⟨p9,x9,bC,A,B,bN⟩:=q.ld (i:=d) (by omega) (by omega);refine⟨by constructor<;>omega,ah p9 bC ⟨_,bN 0 (by decide),?_⟩⟩;refine aG (λX=>?_) (λX=>?_)
      ·exact⟨none,congrArg Value.tuple (ly (rfl) (congrArg (Value.int .i64) (by rw[Dg.lo_eq]at A;rw[Dg.cw j t A X]))),λh=>absurd h (by rw[Dg.cw j t (Dg.lo_eq▸A) X];omega),b⟩
      ·exact⟨_,by rw[wrap_i64];omega,rfl,by rw[wrap_i64];omega,by rw[aa (by omega)];intro i x hi f;by_cases he:i=d.toNat;(subst he;(rw[Dg.lo_eq]at A;rw[f]at A;injection A with e;rw[e];simpa using X));exact hq i x (by omega) f,b,c,a,q⟩
     ·have B:=b;have b0:s<H.heap.size:=a.lt;refine⟨by(simp only[wrap_i64];omega),by(simp only[wrap_i64];omega),by(simp only[wrap_i64];omega),?_⟩;rintro b1 a2 I a3 b2 a4;have a5:=Rd.cut (lo:=10) (hi:=(Int.toNat (i64.wrap (10+(Dg.nOf l % 16))))) c a2 a3 a4 (by(rw[Dg.lo_eq];omega)) (by(rw[Dg.lo_eq];omega)) (by omega);refine lX sL a5 (by have:= @Dg.lo_eq l;omega) (by have:= @Dg.lo_eq l;omega) λK M a6 y N=>?_;have a:=Pu.blk N a;refine aL a (by simp) λP z=>?_;have a:Blk P s #[O (((l.drop 0).take ((Int.toNat 8) - 0)).getD 0 ⟨0⟩).v,O (((l.drop 0).take ((Int.toNat 8) - 0)).getD 1 ⟨0⟩).v,O (((l.drop 0).take ((Int.toNat 8) - 0)).getD 2 ⟨0⟩).v,O (((l.drop 0).take ((Int.toNat 8) - 0)).getD 3 ⟨0⟩).v,O (((l.drop 0).take ((Int.toNat 8) - 0)).getD 4 ⟨0⟩).v,O (((l.drop 0).take ((Int.toNat 8) - 0)).getD 5 ⟨0⟩).v,O (((l.drop 0).take ((Int.toNat 8) - 0)).getD 6 ⟨0⟩).v,O (((l.drop 0).take ((Int.toNat 8) - 0)).getD 7 ⟨0⟩).v,J (i64.wrap (Dg.nOf l)),(.slice K I M)] _:=z.blk.cast (by kernel_rfl);have y:=y.ch z.ch (λk f e=>absurd f.1 (by omega));have b:=Ch.call (Ch.pu b N) z.ch (by exact λk e=>.inr (e▸S));exact⟨_,congrArg Value.tuple (ly (rfl) (congrArg (Value.int .i64) (by rw[(Dg.j4 j t (λi x f=>hq i x (by have:=(List.getElem?_eq_some_iff.1 f).1;rw[List.length_drop]at this;have:= @Dg.lo_eq l;omega) f))]))),λ_=>⟨s,⟨λk=>(H.heap.size<=k/\k<a6.heap.size)/\k<P.heap.size,K,I,M⟩,rfl,⟨⟨_,Blk.cast a (by simp[Dg.load,Dg.jj];have:=E.2;exact(aa (x:=Dg.nOf l) (by omega)).symm)⟩,by have h9:=(y).rd;have h8:= @Dg.lo_eq l;have e:Dg.load l=⟨Dg.jj l,Dg.nOf l,(l.drop 10).take (Int.toNat (i64.wrap (10+Dg.nOf l % 16)) - 10)⟩:=(by rw[h8,Nat.add_sub_cancel_left];rfl);rw[e];exact h9,by intro h;exact absurd h.1.1 (by have:=o.num;have:=B.size;omega)⟩,λk hk=>hk.elim (λe=>by rw[e];exact S) (λh=>by have:=B.size;have:=h.1.1;omega)⟩,b⟩
   ·have t:¬(Dg.nOf l>36028797018963968\/(Dg.nOf l<16/\Dg.jj l≠S8.first)):=by rintro(h|h);exact F h;exact T h.1
    refine bG ?_;rintro waits az;obtain rfl:waits=Dg.nOf l % 16:=az.trans (by rw[Int.tmod_eq_emod_of_nonneg E.2.1,aa (by omega)]);refine⟨by(simp only[wrap_i64];omega),?_⟩;have c:=(c.pu o.pu).pu (Pu.aw _);rintro aA aC u aN a0 a1;have q:=Rd.from_ (lo:=(Int.toNat (i64.wrap (10+(Dg.nOf l % 16))))) c aC aN a1 (by(rw[Dg.lo_eq];omega)) (by have:=c.cap;omega);have b:=Ch.drew (Ch.made b o);have a:=Blk.drew a;refine⟨λmz d W=>mz=(u - d).toNat/\(0<=d/\d<=u)/\(∀(i:Nat)(x:U32),i<d.toNat->(l.drop (10+(Dg.nOf l % 16).toNat))[i]? =some x->x.v=0)/\Ch (λ_=>False) w W/\Rd W Z Q au R l/\Blk W s #[O (((l.drop 0).take ((Int.toNat 8) - 0)).getD 0 ⟨0⟩).v,O (((l.drop 0).take ((Int.toNat 8) - 0)).getD 1 ⟨0⟩).v,O (((l.drop 0).take ((Int.toNat 8) - 0)).getD 2 ⟨0⟩).v,O (((l.drop 0).take ((Int.toNat 8) - 0)).getD 3 ⟨0⟩).v,O (((l.drop 0).take ((Int.toNat 8) - 0)).getD 4 ⟨0⟩).v,O (((l.drop 0).take ((Int.toNat 8) - 0)).getD 5 ⟨0⟩).v,O (((l.drop 0).take ((Int.toNat 8) - 0)).getD 6 ⟨0⟩).v,O (((l.drop 0).take ((Int.toNat 8) - 0)).getD 7 ⟨0⟩).v,J (i64.wrap (Dg.nOf l)),(.slice none 0 0)] 203/\Rd W Z aA u a0 (l.drop (Int.toNat (i64.wrap (10+(Dg.nOf l % 16))))),⟨_,rfl,(by omega),(by intro i x h;omega),b,c,a,q⟩,?_⟩;rintro _ _ d H ⟨rfl,h0,hq,b,c,a,q⟩;refine af (λb3=>?_) (λb3=>?_)
    ·obtain⟨b4,ck,b5,C,ct,b6⟩:=q.ld (i:=d) (by omega) (by omega);refine⟨by constructor<;>omega,ah b4 b5 ⟨_,b6 0 (by decide),?_⟩⟩;refine aG (λan=>?_) (λan=>?_)
     ·exact⟨none,congrArg Value.tuple (ly (rfl) (congrArg (Value.int .i64) (by rw[Dg.lo_eq]at C;rw[Dg.cw j t C an]))),λh=>absurd h (by rw[Dg.cw j t (Dg.lo_eq▸C) an];omega),b⟩
     ·exact⟨_,by rw[wrap_i64];omega,rfl,by rw[wrap_i64];omega,by rw[aa (by omega)];intro i x hi f;by_cases he:i=d.toNat;(subst he;(rw[Dg.lo_eq]at C;rw[f]at C;injection C with e;rw[e];simpa using an));exact hq i x (by omega) f,b,c,a,q⟩
    ·have B:=b;have b0:s<H.heap.size:=a.lt;refine⟨by(simp only[wrap_i64];omega),by(simp only[wrap_i64];omega),by(simp only[wrap_i64];omega),?_⟩;rintro b1 a2 I a3 b2 a4;have a5:=Rd.cut (lo:=10) (hi:=(Int.toNat (i64.wrap (10+(Dg.nOf l % 16))))) c a2 a3 a4 (by(rw[Dg.lo_eq];omega)) (by(rw[Dg.lo_eq];omega)) (by omega);refine lX sL a5 (by have:= @Dg.lo_eq l;omega) (by have:= @Dg.lo_eq l;omega) λK M a6 y N=>?_;have a:=Pu.blk N a;refine aL a (by simp) λP z=>?_;have a:Blk P s #[O (((l.drop 0).take ((Int.toNat 8) - 0)).getD 0 ⟨0⟩).v,O (((l.drop 0).take ((Int.toNat 8) - 0)).getD 1 ⟨0⟩).v,O (((l.drop 0).take ((Int.toNat 8) - 0)).getD 2 ⟨0⟩).v,O (((l.drop 0).take ((Int.toNat 8) - 0)).getD 3 ⟨0⟩).v,O (((l.drop 0).take ((Int.toNat 8) - 0)).getD 4 ⟨0⟩).v,O (((l.drop 0).take ((Int.toNat 8) - 0)).getD 5 ⟨0⟩).v,O (((l.drop 0).take ((Int.toNat 8) - 0)).getD 6 ⟨0⟩).v,O (((l.drop 0).take ((Int.toNat 8) - 0)).getD 7 ⟨0⟩).v,J (i64.wrap (Dg.nOf l)),(.slice K I M)] _:=z.blk.cast (by kernel_rfl);have y:=y.ch z.ch (λk f e=>absurd f.1 (by omega));have b:=Ch.call (Ch.pu b N) z.ch (by exact λk e=>.inr (e▸S));exact⟨_,congrArg Value.tuple (ly (rfl) (congrArg (Value.int .i64) (by rw[(Dg.j4 j t (λi x f=>hq i x (by have:=(List.getElem?_eq_some_iff.1 f).1;rw[List.length_drop]at this;have:= @Dg.lo_eq l;omega) f))]))),λ_=>⟨s,⟨λk=>(H.heap.size<=k/\k<a6.heap.size)/\k<P.heap.size,K,I,M⟩,rfl,⟨⟨_,Blk.cast a (by simp[Dg.load,Dg.jj];have:=E.2;exact(aa (x:=Dg.nOf l) (by omega)).symm)⟩,by have h9:=(y).rd;have h8:= @Dg.lo_eq l;have e:Dg.load l=⟨Dg.jj l,Dg.nOf l,(l.drop 10).take (Int.toNat (i64.wrap (10+Dg.nOf l % 16)) - 10)⟩:=(by rw[h8,Nat.add_sub_cancel_left];rfl);rw[e];exact h9,by intro h;exact absurd h.1.1 (by have:=o.num;have:=B.size;omega)⟩,λk hk=>hk.elim (λe=>by rw[e];exact S) (λh=>by have:=B.size;have:=h.1.1;omega)⟩,b⟩
theorem Jl {Z:Nat->Prop}{X:Option Addr}{au an:Nat}{l:List U32}{w:World}(j:Rd w Z X au an l)(hw:∀x∈l,0<=x.v/\x.v<4294967296):
 Calls Tryz.prog 128 #[(.slice X au an)] w λe w'=>∃v,e=.returned v/\∃Z':Nat->Prop,∃A':oA,∃N' C':Nat,v=.tuple #[(.agg #[O (Dg.cW l).st.a,O (Dg.cW l).st.b,O (Dg.cW l).st.c,O (Dg.cW l).st.d,O (Dg.cW l).st.e,O (Dg.cW l).st.f,O (Dg.cW l).st.g,O (Dg.cW l).st.h,(.slice A' N' C'),J (Dg.cW l).n]),J (Dg.aF l)]/\Rd w' Z' A' N' C' (Dg.cW l).waits/\(∀k,Z' k->w.heap.size<=k)/\Pu w w':=by
 refine vo _ _ _ ?_;have hl:=j.len;have d:=Ch.refl (λ_=>False) w;have z:=j.lt;refine mkd λI wv az=>?_;have R:=az.lo d;have a:=az.blk;refine aG (λc1=>?_) (λc1=>?_)
 ·have c:=Dg.j5 (l:=l) (by omega);refine aI a rfl λbl ba=>?_;have a:=ba.blk;refine⟨_,_,_,_,_,_,_,_,_,_,_,_,⟨a.at rfl,a.at rfl,a.at rfl,a.at rfl,a.at rfl,a.at rfl,a.at rfl,a.at rfl,a.at rfl,a.at rfl⟩,?_⟩;have d:=Ch.call (Ch.made d az) ba.ch (by exact λk e=>.inr (e▸R));exact⟨λ_=>False,none,0,0,congrArg Value.tuple (ly (congrArg Value.agg (mB (congrArg (Value.int .u32) (by(rw[Dg.ay c];rfl))) (congrArg (Value.int .u32) (by(rw[Dg.ay c];rfl))) (congrArg (Value.int .u32) (by(rw[Dg.ay c];rfl))) (congrArg (Value.int .u32) (by(rw[Dg.ay c];rfl))) (congrArg (Value.int .u32) (by(rw[Dg.ay c];rfl))) (congrArg (Value.int .u32) (by(rw[Dg.ay c];rfl))) (congrArg (Value.int .u32) (by(rw[Dg.ay c];rfl))) (congrArg (Value.int .u32) (by(rw[Dg.ay c];rfl))) (by rfl) (congrArg (Value.int .i64) (by(rw[Dg.ay c];rfl))))) (congrArg (Value.int .i64) (by exact c.symm))),by rw[Dg.ay c];exact Rd.nil,λk h=>h.elim,d⟩
 ·have Q:l.length=26:=by omega
  have a0:=(Dg.nOf_eq hw Q).2;have d:=Ch.made d az;refine mkd λp bl V=>?_;have r:=V.lo d;have F:=V.ne a;have b:=V.blk;rintro _ rfl;have d:=Ch.made d V;have j:=(j.pu az.pu).pu V.pu;have a:=Made.old V a;refine⟨λA i1 W=>Ch (λ_=>False) w W/\Rd W Z X au an l/\(∃T,Blk W I #[O 0,O 0,O 0,O 0,O 0,O 0,O 0,O 0,(.slice none 0 0),J 0] T)/\((A=8/\i1=0/\(∃T,Blk W p #[O 0,O 0,O 0,O 0,O 0,O 0,O 0,O 0,(.slice none 0 0),J 0] T))\/(A=7/\i1=1/\(∃T,Blk W p #[O (l.getD 0 ⟨0⟩).v,O 0,O 0,O 0,O 0,O 0,O 0,O 0,(.slice none 0 0),J 0] T))\/(A=6/\i1=2/\(∃T,Blk W p #[O (l.getD 0 ⟨0⟩).v,O (l.getD 1 ⟨0⟩).v,O 0,O 0,O 0,O 0,O 0,O 0,(.slice none 0 0),J 0] T))\/(A=5/\i1=3/\(∃T,Blk W p #[O (l.getD 0 ⟨0⟩).v,O (l.getD 1 ⟨0⟩).v,O (l.getD 2 ⟨0⟩).v,O 0,O 0,O 0,O 0,O 0,(.slice none 0 0),J 0] T))\/(A=4/\i1=4/\(∃T,Blk W p #[O (l.getD 0 ⟨0⟩).v,O (l.getD 1 ⟨0⟩).v,O (l.getD 2 ⟨0⟩).v,O (l.getD 3 ⟨0⟩).v,O 0,O 0,O 0,O 0,(.slice none 0 0),J 0] T))\/(A=3/\i1=5/\(∃T,Blk W p #[O (l.getD 0 ⟨0⟩).v,O (l.getD 1 ⟨0⟩).v,O (l.getD 2 ⟨0⟩).v,O (l.getD 3 ⟨0⟩).v,O (l.getD 4 ⟨0⟩).v,O 0,O 0,O 0,(.slice none 0 0),J 0] T))\/(A=2/\i1=6/\(∃T,Blk W p #[O (l.getD 0 ⟨0⟩).v,O (l.getD 1 ⟨0⟩).v,O (l.getD 2 ⟨0⟩).v,O (l.getD 3 ⟨0⟩).v,O (l.getD 4 ⟨0⟩).v,O (l.getD 5 ⟨0⟩).v,O 0,O 0,(.slice none 0 0),J 0] T))\/(A=1/\i1=7/\(∃T,Blk W p #[O (l.getD 0 ⟨0⟩).v,O (l.getD 1 ⟨0⟩).v,O (l.getD 2 ⟨0⟩).v,O (l.getD 3 ⟨0⟩).v,O (l.getD 4 ⟨0⟩).v,O (l.getD 5 ⟨0⟩).v,O (l.getD 6 ⟨0⟩).v,O 0,(.slice none 0 0),J 0] T))\/(A=0/\i1=8/\(∃T,Blk W p #[O (l.getD 0 ⟨0⟩).v,O (l.getD 1 ⟨0⟩).v,O (l.getD 2 ⟨0⟩).v,O (l.getD 3 ⟨0⟩).v,O (l.getD 4 ⟨0⟩).v,O (l.getD 5 ⟨0⟩).v,O (l.getD 6 ⟨0⟩).v,O (l.getD 7 ⟨0⟩).v,(.slice none 0 0),J 0] T))),⟨_,d,j,⟨_,a⟩,.inl ⟨rfl,rfl,_,b⟩⟩,?_⟩;rintro _ _ i1 bs ⟨d,j,⟨_,a⟩,hU⟩;rcases hU with⟨rfl,rfl,_,b⟩|⟨rfl,rfl,_,b⟩|⟨rfl,rfl,_,b⟩|⟨rfl,rfl,_,b⟩|⟨rfl,rfl,_,b⟩|⟨rfl,rfl,_,b⟩|⟨rfl,rfl,_,b⟩|⟨rfl,rfl,_,b⟩|⟨rfl,rfl,_,b⟩
  ·refine aU ⟨by omega,?_⟩;obtain⟨p2,bA,dN,bC⟩:=j.u32 (by omega);refine ah p2 bA ⟨_,bC 0 (by omega),by decide,eE b (by simp) λt o=>?_⟩;have b:Blk t p #[O (l.getD 0 ⟨0⟩).v,O 0,O 0,O 0,O 0,O 0,O 0,O 0,(.slice none 0 0),J 0] _:=o.blk.cast (by kernel_rfl);rintro _ rfl;have d:=Ch.call d o.ch (by exact λk e=>.inr (e▸r));have j:=j.ch o.ch (λk f e=>(λf=>absurd (z _ f) (Nat.not_lt.2 r)) (e▸f));have a:=Ch.blk o.ch a (F);exact⟨7,by decide,d,j,⟨_,a⟩,.inr (.inl ⟨rfl,rfl,_,b⟩)⟩
  ·refine aU ⟨by omega,?_⟩;obtain⟨p3,bN,dT,b0⟩:=j.u32 (by omega);refine ah p3 bN ⟨_,b0 1 (by omega),by decide,eE b (by simp) λt o=>?_⟩;have b:Blk t p #[O (l.getD 0 ⟨0⟩).v,O (l.getD 1 ⟨0⟩).v,O 0,O 0,O 0,O 0,O 0,O 0,(.slice none 0 0),J 0] _:=o.blk.cast (by kernel_rfl);rintro _ rfl;have d:=Ch.call d o.ch (by exact λk e=>.inr (e▸r));have j:=j.ch o.ch (λk f e=>(λf=>absurd (z _ f) (Nat.not_lt.2 r)) (e▸f));have a:=Ch.blk o.ch a (F);exact⟨6,by decide,d,j,⟨_,a⟩,.inr (.inr (.inl ⟨rfl,rfl,_,b⟩))⟩
  ·refine aU ⟨by omega,?_⟩;obtain⟨p4,b1,ea,b2⟩:=j.u32 (by omega);refine ah p4 b1 ⟨_,b2 2 (by omega),by decide,eE b (by simp) λt o=>?_⟩;have b:Blk t p #[O (l.getD 0 ⟨0⟩).v,O (l.getD 1 ⟨0⟩).v,O (l.getD 2 ⟨0⟩).v,O 0,O 0,O 0,O 0,O 0,(.slice none 0 0),J 0] _:=o.blk.cast (by kernel_rfl);rintro _ rfl;have d:=Ch.call d o.ch (by exact λk e=>.inr (e▸r));have j:=j.ch o.ch (λk f e=>(λf=>absurd (z _ f) (Nat.not_lt.2 r)) (e▸f));have a:=Ch.blk o.ch a (F);exact⟨5,by decide,d,j,⟨_,a⟩,.inr (.inr (.inr (.inl ⟨rfl,rfl,_,b⟩)))⟩
  ·refine aU ⟨by omega,?_⟩;obtain⟨p5,b3,eb,b4⟩:=j.u32 (by omega);refine ah p5 b3 ⟨_,b4 3 (by omega),by decide,eE b (by simp) λt o=>?_⟩;have b:Blk t p #[O (l.getD 0 ⟨0⟩).v,O (l.getD 1 ⟨0⟩).v,O (l.getD 2 ⟨0⟩).v,O (l.getD 3 ⟨0⟩).v,O 0,O 0,O 0,O 0,(.slice none 0 0),J 0] _:=o.blk.cast (by kernel_rfl);rintro _ rfl;have d:=Ch.call d o.ch (by exact λk e=>.inr (e▸r));have j:=j.ch o.ch (λk f e=>(λf=>absurd (z _ f) (Nat.not_lt.2 r)) (e▸f));have a:=Ch.blk o.ch a (F);exact⟨4,by decide,d,j,⟨_,a⟩,.inr (.inr (.inr (.inr (.inl ⟨rfl,rfl,_,b⟩))))⟩
  ·refine aU ⟨by omega,?_⟩;obtain⟨p6,b5,ec,b6⟩:=j.u32 (by omega);refine ah p6 b5 ⟨_,b6 4 (by omega),by decide,eE b (by simp) λt o=>?_⟩;have b:Blk t p #[O (l.getD 0 ⟨0⟩).v,O (l.getD 1 ⟨0⟩).v,O (l.getD 2 ⟨0⟩).v,O (l.getD 3 ⟨0⟩).v,O (l.getD 4 ⟨0⟩).v,O 0,O 0,O 0,(.slice none 0 0),J 0] _:=o.blk.cast (by kernel_rfl);rintro _ rfl;have d:=Ch.call d o.ch (by exact λk e=>.inr (e▸r));have j:=j.ch o.ch (λk f e=>(λf=>absurd (z _ f) (Nat.not_lt.2 r)) (e▸f));have a:=Ch.blk o.ch a (F);exact⟨3,by decide,d,j,⟨_,a⟩,.inr (.inr (.inr (.inr (.inr (.inl ⟨rfl,rfl,_,b⟩)))))⟩
  ·refine aU ⟨by omega,?_⟩;obtain⟨p7,b7,ed,b8⟩:=j.u32 (by omega);refine ah p7 b7 ⟨_,b8 5 (by omega),by decide,eE b (by simp) λt o=>?_⟩;have b:Blk t p #[O (l.getD 0 ⟨0⟩).v,O (l.getD 1 ⟨0⟩).v,O (l.getD 2 ⟨0⟩).v,O (l.getD 3 ⟨0⟩).v,O (l.getD 4 ⟨0⟩).v,O (l.getD 5 ⟨0⟩).v,O 0,O 0,(.slice none 0 0),J 0] _:=o.blk.cast (by kernel_rfl);rintro _ rfl;have d:=Ch.call d o.ch (by exact λk e=>.inr (e▸r));have j:=j.ch o.ch (λk f e=>(λf=>absurd (z _ f) (Nat.not_lt.2 r)) (e▸f));have a:=Ch.blk o.ch a (F);exact⟨2,by decide,d,j,⟨_,a⟩,.inr (.inr (.inr (.inr (.inr (.inr (.inl ⟨rfl,rfl,_,b⟩))))))⟩
  ·refine aU ⟨by omega,?_⟩;obtain⟨p8,b9,ee,ca⟩:=j.u32 (by omega);refine ah p8 b9 ⟨_,ca 6 (by omega),by decide,eE b (by simp) λt o=>?_⟩;have b:Blk t p #[O (l.getD 0 ⟨0⟩).v,O (l.getD 1 ⟨0⟩).v,O (l.getD 2 ⟨0⟩).v,O (l.getD 3 ⟨0⟩).v,O (l.getD 4 ⟨0⟩).v,O (l.getD 5 ⟨0⟩).v,O (l.getD 6 ⟨0⟩).v,O 0,(.slice none 0 0),J 0] _:=o.blk.cast (by kernel_rfl);rintro _ rfl;have d:=Ch.call d o.ch (by exact λk e=>.inr (e▸r));have j:=j.ch o.ch (λk f e=>(λf=>absurd (z _ f) (Nat.not_lt.2 r)) (e▸f));have a:=Ch.blk o.ch a (F);exact⟨1,by decide,d,j,⟨_,a⟩,.inr (.inr (.inr (.inr (.inr (.inr (.inr (.inl ⟨rfl,rfl,_,b⟩)))))))⟩
  ·refine aU ⟨by omega,?_⟩;obtain⟨p9,cb,ei,cc⟩:=j.u32 (by omega);refine ah p9 cb ⟨_,cc 7 (by omega),by decide,eE b (by simp) λt o=>?_⟩;have b:Blk t p #[O (l.getD 0 ⟨0⟩).v,O (l.getD 1 ⟨0⟩).v,O (l.getD 2 ⟨0⟩).v,O (l.getD 3 ⟨0⟩).v,O (l.getD 4 ⟨0⟩).v,O (l.getD 5 ⟨0⟩).v,O (l.getD 6 ⟨0⟩).v,O (l.getD 7 ⟨0⟩).v,(.slice none 0 0),J 0] _:=o.blk.cast (by kernel_rfl);rintro _ rfl;have d:=Ch.call d o.ch (by exact λk e=>.inr (e▸r));have j:=j.ch o.ch (λk f e=>(λf=>absurd (z _ f) (Nat.not_lt.2 r)) (e▸f));have a:=Ch.blk o.ch a (F);exact⟨0,by decide,d,j,⟨_,a⟩,.inr (.inr (.inr (.inr (.inr (.inr (.inr (.inr (⟨rfl,rfl,_,b⟩))))))))⟩
  ·refine bG ⟨by omega,?_⟩;obtain⟨cf,cg,er,cj⟩:=j.u32 (by omega);refine ah cf cg ?_;have j:=j.pu (Pu.aw _);refine⟨_,cj 8 (by omega),by omega,?_⟩;obtain⟨ck,ct,et,cA⟩:=j.u32 (by omega);refine ah ck ct ⟨_,cA 9 (by omega),?_⟩;rintro n cC;obtain rfl:n=Dg.nOf l:=cC.trans (by exact Dg.Jw hw Q);refine⟨_,?_,λ_ ey t h=>h⟩;refine⟨bXU [7] [] bs.drew.drew (λ_=>False),?_⟩;refine af (λa1=>?_) (λa1=>?_)
   ·have c:=Dg.eH Q (.inl a1);have a:=Blk.drew (Blk.drew a);refine aU (aI a rfl λaA y=>?_);have a:=y.blk;refine⟨_,_,_,_,_,_,_,_,_,_,_,_,⟨a.at rfl,a.at rfl,a.at rfl,a.at rfl,a.at rfl,a.at rfl,a.at rfl,a.at rfl,a.at rfl,a.at rfl⟩,?_⟩;have d:=Ch.call (Ch.drew (Ch.drew d)) y.ch (by exact λk e=>.inr (e▸R));exact⟨λ_=>False,none,0,0,congrArg Value.tuple (ly (congrArg Value.agg (mB (congrArg (Value.int .u32) (by(rw[Dg.ay c];rfl))) (congrArg (Value.int .u32) (by(rw[Dg.ay c];rfl))) (congrArg (Value.int .u32) (by(rw[Dg.ay c];rfl))) (congrArg (Value.int .u32) (by(rw[Dg.ay c];rfl))) (congrArg (Value.int .u32) (by(rw[Dg.ay c];rfl))) (congrArg (Value.int .u32) (by(rw[Dg.ay c];rfl))) (congrArg (Value.int .u32) (by(rw[Dg.ay c];rfl))) (congrArg (Value.int .u32) (by(rw[Dg.ay c];rfl))) (by rfl) (congrArg (Value.int .i64) (by(rw[Dg.ay c];rfl))))) (congrArg (Value.int .i64) (by exact c.symm))),by rw[Dg.ay c];exact Rd.nil,λk h=>h.elim,d⟩
   ·refine af (λa3=>?_) (λa3=>?_)
    ·have b:=Blk.drew (Blk.drew b);refine⟨.inr ⟨by decide,bX.ld b (λh=>h) _⟩,_,_,_,_,_,_,_,_,⟨b.at2 rfl,b.at2 rfl,b.at2 rfl,b.at2 rfl,b.at2 rfl,b.at2 rfl,b.at2 rfl,b.at2 rfl⟩,?_⟩;refine Calls.mono (zH) ?_;rintro e t ⟨_,rfl,rfl,S⟩;refine⟨_,_,_,_,_,_,_,_,rfl,?_⟩;refine bXU.cV S (by decide) ?_;refine bo (λa2=>?_) (λa2=>?_)
     ·have a4:Dg.jj l≠S8.first:=by intro h;simp[Dg.jj,S8.first]at h;simp[bk,eqL,jt,S8.first,h]at a2
      have c:=Dg.eH Q (.inr ⟨a3,a4⟩);have a:=Pu.blk S (Blk.drew (Blk.drew a));refine aI a rfl λaA y=>?_;have a:=y.blk;refine⟨_,_,_,_,_,_,_,_,_,_,_,_,⟨a.at rfl,a.at rfl,a.at rfl,a.at rfl,a.at rfl,a.at rfl,a.at rfl,a.at rfl,a.at rfl,a.at rfl⟩,?_⟩;have d:=Ch.call (Ch.pu (Ch.drew (Ch.drew d)) S) y.ch (by exact λk e=>.inr (e▸R));exact⟨λ_=>False,none,0,0,congrArg Value.tuple (ly (congrArg Value.agg (mB (congrArg (Value.int .u32) (by(rw[Dg.ay c];rfl))) (congrArg (Value.int .u32) (by(rw[Dg.ay c];rfl))) (congrArg (Value.int .u32) (by(rw[Dg.ay c];rfl))) (congrArg (Value.int .u32) (by(rw[Dg.ay c];rfl))) (congrArg (Value.int .u32) (by(rw[Dg.ay c];rfl))) (congrArg (Value.int .u32) (by(rw[Dg.ay c];rfl))) (congrArg (Value.int .u32) (by(rw[Dg.ay c];rfl))) (congrArg (Value.int .u32) (by(rw[Dg.ay c];rfl))) (by rfl) (congrArg (Value.int .i64) (by(rw[Dg.ay c];rfl))))) (congrArg (Value.int .i64) (by exact c.symm))),by rw[Dg.ay c];exact Rd.nil,λk h=>h.elim,d⟩
     ·have a4:Dg.jj l=S8.first:=by simp[bk,eqL,jt,S8.first]at a2;simp[Dg.jj,S8.first,a2]
      have hg:¬(Dg.nOf l>36028797018963968\/(Dg.nOf l<16/\Dg.jj l≠S8.first)):=by rintro(h|h);exact a1 h;exact h.2 a4
      have b:=Pu.blk S b;refine aL b (by simp) λaA y=>?_;have b:Blk aA p #[O (l.getD 0 ⟨0⟩).v,O (l.getD 1 ⟨0⟩).v,O (l.getD 2 ⟨0⟩).v,O (l.getD 3 ⟨0⟩).v,O (l.getD 4 ⟨0⟩).v,O (l.getD 5 ⟨0⟩).v,O (l.getD 6 ⟨0⟩).v,O (l.getD 7 ⟨0⟩).v,(.slice none 0 0),J (i64.wrap (Dg.nOf l))] _:=y.blk.cast (by kernel_rfl);rintro _ rfl;have d:=Ch.call (Ch.pu (Ch.drew (Ch.drew d)) S) y.ch (by exact λk e=>.inr (e▸r));have j:=((j.pu (Pu.aw _)).pu S).ch y.ch (λk f e=>(λf=>absurd (z _ f) (Nat.not_lt.2 r)) (e▸f));have a:=Ch.blk y.ch (Pu.blk S (Blk.drew (Blk.drew a))) (F);refine⟨λA i3 W=>∃K:oA,∃B M:Nat,∃u:List U32,A=(26 - i3).toNat/\(10<=i3/\i3<=26)/\(u=(l.drop 10).take (min (i3.toNat - 10) (Dg.nOf l % 16).toNat))/\(∀(i:Nat)(x:U32),i+(10+(Dg.nOf l % 16).toNat)<i3.toNat->(l.drop (10+(Dg.nOf l % 16).toNat))[i]? =some x->x.v=0)/\Own W (λk=>w.heap.size<=k/\k≠I/\k≠p) 22 K B M u/\Ch (λ_=>False) w W/\Rd W Z X au an l/\(∃T,Blk W I #[O 0,O 0,O 0,O 0,O 0,O 0,O 0,O 0,(.slice none 0 0),J 0] T)/\(∃T,Blk W p #[O (l.getD 0 ⟨0⟩).v,O (l.getD 1 ⟨0⟩).v,O (l.getD 2 ⟨0⟩).v,O (l.getD 3 ⟨0⟩).v,O (l.getD 4 ⟨0⟩).v,O (l.getD 5 ⟨0⟩).v,O (l.getD 6 ⟨0⟩).v,O (l.getD 7 ⟨0⟩).v,(.slice K B M),J (Dg.nOf l)] T),⟨_,none,0,0,([]),rfl,(by omega),(by simp),(by intro i x h;omega),Own.nil,d,j,⟨_,a⟩,_,b.cast (mB (congrArg (Value.int .u32) (by rfl)) (congrArg (Value.int .u32) (by rfl)) (congrArg (Value.int .u32) (by rfl)) (congrArg (Value.int .u32) (by rfl)) (congrArg (Value.int .u32) (by rfl)) (congrArg (Value.int .u32) (by rfl)) (congrArg (Value.int .u32) (by rfl)) (congrArg (Value.int .u32) (by rfl)) rfl (congrArg (Value.int .i64) (by exact(aa (by omega)).symm)))⟩,?_⟩;rintro _ _ i3 N ⟨K,B,M,u,rfl,h0,G,hq,q,d,j,⟨_,a⟩,_,b⟩;refine af (λcM=>?_) (λcM=>?_)
      ·refine af (λa5=>?_) (λa5=>?_)
       ·rw[Int.tmod_eq_emod_of_nonneg a0.1,aa (x:=Dg.nOf l % 16) (by omega),aa (by omega)]at a5;refine⟨bXU [1] [5] N.drew (λk=>w.heap.size<=k/\k≠I/\k≠p),?_⟩;have b:=Blk.drew b;have j:=j.pu (Pu.aw _);refine⟨.inr ⟨by decide,bX.ld b (by(intro h;omega)) _⟩,_,_,_,b.at rfl,?_⟩;obtain⟨cN,bb,c0,eL,eM,c2⟩:=j.ld (i:=i3) (by omega) (by omega);refine⟨by constructor<;>omega,ah cN c0 ⟨.inl (by decide),_,c2 0 (by decide),?_⟩⟩;refine mkd λc3 P s=>?_;have c4:=s.ne b;have a6:=s.blk;refine bXU.cV s.pu (by decide) ?_;have q:=(q.pu (Pu.aw _)).pu s.pu;have d:=Ch.made (Ch.drew d) s;refine q.app sL a6 (x:=(⟨bb.v⟩:U32)) (by rfl) (by have:=q.len;have:u.length<=26:=(by rw[G];simp;omega);omega) (by have:=q.len;have:u.length<=26:=(by rw[G];simp;omega);omega) (by have h1:I<N.heap.size:=a.lt;have h2:p<N.heap.size:=b.lt;have h3:N.heap.size<=P.heap.size:=s.kept.size;have h4:w.heap.size<=P.heap.size:=(by exact d.size);refine⟨?_,?_,?_⟩<;>omega) λaC aN c5 q H=>?_;refine bXU.more H (by intro k U;exact .inl U) (by decide) ?_;have b:=Ch.blk H (Made.old s b) (λh=>h.2.2 rfl);refine aL b (by simp) λa7 C=>?_;have b:Blk a7 p #[O (l.getD 0 ⟨0⟩).v,O (l.getD 1 ⟨0⟩).v,O (l.getD 2 ⟨0⟩).v,O (l.getD 3 ⟨0⟩).v,O (l.getD 4 ⟨0⟩).v,O (l.getD 5 ⟨0⟩).v,O (l.getD 6 ⟨0⟩).v,O (l.getD 7 ⟨0⟩).v,(.slice aC (B+1) aN),J (Dg.nOf l)] _:=C.blk.cast (by kernel_rfl);refine bXU.grow C.ch ?_;rintro _ rfl;have d:=Ch.call (Ch.call d H (by intro k U;exact .inr U.1)) C.ch (by exact λk e=>.inr (e▸r));have j:=((j.pu s.pu).ch H (λk f hy=>by have h1:=z k f;omega)).ch C.ch (λk f e=>(λf=>absurd (z _ f) (Nat.not_lt.2 r)) (e▸f));have a:=Ch.blk C.ch (Ch.blk H (Made.old s (Blk.drew a)) (λh=>h.2.1 rfl)) (F);have q:=q.ch C.ch (λk f e=>f.2.2 e);exact⟨_,by rw[wrap_i64];omega,aC,(B+1),aN,(u++ [(⟨bb.v⟩:U32)]),rfl,by rw[wrap_i64];omega,by rw[Dg.vD (by omega) (by omega) (by omega) ‹_›,<-G],by rw[aa (by omega)];intro i x hi f;exact hq i x (by omega) f,q,d,j,⟨_,a⟩,_,b⟩
       ·rw[Int.tmod_eq_emod_of_nonneg a0.1,aa (x:=Dg.nOf l % 16) (by omega),aa (by omega)]at a5;obtain⟨c6,eN,c7,c8,eS,c9⟩:=j.ld (i:=i3) (by omega) (by omega);refine⟨by constructor<;>omega,ah c6 c7 ⟨_,c9 0 (by decide),?_⟩⟩;refine aG (λbc=>?_) (λbc=>?_)
        ·have c:Dg.aF l=20:=Dg.cw Q hg (i:=i3.toNat - (10+(Dg.nOf l % 16).toNat)) (by rw[List.getElem?_drop,show 10+(Dg.nOf l % 16).toNat+(i3.toNat - (10+(Dg.nOf l % 16).toNat))=i3.toNat by omega];exact c8) bc;refine aI a rfl λP E=>?_;have a:=E.blk;refine⟨_,_,_,_,_,_,_,_,_,_,_,_,⟨a.at rfl,a.at rfl,a.at rfl,a.at rfl,a.at rfl,a.at rfl,a.at rfl,a.at rfl,a.at rfl,a.at rfl⟩,?_⟩;have d:=Ch.call d E.ch (by exact λk e=>.inr (e▸R));exact⟨λ_=>False,none,0,0,congrArg Value.tuple (ly (congrArg Value.agg (mB (congrArg (Value.int .u32) (by(rw[Dg.ay c];rfl))) (congrArg (Value.int .u32) (by(rw[Dg.ay c];rfl))) (congrArg (Value.int .u32) (by(rw[Dg.ay c];rfl))) (congrArg (Value.int .u32) (by(rw[Dg.ay c];rfl))) (congrArg (Value.int .u32) (by(rw[Dg.ay c];rfl))) (congrArg (Value.int .u32) (by(rw[Dg.ay c];rfl))) (congrArg (Value.int .u32) (by(rw[Dg.ay c];rfl))) (congrArg (Value.int .u32) (by(rw[Dg.ay c];rfl))) (by rfl) (congrArg (Value.int .i64) (by(rw[Dg.ay c];rfl))))) (congrArg (Value.int .i64) (by exact c.symm))),by rw[Dg.ay c];exact Rd.nil,λk h=>h.elim,d⟩
        ·rintro _ rfl;exact⟨_,by rw[wrap_i64];omega,K,B,M,u,rfl,by rw[wrap_i64];omega,by rw[G,aa (by omega)];congr 1;omega,by rw[aa (by omega)];intro i x hi f;by_cases he:i+(10+(Dg.nOf l % 16).toNat)=i3.toNat;(rw[List.getElem?_drop,Nat.add_comm,he]at f;simp_all);exact hq i x (by omega) f,q,d,j,⟨_,a⟩,_,b⟩
      ·have c:Dg.aF l=0:=Dg.j4 Q hg (λi x f=>hq i x (by have:=(List.getElem?_eq_some_iff.1 f).1;rw[List.length_drop]at this;omega) f);have a8:u=(l.drop 10).take (Dg.nOf l % 16).toNat:=by rw[G,Dg.zl (by omega) (by omega)]
       refine⟨_,_,_,_,_,_,_,_,_,_,_,_,⟨b.at rfl,b.at rfl,b.at rfl,b.at rfl,b.at rfl,b.at rfl,b.at rfl,b.at rfl,b.at rfl,b.at rfl⟩,aI a rfl λP E=>?_⟩;have a:=E.blk;refine⟨_,_,_,_,_,_,_,_,_,_,_,_,⟨a.at rfl,a.at rfl,a.at rfl,a.at rfl,a.at rfl,a.at rfl,a.at rfl,a.at rfl,a.at rfl,a.at rfl⟩,?_⟩;have q:=q.ch E.ch (λk f e=>f.2.1 e);have d:=Ch.call d E.ch (by exact λk e=>.inr (e▸R));exact⟨_,_,_,_,congrArg Value.tuple (ly (congrArg Value.agg (mB (congrArg (Value.int .u32) (by(rw[Dg.bL c];rfl))) (congrArg (Value.int .u32) (by(rw[Dg.bL c];rfl))) (congrArg (Value.int .u32) (by(rw[Dg.bL c];rfl))) (congrArg (Value.int .u32) (by(rw[Dg.bL c];rfl))) (congrArg (Value.int .u32) (by(rw[Dg.bL c];rfl))) (congrArg (Value.int .u32) (by(rw[Dg.bL c];rfl))) (congrArg (Value.int .u32) (by(rw[Dg.bL c];rfl))) (congrArg (Value.int .u32) (by(rw[Dg.bL c];rfl))) (by rfl) (congrArg (Value.int .i64) (by(rw[Dg.bL c];rfl))))) (congrArg (Value.int .i64) (by exact c.symm))),by rw[Dg.bL c];have h9:=(q).rd;rw[a8]at h9;exact h9,by intro k h;exact h.1.1,d⟩
    ·have hg:¬(Dg.nOf l>36028797018963968\/(Dg.nOf l<16/\Dg.jj l≠S8.first)):=by rintro(h|h);exact a1 h;exact a3 h.1
     have b:=Blk.drew (Blk.drew b);refine bG (aL b (by simp) λaA y=>?_);have b:Blk aA p #[O (l.getD 0 ⟨0⟩).v,O (l.getD 1 ⟨0⟩).v,O (l.getD 2 ⟨0⟩).v,O (l.getD 3 ⟨0⟩).v,O (l.getD 4 ⟨0⟩).v,O (l.getD 5 ⟨0⟩).v,O (l.getD 6 ⟨0⟩).v,O (l.getD 7 ⟨0⟩).v,(.slice none 0 0),J (i64.wrap (Dg.nOf l))] _:=y.blk.cast (by kernel_rfl);rintro _ rfl;have d:=Ch.call (Ch.drew (Ch.drew d)) y.ch (by exact λk e=>.inr (e▸r));have j:=(j.pu (Pu.aw _)).ch y.ch (λk f e=>(λf=>absurd (z _ f) (Nat.not_lt.2 r)) (e▸f));have a:=Ch.blk y.ch (Blk.drew (Blk.drew a)) (F);refine⟨λA i3 W=>∃K:oA,∃B M:Nat,∃u:List U32,A=(26 - i3).toNat/\(10<=i3/\i3<=26)/\(u=(l.drop 10).take (min (i3.toNat - 10) (Dg.nOf l % 16).toNat))/\(∀(i:Nat)(x:U32),i+(10+(Dg.nOf l % 16).toNat)<i3.toNat->(l.drop (10+(Dg.nOf l % 16).toNat))[i]? =some x->x.v=0)/\Own W (λk=>w.heap.size<=k/\k≠I/\k≠p) 22 K B M u/\Ch (λ_=>False) w W/\Rd W Z X au an l/\(∃T,Blk W I #[O 0,O 0,O 0,O 0,O 0,O 0,O 0,O 0,(.slice none 0 0),J 0] T)/\(∃T,Blk W p #[O (l.getD 0 ⟨0⟩).v,O (l.getD 1 ⟨0⟩).v,O (l.getD 2 ⟨0⟩).v,O (l.getD 3 ⟨0⟩).v,O (l.getD 4 ⟨0⟩).v,O (l.getD 5 ⟨0⟩).v,O (l.getD 6 ⟨0⟩).v,O (l.getD 7 ⟨0⟩).v,(.slice K B M),J (Dg.nOf l)] T),⟨_,none,0,0,([]),rfl,(by omega),(by simp),(by intro i x h;omega),Own.nil,d,j,⟨_,a⟩,_,b.cast (mB (congrArg (Value.int .u32) (by rfl)) (congrArg (Value.int .u32) (by rfl)) (congrArg (Value.int .u32) (by rfl)) (congrArg (Value.int .u32) (by rfl)) (congrArg (Value.int .u32) (by rfl)) (congrArg (Value.int .u32) (by rfl)) (congrArg (Value.int .u32) (by rfl)) (congrArg (Value.int .u32) (by rfl)) rfl (congrArg (Value.int .i64) (by exact(aa (by omega)).symm)))⟩,?_⟩;rintro _ _ i3 N ⟨K,B,M,u,rfl,h0,G,hq,q,d,j,⟨_,a⟩,_,b⟩;refine af (λda=>?_) (λda=>?_)
     ·refine af (λa9=>?_) (λa9=>?_)
      ·rw[Int.tmod_eq_emod_of_nonneg a0.1,aa (x:=Dg.nOf l % 16) (by omega),aa (by omega)]at a9;refine⟨bXU [1] [5] N.drew (λk=>w.heap.size<=k/\k≠I/\k≠p),?_⟩;have b:=Blk.drew b;have j:=j.pu (Pu.aw _);refine⟨.inr ⟨by decide,bX.ld b (by(intro h;omega)) _⟩,_,_,_,b.at rfl,?_⟩;obtain⟨dc,bd,dd,e0,e1,dk⟩:=j.ld (i:=i3) (by omega) (by omega);refine⟨by constructor<;>omega,ah dc dd ⟨.inl (by decide),_,dk 0 (by decide),?_⟩⟩;refine mkd λc3 P s=>?_;have c4:=s.ne b;have a6:=s.blk;refine bXU.cV s.pu (by decide) ?_;have q:=(q.pu (Pu.aw _)).pu s.pu;have d:=Ch.made (Ch.drew d) s;refine q.app sL a6 (x:=(⟨bd.v⟩:U32)) (by rfl) (by have:=q.len;have:u.length<=26:=(by rw[G];simp;omega);omega) (by have:=q.len;have:u.length<=26:=(by rw[G];simp;omega);omega) (by have h1:I<N.heap.size:=a.lt;have h2:p<N.heap.size:=b.lt;have h3:N.heap.size<=P.heap.size:=s.kept.size;have h4:w.heap.size<=P.heap.size:=(by exact d.size);refine⟨?_,?_,?_⟩<;>omega) λaC aN c5 q H=>?_;refine bXU.more H (by intro k U;exact .inl U) (by decide) ?_;have b:=Ch.blk H (Made.old s b) (λh=>h.2.2 rfl);refine aL b (by simp) λa7 C=>?_;have b:Blk a7 p #[O (l.getD 0 ⟨0⟩).v,O (l.getD 1 ⟨0⟩).v,O (l.getD 2 ⟨0⟩).v,O (l.getD 3 ⟨0⟩).v,O (l.getD 4 ⟨0⟩).v,O (l.getD 5 ⟨0⟩).v,O (l.getD 6 ⟨0⟩).v,O (l.getD 7 ⟨0⟩).v,(.slice aC (B+1) aN),J (Dg.nOf l)] _:=C.blk.cast (by kernel_rfl);refine bXU.grow C.ch ?_;rintro _ rfl;have d:=Ch.call (Ch.call d H (by intro k U;exact .inr U.1)) C.ch (by exact λk e=>.inr (e▸r));have j:=((j.pu s.pu).ch H (λk f hy=>by have h1:=z k f;omega)).ch C.ch (λk f e=>(λf=>absurd (z _ f) (Nat.not_lt.2 r)) (e▸f));have a:=Ch.blk C.ch (Ch.blk H (Made.old s (Blk.drew a)) (λh=>h.2.1 rfl)) (F);have q:=q.ch C.ch (λk f e=>f.2.2 e);exact⟨_,by rw[wrap_i64];omega,aC,(B+1),aN,(u++ [(⟨bd.v⟩:U32)]),rfl,by rw[wrap_i64];omega,by rw[Dg.vD (by omega) (by omega) (by omega) ‹_›,<-G],by rw[aa (by omega)];intro i x hi f;exact hq i x (by omega) f,q,d,j,⟨_,a⟩,_,b⟩
      ·rw[Int.tmod_eq_emod_of_nonneg a0.1,aa (x:=Dg.nOf l % 16) (by omega),aa (by omega)]at a9;obtain⟨dp,e2,dr,dA,e3,dC⟩:=j.ld (i:=i3) (by omega) (by omega);refine⟨by constructor<;>omega,ah dp dr ⟨_,dC 0 (by decide),?_⟩⟩;refine aG (λbg=>?_) (λbg=>?_)
       ·have c:Dg.aF l=20:=Dg.cw Q hg (i:=i3.toNat - (10+(Dg.nOf l % 16).toNat)) (by rw[List.getElem?_drop,show 10+(Dg.nOf l % 16).toNat+(i3.toNat - (10+(Dg.nOf l % 16).toNat))=i3.toNat by omega];exact dA) bg;refine aI a rfl λP E=>?_;have a:=E.blk;refine⟨_,_,_,_,_,_,_,_,_,_,_,_,⟨a.at rfl,a.at rfl,a.at rfl,a.at rfl,a.at rfl,a.at rfl,a.at rfl,a.at rfl,a.at rfl,a.at rfl⟩,?_⟩;have d:=Ch.call d E.ch (by exact λk e=>.inr (e▸R));exact⟨λ_=>False,none,0,0,congrArg Value.tuple (ly (congrArg Value.agg (mB (congrArg (Value.int .u32) (by(rw[Dg.ay c];rfl))) (congrArg (Value.int .u32) (by(rw[Dg.ay c];rfl))) (congrArg (Value.int .u32) (by(rw[Dg.ay c];rfl))) (congrArg (Value.int .u32) (by(rw[Dg.ay c];rfl))) (congrArg (Value.int .u32) (by(rw[Dg.ay c];rfl))) (congrArg (Value.int .u32) (by(rw[Dg.ay c];rfl))) (congrArg (Value.int .u32) (by(rw[Dg.ay c];rfl))) (congrArg (Value.int .u32) (by(rw[Dg.ay c];rfl))) (by rfl) (congrArg (Value.int .i64) (by(rw[Dg.ay c];rfl))))) (congrArg (Value.int .i64) (by exact c.symm))),by rw[Dg.ay c];exact Rd.nil,λk h=>h.elim,d⟩
       ·rintro _ rfl;exact⟨_,by rw[wrap_i64];omega,K,B,M,u,rfl,by rw[wrap_i64];omega,by rw[G,aa (by omega)];congr 1;omega,by rw[aa (by omega)];intro i x hi f;by_cases he:i+(10+(Dg.nOf l % 16).toNat)=i3.toNat;(rw[List.getElem?_drop,Nat.add_comm,he]at f;simp_all);exact hq i x (by omega) f,q,d,j,⟨_,a⟩,_,b⟩
     ·have c:Dg.aF l=0:=Dg.j4 Q hg (λi x f=>hq i x (by have:=(List.getElem?_eq_some_iff.1 f).1;rw[List.length_drop]at this;omega) f);have a8:u=(l.drop 10).take (Dg.nOf l % 16).toNat:=by rw[G,Dg.zl (by omega) (by omega)]
      refine⟨_,_,_,_,_,_,_,_,_,_,_,_,⟨b.at rfl,b.at rfl,b.at rfl,b.at rfl,b.at rfl,b.at rfl,b.at rfl,b.at rfl,b.at rfl,b.at rfl⟩,aI a rfl λP E=>?_⟩;have a:=E.blk;refine⟨_,_,_,_,_,_,_,_,_,_,_,_,⟨a.at rfl,a.at rfl,a.at rfl,a.at rfl,a.at rfl,a.at rfl,a.at rfl,a.at rfl,a.at rfl,a.at rfl⟩,?_⟩;have q:=q.ch E.ch (λk f e=>f.2.1 e);have d:=Ch.call d E.ch (by exact λk e=>.inr (e▸R));exact⟨_,_,_,_,congrArg Value.tuple (ly (congrArg Value.agg (mB (congrArg (Value.int .u32) (by(rw[Dg.bL c];rfl))) (congrArg (Value.int .u32) (by(rw[Dg.bL c];rfl))) (congrArg (Value.int .u32) (by(rw[Dg.bL c];rfl))) (congrArg (Value.int .u32) (by(rw[Dg.bL c];rfl))) (congrArg (Value.int .u32) (by(rw[Dg.bL c];rfl))) (congrArg (Value.int .u32) (by(rw[Dg.bL c];rfl))) (congrArg (Value.int .u32) (by(rw[Dg.bL c];rfl))) (congrArg (Value.int .u32) (by(rw[Dg.bL c];rfl))) (by rfl) (congrArg (Value.int .i64) (by(rw[Dg.bL c];rfl))))) (congrArg (Value.int .i64) (by exact c.symm))),by rw[Dg.bL c];have h9:=(q).rd;rw[a8]at h9;exact h9,by intro k h;exact h.1.1,d⟩
end Go.Proofs.YtoghdgcmhbanbaaGreatDoor
end
section
namespace Go.Proofs.YtoghdgcmhbanbaaGreatDoor
open Go Go.RowKit V
open Go.IntKind (i64 u32 u64 wrap_i64 wrap_u32)
open Enc (enc)
namespace V
theorem Rd.NB {α:Type} [Enc α]{P:Program}{w:World}{Z Y:Nat->Prop}{t ty e:TypeId}{z:Value}{bytes:Nat}{A:Option Addr}{n:Nat}{l l2:List α}{b:Addr}{m d:Nat}(c:SN P t e z (Enc.size α) bytes)(o:Rd w Z A n n l)(p:Rd w Y (some b) m d l2)(hm:0<m)(u:n+m<=9223372036854775807)(r:(n+m)*bytes<=140737488355328)
 {K:Option Addr->Nat->Nat->World->Prop}(s:∀A' c' w2,Own w2 (λk=>w.heap.size<=k) e A' (n+m) c' (l++l2)->Pu w w2->K A' (n+m) c' w2):
 ∃(A':oA)(n' c':Nat)(w2:World),(Builtin.append_ #[t,t] ty #[.slice A n n,.slice (some b) m d]:Sem Value).run P w=.ok (.slice A' n' c') w2/\K A' n' c' w2:=by
 obtain⟨i,hi,v,x,y⟩:=c.info;cases A with
 | none=>
  obtain⟨B,C⟩:=o.Ln;subst B C;exact Own.apps (Own.nil (w:=w) (Z:=λk=>w.heap.size<=k)) c p u r (Nat.le_refl _) (λA' c' w2 f E=>s A' c' w2 f E.fresh) (λh=>absurd h (by omega))
 | some a=>
  obtain⟨M,w2,F,f,j⟩:=run_append_arg_grows (P:=P) w t ty e i z (Enc.size α) bytes c.und hi v x y c.cells c.pos a n n (l.flatMap enc) (by rw[dh,o.len]) (o.flat rfl) b m d (l2.flatMap enc) (by rw[dh,p.len]) (p.flat rfl) (by omega) (by simp only[maxLen];omega) r
  rw[<-List.flatMap_append]at f;rcases f.2 with⟨_,N⟩|⟨g,cap,cur,G,H,I,rest⟩
  ·omega
  ·subst G;exact⟨_,_,_,_,F,s _ _ _ ⟨⟨⟨f.1,.inr ⟨g,cap,cur,rfl,Nat.zero_le _,I,rest⟩⟩,λa q=>by injection q with q;rw[<-q];exact H⟩,by rw[List.length_append,o.len,p.len]⟩ ⟨⟨j.os,j.tape,j.output,j.size,λk J=>j.block k J.1 (by simp)⟩⟩⟩
end V
def jf(l:List U32):List U32:=l++List.replicate ((30 - l.length % 16) % 16) (uM 0)
theorem EC {l:List U32}(h:¬l.length % 16=14):jf (l++ [uM 0])=jf l:=by
 have e:(30 - l.length % 16) % 16=(30 - (l++ [uM 0]).length % 16) % 16+1:=by rw[List.length_append,List.length_singleton];omega
 unfold jf;rw[e,List.append_assoc,List.replicate_succ];rfl
theorem ED {l:List U32}(h:l.length % 16=14):jf l=l:=by unfold jf;rw[h];simp
theorem xm(l:List U32):l.length<=(jf l).length/\(jf l).length<=l.length+15:=by unfold jf;rw[List.length_append,List.length_replicate];omega
def Dg.fin(K:List Int)(d:Dg)(x hi lo:Int):S8:=(bf K d.st (jf (d.waits++ [uM x])++ [uM hi,uM lo])).1
def Dg.sum(K:List Int)(d:Dg):S8:=d.fin K 2147483648 (u32.wrap ((u64.wrap (32*(u64.wrap d.n)):Int).fdiv (2 ^ 32))) (u32.wrap (u64.wrap (32*(u64.wrap d.n))))
def s8C(s:S8):Array Value:= #[.int .u32 s.a,.int .u32 s.b,.int .u32 s.c,.int .u32 s.d,.int .u32 s.e,.int .u32 s.f,.int .u32 s.g,.int .u32 s.h]
theorem nS(j k l n o p q r a b c d e f h i:Value):setAt #[j,k,l,n,o,p,q,r] 0 [a,b,c,d,e,f,h,i]= #[a,b,c,d,e,f,h,i]:=by kernel_rfl
theorem KY:SN Tryz.prog 26 22 (O 0) 1 4:=vJ.sn
theorem Jh {w:World}{g:Nat}{x:Int}{T:TypeId}(b:Blk w g #[.int .u32 x] T):Rd w (λk=>k=g) (pvA g) 1 1 [uM x]:=
 ⟨rfl,Nat.le_refl _,λk d=>by rw[d];exact b.lt,λi z a=>⟨_,rfl,rfl,λj c=>by
  have c:j=0:=by have:Enc.size U32=1:=rfl;omega
  subst c
  match i,a with
  |0,a=>injection a with a;subst a;exact b.at2 (i:=0) (j:=0) rfl
  |i+1,a=>simp at a⟩⟩
theorem Jg {w:World}{g:Nat}{x y:Int}{T:TypeId}(b:Blk w g #[.int .u32 x,.int .u32 y] T):Rd w (λk=>k=g) (pvA g) 2 2 [uM x,uM y]:=
 ⟨rfl,Nat.le_refl _,λk d=>by rw[d];exact b.lt,λi z a=>⟨_,rfl,rfl,λj c=>by
  have c:j=0:=by have:Enc.size U32=1:=rfl;omega
  subst c
  match i,a with
  |0,a=>injection a with a;subst a;exact b.at2 (i:=0) (j:=0) rfl
  |1,a=>injection a with a;subst a;exact b.at2 (i:=1) (j:=0) rfl
  |i+2,a=>simp at a⟩⟩
attribute [local irreducible] bf jq
theorem Nj {g:Nat}{L:DgL}{D:Dg}{K:List Int}{w:World}(h:jL w g L D)(o:cR w 1 K)(hl:D.waits.length<16)(last i:Int):
 Calls Tryz.prog 170 #[.pointer (pvA g),.int .u32 last,.int .u64 i] w λe w'=>∃v,e=.returned v/\v=.agg (s8C (D.fin K last (u32.wrap ((i:Int).fdiv (2 ^ 32))) (u32.wrap i)))/\Pu w w':=by
 obtain⟨⟨T,hb⟩,F,bc⟩:=h;have hlen:=F.len;have bd:=F.cap;refine CZ _ _ _ ?_;refine mkd λgv w1 y=>?_;have G:Pu w w1.drew:=y.pu.trans (Pu.aw w1);have r:=G.blk hb;refine⟨bXU [3,7,12] [] w1.drew (λ_=>False),ah _ rfl ⟨.inr ⟨rfl,bX.ld r (λh=>h) 9⟩,_,_,_,r.at rfl,ah _ rfl ⟨.inr ⟨rfl,bX.ld r (λh=>h) 9⟩,_,_,_,r.at rfl,ah _ rfl ⟨.inr ⟨rfl,bX.ld r (λh=>h) 9⟩,_,_,_,r.at rfl,⟨by omega,by omega⟩,⟨by omega,by omega⟩,?_⟩⟩⟩⟩;rintro A1 an N1 H C1 I;have H:N1=L.n:=by simpa using H
 have I:C1=L.n:=by simpa using I
 subst H;subst I;have r1:Rd w1.drew L.Y A1 L.n L.n D.waits:=by
  have:=(F.pu G).cut (lo:=0) (hi:=L.n) (m:=L.n) (A':=A1) (n':=L.n) (c':=L.n) (by rw[Int.toNat_natCast]at an;exact an) (by omega) (by omega) (by omega) (by omega) (by omega)
  rwa[List.drop_zero,Nat.sub_zero,List.take_of_length_le (by omega)]at this
 refine mkd λg2 w2 s=>bXU.cV s.pu rfl ?_;have a0:Pu w w2:=G.trans s.pu;refine Rd.NB KY (r1.pu s.pu) (Jh s.blk) (by omega) (by omega) (by omega) λA3 c3 w3 o3 J=>bXU.cV J rfl ?_;have hz:=xm (D.waits++ [uM last]);rw[List.length_append,List.length_singleton]at hz;refine⟨λm A N C w'=>∃d:List U32,Own w' (λk=>w2.heap.size<=k) 22 A N C d/\jf d=jf (D.waits++ [uM last])/\m=(30 - d.length % 16) % 16/\Pu w2 w',⟨_,_,o3,rfl,rfl,J⟩,?_⟩;rintro m _ A4 M C4 w4 ⟨d,O,z,rfl,P⟩;have s4:w2.heap.size<=w4.heap.size:=P.size;have bg:=O.len;have a1:=xm d;rw[z]at a1;have et:((M:Nat):Int).tmod 16=((M % 16:Nat):Int):=by rw[Int.tmod_eq_emod_of_nonneg (by omega)];omega
 refine aG (λQ=>?_) (λheq=>?_)
 ·have Q:¬d.length % 16=14:=by rw[et]at Q;omega
  refine mkd λg5 w5 j=>?_;refine Own.app (x:=uM 0) (O.pu j.pu) KY j.blk rfl (by omega) (by omega) (Nat.le_trans s4 j.pu.size) λA6 c6 l R U=>?_;exact⟨_,by rw[List.length_append,List.length_singleton];omega,d++ [uM 0],R,(EC Q).trans z,rfl,(P.trans j.pu).call U λk o=>.inr o⟩
 ·have heq:d.length % 16=14:=by rw[et]at heq;omega
  rw[ED heq]at z;refine mkd λg5 w5 j=>?_;refine Own.apps (O.pu j.pu) KY (Jg j.blk) (by omega) (by omega) (Nat.le_trans s4 j.pu.size) (λA6 c6 l R U=>?_) (λh=>absurd h (by omega));have az:Pu w2 l:=(P.trans j.pu).call U λk o=>.inr o;have V:Pu w l:=a0.trans az;have n:=V.blk hb;refine ah _ rfl ⟨_,_,_,_,_,_,_,_,⟨n.at2 rfl,n.at2 rfl,n.at2 rfl,n.at2 rfl,n.at2 rfl,n.at2 rfl,n.at2 rfl,n.at2 rfl⟩,mkd λW w7 B=>bx B.blk (by simp) λw8 s8=>?_⟩;have X:Pu l w8:=B.pu.stored s8 (.inr (by rw[B.num];exact Nat.le_refl _));have r8:Rd w8 (λk=>w2.heap.size<=k/\k<l.heap.size) A6 (M+2) c6 (d++ [uM (u32.wrap ((i:Int).fdiv (2 ^ 32))),uM (u32.wrap i)]):=R.rd.pu X;have a2:Blk w8 gv #[.int .u32 0,.int .u32 0,.int .u32 0,.int .u32 0,.int .u32 0,.int .u32 0,.int .u32 0,.int .u32 0] 54:=by
   have q:Pu w1 w2:=(Pu.aw w1).trans s.pu;exact Pu.blk ((q.trans az).trans X) y.blk
  have a3:l.heap.size=W:=B.num.symm;obtain⟨t,Z⟩:∃t,t=d++ [uM (u32.wrap ((i:Int).fdiv (2 ^ 32))),uM (u32.wrap i)]:=⟨_,rfl⟩;have a4:t.length % 16=0:=by rw[Z,List.length_append];simp;omega
  rw[<-Z]at r8;have i8:Blk w8 W (s8C D.st) 54:=by have u:=s8.blk;rw[nS]at u;exact u
  refine⟨λm A N C w'=>∃(S:S8)(c:List U32),Rd w' (λk=>w2.heap.size<=k/\k<l.heap.size) A N C c/\bf K S c=bf K D.st t/\c.length % 16=0/\m=c.length/\Blk w' W (s8C S) 54/\Blk w' gv #[.int .u32 0,.int .u32 0,.int .u32 0,.int .u32 0,.int .u32 0,.int .u32 0,.int .u32 0,.int .u32 0] 54/\Pu w w',⟨t.length,D.st,t,r8,rfl,a4,rfl,i8,a2,V.trans X⟩,?_⟩;rintro m _ A9 N9 C9 w9 ⟨⟨sa,sb,sc,sd,se,sf,sg,sh⟩,c,r9,e9,bl,rfl,f,aA,p9⟩;have bs:=r9.len;have bA:=r9.cap;refine af (λbC=>?_) (λh0=>?_)
  ·have aC:16<=c.length:=by omega
   have pd:=Pu.aw w9;have a:=pd.blk f;obtain⟨p,rfl,hp,b⟩:=(r9.pu pd).u32 (by omega);refine⟨λ_ _=>True,trivial,_,_,_,_,_,_,_,_,⟨a.at rfl,a.at rfl,a.at rfl,a.at rfl,a.at rfl,a.at rfl,a.at rfl,a.at rfl⟩,by omega,ah _ rfl ⟨trivial,_,_,_,_,_,_,_,_,_,_,_,_,_,_,_,_,⟨b 0 (by omega),b 1 (by omega),b 2 (by omega),b 3 (by omega),b 4 (by omega),b 5 (by omega),b 6 (by omega),b 7 (by omega),b 8 (by omega),b 9 (by omega),b 10 (by omega),b 11 (by omega),b 12 (by omega),b 13 (by omega),b 14 (by omega),b 15 (by omega)⟩,?_⟩⟩;refine(GA (o.pu (p9.trans pd)) _ _ _ _ _ _ _ _ _ _ _ _ _ _ _ _ _ _ _ _ _ _ _ _).mono ?_;rintro e a5 ⟨_,rfl,rfl,a6⟩;have pp:Pu w9 a5:=pd.trans a6;refine⟨_,_,_,_,_,_,_,_,rfl,_,λ_ _ h=>h,bx (pp.blk f) (by simp[s8C]) λa7 E=>⟨_,λ_ _ h=>h,⟨by omega,by omega⟩,?_⟩⟩;rintro bN a8 b0 a9 b2 ba;have r12:Rd a7 (λk=>w2.heap.size<=k/\k<l.heap.size) (some p) N9 C9 c:=(r9.pu pp).ch E.ch λk o e=>by omega
   refine⟨c.length - 16,by omega,jq K ⟨sa,sb,sc,sd,se,sf,sg,sh⟩ ((c.take 16).map U32.v),c.drop 16,r12.from_ (m:=C9) (lo:=16) a8 a9 ba (by omega) (by omega),by rw[<-dy aC];exact e9,by rw[List.length_drop];omega,by rw[List.length_drop],?_,E.old (pp.blk aA) (λe=>by have:=y.blk.lt;have:=((Pu.aw w1).trans s.pu).size;have:=J.size;omega),p9.trans pp |>.stored E (.inr ?_)⟩
   ·have u:=E.blk;unfold s8C at u ⊢;rw[nS]at u;rw[ji aC];exact u
   ·rw[<-a3];exact V.size
  ·have bb:c= []:=List.eq_nil_of_length_eq_zero (by omega);subst bb;rw[eB (by simp)]at e9;refine⟨_,_,_,_,_,_,_,_,⟨f.at rfl,f.at rfl,f.at rfl,f.at rfl,f.at rfl,f.at rfl,f.at rfl,f.at rfl⟩,bx aA (by simp) λb3 aN=>?_⟩;have a:=aN.blk;rw[nS]at a;refine⟨_,_,_,_,_,_,_,_,⟨a.at rfl,a.at rfl,a.at rfl,a.at rfl,a.at rfl,a.at rfl,a.at rfl,a.at rfl⟩,?_,p9.stored aN (.inr (by rw[y.num];exact Nat.le_refl _))⟩;have e:D.fin K last (u32.wrap ((i:Int).fdiv (2 ^ 32))) (u32.wrap i)=⟨sa,sb,sc,sd,se,sf,sg,sh⟩:=by
    unfold Dg.fin;rw[<-z,<-Z,<-e9]
   rw[e];rfl
theorem Ml {g:Nat}{L:DgL}{D:Dg}{K:List Int}{w:World}(h:jL w g L D)(i:cR w 1 K)(j:D.waits.length<16):
 Calls Tryz.prog 139 #[.pointer (pvA g)] w λe w'=>∃v,e=.returned v/\v=.agg (s8C (D.sum K))/\Pu w w':=by
 refine pL _ ?_;refine mkd λl w1 b=>?_;have c:=h.pu b.pu;obtain⟨T,k⟩:=c.blk;refine ah _ rfl ⟨_,k.at rfl,(Nj c (i.pu b.pu) j _ _).mono ?_⟩;rintro e w2 ⟨_,rfl,rfl,d⟩;have e:D.sum K=D.fin K 2147483648 (u32.wrap ((u64.wrap (32*(u64.wrap D.n)):Int).fdiv (2 ^ 32))) (u32.wrap (u64.wrap (32*(u64.wrap D.n)))):=rfl;rw[e];generalize D.fin K 2147483648 _ _=S;obtain⟨n,o,sc,p,q,r,s,sh⟩:=S;refine⟨_,_,_,_,_,_,_,_,rfl,bx (d.blk b.blk) (by simp) λt f=>?_⟩;have a:=f.blk;unfold s8C at *;rw[nS]at a;exact⟨_,_,_,_,_,_,_,_,⟨a.at rfl,a.at rfl,a.at rfl,a.at rfl,a.at rfl,a.at rfl,a.at rfl,a.at rfl⟩,rfl,(b.pu.trans d).stored f (.inr (by rw[b.num];exact Nat.le_refl _))⟩
end Go.Proofs.YtoghdgcmhbanbaaGreatDoor
end
section
namespace Go.Proofs.YtoghdgcmhbanbaaGreatDoor
open Go Go.RowKit V
open Go.IntKind (i64 u32 u64 wrap_i64 wrap_u32)
open Enc (enc)
theorem sB8:S1 Tryz.prog 27 5 (vY 0) 1:=S1.of (by kernel_rfl) (by kernel_rfl) rfl
theorem rdB {α:Type} [Enc α]{w:World}{g:Nat}{cs:Array Value}{T:TypeId}{l:List α}(b:Blk w g cs T)(h:cs.toList=l.flatMap enc){n c:Nat}(e:l.length=n)(f:n<=c):Rd w (λk=>k=g) (pvA g) n c l:=
 ⟨e,f,λk o=>o▸b.lt,λi x p=>⟨_,rfl,rfl,λj a=>by
  have q:=flat_get l i j x p a;have d:(enc x)[j]? =some ((enc x)[j]'(by rw[bM];exact a)):=List.getElem?_eq_getElem _;rw[d];exact b.at2 (by rw[<-Array.getElem?_toList,h,q,d])⟩⟩
theorem Fa {α:Type} [Enc α]{P:Program}{w:World}{t e:TypeId}{z:Value}{bytes:Nat}(h:S1 P t e z bytes)(j:Enc.size α=1){n:Int}(x:0<=n)(y:(bytes:Int)*n<=281474976710656)(B:n<=9223372036854775807){K:Option Addr->Nat->Nat->World->Prop}
 (l:∀A C w2,Own w2 (λk=>w.heap.size<=k) e A 0 C ([]:List α)->Pu w w2->K A 0 C w2):
 ∃(A:oA)(N C:Nat)(w2:World),(Instr.makeSlice t (J 0) (J n):Sem Value).run P w=.ok (.slice A N C) w2/\K A N C w2:=by
 obtain⟨i,hi,o,p,q⟩:=h.info;have en:n=((n.toNat:Nat):Int):=by omega
 have E:((bytes*n.toNat:Nat):Int)=(bytes:Int)*n:=by rw[Int.natCast_mul,<-en]
 obtain⟨w2,f,r,b⟩:=run_make_own (P:=P) w w.heap.size t e i z 1 h.und hi o p .i64 .i64 n.toNat (by rw[q];omega) (by simp only[maxLen];omega) (Nat.le_refl _);rw[<-en]at f;refine⟨_,_,_,_,f,l _ _ _ ⟨⟨?_,λa c=>?_⟩,rfl⟩ ⟨⟨b.os,b.tape,b.output,b.size,λk s=>b.block k s.1 (by simp)⟩⟩⟩
 ·rw[j];rcases r with⟨u,d⟩
  refine⟨u,?_⟩;rcases d with d|⟨g,cap,cur,v,F,rest⟩
  ·exact .inl d
  ·exact .inr ⟨g,cap,cur,v,Nat.zero_le _,rest⟩
 ·injection c with c;rw[<-c];exact Nat.le_refl _
def byW(x:Int)(k:Nat):U8:=⟨IntKind.u8.wrap (x.fdiv (2 ^ k))⟩
def np(x:U32):List U8:= [byW x.v 24,byW x.v 16,byW x.v 8,byW x.v 0]
def aP(l:List U32):List U8:=l.flatMap np
theorem cp(l:List U32):(aP l).length=4*l.length:=by
 unfold aP
 induction l with
 |nil=>rfl
 |cons x r a=>rw[List.flatMap_cons,List.length_append,a,List.length_cons];show 4+_=_;omega
theorem qG {l:List U32}{k:Nat}{x:U32}(h:l[k]? =some x):aP (l.take (k+1))=aP (l.take k)++np x:=by
 unfold aP;rw[List.take_add_one,h,List.flatMap_append];simp
theorem IN {w:World}{Y:Nat->Prop}{A:Option Addr}{n c:Nat}{l:List U32}(h:Rd w Y A n c l)(G:n<=1099511627776):
 Calls Tryz.prog 164 #[.slice A n c] w λe w'=>∃v,e=.returned v/\∃A' c',v=.slice A' (4*n) c'/\Own w' (λk=>w.heap.size<=k) 5 A' (4*n) c' (aP l)/\Pu w w':=by
 have H:=h.len;refine u6 _ _ _ ?_;refine Fa (α:=U8) sB8 rfl (by rw[aa (by omega)];omega) (by rw[aa (by omega)];omega) (by rw[aa (by omega)];omega) λI J w0 s t=>?_;refine⟨λm A' u f i w'=>∃k:Nat,i=(k:Int)/\k<=n/\m=n - k/\u=4*k/\Own w' (λa=>w.heap.size<=a) 5 A' (4*k) f (aP (l.take k))/\Pu w w',⟨n,0,rfl,Nat.zero_le _,rfl,rfl,s,t⟩,?_⟩;rintro m _ A' _ f _ w1 ⟨k,rfl,K,rfl,rfl,j,q⟩;refine af (λy=>?_) (λy=>?_)
 ·refine⟨by omega,?_⟩;obtain⟨p,x,z,o,M,r⟩:=(h.pu q).ld (i:=(k:Int)) (by omega) (by omega);rw[Int.toNat_natCast]at o r;refine ah p z ⟨x.v,by rw[Int.toNat_natCast];have:=r 0 (by decide);exact this,?_⟩;intro N w2 B hw;have b:=made B hw;refine Own.apps (l2:=np x) (m:=4) (d:=4) (j.pu b.pu) sB8.sn (rdB b.blk rfl rfl (Nat.le_refl _)) (by omega) (by omega) (by have:=b.pu.size;have:=q.size;omega) (λO P Q C E=>?_) (λh=>absurd h (by omega));refine⟨n - (k+1),by omega,k+1,by rw[aa (by omega)];omega,by omega,rfl,by omega,?_,(q.trans b.pu).call E λa F=>.inr F⟩;rw[qG o];exact C
 ·obtain rfl:k=n:=by omega
  refine⟨_,_,rfl,?_,q⟩
  rwa[List.take_of_length_le (by omega)]at j
def be(a b c d:Int):Int:=u32.wrap (BitVec.ofInt u32.bits (u32.wrap (BitVec.ofInt u32.bits (u32.wrap (BitVec.ofInt u32.bits (u32.wrap ((u32.wrap a:Int)*2 ^ 24)) ||| BitVec.ofInt u32.bits (u32.wrap ((u32.wrap b:Int)*2 ^ 16))).toNat) ||| BitVec.ofInt u32.bits (u32.wrap ((u32.wrap c:Int)*2 ^ 8))).toNat) ||| BitVec.ofInt u32.bits (u32.wrap ((u32.wrap d:Int)*2 ^ 0))).toNat
theorem H2(a b c d:Int):0<=be a b c d/\be a b c d<4294967296:=lL _
def g9(l:List U8)(i:Nat):U32:=⟨be (l.getD (4*i) ⟨0⟩).v (l.getD (4*i+1) ⟨0⟩).v (l.getD (4*i+2) ⟨0⟩).v (l.getD (4*i+3) ⟨0⟩).v⟩
def dR(l:List U8):List U32:=(List.range (l.length / 4)).map (g9 l)
theorem mK(l:List U8):(dR l).length=l.length / 4:=by unfold dR;rw[List.length_map,List.length_range]
theorem mJ {l:List U8}:∀x∈dR l,0<=x.v/\x.v<4294967296:=by
 intro x a;obtain⟨i,_,rfl⟩:=List.mem_map.1 a;exact H2 _ _ _ _
def au(l:List U8)(k:Nat):List U32:=(List.range k).map (g9 l)++List.replicate (l.length / 4 - k) ⟨0⟩
theorem ze {l:List U8}{k:Nat}(a:k<l.length / 4):(au l k).set k (g9 l k)=au l (k+1):=by
 unfold au;rw[List.set_append_right _ _ (by simp),List.range_succ,List.map_append,List.append_assoc];congr 1;rw[show l.length / 4 - k=(l.length / 4 - (k+1))+1 by omega,List.replicate_succ];simp
theorem GL {w:World}{Z:Nat->Prop}{A:Option Addr}{n c:Nat}{l:List U8}(h:Rd w Z A n c l)(j:0<n):∃p,A=some p/\∀i,i<n->w.cell? (p.add i)=some (vY (l.getD i ⟨0⟩).v):=by
 obtain⟨p,x,a,k,o,q⟩:=h.ld (i:=0) (by omega) (by omega);refine⟨p,a,λi hi=>?_⟩;obtain⟨r,s,b,d,_,f⟩:=h.ld (i:=(i:Int)) (by omega) (by omega);rw[a]at b;injection b with e
 subst e;rw[Int.toNat_natCast]at d f;have:=f 0 (by decide);rw[List.getD_eq_getElem?_getD,d];rw[show(p.add (i*Enc.size U8)).add 0=p.add i by rw[add_add,Nat.add_zero,show i*Enc.size U8=i from Nat.mul_one i]]at this;exact this
theorem IM {w:World}{Y:Nat->Prop}{A:Option Addr}{n c:Nat}{l:List U8}(h:Rd w Y A n c l)(N:n<=1048576)(O:n % 4=0):
 Calls Tryz.prog 166 #[.slice A n c] w λe w'=>∃v,e=.returned v/\∃A' c',v=.tuple #[.slice A' (n / 4) c',.int .i64 0]/\Own w' (λk=>w.heap.size<=k) 22 A' (n / 4) c' (dR l)/\Pu w w':=by
 have r:=h.len;have B:=h.cap;have C:(n:Int).tmod 4=0:=by rw[Int.tmod_eq_emod_of_nonneg (by omega)];omega
 have P:i64.wrap ((n:Int).tdiv 4)=((n / 4:Nat):Int):=by
  have:(n:Int).tdiv 4=(n:Int) / 4:=Int.tdiv_eq_ediv_of_nonneg (by omega);rw[this,aa (by omega)];omega
 refine u5 _ _ _ ?_;refine af (λb=>by omega) (λb=>?_);refine aG (λb=>absurd C b) (λ_=>?_);refine Ae vJ (⟨0⟩:U32) rfl (by omega) (by omega) (by omega) λg w0 s t=>?_;have E:(i64.wrap ((n:Int).tdiv 4)).toNat=n / 4:=by omega
 rw[E]at t ⊢;have F:Pu w w0:=s.pu;have Q:w.heap.size<=g:=by rw[s.num];exact Nat.le_refl _
 refine⟨λm i w'=>∃k:Nat,i=(k:Int)/\k<=n / 4/\m=n / 4 - k/\Own w' (λa=>a=g) 22 (pvA g) (n / 4) (n / 4) (au l k)/\Pu w w',⟨n / 4,0,rfl,Nat.zero_le _,rfl,by unfold au;rw[r];exact t,F⟩,?_⟩;rintro m _ _ w1 ⟨k,rfl,R,rfl,f,q⟩;refine af (λb=>?_) (λb=>?_)
 ·have G:i64.wrap (4*(k:Int))=((4*k:Nat):Int):=by rw[aa (by omega)];omega
  rw[G];refine⟨by omega,?_⟩;rintro H u I x J z;rw[Int.toNat_natCast]at u x z;have r2:Rd w1 Y H I J (l.drop (4*k)):=(h.pu q).from_ (m:=c) (lo:=4*k) u x z (by omega) B;obtain⟨p,rfl,d⟩:=GL r2 (by omega);have hd:∀j,(l.drop (4*k)).getD j ⟨0⟩=l.getD (4*k+j) ⟨0⟩:=λj=>by rw[List.getD_eq_getElem?_getD,List.getElem?_drop,List.getD_eq_getElem?_getD]
  refine⟨λ_ _=>True,by omega,ah p rfl ⟨trivial,_,d 0 (by omega),by omega,ah p rfl ⟨trivial,_,d 1 (by omega),by omega,ah p rfl ⟨trivial,_,d 2 (by omega),by omega,ah p rfl ⟨trivial,_,d 3 (by omega),by omega,ah _ rfl ?_⟩⟩⟩⟩⟩;rw[Int.toNat_natCast];have hw:(au l k)[k]? =some ⟨0⟩:=by
   unfold au;rw[List.getElem?_append_right (by simp),List.getElem?_replicate,if_pos (by simp;omega)]
  refine(f.pu (Pu.aw w1)).st0 rfl (i:=k) (by omega) hw (y:=g9 l k) (by simp only[hd];rfl) λw2 K M=>?_;refine⟨_,λ_ _ h=>h,n / 4 - (k+1),by omega,k+1,by rw[aa (by omega)];omega,by omega,rfl,?_,(q.trans (Pu.aw w1)).call M λa o=>.inr (by have:a=g:=o;omega)⟩;rw[<-ze (by omega)];exact K
 ·obtain rfl:k=n / 4:=by omega
  refine⟨_,_,rfl,?_,q⟩;have e:au l (n / 4)=dR l:=by unfold au dR;rw[r,Nat.sub_self];simp
  rw[e]at f;exact f.mono λa o=>by have:a=g:=o;omega
def xp(x p:Int):Int:=IntKind.u8.wrap (BitVec.ofInt IntKind.u8.bits x ^^^ BitVec.ofInt IntKind.u8.bits p).toNat
def full(l:List U8):List U8:=l++List.replicate (64 - l.length) ⟨0⟩
def gx(l:List U8)(p:Int):List U8:=(full l).map λx=>⟨xp x.v p⟩
theorem iC {l:List U8}(h:l.length<=64):(full l).length=64:=by unfold full;rw[List.length_append,List.length_replicate];omega
theorem eg {l:List U8}(h:l.length<=64)(p:Int):(gx l p).length=64:=by unfold gx;rw[List.length_map,iC h]
def qW(l:List U8)(p:Int)(k:Nat):List U8:=(gx l p).take k++(full l).drop k
theorem GY {l:List U8}{p:Int}(h:l.length<=64){k:Nat}(a:k<=64):(qW l p k).length=64:=by unfold qW;rw[List.length_append,List.length_take,List.length_drop,eg h,iC h];omega
theorem GZ {l:List U8}{p:Int}(h:l.length<=64){k:Nat}(a:k<64):(qW l p k)[k]? =some ((full l).getD k ⟨0⟩):=by
 unfold qW;rw[List.getElem?_append_right (by rw[List.length_take,eg h];omega),List.length_take,eg h,List.getElem?_drop,show k+(k - min k 64)=k by omega,List.getD_eq_getElem?_getD,List.getElem?_eq_getElem (by rw[iC h];exact a)];rfl
theorem E6 {l:List U8}{p:Int}(h:l.length<=64){k:Nat}(d:k<64):(qW l p k).set k ⟨xp ((full l).getD k ⟨0⟩).v p⟩=qW l p (k+1):=by
 have e:=iC h;unfold qW;have a:(full l)[k]? =some ((full l).getD k ⟨0⟩):=by rw[List.getD_eq_getElem?_getD,List.getElem?_eq_getElem (by omega)];rfl
 have b:(gx l p)[k]? =some ⟨xp ((full l).getD k ⟨0⟩).v p⟩:=by unfold gx;rw[List.getElem?_map,a];rfl
 rw[List.take_add_one,b,List.set_append_right _ _ (by rw[List.length_take,eg h];omega),List.length_take,eg h,show k - min k 64=0 by omega,List.append_assoc];congr 1;have c:k<(full l).length:=by omega
 rw[List.drop_eq_getElem_cons c];rfl
theorem LP(l:List U8):(l.map λx:U8=>Value.int .u8 x.v)=l.flatMap enc:=by
 induction l with
 |nil=>rfl
 |cons x r a=>rw[List.map_cons,List.flatMap_cons,a];rfl
theorem GM {w:World}{Z:Nat->Prop}{A:Option Addr}{n c:Nat}{l:List U8}(h:Rd w Z A n c l):aD w Z .u8 A n c (l.map U8.v):=
 ⟨by rw[List.length_map];exact h.len,h.cap,λj x a=>by
  rw[List.getElem?_map]at a;obtain⟨y,b,rfl⟩:=Option.map_eq_some_iff.1 a;obtain⟨p,d,e,f⟩:=h.cell j y b;have:=f 0 (by decide);rw[show(p.add (j*Enc.size U8)).add 0=p.add j by rw[add_add,Nat.add_zero,show j*Enc.size U8=j from Nat.mul_one j]]at this;exact⟨p,d,e,this⟩⟩
theorem Gu {l:List U8}(h:l.length<=64):(setAt (Array.replicate 64 (vY 0)) 0 (((l.map U8.v).take (min l.length 64)).map (Value.int .u8))).toList=(full l).map λx:U8=>Value.int .u8 x.v:=by
 apply List.ext_getElem?;intro i;rw[Array.getElem?_toList,dO _ _ _ _ (by simp;omega)];unfold full;simp only[List.length_map,List.length_take,List.getElem?_map,List.getElem?_append,List.getElem?_replicate,List.getElem?_take,Array.getElem?_replicate];rw[show min l.length 64=l.length by omega,Nat.min_self];by_cases hi:i<l.length
 ·rw[if_pos ⟨by omega,by omega⟩,if_pos hi,if_pos (by omega)];simp[List.getElem?_eq_getElem hi]
 ·rw[if_neg (by omega),if_neg hi];by_cases a:i<64
  ·rw[if_pos a,if_pos (by omega)];rfl
  ·rw[if_neg a,if_neg (by omega)];rfl
theorem JM {w:World}{Y:Nat->Prop}{A:Option Addr}{n c:Nat}{l:List U8}(h:Rd w Y A n c l)(F:n<=64)(pad:Int):
 Calls Tryz.prog 167 #[.slice A n c,.int .u8 pad] w λe w'=>∃v,e=.returned v/\∃g,v=.slice (pvA g) 64 64/\Rd w' (λk=>k=g) (pvA g) 64 64 (gx l pad)/\w.heap.size<=g/\Pu w w':=by
 have u:=h.len;have a:l.length<=64:=by omega
 refine vu _ _ _ _ ?_;refine⟨λA' n' c' w'=>w'=w/\A'=A/\n'=n/\c'=c,af (λb=>by omega) (λ_=>⟨rfl,rfl,rfl,rfl⟩),?_⟩;rintro _ _ _ _ f ⟨rfl,rfl,rfl,rfl⟩;refine j3 sB8 (n:=64) (by decide) (by decide) (by decide) λg w1 d=>?_;have j:f.heap.size<=g:=by rw[d.num];exact Nat.le_refl _
 refine rV sB8 (o:=0) d.blk ((GM h).pu d.pu) (by simp;omega) λw2 s2=>?_;have y:Blk w2 g ((qW l pad 0).map λx:U8=>Value.int .u8 x.v).toArray 5:=by
  refine s2.blk.cast ?_;apply Array.ext';rw[<-u];have:=Gu a;unfold qW;rw[List.take_zero,List.nil_append,List.drop_zero];exact this.symm
 have z:Pu f w2:=d.pu.stored s2 (.inr j);refine⟨λm i w'=>∃k:Nat,i=(k:Int)/\k<=64/\m=64 - k/\Blk w' g ((qW l pad k).map λx:U8=>Value.int .u8 x.v).toArray 5/\Pu f w',⟨64,0,rfl,by omega,rfl,y,z⟩,?_⟩;rintro m _ _ G ⟨k,rfl,B,rfl,q,r⟩;refine af (λb=>?_) (λb=>?_)
 ·have s:k<64:=by have b:(k:Int)<((64:Nat):Int):=b;omega
  have C:=GZ (p:=pad) a s;have E:((qW l pad k).map λx:U8=>Value.int .u8 x.v).toArray[k*1]? =some (vY ((full l).getD k ⟨0⟩).v):=by
   rw[Nat.mul_one,List.getElem?_toArray,List.getElem?_map,C];rfl
  refine⟨⟨by omega,by show(k:Int)<((64:Nat):Int);omega⟩,ah _ rfl ⟨_,by rw[Int.toNat_natCast];exact q.at E,⟨by omega,by show(k:Int)<((64:Nat):Int);omega⟩,ah _ rfl ?_⟩⟩;rw[Int.toNat_natCast];refine aL q (by simp[GY a B];omega) λH t=>?_;refine⟨64 - (k+1),by omega,k+1,by rw[aa (by omega)];omega,by omega,rfl,?_,r.stored t (.inr j)⟩;refine t.blk.cast ?_;rw[oU,Nat.mul_one];apply Array.ext';rw[Array.toList_setIfInBounds,<-E6 a s,List.map_set];rfl
 ·obtain rfl:k=64:=by have b:¬(k:Int)<((64:Nat):Int):=b;omega
  refine⟨g,rfl,rdB q ?_ (eg a pad) (Nat.le_refl _),j,r⟩;rw[<-LP];unfold qW;rw[List.take_of_length_le (by rw[eg a];exact Nat.le_refl _),List.drop_of_length_le (by rw[iC a];exact Nat.le_refl _),List.append_nil]
attribute [local irreducible] bf jq
theorem KU(K:List Int){d:Dg}(h:d.Ok):(d.sum K).ok:=pG _ _ _ h.st
theorem Dg.Ok.lt {d:Dg}(h:d.Ok):d.waits.length<16:=by have:=h.len;have:=h.n;omega
def s8L(s:S8):List U32:= [⟨s.a⟩,⟨s.b⟩,⟨s.c⟩,⟨s.d⟩,⟨s.e⟩,⟨s.f⟩,⟨s.g⟩,⟨s.h⟩]
theorem Mn {w:World}{g:Nat}{L:DgL}{D:Dg}(h:jL w g L D)(s:D.Ok):
 Calls Tryz.prog 140 #[.pointer (pvA g)] w λe w'=>∃v,e=.returned v/\∃(f:Nat)(n:DgL),v=.pointer (pvA f)/\jL w' f n D/\(∀k,n.X f k->w.heap.size<=k)/\Pu w w':=by
 obtain⟨⟨T,b⟩,o,C⟩:=h;have hlen:=o.len;have hw:=s.lt;refine BE _ ?_;refine ah _ rfl ⟨_,_,_,_,_,_,_,_,_,_,_,_,⟨b.at rfl,b.at rfl,b.at rfl,b.at rfl,b.at rfl,b.at rfl,b.at rfl,b.at rfl,b.at rfl,b.at rfl⟩,mkd λc w1 i=>aI i.blk rfl λw2 s2=>?_⟩;have p:w.heap.size<=c:=by rw[i.num];exact Nat.le_refl _
 have d:Pu w w2:=i.pu.stored s2 (.inr p);have t:=d.blk b;refine ah _ rfl ⟨_,_,_,t.at rfl,?_⟩;refine lX vJ.sn (o.pu d) (by omega) (by omega) λu x j y q=>?_;have z:Pu w j:=d.trans q;have A:=q.blk s2.blk;refine aL A (by simp) λB r=>?_;have l:Ch (λk=>k=c) j B:=r.ch;have E:c<w2.heap.size:=s2.blk.lt;refine⟨c,⟨λk=>w2.heap.size<=k/\k<j.heap.size,u,L.n,x⟩,rfl,⟨⟨_,r.blk⟩,?_,λe=>by have:=e.1;omega⟩,?_,z.call l λk a=>.inr (by have:k=c:=a;omega)⟩
 ·have:=y.rd;exact(this.ch l λk a e=>by have:k=c:=e;have:=a.1;omega).mono (λk a=>a.1) λk a=>by have:=a.2;have:=l.size;omega
 ·rintro k (rfl|a)
  ·exact p
  ·have:=a.1;have:=d.size;omega
def xT(K:List Int)(kb:List U8)(pad:Int):Dg:=Dg.new.add K (dR (gx kb pad))
theorem xS(K:List Int)(kb:List U8)(pad:Int):(xT K kb pad).Ok:=Dg.uc Dg.xP mJ
def qX(K:List Int)(key msg:List U32):S8:=((xT K (aP key) 92).add K (s8L (((xT K (aP key) 54).add K msg).sum K))).sum K
theorem Ht {w:World}{Y:Nat->Prop}{A:Option Addr}{n c:Nat}{l:List U8}{K:List Int}(h:Rd w Y A n c l)(a:cR w 1 K)(o:n<=64)(pad:Int):
 Calls Tryz.prog 137 #[.slice A n c,.int .u8 pad] w λe w'=>∃v,e=.returned v/\∃(g:Nat)(L:DgL),v=.pointer (pvA g)/\jL w' g L (xT K l pad)/\(∀k,L.X g k->w.heap.size<=k)/\Pu w w':=by
 have z:=h.len;refine yY _ _ _ _ ?_;refine Ni.mono ?_;rintro e w1 ⟨_,rfl,g,L,rfl,i,f,b⟩;refine⟨_,rfl,(JM (h.pu b) o pad).mono ?_⟩;rintro e w2 ⟨_,rfl,B,rfl,r2,C,j⟩;refine⟨_,_,_,rfl,(IM r2 (by omega) (by decide)).mono ?_⟩;rintro e p ⟨_,rfl,E,F,rfl,q,r⟩;have s:=eg (l:=l) (by omega) pad;have d:Pu w1 p:=j.trans r;have G:=f g (.inl rfl);have H:=i.lt g (.inl rfl);have I:=a.lt _ rfl;have J:=j.size;refine⟨_,_,_,_,rfl,(K1 (i.pu d) q.rd (a.pu (b.trans d)) Dg.xP (by rw[mK,s];decide) (λe=>by have:=e.1;omega) (by omega)).mono ?_⟩;rintro e M ⟨_,rfl,t,rfl,u,x,y⟩;exact⟨rfl,g,t,rfl,u,λk a=>(x k a).elim (f k) λN=>by have:=d.size;have:=b.size;omega,(b.trans d).call y λk a=>.inr (f k a)⟩
theorem LC {w:World}{Y:Nat->Prop}{A:Option Addr}{n c:Nat}{l:List U32}(h:Rd w Y A n c l)(b:n<=16):
 Calls Tryz.prog 136 #[.slice A n c] w λe w'=>∃v,e=.returned v/\∃A' c',v=.slice A' (4*n) c'/\Own w' (λk=>w.heap.size<=k) 5 A' (4*n) c' (aP l)/\Pu w w':=by
 refine yX _ _ _ (af (λd=>by omega) λ_=>?_);refine(IN h (by omega)).mono ?_;rintro e w1 ⟨_,rfl,A',c',rfl,a,p⟩;exact⟨_,_,_,rfl,_,_,rfl,a,p⟩
structure M8(w:World)(g:Nat)(X:Nat->Prop)(D1 D2:Dg):Prop where
 ex:∃(T:TypeId)(g1 g2:Nat)(L1 L2:DgL),Blk w g #[.pointer (pvA g1),.pointer (pvA g2)] T/\jL w g1 L1 D1/\jL w g2 L2 D2/\(∀k,L1.X g1 k->X k)/\(∀k,L2.X g2 k->X k)/\(∀k,L1.X g1 k->¬L2.X g2 k)/\¬L1.X g1 g/\¬L2.X g2 g
theorem Nx {w:World}{Y:Nat->Prop}{A:Option Addr}{n c:Nat}{l:List U32}{K:List Int}(h:Rd w Y A n c l)(a:cR w 1 K)(q:n<=16):
 Calls Tryz.prog 105 #[.slice A n c] w λe w'=>∃v,e=.returned v/\∃(g:Nat),v=.pointer (pvA g)/\M8 w' g (λk=>w.heap.size<=k) (xT K (aP l) 54) (xT K (aP l) 92)/\w.heap.size<=g/\Pu w w':=by
 refine Dt _ _ _ ?_;refine(LC h q).mono ?_;rintro e w1 ⟨_,rfl,C,E,rfl,j,d⟩;refine⟨_,_,_,rfl,(Ht j.rd (a.pu d) (by omega) 54).mono ?_⟩;rintro e w2 ⟨_,rfl,r,s,rfl,d2,t,f⟩;refine⟨_,rfl,(Ht (j.pu f).rd (a.pu (d.trans f)) (by omega) 92).mono ?_⟩;rintro e F ⟨_,rfl,u,x,rfl,d3,o,i⟩;refine⟨_,rfl,mkd λy G b=>?_⟩;have s1:=d.size;have s2:=f.size;have H:=i.size;have p:=d2.lt;have z:=d3.lt;have I:=b.num;refine⟨y,rfl,⟨_,r,u,s,x,b.blk,d2.pu (i.trans b.pu),d3.pu b.pu,λk a=>?_,λk a=>?_,λk a B=>?_,λa=>?_,λa=>?_⟩,by omega,(d.trans f).trans (i.trans b.pu)⟩
 ·have:=t k a;omega
 ·have:=o k a;omega
 ·have:=p k a;have:=o k B;omega
 ·have:=p _ a;omega
 ·have:=z _ a;omega
theorem JL {w:World}{g:Nat}{X:Nat->Prop}{d f:Dg}{K:List Int}(h:M8 w g X d f)(a:cR w 1 K)(u:d.Ok)(o:f.Ok):
 Calls Tryz.prog 107 #[.pointer (pvA g)] w λe w'=>∃v,e=.returned v/\v=.agg (s8C ((f.add K (s8L (d.sum K))).sum K))/\Pu w w':=by
 obtain⟨T,g1,g2,L1,L2,y,d1,d2,_⟩:=h;refine vt _ ?_;refine mkd λH w1 c=>ah _ rfl ⟨_,(c.pu.blk y).at rfl,(Ml (d1.pu c.pu) (a.pu c.pu) u.lt).mono ?_⟩;rintro e w2 ⟨_,rfl,rfl,p⟩;obtain⟨S,z⟩:∃S,S=d.sum K:=⟨_,rfl⟩;rw[<-z];refine⟨_,_,_,_,_,_,_,_,rfl,mkd λgs w3 q=>aI q.blk rfl λA r=>?_⟩;have B:Pu w w2:=c.pu.trans p;have I:w2.heap.size<=gs:=by rw[q.num];exact Nat.le_refl _
 have s:Pu w2 A:=q.pu.stored r (.inr I);have i:Pu w A:=B.trans s;refine ah _ rfl ⟨_,(i.blk y).at rfl,(Mn (d2.pu i) o).mono ?_⟩;rintro e J ⟨_,rfl,t,L5,rfl,d5,j,n⟩;refine⟨_,rfl,?_⟩;rintro M N O P Q U;have V:=n.blk r.blk;have r6:Rd J (λk=>k=gs) M O Q (s8L S):=by
  subst N P U;exact rdB (l:=s8L S) V rfl rfl (Nat.le_refl _)
 have az:=a.lt _ rfl;have aA:=r.blk.lt;have aC:=B.size;have aN:=s.size;refine(K1 d5 r6 (a.pu (i.trans n)) o (show 8<=1099511627776 by decide) (λe=>by have:=j t (.inl rfl);have:t=gs:=e;omega) (by have:=j t (.inl rfl);omega)).mono ?_;rintro e W ⟨_,rfl,L6,rfl,d6,a0,C⟩;have Z:Pu w W:=(i.trans n).call C λk a=>.inr (by have:=j k a;omega);have hr:∀x∈s8L S,0<=x.v/\x.v<4294967296:=by
  have:=KU K u;rw[<-z]at this;obtain⟨a1,a2,a3,a4,a5,a6,a7,a8⟩:=this;intro x E;simp only[s8L,List.mem_cons,List.not_mem_nil,or_false]at E;rcases E with rfl|rfl|rfl|rfl|rfl|rfl|rfl|rfl<;>assumption
 refine⟨rfl,(Ml d6 (a.pu Z) (Dg.uc o hr).lt).mono ?_⟩;rintro e w7 ⟨_,rfl,rfl,p7⟩;generalize Dg.sum K (Dg.add K f (s8L S))=R;have an:w.heap.size<=H:=by rw[c.num];exact Nat.le_refl _
 have F:Pu w1 w7:=((p.trans s).trans n).call C (λk a=>.inr (by have:=j k a;have:=p.size;omega)) |>.trans p7
 refine⟨_,_,_,_,_,_,_,_,rfl,aI (Pu.blk F c.blk) rfl λw8 G=>?_⟩;have b:=G.blk;exact⟨_,_,_,_,_,_,_,_,⟨b.at rfl,b.at rfl,b.at rfl,b.at rfl,b.at rfl,b.at rfl,b.at rfl,b.at rfl⟩,rfl,(c.pu.trans F).stored G (.inr an)⟩
theorem MH {w:World}{Y Z:Nat->Prop}{p q:Option Addr}{kn kc f r:Nat}{key msg:List U32}{K:List Int}(C:Rd w Y p kn kc key)(i:Rd w Z q f r msg)(a:cR w 1 K)(E:kn<=16)(F:f<=1099511627776)(G:∀x∈msg,0<=x.v/\x.v<4294967296):
 Calls Tryz.prog 86 #[.slice p kn kc,.slice q f r] w λe w'=>∃v,e=.returned v/\v=.agg (s8C (qX K key msg))/\Pu w w':=by
 refine BW _ _ _ _ _ _ ?_;refine mkd λH w1 c=>?_;refine(Nx (C.pu c.pu) (a.pu c.pu) E).mono ?_;rintro e w2 ⟨_,rfl,g,rfl,⟨T,s,I,U,J,j,d1,d2,l,V,ne,t,n2⟩,W,u⟩;have n:=c.pu.trans u;have r2:=i.pu n;have M:=i.lt;have an:=a.lt _ rfl;have e1:=l s (.inl rfl);have sz:=c.size;refine⟨_,rfl,ah _ rfl ⟨_,j.at rfl,(K1 d1 r2 (a.pu n) (xS ..) (by rw[i.len];exact F) (λN=>by have:=M _ N;omega) (by omega)).mono ?_⟩⟩;rintro e w3 ⟨_,rfl,O,rfl,d3,y,d⟩;have az:=j.lt;refine⟨rfl,(JL (X:=λ_=>True) ⟨T,s,I,O,J,d.blk j t,d3,d2.ch d (λk a o=>ne k o a),λ_ _=>trivial,λ_ _=>trivial,λk a z=>(y k a).elim (λh=>ne k h z) (λh=>by have:=d2.lt k z;omega),λh=>(y g h).elim t (λh=>by omega),n2⟩ ((a.pu n).ch d λk a o=>?_) (Dg.uc (xS ..) G) (xS ..)).mono ?_⟩
 ·have:=l k o;omega
 rintro e P ⟨_,rfl,rfl,Q⟩;have eq:((xT K (aP key) 92).add K (s8L (((xT K (aP key) 54).add K msg).sum K))).sum K=qX K key msg:=rfl;rw[eq];generalize qX K key msg=R;have S:w.heap.size<=H:=by rw[c.num];exact Nat.le_refl _
 have A:Pu w1 P:=(u.call d λk a=>.inr (l k a)).trans Q;refine⟨_,_,_,_,_,_,_,_,rfl,aI (Pu.blk A c.blk) rfl λw5 B=>?_⟩;have b:=B.blk;exact⟨_,_,_,_,_,_,_,_,⟨b.at rfl,b.at rfl,b.at rfl,b.at rfl,b.at rfl,b.at rfl,b.at rfl,b.at rfl⟩,rfl,(c.pu.trans A).stored B (.inr S)⟩
theorem rG {s:S8}(h:s.ok):∀x∈s8L s,0<=x.v/\x.v<4294967296:=by
 obtain⟨b,c,d,e,f,i,j,k⟩:=h;intro x a;simp only[s8L,List.mem_cons,List.not_mem_nil,or_false]at a;rcases a with rfl|rfl|rfl|rfl|rfl|rfl|rfl|rfl<;>assumption
end Go.Proofs.YtoghdgcmhbanbaaGreatDoor
end
section
namespace Go.Proofs.YtoghdgcmhbanbaaGreatDoor
open Go Go.RowKit V
open Go.IntKind (i64 u32 u64 wrap_i64 wrap_u32)
open Enc (enc)
theorem aLt {m:Nat}:∀ {l:List Nat}{k:Nat},aX (λ_ k=>k<m) l k->k<m
 | [],_,h=>h.elim
 | [_],_,h=>h
 |_::_::_,_,h=>h.elim id aLt
theorem kb {m:Nat}{l:List Nat}{w w':World}{F:(Nat->Nat->Prop)->Prop}(q:Pu w w')(hm:m<=w.heap.size)(h:F (λ_ k=>k<m)):Kept (aX (λ_ k=>k<m) l) w w'/\∃a:bP,(∀i k,(λ_ k=>k<m) i k->a i k)/\F a:=
 ⟨q.jo λk b=>Nat.lt_of_lt_of_le (aLt b) hm,_,λ_ _ h=>h,h⟩
theorem kc {m:Nat}{l:List Nat}{w w':World}{X:Nat->Prop}{F:(Nat->Nat->Prop)->Prop}(q:Ch X w w')(c:∀k,X k->m<=k)(hm:m<=w.heap.size)(h:F (λ_ k=>k<m)):Kept (aX (λ_ k=>k<m) l) w w'/\∃a:bP,(∀i k,(λ_ k=>k<m) i k->a i k)/\F a:=
 ⟨q.jo λk b=>⟨Nat.lt_of_lt_of_le (aLt b) hm,λd=>by have:=c k d;have:=aLt b;omega⟩,_,λ_ _ h=>h,h⟩
theorem Ck {n:Nat}(c:n<=60){w:World}:Calls Tryz.prog 133 #[.int .i64 (n:Int)] w λe w'=>∃v,e=.returned v/\v=.int .i64 ((2 ^ n:Nat):Int)/\w'=w:=by
 refine yT _ ?_;rintro _ rfl _ rfl;refine⟨λm p i w'=>∃k:Nat,i=(k:Int)/\k<=n/\m=n - k/\p=((2 ^ k:Nat):Int)/\w'=w,⟨n,0,rfl,Nat.zero_le _,rfl,rfl,rfl⟩,?_⟩;rintro m _ _ _ _ ⟨k,rfl,d,rfl,rfl,rfl⟩;refine af (λa=>?_) (λa=>?_)
 ·rintro _ rfl _ rfl;have f:2 ^ k<=2 ^ 60:=Nat.pow_le_pow_right (by decide) (by omega);have h:(2:Nat) ^ 60=1152921504606846976:=by decide
  have b:2 ^ (k+1)=2*2 ^ k:=by rw[Nat.pow_succ];omega
  refine⟨n - (k+1),by omega,k+1,by rw[aa (by omega)];omega,by omega,rfl,?_,rfl⟩;rw[b];generalize 2 ^ k=P at *;rw[aa (by omega)];omega
 ·obtain rfl:k=n:=by omega
  exact⟨rfl,rfl⟩
theorem byW_eq {x:Int}(h:0<=x/\x<4294967296):(byW x 24).v=x / 16777216/\(byW x 16).v=x / 65536 % 256/\(byW x 8).v=x / 256 % 256/\(byW x 0).v=x % 256:=by
 unfold byW;simp only[oq,u8_eq];refine⟨?_,?_,?_,?_⟩<;>omega
theorem te {w:World}{Y:Nat->Prop}{A:Option Addr}{n c:Nat}{l:List U32}(h:Rd w Y A n c l)(N:n<=1099511627776)(z:∀x∈l,0<=x.v/\x.v<4294967296):
 Calls Tryz.prog 103 #[.slice A n c] w λe w'=>∃v,e=.returned v/\∃A' c',v=.slice A' (4*n) c'/\Own w' (λk=>w.heap.size<=k) 5 A' (4*n) c' (aP l)/\Pu w w':=by
 have O:=h.len;refine uG _ _ _ ?_;rintro _ rfl;refine⟨λm A' B o i w'=>∃k:Nat,i=(k:Int)/\k<=n/\m=n - k/\B=4*k/\Own w' (λa=>w.heap.size<=a) 5 A' (4*k) o (aP (l.take k))/\Pu w w',⟨n,0,rfl,Nat.zero_le _,rfl,rfl,Own.nil,Ch.refl _ _⟩,?_⟩;rintro m _ A' _ o _ w1 ⟨k,rfl,r,rfl,rfl,s,q⟩;refine af (λC=>?_) (λC=>?_)
 ·refine⟨⟨by omega,by omega⟩,?_⟩;obtain⟨p,x,E,j,P,t⟩:=(h.pu q).ld (i:=(k:Int)) (by omega) (by omega);rw[Int.toNat_natCast]at j t;have f:=z x (List.mem_of_getElem? j);refine ah p E ⟨x.v,by rw[Int.toNat_natCast];have:=t 0 (by decide);exact this,?_⟩;rintro _ rfl;have Q:=q.size;have pd:=Pu.aw w1;refine⟨λ_ k=>k<w.heap.size,(Ck (n:=24) (by decide)).mono ?_⟩;rintro e _ ⟨_,rfl,rfl,rfl⟩;refine⟨_,rfl,kb (Ch.refl _ _) (by have:=pd.size;omega) (DW (by decide) ((Ck (n:=16) (by decide)).mono ?_))⟩;rintro e _ ⟨_,rfl,rfl,rfl⟩;refine⟨_,rfl,kb (Ch.refl _ _) (by have:=pd.size;omega) (DW (by decide) ((Ck (n:=8) (by decide)).mono ?_))⟩;rintro e _ ⟨_,rfl,rfl,rfl⟩;refine⟨_,rfl,kb (Ch.refl _ _) (by have:=pd.size;omega) (DW (by decide) ?_)⟩;intro R w2 F hw;have b:=made F hw;obtain⟨G,H,I,J⟩:=byW_eq f;have t1:IntKind.u8.wrap (i64.wrap ((i64.wrap x.v:Int).tdiv ((2 ^ 24:Nat):Int)))=(byW x.v 24).v:=by
   rw[G,aa (x:=x.v) (by omega),Int.tdiv_eq_ediv_of_nonneg f.1,aa (by omega),u8_eq];omega
  have t2:IntKind.u8.wrap ((i64.wrap ((i64.wrap x.v:Int).tdiv ((2 ^ 16:Nat):Int)):Int).tmod 256)=(byW x.v 16).v:=by
   rw[H,aa (x:=x.v) (by omega),Int.tdiv_eq_ediv_of_nonneg f.1,aa (by omega),Int.tmod_eq_emod_of_nonneg (by omega),u8_eq];omega
  have t3:IntKind.u8.wrap ((i64.wrap ((i64.wrap x.v:Int).tdiv ((2 ^ 8:Nat):Int)):Int).tmod 256)=(byW x.v 8).v:=by
   rw[I,aa (x:=x.v) (by omega),Int.tdiv_eq_ediv_of_nonneg f.1,aa (by omega),Int.tmod_eq_emod_of_nonneg (by omega),u8_eq];omega
  have t4:IntKind.u8.wrap ((i64.wrap x.v:Int).tmod 256)=(byW x.v 0).v:=by
   rw[J,aa (x:=x.v) (by omega),Int.tmod_eq_emod_of_nonneg f.1,u8_eq];omega
  have u:=b.blk;rw[t1,t2,t3,t4]at u;refine kb b.pu (by have:=pd.size;omega) ?_;refine Own.apps (l2:=np x) (m:=4) (d:=4) ((s.pu pd).pu b.pu) sB8.sn (rdB u rfl rfl (Nat.le_refl _)) (by omega) (by omega) (by have:=b.pu.size;have:=pd.size;omega) (λS T U K y=>?_) (λh=>absurd h (by omega));refine kc y (λk r=>r) (by have:=b.pu.size;have:=pd.size;omega) ?_;rintro _ rfl;refine⟨n - (k+1),by omega,k+1,by rw[aa (by omega)];omega,by omega,rfl,by omega,?_,((q.trans pd).trans b.pu).call y λa M=>.inr M⟩;rw[qG j];exact K
 ·obtain rfl:k=n:=by omega
  refine⟨_,_,rfl,?_,q⟩
  rwa[List.take_of_length_le (by omega)]at s
def mU(g:Nat->Int):List Int:=(List.range 16).map g
theorem GG {g:Nat->Int}{j:Nat}{x:Int}(a:j<16):setAt ((mU g).map (Value.int .u32)).toArray j [.int .u32 x]=((mU λi=>if i=j then x else g i).map (Value.int .u32)).toArray:=by
 rw[oU];apply Array.ext';rw[Array.toList_setIfInBounds];apply List.ext_getElem?;intro i;simp only[mU,List.getElem?_set,List.getElem?_map,List.length_map,List.length_range];by_cases h:j=i
 ·subst h;simp[a]
 ·simp only[if_neg h];by_cases hi:i<16
  ·rw[List.getElem?_range hi];simp[show ¬i=j from λe=>h e.symm]
  ·rw[List.getElem?_eq_none (by simp;omega)];simp
theorem zw {g:Nat->Int}{j:Nat}(a:j<16):((mU g).map (Value.int .u32)).toArray[j]? =some (O (g j)):=by
 simp[mU,List.getElem?_range a]
theorem tT {l:List U32}{i:Nat}{x:U32}(h:l[i]? =some x)(k:Nat)(b:k<4):(aP l).getD (4*i+k) ⟨0⟩=(np x).getD k ⟨0⟩:=by
 obtain⟨hi,he⟩:=List.getElem?_eq_some_iff.1 h;have e:=List.take_append_drop i l;rw[List.drop_eq_getElem_cons hi,he]at e;have a:aP l=aP (l.take i)++(np x++aP (l.drop (i+1))):=by
  have:aP l=aP (l.take i++x::l.drop (i+1)):=by rw[e]
  rw[this];unfold aP;rw[List.flatMap_append,List.flatMap_cons]
 rw[a,List.getD_eq_getElem?_getD,List.getElem?_append_right (by rw[cp,List.length_take];omega),cp,List.length_take,show 4*i+k - 4*min i l.length=k by omega,List.getElem?_append_left (by show k<4;omega),List.getD_eq_getElem?_getD]
def pt(x:Int):Nat->Int
 |0=>0
 |k+1=>u32.wrap (u32.wrap (pt x k*256)+u32.wrap ((np ⟨x⟩).getD k ⟨0⟩).v)
theorem pt4 {x:Int}(h:0<=x/\x<4294967296):pt x 4=x:=by
 obtain⟨a,b,c,d⟩:=byW_eq h;show u32.wrap (u32.wrap (u32.wrap (u32.wrap (u32.wrap (u32.wrap (u32.wrap (u32.wrap (0*256)+u32.wrap (byW x 24).v)*256)+u32.wrap (byW x 16).v)*256)+u32.wrap (byW x 8).v)*256)+u32.wrap (byW x 0).v)=x;rw[a,b,c,d];simp only[u32_eq];omega
def l16(l:List U32)(k:Nat):List Int:=mU λi=>(l.getD (k+i) ⟨0⟩).v
theorem Cj {w:World}{Y:Nat->Prop}{A:Option Addr}{n c:Nat}{l:List U32}{k:Nat}(h:Rd w Y A n c (aP l))(I:∀x∈l,0<=x.v/\x.v<4294967296)(Z:k+16<=l.length)(hn:n<=1099511627776):
 Calls Tryz.prog 161 #[.slice A n c,.int .i64 ((4*k:Nat):Int)] w λe w'=>∃v,e=.returned v/\v=.agg ((l16 l k).map (Value.int .u32)).toArray/\Pu w w':=by
 have J:=h.len;rw[cp]at J;refine pP _ _ _ _ ?_;refine mkd λgv w1 o=>mkd λr w2 q=>?_;rintro _ rfl;have p2:Pu w w2:=o.pu.trans q.pu;have K:Blk w2 r ((mU λ_=>0).map (Value.int .u32)).toArray 205:=q.blk;have an:w.heap.size<=r:=by rw[q.num];exact o.pu.size
 have M:∀j,j<16->∃x:U32,l[k+j]? =some x/\(0<=x.v/\x.v<4294967296)/\l.getD (k+j) ⟨0⟩=x:=λj N=>by
  have s:k+j<l.length:=by omega
  refine⟨l[k+j],List.getElem?_eq_getElem s,I _ (List.getElem_mem s),?_⟩;rw[List.getD_eq_getElem?_getD,List.getElem?_eq_getElem s];rfl
 refine⟨λm i w'=>∃j:Nat,i=(j:Int)/\j<=16/\m=16 - j/\Blk w' r ((mU λi=>if i<j then(l.getD (k+i) ⟨0⟩).v else 0).map (Value.int .u32)).toArray 205/\Pu w1 w',⟨16,0,rfl,by omega,rfl,K.cast (by simp),q.pu⟩,?_⟩;rintro m _ _ w3 ⟨j,rfl,N,rfl,u,y⟩;refine af (λO=>?_) (λO=>?_)
 ·have z:j<16:=by omega
  obtain⟨x,P,Q,R⟩:=M j z;rintro _ rfl;refine⟨λm i w'=>∃t:Nat,i=(t:Int)/\t<=4/\m=4 - t/\Blk w' r ((mU λi=>if i<j then(l.getD (k+i) ⟨0⟩).v else if i=j then pt x.v t else 0).map (Value.int .u32)).toArray 205/\Pu w1 w',⟨4,0,rfl,by omega,rfl,u.cast (by
   refine congrArg (λg=>((mU g).map (Value.int .u32)).toArray) (funext λi=>?_);by_cases d:i<j
   ·rw[if_pos d,if_pos d]
   ·rw[if_neg d,if_neg d];split<;>rfl),y⟩,?_⟩
  rintro m _ _ C ⟨t,rfl,ht,rfl,b,B⟩;refine af (λS=>?_) (λS=>?_)
  ·have T:t<4:=by omega
   have pd:=Pu.aw C;have U:i64.wrap (i64.wrap (((4*k:Nat):Int)+i64.wrap (4*(j:Int)))+(t:Int))=((4*(k+j)+t:Nat):Int):=by
    rw[aa (x:=4*(j:Int)) (by omega),aa (x:=((4*k:Nat):Int)+4*(j:Int)) (by omega),aa (by omega)];omega
   rw[U];have E:=pd.blk b;obtain⟨p,V,W⟩:=GL ((h.pu o.pu).pu (B.trans pd)) (by omega);refine⟨λ_ _=>True,⟨by omega,by show(j:Int)<((16:Nat):Int);omega⟩,trivial,(if j<j then(l.getD (k+j) ⟨0⟩).v else if j=j then pt x.v t else 0),?_,⟨by omega,by omega⟩,ah p V ⟨trivial,((aP l).getD (4*(k+j)+t) ⟨0⟩).v,?_,⟨by omega,by show(j:Int)<((16:Nat):Int);omega⟩,?_⟩⟩
   ·rw[Int.toNat_natCast,Nat.mul_one];exact E.at (zw z)
   ·rw[Int.toNat_natCast,Nat.mul_one];exact W (4*(k+j)+t) (by omega)
   ·rw[Int.toNat_natCast,Nat.mul_one];refine aL E (by simp[mU];omega) λw5 F=>?_;have G:=F.blk;rw[GG z]at G;refine⟨_,λ_ _ h=>h,?_⟩;rintro _ rfl;refine⟨4 - (t+1),by omega,t+1,by rw[aa (by omega)];omega,by omega,rfl,G.cast ?_,(B.trans pd).stored F (.inr (by rw[q.num];exact Nat.le_refl _))⟩;refine congrArg (λg=>((mU g).map (Value.int .u32)).toArray) (funext λi=>?_);by_cases d:i=j
    ·subst d;rw[if_neg (by omega),if_pos rfl,if_pos rfl,if_neg (by omega),if_pos rfl,tT P t T];rfl
    ·rw[if_neg d,if_neg d];by_cases f:i<j
     ·rw[if_pos f,if_pos f]
     ·rw[if_neg f,if_neg f,if_neg d]
  ·obtain rfl:t=4:=by omega
   rintro _ rfl;refine⟨16 - (j+1),by omega,j+1,by rw[aa (by omega)];omega,by omega,rfl,b.cast ?_,B⟩;refine congrArg (λg=>((mU g).map (Value.int .u32)).toArray) (funext λi=>?_);by_cases d:i<j
   ·rw[if_pos (by omega),if_pos d]
   ·rw[if_neg d];by_cases f:i=j
    ·subst f;rw[if_pos (by omega),if_pos rfl,pt4 Q,R]
    ·rw[if_neg (by omega),if_neg f]
 ·obtain rfl:j=16:=by omega
  have X:(mU λi=>if i<16 then(l.getD (k+i) ⟨0⟩).v else 0)=l16 l k:=by
   unfold l16 mU;apply List.map_congr_left;intro i hi;rw[if_pos (by simpa using hi)]
  rw[X]at u;have a:=λi hi=>u.at (i:=i) (zw hi);refine⟨_,_,_,_,_,_,_,_,_,_,_,_,_,_,_,_,⟨a 0 (by decide),a 1 (by decide),a 2 (by decide),a 3 (by decide),a 4 (by decide),a 5 (by decide),a 6 (by decide),a 7 (by decide),a 8 (by decide),a 9 (by decide),a 10 (by decide),a 11 (by decide),a 12 (by decide),a 13 (by decide),a 14 (by decide),a 15 (by decide)⟩,aI (Pu.blk y o.blk) rfl λC H=>?_⟩;have b:=H.blk;exact⟨_,_,_,_,_,_,_,_,_,_,_,_,_,_,_,_,⟨b.at rfl,b.at rfl,b.at rfl,b.at rfl,b.at rfl,b.at rfl,b.at rfl,b.at rfl,b.at rfl,b.at rfl,b.at rfl,b.at rfl,b.at rfl,b.at rfl,b.at rfl,b.at rfl⟩,rfl,(o.pu.trans y).stored H (.inr (by rw[o.num];exact Nat.le_refl _))⟩
end Go.Proofs.YtoghdgcmhbanbaaGreatDoor
end
section
set_option maxRecDepth 20000
namespace Go.Proofs.YtoghdgcmhbanbaaGreatDoor
open Go Go.RowKit V
open Go.IntKind (i64 u32 u64 wrap_i64 wrap_u32)
open Enc (enc)
def Ka(g:Nat->Int):Value:=.agg #[.int .u32 (g 0),.int .u32 (g 1),.int .u32 (g 2),.int .u32 (g 3),.int .u32 (g 4),.int .u32 (g 5),.int .u32 (g 6),.int .u32 (g 7),.int .u32 (g 8),.int .u32 (g 9),.int .u32 (g 10),.int .u32 (g 11),.int .u32 (g 12),.int .u32 (g 13),.int .u32 (g 14),.int .u32 (g 15)]
def JC(g:Nat->Int):List Int:= [g 0,g 1,g 2,g 3,g 4,g 5,g 6,g 7,g 8,g 9,g 10,g 11,g 12,g 13,g 14,g 15]
theorem ag16_eq(l:List U32)(k:Nat):Value.agg ((l16 l k).map (Value.int .u32)).toArray=Ka λi=>(l.getD (k+i) ⟨0⟩).v:=by kernel_rfl
theorem Mq {l:List U32}{k:Nat}(h:k+16<=l.length):JC (λi=>(l.getD (k+i) ⟨0⟩).v)=((l.drop k).take 16).map U32.v:=by
 have hd:∀j,(l.drop k).getD j ⟨0⟩=l.getD (k+j) ⟨0⟩:=λj=>by rw[List.getD_eq_getElem?_getD,List.getElem?_drop,List.getD_eq_getElem?_getD]
 rw[ji (by rw[List.length_drop];omega)];simp only[hd];rfl
theorem wM {w:World}{Y:Nat->Prop}{A:Option Addr}{n c:Nat}{l:List U32}{k:Nat}(h:Rd w Y A n c (aP l))(a:∀x∈l,0<=x.v/\x.v<4294967296)(b:k+16<=l.length)(d:n<=1099511627776):
 Calls Tryz.prog 161 #[.slice A n c,.int .i64 ((4*k:Nat):Int)] w λe w'=>e=.returned (Ka λi=>(l.getD (k+i) ⟨0⟩).v)/\Pu w w':=by
 refine(Cj h a b d).mono ?_;rintro e w' ⟨_,rfl,rfl,p⟩;exact⟨by rw[ag16_eq],p⟩
theorem Et {w:World}{K:List Int}(i:cR w 2 K)(S:S8)(g:Nat->Int):
 Calls Tryz.prog 160 #[.agg (s8C S),Ka g] w λe w'=>e=.returned (.agg (s8C (jq K S (JC g))))/\Pu w w':=by
 obtain⟨a,b,c,d,e,f,j,h⟩:=S;refine(GQ i a b c d e f j h (g 0) (g 1) (g 2) (g 3) (g 4) (g 5) (g 6) (g 7) (g 8) (g 9) (g 10) (g 11) (g 12) (g 13) (g 14) (g 15)).mono ?_;rintro e w' ⟨_,rfl,rfl,p⟩;exact⟨rfl,p⟩
theorem ML {g:Nat->Int}{F:Int->Int->Int->Int->Int->Int->Int->Int->Int->Int->Int->Int->Int->Int->Int->Int->Prop}(h:F (g 0) (g 1) (g 2) (g 3) (g 4) (g 5) (g 6) (g 7) (g 8) (g 9) (g 10) (g 11) (g 12) (g 13) (g 14) (g 15)):∃a b c d e f i j k l n o p q r s:Int,Ending.returned (Ka g)=.returned (.agg #[.int .u32 a,.int .u32 b,.int .u32 c,.int .u32 d,.int .u32 e,.int .u32 f,.int .u32 i,.int .u32 j,.int .u32 k,.int .u32 l,.int .u32 n,.int .u32 o,.int .u32 p,.int .u32 q,.int .u32 r,.int .u32 s])/\F a b c d e f i j k l n o p q r s:=
 ⟨_,_,_,_,_,_,_,_,_,_,_,_,_,_,_,_,rfl,h⟩
attribute [local irreducible] bf jq JC
theorem ug(K:List Int)(a t:List U32)(s:S8):bf K s (a++t)=bf K (bf K s a).1 ((bf K s a).2++t):=by
 refine ke (K:=K) (p:=λs a=>bf K s (a++t)=bf K (bf K s a).1 ((bf K s a).2++t)) (λs l h=>?_) (λs l h b=>?_) _ s a rfl
 ·simp only[eB h]
 ·simp only[dy h];rw[dy (by simp;omega),List.take_append_of_le_length h,List.drop_append_of_le_length h,b]
theorem uf {K:List Int}{S st:S8}{l:List U32}{q:Nat}{t:List U32}(h:bf K S (l.drop (16*q)++t)=bf K st (l++t))(hq:16*q+16<=l.length):
 bf K (jq K S (JC λi=>(l.getD (16*q+i) ⟨0⟩).v)) (l.drop (16*(q+1))++t)=bf K st (l++t):=by
 rw[<-h,Mq hq,dy (l:=l.drop (16*q)++t) (by simp;omega),List.take_append_of_le_length (by simp;omega),List.drop_append_of_le_length (by simp;omega),List.drop_drop,show 16*(q+1)=16*q+16 by omega]
theorem fg(a b:List U32):aP (a++b)=aP a++aP b:=List.flatMap_append ..
theorem yo(m:Nat):aP (List.replicate m ⟨0⟩)=List.replicate (4*m) ⟨0⟩:=by
 induction m with
 |zero=>rfl
 | succ m a=>
  rw[List.replicate_succ,show(⟨0⟩:U32)::List.replicate m ⟨0⟩= [⟨0⟩]++List.replicate m ⟨0⟩from rfl,fg,a,show 4*(m+1)=4+4*m by omega,<-List.replicate_append_replicate];rfl
theorem CO(r:List U32):aP r++(⟨128⟩::List.replicate ((120 - (4*r.length+1) % 64) % 64) ⟨0⟩)=aP (jf (r++ [uM 2147483648])):=by
 have e:(120 - (4*r.length+1) % 64) % 64=3+4*((30 - (r++ [uM 2147483648]).length % 16) % 16):=by rw[List.length_append,List.length_singleton];omega
 have a:aP [uM 2147483648]= [⟨128⟩,⟨0⟩,⟨0⟩,⟨0⟩]:=by kernel_rfl
 unfold jf;rw[e,fg,fg,yo,a,<-List.replicate_append_replicate,List.append_assoc];rfl
theorem zc {a b:List U32}(x:U32)(h:a.length % 16=b.length % 16):∃T,jf (a++ [x])=a++T/\jf (b++ [x])=b++T:=by
 refine⟨[x]++List.replicate ((30 - (a++ [x]).length % 16) % 16) (uM 0),by unfold jf;rw[List.append_assoc],?_⟩;unfold jf;rw[List.append_assoc,show(b++ [x]).length % 16=(a++ [x]).length % 16 by simp only[List.length_append,List.length_singleton];omega]
def Ai(N:Int)(k:Nat):List U8:=(List.range k).map λt=>⟨IntKind.u8.wrap (N.fdiv (2 ^ (8*(7 - t))))⟩
theorem Fe(N:Int)(k:Nat):Ai N (k+1)=Ai N k++ [⟨IntKind.u8.wrap (N.fdiv (2 ^ (8*(7 - k))))⟩]:=by unfold Ai;rw[List.range_succ,List.map_append];rfl
def hiW(N:Int):U32:=⟨u32.wrap (N.fdiv (2 ^ 32))⟩
def loW(N:Int):U32:=⟨u32.wrap N⟩
theorem lenB_eq {N:Int}(h:0<=N/\N<18446744073709551616):Ai N 8=aP [hiW N,loW N]:=by
 obtain⟨c,d,f,i⟩:=byW_eq (x:=(hiW N).v) (lL _);obtain⟨j,k,l,n⟩:=byW_eq (x:=(loW N).v) (lL _);have e:aP [hiW N,loW N]= [byW (hiW N).v 24,byW (hiW N).v 16,byW (hiW N).v 8,byW (hiW N).v 0,byW (loW N).v 24,byW (loW N).v 16,byW (loW N).v 8,byW (loW N).v 0]:=rfl;have x:∀(a:U8)(v:Int),a.v=v->a=⟨v⟩:=λa v h=>by cases a;cases h;rfl
 rw[e,x _ _ c,x _ _ d,x _ _ f,x _ _ i,x _ _ j,x _ _ k,x _ _ l,x _ _ n];unfold Ai hiW loW;simp only[List.range,List.range.loop,List.map_cons,List.map_nil,oq,u8_eq,u32_eq];have y:∀ {a b:Int},a=b->(⟨a⟩:U8)=⟨b⟩:=λh=>by rw[h]
 congr 1
 ·exact y (by omega)
 congr 1
 ·exact y (by omega)
 congr 1
 ·exact y (by omega)
 congr 1
 ·exact y (by omega)
 congr 1
 ·exact y (by omega)
 congr 1
 ·exact y (by omega)
 congr 1
 ·exact y (by omega)
 congr 1;exact y (by omega)
def ou(r:List U32)(N:Int):List U32:=jf (r++ [uM 2147483648])++ [hiW N,loW N]
theorem HB {r:List U32}{N:Int}(h:∀x∈r,0<=x.v/\x.v<4294967296):∀x∈ou r N,0<=x.v/\x.v<4294967296:=by
 intro x a;unfold ou jf at a;rcases List.mem_append.1 a with a|a
 ·rcases List.mem_append.1 a with a|a
  ·rcases List.mem_append.1 a with a|a
   ·exact h x a
   ·rw[List.mem_singleton.1 a];exact⟨by decide,by decide⟩
  ·rw[List.eq_of_mem_replicate a];exact⟨by decide,by decide⟩
 ·simp only[List.mem_cons,List.not_mem_nil,or_false]at a;rcases a with rfl|rfl<;>exact lL _
theorem HC(r:List U32)(N:Int):(ou r N).length % 16=0/\(ou r N).length<=r.length+18/\r.length+3<=(ou r N).length:=by
 unfold ou jf;simp only[List.length_append,List.length_replicate,List.length_cons,List.length_nil];omega
theorem GP {w:World}{Y:Nat->Prop}{A:Option Addr}{n c:Nat}{r:List U32}{st:S8}{K:List Int}(h:Rd w Y A n c (aP r))(hr:∀x∈r,0<=x.v/\x.v<4294967296)(j:cR w 2 K)(a5:r.length<16)(P:Int):
 Calls Tryz.prog 162 #[.agg (s8C st),.slice A n c,.int .u64 P] w λe w'=>∃v,e=.returned v/\v=.agg (s8C (bf K st (ou r (u64.wrap (P*8)))).1)/\Pu w w':=by
 have hl:=h.len;rw[cp]at hl;refine uE _ _ _ _ _ _ _ _ _ _ _ _ ?_;refine mkd λt w1 u=>mkd λQ w2 y=>?_;have p2:Pu w w2:=u.pu.trans y.pu;refine lX sB8.sn (h.pu p2) (by omega) (by omega) λsA sC w3 o3 q3=>?_;refine mkd λg4 w4 I=>?_;have a6:=q3.size;have a7:=I.pu.size;refine Own.app (x:=(⟨128⟩:U8)) ((o3.mono λk j=>j.1).pu I.pu) sB8.sn I.blk rfl (by omega) (by omega) (by omega) λA5 c5 w5 o5 q5=>?_;have aA:Pu w2 w5:=(q3.trans I.pu).call q5 λk j=>.inr j;refine⟨λm A N C w'=>∃q:Nat,N=n+1+q/\q<=(120 - (4*r.length+1) % 64) % 64/\m=(120 - (4*r.length+1) % 64) % 64 - q/\Own w' (λk=>w2.heap.size<=k) 5 A N C (aP r++(⟨128⟩::List.replicate q ⟨0⟩))/\Pu w2 w',⟨_,0,rfl,Nat.zero_le _,rfl,o5,aA⟩,?_⟩;rintro m _ A6 _ C6 w6 ⟨q,rfl,hq,rfl,B,R⟩;have s6:=R.size;have et:(((n+1+q:Nat):Int)).tmod 64=(((n+1+q) % 64:Nat):Int):=by rw[Int.tmod_eq_emod_of_nonneg (by omega)];omega
 refine aG (λaC=>?_) (λheq=>?_)
 ·rw[et]at aC;refine mkd λg7 E J=>?_;refine Own.app (x:=(⟨0⟩:U8)) (B.pu J.pu) sB8.sn J.blk rfl (by omega) (by omega) (by have:=J.pu.size;omega) λA8 c8 w8 o8 q8=>?_;refine⟨_,?_,q+1,rfl,by omega,rfl,?_,(R.trans J.pu).call q8 λk j=>.inr j⟩
  ·omega
  ·rw[List.append_assoc,List.cons_append,<-List.replicate_succ']at o8;exact o8
 ·rw[et]at heq;obtain rfl:q=(120 - (4*r.length+1) % 64) % 64:=by omega
  rw[CO]at B;obtain⟨z,T⟩:∃z,z=jf (r++ [uM 2147483648]):=⟨_,rfl⟩;rw[<-T]at B;obtain⟨N,hN⟩:∃N,N=u64.wrap (P*8):=⟨_,rfl⟩;have aN:0<=N/\N<18446744073709551616:=by rw[hN,IntKind.wrap_u64];omega
  rw[<-hN];have a0:=(xm (r++ [uM 2147483648])).2;rw[<-T,List.length_append,List.length_singleton]at a0;have a1:n+1+(120 - (4*r.length+1) % 64) % 64=4*z.length:=by have:=B.len;rw[cp]at this;exact this.symm
  rw[a1]at B ⊢;rintro _ rfl;refine⟨λm A M C i w'=>∃k:Nat,i=7 - (k:Int)/\k<=8/\m=8 - k/\M=4*z.length+k/\Own w' (λk=>w2.heap.size<=k) 5 A M C (aP z++Ai N k)/\Pu w2 w',⟨8,0,rfl,by omega,rfl,rfl,by rw[show Ai N 0= []from rfl,List.append_nil];exact B,R⟩,?_⟩;rintro m _ A7 _ C7 _ E ⟨k,rfl,a8,rfl,rfl,F,G⟩;have s7:=G.size;refine af (λU=>?_) (λU=>?_)
  ·have e1:(u64.wrap (i64.wrap (8*(7 - (k:Int)))))=((8*(7 - k):Nat):Int):=by rw[aa (by omega),dz (by omega)];omega
   rw[e1];refine ij (by omega) ?_;rw[Int.toNat_natCast,show min (8*(7 - k)) u64.bits=8*(7 - k)from Nat.min_eq_left (by show _<=64;omega)];refine mkd λg8 w8 O=>?_;refine Own.app (x:=(⟨IntKind.u8.wrap (N.fdiv (2 ^ (8*(7 - k))))⟩:U8)) (F.pu O.pu) sB8.sn O.blk rfl (by omega) (by omega) (by have:=O.pu.size;omega) λA9 c9 w9 o9 q9=>?_;rintro _ rfl;refine⟨8 - (k+1),by omega,k+1,by rw[aa (by omega)];omega,by omega,rfl,by omega,?_,(G.trans O.pu).call q9 λk j=>.inr j⟩;rw[Fe,<-List.append_assoc];exact o9
  ·obtain rfl:k=8:=by omega
   have eL:aP z++Ai N 8=aP (ou r N):=by rw[lenB_eq aN,<-fg,T];rfl
   rw[eL]at F;obtain⟨e0,e1,e2⟩:=HC r N;have a2:=HB (N:=N) hr;have e3:4*z.length+8=4*(ou r N).length:=by have:=F.len;rw[cp]at this;exact this.symm
   generalize ou r N=o at *;rw[e3]at F ⊢;rintro _ rfl;have bs:Blk E t (s8C st) 54:=Pu.blk (y.pu.trans G) u.blk;have bv:Blk E Q #[.int .u32 0,.int .u32 0,.int .u32 0,.int .u32 0,.int .u32 0,.int .u32 0,.int .u32 0,.int .u32 0] 54:=Pu.blk G y.blk;have a9:t<w2.heap.size:=Nat.lt_of_lt_of_le u.blk.lt y.pu.size;have a3:w.heap.size<=t:=by rw[u.num];exact Nat.le_refl _
   refine⟨λm i w'=>∃(q:Nat)(S:S8),i=((4*(16*q):Nat):Int)/\16*q<=o.length/\m=o.length - 16*q/\bf K S (o.drop (16*q)++ [])=bf K st (o++ [])/\Blk w' t (s8C S) 54/\Rd w' (λk=>w2.heap.size<=k/\k<E.heap.size) A7 (4*o.length) C7 (aP o)/\Blk w' Q #[.int .u32 0,.int .u32 0,.int .u32 0,.int .u32 0,.int .u32 0,.int .u32 0,.int .u32 0,.int .u32 0] 54/\Pu w w'/\E.heap.size<=w'.heap.size,⟨o.length,0,st,rfl,Nat.zero_le _,rfl,rfl,bs,F.rd,bv,p2.trans G,Nat.le_refl _⟩,?_⟩;rintro m _ _ w8 ⟨q,S,rfl,ba,rfl,V,l,r8,an,W,s8⟩;refine af (λU=>?_) (λU=>?_)
   ·have az:16*q+16<=o.length:=by omega
    have pd:=Pu.aw w8;have s:=pd.blk l;refine⟨λ_ k=>k<w8.heap.size,by have:=l.lt;exact this,_,_,_,_,_,_,_,_,⟨s.at rfl,s.at rfl,s.at rfl,s.at rfl,s.at rfl,s.at rfl,s.at rfl,s.at rfl⟩,(wM (k:=16*q) (r8.pu pd) a2 az (by omega)).mono ?_⟩;rintro e w9 ⟨rfl,X⟩;refine ML (kb X pd.size ?_);refine(Et (j.pu ((W.trans pd).trans X)) S (λi=>(o.getD (16*q+i) ⟨0⟩).v)).mono ?_;rintro e wa ⟨rfl,pa⟩;have pp:Pu w8 wa:=(pd.trans X).trans pa;refine⟨_,_,_,_,_,_,_,_,rfl,_,λ_ _ h=>h,bx (pp.blk l) (by simp[s8C]) λwb H=>?_⟩;refine⟨_,λ_ _ h=>h,?_⟩;rintro _ rfl;have Z:=H.blk;unfold s8C at Z;rw[nS]at Z;refine⟨_,by omega,q+1,_,by rw[aa (by omega)];omega,by omega,rfl,uf V az,Z,(r8.pu pp).ch H.ch (λk j e=>by have:=j.1;have:k=t:=e;omega),H.old (pp.blk an) (λe=>by have:=u.blk.lt;have:=y.num;have:Q=t:=e;omega),(W.trans pp).stored H (.inr a3),by have:=pp.size;have:=H.size;omega⟩
   ·have a4:o.drop (16*q)= []:=List.drop_of_length_le (by omega);rw[a4,List.append_nil,List.append_nil,eB (by simp)]at V;rw[<-V];obtain⟨a,b,c,d,e,f,g,h⟩:=S;refine⟨_,_,_,_,_,_,_,_,⟨l.at rfl,l.at rfl,l.at rfl,l.at rfl,l.at rfl,l.at rfl,l.at rfl,l.at rfl⟩,bx an (by simp) λw9 s9=>?_⟩;have p:=s9.blk;rw[nS]at p;exact⟨_,_,_,_,_,_,_,_,⟨p.at rfl,p.at rfl,p.at rfl,p.at rfl,p.at rfl,p.at rfl,p.at rfl,p.at rfl⟩,rfl,W.stored s9 (.inr (by rw[y.num];exact u.pu.size))⟩
def xD(K:List Int)(l:List U32):S8:=(bf K S8.first (ou l (u64.wrap (u64.wrap ((4*l.length:Nat):Int)*8)))).1
theorem qj {w:World}{Y:Nat->Prop}{A:Option Addr}{n c:Nat}{l:List U32}{K:List Int}(h:Rd w Y A n c (aP l))(M:∀x∈l,0<=x.v/\x.v<4294967296)(N:cR w 2 K)(hn:n<=1099511627776):
 Calls Tryz.prog 135 #[.slice A n c] w λe w'=>∃v,e=.returned v/\v=.agg (s8C (xD K l))/\Pu w w':=by
 have O:=h.len;have a0:=h.cap;rw[cp]at O;refine oK _ _ _ ?_;refine mkd λC w1 u=>zH.mono ?_;rintro e w2 ⟨_,rfl,rfl,E⟩;refine⟨_,_,_,_,_,_,_,_,rfl,mkd λy w3 F=>bx F.blk (by simp) λP Q=>?_⟩;have R:=Q.blk;rw[nS]at R;rintro _ rfl;have U:Pu w w2:=u.pu.trans E;have W:w2.heap.size<=y:=by rw[F.num];exact Nat.le_refl _
 have X:Pu w2 P:=F.pu.stored Q (.inr W);have a1:w.heap.size<=y:=Nat.le_trans U.size W;have bv:Blk P C #[.int .u32 0,.int .u32 0,.int .u32 0,.int .u32 0,.int .u32 0,.int .u32 0,.int .u32 0,.int .u32 0] 54:=Pu.blk (E.trans X) u.blk;refine⟨λm i w'=>∃(q:Nat)(S:S8),i=((4*(16*q):Nat):Int)/\16*q<=l.length/\m=l.length - 16*q/\(∀t,bf K S (l.drop (16*q)++t)=bf K S8.first (l++t))/\Blk w' y (s8C S) 54/\Blk w' C #[.int .u32 0,.int .u32 0,.int .u32 0,.int .u32 0,.int .u32 0,.int .u32 0,.int .u32 0,.int .u32 0] 54/\Pu w w',⟨l.length,0,S8.first,rfl,Nat.zero_le _,rfl,λ_=>rfl,R,bv,U.trans X⟩,?_⟩;rintro m _ _ s ⟨q,S,rfl,hq,rfl,Z,z,an,p⟩;have G:i64.wrap (((4*(16*q):Nat):Int)+64)=((4*(16*q)+64:Nat):Int):=by rw[aa (by omega)];omega
 refine af (λH=>?_) (λH=>?_)
 ·rw[G]at H;have az:16*q+16<=l.length:=by omega
  have pd:=Pu.aw s;have j:=pd.blk z;refine⟨λ_ k=>k<s.heap.size,by have:=z.lt;exact this,_,_,_,_,_,_,_,_,⟨j.at rfl,j.at rfl,j.at rfl,j.at rfl,j.at rfl,j.at rfl,j.at rfl,j.at rfl⟩,(wM (k:=16*q) ((h.pu p).pu pd) M az hn).mono ?_⟩;rintro e w6 ⟨rfl,I⟩;refine ML (kb I pd.size ?_);refine(Et (N.pu ((p.trans pd).trans I)) S (λi=>(l.getD (16*q+i) ⟨0⟩).v)).mono ?_;rintro e w7 ⟨rfl,B⟩;have pp:Pu s w7:=(pd.trans I).trans B;refine⟨_,_,_,_,_,_,_,_,rfl,_,λ_ _ h=>h,bx (pp.blk z) (by simp[s8C]) λw8 r=>?_⟩;refine⟨_,λ_ _ h=>h,?_⟩;rintro _ rfl;have J:=r.blk;unfold s8C at J;rw[nS]at J;refine⟨_,by omega,q+1,_,by rw[G];omega,by omega,rfl,λt=>uf (Z t) az,J,r.old (pp.blk an) (λe=>by have:=u.blk.lt;have:=E.size;have:C=y:=e;omega),(p.trans pp).stored r (.inr a1)⟩
 ·rw[G]at H;have pd:=Pu.aw s;have j:=pd.blk z;refine⟨λ_ _=>True,trivial,_,_,_,_,_,_,_,_,⟨j.at rfl,j.at rfl,j.at rfl,j.at rfl,j.at rfl,j.at rfl,j.at rfl,j.at rfl⟩,⟨by omega,by omega⟩,?_⟩;rintro A6 aA N6 aC C6 aN;rw[Int.toNat_natCast]at aA aC aN;have r6:Rd s.drew Y A6 N6 C6 ((aP l).drop (4*(16*q))):=((h.pu p).pu pd).from_ (m:=c) aA aC aN (by omega) a0;have ed:(aP l).drop (4*(16*q))=aP (l.drop (16*q)):=by
   have e1:=fg (l.take (16*q)) (l.drop (16*q));rw[List.take_append_drop]at e1;rw[e1,List.drop_append_of_le_length (by rw[cp,List.length_take];omega),List.drop_of_length_le (by rw[cp,List.length_take];omega)];rfl
  rw[ed]at r6;have a2:∀x∈l.drop (16*q),0<=x.v/\x.v<4294967296:=λx hx=>M x (List.mem_of_mem_drop hx);refine(GP (st:=S) r6 a2 (N.pu (p.trans pd)) (by rw[List.length_drop];omega) (u64.wrap ((n:Nat):Int))).mono ?_;rintro e w7 ⟨_,rfl,rfl,B⟩;have eS:(bf K S (ou (l.drop (16*q)) (u64.wrap (u64.wrap ((n:Nat):Int)*8)))).1=xD K l:=by
   unfold xD;rw[O];obtain⟨T,h1,h2⟩:=zc (a:=l.drop (16*q)) (b:=l) (uM 2147483648) (by rw[List.length_drop];omega);unfold ou;rw[h1,h2,List.append_assoc,List.append_assoc,Z]
  rw[eS];generalize xD K l=V;obtain⟨a,b,c,d,e,f,g,h⟩:=V;refine⟨_,_,_,_,_,_,_,_,rfl,_,λ_ _ h=>h,bx (Pu.blk (pd.trans B) an) (by simp) λw8 r=>?_⟩;have o:=r.blk;rw[nS]at o;exact⟨_,λ_ _ h=>h,_,_,_,_,_,_,_,_,⟨o.at rfl,o.at rfl,o.at rfl,o.at rfl,o.at rfl,o.at rfl,o.at rfl,o.at rfl⟩,rfl,((p.trans pd).trans B).stored r (.inr (by rw[u.num];exact Nat.le_refl _))⟩
end Go.Proofs.YtoghdgcmhbanbaaGreatDoor
end
