/- SvcAll returns true for every input of bulk at most 1048576; each argument reads behind the call as it read before. -/
import Derived.Test.YtbcmefndjggkpaaGreatDoorD6
import Derived.KernelRfl
import Derived.Test.YtbcmefndjggkpaaGreatDoorRows
import Derived.ProofKit
import Derived.SizedLaws
import Derived.OpenShut
import Derived.LaidMore
import Derived.MakeChecks
import Derived.Handed
import Derived.Deep.SlicePairs
import Derived.Carry
import Derived.LaidHandle
import Derived.LaidLaws
import Derived.JoinedCond
import Derived.Test.YtbcmefndjggkpaaGreatDoorTie
import Derived.Test.YtbcmefndjggkpaaGreatDoorCards
import Derived.SevenTiedAt
set_option linter.unusedVariables false
set_option linter.unusedSimpArgs false
set_option maxRecDepth 100000
set_option maxHeartbeats 1000000
namespace Go.Proofs.YtbcmefndjggkpaaGreatDoor
open Go.Proofs.Tryz (prog)
open Go Go.RowKit V
open Go.IntKind (i64 u32 u64 wrap_i64 wrap_u32)
def dgN(a:List Int):Nat->Dg
 |0=>Dg.new
 |n+1=>(dgN a n).add a [uM 7]
theorem oy(a:List Int):∀n,(dgN a n).Ok
 |0=>Dg.ot
 |n+1=>Dg.mF (oy a n) (by intro x b;simp at b;subst b;decide)
def sz(n:Int):Int:=Int.tmod (Int.tmod n 8+8) 8+1
theorem GV(n:Int):1<=sz n/\sz n<=8:=by
 have h:=Int.tmod_lt_of_pos n (show(0:Int)<8 by decide);have b:=Int.lt_tmod_of_pos n (show(0:Int)<8 by decide);have e:=Int.tmod_lt_of_pos (Int.tmod n 8+8) (show(0:Int)<8 by decide);have i:=Int.tmod_nonneg (a:=Int.tmod n 8+8) 8 (by omega);unfold sz;omega
def ix(a n:Int):Int:=Int.tmod (Int.tmod a n+n) n
theorem Lr {a n:Int}(b:0<n):0<=ix a n/\ix a n<n:=by
 have e:=Int.lt_tmod_of_pos a b;exact⟨Int.tmod_nonneg _ (by omega),Int.tmod_lt_of_pos _ b⟩
namespace DB
def wr(D:DB)(p o v:Int):DB:=D.bO (D.mem.write true p o v)
def wrs(D:DB)(p:Int):Int->List Int->DB
 |_,[]=>D
 |o,x::l=>(D.wr p o x).wrs p (o+1) l
theorem zU(p x:Int):∀(l:List Int)(D:DB)(o:Int),D.wrs p o (l++ [x])=(D.wrs p o l).wr p (o+l.length) x
 | [],D,o=>by simp[wrs]
 | y::l,D,o=>by
  simp only[List.cons_append,wrs,List.length_cons];rw[zU p x l];congr 1;omega
theorem l5(D:DB)(p o v:Int):(D.wr p o v).pd=D.pd:=by
 show Pd.mk (D.mem.write true p o v).S D.aO D.ent=Pd.mk D.mem.S D.aO D.ent;rw[Mem.gP]
theorem GJ(p:Int):∀(l:List Int)(D:DB)(o:Int),(D.wrs p o l).pd=D.pd
 | [],_,_=>rfl
 |x::l,D,o=>by show((D.wr p o x).wrs p (o+1) l).pd=_;rw[GJ p l,l5]
theorem kd(D:DB)(p o v:Int):(D.wr p o v).mem=D.mem.write true p o v:=rfl
def iR(b:List Int)(D:DB)(a v:Int):DB:=D.wrs a 11 (dgN b (min v.toNat 40)).save
theorem eT(b:List Int)(D:DB)(a v:Int):(D.iR b a v).pd=D.pd:=GJ a _ D 11
def ldw(D:DB)(a v:Int):List U32:=(D.words.map uM).set (ix a (D.words.map uM).length).toNat (uM v)
def uG(D:DB)(a v:Int):DB:=if bK D.mem (D.ldw a v)=0 then load D.mem (D.ldw a v)else D
def act(e:List Int)(D:DB)(k a b c v:Int):DB:=
 if k=1 then D.br a b else if k=2 then D.take a b c else if k=3 then D.eW a b else if k=4 then D.ib a else if k=5 then D.setState a b
 else if k=6 then D.cf a (Int.tmod b 2 !=0)else if k=7 then D.wr a b v else if k=8 then D.iR e a v else if k=9 then D.uG a v else D
def begun(n i:Int):DB:=DB.new (Mem.fresh (sz n).toNat (sz i).toNat)
theorem zW {D:DB}(h:D.Ok):∀x∈D.words.map U32.mk,0<=x.v/\x.v<4294967296:=by
 intro x a;simp only[words,List.map_cons,List.mem_cons,List.mem_map,List.mem_flatMap,List.mem_range]at a;rcases a with rfl|⟨y,⟨p,i,b⟩,rfl⟩
 ·have:=h.aO;show 0<=D.aO/\D.aO<_;omega
 ·have e:=(h.ent p i).1;simp at b;rcases b with rfl|rfl
  ·exact Ent.Ad e
  ·exact Ent.Ac e
theorem qH {D:DB}(h:D.Ok){a v:Int}(b:0<=v/\v<4294967296):∀x∈D.ldw a v,0<=x.v/\x.v<4294967296:=by
 intro x e;rcases List.mem_or_eq_of_mem_set e with i|rfl
 ·exact zW h x i
 ·exact b
theorem ix_eq {D:DB}(b:D.S<=64)(a:Int):Int.tmod (i64.wrap (Int.tmod a (((D.words.map uM).length:Nat):Int)+(((D.words.map uM).length:Nat):Int))) (((D.words.map uM).length:Nat):Int)=ix a (((D.words.map uM).length:Nat):Int):=by
 have e:(D.words.map uM).length=1+2*D.S:=by rw[List.length_map,gX]
 have h:=Int.tmod_lt_of_pos a (show(0:Int)<(((D.words.map uM).length:Nat):Int)by omega);have i:=Int.lt_tmod_of_pos a (show(0:Int)<(((D.words.map uM).length:Nat):Int)by omega);rw[av (by omega)];rfl
theorem ldw_eq {D:DB}(b:D.S<=64){a v:Int}{l l2:List U32}(h:l=D.words.map uM)(e:l2=l.set (Int.toNat (Int.tmod (i64.wrap (Int.tmod a (((D.words.map uM).length:Nat):Int)+(((D.words.map uM).length:Nat):Int))) (((D.words.map uM).length:Nat):Int))) (uM v)):l2=D.ldw a v:=by
 rw[e,h,ix_eq b];rfl
theorem EB {D:DB}(b:D.S<=64){a:Int}{l:List U32}(h:l=D.words.map uM):0<=Int.tmod (i64.wrap (Int.tmod a (((D.words.map uM).length:Nat):Int)+(((D.words.map uM).length:Nat):Int))) (((D.words.map uM).length:Nat):Int)/\Int.tmod (i64.wrap (Int.tmod a (((D.words.map uM).length:Nat):Int)+(((D.words.map uM).length:Nat):Int))) (((D.words.map uM).length:Nat):Int)<((l.length:Nat):Int):=by
 rw[ix_eq b,h];refine Lr ?_;rw[List.length_map,gX];omega
end DB
theorem Pd.Ok.on {E:Pd}{m:Mem}(h:E.Ok)(b:E.n=m.S):(E.on m).Ok:=⟨λp a=>by rw[Pd.uv _ _ b]at a ⊢;exact h.ent p a,h.aO⟩
theorem Bu(a:List Int){i:Int}(h:0<=i/\i<40):dgN a (u32.wrap (i+1)).toNat=(dgN a i.toNat).add a [uM 7]:=by
 rw[bp (x:=i+1) (by omega),show(i+1).toNat=i.toNat+1 by omega];rfl
theorem KC(a:List Int):∀n:Nat,0<=(dgN a n).n/\(dgN a n).n<=n
 |0=>⟨Int.le_refl _,Int.le_refl _⟩
 | n+1=>by
  have h:=KC a n;show 0<=((dgN a n).add a [uM 7]).n/\((dgN a n).add a [uM 7]).n<=_;unfold Dg.add;split
  ·omega
  ·simp only[List.length_singleton];omega
theorem Dg.CT {d:Dg}(h:d.Ok):∀x∈d.save,0<=x/\x<4294967296:=by
 intro x a;have q:=h.n;obtain⟨b,e,i,j,l,m,n,o⟩:=h.st;simp only[save,List.mem_append,List.mem_cons,List.not_mem_nil,or_false,List.mem_map,List.mem_replicate]at a;rcases a with(rfl|rfl|rfl|rfl|rfl|rfl|rfl|rfl|rfl|rfl)|(⟨y,p,rfl⟩|⟨_,rfl⟩)
 ·exact b
 ·exact e
 ·exact i
 ·exact j
 ·exact l
 ·exact m
 ·exact n
 ·exact o
 ·omega
 ·omega
 ·exact h.words y p
 ·omega
theorem Br:∀l:List Int,eqL (l.map (Value.int .u32)) (l.map (Value.int .u32))=true
 | []=>rfl
 |a::l=>by show(a==a && eqL (l.map (Value.int .u32)) (l.map (Value.int .u32)))=true;rw[Br l];simp
theorem qK(l:List Int){p:Prop}(h:bW ⟨l.map (Value.int .u32)⟩ ⟨l.map (Value.int .u32)⟩=false):p:=by
 rw[show bW ⟨l.map (Value.int .u32)⟩ ⟨l.map (Value.int .u32)⟩=true from Br l]at h;cases h
theorem Mq {l:List Int}(h:l.length=26):([uM (l.getD 0 0),uM (l.getD 1 0),uM (l.getD 2 0),uM (l.getD 3 0),uM (l.getD 4 0),uM (l.getD 5 0),uM (l.getD 6 0),uM (l.getD 7 0),uM (l.getD 8 0),uM (l.getD 9 0),uM (l.getD 10 0),uM (l.getD 11 0),uM (l.getD 12 0),uM (l.getD 13 0),uM (l.getD 14 0),uM (l.getD 15 0),uM (l.getD 16 0),uM (l.getD 17 0),uM (l.getD 18 0),uM (l.getD 19 0),uM (l.getD 20 0),uM (l.getD 21 0),uM (l.getD 22 0),uM (l.getD 23 0),uM (l.getD 24 0),uM (l.getD 25 0)]:List U32)=l.map uM:=by
 rcases l with _|⟨a0,_|⟨a,_|⟨b,_|⟨e,_|⟨i,_|⟨j,_|⟨m,_|⟨n,_|⟨o,_|⟨p,_|⟨q,_|⟨t,_|⟨u,_|⟨x,_|⟨y,_|⟨z,_|⟨A,_|⟨B,_|⟨C,_|⟨D,_|⟨E,_|⟨F,_|⟨G,_|⟨I,_|⟨J,_|⟨L,_|⟨M,r⟩⟩⟩⟩⟩⟩⟩⟩⟩⟩⟩⟩⟩⟩⟩⟩⟩⟩⟩⟩⟩⟩⟩⟩⟩⟩⟩
 all_goals first|rfl|(simp at h;done)
theorem Ar {l:List Int}{i:Nat}:((l.map uM).getD i (uM 0)).v=l.getD i 0:=by
 rw[List.getD_eq_getElem?_getD,List.getD_eq_getElem?_getD,List.getElem?_map];cases l[i]? <;>rfl
theorem Dg.svL_eq {d:Dg}(h:d.save.length=26):d.svL=d.save.map uM:=Mq h
theorem Fv {d:Dg}(h:d.Ok)(a:d.save.length=26){i:Nat}(hi:i<26):0<=d.save.getD i 0/\d.save.getD i 0<4294967296:=by
 rw[List.getD_eq_getElem?_getD,List.getElem?_eq_getElem (by omega)];exact Dg.CT h _ (List.getElem_mem ..)
theorem DB.GK {D:DB}{a i:Int}{l:List Int}(e:l.length=26)(hi:0<=i/\i<26):D.wrs a 11 (l.take (i64.wrap (i+1)).toNat)=(D.wrs a 11 (l.take i.toNat)).wr a (i64.wrap (11+i)) (l.getD i.toNat 0):=by
 have b:i.toNat<l.length:=by omega
 rw[av (x:=i+1) (by omega),av (x:=11+i) (by omega),show(i+1).toNat=i.toNat+1 by omega,List.take_add_one,List.getElem?_eq_getElem b,List.getD_eq_getElem?_getD,List.getElem?_eq_getElem b];show D.wrs a 11 (l.take i.toNat++ [l[i.toNat]])=_;rw[DB.zU,List.length_take];congr 1;omega
section
attribute [local irreducible] Vc2 VcD
theorem DB.AR(m:Mem):(DB.new m).pd.aT=List.replicate m.S Ent.free:=by
 show(List.range (DB.new m).S).map (λ_=>Ent.free)=_;rw[DB.AS,List.map_const',List.length_range]
theorem DB.JF {m:Mem}{l:List U32}(hw:∀x∈l,0<=x.v/\x.v<4294967296)(h:DB.bK m l=0)(a:m.S<=64):(DB.load m l).pd.Ok:=⟨(DB.yJ hw h).ent,(DB.yJ hw h).aO,a⟩
theorem DB.Li {m:Mem}(h:1<=m.S)(a:m.S<=64):(DB.new m).pd.Ok:=⟨(DB.ot m h).ent,(DB.ot m h).aO,by show(DB.new m).S<=64;rw[DB.AS];exact a⟩
def B6:Ctr Un:=⟨[.one (.obj 0 0)],[],[.ob 2 []],[0],λb m K=>1<=m.S/\∀(a:Nat->Nat),K ⟨(.pointer (pvA (a 0))),(some (.p (.obj 1 0 0))),[.ob 2 (m.dI m.S)],[(.ob 3 a ((DB.new m).pd))],[(.l 1 1,.p (.obj 0 0 0))]⟩⟩
theorem IB:LV Un prog 19 B6:=by
 show ∀(a:Nat->Nat)(m:Mem),∀Q:Ou Un->Prop,(1<=m.S/\∀(p:Nat->Nat),Q ⟨(.pointer (pvA (p 0))),(some (.p (.obj 1 0 0))),[.ob 2 (m.dI m.S)],[(.ob 3 p ((DB.new m).pd))],[(.l 1 1,.p (.obj 0 0 0))]⟩)->∀(X:bP)(w:World),Sat (U:=Un) [(.ob 2 a m)] X w->aK (U:=Un) [(.ob 2 a m)] fr0 []->Calls prog 19 #[(.pointer (pvA (a 0)))] w (bu (U:=Un) [(.ob 2 a m)] [0] X w Q);intro a m Q l X w hs x;obtain⟨q,l⟩:=l;have y:Mem.Wf m:=zk (t:=2) (r:=a) (s:=m) (hs.res 0 _ rfl);have z:=Gr a m (λo=>∃(g:Nat)(h:oA)(b:Nat),o=⟨(.pointer (pvA g)),(some (.p (.loc 1 0))),[.ob 2 (m.dI m.S)],[(.blk g [(.pointer (pvA (a 0))),(.slice h ((List.replicate m.S Ent.free).length) b),J 0] 76),(.lst 4 true 104 h b (List.replicate m.S Ent.free))],[(.c 1 0,.p (.obj 0 0 0)),(.c 1 1,.p (.sl 2 0))]⟩) (λg h b=>⟨g,h,b,rfl⟩) X w hs x;refine z.mono ?_;rintro e w' ⟨out,rs',X',rfl,⟨g,h,b,rfl⟩,n,j⟩;change cv [Res.ob 2 a m] [0] [.ob 2 (m.dI m.S)]=some rs' at n;have A: [Res.ob (U:=Un) 2 a (m.dI m.S)]=rs':=by simpa[cv,eu,nth,cV]using n
 subst A;have u:RS (U:=Un) (X' 1) w' (.blk g [.pointer (pvA (a 0)),.slice h (DB.new m).pd.aT.length b,.int .i64 (DB.new m).pd.aO] 76):=by rw[DB.AR];exact j.sat.res 1 _ rfl
 have B:RS (U:=Un) (X' 2) w' (.lst 4 true 104 h b (DB.new m).pd.aT):=by rw[DB.AR];exact j.sat.res 2 _ rfl
 obtain⟨e,C,D⟩:=G7 (E:=(DB.new m).pd) u B (j.sat.dis 1 2 (by simp) (by simp) (by omega)) (by show 1<=(DB.new m).S;rw[DB.AS];exact q) (DB.Li q y.2.1);exact bu.pack (k':=some (.p (.obj 1 0 0))) (kc':= [(.l 1 1,.p (.obj 0 0 0))]) n j C (λk F=>F.elim (λe=>.inl (e▸u.1)) (λe=>.inr (e▸D))) (l (λi=>if i=0 then g else if i=1 then a 0 else if i=2 then e else b)) rfl (ov ⟨_,_,_,rfl,rfl⟩)
def yd:Ctr Un:=⟨[.one (.obj 0 0),.one (.sl 1)],[],[.ob 2 [],.lst 1 false 23],[],λb m A c l K=>((∀x∈l,0<=x.v/\x.v<4294967296))/\1<=m.S/\split (decide (DB.bK m l=0)) (∀(a:Nat->Nat),K ⟨(.tuple #[(.pointer (pvA (a 0))),J 0]),(some (.t [(some (.obj 2 0 0)),none])),[],[(.ob 3 a ((DB.load m l).pd))],[(.l 2 1,.p (.obj 0 0 0))]⟩) (K ⟨(.tuple #[(.pointer none),J 110]),kn2,[],[],[]⟩)⟩
theorem Gs:LV Un prog 71 yd:=by
 show ∀(a:Nat->Nat)(m:Mem)(A:oA)(c:Nat)(l:List U32),∀Q:Ou Un->Prop,(((∀x∈l,0<=x.v/\x.v<4294967296))/\1<=m.S/\split (decide (DB.bK m l=0)) (∀(u:Nat->Nat),Q ⟨(.tuple #[(.pointer (pvA (u 0))),J 0]),(some (.t [(some (.obj 2 0 0)),none])),[],[(.ob 3 u ((DB.load m l).pd))],[(.l 2 1,.p (.obj 0 0 0))]⟩) (Q ⟨(.tuple #[(.pointer none),J 110]),kn2,[],[],[]⟩))->∀(X:bP)(w:World),Sat (U:=Un) [(.ob 2 a m),(.lst 1 false 23 A c l)] X w->aK (U:=Un) [(.ob 2 a m),(.lst 1 false 23 A c l)] fr0 []->Calls prog 71 #[(.pointer (pvA (a 0))),(.slice A l.length c)] w (bu (U:=Un) [(.ob 2 a m),(.lst 1 false 23 A c l)] [] X w Q);intro a m A c l Q p X w hs z;obtain⟨hw,B,p⟩:=p;have C:Mem.Wf m:=zk (t:=2) (r:=a) (s:=m) (hs.res 0 _ rfl);have D:=DO a m A c l (λo=>(DB.bK m l=0/\∃(g:Nat)(j:oA)(b:Nat),o=⟨(.tuple #[(.pointer (pvA g)),J 0]),(some (.t [(some (.loc 2 0)),none])),[],[(.blk g [(.pointer (pvA (a 0))),(.slice j (((DB.load m l).aT).length) b),J (DB.wd l 0)] 76),(.lst 4 true 104 j b ((DB.load m l).aT))],[(.c 2 0,.p (.obj 0 0 0)),(.c 2 1,.p (.sl 3 0))]⟩)\/(DB.bK m l≠0/\o=⟨(.tuple #[(.pointer none),J 110]),kn2,[],[],[]⟩)) ⟨hw,aj (λh g j b=>.inl ⟨of_decide_eq_true h,g,j,b,rfl⟩) (λh=>.inr ⟨of_decide_eq_false h,rfl⟩)⟩ X w hs z;refine D.mono ?_;rintro e w' ⟨out,rs',X',rfl,⟨he,g,j,b,rfl⟩|⟨he,rfl⟩,q,n⟩
 ·change cv [Res.ob (U:=Un) 2 a m,.lst 1 false 23 A c l] [] []=some rs' at q;have F: [Res.ob (U:=Un) 2 a m,.lst 1 false 23 A c l]=rs':=by simpa[cv]using q
  subst F;have y:RS (U:=Un) (X' 2) w' (.blk g [.pointer (pvA (a 0)),.slice j (DB.load m l).pd.aT.length b,.int .i64 (DB.load m l).pd.aO] 76):=n.sat.res 2 _ rfl;have G:RS (U:=Un) (X' 3) w' (.lst 4 true 104 j b (DB.load m l).pd.aT):=n.sat.res 3 _ rfl;obtain⟨e,I,L⟩:=G7 (E:=(DB.load m l).pd) y G (n.sat.dis 2 3 (by simp) (by simp) (by omega)) B (DB.JF hw he C.2.1);exact bu.pack (k':=some (.t [some (.obj 2 0 0),none])) (kc':= [(.l 2 1,.p (.obj 0 0 0))]) q n I (λk M=>M.elim (λe=>.inl (e▸y.1)) (λe=>.inr (e▸L))) (gY p (decide_eq_true he) (λi=>if i=0 then g else if i=1 then a 0 else if i=2 then e else b)) (KnO.pair rfl) (ov ⟨_,_,_,rfl,rfl⟩)
 ·exact⟨_,_,_,rfl,bV p (decide_eq_false he),q,n⟩
def E7:Ctr Un:=⟨[.one (.obj 0 0),.one (.sl 1)],[],[.ob 0 [],.lst 1 false 23],[],λb m A c l K=>((∀x∈l,0<=x.v/\x.v<4294967296))/\1<=m.S/\split (decide (DB.bK m l=0)) (∀(a:Nat->Nat),K ⟨(.tuple #[(.pointer (pvA (a 0))),J 0]),(some (.t [(some (.obj 2 0 0)),none])),[],[(.ob 1 a ((DB.load m l).pd))],[(.l 2 1,.p (.obj 0 0 0))]⟩) (K ⟨(.tuple #[(.pointer none),J 110]),kn2,[],[],[]⟩)⟩
theorem Kl:LV Un prog 70 E7:=by
 show ∀(b:Nat->Nat)(m:Mem)(A:oA)(c:Nat)(l:List U32),∀Q:Ou Un->Prop,(((∀x∈l,0<=x.v/\x.v<4294967296))/\1<=m.S/\split (decide (DB.bK m l=0)) (∀(j:Nat->Nat),Q ⟨(.tuple #[(.pointer (pvA (j 0))),J 0]),(some (.t [(some (.obj 2 0 0)),none])),[],[(.ob 1 j ((DB.load m l).pd))],[(.l 2 1,.p (.obj 0 0 0))]⟩) (Q ⟨(.tuple #[(.pointer none),J 110]),kn2,[],[],[]⟩))->∀(X:bP)(w:World),Sat (U:=Un) [(.ob 0 b m),(.lst 1 false 23 A c l)] X w->aK (U:=Un) [(.ob 0 b m),(.lst 1 false 23 A c l)] fr0 []->Calls prog 70 #[(.pointer (pvA (b 0))),(.slice A l.length c)] w (bu (U:=Un) [(.ob 0 b m),(.lst 1 false 23 A c l)] [] X w Q);intro b m A c l Q h X w hs M;obtain⟨hw,N,h⟩:=h;obtain⟨L,n,O,o⟩:=(hs.res 0 _ rfl:cz 0 b m (X 0) w);have r:Rd w (X 1) A l.length c l:=hs.res 1 _ rfl;rw[n];refine(MU o r hw).mono ?_;rintro e w' ⟨u,rfl,p,rfl,t,y,q⟩;by_cases he:DB.bK m l=0
 ·obtain⟨g,a,rfl,z,B,C⟩:=t he;have h:=gY h (decide_eq_true he) (λi=>if i=0 then g else L.g);rw[he];exact bu.AW (Z:=λk=>k=g\/k=a) hs q (show RS (U:=Un) (λk=>k=g\/k=a) w' (.ob 1 (λi=>if i=0 then g else L.g) (DB.load m l).pd)from(⟨a,λk=>Iff.rfl,z.pd⟩:cz 1 (λi=>if i=0 then g else L.g) (DB.load m l).pd (λk=>k=g\/k=a) w')) (λk D=>by rcases D with rfl|rfl;exact B;exact C) h (KnO.pair rfl) (ov ⟨_,_,_,rfl,show some (Value.pointer (some ⟨b 0,0,none⟩))=some (.pointer (some ⟨L.g,0,none⟩))by rw[n]⟩)
 ·have E:DB.bK m l=110:=by unfold DB.bK at he ⊢;split;rfl;split;rfl;split;(rename_i F G I;rw[if_neg F,if_neg G,if_pos I]at he;exact absurd rfl he);rfl
  rw[y he,E];exact bu.pu hs q (bV h (decide_eq_false he)) (KnO.tup _ (by simp))
end
section
attribute [local irreducible] Vc2 VcD
def kW:Ctr Un:=⟨[.one (.int .i64)],[],[],[],λn K=>K ⟨J n,none,[],[],[]⟩⟩
theorem mT:LV Un prog 16 kW:=bQ Tryz.func16 ak [] trivial [] .leaf [] (F:=∀n Q,kW.body n Q->Q ⟨J n,none,[],[],[]⟩) λn Q h=>h
def mS:Ctr Un:=⟨[.one (.int .i64)],[],[],[],λp K=>K ⟨(.agg #[vB true,J p]),none,[],[],[]⟩⟩
theorem Co:LV Un prog 63 mS:=bQ Tryz.func63 ak [] trivial [] .leaf [] (F:=∀p Q,mS.body p Q->∀(a:Nat),Q ⟨(.agg #[vB true,J p]),none,[],[],[]⟩) λp Q h a=>h
def ru:Ctr Un:=⟨[.one (.int .i64)],[],[],[],λn K=>K ⟨J (sz n),none,[],[],[]⟩⟩
theorem GB:LV Un prog 15 ru:=bQ Tryz.func15 ak [] trivial [] .leaf [] (F:=∀n Q,ru.body n Q->Q ⟨J (i64.wrap (((i64.wrap ((n.tmod 8)+8)).tmod 8)+1)),none,[],[],[]⟩) λn Q h=>dO h (by have b:=Int.lt_tmod_of_pos n (show(0:Int)<8 by decide);have e:=Int.tmod_lt_of_pos n (show(0:Int)<8 by decide);have i:=Int.tmod_lt_of_pos (Int.tmod n 8+8) (show(0:Int)<8 by decide);have j:=Int.tmod_nonneg (a:=Int.tmod n 8+8) 8 (by omega);unfold sz;rw[av (x:=Int.tmod n 8+8) (by omega),av (by omega)])
def j9:Ctr Un:=⟨[.one (.ptr 0),.one (.int .i64),.one (.int .i64),.one (.int .u32)],[],[.blk [.obj 2 0,.obj 1 0,.obj 3 0] 60,.ob 1 [(1,2,0)],.ob 0 [],.ob 3 [(1,4,0)],.ob 2 []],[2,4],λp off v g r E b m e F h a K=>(0<=(v:Int)/\(v:Int)<4294967296)/\K ⟨vB (decide (m.err true p off=a.err true p off)),none,[.ob 0 (m.write true p off v),.ob 2 (a.write true p off v)],[],[]⟩⟩
theorem sF:LV Un prog 32 j9:=bQ Tryz.func32 ak [(63,mS),(35,mR),(36,fE),(16,kW)] ⟨Co,vM,gW,mT,trivial⟩ [] (.r' (.two (.node [] none [] [(3,[0])] .leaf .leaf) .leaf)) [] (F:=∀p off v g r (E:Pd) i (m:Mem) j (F:Pd) l (a:Mem) Q,j9.body p off v g r E i m j F l a Q->Pd.Ok E->Mem.Wf m->Pd.Ok F->Mem.Wf a->(0<=v/\v<4294967296)/\∀(b:Mem),b=(m.write true p off v)->Mem.Wf b->(0<=v/\v<4294967296)/\∀(e:Mem),e=(a.write true p off v)->Mem.Wf e->Q ⟨vB ((m.err true p off)==(a.err true p off)),none,[.ob 0 b,.ob 2 e],[],[]⟩) λp off v g r E i m j F l a Q h=>by
 obtain⟨n,h⟩:=h;exact λf1 f2 f3 f4=>aq ‹_› λo b q f6=>aq ‹_› λt e u f8=>au h (eQb (by grind)) (ai (uO0 (by grind)) (ai (uO2 (by grind)) rfl)) rfl
def sG:Ctr Un:=⟨[.one (.int .i64),.one (.int .i64)],[],[],[],λn i K=>∀(g:Nat)(a b e h:Nat->Nat),K ⟨(.pointer (pvA g)),(some (.p (.loc 0 0))),[],[(.blk g [(.pointer (pvA (b 0))),(.pointer (pvA (a 0))),(.pointer (pvA (e 0)))] 60),(.ob 1 a ((DB.new (Mem.fresh (sz n).toNat (sz i).toNat)).pd)),(.ob 0 b ((Mem.fresh (sz n).toNat (sz i).toNat).dI (sz n).toNat)),(.ob 3 e ((DB.new (Mem.fresh (sz n).toNat (sz i).toNat)).pd)),(.ob 2 h ((Mem.fresh (sz n).toNat (sz i).toNat).dI (sz n).toNat))],[(.c 0 0,.p (.obj 2 0 0)),(.c 0 1,.p (.obj 1 0 0)),(.c 0 2,.p (.obj 3 0 0)),(.l 3 1,.p (.obj 4 0 0)),(.l 1 1,.p (.obj 2 0 0))]⟩⟩
theorem Cr:LV Un prog 4 sG:=bQ Tryz.func4 ak [(15,ru),(14,IG),(16,kW),(17,IP),(18,B8),(19,B6)] ⟨GB,L0,mT,L7,IC,IB,trivial⟩ [] (.r' (.r' (.two (.two (.node [] (some ⟨[(24,(.one .bool))],[],upN 18 7,[]⟩) [] [] .leaf .leaf) .leaf) .leaf))) [1000000,4,1,0,3,2] (F:=∀n i Q,sG.body n i Q->((1<=(sz n)/\(sz n)<=64)/\(1<=(sz i)/\(sz i)<=64))/\∀(b:Nat->Nat),∀(m:Mem),m=(Mem.fresh (sz n).toNat (sz i).toNat)->Mem.Wf m->∃J:Bool->Prop,(J false)/\∀(x:Nat->Value)(u:Bool),J u->split u (Q ⟨(.pointer none),none,[],[],[]⟩) (1<=m.S/\∀(e:Nat->Nat),∀(o:Mem),o=(m.dI m.S)->Mem.Wf o->∀(E:Pd),E=(DB.new m).pd->Pd.Ok E->((1<=(sz n)/\(sz n)<=64)/\(1<=(sz i)/\(sz i)<=64))/\∀(t:Nat->Nat),∀(a:Mem),a=(Mem.fresh (sz n).toNat (sz i).toNat)->Mem.Wf a->1<=a.S/\∀(j:Nat->Nat),∀(p:Mem),p=(a.dI a.S)->Mem.Wf p->∀(q:Pd),q=(DB.new a).pd->Pd.Ok q->(some (.pointer (pvA (b 0))):Option Value)=some (.pointer (pvA (b 0)))/\(some (.pointer (pvA (e 0))):Option Value)=some (.pointer (pvA (e 0)))/\(some (.pointer (pvA (j 0))):Option Value)=some (.pointer (pvA (j 0)))/\∀(r:Nat),Q ⟨(.pointer (pvA r)),(some (.p (.loc 0 0))),[],[(.blk r [(.pointer (pvA (b 0))),(.pointer (pvA (e 0))),(.pointer (pvA (j 0)))] 60),(.ob 1 e E),(.ob 0 b o),(.ob 3 j q),(.ob 2 t p)],[(.c 0 0,.p (.obj 2 0 0)),(.c 0 1,.p (.obj 1 0 0)),(.c 0 2,.p (.obj 3 0 0)),(.l 3 1,.p (.obj 4 0 0)),(.l 1 1,.p (.obj 2 0 0))]⟩)) λn i Q h=>by
 have y:=GV n;have z:=GV i;exact aq (by omega) λs1 b m A f2=>cx false ((by grind))<| fy<| aq (by subst_vars;show 1<=(sz n).toNat;omega) λB e o C f4 E D f5=>aq (by omega) λG t a I f7=>aq (by subst_vars;show 1<=(sz n).toNat;omega) λs8 j p L f9 q M f10=>aq (by rfl) λN=>aq (by rfl) λO=>aq (by rfl) λR r=>au (h r e b j t) rfl rfl (ai (congrArg (λl=>Res.blk (U:=Un) _ l _) rfl) (ai (rO1 (by(subst_vars;rfl))) (ai (rO0 (by(subst_vars;rfl))) (ai (rO3 (by(subst_vars;rfl))) (ai (rO2 (by(subst_vars;rfl))) rfl)))))
def D3:Ctr Un:=⟨[.one (.int .i64),.one (.int .i64)],[],[],[],λn i K=>∀(r:Nat->Nat)(s1:LSt),((s1.R=s1.D/\s1.D=DB.begun n i))->K ⟨(.pointer (pvA (r 0))),(some (.p (.obj 0 0 0))),[],[(.ob 14 r s1)],[]⟩⟩
theorem D0:LV Un prog 4 D3:=by
 show ∀(n i:Int),∀Q:Ou Un->Prop,(∀(r:Nat->Nat)(s1:LSt),((s1.R=s1.D/\s1.D=DB.begun n i))->Q ⟨(.pointer (pvA (r 0))),(some (.p (.obj 0 0 0))),[],[(.ob 14 r s1)],[]⟩)->∀(X:bP)(w:World),Sat (U:=Un) [] X w->aK (U:=Un) [] fr0 []->Calls prog 4 #[J n,J i] w (bu (U:=Un) [] [] X w Q);intro n i Q u X w hs x;have a:=Cr n i (λo=>∃(g:Nat)(b l j m:Nat->Nat),o=⟨(.pointer (pvA g)),(some (.p (.loc 0 0))),[],[(.blk g [(.pointer (pvA (l 0))),(.pointer (pvA (b 0))),(.pointer (pvA (j 0)))] 60),(.ob 1 b ((DB.new (Mem.fresh (sz n).toNat (sz i).toNat)).pd)),(.ob 0 l ((Mem.fresh (sz n).toNat (sz i).toNat).dI (sz n).toNat)),(.ob 3 j ((DB.new (Mem.fresh (sz n).toNat (sz i).toNat)).pd)),(.ob 2 m ((Mem.fresh (sz n).toNat (sz i).toNat).dI (sz n).toNat))],[(.c 0 0,.p (.obj 2 0 0)),(.c 0 1,.p (.obj 1 0 0)),(.c 0 2,.p (.obj 3 0 0)),(.l 3 1,.p (.obj 4 0 0)),(.l 1 1,.p (.obj 2 0 0))]⟩) (λg b l j m=>⟨g,b,l,j,m,rfl⟩) X w hs x;refine a.mono ?_;rintro e w' ⟨out,rs',X',rfl,⟨g,b,l,j,m,rfl⟩,y,q⟩;obtain rfl: []=rs':=Option.some.inj y;have z:Sat (aux g b (DB.new (Mem.fresh (sz n).toNat (sz i).toNat)).pd l ((Mem.fresh (sz n).toNat (sz i).toNat).dI (sz n).toNat) j (DB.new (Mem.fresh (sz n).toNat (sz i).toNat)).pd m ((Mem.fresh (sz n).toNat (sz i).toNat).dI (sz n).toNat)) X' w':=q.sat;have A:b 1=l 0:=by
  obtain⟨t,r,s,a,p⟩:=q.kc (.l 1 1) (.p (.obj 2 0 0)) (by simp) (by simp);have a:some (Res.ob (U:=Un) 1 b (DB.new (Mem.fresh (sz n).toNat (sz i).toNat)).pd)=some (.ob t r s):=a;cases a;have p:some (Value.pointer (some ⟨l 0,0,none⟩))=some (.pointer (some ⟨b 1,0,none⟩)):=p;simpa using p.symm
 have l2:j 1=m 0:=by
  obtain⟨t,r,s,a,p⟩:=q.kc (.l 3 1) (.p (.obj 4 0 0)) (by simp) (by simp);have a:some (Res.ob (U:=Un) 3 j (DB.new (Mem.fresh (sz n).toNat (sz i).toNat)).pd)=some (.ob t r s):=a;cases a;have p:some (Value.pointer (some ⟨m 0,0,none⟩))=some (.pointer (some ⟨j 1,0,none⟩)):=p;simpa using p.symm
 obtain⟨Z,B,C⟩:=yH z A l2 rfl rfl;exact bu.AW (Z:=Z) (k:=some (.p (.obj 0 0 0))) (kc:= []) hs (pY q.ch) (show RS (U:=Un) Z w' (.ob 14 (λ_=>g) _)from B) (λk D=>by obtain⟨i,hi,h⟩:=C k D;exact q.new i (by simp) (by simpa using hi) k h) (u (λ_=>g) _ ⟨rfl,rfl⟩) rfl (λ_ _ h=>by cases h)
def mU:Ctr Un:=⟨[.one (.ptr 0),.agg [.int .i64,.int .i64,.int .i64,.int .i64,.int .u32,.any]],[],[.blk [.obj 2 0,.obj 1 0,.obj 3 0] 60,.ob 1 [(1,2,0)],.ob 0 [],.ob 3 [(1,4,0)],.ob 2 []],[0],λk a b c v ws g r E e m j F n l K=>E.n=m.S/\E=F/\m=l/\(0<=(v:Int)/\(v:Int)<4294967296)/\1<=m.S/\split (decide (DB.bK m (DB.ldw (E.on m) a v)=0)) (∀(h i:Nat->Nat),K ⟨vB true,none,[.blk [(.pointer (pvA (e 0))),(.pointer (pvA (h 0))),(.pointer (pvA (i 0)))]],[(.ob 1 h ((DB.load m (DB.ldw (E.on m) a v)).pd)),(.ob 3 i ((DB.load m (DB.ldw (E.on m) a v)).pd))],[(.c 0 2,.p (.obj 6 0 0)),(.c 0 1,.p (.obj 5 0 0)),(.l 6 1,.p (.obj 4 0 0)),(.l 5 1,.p (.obj 2 0 0)),(.c 0 0,.p (.obj 2 0 0))]⟩) (K ⟨vB true,none,[.blk [(.pointer (pvA (e 0))),(.pointer (pvA (r 0))),(.pointer (pvA (j 0)))]],[],[(.c 0 0,.p (.obj 2 0 0)),(.c 0 1,.p (.obj 1 0 0)),(.c 0 2,.p (.obj 3 0 0))]⟩)⟩
theorem Cp:LV Un prog 34 mU:=bQ Tryz.func34 ak [(43,vQ),(44,oO),(70,E7),(71,yd),(16,kW)] ⟨Cu,vu,Kl,Gs,mT,trivial⟩ [7] (.r' (.r' (.r' (.two (.two (.node [] (some ⟨[(31,(.one .bool))],[],upN 22 10,[]⟩) [] [] .leaf .leaf) .leaf) (.r' (.r' (.r' (.r' (.r' (.two (.two (.node [] (some ⟨[(84,(.one .bool))],[],upN 74 11,[]⟩) [] [] .leaf .leaf) .leaf) .leaf)))))))))) [1000000,8,9] (F:=∀k a b c v ws g r (E:Pd) z (m:Mem) B (F:Pd) Y (p:Mem) Q,mU.body k a b c v ws g r E z m B F Y p Q->Pd.Ok E->Mem.Wf m->Pd.Ok F->Mem.Wf p->∀(gv:Nat),E.n=m.S/\∀(A:oA)(S:Nat),∀(l:List U32),l=(E.on m).words.map uM->F.n=p.S/\∀(A1:oA)(G:Nat),∀(M:List U32),M=(F.on p).words.map uM->∃J:Bool->Prop,(split (((((E.on m).words.map uM).length):Int) !=((((F.on p).words.map uM).length):Int)) (J true) (J (((((E.on m).words.map uM).length):Int)==0)))/\∀(OX:Nat->Value)(SB:Bool),J SB->split SB (Q ⟨vB false,none,[.blk [(.pointer (pvA (z 0))),(.pointer (pvA (r 0))),(.pointer (pvA (B 0)))]],[],[(.c 0 0,.p (.obj 2 0 0)),(.c 0 1,.p (.obj 1 0 0)),(.c 0 2,.p (.obj 3 0 0))]⟩) (nz ((((E.on m).words.map uM).length):Int) (nz ((((E.on m).words.map uM).length):Int) (∀I:Int,I=((i64.wrap (((a:Int).tmod (((((E.on m).words.map uM).length):Nat):Int))+(((((E.on m).words.map uM).length):Nat):Int)):Int).tmod (((((E.on m).words.map uM).length):Nat):Int))->(0<=I/\I<(l.length:Int))/\∀(l2:List U32),l2=(l.set I.toNat (uM v))->(0<=I/\I<(M.length:Int))/\∀(C:List U32),C=(M.set I.toNat (uM v))->((∀x∈l2,0<=x.v/\x.v<4294967296))/\1<=m.S/\split (decide (DB.bK m l2=0)) (∀(L:Nat->Nat),∀(D:Pd),D=(DB.load m l2).pd->Pd.Ok D->((∀x∈C,0<=x.v/\x.v<4294967296))/\1<=p.S/\split (decide (DB.bK p C=0)) (∀(N:Nat->Nat),∀(O:Pd),O=(DB.load p C).pd->Pd.Ok O->∃u:Bool->Prop,(u (!(false==false)))/\∀(T:Nat->Value)(y:Bool),u y->split y (Q ⟨vB false,none,[.blk [(.pointer (pvA (z 0))),(.pointer (pvA (r 0))),(.pointer (pvA (B 0)))]],[],[(.c 0 0,.p (.obj 2 0 0)),(.c 0 1,.p (.obj 1 0 0)),(.c 0 2,.p (.obj 3 0 0))]⟩) (Q ⟨vB true,none,[.blk [(.pointer (pvA (z 0))),(.pointer (pvA (L 0))),(.pointer (pvA (N 0)))]],[(.ob 1 L D),(.ob 3 N O)],[(.c 0 2,.p (.obj 6 0 0)),(.c 0 1,.p (.obj 5 0 0)),(.l 6 1,.p (.obj 4 0 0)),(.l 5 1,.p (.obj 2 0 0)),(.c 0 0,.p (.obj 2 0 0))]⟩)) (∃u:Bool->Prop,(u true)/\∀(T:Nat->Value)(y:Bool),u y->split y (Q ⟨vB false,none,[.blk [(.pointer (pvA (z 0))),(.pointer (pvA (r 0))),(.pointer (pvA (B 0)))]],[],[(.c 0 0,.p (.obj 2 0 0)),(.c 0 1,.p (.obj 1 0 0)),(.c 0 2,.p (.obj 3 0 0))]⟩) (False))) (((∀x∈C,0<=x.v/\x.v<4294967296))/\1<=p.S/\split (decide (DB.bK p C=0)) (∀(L:Nat->Nat),∀(D:Pd),D=(DB.load p C).pd->Pd.Ok D->∃u:Bool->Prop,(u true)/\∀(T:Nat->Value)(y:Bool),u y->split y (Q ⟨vB false,none,[.blk [(.pointer (pvA (z 0))),(.pointer (pvA (r 0))),(.pointer (pvA (B 0)))]],[],[(.c 0 0,.p (.obj 2 0 0)),(.c 0 1,.p (.obj 1 0 0)),(.c 0 2,.p (.obj 3 0 0))]⟩) (Q ⟨vB true,none,[.blk [(.pointer (pvA (z 0))),(.pointer (pvA (r 0))),(.pointer (pvA (B 0)))]],[],[(.c 0 0,.p (.obj 2 0 0)),(.c 0 1,.p (.obj 1 0 0)),(.c 0 2,.p (.obj 3 0 0))]⟩)) (∃u:Bool->Prop,(u (!(true==true)))/\∀(T:Nat->Value)(y:Bool),u y->split y (Q ⟨vB false,none,[.blk [(.pointer (pvA (z 0))),(.pointer (pvA (r 0))),(.pointer (pvA (B 0)))]],[],[(.c 0 0,.p (.obj 2 0 0)),(.c 0 1,.p (.obj 1 0 0)),(.c 0 2,.p (.obj 3 0 0))]⟩) (Q ⟨vB true,none,[.blk [(.pointer (pvA (z 0))),(.pointer (pvA (r 0))),(.pointer (pvA (B 0)))]],[],[(.c 0 0,.p (.obj 2 0 0)),(.c 0 1,.p (.obj 1 0 0)),(.c 0 2,.p (.obj 3 0 0))]⟩))))))) λk a b c v ws g r E z m B F Y p Q h=>by
 obtain⟨Oo,Ps,PF,U,aa,h⟩:=h;subst Ps;subst PF;exact λf1 f2 f3 f4 gv=>(by have V:=Pd.Ok.on f1 Oo;(have e:(E.on m).S<=64:=by rw[Pd.uv _ _ Oo];exact f1.most);(have R:((E.on m).words.map uM).length=1+2*(E.on m).S:=by rw[List.length_map,DB.gX]);exact aq ‹_› λs5 A S l n=>aq ‹_› λs6 A1 G M i=>cx ((((((((E.on m).words.map uM).length):Nat):Int):Int) !=(((((E.on m).words.map uM).length):Nat):Int)) || (((((((E.on m).words.map uM).length):Nat):Int):Int)==0)) (aj (λS=>(by grind)) λS=>(by grind))<| aQ (λG=>au (bV h (by(exfalso;rw[R]at G;simp at G;omega))) (eQb (by(exfalso;rw[R]at G;simp at G;omega))) rfl rfl) λG=>AO (by rw[R];omega)<| AO (by rw[R];omega)<| allEq<| aq (DB.EB e ‹_›) λs7 l2 o=>aq (DB.EB e ‹_›) λs8 C j=>aq (by rw[DB.ldw_eq e n o];exact DB.qH V U) λs9=>aq ‹_› λTr=>aD (λc3 L D On f11=>aq (by rw[DB.ldw_eq e i j];exact DB.qH V U) λZk=>aq ‹_› λab=>aD (λc4 N O OB f14=>cx (!(false==false)) ((by grind))<| cH (λc5=>au (bV h (by(have q:=DB.ldw_eq e n o;have t:=DB.ldw_eq e i j;grind))) (eQb (by(have q:=DB.ldw_eq e n o;have t:=DB.ldw_eq e i j;grind))) rfl rfl) λc5=>au ((gY h (by(have q:=DB.ldw_eq e n o;have t:=DB.ldw_eq e i j;grind))) L N) rfl rfl (ai (rO1 (by(have q:=DB.ldw_eq e n o;have t:=DB.ldw_eq e i j;grind))) (ai (rO3 (by(have q:=DB.ldw_eq e n o;have t:=DB.ldw_eq e i j;grind))) rfl))) λc4=>cx true ((by grind))<| cr<| au (bV h (by(have q:=DB.ldw_eq e n o;have t:=DB.ldw_eq e i j;grind))) (eQb (by(have q:=DB.ldw_eq e n o;have t:=DB.ldw_eq e i j;grind))) rfl rfl) λc3=>aq (by rw[DB.ldw_eq e i j];exact DB.qH V U) λZ9=>aq ‹_› λae=>aD (λc6 L D On f17=>cx true ((by grind))<| cr<| au (bV h (by(have q:=DB.ldw_eq e n o;have t:=DB.ldw_eq e i j;grind))) (eQb (by(have q:=DB.ldw_eq e n o;have t:=DB.ldw_eq e i j;grind))) rfl rfl) λc6=>cx (!(true==true)) ((by grind))<| cH (λc7=>au (bV h (by(have q:=DB.ldw_eq e n o;have t:=DB.ldw_eq e i j;grind))) (eQb (by(have q:=DB.ldw_eq e n o;have t:=DB.ldw_eq e i j;grind))) rfl rfl) λc7=>au (bV h (by(have q:=DB.ldw_eq e n o;have t:=DB.ldw_eq e i j;grind))) (eQb (by(have q:=DB.ldw_eq e n o;have t:=DB.ldw_eq e i j;grind))) rfl rfl)
end
section
attribute [local irreducible] Vc2 VcD
def kq:Ctr Un:=⟨[.one (.ptr 0),.agg [.int .i64,.int .i64,.int .i64,.int .i64,.int .u32,.any]],[(5,5),(6,6)],[.blk [.obj 2 0,.obj 1 0,.obj 3 0] 60,.ob 1 [(1,2,0)],.ob 0 [],.ob 3 [(1,4,0)],.ob 2 [],.ob 5 [],.ob 6 []],[2,4],λk a b c v ws g r E j m l F n h o e p i K=>m=h/\i=e/\(0<=(v:Int)/\(v:Int)<4294967296)/\K ⟨vB true,none,[.ob 0 (((E.on m).iR e a v).mem),.ob 2 (((E.on m).iR e a v).mem)],[],[]⟩⟩
theorem wL:LV Un prog 33 kq:=bQ Tryz.func33 ak [(64,Ix),(65,Ca),(66,Iy),(67,Cc),(68,EX),(69,ye),(32,j9)] ⟨LS,ID,LU,IE,Kd,Gv,sF,trivial⟩ [7,9] (.r' (.r' (.r' (.r' (.two (.two (.node [(.c 9 8,1,23)] none [] [] .leaf .leaf) (.two (.node [] (some ⟨[(7,(.one (.int .u32)))],[],[7]++upN 14 16,[(8,(.ob 4)),(9,(.blk [(.v (.int .u32)),(.v (.int .u32)),(.v (.int .u32)),(.v (.int .u32)),(.v (.int .u32)),(.v (.int .u32)),(.v (.int .u32)),(.v (.int .u32)),(.k (.sl 10 0)),(.v (.int .i64))])),(10,(.lst 1))]⟩) [] [] (.two (.two (.node [] (some ⟨[(21,(.one .bool))],[],upN 14 8,[]⟩) [] [] .leaf .leaf) .leaf) .leaf) .leaf) .leaf)) (.r' (.two (.two (.node [] none [] [(0,[11]),(1,[9])] .leaf .leaf) .leaf) (.two (.r' (.two (.node [] (some ⟨[(9,(.one (.int .i64)))],[],[4,9]++upN 36 14,[(2,(.ob 0)),(4,(.ob 2))]⟩) [] [] (.r' (.two (.two (.two (.node [] none [] [(2,[7]),(7,[11])] .leaf .leaf) .leaf) .leaf) .leaf)) .leaf) .leaf)) .leaf)))))))) [] (F:=∀k a b c v ws g r (E:Pd) rm (m:Mem) r2 (F:Pd) OU (T:Mem) rk (A:List Int) Uz (C:List Int) Q,kq.body k a b c v ws g r E rm m r2 F OU T rk A Uz C Q->Pd.Ok E->Mem.Wf m->Pd.Ok F->Mem.Wf T->∀(gv:Nat),∀(rN:Nat->Nat),∀(s:Dg),s=Dg.new->∀(NX:Nat),∀i:Int,i=0->∃I:Nat->Int->Dg->Int->Int->Int->Int->Int->Int->Int->Int->Int->Option Addr->Nat->List U32->Prop,(∃L,I L i s S8.first.a S8.first.b S8.first.c S8.first.d S8.first.e S8.first.f S8.first.g S8.first.h 0 none 0 ([]:List U32))/\∀(L:Nat)(Pe:Nat->Value)(i1:Int)(s8:Dg)(j n o p q t u y e:Int)(ab:oA)(QU:Nat)(z:List U32),I L i1 s8 j n o p q t u y e ab QU z->∃J:Bool->Prop,(split (decide (i1<v)) (J (decide (i1<40))) (J false))/\∀(QI:Nat->Value)(Pw:Bool),J Pw->split Pw (∀(QD:Nat),∀(l:List U32),l=([uM 7]:List U32)->s8.Ok/\l.length<=1099511627776/\∀(s1:Dg),s1=(s8.add A l)->∀(O7:Nat),∀(B:List U32),B=([uM 7]:List U32)->(Dg.mk (S8.mk j n o p q t u y) e z).Ok/\(B.length<=1099511627776/\B.length<=36028797018963968 - e)/\∀(A1:oA)(c1:Nat),∀(l2:List U32),l2=((Dg.mk (S8.mk j n o p q t u y) e z).add C B).waits->∀i2:Int,i2=(u32.wrap (i1+1))->∃m3,m3<L/\I m3 i2 s1 (((Dg.mk (S8.mk j n o p q t u y) e z).add C B).st.a) (((Dg.mk (S8.mk j n o p q t u y) e z).add C B).st.b) (((Dg.mk (S8.mk j n o p q t u y) e z).add C B).st.c) (((Dg.mk (S8.mk j n o p q t u y) e z).add C B).st.d) (((Dg.mk (S8.mk j n o p q t u y) e z).add C B).st.e) (((Dg.mk (S8.mk j n o p q t u y) e z).add C B).st.f) (((Dg.mk (S8.mk j n o p q t u y) e z).add C B).st.g) (((Dg.mk (S8.mk j n o p q t u y) e z).add C B).st.h) (((Dg.mk (S8.mk j n o p q t u y) e z).add C B).n) A1 c1 l2) (s8.Ok/\∀(QD:Nat),∀(s1:List U32),s1=([uM 0,uM 0,uM 0,uM 0,uM 0,uM 0,uM 0,uM 0,uM 0,uM 0,uM 0,uM 0,uM 0,uM 0,uM 0,uM 0,uM 0,uM 0,uM 0,uM 0,uM 0,uM 0,uM 0,uM 0,uM 0,uM 0]:List U32)->(s1.length=26)/\∀(s2:List U32),s2=(Dg.svL s8)->(26<=s2.length)/\(Dg.mk (S8.mk j n o p q t u y) e z).Ok/\eg (Az [.int .u32] 26) (#[O (s2.getD 0 (uM 0)).v,O (s2.getD 1 (uM 0)).v,O (s2.getD 2 (uM 0)).v,O (s2.getD 3 (uM 0)).v,O (s2.getD 4 (uM 0)).v,O (s2.getD 5 (uM 0)).v,O (s2.getD 6 (uM 0)).v,O (s2.getD 7 (uM 0)).v,O (s2.getD 8 (uM 0)).v,O (s2.getD 9 (uM 0)).v,O (s2.getD 10 (uM 0)).v,O (s2.getD 11 (uM 0)).v,O (s2.getD 12 (uM 0)).v,O (s2.getD 13 (uM 0)).v,O (s2.getD 14 (uM 0)).v,O (s2.getD 15 (uM 0)).v,O (s2.getD 16 (uM 0)).v,O (s2.getD 17 (uM 0)).v,O (s2.getD 18 (uM 0)).v,O (s2.getD 19 (uM 0)).v,O (s2.getD 20 (uM 0)).v,O (s2.getD 21 (uM 0)).v,O (s2.getD 22 (uM 0)).v,O (s2.getD 23 (uM 0)).v,O (s2.getD 24 (uM 0)).v,O (s2.getD 25 (uM 0)).v]:Array Value).toList=true/\eg (Az [.int .u32] 26) (⟨Dg.sv (Dg.mk (S8.mk j n o p q t u y) e z)⟩:Array Value).toList=true/\split (!(bW #[O (s2.getD 0 (uM 0)).v,O (s2.getD 1 (uM 0)).v,O (s2.getD 2 (uM 0)).v,O (s2.getD 3 (uM 0)).v,O (s2.getD 4 (uM 0)).v,O (s2.getD 5 (uM 0)).v,O (s2.getD 6 (uM 0)).v,O (s2.getD 7 (uM 0)).v,O (s2.getD 8 (uM 0)).v,O (s2.getD 9 (uM 0)).v,O (s2.getD 10 (uM 0)).v,O (s2.getD 11 (uM 0)).v,O (s2.getD 12 (uM 0)).v,O (s2.getD 13 (uM 0)).v,O (s2.getD 14 (uM 0)).v,O (s2.getD 15 (uM 0)).v,O (s2.getD 16 (uM 0)).v,O (s2.getD 17 (uM 0)).v,O (s2.getD 18 (uM 0)).v,O (s2.getD 19 (uM 0)).v,O (s2.getD 20 (uM 0)).v,O (s2.getD 21 (uM 0)).v,O (s2.getD 22 (uM 0)).v,O (s2.getD 23 (uM 0)).v,O (s2.getD 24 (uM 0)).v,O (s2.getD 25 (uM 0)).v] ⟨Dg.sv (Dg.mk (S8.mk j n o p q t u y) e z)⟩)) (Q ⟨vB false,none,[.ob 0 m,.ob 2 T],[],[]⟩) (∀i2:Int,i2=0->∃I1:Nat->Int->Mem->Mem->Prop,(∃M,I1 M i2 m T)/\∀(M:Nat)(YU:Nat->Value)(i3:Int)(D G:Mem),I1 M i3 D G->Mem.Wf D->Mem.Wf G->split (decide (i3<26)) (((0<=i3/\i3<(s2.length:Int))/\i3<(26:Int))/\(0<=((s2.getD i3.toNat (uM 0)).v)/\((s2.getD i3.toNat (uM 0)).v)<4294967296)/\∀(U:Mem),U=(D.write true a (i64.wrap (11+i3)) ((s2.getD i3.toNat (uM 0)).v))->Mem.Wf U->∀(V:Mem),V=(G.write true a (i64.wrap (11+i3)) ((s2.getD i3.toNat (uM 0)).v))->Mem.Wf V->split (!(decide (D.err true a (i64.wrap (11+i3))=G.err true a (i64.wrap (11+i3))))) (Q ⟨vB false,none,[.ob 0 U,.ob 2 V],[],[]⟩) (∀i4:Int,i4=(i64.wrap (i3+1))->∃m5,m5<M/\I1 m5 i4 U V)) (Q ⟨vB true,none,[.ob 0 D,.ob 2 G],[],[]⟩)))) λk a b c v ws g r E rm m r2 F OU T rk A Uz C Q h=>by
 obtain⟨Oo,Ps,PF,h⟩:=h;subst Oo;exact λf1 f2 f3 f4 gv rN s PL NX=>allEq<| ⟨λL i1 s8 j n o p q t u y e ab QU z=>(L=(40 - i1).toNat)/\(0<=i1/\i1<=40/\i1<=v)/\(s8=dgN A i1.toNat)/\((Dg.mk (S8.mk j n o p q t u y) e z)=dgN A i1.toNat),⟨_,rfl,(by omega),‹_›,(by rfl)⟩,λL _ i1 s8 j n o p q t u y e ab QU z ⟨hm,hi,hd,N⟩=>cx ((decide ((i1:Int)<v)) && (decide ((i1:Int)<40))) (aj (λc1=>(by grind)) λc1=>(by grind))<| cZ (λc2=>(by(have UU:i1<v/\i1<40:=by simpa using c2);exact λQD l SA=>aq (by rw[hd];exact oy A _) λs5=>aq (by rw[SA];decide) λs6 s1 OD O7 B PD=>aq (by rw[N];exact oy A _) λs7=>aq (by have h7:e=(dgN A i1.toNat).n:=congrArg Dg.n N;have h8:=KC A i1.toNat;rw[PD];simp only[List.length_singleton];omega) λs8 A1 c1 l2 Pc=>allEq<| ⟨_,(by(have h8:=bp (x:=i1+1) (by omega));omega),rfl,(by(have h8:=bp (x:=i1+1) (by omega));omega),(by rw[Bu A (by omega),<-hd,OD,SA]),(by rw[Bu A (by omega),<-N,Pc,PD,Ps])⟩)) λc2=>(by(have aa:s8.save.length=26:=Dg.ub (by rw[hd];exact oy A _));exact aq (by rw[hd];exact oy A _) λs9 QD s1 OD=>aq (by rw[OD];rfl) λTr s2 R=>aq (by rw[R,show(Dg.svL s8).length=26 from rfl];omega) λTH=>aq (by rw[N];exact oy A _) λZk=>aq (by rfl) λaf=>aq (by rfl) λah=>cH (λS=>au h (eQb (by exfalso;rw[R,N,<-hd]at S;exact qK [s8.save.getD 0 0,s8.save.getD 1 0,s8.save.getD 2 0,s8.save.getD 3 0,s8.save.getD 4 0,s8.save.getD 5 0,s8.save.getD 6 0,s8.save.getD 7 0,s8.save.getD 8 0,s8.save.getD 9 0,s8.save.getD 10 0,s8.save.getD 11 0,s8.save.getD 12 0,s8.save.getD 13 0,s8.save.getD 14 0,s8.save.getD 15 0,s8.save.getD 16 0,s8.save.getD 17 0,s8.save.getD 18 0,s8.save.getD 19 0,s8.save.getD 20 0,s8.save.getD 21 0,s8.save.getD 22 0,s8.save.getD 23 0,s8.save.getD 24 0,s8.save.getD 25 0] S)) (ai (uO0 (by exfalso;rw[R,N,<-hd]at S;exact qK [s8.save.getD 0 0,s8.save.getD 1 0,s8.save.getD 2 0,s8.save.getD 3 0,s8.save.getD 4 0,s8.save.getD 5 0,s8.save.getD 6 0,s8.save.getD 7 0,s8.save.getD 8 0,s8.save.getD 9 0,s8.save.getD 10 0,s8.save.getD 11 0,s8.save.getD 12 0,s8.save.getD 13 0,s8.save.getD 14 0,s8.save.getD 15 0,s8.save.getD 16 0,s8.save.getD 17 0,s8.save.getD 18 0,s8.save.getD 19 0,s8.save.getD 20 0,s8.save.getD 21 0,s8.save.getD 22 0,s8.save.getD 23 0,s8.save.getD 24 0,s8.save.getD 25 0] S)) (ai (uO2 (by exfalso;rw[R,N,<-hd]at S;exact qK [s8.save.getD 0 0,s8.save.getD 1 0,s8.save.getD 2 0,s8.save.getD 3 0,s8.save.getD 4 0,s8.save.getD 5 0,s8.save.getD 6 0,s8.save.getD 7 0,s8.save.getD 8 0,s8.save.getD 9 0,s8.save.getD 10 0,s8.save.getD 11 0,s8.save.getD 12 0,s8.save.getD 13 0,s8.save.getD 14 0,s8.save.getD 15 0,s8.save.getD 16 0,s8.save.getD 17 0,s8.save.getD 18 0,s8.save.getD 19 0,s8.save.getD 20 0,s8.save.getD 21 0,s8.save.getD 22 0,s8.save.getD 23 0,s8.save.getD 24 0,s8.save.getD 25 0] S)) rfl)) rfl) λS=>allEq<| ⟨λM i3 D G=>(M=(26 - i3).toNat)/\(0<=i3/\i3<=26)/\(D=((E.on m).wrs a 11 (s8.save.take i3.toNat)).mem)/\(G=D),⟨_,rfl,(by omega),(by rfl),(by rfl)⟩,λM _ i3 D G ⟨hm,an,hW,Y⟩=>λf15 f16=>aD (λc4=>aq (by rw[R,show(Dg.svL s8).length=26 from rfl];omega) λaz=>aq (by rw[R,Dg.svL_eq aa,Ar];exact Fv (by rw[hd];exact oy A _) aa (by omega)) λaA U Zx f19 V ae f20=>CL (λc5=>au h (eQb (by exfalso;simp[Y]at c5)) (ai (uO0 (by exfalso;simp[Y]at c5)) (ai (uO2 (by exfalso;simp[Y]at c5)) rfl)) rfl) λc5=>allEq<| ⟨_,(by(have h8:=av (x:=i3+1) (by omega));omega),rfl,(by(have h8:=av (x:=i3+1) (by omega));omega),(by rw[Zx,DB.GK aa (by omega)];show D.write true a _ _=((E.on m).wrs a 11 (s8.save.take i3.toNat)).mem.write true a _ _;rw[<-hW,R,Dg.svL_eq aa,Ar]),(by rw[ae,Zx,Y])⟩) λc4=>au h (eQb ‹_›) (ai (uO0 (by(have hf:D=((E.on m).iR A a v).mem:=by rw[hW,DB.iR,show i3.toNat=26 by omega,List.take_of_length_le (by omega),hd,show i1.toNat=min v.toNat 40 by simp at c2;omega]);exact hf.symm)) (ai (uO2 (by(have hf:D=((E.on m).iR A a v).mem:=by rw[hW,DB.iR,show i3.toNat=26 by omega,List.take_of_length_le (by omega),hd,show i1.toNat=min v.toNat 40 by simp at c2;omega]);(rw[Y];exact hf.symm))) rfl)) rfl⟩)⟩
def yh:Ctr Un:=⟨[.one (.ptr 0),.agg [.int .i64,.int .i64,.int .i64,.int .i64,.int .u32,.any]],[(5,5),(6,6)],[.blk [.obj 2 0,.obj 1 0,.obj 3 0] 60,.ob 1 [(1,2,0)],.ob 0 [],.ob 3 [(1,4,0)],.ob 2 [],.ob 5 [],.ob 6 []],[0,1,2,3,4],λk a b c v ws g r E h m n F p i q e t o K=>E.n=m.S/\E=F/\m=i/\o=e/\(0<=(v:Int)/\(v:Int)<4294967296)/\1<=m.S/\split (decide (k=9) && decide (DB.bK m (DB.ldw (E.on m) a v)=0)) (∀(j l:Nat->Nat),K ⟨vB true,none,[.blk [(.pointer (pvA (h 0))),(.pointer (pvA (j 0))),(.pointer (pvA (l 0)))],.ob 1 E,.ob 0 m,.ob 3 F,.ob 2 i],[(.ob 1 j ((DB.load m (DB.ldw (E.on m) a v)).pd)),(.ob 3 l ((DB.load m (DB.ldw (E.on m) a v)).pd))],[(.c 0 2,.p (.obj 8 0 0)),(.c 0 1,.p (.obj 7 0 0)),(.l 8 1,.p (.obj 4 0 0)),(.l 7 1,.p (.obj 2 0 0)),(.c 0 0,.p (.obj 2 0 0))]⟩) (K ⟨vB true,none,[.blk [(.pointer (pvA (h 0))),(.pointer (pvA (r 0))),(.pointer (pvA (n 0)))],.ob 1 (((E.on m).act e k a b c v).pd),.ob 0 (((E.on m).act e k a b c v).mem),.ob 3 (((E.on m).act e k a b c v).pd),.ob 2 (((E.on m).act e k a b c v).mem)],[],[(.c 0 0,.p (.obj 2 0 0)),(.c 0 1,.p (.obj 1 0 0)),(.c 0 2,.p (.obj 3 0 0))]⟩)⟩
theorem GD:LV Un prog 6 yh:=bQ Tryz.func6 ak [(20,qp),(16,kW),(21,jS),(22,E6),(23,rh),(24,qo),(25,jv),(26,E8),(27,ri),(28,sH),(29,kp),(30,nX),(31,jh),(32,j9),(33,kq),(34,mU)] ⟨zQ,mT,vw,Kk,Gq,tA,ny,Km,Gt,Cx,wD,wQ,sU,sF,wL,Cp,trivial⟩ [7,29,55,77,95,117,143,153,158] (.r' (.two (.r' (.two (.r' (.two (.two (.node [] none [] [(3,[0]),(5,[7]),(7,[7]),(13,[0]),(15,[7]),(17,[7])] .leaf .leaf) .leaf) (.r' (.two (.two (.node [] none [] [(3,[0]),(5,[7]),(7,[7]),(9,[7]),(15,[0]),(17,[7]),(19,[7]),(21,[7])] .leaf .leaf) .leaf) (.r' (.two (.two (.node [] none [] [(3,[0]),(5,[7]),(7,[7]),(13,[0]),(15,[7]),(17,[7])] .leaf .leaf) .leaf) (.r' (.two (.two (.node [] none [] [(3,[0]),(5,[7]),(11,[0]),(13,[7])] .leaf .leaf) .leaf) (.r' (.two (.two (.node [] none [] [(3,[0]),(5,[7]),(7,[7]),(13,[0]),(15,[7]),(17,[7])] .leaf .leaf) .leaf) (.r' (.two (.two (.node [] none [] [(3,[0]),(5,[7]),(7,[7]),(15,[0]),(17,[7]),(19,[7])] .leaf .leaf) .leaf) .leaf)))))))))))) .leaf)) .leaf)) [1000000,8,9] (F:=∀k a b c v ws g r (E:Pd) I (m:Mem) J (F:Pd) S (z:Mem) T (M:List Int) U (R:List Int) Q,yh.body k a b c v ws g r E I m J F S z T M U R Q->Pd.Ok E->Mem.Wf m->Pd.Ok F->Mem.Wf z->∀(gv:Nat),∀V:Bool,V=((k:Int)==1)->split V (E.n=m.S/\∀(A:Pd),A=((E.on m).br a b).pd->Pd.Ok A->∀(u:Mem),u=((E.on m).br a b).mem->Mem.Wf u->F.n=z.S/\∀(B:Pd),B=((F.on z).br a b).pd->Pd.Ok B->∀(x:Mem),x=((F.on z).br a b).mem->Mem.Wf x->Q ⟨vB (((E.on m).bM a b)==((F.on z).bM a b)),none,[.blk [(.pointer (pvA (I 0))),(.pointer (pvA (r 0))),(.pointer (pvA (J 0)))],.ob 1 A,.ob 0 u,.ob 3 B,.ob 2 x],[],[(.c 0 0,.p (.obj 2 0 0)),(.c 0 1,.p (.obj 1 0 0)),(.c 0 2,.p (.obj 3 0 0))]⟩) (∀Y:Bool,Y=((k:Int)==2)->split Y (E.n=m.S/\∀(A:Pd),A=((E.on m).take a b c).pd->Pd.Ok A->∀(u:Mem),u=((E.on m).take a b c).mem->Mem.Wf u->F.n=z.S/\∀(B:Pd),B=((F.on z).take a b c).pd->Pd.Ok B->∀(x:Mem),x=((F.on z).take a b c).mem->Mem.Wf x->Q ⟨vB (((E.on m).eo a b c)==((F.on z).eo a b c)),none,[.blk [(.pointer (pvA (I 0))),(.pointer (pvA (r 0))),(.pointer (pvA (J 0)))],.ob 1 A,.ob 0 u,.ob 3 B,.ob 2 x],[],[(.c 0 0,.p (.obj 2 0 0)),(.c 0 1,.p (.obj 1 0 0)),(.c 0 2,.p (.obj 3 0 0))]⟩) (∀ZJ:Bool,ZJ=((k:Int)==3)->split ZJ (E.n=m.S/\∀(A:Pd),A=((E.on m).eW a b).pd->Pd.Ok A->∀(u:Mem),u=((E.on m).eW a b).mem->Mem.Wf u->F.n=z.S/\∀(B:Pd),B=((F.on z).eW a b).pd->Pd.Ok B->∀(x:Mem),x=((F.on z).eW a b).mem->Mem.Wf x->Q ⟨vB (((E.on m).fO a b)==((F.on z).fO a b)),none,[.blk [(.pointer (pvA (I 0))),(.pointer (pvA (r 0))),(.pointer (pvA (J 0)))],.ob 1 A,.ob 0 u,.ob 3 B,.ob 2 x],[],[(.c 0 0,.p (.obj 2 0 0)),(.c 0 1,.p (.obj 1 0 0)),(.c 0 2,.p (.obj 3 0 0))]⟩) (∀aa:Bool,aa=((k:Int)==4)->split aa (E.n=m.S/\∀(A:Pd),A=((E.on m).ib a).pd->Pd.Ok A->∀(u:Mem),u=((E.on m).ib a).mem->Mem.Wf u->F.n=z.S/\∀(B:Pd),B=((F.on z).ib a).pd->Pd.Ok B->∀(x:Mem),x=((F.on z).ib a).mem->Mem.Wf x->Q ⟨vB (((E.on m).ep a)==((F.on z).ep a)),none,[.blk [(.pointer (pvA (I 0))),(.pointer (pvA (r 0))),(.pointer (pvA (J 0)))],.ob 1 A,.ob 0 u,.ob 3 B,.ob 2 x],[],[(.c 0 0,.p (.obj 2 0 0)),(.c 0 1,.p (.obj 1 0 0)),(.c 0 2,.p (.obj 3 0 0))]⟩) (∀ab:Bool,ab=((k:Int)==5)->split ab (E.n=m.S/\∀(A:Pd),A=((E.on m).setState a b).pd->Pd.Ok A->∀(u:Mem),u=((E.on m).setState a b).mem->Mem.Wf u->F.n=z.S/\∀(B:Pd),B=((F.on z).setState a b).pd->Pd.Ok B->∀(x:Mem),x=((F.on z).setState a b).mem->Mem.Wf x->Q ⟨vB (((E.on m).cO a b)==((F.on z).cO a b)),none,[.blk [(.pointer (pvA (I 0))),(.pointer (pvA (r 0))),(.pointer (pvA (J 0)))],.ob 1 A,.ob 0 u,.ob 3 B,.ob 2 x],[],[(.c 0 0,.p (.obj 2 0 0)),(.c 0 1,.p (.obj 1 0 0)),(.c 0 2,.p (.obj 3 0 0))]⟩) (∀Yf:Bool,Yf=((k:Int)==6)->split Yf (E.n=m.S/\∀(A:Pd),A=((E.on m).cf a (((b:Int).tmod 2:Int) !=0)).pd->Pd.Ok A->∀(u:Mem),u=((E.on m).cf a (((b:Int).tmod 2:Int) !=0)).mem->Mem.Wf u->F.n=z.S/\∀(B:Pd),B=((F.on z).cf a (((b:Int).tmod 2:Int) !=0)).pd->Pd.Ok B->∀(x:Mem),x=((F.on z).cf a (((b:Int).tmod 2:Int) !=0)).mem->Mem.Wf x->Q ⟨vB (((E.on m).cy a)==((F.on z).cy a)),none,[.blk [(.pointer (pvA (I 0))),(.pointer (pvA (r 0))),(.pointer (pvA (J 0)))],.ob 1 A,.ob 0 u,.ob 3 B,.ob 2 x],[],[(.c 0 0,.p (.obj 2 0 0)),(.c 0 1,.p (.obj 1 0 0)),(.c 0 2,.p (.obj 3 0 0))]⟩) (∀Yd:Bool,Yd=((k:Int)==7)->split Yd ((0<=v/\v<4294967296)/\∀(u:Mem),u=(m.write true a b v)->Mem.Wf u->∀(x:Mem),x=(z.write true a b v)->Mem.Wf x->Q ⟨vB (decide (m.err true a b=z.err true a b)),none,[.blk [(.pointer (pvA (I 0))),(.pointer (pvA (r 0))),(.pointer (pvA (J 0)))],.ob 1 E,.ob 0 u,.ob 3 F,.ob 2 x],[],[(.c 0 0,.p (.obj 2 0 0)),(.c 0 1,.p (.obj 1 0 0)),(.c 0 2,.p (.obj 3 0 0))]⟩) (∀ae:Bool,ae=((k:Int)==8)->split ae (m=z/\R=M/\(0<=v/\v<4294967296)/\∀(u:Mem),u=((E.on m).iR M a v).mem->Mem.Wf u->∀(x:Mem),x=((E.on m).iR M a v).mem->Mem.Wf x->Q ⟨vB true,none,[.blk [(.pointer (pvA (I 0))),(.pointer (pvA (r 0))),(.pointer (pvA (J 0)))],.ob 1 E,.ob 0 u,.ob 3 F,.ob 2 x],[],[(.c 0 0,.p (.obj 2 0 0)),(.c 0 1,.p (.obj 1 0 0)),(.c 0 2,.p (.obj 3 0 0))]⟩) (∀af:Bool,af=((k:Int)==9)->split af (E.n=m.S/\E=F/\m=z/\(0<=v/\v<4294967296)/\1<=m.S/\split (decide (DB.bK m (DB.ldw (E.on m) a v)=0)) (∀(N O:Nat->Nat),∀(A:Pd),A=(DB.load m (DB.ldw (E.on m) a v)).pd->Pd.Ok A->∀(B:Pd),B=(DB.load m (DB.ldw (E.on m) a v)).pd->Pd.Ok B->Q ⟨vB true,none,[.blk [(.pointer (pvA (I 0))),(.pointer (pvA (N 0))),(.pointer (pvA (O 0)))],.ob 1 E,.ob 0 m,.ob 3 F,.ob 2 z],[(.ob 1 N A),(.ob 3 O B)],[(.c 0 2,.p (.obj 8 0 0)),(.c 0 1,.p (.obj 7 0 0)),(.l 8 1,.p (.obj 4 0 0)),(.l 7 1,.p (.obj 2 0 0)),(.c 0 0,.p (.obj 2 0 0))]⟩) (Q ⟨vB true,none,[.blk [(.pointer (pvA (I 0))),(.pointer (pvA (r 0))),(.pointer (pvA (J 0)))],.ob 1 E,.ob 0 m,.ob 3 F,.ob 2 z],[],[(.c 0 0,.p (.obj 2 0 0)),(.c 0 1,.p (.obj 1 0 0)),(.c 0 2,.p (.obj 3 0 0))]⟩)) (Q ⟨vB true,none,[.blk [(.pointer (pvA (I 0))),(.pointer (pvA (r 0))),(.pointer (pvA (J 0)))],.ob 1 E,.ob 0 m,.ob 3 F,.ob 2 z],[],[(.c 0 0,.p (.obj 2 0 0)),(.c 0 1,.p (.obj 1 0 0)),(.c 0 2,.p (.obj 3 0 0))]⟩)))))))))) λk a b c v ws g r E I m J F S z T M U R Q h=>by
 obtain⟨G,Ps,PF,ah,an,az,h⟩:=h;subst Ps;subst PF;exact λf1 f2 f3 f4 gv=>allEq<| aM (λe=>aq ‹_› λs5 A p f6 u j f7=>aq ‹_› λs8 B q f9 x l f10=>au (bV h (by simp[e,p,j,q,l])) (eQb (by(simp[e,p,j,q,l,DB.act];done))) (ai rfl (ai (uO1 (by(simp[e,p,j,q,l,DB.act];done))) (ai (uO0 (by(simp[e,p,j,q,l,DB.act];done))) (ai (uO3 (by(simp[e,p,j,q,l,DB.act];done))) (ai (uO2 (by(simp[e,p,j,q,l,DB.act];done))) rfl))))) rfl) λe=>allEq<| aM (λi=>aq ‹_› λTH A p f12 u j f13=>aq ‹_› λaA B q f15 x l f16=>au (bV h (by simp[e,i,p,j,q,l])) (eQb (by(simp[e,i,p,j,q,l,DB.act];done))) (ai rfl (ai (uO1 (by(simp[e,i,p,j,q,l,DB.act];done))) (ai (uO0 (by(simp[e,i,p,j,q,l,DB.act];done))) (ai (uO3 (by(simp[e,i,p,j,q,l,DB.act];done))) (ai (uO2 (by(simp[e,i,p,j,q,l,DB.act];done))) rfl))))) rfl) λi=>allEq<| aM (λn=>aq ‹_› λaC A p f18 u j f19=>aq ‹_› λa0 B q f21 x l f22=>au (bV h (by simp[e,i,n,p,j,q,l])) (eQb (by(simp[e,i,n,p,j,q,l,DB.act];done))) (ai rfl (ai (uO1 (by(simp[e,i,n,p,j,q,l,DB.act];done))) (ai (uO0 (by(simp[e,i,n,p,j,q,l,DB.act];done))) (ai (uO3 (by(simp[e,i,n,p,j,q,l,DB.act];done))) (ai (uO2 (by(simp[e,i,n,p,j,q,l,DB.act];done))) rfl))))) rfl) λn=>allEq<| aM (λo=>aq ‹_› λa1 A p f24 u j f25=>aq ‹_› λa2 B q f27 x l f28=>au (bV h (by simp[e,i,n,o,p,j,q,l])) (eQb (by(simp[e,i,n,o,p,j,q,l,DB.act];done))) (ai rfl (ai (uO1 (by(simp[e,i,n,o,p,j,q,l,DB.act];done))) (ai (uO0 (by(simp[e,i,n,o,p,j,q,l,DB.act];done))) (ai (uO3 (by(simp[e,i,n,o,p,j,q,l,DB.act];done))) (ai (uO2 (by(simp[e,i,n,o,p,j,q,l,DB.act];done))) rfl))))) rfl) λo=>allEq<| aM (λt=>aq ‹_› λa3 A p f30 u j f31=>aq ‹_› λa4 B q f33 x l f34=>au (bV h (by simp[e,i,n,o,t,p,j,q,l])) (eQb (by(simp[e,i,n,o,t,p,j,q,l,DB.act];done))) (ai rfl (ai (uO1 (by(simp[e,i,n,o,t,p,j,q,l,DB.act];done))) (ai (uO0 (by(simp[e,i,n,o,t,p,j,q,l,DB.act];done))) (ai (uO3 (by(simp[e,i,n,o,t,p,j,q,l,DB.act];done))) (ai (uO2 (by(simp[e,i,n,o,t,p,j,q,l,DB.act];done))) rfl))))) rfl) λt=>allEq<| aM (λy=>aq ‹_› λa5 A p f36 u j f37=>aq ‹_› λa6 B q f39 x l f40=>au (bV h (by simp[e,i,n,o,t,y,p,j,q,l])) (eQb (by(simp[e,i,n,o,t,y,p,j,q,l,DB.act];done))) (ai rfl (ai (uO1 (by(simp[e,i,n,o,t,y,p,j,q,l,DB.act];done))) (ai (uO0 (by(simp[e,i,n,o,t,y,p,j,q,l,DB.act];done))) (ai (uO3 (by(simp[e,i,n,o,t,y,p,j,q,l,DB.act];done))) (ai (uO2 (by(simp[e,i,n,o,t,y,p,j,q,l,DB.act];done))) rfl))))) rfl) λy=>allEq<| aM (λC=>aq ‹_› λa7 u j f42 x l f43=>au (bV h (by simp[e,i,n,o,t,y,C,j,l])) (eQb (by(simp[e,i,n,o,t,y,C,j,l,DB.act];done))) (ai rfl (ai (uO1 (by(simp[e,i,n,o,t,y,C,j,l,DB.act,DB.l5,DB.eT,DB.kd,Pd.dS,Pd.dm _ _ G];done))) (ai (uO0 (by(simp[e,i,n,o,t,y,C,j,l,DB.act,DB.l5,DB.eT,DB.kd,Pd.dS,Pd.dm _ _ G];done))) (ai (uO3 (by(simp[e,i,n,o,t,y,C,j,l,DB.act,DB.l5,DB.eT,DB.kd,Pd.dS,Pd.dm _ _ G];done))) (ai (uO2 (by(simp[e,i,n,o,t,y,C,j,l,DB.act,DB.l5,DB.eT,DB.kd,Pd.dS,Pd.dm _ _ G];done))) rfl))))) rfl) λC=>allEq<| aM (λc8=>aq (by grind) λa8=>aq ‹_› λa9=>aq ‹_› λba u j f47 x l f48=>au (bV h (by simp[e,i,n,o,t,y,C,c8,j,l])) (eQb (by(simp[e,i,n,o,t,y,C,c8,j,l,DB.act];done))) (ai rfl (ai (uO1 (by(simp[e,i,n,o,t,y,C,c8,j,l,DB.act,DB.l5,DB.eT,DB.kd,Pd.dS,Pd.dm _ _ G];done))) (ai (uO0 (by(simp[e,i,n,o,t,y,C,c8,j,l,DB.act];done))) (ai (uO3 (by(simp[e,i,n,o,t,y,C,c8,j,l,DB.act,DB.l5,DB.eT,DB.kd,Pd.dS,Pd.dm _ _ G];done))) (ai (uO2 (by(simp[e,i,n,o,t,y,C,c8,j,l,DB.act];done))) rfl))))) rfl) λc8=>allEq<| aM (λD=>aq ‹_› λbb=>aq (by grind) λbc=>aq (by grind) λbd=>aq ‹_› λbf=>aq ‹_› λbg=>aD (λL N O A p f54 B q f55=>au ((gY h (by simp[e,i,n,o,t,y,C,c8,D,L,p,q])) N O) rfl (ai rfl (ai rfl (ai rfl (ai (uO3 (by(simp[e,i,n,o,t,y,C,c8,D,L,p,q,DB.act];done))) (ai (uO2 (by(simp[e,i,n,o,t,y,C,c8,D,L,p,q,DB.act];done))) rfl))))) (ai (rO1 (by(simp[e,i,n,o,t,y,C,c8,D,L,p,q,DB.act];done))) (ai (rO3 (by(simp[e,i,n,o,t,y,C,c8,D,L,p,q,DB.act];done))) rfl))) λL=>au (bV h (by simp[e,i,n,o,t,y,C,c8,D,L])) (eQb (by(simp[e,i,n,o,t,y,C,c8,D,L,DB.act];done))) (ai rfl (ai (uO1 (by(simp[e,i,n,o,t,y,C,c8,D,L,DB.act,DB.uG,Pd.dS,Pd.dm _ _ G];done))) (ai (uO0 (by(simp[e,i,n,o,t,y,C,c8,D,L,DB.act,DB.uG,Pd.dS,Pd.dm _ _ G];done))) (ai (uO3 (by(simp[e,i,n,o,t,y,C,c8,D,L,DB.act,DB.uG,Pd.dS,Pd.dm _ _ G];done))) (ai (uO2 (by(simp[e,i,n,o,t,y,C,c8,D,L,DB.act,DB.uG,Pd.dS,Pd.dm _ _ G];done))) rfl))))) rfl) λD=>au (bV h (by simp[e,i,n,o,t,y,C,c8,D])) (eQb (by(simp[e,i,n,o,t,y,C,c8,D,DB.act];done))) (ai rfl (ai (uO1 (by(simp[e,i,n,o,t,y,C,c8,D,DB.act,DB.l5,DB.eT,DB.kd,Pd.dS,Pd.dm _ _ G];done))) (ai (uO0 (by(simp[e,i,n,o,t,y,C,c8,D,DB.act,DB.l5,DB.eT,DB.kd,Pd.dS,Pd.dm _ _ G];done))) (ai (uO3 (by(simp[e,i,n,o,t,y,C,c8,D,DB.act,DB.l5,DB.eT,DB.kd,Pd.dS,Pd.dm _ _ G];done))) (ai (uO2 (by(simp[e,i,n,o,t,y,C,c8,D,DB.act,DB.l5,DB.eT,DB.kd,Pd.dS,Pd.dm _ _ G];done))) rfl))))) rfl
def IM:Ctr Un:=⟨[.one (.obj 0 0),.agg [.int .i64,.int .i64,.int .i64,.int .i64,.int .u32,.any]],[(1,5),(2,6)],[.ob 14 [],.ob 5 [],.ob 6 []],[0],λk a b c v ws r s i e j h K=>s.R=s.D/\h=e/\(0<=(v:Int)/\(v:Int)<4294967296)/\∀(s1:LSt),((s1.R=s1.D/\s1.D=s.D.act e k a b c v))->K ⟨vB true,none,[.ob 14 s1],[],[]⟩⟩
theorem IL:LV Un prog 6 IM:=by
 show ∀(k a b c v:Int)(ws:Value)(r:Nat->Nat)(s:LSt)(B:Nat->Nat)(l:List Int)(C:Nat->Nat)(z:List Int),∀Q:Ou Un->Prop,(s.R=s.D/\z=l/\(0<=(v:Int)/\(v:Int)<4294967296)/\∀(s1:LSt),((s1.R=s1.D/\s1.D=s.D.act l k a b c v))->Q ⟨vB true,none,[.ob 14 s1],[],[]⟩)->∀(X:bP)(w:World),Sat (U:=Un) [(.ob 14 r s),(.ob 5 B l),(.ob 6 C z)] X w->aK (U:=Un) [(.ob 14 r s),(.ob 5 B l),(.ob 6 C z)] fr0 []->Calls prog 6 #[(.pointer (pvA (r 0))),(.agg #[J k,J a,J b,J c,O v,ws])] w (bu (U:=Un) [(.ob 14 r s),(.ob 5 B l),(.ob 6 C z)] [0] X w Q);intro k a b c v ws r s B l C z Q G X w hs hl;obtain⟨F,T,V,G⟩:=G;have OZ:LSt.Ok s:=zk (t:=14) (r:=r) (s:=s) (hs.res 0 _ rfl);have hS:1<=s.D.mem.S:=by have:=OZ.pos;rw[F]at this;exact this
 obtain⟨r1,n,D,A,Y,hY,⟨M,l2⟩,N⟩:=Jb hs;have S7:aK (aux (r 0) r1 s.D.pd n s.D.mem D s.R.pd A s.R.mem++ [.ob 5 B l,.ob 6 C z]) fr0 [(.l 1 1,.p (.obj 2 0 0)),(.l 3 1,.p (.obj 4 0 0))]:=λkey k hm=>by
  simp only[List.mem_cons,Prod.mk.injEq,List.not_mem_nil,or_false]at hm;rcases hm with⟨rfl,rfl⟩|⟨rfl,rfl⟩
  ·exact⟨_,_,_,rfl,show some (Value.pointer (some ⟨n 0,0,none⟩))=some (.pointer (some ⟨r1 1,0,none⟩))by rw[M]⟩
  ·exact⟨_,_,_,rfl,show some (Value.pointer (some ⟨A 0,0,none⟩))=some (.pointer (some ⟨D 1,0,none⟩))by rw[l2]⟩
 have h0:=GD k a b c v ws (r 0) r1 s.D.pd n s.D.mem D s.R.pd A s.R.mem B l C z (λo=>((k=9/\DB.bK s.D.mem (s.D.ldw a v)=0)/\∃(x y:Nat->Nat),o=⟨vB true,none,[.blk [(.pointer (pvA (n 0))),(.pointer (pvA (x 0))),(.pointer (pvA (y 0)))],.ob 1 s.D.pd,.ob 0 s.D.mem,.ob 3 s.R.pd,.ob 2 s.R.mem],[(.ob 1 x ((DB.load s.D.mem (DB.ldw (s.D.pd.on s.D.mem) a v)).pd)),(.ob 3 y ((DB.load s.D.mem (DB.ldw (s.D.pd.on s.D.mem) a v)).pd))],[(.c 0 2,.p (.obj 8 0 0)),(.c 0 1,.p (.obj 7 0 0)),(.l 8 1,.p (.obj 4 0 0)),(.l 7 1,.p (.obj 2 0 0)),(.c 0 0,.p (.obj 2 0 0))]⟩)\/(¬(k=9/\DB.bK s.D.mem (s.D.ldw a v)=0)/\o=⟨vB true,none,[.blk [(.pointer (pvA (n 0))),(.pointer (pvA (r1 0))),(.pointer (pvA (D 0)))],.ob 1 (((s.D.pd.on s.D.mem).act l k a b c v).pd),.ob 0 (((s.D.pd.on s.D.mem).act l k a b c v).mem),.ob 3 (((s.D.pd.on s.D.mem).act l k a b c v).pd),.ob 2 (((s.D.pd.on s.D.mem).act l k a b c v).mem)],[],[(.c 0 0,.p (.obj 2 0 0)),(.c 0 1,.p (.obj 1 0 0)),(.c 0 2,.p (.obj 3 0 0))]⟩)) ⟨rfl,by rw[F],by rw[F],T,V,hS,aj (λh x y=>.inl ⟨by have q:(decide (k=9) && decide (DB.bK s.D.mem (s.D.ldw a v)=0))=true:=h;simpa using q,x,y,rfl⟩) (λh=>.inr ⟨by have q:(decide (k=9) && decide (DB.bK s.D.mem (s.D.ldw a v)=0))=false:=h;simpa using q,rfl⟩)⟩ Y w hY S7;refine h0.mono ?_;rintro e w' ⟨out,rs',X',rfl,⟨he,x,y,rfl⟩|⟨he,rfl⟩,R,p⟩
 ·obtain rfl: [Res.blk (U:=Un) (r 0) [.pointer (pvA (n 0)),.pointer (pvA (x 0)),.pointer (pvA (y 0))] 60,.ob 1 r1 s.D.pd,.ob 0 n s.D.mem,.ob 3 D s.R.pd,.ob 2 A s.R.mem,.ob 5 B l,.ob 6 C z]=rs':=Option.some.inj R;have k1:x 1=n 0:=by
   obtain⟨t,r,I,E,q⟩:=p.kc (.l 7 1) (.p (.obj 2 0 0)) (by simp) (by simp);have E:some (Res.ob (U:=Un) 1 x (DB.load s.D.mem (s.D.ldw a v)).pd)=some (.ob t r I):=E;cases E;have q:some (Value.pointer (some ⟨n 0,0,none⟩))=some (.pointer (some ⟨x 1,0,none⟩)):=q;simpa using q.symm
  have k2:y 1=A 0:=by
   obtain⟨t,r,I,E,q⟩:=p.kc (.l 8 1) (.p (.obj 4 0 0)) (by simp) (by simp);have E:some (Res.ob (U:=Un) 3 y (DB.load s.D.mem (s.D.ldw a v)).pd)=some (.ob t r I):=E;cases E;have q:some (Value.pointer (some ⟨A 0,0,none⟩))=some (.pointer (some ⟨y 1,0,none⟩)):=q;simpa using q.symm
  have L:Sat (aux (r 0) x (DB.load s.D.mem (s.D.ldw a v)).pd n s.D.mem y (DB.load s.D.mem (s.D.ldw a v)).pd A s.R.mem) (λi=>X' (if i=1 then 7 else if i=3 then 8 else i)) w':=Sat.sel p.sat _ (λi hi=>by
   have hi:i<5:=hi
   match i,hi with
   |0,_|1,_|2,_|3,_|4,_=>rfl) (λi j hi u S=>by
   have hi:i<5:=hi;have u:j<5:=u
   (repeat' split)<;>omega)
  refine N L k1 k2 rfl (by rw[F];rfl) (p.ch.mono λk ⟨j,u,h⟩=>⟨j,by have u:j∈ [0,1,2,3,4]:=u;simp at u;omega,h⟩) (λi hi k m=>?_) (G _ ⟨by show(DB.load s.D.mem (s.D.ldw a v)).pd.on s.R.mem=(DB.load s.D.mem (s.D.ldw a v)).pd.on s.D.mem;rw[F],by rw[he.1];show _=s.D.uG a v;rw[DB.uG,if_pos he.2];rfl⟩) trivial
  match i,hi,m with
  |0,_,m=>exact(p.grow 0 (show 0∈ [0,1,2,3,4]by simp) k m).imp (λh=>⟨0,by omega,h⟩) id
  |1,_,m=>exact .inr (p.new 7 (show 7<=7 by decide) (show 7<9 by decide) k m)
  |2,_,m=>exact(p.grow 2 (show 2∈ [0,1,2,3,4]by simp) k m).imp (λh=>⟨2,by omega,h⟩) id
  |3,_,m=>exact .inr (p.new 8 (show 7<=8 by decide) (show 8<9 by decide) k m)
  |4,_,m=>exact(p.grow 4 (show 4∈ [0,1,2,3,4]by simp) k m).imp (λh=>⟨4,by omega,h⟩) id
 ·obtain rfl:aux (r 0) r1 (s.D.act l k a b c v).pd n (s.D.act l k a b c v).mem D (s.D.act l k a b c v).pd A (s.D.act l k a b c v).mem++ [Res.ob (U:=Un) 5 B l,Res.ob (U:=Un) 6 C z]=rs':=Option.some.inj R;have L:Sat (aux (r 0) r1 (s.D.act l k a b c v).pd n (s.D.act l k a b c v).mem D (s.D.act l k a b c v).pd A (s.D.act l k a b c v).mem) X' w':=Sat.sel p.sat (λi=>i) (λi hi=>by
   have hi:i<5:=hi
   match i,hi with
   |0,_|1,_|2,_|3,_|4,_=>rfl) (λi j hi u S=>S)
  refine N L M l2 rfl rfl (p.ch.mono λk ⟨j,u,h⟩=>⟨j,by have u:j∈ [0,1,2,3,4]:=u;simp at u;omega,h⟩) (λi hi k m=>?_) (G _ ⟨rfl,rfl⟩) trivial;exact(p.grow i (show i∈ [0,1,2,3,4]by simp;omega) k m).imp (λh=>⟨i,hi,h⟩) id
end
section
attribute [local irreducible] Vc2 VcD
theorem Ey {l:List U32}{i:Nat}(h:i<l.length):l.getD i (uM 0)∈l:=by
 rw[List.getD_eq_getElem?_getD,List.getElem?_eq_getElem h];exact List.getElem_mem h
def Mem.nJ(m:Mem)(s:Bool)(p o:Int)(l:List U32):Nat->Mem
 |0=>m
 |k+1=>if 0<=o/\o<1024 then(m.nJ s p o l k).write s p (i64.wrap (o+(k:Int))) (l.getD k (uM 0)).v else m.nJ s p o l k
theorem Mem.HE(m:Mem)(s:Bool)(p o:Int)(l:List U32):∀k,(m.nJ s p o l k).S=m.S
 |0=>rfl
 |k+1=>by unfold Mem.nJ;split<;>simp[Mem.gP,Mem.HE m s p o l k]
theorem Mem.xz {m:Mem}{s:Bool}{p o i:Int}{l:List U32}(h:0<=i/\i<1024):m.nJ s p o l (i64.wrap (i+1)).toNat=if 0<=o/\o<1024 then(m.nJ s p o l i.toNat).write s p (i64.wrap (o+i)) (l.getD i.toNat (uM 0)).v else m.nJ s p o l i.toNat:=by
 rw[av (by omega),show(i+1).toNat=i.toNat+1 by omega,Mem.nJ,show((i.toNat:Nat):Int)=i by omega]
def Cq:Ctr Un:=⟨[.one (.ptr 0),.agg [.int .i64,.int .u32,.int .u32,.int .u32,.int .u32,.int .u32,.int .u32,.int .u32,.int .u32,.int .u32,.int .u32,.int .u32,.int .u32,.int .u32,.int .u32,.int .u32,.int .u32,.int .u32,.bool,.bool,.bool,.bool,.int .i64,.int .i64,.sl 5]],[],[.blk [.obj 2 0,.obj 1 0,.obj 3 0] 60,.ob 1 [(1,2,0)],.ob 0 [],.ob 3 [(1,4,0)],.ob 2 [],.lst 1 false 23],[2,4],λth b e h i j n o p q t u y z B C D pc G fn I ls lp lo g r E J m L F M a A c l K=>m=a/\(∀x∈l,0<=x.v/\x.v<4294967296)/\K ⟨(.tuple #[]),(some (.t [])),[.ob 0 (m.nJ ls lp lo l (min l.length 1024)),.ob 2 (m.nJ ls lp lo l (min l.length 1024))],[],[]⟩⟩
def IJ(th t u x y z B C D G L M N O R S T pc:Int)(U fn V ls:Bool)(lp lo:Int)(g:Nat)(r:Nat->Nat)(E:Pd)(Y:Nat->Nat)(m:Mem)(r2:Nat->Nat)(F:Pd)(OU:Nat->Nat)(o:Mem)(A:oA)(c:Nat)(l:List U32)(Q:Ou Un->Prop):Prop:=Pd.Ok E->Mem.Wf m->Pd.Ok F->Mem.Wf o->∀(gv:Nat),∀i:Int,i=0->∃I:Nat->Int->Mem->Mem->Prop,(∃a,I a i m o)/\∀(a:Nat)(OX:Nat->Value)(i1:Int)(s2 b:Mem),I a i1 s2 b->Mem.Wf s2->Mem.Wf b->∃J:Bool->Prop,(split (decide (i1<(l.length:Int))) (J (decide (i1<1024))) (J false))/\∀(Pe:Nat->Value)(p:Bool),J p->split p (∃h:Bool->Prop,(split (decide (lo>=0)) (h (decide (lo<1024))) (h false))/\∀(QI:Nat->Value)(q:Bool),h q->split q ((0<=i1/\i1<(l.length:Int))/\(0<=(vG l i1.toNat)/\(vG l i1.toNat)<4294967296)/\∀(j:Mem),j=(s2.write ls lp (i64.wrap (lo+i1)) (vG l i1.toNat))->Mem.Wf j->(0<=i1/\i1<(l.length:Int))/\(0<=(vG l i1.toNat)/\(vG l i1.toNat)<4294967296)/\∀(n:Mem),n=(b.write ls lp (i64.wrap (lo+i1)) (vG l i1.toNat))->Mem.Wf n->∀i2:Int,i2=(i64.wrap (i1+1))->∃e,e<a/\I e i2 j n) (∀i2:Int,i2=(i64.wrap (i1+1))->∃e,e<a/\I e i2 s2 b)) (Q ⟨(.tuple #[]),(some (.t [])),[.ob 0 s2,.ob 2 b],[],[]⟩)
theorem IK:Vc2 Un prog (GR [(35,mR),(36,fE)]) [4] Tryz.f7 (.r' (.r' (.two (.node [] (some ⟨[(4,(.one (.int .i64)))],[],upN 4 60,[(2,(.ob 0)),(4,(.ob 2))]⟩) [] [] (.two (.two (.node [] (some ⟨[(13,(.one .bool))],[],upN 5 9,[]⟩) [] [] .leaf .leaf) .leaf) (.two (.two (.two (.node [] (some ⟨[(23,(.one .bool))],[],upN 16 8,[]⟩) [] [] .leaf .leaf) (.two (.two (.node [] none [] [(3,[0]),(5,[6]),(7,[6]),(11,[6]),(14,[5])] .leaf .leaf) (.node [] none [] [(3,[0]),(6,[3]),(9,[6]),(12,[6]),(15,[6]),(19,[6]),(22,[5])] .leaf .leaf)) .leaf)) .leaf) .leaf)) .leaf) .leaf))) [] Cq=(∀th b e h i j n o p q t u y z B C D pc G fn I ls lp lo g r (E:Pd) J (m:Mem) L (F:Pd) M (a:Mem) A c (l:List U32),∀Q,(m=a/\(∀x∈l,0<=x.v/\x.v<4294967296)/\Q ⟨(.tuple #[]),(some (.t [])),[.ob 0 (m.nJ ls lp lo l (min l.length 1024)),.ob 2 (m.nJ ls lp lo l (min l.length 1024))],[],[]⟩)->IJ th b e h i j n o p q t u y z B C D pc G fn I ls lp lo g r E J m L F M a A c l Q):=by kernel_rfl
theorem II:LV Un prog 7 Cq:=verify Tryz.func7 ak (tb:= [(35,mR),(36,fE)]) ⟨vM,gW,trivial⟩ (by kernel_rfl) (IK.mpr λth B C D G I J L M N O R S T U V Y pc fz fn fl ls lp lo g r E rm m r2 F OU m2 A c l Q h=>by
 obtain⟨p,b,h⟩:=h;subst p;exact λf1 f2 f3 f4 gv=>allEq<| ⟨λi i1 s2 j=>(i=(1024 - i1).toNat)/\(0<=i1/\i1<=1024/\i1<=(l.length:Int))/\(s2=m.nJ ls lp lo l i1.toNat)/\(j=s2),⟨_,rfl,(by omega),(by rfl),(by rfl)⟩,λi _ i1 s2 j ⟨hm,hi,n,o⟩=>λf5 f6=>cx ((decide ((i1:Int)<((l.length:Nat):Int))) && (decide ((i1:Int)<1024))) (aj (λq=>(by grind)) λq=>(by grind))<| cZ (λt=>cx ((decide ((lo:Int)>=0)) && (decide ((lo:Int)<1024))) (aj (λu=>(by grind)) λu=>(by grind))<| cZ (λy=>aq (by grind) λs7=>aq (b _ (Ey (by grind))) λs8 m4 R1 f9=>aq (by grind) λTr=>aq (b _ (Ey (by grind))) λTH m5 aa f12=>allEq<| ⟨_,(by(have z:i1<1024:=by grind);(have a:=av (x:=i1+1) (by omega));omega),rfl,(by(have a:=av (x:=i1+1) (by omega));grind),(by rw[Mem.xz ⟨hi.1,by grind⟩];grind),(by grind)⟩) λy=>allEq<| ⟨_,(by(have z:i1<1024:=by grind);(have a:=av (x:=i1+1) (by omega));omega),rfl,(by(have a:=av (x:=i1+1) (by omega));grind),(by rw[Mem.xz ⟨hi.1,by grind⟩];grind),(by exact o)⟩) λt=>(by(have e:i1.toNat=min l.length 1024:=by grind);exact au h rfl (ai (uO0 (by(rw[<-e];exact n.symm))) (ai (uO2 (by(rw[o,<-e];exact n.symm))) rfl)) rfl)⟩)
def yg:Ctr Un:=⟨[.one (.ptr 0)],[],[.blk [.obj 2 0,.obj 1 0,.obj 3 0] 60,.ob 1 [(1,2,0)],.ob 0 [],.ob 3 [(1,4,0)],.ob 2 []],[],λg r E b m e F h a K=>E=F/\m=a/\E.n=m.S/\K ⟨vB true,none,[],[],[]⟩⟩
theorem GC:LV Un prog 9 yg:=bQ Tryz.func9 ak [(43,vQ),(44,oO),(45,sB),(46,yf),(47,E5),(48,ia)] ⟨Cu,vu,Cn,Gz,Ki,iK,trivial⟩ [5,6,8,9] (.r' (.r' (.r' (.r' (.two (.r' (.two (.node [] (some ⟨[(5,(.one (.int .i64)))],[],[2,5]++upN 25 15,[]⟩) [] [] .leaf .leaf) .leaf)) (.two (.r' (.two (.node [] (some ⟨[(6,(.one (.int .i64)))],[],[2,6,7,8,9]++upN 40 49,[]⟩) [] [] (.r' (.two (.two (.r' (.two (.r' (.node [] (some ⟨[(7,(.one (.int .i64)))],[],[7]++upN 51 5,[]⟩) [] [] .leaf .leaf)) (.r' (.two (.node [] (some ⟨[(8,(.one (.int .i64)))],[],[2,8,9]++upN 56 33,[]⟩) [] [] (.r' (.two (.two (.r' (.two (.node [] (some ⟨[(9,(.one (.int .i64)))],[],[2,9]++upN 61 28,[]⟩) [] [] (.r' (.two (.two (.two (.node [] none [] [(3,[0]),(13,[0]),(16,[3])] .leaf .leaf) .leaf) .leaf) .leaf)) .leaf) .leaf)) .leaf) .leaf)) .leaf) .leaf)))) .leaf) .leaf)) .leaf) .leaf)) .leaf)))))) [] (F:=∀g r (E:Pd) M (m:Mem) N (F:Pd) O (j:Mem) Q,yg.body g r E M m N F O j Q->Pd.Ok E->Mem.Wf m->Pd.Ok F->Mem.Wf j->E.n=m.S/\∀(A:oA)(c:Nat),∀(l:List U32),l=(E.on m).words.map uM->F.n=j.S/\∀(A1:oA)(B:Nat),∀(C:List U32),C=(F.on j).words.map uM->split (((((E.on m).words.map uM).length):Int) !=((((F.on j).words.map uM).length):Int)) (Q ⟨vB false,none,[],[],[]⟩) (∀i:Int,i=0->∃I:Nat->Int->Prop,(∃q,I q i)/\∀(q:Nat)(PZ:Nat->Value)(i1:Int),I q i1->split (decide (i1<((((E.on m).words.map uM).length):Int))) ((0<=i1/\i1<(l.length:Int))/\(0<=i1/\i1<(C.length:Int))/\split ((l.getD i1.toNat (uM 0)).v !=(vG C i1.toNat)) (Q ⟨vB false,none,[],[],[]⟩) (∀i2:Int,i2=(i64.wrap (i1+1))->∃R,R<q/\I R i2)) (∀k:Int,k=0->∃D:Nat->Int->Prop,(∃t,D t k)/\∀(t:Nat)(OX:Nat->Value)(a:Int),D t a->split (decide (a<2)) (∃J:Int->Prop,(split (a==0) (J m.S) (J m.I))/\∀(Pe:Nat->Value) n,J n->∀p:Int,p=0->∃G:Nat->Int->Prop,(∃u,G u p)/\∀(u:Nat)(QI:Nat->Value)(e:Int),G u e->split (decide (e<n)) (∀o:Int,o=0->∃L:Nat->Int->Prop,(∃y,L y o)/\∀(y:Nat)(Ql:Nat->Value)(b:Int),L y b->split (decide (b<1024)) (split ((m.aI (a==0) e b) !=(j.aI (a==0) e b)) (Q ⟨vB false,none,[],[],[]⟩) (∀S:Int,S=(i64.wrap (b+1))->∃T,T<y/\L T S)) (∀U:Int,U=(i64.wrap (e+1))->∃V,V<u/\G V U)) (∀Y:Int,Y=(i64.wrap (a+1))->∃m5,m5<t/\D m5 Y)) (Q ⟨vB true,none,[],[],[]⟩)))) λg r E M m N F O j Q h=>by
 obtain⟨Oo,Ps,PF,h⟩:=h;subst Oo;subst Ps;exact λf1 f2 f3 f4=>(by(have hS:(E.on m).S<=64:=by rw[Pd.uv _ _ PF];exact f1.most);(have UC:((E.on m).words.map uM).length=1+2*(E.on m).S:=by rw[List.length_map,DB.gX]);have aa:=f2.2.1;have ab:=f2.2.2;exact aq ‹_› λs5 A c l SA=>aq ‹_› λs6 A1 B C PD=>aH (λB=>(by exfalso;exact B rfl)) λB=>allEq<| ⟨λq i1=>(q=((((E.on m).words.map uM).length:Int) - i1).toNat)/\(0<=i1),⟨_,rfl,(by omega)⟩,λq _ i1 ⟨hm,ae⟩=>aD (λc2=>aq (by(rw[SA];omega)) λs7=>aq (by(rw[PD];omega)) λs8=>aH (λc3=>(by exfalso;exact c3 (by rw[SA,PD]))) λc3=>allEq<| ⟨_,(by(have z:=av (x:=i1+1) (by omega));omega),rfl,(by(have z:=av (x:=i1+1) (by omega));omega)⟩) λc2=>allEq<| ⟨λt a=>(t=(2 - a).toNat)/\(0<=a/\a<=2),⟨_,rfl,(by omega)⟩,λt _ a ⟨hm,QG⟩=>aD (λc4=>⟨λn=>(0<=n/\n<=64),aM (λc5=>(by omega)) λc5=>(by omega),λ_ n hn=>allEq<| ⟨λu e=>(u=(n - e).toNat)/\(0<=e),⟨_,rfl,(by omega)⟩,λu _ e ⟨hm,Ps⟩=>aD (λc6=>allEq<| ⟨λy b=>(y=(1024 - b).toNat)/\(0<=b/\b<=1024),⟨_,rfl,(by omega)⟩,λy _ b ⟨hm,af⟩=>aD (λc7=>aH (λc8=>(by exfalso;exact c8 rfl)) λc8=>allEq<| ⟨_,(by(have z:=av (x:=b+1) (by omega));omega),rfl,(by(have z:=av (x:=b+1) (by omega));omega)⟩) λc7=>allEq<| ⟨_,(by(have z:=av (x:=e+1) (by omega));omega),rfl,(by(have z:=av (x:=e+1) (by omega));omega)⟩⟩) λc6=>allEq<| ⟨_,(by(have z:=av (x:=a+1) (by omega));omega),rfl,(by(have z:=av (x:=a+1) (by omega));omega)⟩⟩⟩) λc4=>rS h (by grind)⟩⟩)
end
open Enc (enc)
section
theorem Sat.four {U:Uni}{a b c d:Res U}{Y:Nat->Nat->Prop}{Z2 Z3:Nat->Prop}{w:World}(h:Sat [a,b] Y w)(u:RS Z2 w c)(hd:RS Z3 w d)(d2:∀k,(Y 0 k\/Y 1 k)->¬Z2 k)(d3:∀k,(Y 0 k\/Y 1 k)->¬Z3 k)(d23:∀k,Z2 k->¬Z3 k):
 Sat [a,b,c,d] (λi=>if i=2 then Z2 else if i=3 then Z3 else Y i) w:=by
 have t:=h.dis 0 1 (by show 0<2;omega) (by show 1<2;omega) (by omega);refine⟨λi r m=>?_,λi j hi o z k x y=>?_⟩
 ·match i,m with
  |0,m=>exact h.res 0 r m
  |1,m=>exact h.res 1 r m
  |2,m=>simp only[nth,Option.some.injEq]at m;subst m;exact u
  |3,m=>simp only[nth,Option.some.injEq]at m;subst m;exact hd
  |i+4,m=>simp[nth]at m
 ·have hi:i<4:=hi;have o:j<4:=o;have cs:∀i,i<4->∀k,(λi=>if i=2 then Z2 else if i=3 then Z3 else Y i) i k->(i=0/\Y 0 k)\/(i=1/\Y 1 k)\/(i=2/\Z2 k)\/(i=3/\Z3 k):=λi hi k n=>by
   match i,hi,n with
   |0,_,n=>exact .inl ⟨rfl,n⟩
   |1,_,n=>exact .inr (.inl ⟨rfl,n⟩)
   |2,_,n=>exact .inr (.inr (.inl ⟨rfl,n⟩))
   |3,_,n=>exact .inr (.inr (.inr ⟨rfl,n⟩))
  rcases cs i hi k x with⟨p,e⟩|⟨p,e⟩|⟨p,e⟩|⟨p,e⟩<;>rcases cs j o k y with⟨q,l⟩|⟨q,l⟩|⟨q,l⟩|⟨q,l⟩<;>first
   |omega
   |exact t k e l
   |exact t k l e
   |exact d2 k (.inl e) l
   |exact d2 k (.inr e) l
   |exact d2 k (.inl l) e
   |exact d2 k (.inr l) e
   |exact d3 k (.inl e) l
   |exact d3 k (.inr e) l
   |exact d3 k (.inl l) e
   |exact d3 k (.inr l) e
   |exact d23 k e l
   |exact d23 k l e
section
variable {P:Program}{f:Nat}{args:Array Value}{w:World}{g:Nat}{s:LSt}{X Z2 Z3:Nat->Prop}{c d:Res Un}{v:Value}{k:Option Kn}
theorem M4(b:DB)(h:fM w g s X)(x:RS Z2 w c)(hd:RS Z3 w d)(d2:∀k,X k->¬Z2 k)(d3:∀k,X k->¬Z3 k)(d23:∀k,Z2 k->¬Z3 k)
 (y:∀(r1 l:Nat->Nat)(Y:bP),Sat [.ob 1 r1 s.D.pd,.ob 0 l s.D.mem,c,d] Y w->aK [.ob 1 r1 s.D.pd,.ob 0 l s.D.mem,c,d] fr0 [(.l 0 1,.p (.obj 1 0 0))]->s.pD=r1 0->Calls P f args w (bu [.ob 1 r1 s.D.pd,.ob 0 l s.D.mem,c,d] [0,1] Y w (λo=>o=⟨v,k,[.ob 1 b.pd,.ob 0 b.mem],[],[]⟩))):
 Calls P f args w λe w'=>e=jl k v/\∃Z,fM w' g {s with D:=b} Z/\(∀k,Z k->X k\/w.heap.size<=k)/\Ch X w w':=by
 have hs:Sat (U:=Un) [.ob 14 (λ_=>g) s] (λ_=>X) w:=Sat.one (show cz 14 (λ_=>g) s X w from h);obtain⟨r1,l,n,z,A,B,Q,u,C⟩:=HD hs;have sub:∀k,n 0 k\/n 1 k->X k:=λk a=>a.elim (u 0 (by omega) k) (u 1 (by omega) k);have E:=Sat.four z x hd (λk a=>d2 k (sub k a)) (λk a=>d3 k (sub k a)) d23;refine(y r1 l _ E (λkey kn hm=>?_) B).mono ?_
 ·rcases List.mem_singleton.1 hm with e
  injection e with F G
  subst F G;obtain⟨t,r,I,J,L⟩:=A (.l 0 1) (.p (.obj 1 0 0)) (List.mem_singleton.2 rfl);exact⟨t,r,I,J,L⟩
 rintro e w' ⟨out,rs',X',he,rfl,M,m⟩;obtain rfl: [Res.ob (U:=Un) 1 r1 b.pd,.ob 0 l b.mem,c,d]=rs':=Option.some.inj M;have q:Ch (λk=>n 0 k\/n 1 k) w w':=m.ch.mono λk a=>by
  obtain⟨j,p,h⟩:=a;rcases List.mem_cons.1 p with rfl|p
  ·exact .inl h
  ·rcases List.mem_singleton.1 p with rfl;exact .inr h
 obtain⟨Z,N,O⟩:=C w' b X' (Sat.two (m.sat.res 0 _ rfl) (m.sat.res 1 _ rfl) (m.sat.dis 0 1 (by show 0<4;omega) (by show 1<4;omega) (by omega))) q (λi hi k a=>by
  match i,hi,a with
  |0,_,a=>exact m.grow 0 (List.mem_cons_self ..) k a
  |1,_,a=>exact m.grow 1 (List.mem_cons_of_mem _ (List.mem_singleton.2 rfl)) k a)
 exact⟨he,Z,N,O,q.mono sub⟩
theorem xI(u:DB)(h:fM w g s X)(C:RS Z2 w c)(d2:∀k,X k->¬Z2 k)
 (D:∀(r1 n:Nat->Nat)(Y:bP),Sat [.ob 3 r1 s.R.pd,.ob 2 n s.R.mem,c] Y w->aK [.ob 3 r1 s.R.pd,.ob 2 n s.R.mem,c] fr0 [(.l 0 1,.p (.obj 1 0 0))]->s.pR=r1 0->Calls P f args w (bu [.ob 3 r1 s.R.pd,.ob 2 n s.R.mem,c] [0,1] Y w (λo=>o=⟨v,k,[.ob 3 u.pd,.ob 2 u.mem],[],[]⟩))):
 Calls P f args w λe w'=>e=jl k v/\∃Z,fM w' g {s with R:=u} Z/\(∀k,Z k->X k\/w.heap.size<=k)/\Ch X w w':=by
 have hs:Sat (U:=Un) [.ob 14 (λ_=>g) s] (λ_=>X) w:=Sat.one (show cz 14 (λ_=>g) s X w from h);obtain⟨r1,n,y,z,E,F,A,G⟩:=HC hs;have sub:∀k,y 0 k\/y 1 k->X k:=λk m=>m.elim (A 0 (by omega) k) (A 1 (by omega) k);have B:=z.dis 0 1 (by show 0<2;omega) (by show 1<2;omega) (by omega);have I:Sat (U:=Un) [.ob 3 r1 s.R.pd,.ob 2 n s.R.mem,c] (λi=>if i=2 then Z2 else y i) w:=by
  refine⟨λi r l=>?_,λi j hi p J k a b=>?_⟩
  ·match i,l with
   |0,l=>exact z.res 0 r l
   |1,l=>exact z.res 1 r l
   |2,l=>simp only[nth,Option.some.injEq]at l;subst l;exact C
   |i+3,l=>simp[nth]at l
  ·have hi:i<3:=hi;have p:j<3:=p
   match i,hi,a,j,p,b with
   |0,_,_,0,_,_|1,_,_,1,_,_|2,_,_,2,_,_=>exact J rfl
   |0,_,a,1,_,b=>exact B k a b
   |1,_,a,0,_,b=>exact B k b a
   |0,_,a,2,_,b=>exact d2 k (sub k (.inl a)) b
   |1,_,a,2,_,b=>exact d2 k (sub k (.inr a)) b
   |2,_,a,0,_,b=>exact d2 k (sub k (.inl b)) a
   |2,_,a,1,_,b=>exact d2 k (sub k (.inr b)) a
 refine(D r1 n _ I (λkey kn hm=>?_) F).mono ?_
 ·rcases List.mem_singleton.1 hm with e
  injection e with L M
  subst L M;obtain⟨t,r,N,a,b⟩:=E (.l 0 1) (.p (.obj 1 0 0)) (List.mem_singleton.2 rfl);exact⟨t,r,N,a,b⟩
 rintro e w' ⟨out,rs',X',he,rfl,O,x⟩;obtain rfl: [Res.ob (U:=Un) 3 r1 u.pd,.ob 2 n u.mem,c]=rs':=Option.some.inj O;have q:Ch (λk=>y 0 k\/y 1 k) w w':=x.ch.mono λk m=>by
  obtain⟨j,p,h⟩:=m;rcases List.mem_cons.1 p with rfl|p
  ·exact .inl h
  ·rcases List.mem_singleton.1 p with rfl;exact .inr h
 obtain⟨Z,Q,S⟩:=G w' u X' (Sat.two (x.sat.res 0 _ rfl) (x.sat.res 1 _ rfl) (x.sat.dis 0 1 (by show 0<3;omega) (by show 1<3;omega) (by omega))) q (λi hi k m=>by
  match i,hi,m with
  |0,_,m=>exact x.grow 0 (List.mem_cons_self ..) k m
  |1,_,m=>exact x.grow 1 (List.mem_cons_of_mem _ (List.mem_singleton.2 rfl)) k m)
 exact⟨he,Z,Q,S,q.mono sub⟩
theorem JI {rest:List (Res Un)}{r:Nat->Nat}{Y:Nat->Nat->Prop}{e:Ending}{w':World}{p:LSt->Prop}(h:bu (.ob 14 r s::rest) [0] Y w (λo=>∃s1,p s1/\o=⟨v,k,[.ob 14 s1],[],[]⟩) e w'):
 e=jl k v/\∃s1 Z,p s1/\fM w' (r 0) s1 Z/\(∀k,Z k->Y 0 k\/w.heap.size<=k)/\Ch (Y 0) w w':=by
 obtain⟨out,rs',X',he,⟨s1,i,rfl⟩,l,a⟩:=h;obtain rfl:Res.ob (U:=Un) 14 r s1::rest=rs':=Option.some.inj l;refine⟨he,s1,X' 0,i,(a.sat.res 0 _ rfl:cz 14 r s1 (X' 0) w'),λk b=>a.grow 0 (List.mem_singleton.2 rfl) k b,a.ch.mono λk b=>?_⟩;obtain⟨j,m,h⟩:=b;rcases List.mem_singleton.1 m with rfl
 exact h
end
end
section
structure Cal where
 th:Int
 n:Int
 f:Fl
 ls:Bool
 lp:Int
 lo:Int
 A:Option Addr
 m:Nat
 c:Nat
def Cal.cells(x:Cal):List Value:=.int .i64 x.th:: .int .u32 x.n::(Fl.cells x.f++ [.bool x.ls,.int .i64 x.lp,.int .i64 x.lo,.slice x.A x.m x.c])
theorem yT(f:Fl){w:World}:Calls prog 41 #[.agg ⟨Fl.cells f⟩] w λe w'=>∃v,e=.returned v/\v=.agg ⟨Fl.cells f⟩/\Pu w w':=by
 refine rv _ _ _ _ _ _ _ _ _ _ _ _ _ _ _ _ _ _ _ ?_;refine mkd λg w1 i=>mkd λl w2 h=>?_;have a:=Pu.blk h.pu i.blk;refine⟨_,_,_,_,_,_,_,_,_,_,_,_,_,_,_,⟨a.at2 rfl,a.at2 rfl,a.at2 rfl,a.at2 rfl,a.at2 rfl,a.at2 rfl,a.at2 rfl,a.at2 rfl,a.at2 rfl,a.at2 rfl,a.at2 rfl,a.at2 rfl,a.at2 rfl,a.at2 rfl,a.at2 rfl⟩,_,a.at rfl,_,a.at rfl,_,a.at rfl,_,a.at rfl,bE h.blk rfl λm j=>?_⟩;have b:=j.blk;exact⟨_,_,_,_,_,_,_,_,_,_,_,_,_,_,_,_,_,_,_,⟨b.at rfl,b.at rfl,b.at rfl,b.at rfl,b.at rfl,b.at rfl,b.at rfl,b.at rfl,b.at rfl,b.at rfl,b.at rfl,b.at rfl,b.at rfl,b.at rfl,b.at rfl,b.at rfl,b.at rfl,b.at rfl,b.at rfl⟩,rfl,(i.pu.trans h.pu).stored j (.inr (by rw[h.num];exact i.pu.size))⟩
theorem NH(f:Fl):bW ⟨Fl.cells f⟩ ⟨Fl.cells f⟩=true:=by
 have h:∀x:Value,x∈Fl.cells f->lT x x=true:=λx b=>by
  rcases List.mem_append.1 b with h|h
  ·obtain⟨a,rfl⟩:=pJ h;simp[lT]
  ·simp only[List.mem_cons,List.not_mem_nil,or_false]at h;rcases h with rfl|rfl|rfl|rfl<;>simp[lT]
 unfold bW;have g:∀l:List Value,(∀x,x∈l->lT x x=true)->eqL l l=true:=λl=>by
  induction l with
  |nil=>intro _;rfl
  |cons a l i=>intro e;rw[eqL,e a (List.mem_cons_self ..),i λx b=>e x (List.mem_cons_of_mem _ b)];rfl
 exact g _ h
theorem draw_eq {s a:Nst}(h:a.hs.length=s.hs.length)(i:∀k,k<s.hs.length->a.l k=s.l k)(b t:Int):a.draw b t=s.draw b t:=by
 unfold Nst.draw;rw[h];by_cases e:b<0\/(s.hs.length:Int)<=b
 ·rw[if_pos (e.imp id .inl),if_pos (e.imp id .inl)]
 ·rw[i _ (by omega)]
theorem GW(d:DB)(a:List Int)(key:S8){s e:Nst}(h:∀b t,e.draw b t=s.draw b t)(t n:Int)(f:Fl):d.svF a key e t n f=d.svF a key s t n f:=by
 unfold DB.svF DB.Ah;rw[h]
theorem Nr(n:Int){w:World}:Calls prog 16 #[.int .i64 n] w λe w'=>∃u,e=.returned u/\u=.int .i64 n/\Pu w w':=puC λX=>mT n (λo=>o=_) rfl X w
theorem kX {b:Nat->Nat->Prop}{l:List Nat}{w w':World}{X:Nat->Prop}{F:(Nat->Nat->Prop)->Prop}(q:Ch X w w')(e:∀k,bD b l k->k<w.heap.size/\¬X k)(h:F b):Kept (bD b l) w w'/\∃a:bP,(∀i k,b i k->a i k)/\F a:=
 ⟨q.jK e,_,λ_ _ h=>h,h⟩
theorem aB {b:Nat->Nat->Prop}{p:Nat->Prop}(a:∀i k,b i k->p k):∀ {l:List Nat}{k:Nat},bD b l k->p k
 | [],_,h=>h.elim
 | [_],_,h=>a _ _ h
 |_::_::_,_,h=>h.elim (a _ _) (aB a)
theorem _root_.Go.Proofs.YtbcmefndjggkpaaGreatDoor.V.Ch.shrink {X Y:Nat->Prop}{w w':World}(h:Ch X w w')(b:∀k,k<w.heap.size->X k->Y k):Ch Y w w':=
 ⟨⟨h.kept.os,h.kept.tape,h.kept.output,h.kept.size,λk a=>h.kept.block k ⟨a.1,λe=>a.2 (b k a.1 e)⟩⟩⟩
section
variable {w:World}{g:Nat}{s:LSt}{X Z:Nat->Prop}{ns:Nst}{K K2:List Int}
theorem called(h:fM w g s X)(bg:s.R=s.D)(hN:gj w ns Z)(Zq:ns.small)(Y5:eh w 0 K)(bl:eh w 1 K)(a4:Z 1)(dZ:∀k,X k->¬Z k)(d1:¬X 0)(k0 k1 k2 k3 k4 k5 k6 k7:Int)(a:(S8.mk k0 k1 k2 k3 k4 k5 k6 k7).ok)(x:Cal)(hf:Fl.Rg x.f)(b3:x.f.Ok):
 Calls prog 8 #[.pointer (pvA g),.agg #[.int .u32 k0,.int .u32 k1,.int .u32 k2,.int .u32 k3,.int .u32 k4,.int .u32 k5,.int .u32 k6,.int .u32 k7],.slice ns.A ns.hs.length ns.c,.agg ⟨x.cells⟩] w
  λe w'=>∃v,e=.returned v/\v=.bool true/\∃s' m,s'.R=s'.D/\fM w' g s' m/\(∀k,m k->X k\/w.heap.size<=k)/\Ch X w w':=by
 obtain⟨aa,a5⟩:∃aa,aa=S8.mk k0 k1 k2 k3 k4 k5 k6 k7:=⟨_,rfl⟩;have T:∀k,X k->k<w.heap.size:=h.lt;refine tc (pvA g) _ _ _ _ _ _ _ _ _ _ _ ⟨x.cells⟩ ?_;refine mkd λgk w0 m0=>mkd λgc w1 m1=>?_;have ab:Pu w w1:=m0.pu.trans m1.pu;refine(copied (hN.ch ab λ_ _ h=>h) Zq).mono ?_;rintro e w2 ⟨_,rfl,s1,rfl,bm,WJ,S7,h1,Wr,VB,a6⟩;refine⟨_,_,_,rfl,?_⟩;have p2:Pu w w2:=ab.trans Wr;have a0:=Pu.blk (m1.pu.trans Wr) m0.blk;have ae:=Pu.blk Wr m1.blk;have b4:w.heap.size<=gk:=by rw[m0.num];exact Nat.le_refl _
 have b5:w.heap.size<=gc:=by rw[m1.num];exact m0.pu.size
 have z2:=p2.size;have bs:∀ {w':World},Ch X w w'->gj w' ns Z:=λq=>hN.ch q λk a V=>dZ k V a;have h2:fM w2 g s X:=h.ch p2 λ_ _ h=>h;have bt:X g:=by obtain⟨_,_,_,_,_,_,_,_,_,hh⟩:=h.dbs;exact(hh g).1 (.inl rfl)
 have b6:=T g bt;have dD:∀ {n:World}{s2:Nst}{Z2:Nat->Prop},Pu w2 n->gj n s2 Z2->(∀k,Z2 k->w1.heap.size<=k)->(∀b t,s2.draw b t=ns.draw b t)->
  Calls prog 38 #[.pointer (some (Addr.mk s.pD 0 none)),.agg #[.int .u32 k0,.int .u32 k1,.int .u32 k2,.int .u32 k3,.int .u32 k4,.int .u32 k5,.int .u32 k6,.int .u32 k7],.slice s2.A s2.hs.length s2.c,.int .i64 x.th,.int .u32 x.n,.agg ⟨Fl.cells x.f⟩] n
   λe u=>e=.returned (.tuple #[.agg ⟨Fl.cells (s.D.svF K aa ns x.th x.n x.f)⟩,.bool (s.D.di x.th x.n),.int .u32 (s.D.eA x.th x.n x.f),.int .i64 (s.D.bT x.th)])/\∃m,fM u g {s with D:=s.D.svN x.th x.n x.f} m/\(∀k,m k->X k\/n.heap.size<=k)/\Ch X n u:=by
  intro n s2 Z2 p hn N hdr;have z1:=ab.size;refine(M4 (v:=.tuple #[.agg ⟨Fl.cells (s.D.svF K aa s2 x.th x.n x.f)⟩,.bool (s.D.di x.th x.n),.int .u32 (s.D.eA x.th x.n x.f),.int .i64 (s.D.bT x.th)]) (k:=some (.t [none,none,none,none])) (s.D.svN x.th x.n x.f) (h2.ch p λ_ _ h=>h) (c:=.ob 13 (λ_=>0) s2) (d:=.ob 5 (λ_=>0) K) (Z2:=Z2) (Z3:=λk=>k=0) hn
   (⟨λk=>⟨λh=>h,λh=>h⟩,(Y5.pu p2).pu p⟩:(∀k,k=0↔k=0)/\eh n 0 K)
   (λk V a=>by have:=T k V;have:=N k a;omega) (λk V a=>d1 (a▸V)) (λk a he=>by have:=N k a;have:=Y5.lt _ he;omega) λr1 rm Y h4 WG e1=>?_).mono ?_
  ·subst a5;rw[e1];exact LQ k0 k1 k2 k3 k4 k5 k6 k7 x.th x.n x.f r1 s.D.pd rm s.D.mem (λ_=>0) s2 (λ_=>0) K (λo=>o=_) ⟨rfl,hf,rfl⟩ Y n h4 WG
  ·rintro e u ⟨rfl,m,B,y,r⟩;exact⟨by rw[GW s.D K aa hdr],m,B,y,r⟩
 have dP:∀ {n:World},Pu w2 n->Calls prog 39 #[.slice s1.A s1.hs.length s1.c] n λe u=>∃s2 Z2,e=.returned (.slice s2.A s2.hs.length s2.c)/\gj u s2 Z2/\(∀k,Z2 k->w1.heap.size<=k)/\(∀b t,s2.draw b t=ns.draw b t)/\Pu n u:=by
  intro n p;refine(pieces (h1.ch p λ_ _ h=>h) bm S7 WJ).mono ?_;rintro e u ⟨_,rfl,s2,rfl,_,_,bA,q,RY,bB⟩;refine⟨s2,_,rfl,bA,λk a=>a.elim (λh=>h.1) λh=>?_,draw_eq (RY.trans VB) λk a=>?_,q⟩
  ·have:=Wr.size;have:=p.size;omega
  ·rw[bB k (by omega),a6 k a,List.length_append,FQ,Nat.add_sub_cancel,List.take_left'];rfl
 generalize hV:s.D.svF K aa ns x.th x.n x.f=F at dD;obtain⟨U,a7⟩:∃U,U=s.D.svN x.th x.n x.f:=⟨_,rfl⟩;rw[<-a7]at dD;refine⟨λp ex vl er w'=>∃C m,p=some (vA C)/\w2.heap.size<=C/\Blk w' C ⟨Fl.cells F⟩ 37/\ex=s.D.di x.th x.n/\vl=s.D.eA x.th x.n x.f/\er=s.D.bT x.th/\fM w' g {s with D:=U} m/\(∀k,m k->X k\/w2.heap.size<=k)/\(∀k,m k->k≠C)/\Ch X w2 w',?_,?_⟩
 ·have pd:=Pu.aR w2;have zd:=pd.size;have E:=Pu.blk pd a0;have j:=Pu.blk pd ae;have Q:∀ {l:List Nat}{w':World},w2.heap.size<=w'.heap.size->∀k,bD (λi k=>(i=3\/i=4\/i=8\/i=10\/i=12)/\k<w2.heap.size) l k->k<w'.heap.size/\¬(λ_=>False) k:=λN k a=>⟨by have:=aB (p:=λk=>k<w2.heap.size) (λi k h=>h.2) a;omega,λh=>h⟩;have bx:∀ {l:List Nat}{w':World}{C:Nat},w2.heap.size<=w'.heap.size->w2.heap.size<=C->∀k,bD (λi k=>(i=3\/i=4\/i=8\/i=10\/i=12)/\k<w2.heap.size) l k->k<w'.heap.size/\¬k=C:=λN hg k a=>by
   have:=aB (p:=λk=>k<w2.heap.size) (λi k h=>h.2) a;exact⟨by omega,by omega⟩
  have YT:∀(w':World) k,bD (λi k=>(i=3\/i=4\/i=8\/i=10\/i=12)/\k<w2.heap.size) [0,19] k->k<w'.heap.size/\¬X k:=λw' k a=>by
   rcases a with a|a<;>(have:=a.1;omega)
  have hd:=Pu.blk pd h2.hd;refine⟨λi k=>(i=3\/i=4\/i=8\/i=10\/i=12)/\k<w2.heap.size,ar _ rfl ⟨⟨.inl rfl,h2.hd.lt⟩,_,hd.at rfl,⟨.inr (.inl rfl),a0.lt⟩,_,_,_,_,_,_,_,_,⟨E.at rfl,E.at rfl,E.at rfl,E.at rfl,E.at rfl,E.at rfl,E.at rfl,E.at rfl⟩,⟨by omega,ae.lt⟩,_,j.at rfl,⟨by omega,ae.lt⟩,_,j.at rfl,⟨by omega,ae.lt⟩,_,_,_,_,_,_,_,_,_,_,_,_,_,_,_,_,_,_,_,⟨j.at2 rfl,j.at2 rfl,j.at2 rfl,j.at2 rfl,j.at2 rfl,j.at2 rfl,j.at2 rfl,j.at2 rfl,j.at2 rfl,j.at2 rfl,j.at2 rfl,j.at2 rfl,j.at2 rfl,j.at2 rfl,j.at2 rfl,j.at2 rfl,j.at2 rfl,j.at2 rfl,j.at2 rfl⟩,?_,?_⟩⟩
  ·refine(dP pd).mono ?_;rintro e n ⟨s2,Z2,rfl,n3,zz,dr,p3⟩;have Ts:=pd.trans p3;have b7:=Ts.size;refine⟨_,_,_,rfl,kX p3 (Q pd.size) ⟨?_,?_⟩⟩
   ·refine(dD Ts n3 zz dr).mono ?_;rintro e u ⟨rfl,m,B,y,r⟩;refine⟨_,_,_,_,_,_,_,_,_,_,_,_,_,_,_,_,_,_,_,_,_,_,rfl,kX r (λk a=>by have:=a.1;omega) ?_⟩;have z4:=r.size;refine mkd λC O M=>kX M.pu (Q (by omega)) (bE M.blk rfl λw6 I=>?_);have z5:=M.pu.size;have nF:=M.num;refine kX I.ch (bx (by omega) (by omega)) ?_;exact⟨C,m,rfl,by omega,I.blk,rfl,rfl,rfl,(B.ch M.pu λ_ _ h=>h).ch I.ch (λk a e=>by have e:k=C:=e;have:=B.lt k a;omega),λk a=>(y k a).imp id λh=>by omega,λk a e=>by have:=B.lt k a;omega,(((Ts.mono λ_ h=>h.elim).trans r).trans (M.pu.mono λ_ h=>h.elim)).stored I (.inr (by omega))⟩
   ·refine mkd λC u J=>kX J.pu (Q (by omega)) ?_;have Rj:=Ts.trans J.pu;have z4:=J.pu.size;have nF:=J.num;refine(dD Rj (n3.ch J.pu λ_ _ h=>h) zz dr).mono ?_;rintro e O ⟨rfl,m,B,y,r⟩;have z5:=r.size;refine⟨_,_,_,_,_,_,_,_,_,_,_,_,_,_,_,_,_,_,_,_,_,_,rfl,kX r (YT _) (bE (r.blk J.blk λh=>by have:=T _ h;omega) rfl λw6 I=>?_)⟩;have PX:∀k,m k->k≠C:=λk a e=>(y k a).elim (λh=>by have:=T k h;omega) λh=>by have:=J.blk.lt;omega
    refine kX I.ch (bx (by omega) (by omega)) ?_;exact⟨C,m,rfl,by omega,I.blk,rfl,rfl,rfl,B.ch I.ch PX,λk a=>(y k a).imp id λh=>by omega,PX,((Rj.mono λ_ h=>h.elim).trans r).stored I (.inr (by omega))⟩
  ·refine mkd λC n m3=>kX m3.pu (Q pd.size) ?_;have Ts:=pd.trans m3.pu;have z3:=Ts.size;have b8:=m3.pu.size;have nF:=m3.num;refine(dP Ts).mono ?_;rintro e u ⟨s2,Z2,rfl,n4,zz,dr,p4⟩;have z4:=p4.size;have Rj:=Ts.trans p4;refine⟨_,_,_,rfl,kX p4 (Q (by omega)) ?_⟩;refine(dD Rj n4 zz dr).mono ?_;rintro e O ⟨rfl,m,B,y,r⟩;have z5:=r.size;refine⟨_,_,_,_,_,_,_,_,_,_,_,_,_,_,_,_,_,_,_,_,_,_,rfl,kX r (YT _) (bE (r.blk (Pu.blk p4 m3.blk) λh=>by have:=T _ h;omega) rfl λw6 I=>?_)⟩;have PX:∀k,m k->k≠C:=λk a e=>(y k a).elim (λh=>by have:=T k h;omega) λh=>by have:=m3.blk.lt;omega
   refine kX I.ch (bx (by omega) (by omega)) ?_;exact⟨C,m,rfl,by omega,I.blk,rfl,rfl,rfl,B.ch I.ch PX,λk a=>(y k a).imp id λh=>by omega,PX,((Rj.mono λ_ h=>h.elim).trans r).stored I (.inr (by omega))⟩
 rintro _ _ _ _ _ n ⟨C,Z3,rfl,b9,bF,rfl,rfl,rfl,h3,an,bC,q3⟩;have a8:Ch X w n:=(p2.mono λ_ h=>h.elim).trans q3;have z3:=q3.size;have bN:∀k,Z k->k<w.heap.size:=hN.lt;have b0:gj n s1 (λk=>w1.heap.size<=k/\k<w2.heap.size):=h1.ch q3 λk a V=>by have:=T k V;have:=ab.size;omega
 have a9:∀k,Z3 k->¬Z k:=λk h3 N=>(an k h3).elim (λh=>dZ k h N) λh=>by have:=bN k N;omega
 have ba:=q3.blk a0 λh=>by have:=T _ h;omega
 have az:=q3.blk ae λh=>by have:=T _ h;omega
 have dR:∀ {u:World},Pu n u->
  Calls prog 40 #[.pointer (some (Addr.mk s.pR 0 none)),.agg #[.int .u32 k0,.int .u32 k1,.int .u32 k2,.int .u32 k3,.int .u32 k4,.int .u32 k5,.int .u32 k6,.int .u32 k7],.slice ns.A ns.hs.length ns.c,.int .i64 x.th,.int .u32 x.n,.agg ⟨Fl.cells x.f⟩] u
   λe O=>e=.returned (.tuple #[.agg ⟨Fl.cells F⟩,.bool (s.D.di x.th x.n),.int .u32 (s.D.eA x.th x.n x.f),.int .i64 (s.D.bT x.th)])/\∃m,fM O g {s with D:=U,R:=U} m/\(∀k,m k->Z3 k\/u.heap.size<=k)/\Ch Z3 u O:=by
  intro u p;have af:Ch X w u:=a8.trans (p.mono λ_ h=>h.elim);refine(xI (v:=.tuple #[.agg ⟨Fl.cells F⟩,.bool (s.D.di x.th x.n),.int .u32 (s.D.eA x.th x.n x.f),.int .i64 (s.D.bT x.th)]) (k:=some (.t [none,none,none,none])) U (h3.ch p λ_ _ h=>h) (c:=.ob 15 (λ_=>0) ⟨ns,K⟩) (Z2:=Z)
   (⟨bs af,bl.ch af λk he V=>dZ k V (he▸a4),a4⟩:gj u ns Z/\eh u 1 K/\Z 1) a9 λr1 rm Y h4 WG e1=>?_).mono ?_
  ·have e2:s.pR=r1 0:=e1;subst a5;subst a7;subst hV;rw[e2];have:=Ke k0 k1 k2 k3 k4 k5 k6 k7 x.th x.n x.f r1 s.R.pd rm s.R.mem (λ_=>0) ⟨ns,K⟩ (λo=>o=_) ⟨rfl,hf,a,rfl⟩ Y u h4 WG;rw[show s.R.pd.on s.R.mem=s.D from by rw[bg];rfl]at this;exact this
  ·rintro e O ⟨rfl,m,B,y,r⟩;exact⟨rfl,m,B,y,r⟩
 refine⟨λp ex vl er w'=>∃G m,p=some (vA G)/\Blk w' G ⟨Fl.cells F⟩ 82/\ex=s.D.di x.th x.n/\vl=s.D.eA x.th x.n x.f/\er=s.D.bT x.th/\fM w' g {s with D:=U,R:=U} m/\(∀k,m k->Z3 k\/n.heap.size<=k)/\Ch Z3 n w',?_,?_⟩
 ·have pd:=Pu.aR n;have E:=Pu.blk pd ba;have j:=Pu.blk pd az;have hd:=Pu.blk pd h3.hd;have aA:∀k,Z3 k->k<n.heap.size:=h3.lt;have zd:=pd.size;have Q:∀ {l:List Nat}{w':World},n.heap.size<=w'.heap.size->∀k,bD (λi k=>(i=3\/i=4\/i=7\/i=9\/i=11)/\k<n.heap.size) l k->k<w'.heap.size/\¬(λ_=>False) k:=λN k a=>⟨by have:=aB (p:=λk=>k<n.heap.size) (λi k h=>h.2) a;omega,λh=>h⟩;have bx:∀ {l:List Nat}{w':World}{G:Nat},n.heap.size<=w'.heap.size->n.heap.size<=G->∀k,bD (λi k=>(i=3\/i=4\/i=7\/i=9\/i=11)/\k<n.heap.size) l k->k<w'.heap.size/\¬k=G:=λN hg k a=>by
   have:=aB (p:=λk=>k<n.heap.size) (λi k h=>h.2) a;exact⟨by omega,by omega⟩
  have YT:∀(w':World) k,bD (λi k=>(i=3\/i=4\/i=7\/i=9\/i=11)/\k<n.heap.size) [0,19] k->k<w'.heap.size/\¬Z3 k:=λw' k a=>by
   rcases a with a|a<;>(have:=a.1;omega)
  refine⟨λi k=>(i=3\/i=4\/i=7\/i=9\/i=11)/\k<n.heap.size,ar _ rfl ⟨⟨.inl rfl,h3.hd.lt⟩,_,hd.at rfl,⟨.inr (.inl rfl),ba.lt⟩,_,_,_,_,_,_,_,_,⟨E.at rfl,E.at rfl,E.at rfl,E.at rfl,E.at rfl,E.at rfl,E.at rfl,E.at rfl⟩,⟨by omega,az.lt⟩,_,j.at rfl,⟨by omega,az.lt⟩,_,j.at rfl,⟨by omega,az.lt⟩,_,_,_,_,_,_,_,_,_,_,_,_,_,_,_,_,_,_,_,⟨j.at2 rfl,j.at2 rfl,j.at2 rfl,j.at2 rfl,j.at2 rfl,j.at2 rfl,j.at2 rfl,j.at2 rfl,j.at2 rfl,j.at2 rfl,j.at2 rfl,j.at2 rfl,j.at2 rfl,j.at2 rfl,j.at2 rfl,j.at2 rfl,j.at2 rfl,j.at2 rfl,j.at2 rfl⟩,?_,?_⟩⟩
  ·refine(yT x.f).mono ?_;rintro e u ⟨_,rfl,rfl,p4⟩;have Zl:=pd.trans p4;have ca:=Zl.size;refine⟨_,_,_,_,_,_,_,_,_,_,_,_,_,_,_,_,_,_,_,rfl,kX p4 (Q pd.size) ⟨?_,?_⟩⟩
   ·refine(dR Zl).mono ?_;rintro e O ⟨rfl,m,B,y,r⟩;refine⟨_,_,_,_,_,_,_,_,_,_,_,_,_,_,_,_,_,_,_,_,_,_,rfl,kX r (λk a=>by have:=a.1;omega) ?_⟩;have z5:=r.size;refine mkd λG w6 m6=>kX m6.pu (Q (by omega)) (bE m6.blk rfl λw7 L=>?_);have z6:=m6.pu.size;have nH:=m6.num;refine kX L.ch (bx (by omega) (by omega)) ?_;exact⟨G,m,rfl,L.blk,rfl,rfl,rfl,(B.ch m6.pu λ_ _ h=>h).ch L.ch (λk a e=>by have e:k=G:=e;have:=B.lt k a;omega),λk a=>(y k a).imp id λh=>by omega,(((Zl.mono λ_ h=>h.elim).trans r).trans (m6.pu.mono λ_ h=>h.elim)).stored L (.inr (by omega))⟩
   ·refine mkd λG O M=>kX M.pu (Q (by omega)) ?_;have ah:=Zl.trans M.pu;have z5:=M.pu.size;have nH:=M.num;refine(dR ah).mono ?_;rintro e w6 ⟨rfl,m,B,y,r⟩;have z6:=r.size;refine⟨_,_,_,_,_,_,_,_,_,_,_,_,_,_,_,_,_,_,_,_,_,_,rfl,kX r (YT _) (bE (r.blk M.blk λh=>by have:=aA _ h;omega) rfl λw7 L=>?_)⟩;refine kX L.ch (bx (by omega) (by omega)) ?_;exact⟨G,m,rfl,L.blk,rfl,rfl,rfl,B.ch L.ch (λk a e=>by have e:k=G:=e;exact(y k a).elim (λh=>by have:=aA k h;omega) λh=>by have:=M.blk.lt;omega),λk a=>(y k a).imp id λh=>by omega,((ah.mono λ_ h=>h.elim).trans r).stored L (.inr (by omega))⟩
  ·refine mkd λG u J=>kX J.pu (Q pd.size) ?_;have Zl:=pd.trans J.pu;have z4:=Zl.size;have cb:=J.pu.size;have nH:=J.num;refine(yT x.f).mono ?_;rintro e O ⟨_,rfl,rfl,S⟩;have ah:=Zl.trans S;have z5:=S.size;refine⟨_,_,_,_,_,_,_,_,_,_,_,_,_,_,_,_,_,_,_,rfl,kX S (Q (by omega)) ?_⟩;refine(dR ah).mono ?_;rintro e w6 ⟨rfl,m,B,y,r⟩;have z6:=r.size;refine⟨_,_,_,_,_,_,_,_,_,_,_,_,_,_,_,_,_,_,_,_,_,_,rfl,kX r (YT _) (bE (r.blk (Pu.blk S J.blk) λh=>by have:=aA _ h;omega) rfl λw7 L=>?_)⟩;refine kX L.ch (bx (by omega) (by omega)) ?_;exact⟨G,m,rfl,L.blk,rfl,rfl,rfl,B.ch L.ch (λk a e=>by have e:k=G:=e;exact(y k a).elim (λh=>by have:=aA k h;omega) λh=>by have:=J.blk.lt;omega),λk a=>(y k a).imp id λh=>by omega,((ah.mono λ_ h=>h.elim).trans r).stored L (.inr (by omega))⟩
 rintro _ _ _ _ _ u ⟨G,Z4,rfl,bH,rfl,rfl,rfl,h4,b1,q4⟩;have bd:=q4.blk bF λh=>bC _ h rfl;have z4:=q4.size;have af:Ch (λk=>X k\/Z3 k) w u:=(a8.mono λ_ h=>.inl h).trans (q4.mono λ_ h=>.inr h);have dA:∀k,Z k->¬(X k\/Z3 k):=λk N h=>h.elim (λh=>dZ k h N) λh=>a9 k h N;have b2:gj u s1 (λk=>w1.heap.size<=k/\k<w2.heap.size):=b0.ch q4 λk a h=>(an k h).elim (λh=>by have:=T k h;have:=ab.size;omega) λh=>by omega
 refine⟨λb w'=>b=true/\Pu u w',?_,?_⟩
 ·have pd:=Pu.aR u;have z:=Pu.blk pd bd;have A:=Pu.blk pd bH;refine⟨λ_ k=>k<u.heap.size,ar _ rfl ⟨bd.lt,_,_,_,_,_,_,_,_,_,_,_,_,_,_,_,_,_,_,_,⟨z.at rfl,z.at rfl,z.at rfl,z.at rfl,z.at rfl,z.at rfl,z.at rfl,z.at rfl,z.at rfl,z.at rfl,z.at rfl,z.at rfl,z.at rfl,z.at rfl,z.at rfl,z.at rfl,z.at rfl,z.at rfl,z.at rfl⟩,ar _ rfl ⟨bH.lt,_,_,_,_,_,_,_,_,_,_,_,_,_,_,_,_,_,_,_,⟨A.at rfl,A.at rfl,A.at rfl,A.at rfl,A.at rfl,A.at rfl,A.at rfl,A.at rfl,A.at rfl,A.at rfl,A.at rfl,A.at rfl,A.at rfl,A.at rfl,A.at rfl,A.at rfl,A.at rfl,A.at rfl,A.at rfl⟩,(yT F).mono ?_⟩⟩⟩;rintro e O ⟨_,rfl,rfl,S⟩;refine⟨_,_,_,_,_,_,_,_,_,_,_,_,_,_,_,_,_,_,_,rfl,kb S pd.size ?_⟩;refine aj (λ_=>?_) (λhb=>Bool.noConfusion ((NH F).symm.trans hb));refine aj (λ_=>?_) (λhb=>by simp at hb);refine aj (λ_=>?_) (λhb=>by simp at hb);refine(Nr _).mono ?_;rintro e w6 ⟨_,rfl,rfl,p6⟩;have aC:=(pd.trans S).trans p6;refine⟨_,rfl,kb p6 (pd.trans S).size ?_⟩;refine aj (λ_=>?_) (λhb=>by simp at hb);refine(kept ((hN.ch af dA).ch aC λ_ _ h=>h) Zq (b2.ch aC λ_ _ h=>h) VB a6).mono ?_;rintro e w7 ⟨_,rfl,rfl,p7⟩;exact⟨_,rfl,kb p7 aC.size ⟨rfl,aC.trans p7⟩⟩
 ·rintro _ _ O ⟨rfl,S⟩;refine⟨rfl,{s with D:=U,R:=U},Z4,rfl,h4.ch S (λ_ _ h=>h),λk a=>(b1 k a).elim (λh=>(an k h).imp id λh=>by omega) λh=>.inr (by omega),?_⟩;have q5:Ch (λk=>X k\/Z3 k) w O:=af.trans (S.mono λ_ h=>h.elim);exact q5.shrink λk a h=>h.elim id λh=>(an k h).elim id λh=>by omega
end
end
section
instance:Enc Cal:=⟨Cal.cells,25,λ_=>rfl,λx u h=>by
 rcases List.mem_cons.1 h with rfl|h
 ·rfl
 rcases List.mem_cons.1 h with rfl|h
 ·rfl
 rcases List.mem_append.1 h with h|h
 ·rcases List.mem_append.1 h with h|h
  ·obtain⟨a,rfl⟩:=pJ h;rfl
  ·simp only[List.mem_cons,List.not_mem_nil,or_false]at h
   rcases h with rfl|rfl|rfl|rfl<;>rfl
 ·simp only[List.mem_cons,List.not_mem_nil,or_false]at h
  rcases h with rfl|rfl|rfl|rfl<;>rfl,by omega⟩
section
variable {P:Program}{f:Nat}{args:Array Value}{w:World}{g:Nat}{s:LSt}{X Z2:Nat->Prop}{v:Value}{k:Option Kn}
theorem Ks {rest:List (Res Un)}{M:List Nat}{us:List (Upd Un)}{m':Mem}(h:fM w g s X)(C:s.R=s.D)(u:m'.S=s.D.mem.S)(D:∀i,i∈M->i<5)
 (E:∀ {Y:Nat->Nat->Prop}{r1 a b l:Nat->Nat},Sat (aux g r1 s.D.pd a s.D.mem b s.D.pd l s.D.mem) Y w->(∀i,i<5->∀k,Y i k->X k)->∃n,(∀i,i<5->n i=Y i)/\Sat (aux g r1 s.D.pd a s.D.mem b s.D.pd l s.D.mem++rest) n w)
 (hu:∀ {r1 a b l:Nat->Nat},cv (aux g r1 s.D.pd a s.D.mem b s.D.pd l s.D.mem++rest) M us=some (aux g r1 s.D.pd a m' b s.D.pd l m'++rest))
 (F:∀(r1 a b l:Nat->Nat)(Y:bP),Sat (aux g r1 s.D.pd a s.D.mem b s.D.pd l s.D.mem++rest) Y w->aK (aux g r1 s.D.pd a s.D.mem b s.D.pd l s.D.mem++rest) fr0 [(.l 1 1,.p (.obj 2 0 0)),(.l 3 1,.p (.obj 4 0 0))]->
  Calls P f args w (bu (aux g r1 s.D.pd a s.D.mem b s.D.pd l s.D.mem++rest) M Y w (λo=>o=⟨v,k,us,[],[]⟩))):
 Calls P f args w λe w'=>e=jl k v/\∃r Z,r.R=r.D/\fM w' g r Z/\(∀k,Z k->X k\/w.heap.size<=k)/\Ch X w w':=by
 obtain⟨r1,a,b,l,Y,x,⟨N,O,Q⟩,y,l2,p⟩:=pO h;rw[C]at x;obtain⟨n,t,hs⟩:=E x p;refine(F r1 a b l n hs (λkey kn hm=>?_)).mono ?_
 ·simp only[List.mem_cons,Prod.mk.injEq,List.not_mem_nil,or_false]at hm;rcases hm with⟨rfl,rfl⟩|⟨rfl,rfl⟩
  ·exact⟨_,_,_,rfl,show some (Value.pointer (some ⟨a 0,0,none⟩))=some (.pointer (some ⟨r1 1,0,none⟩))by rw[y]⟩
  ·exact⟨_,_,_,rfl,show some (Value.pointer (some ⟨l 0,0,none⟩))=some (.pointer (some ⟨b 1,0,none⟩))by rw[l2]⟩
 rintro e w' ⟨out,rs',X',he,rfl,z,q⟩;rw[hu]at z;obtain rfl:=Option.some.inj z;have G:Sat (aux g r1 s.D.pd a m' b s.D.pd l m') X' w':=Sat.sel q.sat (λi=>i) (λi hi=>by
  have hi:i<5:=hi
  match i,hi with
  |0,_|1,_|2,_|3,_|4,_=>rfl) (λi j hi A I=>I)
 obtain⟨Z,J,L⟩:=yH G y l2 (by rw[u];rfl) (by rw[u];rfl);refine⟨he,_,Z,rfl,J,λk m=>?_,q.ch.mono λk ⟨j,A,m⟩=>?_⟩
 ·obtain⟨i,hi,m⟩:=L k m;by_cases hm:i∈M
  ·exact(q.grow i hm k m).imp (λh=>p i hi k (by rw[<-t i hi];exact h)) id
  ·rw[q.same i (by show i<_;rw[List.length_append];have:(aux g r1 s.D.pd a s.D.mem b s.D.pd l s.D.mem).length=5:=rfl;omega) hm,t i hi]at m;exact .inl (p i hi k m)
 ·have B:=D j A;rw[t j B]at m;exact p j B k m
theorem Sat.Mh {r1 q r t:Nat->Nat}{E F:Pd}{m u:Mem}{Y:Nat->Nat->Prop}{c:Res Un}(h:Sat (aux g r1 E q m r F t u) Y w)(y:RS Z2 w c)(hd:∀i,i<5->∀k,Y i k->¬Z2 k):Sat (aux g r1 E q m r F t u++ [c]) (λi=>if i<5 then Y i else Z2) w:=by
 have hlen:(aux g r1 E q m r F t u).length=5:=rfl;refine⟨λi x a=>?_,λi j hi z A k b l=>?_⟩
 ·rw[bZ,hlen]at a;by_cases hi:i<5
  ·rw[if_pos hi]at a;simp only[if_pos hi];exact h.res i x a
  ·rw[if_neg hi]at a;simp only[if_neg hi]
   match e:i - 5,a with
   |0,a=>simp only[nth,Option.some.injEq]at a;subst a;exact y
   |n+1,a=>simp[nth]at a
 ·rw[List.length_append,hlen]at hi z;have B: [c].length=1:=rfl;by_cases o:i<5<;>by_cases p:j<5
  ·simp only[if_pos o,if_pos p]at b l;exact h.dis i j o p A k b l
  ·simp only[if_pos o,if_neg p]at b l;exact hd i o k b l
  ·simp only[if_neg o,if_pos p]at b l;exact hd j p k l b
  ·omega
end
theorem Ny {w:World}{g:Nat}{s:LSt}{X Z:Nat->Prop}(h:fM w g s X)(u:s.R=s.D)(x:Cal){l:List U32}(j:Rd w Z x.A x.m x.c l)(z:∀y∈l,0<=y.v/\y.v<4294967296)(hd:∀k,X k->¬Z k):
 Calls prog 7 #[.pointer (pvA g),.agg ⟨x.cells⟩] w λe w'=>e=.returned (.tuple #[])/\∃a p,a.R=a.D/\fM w' g a p/\(∀k,p k->X k\/w.heap.size<=k)/\Ch X w w':=by
 obtain⟨th,n,f,ls,lp,lo,A,m,c⟩:=x;obtain rfl:m=l.length:=j.len.symm;refine Ks (v:=.tuple #[]) (k:=some (.t [])) (rest:= [.lst 1 false 23 A c l]) (M:= [2,4]) (us:= [.ob 0 (s.D.mem.nJ ls lp lo l (min l.length 1024)),.ob 2 (s.D.mem.nJ ls lp lo l (min l.length 1024))]) (m':=s.D.mem.nJ ls lp lo l (min l.length 1024)) h u (Mem.HE ..) (λi hi=>by rcases List.mem_cons.1 hi with rfl|hi;omega;rcases List.mem_singleton.1 hi with rfl;omega) (λ{Y r1 q r t} B C=>⟨_,λi hi=>if_pos hi,Sat.Mh B (show Rd w Z A l.length c l from j) λi hi k b=>hd k (C i hi k b)⟩) rfl λr1 q r t Y hs b=>?_;exact II th n _ _ _ _ _ _ _ _ _ _ _ _ _ _ _ f.pc f.z f.n f.l ls lp lo g r1 s.D.pd q s.D.mem r s.D.pd t s.D.mem A c l (λo=>o=_) ⟨rfl,z,rfl⟩ Y w hs b
theorem Nx {w:World}{g:Nat}{s:LSt}{X:Nat->Prop}(h:fM w g s X)(m:s.R=s.D):
 Calls prog 9 #[.pointer (pvA g)] w λe w'=>e=.returned (vB true)/\∃a b,a.R=a.D/\fM w' g a b/\(∀k,b k->X k\/w.heap.size<=k)/\Ch X w w':=by
 refine Ks (v:=.bool true) (k:=none) (rest:= []) (M:= []) (us:= []) (m':=s.D.mem) h m rfl (λ_ hi=>by cases hi) (λ{Y r1 i j l} n _=>⟨Y,λ_ _=>rfl,n⟩) rfl λr1 i j l Y hs p=>?_;exact GC g r1 s.D.pd i s.D.mem j s.D.pd l s.D.mem (λo=>o=_) ⟨rfl,rfl,rfl,rfl⟩ Y w hs p
theorem begun(n i:Int){w:World}:Calls prog 4 #[.int .i64 n,.int .i64 i] w λe w'=>∃g s X,e=.returned (.pointer (pvA g))/\s.R=s.D/\fM w' g s X/\(∀k,X k->w.heap.size<=k)/\Pu w w':=by
 have b:Sat (U:=Un) [] (λ_ _=>False) w:=⟨λi r h=>by simp[nth]at h,λ_ _ _ _ _ _ h=>h.elim⟩;refine(D0 n i (λo=>∃r s1,s1.R=s1.D/\o=⟨.pointer (pvA (r 0)),some (.p (.obj 0 0 0)),[],[.ob 14 r s1],[]⟩) (λr s1 h=>⟨r,s1,h.1,rfl⟩) (λ_ _=>False) w b (λ_ _ h=>by cases h)).mono ?_;rintro e w' ⟨out,rs',X',he,⟨r,s1,j,rfl⟩,l,a⟩;obtain rfl: []=rs':=Option.some.inj l;exact⟨r 0,s1,X' 0,he,j,(a.sat.res 0 _ rfl:cz 14 r s1 (X' 0) w'),λk m=>a.new 0 (Nat.le_refl _) (by show 0<0+1;omega) k m,pY a.ch⟩
theorem NK {w:World}{g:Nat}{s:LSt}{X:Nat->Prop}{K:List Int}(h:fM w g s X)(z:s.R=s.D)(A:eh w 0 K)(B:eh w 1 K)(d1:¬X 0)(d2:¬X 1)(x:zK)(C:0<=x.v/\x.v<4294967296):
 Calls prog 6 #[.pointer (pvA g),.agg ⟨enc x⟩] w λe w'=>e=.returned (vB true)/\∃t y,t.R=t.D/\fM w' g t y/\(∀k,y k->X k\/w.heap.size<=k)/\Ch X w w':=by
 have hs:Sat (U:=Un) [.ob 14 (λ_=>g) s,.ob 5 (λ_=>0) K,.ob 6 (λ_=>0) K] (λi=>if i=0 then X else if i=1 then λk=>k=0 else λk=>k=1) w:=by
  refine⟨λi r n=>?_,λi j hi u D k l m=>?_⟩
  ·match i,n with
   |0,n=>simp only[nth,Option.some.injEq]at n;subst n;exact(h:cz 14 (λ_=>g) s X w)
   |1,n=>simp only[nth,Option.some.injEq]at n;subst n;exact(⟨λk=>Iff.rfl,A⟩:(∀k,k=0↔k=0)/\eh w 0 K)
   |2,n=>simp only[nth,Option.some.injEq]at n;subst n;exact(⟨λk=>Iff.rfl,B⟩:(∀k,k=1↔k=1)/\eh w 1 K)
   |i+3,n=>simp[nth]at n
  ·have hi:i<3:=hi;have u:j<3:=u
   match i,hi,l,j,u,m with
   |0,_,_,0,_,_|1,_,_,1,_,_|2,_,_,2,_,_=>exact D rfl
   |0,_,l,1,_,m=>exact d1 ((show k=0 from m)▸l)
   |0,_,l,2,_,m=>exact d2 ((show k=1 from m)▸l)
   |1,_,l,0,_,m=>exact d1 ((show k=0 from l)▸m)
   |2,_,l,0,_,m=>exact d2 ((show k=1 from l)▸m)
   |1,_,l,2,_,m=>have a:k=0:=l;have b:k=1:=m;omega
   |2,_,l,1,_,m=>have a:k=0:=m;have b:k=1:=l;omega
 obtain⟨k,a,b,c,v,wA,wN,wC⟩:=x;refine(IL k a b c v (.slice wA wN wC) (λ_=>g) s (λ_=>0) K (λ_=>0) K (λo=>∃s1,s1.R=s1.D/\o=⟨.bool true,none,[.ob 14 s1],[],[]⟩) ⟨z,rfl,C,λs1 h=>⟨s1,h.1,rfl⟩⟩ _ w hs (λ_ _ h=>by cases h)).mono ?_;intro e w' E;obtain⟨he,s1,Z,F,G,I,q⟩:=JI (p:=λs1=>s1.R=s1.D) E;exact⟨he,s1,Z,F,G,I,q⟩
theorem ke(n:Int){w:World}:Calls prog 10 #[.int .u32 n] w λe w'=>∃u,e=.returned u/\u=.int .i64 (qM n)/\Pu w w':=puC λX=>Iu n (λo=>o=_) rfl X w
theorem Jp(n:Int){w:World}:Calls prog 11 #[.int .u32 n] w λe w'=>∃u,e=.returned u/\u=.int .i64 (qM n)/\Pu w w':=puC λX=>Gn n (λo=>o=_) rfl X w
theorem GX {w:World}{ns:Nst}{Z:Nat->Prop}(h:gj w ns Z)(b t:Int):Calls prog 12 #[.slice ns.A ns.hs.length ns.c,.int .i64 b,.int .i64 t] w λe w'=>e=.returned (O (ns.draw b t))/\Pu w w':=by
 refine(BW b t (λ_=>0) ns (λo=>o=_) rfl (λ_=>Z) w (Sat.one (show gj w ns Z from h)) (λ_ _ h=>by cases h)).mono ?_;rintro e w' ⟨out,rs',X',rfl,rfl,i,a⟩;exact⟨rfl,pY a.ch⟩
theorem Jo {w:World}{ns:Nst}{Z:Nat->Prop}{K:List Int}(h:gj w ns Z)(a:eh w 1 K)(i:Z 1)(b t:Int):Calls prog 13 #[.slice ns.A ns.hs.length ns.c,.int .i64 b,.int .i64 t] w λe w'=>e=.returned (O (ns.draw b t))/\Pu w w':=by
 refine(xZ b t (λ_=>0) ⟨ns,K⟩ (λo=>o=_) rfl (λ_=>Z) w (Sat.one (show gj w ns Z/\eh w 1 K/\Z 1 from⟨h,a,i⟩)) (λ_ _ h=>by cases h)).mono ?_;rintro e w' ⟨out,rs',X',rfl,rfl,l,j⟩;exact⟨rfl,pY j.ch⟩
theorem MX {w:World}:Calls prog 5 #[] w λe w'=>∃u,e=.returned u/\u=.bool true/\Pu w w':=by
 refine vO ?_;refine(ke 0).mono ?_;rintro e w0 ⟨_,rfl,rfl,y⟩;refine⟨_,rfl,(ke 1).mono ?_⟩;rintro e w1 ⟨_,rfl,rfl,z⟩;refine⟨_,rfl,(ke 2).mono ?_⟩;rintro e w2 ⟨_,rfl,rfl,A⟩;refine⟨_,rfl,(ke 3).mono ?_⟩;rintro e N ⟨_,rfl,rfl,B⟩;refine⟨_,rfl,(ke 4).mono ?_⟩;rintro e O ⟨_,rfl,rfl,C⟩;refine⟨_,rfl,(ke 5).mono ?_⟩;rintro e Q ⟨_,rfl,rfl,D⟩;refine⟨_,rfl,(ke 6).mono ?_⟩;rintro e R ⟨_,rfl,rfl,E⟩;refine⟨_,rfl,(ke 7).mono ?_⟩;rintro e S ⟨_,rfl,rfl,F⟩;refine⟨_,rfl,(ke 8).mono ?_⟩;rintro e w8 ⟨_,rfl,rfl,G⟩;refine⟨_,rfl,?_⟩;rintro _ rfl;have pp:Pu w w8:=(((((((y.trans z).trans A).trans B).trans C).trans D).trans E).trans F).trans G;refine⟨λb w'=>b=true/\Pu w w',aj (λ_=>?_) (λI=>absurd I (by decide)),?_⟩
 ·refine mkd λn T o=>mkd λp U m=>mkd λgc q j=>?_;have V:=Pu.blk (m.pu.trans j.pu) o.blk;have r:=Pu.blk j.pu m.blk;have t:=j.blk;have J:gj q ⟨some (vA gc),2,[⟨some (vA n),0,0⟩,⟨some (vA p),2,2⟩],[[],[⟨5⟩,⟨9⟩]],false⟩ (λk=>k<q.heap.size):=by
   refine⟨⟨rfl,λk a=>?_⟩,λ_ h=>h,(rdB (l:= [(⟨some (vA n),0,0⟩:Hd),⟨some (vA p),2,2⟩]) t rfl rfl (Nat.le_refl _)).mono (λk a=>a▸t.lt) (λ_ h=>h),λk a=>?_,λe=>by cases e⟩
   ·match k,a with
    |0,_=>rfl
    |1,_=>rfl
   ·match k,a with
    |0,_=>exact⟨rfl,Nat.le_refl _,λ_ h=>h,λi x L=>by cases L⟩
    |1,_=>exact(rdB (l:= [(⟨5⟩:U32),⟨9⟩]) r rfl rfl (Nat.le_refl _)).mono (λk a=>a▸r.lt) (λ_ h=>h)
  refine(GX J 1 1).mono ?_;rintro e wd ⟨rfl,pd⟩;exact⟨_,rfl,by kernel_rfl,(((pp.trans o.pu).trans m.pu).trans j.pu).trans pd⟩
 ·rintro _ _ Y ⟨rfl,M⟩;exact⟨rfl,M⟩
theorem KU {w:World}{ns:Nst}{K:List Int}{XA XC:Nat->Prop}{aA cA:Option Addr}{aC cC:Nat}{al:List zK}{r:List Cal}(hA:Rd w XA aA al.length aC al)(an:∀x∈al,0<=x.v/\x.v<4294967296)(bd:al.length<=1099511627776)(hN:gj w ns (λk=>k<w.heap.size))(Zq:ns.small)
 (hC:Rd w XC cA r.length cC r)(R0:r.length<=1099511627776)(az:∀(i:Nat)(x:Cal),r[i]? =some x->∃l:List U32,Rd w (λk=>k<w.heap.size) x.A x.m x.c l/\(∀y∈l,0<=y.v/\y.v<4294967296)/\Fl.Rg x.f/\x.f.Ok)(Y5:eh w 0 K)(T:eh w 1 K)(xk aa taken n:Int){k0 k1 k2 k3 k4 k5 k6 k7:Int}(a:(S8.mk k0 k1 k2 k3 k4 k5 k6 k7).ok):
 Calls prog 3 #[.int .i64 xk,.slice aA al.length aC,.agg #[.int .u32 k0,.int .u32 k1,.int .u32 k2,.int .u32 k3,.int .u32 k4,.int .u32 k5,.int .u32 k6,.int .u32 k7],.slice ns.A ns.hs.length ns.c,.slice cA r.length cC,.int .i64 aa,.int .i64 taken,.int .u32 n] w
  λe w'=>∃u,e=.returned u/\u=.bool true/\Pu w w':=by
 refine sY _ _ _ _ _ _ _ _ _ _ _ _ _ _ _ _ _ _ _ _ _ ?_;have a0:=Y5.lt _ rfl;have ab:=T.lt _ rfl;refine mkd λgk w0 t=>(begun xk 1).mono ?_;rintro e w1 ⟨g,s,X,rfl,hR,h,hX,p1⟩;have bf:Pu w w1:=t.pu.trans p1;have bg:=t.blk.lt;have bh:w.heap.size<=gk:=by rw[t.num];exact Nat.le_refl _
 have z0:=t.pu.size;refine⟨_,rfl,λb w'=>b=false/\Pu w1 w',fy (MX.mono ?_),?_⟩
 ·rintro e w2 ⟨_,rfl,rfl,U⟩;exact⟨_,rfl,rfl,U⟩
 rintro _ _ w2 ⟨rfl,U⟩;let St:World->Prop:=λw'=>∃j o,j.R=j.D/\fM w' g j o/\(∀k,o k->w0.heap.size<=k)/\Pu w0 w';have st:∀ {J G:World}{Z3:Nat->Prop}{j:LSt}{o:Nat->Prop},(∀k,Z3 k->w0.heap.size<=k)->Pu w0 J->j.R=j.D->fM G g j o->(∀k,o k->Z3 k\/J.heap.size<=k)->Ch Z3 J G->St G:=λh3 B L M N O=>⟨_,_,L,M,λk a=>(N k a).elim (h3 k) λh=>Nat.le_trans B.size h,B.call O λk a=>.inr (h3 k a)⟩;have s2:St w2:=⟨s,X,hR,h.ch U λ_ _ h=>h,hX,p1.trans U⟩;refine fy ?_;rintro _ rfl;refine⟨λm i w'=>∃k:Nat,i=(k:Int)/\k<=al.length/\m=al.length - k/\St w',⟨_,0,rfl,Nat.zero_le _,rfl,s2⟩,?_⟩;rintro m _ _ J ⟨k,rfl,UH,rfl,j,o,Q,R,C,B⟩;have dx:∀ {k:Nat},k<w.heap.size->¬o k:=λa D=>by have:=C _ D;omega
 have V:Pu w J:=t.pu.trans B;refine aD (λI=>?_) (λI=>?_)
 ·refine⟨⟨by omega,by omega⟩,?_⟩;obtain⟨p,x,Rh,E,_,z⟩:=(hA.pu V).ld (i:=(k:Int)) (by omega) (by omega);refine ar p Rh ⟨x.k,x.a,x.b,x.c,x.v,x.wA,x.wN,x.wC,⟨z 0 (by decide),z 1 (by decide),z 2 (by decide),z 3 (by decide),z 4 (by decide),z 5 (by decide)⟩,?_⟩;refine(NK R Q (Y5.pu V) (T.pu V) (dx a0) (dx ab) x (an x (List.mem_of_getElem? E))).mono ?_;rintro e G ⟨rfl,s4,Z4,L,M,N,O⟩;refine⟨_,rfl,fy ?_⟩;rintro _ rfl;exact⟨al.length - (k+1),by omega,k+1,by rw[av (by omega)];omega,by omega,rfl,st C B L M N O⟩
 ·rintro _ rfl;refine⟨λm i w'=>∃k:Nat,i=(k:Int)/\k<=r.length/\m=r.length - k/\St w',⟨_,0,rfl,Nat.zero_le _,rfl,j,o,Q,R,C,B⟩,?_⟩;clear dx V B C R Q j o I UH;rintro m _ _ G ⟨k,rfl,UH,rfl,j,o,Q,R,C,p4⟩;have ae:Pu w G:=t.pu.trans p4;refine aD (λI=>?_) (λI=>?_)
  ·have cell:∀ {w':World},Pu w w'->∃p x,cA=some p/\r[k]? =some x/\((⟨enc x⟩:Array Value).size=25/\∀i u,(⟨enc x⟩:Array Value)[i]? =some u->w'.cell? ((p.add (Int.toNat (k:Int)*25)).add i)=some u):=by
    intro w' q;obtain⟨p,x,Rh,E,_,z⟩:=(hC.pu q).ld (i:=(k:Int)) (by omega) (by omega);rw[Int.toNat_natCast]at E;refine⟨p,x,Rh,E,rfl,λi u hu=>?_⟩;have hi:i<25:=(Array.getElem?_eq_some_iff.1 hu).1;rw[List.getElem?_toArray]at hu;exact(z i hi).trans hu
   obtain⟨p,x,a5,E,OO⟩:=cell ae;obtain⟨l,hl,a6,hf,a7⟩:=az k x E;refine⟨⟨by omega,by omega⟩,ar p a5 ⟨_,OO,?_⟩⟩;refine(Ny R Q x (hl.pu ae) a6 λk D a=>by have:=C k D;omega).mono ?_;rintro e S ⟨rfl,s5,Z5,L,M,N,O⟩;obtain⟨s5,Z5,a8,h5,af,F⟩:=st C p4 L M N O;have ah:Pu w S:=t.pu.trans F;refine⟨rfl,λb w'=>b=false/\St w',?_,?_⟩
   ·have pd:=Pu.aR S;have A:=Pu.blk (F.trans pd) t.blk;obtain⟨p',x',a9,YZ,ba⟩:=cell (ah.trans pd);obtain rfl:x=x':=Option.some.inj (E.symm.trans YZ);refine⟨λi k=>i=1\/i=6,.inl rfl,_,_,_,_,_,_,_,_,⟨A.at rfl,A.at rfl,A.at rfl,A.at rfl,A.at rfl,A.at rfl,A.at rfl,A.at rfl⟩,⟨by omega,by omega⟩,ar p' a9 ⟨.inr rfl,_,ba,?_⟩⟩;have q5:Pu w S.drew:=ah.trans pd;refine(called (h5.ch pd λ_ _ h=>h) a8 (hN.ch q5 λ_ _ h=>h) Zq (Y5.pu q5) (T.pu q5) ab (λk D a=>by have:=af k D;omega) (λD=>by have:=af _ D;omega) k0 k1 k2 k3 k4 k5 k6 k7 a x hf a7).mono ?_;rintro e w6 ⟨_,rfl,rfl,s6,Z6,b1,b2,b3,b4⟩;refine⟨_,rfl,_,λ_ _ h=>h,fy ?_⟩;obtain⟨s6,Z6,bb,h6,bc,p6⟩:=st af (F.trans pd) b1 b2 b3 b4;refine(Nx h6 bb).mono ?_;rintro e w7 ⟨rfl,s7,Z7,c1,c2,c3,c4⟩;refine⟨_,rfl,c4.jK λk a=>?_,_,λ_ _ h=>h,rfl,st bc p6 c1 c2 c3 c4⟩;rcases a with a|a|a<;>(rcases a with a|a<;>omega)
   ·rintro _ _ w6 ⟨rfl,s6⟩;refine fy ?_;rintro _ rfl;exact⟨r.length - (k+1),by omega,k+1,by rw[av (by omega)];omega,by omega,rfl,s6⟩
  ·refine⟨λb w'=>b=true/\Pu w w',?_,?_⟩
   ·refine(ke n).mono ?_;rintro e S ⟨_,rfl,rfl,F⟩;refine⟨_,rfl,(Jp n).mono ?_⟩;rintro e w6 ⟨_,rfl,rfl,p6⟩;have Y:=(ae.trans F).trans p6;refine⟨_,rfl,aj (λ_=>?_) (λI=>by simp at I)⟩;refine(GX (hN.ch Y λ_ _ h=>h) aa taken).mono ?_;rintro e w7 ⟨rfl,p7⟩;refine⟨_,rfl,(Jo ((hN.ch Y λ_ _ h=>h).ch p7 λ_ _ h=>h) (T.pu (Y.trans p7)) ab aa taken).mono ?_⟩;rintro e w8 ⟨rfl,p8⟩;exact⟨_,rfl,by simp,(Y.trans p7).trans p8⟩
   ·rintro _ _ S ⟨rfl,F⟩;exact⟨rfl,F⟩
end
open Go.ChangeShapes Go.WideShapes Go.ChangeAt
section
theorem wf_u32 {x:Int}(h:(Lit.int .u32 x).wf=true):0<=x/\x<4294967296:=by
 have:0<=x/\x<=4294967295:=by simpa[Lit.wf,IntKind.min,IntKind.max,IntKind.signed,IntKind.bits]using h
 omega
theorem H6 {H:Type}(d:DataW H):1<=Rows.uptoBulk d:=by
 cases d with
 |lit x=>cases x<;>simp[Rows.uptoBulk]
 |_=>simp[Rows.uptoBulk]
theorem BF {H:Type}:∀l:List (DataW H),l.length<=Rows.uptoBulkAll l
 | []=>Nat.zero_le _
 | d::r=>by
  have a:=BF r;have b:=H6 d;simp only[Rows.uptoBulkAll,List.length_cons];omega
theorem uW {H:Type}:∀ {l:List (DataW H)}{d:DataW H},d∈l->Rows.uptoBulk d<=Rows.uptoBulkAll l
 | e::r,d,h=>by
  simp only[Rows.uptoBulkAll];rcases List.mem_cons.1 h with rfl|h
  ·omega
  ·have:=uW h;omega
section
variable {P:Program}{W:World}{H:Type}{en:TypeId×Value->H}
theorem nk {α:Type} [Enc α] [Inhabited α]{t e:TypeId}(E:P.underlying t=some (.slice e))(ce:P.cellsOf e=Enc.size α)(G:α->DataW H->Prop)
 (he:∀(n:Nat)(cs:List Value)(D:DataW H)(p:List MemPlace),cs.length=Enc.size α->DataW.trod en P W 0 (λ_=>true) true n e cs=some (D,p)->∃x:α,cs=enc x/\G x D)
 {n:Nat}{cs:List Value}{d:DataW H}{p:List MemPlace}(h:DataW.trod en P W 0 (λ_=>true) true n t cs=some (d,p)):
 ∃(A:oA)(c:Nat)(l:List α),cs= [.slice A l.length c]/\Rd W (λk=>k<W.heap.size) A l.length c l/\l.length<=Rows.uptoBulk d/\∀(i:Nat)(x:α),l[i]? =some x->∃D,G x D/\Rows.uptoBulk D<=Rows.uptoBulk d:=by
 rcases Go.Deep.open_slice E h with⟨u,r⟩|⟨a,len,cap,m,n,D,O,u,_,F,hm,z,r,I⟩
 ·exact⟨none,0,[],u,⟨rfl,Nat.le_refl _,λ_ h=>h,λi x hi=>by cases hi⟩,Nat.zero_le _,λi x hi=>by cases hi⟩
 ·simp only[if_true]at z;subst z;simp only[Prod.mk.injEq]at r;have each:∀i,i<m->∃x:α,(∀j,j<Enc.size α->W.cell? ((a.add (i*Enc.size α)).add j)=(enc x)[j]?)/\G x (D i):=by
   intro i hi;obtain⟨Q,b,J⟩:=I i hi;rw[ce]at b;obtain⟨_,hlen,L⟩:=World.cells?_some b;obtain⟨x,rfl,M⟩:=he _ _ _ _ hlen J;exact⟨x,λj y=>L j y,M⟩
  obtain⟨q,hq⟩:=Go.Deep.choose_lt each;have hlen:((List.range len).map q).length=len:=by rw[List.length_map,List.length_range]
  have B:∀(i:Nat)(x:α),((List.range len).map q)[i]? =some x->i<len/\x=q i:=λi x hi=>by
   have o:i<len:=by
    rcases Nat.lt_or_ge i len with h|h
    ·exact h
    ·rw[List.getElem?_eq_none (by simpa using h)]at hi;cases hi
   rw[List.getElem?_map,List.getElem?_range o]at hi;injection hi with hi
   exact⟨o,hi.symm⟩
  refine⟨some a,m,(List.range len).map q,by rw[hlen];exact u,⟨rfl,by rw[hlen];exact F,λ_ h=>h,λi x hi=>?_⟩,?_,λi x hi=>?_⟩
  ·obtain⟨o,rfl⟩:=B i x hi;have b:=(hq i (by omega)).1;refine⟨a,rfl,?_,λj y=>b j y⟩;have C:=b 0 Enc.pos;have N:0<(enc (q i)).length:=by rw[Enc.len];exact Enc.pos
   rw[List.getElem?_eq_getElem N]at C;have:=World.block_lt_of_cell? W _ C
   rwa[V.block_add,V.block_add]at this
  ·rw[hlen,r.1];have:=BF ((List.range len).map D);rw[List.length_map,List.length_range]at this;simp only[Rows.uptoBulk];omega
  ·obtain⟨o,rfl⟩:=B i x hi;refine⟨D i,(hq i (by omega)).2,?_⟩;rw[r.1];have:=uW (List.mem_map_of_mem (f:=D) (List.mem_range.2 o));simp only[Rows.uptoBulk];omega
theorem om {u a:TypeId}(hu:P.underlying u=some (.slice a))(b:P.underlying a=some (.int .u32))(e:P.cellsOf a=1){n:Nat}{cs:List Value}{d:DataW H}{p:List MemPlace}(h:DataW.trod en P W 0 (λ_=>true) true n u cs=some (d,p)):
 ∃(A:oA)(c:Nat)(l:List U32),cs= [.slice A l.length c]/\Rd W (λk=>k<W.heap.size) A l.length c l/\l.length<=Rows.uptoBulk d/\∀y∈l,0<=y.v/\y.v<4294967296:=by
 have:Inhabited U32:=⟨⟨0⟩⟩;obtain⟨A,c,l,j,b,m,o⟩:=nk (α:=U32) hu e (λx _=>0<=x.v/\x.v<4294967296) (λn cs D p _ h=>by
  obtain⟨z,q,_,r⟩:=DataW.trod_int b h;exact⟨⟨z⟩,q,wf_u32 r⟩) h
 exact⟨A,c,l,j,b,m,λy t=>by
  obtain⟨i,hi⟩:=List.getElem?_of_mem t;obtain⟨_,B,_⟩:=o i y hi;exact B⟩
theorem FI {t u b:TypeId}(o:P.underlying t=some (.slice u))(hu:P.underlying u=some (.slice b))(r:P.cellsOf u=1)(y:P.underlying b=some (.int .u32))(z:P.cellsOf b=1){n:Nat}{cs:List Value}{d:DataW H}{p:List MemPlace}(h:DataW.trod en P W 0 (λ_=>true) true n t cs=some (d,p)):
 ∃s:Nst,cs= [.slice s.A s.hs.length s.c]/\gj W s (λk=>k<W.heap.size)/\(Rows.uptoBulk d<=1048576->s.small):=by
 have:Inhabited Hd:=⟨⟨none,0,0⟩⟩;obtain⟨A,c,hs,B,C,E,F⟩:=nk (α:=Hd) o r (λx D=>∃l:List U32,x.n=l.length/\Rd W (λk=>k<W.heap.size) x.A x.n x.c l/\l.length<=Rows.uptoBulk D) (λn cs D p _ h=>by
  obtain⟨A,c,l,G,I,J,_⟩:=om hu y z h;exact⟨⟨A,l.length,c⟩,G,l,rfl,I,J⟩) h
 have each:∀i,i<hs.length->∃l:List U32,(hs.getD i ⟨none,0,0⟩).n=l.length/\Rd W (λk=>k<W.heap.size) (hs.getD i ⟨none,0,0⟩).A (hs.getD i ⟨none,0,0⟩).n (hs.getD i ⟨none,0,0⟩).c l/\l.length<=Rows.uptoBulk d:=λi hi=>by
  obtain⟨D,⟨l,L,M,N⟩,O⟩:=F i hs[i] (List.getElem?_eq_getElem hi);rw[List.getD_eq_getElem?_getD,List.getElem?_eq_getElem hi];exact⟨l,L,M,Nat.le_trans N O⟩
 obtain⟨q,hq⟩:=Go.Deep.choose_lt each;have j:∀k,k<hs.length->((List.range hs.length).map q).getD k []=q k:=λk a=>by rw[List.getD_eq_getElem?_getD,List.getElem?_map,List.getElem?_range a];rfl
 refine⟨⟨A,c,hs,(List.range hs.length).map q,false⟩,B,⟨⟨by show((List.range hs.length).map q).length=hs.length;simp,λk a=>?_⟩,λ_ h=>h,C,λk a=>?_,λe=>by cases e⟩,λm=>⟨Nat.le_trans E m,λk a=>?_⟩⟩
 ·show(hs.getD k ⟨none,0,0⟩).n=(((List.range hs.length).map q).getD k []).length;rw[j k a];exact(hq k a).1
 ·show Rd W _ (hs.getD k ⟨none,0,0⟩).A (hs.getD k ⟨none,0,0⟩).n (hs.getD k ⟨none,0,0⟩).c (((List.range hs.length).map q).getD k []);rw[j k a];exact(hq k a).2.1
 ·show(((List.range hs.length).map q).getD k []).length<=_;rw[j k a];exact Nat.le_trans (hq k a).2.2 m
theorem open_row {k:Nat}{t e:TypeId}(A:P.underlying t=some (.array k e))(B:P.underlying e=some (.int .u32))(ce:P.cellsOf e=1){n:Nat}{cs:List Value}{d:DataW H}{p:List MemPlace}(G:cs.length=k)(h:DataW.trod en P W 0 (λ_=>true) true n t cs=some (d,p)):
 ∃l:List U32,cs=l.map (λx=>.int .u32 x.v)/\l.length=k/\(∀y∈l,0<=y.v/\y.v<4294967296)/\p= []:=by
 obtain⟨xs,m,_,r,I,J,C⟩:=DataW.trod_array A h;have each:∀i,i<k->∃x:U32,cs[i]? =some (O x.v)/\(0<=x.v/\x.v<4294967296)/\∃y,xs[i]? =some (y,[]):=by
  intro i hi;have b:=C i hi;have u:i<cs.length:=by omega
  rw[ce,Nat.mul_one]at b;rw[show(cs.drop i).take 1= [cs[i]]from by rw[List.drop_eq_getElem_cons u];rfl,List.getElem?_eq_getElem (by omega)]at b;obtain⟨x,j,D,E⟩:=DataW.trod_int B b;injection j with j _
  exact⟨⟨x⟩,by rw[List.getElem?_eq_getElem u,j],wf_u32 E,_,by rw[List.getElem?_eq_getElem (by omega),D]⟩
 have:Inhabited U32:=⟨⟨0⟩⟩;obtain⟨q,hq⟩:=Go.Deep.choose_lt each;refine⟨(List.range k).map q,?_,by simp,λy o=>?_,?_⟩
 ·apply List.ext_getElem?;intro i;by_cases hi:i<k
  ·rw[(hq i hi).1,List.getElem?_map,List.getElem?_map,List.getElem?_range hi];rfl
  ·rw[List.getElem?_eq_none (by omega),List.getElem?_eq_none (by simp;omega)]
 ·obtain⟨i,hi,rfl⟩:=List.mem_map.1 o;exact(hq i (List.mem_range.1 hi)).2.1
 ·simp only[Prod.mk.injEq]at r;rw[r.2];refine List.flatMap_eq_nil_iff.2 λy o=>?_;obtain⟨i,hi⟩:=List.getElem?_of_mem o;have F:i<k:=by have:=(List.getElem?_eq_some_iff.1 hi).1;omega
  obtain⟨_,_,z,a⟩:=hq i F;rw[hi]at a;injection a with a
  rw[a]
end
section
variable {W:World}{H:Type}{en:TypeId×Value->H}
theorem cU:prog.cellsOf 23=1:=by kernel_rfl
theorem cI:prog.cellsOf 3=1:=by kernel_rfl
theorem cB:prog.cellsOf 4=1:=by kernel_rfl
theorem cS:prog.cellsOf 31=1:=by kernel_rfl
theorem cR:prog.cellsOf 35=15:=by kernel_rfl
theorem cF:prog.cellsOf 37=19:=by kernel_rfl
theorem cY:prog.cellsOf 39=2:=by kernel_rfl
theorem FJ {n:Nat}{cs:List Value}{d:DataW H}{p:List MemPlace}(h:DataW.trod en prog W 0 (λ_=>true) true n 37 cs=some (d,p)):∃f:Fl,cs=Fl.cells f/\f.Ok/\Fl.Rg f:=by
 obtain⟨xs,k,I,J,i,A,a⟩:=DataW.trod_struct Tryz.underlying37 h;have i:cs.length=19:=i.trans (by kernel_rfl)
 match xs,A with
 | [L,M,N,O,Q],_=>
  have o:=a 0 _ rfl;have q:=a 1 _ rfl;have r:=a 2 _ rfl;have t:=a 3 _ rfl;have u:=a 4 _ rfl;simp[cR,cU,cB]at o q r t u;obtain⟨l,m,hlen,B,_⟩:=open_row (k:=15) Tryz.underlying35 Tryz.underlying23 cU (by rw[List.length_take,i];rfl) o;obtain⟨pc,C,_,_⟩:=DataW.trod_int Tryz.underlying23 q;obtain⟨z,D,_⟩:=DataW.trod_bool Tryz.underlying4 r;obtain⟨b,E,_⟩:=DataW.trod_bool Tryz.underlying4 t;obtain⟨e,F,_⟩:=DataW.trod_bool Tryz.underlying4 u;have y:Fl.Ok ⟨l,pc,z,b,e⟩:=hlen;refine⟨⟨l,pc,z,b,e⟩,?_,y,λj=>?_⟩
  ·unfold Fl.cells;rw[Fl.words_eq y];show cs=l.map (λx=>Value.int .u32 x.v)++ [.int .u32 pc,.bool z,.bool b,.bool e];have m:(cs.drop 0).take 15=l.map (λx=>Value.int .u32 x.v):=m;rw[<-m,show [Value.int .u32 pc,.bool z,.bool b,.bool e]= [.int .u32 pc]++([.bool z]++([.bool b]++ [.bool e]))from rfl,<-C,<-D,<-E,<-F]
   match cs,i with
   | [_,_,_,_,_,_,_,_,_,_,_,_,_,_,_,_,_,_,_],_=>rfl
  ·show 0<=(l.getD j (uM 0)).v/\(l.getD j (uM 0)).v<4294967296;rw[List.getD_eq_getElem?_getD];cases G:l[j]? with
   |none=>exact⟨by decide,by decide⟩
   |some x=>exact B x (List.mem_of_getElem? G)
theorem FK {n:Nat}{cs:List Value}{d:DataW H}{p:List MemPlace}(h:DataW.trod en prog W 0 (λ_=>true) true n 41 cs=some (d,p)):
 ∃x:Cal,cs=x.cells/\∃l:List U32,Rd W (λk=>k<W.heap.size) x.A x.m x.c l/\(∀y∈l,0<=y.v/\y.v<4294967296)/\Fl.Rg x.f/\x.f.Ok:=by
 obtain⟨xs,k,S,T,b,I,a⟩:=DataW.trod_struct Tryz.underlying41 h;have b:cs.length=25:=b.trans (by kernel_rfl)
 match xs,I with
 | [U,V,Y,y3,y4,y5],_=>
  have e:=a 0 _ rfl;have i:=a 1 _ rfl;have j:=a 2 _ rfl;have m:=a 3 _ rfl;have o:=a 4 _ rfl;have q:=a 5 _ rfl;simp[cI,cU,cF,cY,cS]at e i j m o q;obtain⟨th,z,_,_⟩:=DataW.trod_int Tryz.underlying3 e;obtain⟨B,C,_,_⟩:=DataW.trod_int Tryz.underlying23 i;obtain⟨f,D,J,L⟩:=FJ j;obtain⟨M,k',_,_,N,O,r⟩:=DataW.trod_struct Tryz.underlying39 m;obtain⟨lo,E,_,_⟩:=DataW.trod_int Tryz.underlying3 o;obtain⟨A,c,l,F,Q,_,R⟩:=om Tryz.underlying31 Tryz.underlying23 cU q
  match M,O with
  | [z0,z1],_=>
   have t:=r 0 _ rfl;have u:=r 1 _ rfl;simp[cI,cB]at t u;obtain⟨ls,a0,_⟩:=DataW.trod_bool Tryz.underlying4 t;obtain⟨lp,G,_,_⟩:=DataW.trod_int Tryz.underlying3 u;refine⟨⟨th,B,f,ls,lp,lo,A,l.length,c⟩,?_,l,Q,R,L,J⟩;show cs= [.int .i64 th]++([.int .u32 B]++(Fl.cells f++([.bool ls]++([.int .i64 lp]++([.int .i64 lo]++ [.slice A l.length c])))));rw[<-z,<-C,<-D,<-a0,<-G,<-E,<-F];clear z C D a0 G E F e i j m o q t u a r N
   match cs,b with
   | [_,_,_,_,_,_,_,_,_,_,_,_,_,_,_,_,_,_,_,_,_,_,_,_,_],_=>rfl
set_option maxRecDepth 100000 in
theorem Hs {n:Nat}{cs:List Value}{d:DataW H}{p:List MemPlace}(h:DataW.trod en prog W 0 (λ_=>true) true n 33 cs=some (d,p)):∃x:zK,cs=enc x/\0<=x.v/\x.v<4294967296:=by
 obtain⟨xs,k,J,L,b,C,a⟩:=DataW.trod_struct Tryz.underlying33 h;have b:cs.length=6:=b.trans (by kernel_rfl)
 match xs,C,cs,b with
 | [M,N,O,Q,R,S],_,[v0,v1,v2,T,v4,U],_=>
  have r:=a 0 _ rfl;have t:=a 1 _ rfl;have u:=a 2 _ rfl;have y:=a 3 _ rfl;have z:=a 4 _ rfl;have B:=a 5 _ rfl;simp[cI,cU,cS]at r t u y z B;obtain⟨D,e,_,_⟩:=DataW.trod_int Tryz.underlying3 r;obtain⟨E,i,_,_⟩:=DataW.trod_int Tryz.underlying3 t;obtain⟨n2,j,_,_⟩:=DataW.trod_int Tryz.underlying3 u;obtain⟨F,m,_,_⟩:=DataW.trod_int Tryz.underlying3 y;obtain⟨G,o,_,I⟩:=DataW.trod_int Tryz.underlying23 z;obtain⟨A,c,l,q,_⟩:=om Tryz.underlying31 Tryz.underlying23 cU B;injection e with e;injection i with i;injection j with j;injection m with m;injection o with o;injection q with q
  subst e i j m o q;exact⟨⟨D,E,n2,F,G,A,l.length,c⟩,rfl,wf_u32 I⟩
end
section
variable {P:Program}{W:World}{H:Type}{en:TypeId×Value->H}
theorem xm {n:Nat}{e:TypeId}{k:IntKind}{t:TypeId}{fuel base:Nat}{sp:Nat->Bool}{held:Bool}{cs:List Value}{l:List Int}{q:List MemPlace}(y:P.underlying t=some (.array n e))(A:P.underlying e=some (.int k))(ce:P.cellsOf e=1)
 (h:DataW.trod en P W base sp held fuel t cs=some (.agg (l.map λx=>.lit (.int k x)),q))(B:P.cellsOf t=n):cs=l.map (Value.int k):=by
 obtain⟨xs,m,rfl,j,C,D,E⟩:=DataW.trod_array y h;have G:cs.length=n:=C.trans B;simp only[Prod.mk.injEq,DataW.agg.injEq]at j;have I:l.length=n:=by have:=congrArg List.length j.1;simpa[D]using this
 refine List.ext_getElem? λi=>?_;by_cases hi:i<n
 ·have b:=E i hi;rw[ce,Nat.mul_one]at b;have p:i<cs.length:=by omega
  rw[show(cs.drop i).take 1= [cs[i]]from by rw[List.drop_eq_getElem_cons p];rfl]at b;have r:i<xs.length:=by omega
  rw[List.getElem?_eq_getElem r]at b;obtain⟨x,o,F,_⟩:=DataW.trod_int A b;have a:=congrArg (λz=>z[i]?) j.1;simp only[List.getElem?_map,List.getElem?_eq_getElem r,Option.map_some,F]at a;have u:i<l.length:=by omega
  simp only[List.getElem?_eq_getElem u,Option.map_some,Option.some.injEq]at a;injection a with a
  injection a with _ a
  injection o with o _
  rw[List.getElem?_eq_getElem p,o,List.getElem?_map,List.getElem?_eq_getElem u,Option.map_some,a]
 ·rw[List.getElem?_eq_none (by omega),List.getElem?_eq_none (by simp;omega)]
theorem AK {n:String}{g:Nat}{cs:Array Value}{e:List MemPlace}(i:P.globalNamed n=some g)(a:W.var? P n=some cs)(j:0<cs.size)(l:MemPlace.row ⟨g,0,none⟩ cs.size ⊆ e)(m:∀b off,MemPlace.cell b off∈e->(∃c t,W.heap[b]? =some (.cells c t (0,0)))/\∀u v,W.cell? ⟨b,off,none⟩=some (.iface u v)->Value.okWide P W .any 0 u v):∃T,Blk W g cs T:=by
 have o:MemPlace.cell g 0∈e:=l (by unfold MemPlace.row;exact List.mem_map.2 ⟨0,List.mem_range.2 j,rfl⟩);obtain⟨⟨c,t,h⟩,_⟩:=m _ _ o;unfold World.var? at a;rw[i]at a;simp only[Option.bind_some,h,Option.some.injEq]at a;subst a;exact⟨t,h⟩
end
end
section
theorem JJ:ownKnob prog.godebug=none:=by kernel_rfl
theorem fv:laidOutB prog=true:=by kernel_rfl
def Nw:DataW Unit->List Int
 | .agg l=>l.filterMap λd=>match d with
  |.lit (.int _ x)=>some x
  |_=>none
 |_=>[]
def kR:List Int:=Nw Rows.laid_warden_sha_rounds
theorem JL:Rows.laid_warden_sha_rounds (H:=Unit)=.agg (kR.map λx=>.lit (.int .u32 x)):=by kernel_rfl
theorem HI:Rows.laid_warden_wardenref02_K (H:=Unit)=.agg (kR.map λx=>.lit (.int .u32 x)):=by kernel_rfl
theorem Df:kR.length=64:=by kernel_rfl
theorem EF:prog.globalNamed "warden/sha.rounds" =some 0:=by kernel_rfl
theorem gK:prog.globalNamed "warden/wardenref02.K" =some 1:=by kernel_rfl
theorem JA {W:World}(h:laidMetH prog Rows.svcAllUptoRow.laid W):eh W 0 kR/\eh W 1 kR:=by
 rw[MakeChecks.laidMetH_plain _ _ _ (by kernel_rfl)]at h;obtain⟨b,⟨C,t0,e,f0,D,E,q,r,t,i,⟨F,t1,j,f1,G,I,u,x,z,hd1,J,A⟩,l⟩,_,m⟩:=h;obtain rfl:=Option.some.inj (EF.symm.trans q);obtain rfl:=Option.some.inj (gK.symm.trans u);obtain rfl:=Option.some.inj ((show(prog.globals[0]?).map (·.type)=some 204 by kernel_rfl).symm.trans r);obtain rfl:=Option.some.inj ((show(prog.globals[1]?).map (·.type)=some 204 by kernel_rfl).symm.trans x);rw[JL]at i;rw[HI]at hd1;have n:=xm Tryz.underlying204 Tryz.underlying23 cU i (by kernel_rfl);have o:=xm Tryz.underlying204 Tryz.underlying23 cU hd1 (by kernel_rfl);obtain⟨e⟩:=e;obtain⟨j⟩:=j;simp only at n o;subst n o;have B:MemPlace.row ⟨0,0,none⟩ (kR.map (Value.int .u32)).toArray.size ⊆ b:=by rw[l];intro y a;simp only[List.mem_append];exact .inl (.inl a)
 have s1:MemPlace.row ⟨1,0,none⟩ (kR.map (Value.int .u32)).toArray.size ⊆ b:=by rw[l,A];intro y a;simp only[List.mem_append];exact .inr (.inl (.inl a))
 have p:0<(kR.map (Value.int .u32)).toArray.size:=by simp[Df]
 exact⟨⟨Df,AK EF t p B m⟩,Df,AK gK z p s1 m⟩
theorem HY(os:Os)(args:Array Value):laidMetH prog Rows.svcAllUptoRow.laid ((World.doorLaid prog 400 os).forCall (λ_ _=>0) ⟨#[],args,[]⟩).memory:=
 laidMetH_of_parts3 (fuel:=8) (laidMet_of_run' 8 (by kernel_rfl) (by kernel_rfl)) (by kernel_rfl) (by kernel_rfl)
section
variable {H:Type}{enc:TypeId×Value->H}
theorem AN {a:Assume}{C:Checked}{os:Os}{f:FuncId}{fn:Func}{s:OpenSpec}{k:(H:Type)->List (DataW H)->Bool}(l:s.cond=some k){F:Stop.Interp}{conds:List PathCond}{apart fresh handsOn again:Bool}{X:World->Array Value->Prop}
 (m:∀(w w':World)(args:Array Value),w.heap=w'.heap->X w args->X w' args)
 (own:ownKnob C.prog.godebug=none)(started:os.Started)(n:C.prog.inits.idxOf? f=none)(o:C.prog.funcs[f]? =some fn)
 (witness:∃(w:World)(tape:Tape)(i:Input),w.os=os/\(w.forCall tape i).Shaped C.prog/\i.vars= []/\Input.okWide C.prog (w.forCall tape i) .any w.heap.size f i/\
  ((s.pre enc C.prog fn conds apart (w.forCall tape i).memory i.args/\X (w.forCall tape i).memory i.args)/\sizedMet enc C.prog fn s apart (w.forCall tape i).memory i.args)/\a.holds C.prog (lone (Frame.enter C.prog f i.args .normal) [] (w.forCall tape i)))
 (p:∀(W:World)(base:Nat)(args:Array Value)(ds gs:List (DataW H))(before:List MemPlace),
  (∀(j:Nat) t v,fn.params[j]? =some t->args[j]? =some v->Value.okWide C.prog W .any base t v)->
  DataW.Whole enc C.prog fn.params.toList s.vars apart W args.toList ds gs before->
  k H (ds++gs)=true->X W args->
  Calls C.prog f args W λe h=>∃v,e=.returned v/\(s.at F).post enc C.prog fn apart fresh handsOn again W args v h):
 ReturnsInHanded a C os f .any (λw args=>(s.pre enc C.prog fn conds apart w args/\X w args)/\sizedMet enc C.prog fn s apart w args) ((s.at F).post enc C.prog fn apart fresh handsOn again):=by
 refine returnsInHanded_of_calls own started n witness ?_;intro w tape i _ _ _ q b D;obtain⟨_,_,_,r,u,_,_,_,_,x⟩:=q;have e:r=fn:=Option.some.inj (u.symm.trans o);subst e;obtain⟨⟨b,y⟩,E⟩:=b;obtain⟨ds,gs,before,hw,G,z⟩:=(OpenSpec.pre_some l conds apart _ _).1 b;have A:=DataW.Whole.of_heap (w':=w.forCall tape i) (by rfl) hw;refine(p (w.forCall tape i) w.heap.size i.args ds gs before x A z (m _ _ _ (by rfl) y)).mono λe h ⟨v,he,B⟩=>?_;subst he;exact ChangeSpec.post_blind B
end
abbrev uS:OpenSpec:=Rows.OpenSpec.upto Rows.svcAllSpec
abbrev zZ:Array Value:= #[.int .i64 1,.slice none 0 0,.agg #[.int .u32 1,.int .u32 1,.int .u32 1,.int .u32 1,.int .u32 1,.int .u32 1,.int .u32 1,.int .u32 1],.slice none 0 0,.slice none 0 0,.int .i64 1,.int .i64 1,.int .u32 1]
set_option maxRecDepth 100000 in
theorem De(os:Os)(started:os.Started)(H:Type)(en:TypeId×Value->H)(F:Stop.Interp):
 ReturnsInHanded {} Tryz.checked os 3 .any (λw args=>(uS.pre en prog Tryz.f3 [] false w args/\laidMetH prog Rows.svcAllUptoRow.laid w)/\sizedMet en prog Tryz.f3 uS false w args)
  ((uS.at F).post en prog Tryz.f3 false true false false):=by
 refine AN (C:=Tryz.checked) (s:=uS) (k:=Rows.uptoSmall) rfl (X:=λw _=>laidMetH prog Rows.svcAllUptoRow.laid w) (λ_ _ _ hh h=>h.of_heap hh) JJ started (by kernel_rfl) Tryz.func3 ?_ ?_
 ·have a:DataW.whole en prog ((World.doorLaid prog 400 os).forCall (λ_ _=>0) ⟨#[],zZ,[]⟩).memory Tryz.f3.params.toList uS.vars false zZ.toList 8=some ([.lit (.int .i64 1),.nil,.agg [.lit (.int .u32 1),.lit (.int .u32 1),.lit (.int .u32 1),.lit (.int .u32 1),.lit (.int .u32 1),.lit (.int .u32 1),.lit (.int .u32 1),.lit (.int .u32 1)],.nil,.nil,.lit (.int .i64 1),.lit (.int .i64 1),.lit (.int .u32 1)],[],[]):=by kernel_rfl
  have N:Input.okWideB prog ((World.doorLaid prog 400 os).forCall (λ_ _=>0) ⟨#[],zZ,[]⟩) 3 ⟨#[],zZ,[]⟩=true:=by kernel_rfl
  refine⟨World.doorLaid prog 400 os,λ_ _=>0,⟨#[],zZ,[]⟩,rfl,World.shaped_of_RefB (by kernel_rfl) (by kernel_rfl),(Input.okWide_of_okWideB (base:=0) N).1,(Input.okWide_of_okWideB N).2,
   ⟨⟨(OpenSpec.pre_some rfl [] false _ _).2 ⟨_,_,_,DataW.Whole_of_whole a,by kernel_rfl,by kernel_rfl⟩,HY os _⟩,by kernel_rfl,_,_,_,DataW.Whole_of_whole a,by kernel_rfl⟩,?_⟩
  simp only[Assume.holds];exact⟨by simp,by simp,λ_=>Modest.zero,by simp,by simp⟩
 intro W base args ds gs before O Q u hL;have o:∀(j:Nat) t v,Tryz.f3.params[j]? =some t->args[j]? =some v->Value.okWide prog W .any base t v:=O;have B:=Q;obtain⟨p,q,R,hV,rfl,_,_⟩:=Q;have b:DataW.TrodAll en prog W 0 (λ_=>true) true Tryz.f3.params.toList args.toList ds p:=R;rw[Tryz.params3]at b o;clear R O;obtain⟨args⟩:=args;obtain⟨v0,_,d0,_,p0,_,E,rfl,rfl,S,b⟩:=trodAll_cons b;obtain⟨v1,_,d1,_,T,_,rfl,rfl,rfl,U,b⟩:=trodAll_cons b;obtain⟨v2,_,d2,_,p2,_,rfl,rfl,rfl,V,b⟩:=trodAll_cons b;obtain⟨Y,_,d3,_,p3,_,rfl,rfl,rfl,h3,b⟩:=trodAll_cons b;obtain⟨v4,_,d4,_,p4,_,rfl,rfl,rfl,h4,b⟩:=trodAll_cons b;obtain⟨v5,_,d5,_,p5,_,rfl,rfl,rfl,h5,b⟩:=trodAll_cons b;obtain⟨v6,_,d6,_,p6,_,rfl,rfl,rfl,h6,b⟩:=trodAll_cons b;obtain⟨v7,_,d7,_,p7,_,rfl,rfl,rfl,h7,b⟩:=trodAll_cons b;obtain⟨rfl,rfl,rfl⟩:=trodAll_nil b;have E:args= [v0,v1,v2,Y,v4,v5,v6,v7]:=E;subst E;obtain⟨rfl,rfl⟩:=trodVars_none hV;have A:∀d∈ [d0,d1,d2,d3,d4,d5,d6,d7],Rows.uptoBulk d<=1048576:=λd hd=>by
  have u:decide (Rows.uptoBulkAll ([d0,d1,d2,d3,d4,d5,d6,d7]++ [])<=1048576)=true:=u;have u:=of_decide_eq_true u;rw[List.append_nil]at u;have:=uW hd;omega
 have WJ:=A d1 (by simp);have aa:=A d3 (by simp);have a0:=A d4 (by simp);clear A u;obtain⟨x0,rfl,rfl,rfl,_⟩:=open_int Tryz.underlying3 (o 0 3 v0 rfl rfl) S;obtain⟨x5,rfl,rfl,rfl,_⟩:=open_int Tryz.underlying3 (o 5 3 v5 rfl rfl) h5;obtain⟨x6,rfl,rfl,rfl,_⟩:=open_int Tryz.underlying3 (o 6 3 v6 rfl rfl) h6;obtain⟨x7,rfl,rfl,rfl,_⟩:=open_int Tryz.underlying23 (o 7 23 v7 rfl rfl) h7;have:Inhabited zK:=⟨⟨0,0,0,0,0,none,0,0⟩⟩;obtain⟨a1,n1,c1,rfl⟩:=okWide_slice Tryz.underlying22 (o 1 22 v1 rfl rfl);obtain⟨aA,aC,al,ea,rA,a2,ab⟩:=nk (α:=zK) Tryz.underlying22 (by kernel_rfl) (λx _=>0<=x.v/\x.v<4294967296) (λn cs D p _ h=>Hs h) U.choose_spec;simp only[Value.cells,List.cons.injEq,and_true,Value.slice.injEq]at ea;obtain⟨rfl,rfl,rfl⟩:=ea;have UF:=o 2 24 v2 rfl rfl;simp only[Value.okWide,Tryz.underlying24]at UF;obtain⟨⟨G⟩,rfl,I,_⟩:=UF;have I:G.length=8:=I.trans (by kernel_rfl);obtain⟨lk,J,Zs,m,rfl⟩:=open_row (k:=8) Tryz.underlying24 Tryz.underlying23 cU (show(Value.agg ⟨G⟩).cells.toList.length=8 from I) V.choose_spec;have J:G=lk.map (λx=>Value.int .u32 x.v):=J;subst J;obtain⟨a3,n3,c3,rfl⟩:=okWide_slice Tryz.underlying25 (o 3 25 Y rfl rfl);obtain⟨ns,es,hN,ae⟩:=FI Tryz.underlying25 Tryz.underlying31 cS Tryz.underlying23 cU h3.choose_spec;simp only[Value.cells,List.cons.injEq,and_true,Value.slice.injEq]at es;obtain⟨rfl,rfl,rfl⟩:=es;have:Inhabited Cal:=⟨⟨0,0,Fl.zero,false,0,0,none,0,0⟩⟩;obtain⟨a4,n4,c4,rfl⟩:=okWide_slice Tryz.underlying26 (o 4 26 v4 rfl rfl);obtain⟨cA,cC,cl,ec,rC,R0,af⟩:=nk (α:=Cal) Tryz.underlying26 (by kernel_rfl) (λx _=>∃l:List U32,Rd W (λk=>k<W.heap.size) x.A x.m x.c l/\(∀y∈l,0<=y.v/\y.v<4294967296)/\Fl.Rg x.f/\x.f.Ok) (λn cs D p _ h=>FK h) h4.choose_spec;simp only[Value.cells,List.cons.injEq,and_true,Value.slice.injEq]at ec;obtain⟨rfl,rfl,rfl⟩:=ec;simp only[List.append_nil,List.nil_append]at B;have L:∀x∈T++(p3++p4),x.block<W.heap.size:=λx a=>B.lt x a;obtain⟨ah,an⟩:=JA hL
 match lk,Zs,m with
 | [k0,k1,k2,k3,k4,k5,k6,k7],_,m=>
  have az:(S8.mk k0.v k1.v k2.v k3.v k4.v k5.v k6.v k7.v).ok:=⟨m k0 (by simp),m k1 (by simp),m k2 (by simp),m k3 (by simp),m k4 (by simp),m k5 (by simp),m k6 (by simp),m k7 (by simp)⟩;refine(KU rA (λx a=>by
   obtain⟨i,hi⟩:=List.getElem?_of_mem a;obtain⟨_,M,_⟩:=ab i x hi;exact M) (by omega) hN (ae aa) rC (by omega) (λi x hi=>by
   obtain⟨_,M,_⟩:=af i x hi;exact M) ah an x0 x5 x6 x7 az).mono ?_
  rintro e W' ⟨_,rfl,rfl,z⟩;have r:Below W.heap.size W W':=⟨z.kept.os,z.kept.tape,z.kept.output,z.kept.size,λk u=>z.kept.block k ⟨u,λh=>h⟩⟩;refine⟨_,rfl,_,_,_,[],T++(p3++p4),[],B,trodAll_mk1 (shut_bool Tryz.underlying4 _),?_,rfl,r.frame _,λh=>by cases h⟩;have:=trodAll_cons_mk (Below.trod fv (by kernel_rfl) (of_decide_eq_true (by kernel_rfl)) S r (λx a=>by cases a))
   (trodAll_cons_mk (Below.trod fv (by kernel_rfl) (of_decide_eq_true (by kernel_rfl)) U r (λx a=>L x (List.mem_append_left _ a)))
   (trodAll_cons_mk (Below.trod fv (by kernel_rfl) (of_decide_eq_true (by kernel_rfl)) V r (λx a=>by cases a))
   (trodAll_cons_mk (Below.trod fv (by kernel_rfl) (of_decide_eq_true (by kernel_rfl)) h3 r (λx a=>L x (List.mem_append_right _ (List.mem_append_left _ a))))
   (trodAll_cons_mk (Below.trod fv (by kernel_rfl) (of_decide_eq_true (by kernel_rfl)) h4 r (λx a=>L x (List.mem_append_right _ (List.mem_append_right _ a))))
   (trodAll_cons_mk (Below.trod fv (by kernel_rfl) (of_decide_eq_true (by kernel_rfl)) h5 r (λx a=>by cases a))
   (trodAll_cons_mk (Below.trod fv (by kernel_rfl) (of_decide_eq_true (by kernel_rfl)) h6 r (λx a=>by cases a))
   (trodAll_cons_mk (Below.trod fv (by kernel_rfl) (of_decide_eq_true (by kernel_rfl)) h7 r (λx a=>by cases a)) trodAll_mk0)))))))
  simp only[List.append_nil,List.nil_append]at this;exact this
theorem tQ:Rows.SvcAllUptoSaid:=
 OpenClaim.holds_of_cond 3 Tryz.f3 rfl rfl rfl rfl rfl rfl rfl ⟨rfl,rfl,rfl,rfl,rfl⟩ rfl rfl rfl rfl rfl (by kernel_rfl) Tryz.func3 (by kernel_rfl)
  (of_decide_eq_true (by kernel_rfl)) (by unfold Func.isWrapper;(rw[if_neg (by decide+kernel)];exact⟨rfl,rfl⟩))
  (λos started H enc _ F=>De os started H enc F)
end
theorem svcAllUpto_card:Rows.SvcAllUptoCardSaid:=
 Claim7.holds_tied_plain_at .later [] [.data,.data] true Rows.svcAllUptoCard.stood.harness false
  tQ (λ_ h=>by cases h) (by kernel_rfl) (λ_ h=>by cases h) svcAllUpto_row_tie rfl ⟨rfl,rfl⟩ (by kernel_rfl) rfl
  (λf fn b i=>by
   obtain rfl:f=3:=Option.some.inj ((show prog.funcNamed "warden/wardenlaw19.SvcAll" =some 3 by kernel_rfl).symm.trans b) |>.symm
   obtain rfl:fn=Tryz.f3:=(Option.some.inj (Tryz.func3.symm.trans i)).symm;exact⟨by kernel_rfl,λj t a=>by
    rw[Tryz.params3]at a;have l:t=3\/t=22\/t=24\/t=25\/t=26\/t=23:=by
     rcases j with _|_|_|_|_|_|_|_|j
     ·have e:=a;simp at e;subst e;simp
     ·have e:=a;simp at e;subst e;simp
     ·have e:=a;simp at e;subst e;simp
     ·have e:=a;simp at e;subst e;simp
     ·have e:=a;simp at e;subst e;simp
     ·have e:=a;simp at e;subst e;simp
     ·have e:=a;simp at e;subst e;simp
     ·have e:=a;simp at e;subst e;simp
     ·simp at a
    rcases l with rfl|rfl|rfl|rfl|rfl|rfl
    ·exact(show prog.wantsStandIn 3=false by kernel_rfl)
    ·exact(show prog.wantsStandIn 22=false by kernel_rfl)
    ·exact(show prog.wantsStandIn 24=false by kernel_rfl)
    ·exact(show prog.wantsStandIn 25=false by kernel_rfl)
    ·exact(show prog.wantsStandIn 26=false by kernel_rfl)
    ·exact(show prog.wantsStandIn 23=false by kernel_rfl)⟩)
  (by kernel_rfl)
#print axioms svcAllUpto_card
end Go.Proofs.YtbcmefndjggkpaaGreatDoor
