/- ViewParts returns true for every input of bulk at most 1048576; each argument reads behind the call as it read before. -/
import Derived.Test.YtkbcgjfejboigaaDoorA1
import Derived.Laws.IdiomCopy
import Derived.Laws.MakeOwn
import Derived.Laws.OwnMore
import Derived.Lib.SliceRun
import Derived.Maps.AppendAt
import Derived.Deep.Upon
import Derived.ArgAppend
import Derived.Shelf.LaysM
import Derived.Shelf.Strconv.Itoa3
import Derived.KernelRfl
import Derived.Test.YtkbcgjfejboigaaDoorProg
import Derived.Lib.ItoaLen
set_option linter.unusedVariables false
set_option linter.unusedSimpArgs false
namespace Go.Proofs.YtkbcgjfejboigaaDoor
open Go Go.RowKit V
open Go.IntKind (i64 u32 u64)
open Go.Proofs (Tryd.prog)
section
set_option maxRecDepth 100000
def iP(aA:Option Addr)(aN:Nat)(aC:Nat)(bA:Option Addr)(bN:Nat)(bC:Nat)(R:ax)(w:World):Prop:=
 split ((((aN:Nat):Int):Int) !=((bN:Nat):Int)) (
  R (.int .i64 (-2)) w) (
  ∃J:Bool→World→Prop,(
   split ((((aN:Nat):Int):Int)==1024) (
    1024≤aN∧
    ay aA fun NB=>
    ∃xM:Array Value,(xM.size=1024∧∀i u,xM[i]? =some u→w.drew.cell? (NB.add i)=some u)∧
    1024≤bN∧
    ay bA fun GQ=>
    ∃yn:Array Value,(yn.size=1024∧∀i u,yn[i]? =some u→w.drew.cell? (GQ.add i)=some u)∧
    aZ (jl [.int .u32] 1024) (xM:Array Value).toList=true∧
    aZ (jl [.int .u32] 1024) (yn:Array Value).toList=true∧
    J (aL xM yn) w.drew) (
    J false w.drew))∧∀(Bg:Nat→Value)(GM:Bool),∀wv,J GM wv→
  split GM (
   R (.int .i64 (-1)) wv) (
   ∃I:Nat→Int→World→Prop,(∃m,I m 0 wv)∧∀(m:Nat)(Bf:Nat→Value)(yk:Int),∀wC,I m yk wC→
   split (decide ((yk:Int)<((aN:Nat):Int))) (
    (0≤(yk:Int)∧(yk:Int)<((aN:Nat):Int))∧
    ay aA fun E3=>
    ∃BN:Int,wC.drew.cell? (E3.add (Int.toNat yk*1))=some (.int .u32 BN)∧
    (0≤(yk:Int)∧(yk:Int)<((bN:Nat):Int))∧
    ay bA fun p34=>
    ∃CQ:Int,wC.drew.cell? (p34.add (Int.toNat yk*1))=some (.int .u32 CQ)∧
    split ((BN:Int) !=CQ) (
     R (.int .i64 yk) wC.drew) (
     ∃m1,m1<m∧I m1 (i64.wrap (yk+1)) wC.drew)) (
    R (.int .i64 (-1)) wC)))
def nO:Ann:=(.node none .leaf (.node none .leaf (.node none (.node none (.node (some ⟨[(22,.one (.bool))],[11,12,13,14,15,16,17,18,19,20,21,22]⟩) .leaf .leaf) .leaf) (.node none (.node none .leaf (.node none (.node (some ⟨[(25,.one (.int .i64))],[4,5,25,26,27,28,29,30,31,32,33,34,35,36,37,38]⟩) .leaf .leaf) .leaf)) .leaf))))
theorem ViParts_eq(aA:Option Addr)(aN:Nat)(aC:Nat)(bA:Option Addr)(bN:Nat)(bC:Nat)(R:ax)(w:World):iP aA aN aC bA bN bC R w=vcF Tryd.prog aB [] Tryd.f17 nO [(.slice aA aN aC),(.slice bA bN bC)] R none w:=by kernel_rfl
theorem jq(aA:Option Addr)(aN:Nat)(aC:Nat)(bA:Option Addr)(bN:Nat)(bC:Nat) {R:ax} {w:World}(h:iP aA aN aC bA bN bC R w):Calls Tryd.prog 17 #[(.slice aA aN aC),(.slice bA bN bC)] w fun e w'=>∃v,e= .returned v∧R v w':=
 aq Tryd.func17 av ar ((ViParts_eq aA aN aC bA bN bC R w).mp h)
def gD(aA:Option Addr)(aN:Nat)(aC:Nat)(bA:Option Addr)(bN:Nat)(bC:Nat)(R:ax)(w:World):Prop:=
 ∀i:Int,i=0→
 ∃I:Nat→Int→World→Prop,(∃m,I m i w)∧∀(m:Nat)(Bg:Nat→Value)(i1:Int),∀wv,I m i1 wv→
 split (decide ((i1:Int)<((aN:Nat):Int))) (
  (0≤(i1:Int)∧(i1:Int)<((aN:Nat):Int))∧
  ay aA fun zO=>
  ∃BO:Int,wv.drew.cell? (zO.add (Int.toNat i1*1))=some (.int .u32 BO)∧
  (0≤(i1:Int)∧(i1:Int)<((bN:Nat):Int))∧
  ay bA fun p18=>
  ∃yT:Int,wv.drew.cell? (p18.add (Int.toNat i1*1))=some (.int .u32 yT)∧
  split ((BO:Int) !=yT) (
   R (.int .i64 i1) wv.drew) (
   ∀i2:Int,i2=(i64.wrap (i1+1))→
   ∃m1,m1<m∧I m1 i2 wv.drew)) (
  R (.int .i64 (-1)) wv)
def mF:Ann:=(.node none .leaf (.node none (.node none .leaf (.node none (.node (some ⟨[(5,.one (.int .i64))],[4,5,6,7,8,9,10,11,12,13,14,15,16,17,18,19,20,21]⟩) .leaf .leaf) .leaf)) .leaf))
theorem R25Apart_eq(aA:Option Addr)(aN:Nat)(aC:Nat)(bA:Option Addr)(bN:Nat)(bC:Nat)(R:ax)(w:World):gD aA aN aC bA bN bC R w=vcF Tryd.prog aB [5] Tryd.f12 mF [(.slice aA aN aC),(.slice bA bN bC)] R none w:=by kernel_rfl
theorem iV(aA:Option Addr)(aN:Nat)(aC:Nat)(bA:Option Addr)(bN:Nat)(bC:Nat) {R:ax} {w:World}(h:gD aA aN aC bA bN bC R w):Calls Tryd.prog 12 #[(.slice aA aN aC),(.slice bA bN bC)] w fun e w'=>∃v,e= .returned v∧R v w':=
 aq Tryd.func12 av ar ((R25Apart_eq aA aN aC bA bN bC R w).mp h)
def fT(n:Int)(R:ax)(w:World):Prop:=
 (0≤(i64.wrap (((n:Int).tmod 10)+1):Int)∧(i64.wrap (((n:Int).tmod 10)+1):Int)≤(((⟨#[48,49,50,51,52,53,54,55,56,57,97,98,99,100,101,102]⟩:ByteArray).size:Nat):Int))∧
 (0≤((n:Int).tmod 10:Int)∧((n:Int).tmod 10:Int)≤((Int.toNat (i64.wrap (((n:Int).tmod 10)+1)):Nat):Int))∧
 ∀n1:Int,n1=(i64.wrap ((n:Int).tdiv 10))→
 ∃I:Nat→Int→ByteArray→World→Prop,(∃m,I m n1 ((⟨#[48,49,50,51,52,53,54,55,56,57,97,98,99,100,101,102]⟩:ByteArray).extract (Int.toNat ((n:Int).tmod 10)) (Int.toNat (i64.wrap (((n:Int).tmod 10)+1)))) w)∧∀(m:Nat)(Bg:Nat→Value)(n2:Int)(s:ByteArray),∀wv,I m n2 s wv→
 split (decide ((n2:Int)>0)) (
  (0≤(i64.wrap (((n2:Int).tmod 10)+1):Int)∧(i64.wrap (((n2:Int).tmod 10)+1):Int)≤(((⟨#[48,49,50,51,52,53,54,55,56,57,97,98,99,100,101,102]⟩:ByteArray).size:Nat):Int))∧
  (0≤((n2:Int).tmod 10:Int)∧((n2:Int).tmod 10:Int)≤((Int.toNat (i64.wrap (((n2:Int).tmod 10)+1)):Nat):Int))∧
  ((⟨#[48,49,50,51,52,53,54,55,56,57,97,98,99,100,101,102]⟩:ByteArray).extract (Int.toNat ((n2:Int).tmod 10)) (Int.toNat (i64.wrap (((n2:Int).tmod 10)+1)))).size+s.size≤9223372036854775807∧
  ∀n3:Int,n3=(i64.wrap ((n2:Int).tdiv 10))→
  ∃m1,m1<m∧I m1 n3 (((⟨#[48,49,50,51,52,53,54,55,56,57,97,98,99,100,101,102]⟩:ByteArray).extract (Int.toNat ((n2:Int).tmod 10)) (Int.toNat (i64.wrap (((n2:Int).tmod 10)+1))))++s) wv) (
  R (.string s) wv)
def qk:Ann:=(.node none .leaf (.node none .leaf (.node none (.node none .leaf (.node none (.node (some ⟨[(0,.one (.int .i64)),(3,.one (.str))],[0,3,12,13,14,15,16,17,18,19,20,21,22,23]⟩) .leaf .leaf) .leaf)) .leaf)))
theorem R04Ten_eq(n:Int)(R:ax)(w:World):fT n R w=vcF Tryd.prog aB [0,3] Tryd.f44 qk [(.int .i64 n)] R none w:=by kernel_rfl
theorem k6(n:Int) {R:ax} {w:World}(h:fT n R w):Calls Tryd.prog 44 #[(.int .i64 n)] w fun e w'=>∃v,e= .returned v∧R v w':=
 aq Tryd.func44 av ar ((R04Ten_eq n R w).mp h)
def eV(wv:Int)(R:ax)(w:World):Prop:=
 Calls Tryd.prog 44 #[(.int .i64 (i64.wrap wv))] w fun e wC=>
 ∃x5:ByteArray,e= .returned (.string x5)∧
 R (.string x5) wC
def nW:Ann:= .leaf
theorem R04Tens_eq(wv:Int)(R:ax)(w:World):eV wv R w=vcF Tryd.prog aB [] Tryd.f25 nW [(.int .u32 wv)] R none w:=by kernel_rfl
theorem jw(wv:Int) {R:ax} {w:World}(h:eV wv R w):Calls Tryd.prog 25 #[(.int .u32 wv)] w fun e w'=>∃v,e= .returned v∧R v w':=
 aq Tryd.func25 av ar ((R04Tens_eq wv R w).mp h)
def eU(n:Int)(R:ax)(w:World):Prop:=
 Calls Tryd.prog 25 #[(.int .u32 (u32.wrap n))] w fun e wv=>
 ∃x5:ByteArray,e= .returned (.string x5)∧
 R (.string x5) wv
def nU:Ann:= .leaf
theorem R25Tens_eq(n:Int)(R:ax)(w:World):eU n R w=vcF Tryd.prog aB [] Tryd.f13 nU [(.int .i64 n)] R none w:=by kernel_rfl
theorem ju(n:Int) {R:ax} {w:World}(h:eU n R w):Calls Tryd.prog 13 #[(.int .i64 n)] w fun e w'=>∃v,e= .returned v∧R v w':=
 aq Tryd.func13 av ar ((R25Tens_eq n R w).mp h)
def fP(what:ByteArray)(p:Int)(aA:Option Addr)(aN:Nat)(aC:Nat)(bA:Option Addr)(bN:Nat)(bC:Nat)(R:ax)(w:World):Prop:=
 what.size+(⟨#[32]⟩:ByteArray).size≤9223372036854775807∧
 Calls Tryd.prog 18 #[(.int .i64 p)] w fun e wv=>
 ∃xL:ByteArray,e= .returned (.string xL)∧
 (what++(⟨#[32]⟩:ByteArray)).size+xL.size≤9223372036854775807∧
 Calls Tryd.prog 17 #[(.slice aA aN aC),(.slice bA bN bC)] wv fun e wC=>
 ∃yL:Int,e= .returned (.int .i64 yL)∧
 ∀yk:Bool,yk=((yL:Int)==(-1))→
 split yk (
  R (.string (⟨#[]⟩:ByteArray)) wC) (
  ∀zs:Bool,zs=((yL:Int)==(-2))→
  split zs (
   R (.string ((what++(⟨#[32]⟩:ByteArray))++xL)) wC) (
   ((what++(⟨#[32]⟩:ByteArray))++xL).size+(⟨#[32,119,111,114,100,32]⟩:ByteArray).size≤9223372036854775807∧
   Calls Tryd.prog 18 #[(.int .i64 yL)] wC fun e wF=>
   ∃yY:ByteArray,e= .returned (.string yY)∧
   (((what++(⟨#[32]⟩:ByteArray))++xL)++(⟨#[32,119,111,114,100,32]⟩:ByteArray)).size+yY.size≤9223372036854775807∧
   R (.string ((((what++(⟨#[32]⟩:ByteArray))++xL)++(⟨#[32,119,111,114,100,32]⟩:ByteArray))++yY)) wF))
def pZ:Ann:= .leaf
theorem ViTold_eq(what:ByteArray)(p:Int)(aA:Option Addr)(aN:Nat)(aC:Nat)(bA:Option Addr)(bN:Nat)(bC:Nat)(R:ax)(w:World):fP what p aA aN aC bA bN bC R w=vcF Tryd.prog aB [9,25,27] Tryd.f27 pZ [(.string what),(.int .i64 p),(.slice aA aN aC),(.slice bA bN bC)] R none w:=by kernel_rfl
theorem kT(what:ByteArray)(p:Int)(aA:Option Addr)(aN:Nat)(aC:Nat)(bA:Option Addr)(bN:Nat)(bC:Nat) {R:ax} {w:World}(h:fP what p aA aN aC bA bN bC R w):Calls Tryd.prog 27 #[(.string what),(.int .i64 p),(.slice aA aN aC),(.slice bA bN bC)] w fun e w'=>∃v,e= .returned v∧R v w':=
 aq Tryd.func27 av ar ((ViTold_eq what p aA aN aC bA bN bC R w).mp h)
def gC(aA:Option Addr)(aN:Nat)(aC:Nat)(bA:Option Addr)(bN:Nat)(bC:Nat)(R:ax)(w:World):Prop:=
 split ((((aN:Nat):Int):Int) !=((bN:Nat):Int)) (
  R (.string (⟨#[33]⟩:ByteArray)) w) (
  Calls Tryd.prog 12 #[(.slice aA aN aC),(.slice bA bN bC)] w fun e wv=>
  ∃xR:Int,e= .returned (.int .i64 xR)∧
  split (decide ((xR:Int)<0)) (
   R (.string (⟨#[]⟩:ByteArray)) wv) (
   Calls Tryd.prog 13 #[(.int .i64 xR)] wv fun e wC=>
   ∃xM:ByteArray,e= .returned (.string xM)∧
   (⟨#[32,119,111,114,100,32]⟩:ByteArray).size+xM.size≤9223372036854775807∧
   R (.string ((⟨#[32,119,111,114,100,32]⟩:ByteArray)++xM)) wC))
def mE:Ann:= .leaf
theorem R25Lists_eq(aA:Option Addr)(aN:Nat)(aC:Nat)(bA:Option Addr)(bN:Nat)(bC:Nat)(R:ax)(w:World):gC aA aN aC bA bN bC R w=vcF Tryd.prog aB [] Tryd.f14 mE [(.slice aA aN aC),(.slice bA bN bC)] R none w:=by kernel_rfl
theorem iU(aA:Option Addr)(aN:Nat)(aC:Nat)(bA:Option Addr)(bN:Nat)(bC:Nat) {R:ax} {w:World}(h:gC aA aN aC bA bN bC R w):Calls Tryd.prog 14 #[(.slice aA aN aC),(.slice bA bN bC)] w fun e w'=>∃v,e= .returned v∧R v w':=
 aq Tryd.func14 av ar ((R25Lists_eq aA aN aC bA bN bC R w).mp h)
def gA(s:ByteArray)(R:ax)(w:World):Prop:=
 split ((s:ByteArray).toList==((⟨#[33]⟩:ByteArray):ByteArray).toList) (
  R (.string (⟨#[]⟩:ByteArray)) w) (
  R (.string s) w)
def mB:Ann:= .leaf
theorem R25Plain_eq(s:ByteArray)(R:ax)(w:World):gA s R w=vcF Tryd.prog aB [] Tryd.f15 mB [(.string s)] R none w:=by kernel_rfl
theorem iR(s:ByteArray) {R:ax} {w:World}(h:gA s R w):Calls Tryd.prog 15 #[(.string s)] w fun e w'=>∃v,e= .returned v∧R v w':=
 aq Tryd.func15 av ar ((R25Plain_eq s R w).mp h)
def gB(aa:Int)(ab:Int)(ac:Bool)(adA:Option Addr)(adN:Nat)(adC:Nat)(ba:Int)(bb:Int)(bc:Bool)(bdA:Option Addr)(bdN:Nat)(bdC:Nat)(R:ax)(w:World):Prop:=
 ∀(gv:Nat)(wv:World),gv=w.heap.size→wv=w.alloc (.cells #[(.int .u32 aa),(.int .u32 ab),(.bool ac),(.slice adA adN adC)] 53)→
 ∀(wD:Nat)(wC:World),wD=wv.heap.size→wC=wv.alloc (.cells #[(.int .u32 ba),(.int .u32 bb),(.bool bc),(.slice bdA bdN bdC)] 53)→
 ∃x7a:Int,∃x7b:Int,(wC.cell? (((Addr.mk gv 0 none).add 0).add 0)=some (.int .u32 x7a)∧wC.cell? (((Addr.mk gv 0 none).add 0).add 1)=some (.int .u32 x7b))∧
 ∃Cj:Int,∃Ci:Int,(wC.cell? (((Addr.mk wD 0 none).add 0).add 0)=some (.int .u32 Cj)∧wC.cell? (((Addr.mk wD 0 none).add 0).add 1)=some (.int .u32 Ci))∧
 ∀x5:Bool,x5=(!(aL #[(.int .u32 x7a),(.int .u32 x7b)] #[(.int .u32 Cj),(.int .u32 Ci)]))→
 split x5 (
  R (.string (⟨#[32,101,110,116,114,121]⟩:ByteArray)) wC) (
  ∃xR:Bool,wC.cell? ((Addr.mk gv 0 none).add 2)=some (.bool xR)∧
  ∃BO:Bool,wC.cell? ((Addr.mk wD 0 none).add 2)=some (.bool BO)∧
  ∀yl:Bool,yl=(!(xR==BO))→
  split yl (
   R (.string (⟨#[32,104,105,100,100,101,110]⟩:ByteArray)) wC) (
   ∃Dx:Option Addr,∃Dv:Nat,∃Dw:Nat,wC.cell? ((Addr.mk gv 0 none).add 3)=some (.slice Dx Dv Dw)∧
   ∃Dl:Option Addr,∃Dj:Nat,∃Dk:Nat,wC.cell? ((Addr.mk wD 0 none).add 3)=some (.slice Dl Dj Dk)∧
   Calls Tryd.prog 14 #[(.slice Dx Dv Dw),(.slice Dl Dj Dk)] wC fun e wF=>
   ∃xx:ByteArray,e= .returned (.string xx)∧
   R (.string xx) wF))
def mD:Ann:= .leaf
theorem R25Pages_eq(aa:Int)(ab:Int)(ac:Bool)(adA:Option Addr)(adN:Nat)(adC:Nat)(ba:Int)(bb:Int)(bc:Bool)(bdA:Option Addr)(bdN:Nat)(bdC:Nat)(R:ax)(w:World):gB aa ab ac adA adN adC ba bb bc bdA bdN bdC R w=vcF Tryd.prog aB [5,11] Tryd.f16 mD [(.agg #[(.int .u32 aa),(.int .u32 ab),(.bool ac),(.slice adA adN adC)]),(.agg #[(.int .u32 ba),(.int .u32 bb),(.bool bc),(.slice bdA bdN bdC)])] R none w:=by kernel_rfl
theorem iT(aa:Int)(ab:Int)(ac:Bool)(adA:Option Addr)(adN:Nat)(adC:Nat)(ba:Int)(bb:Int)(bc:Bool)(bdA:Option Addr)(bdN:Nat)(bdC:Nat) {R:ax} {w:World}(h:gB aa ab ac adA adN adC ba bb bc bdA bdN bdC R w):Calls Tryd.prog 16 #[(.agg #[(.int .u32 aa),(.int .u32 ab),(.bool ac),(.slice adA adN adC)]),(.agg #[(.int .u32 ba),(.int .u32 bb),(.bool bc),(.slice bdA bdN bdC)])] w fun e w'=>∃v,e= .returned v∧R v w':=
 aq Tryd.func16 av ar ((R25Pages_eq aa ab ac adA adN adC ba bb bc bdA bdN bdC R w).mp h)
def dx(aA:Option Addr)(aN:Nat)(aC:Nat)(bA:Option Addr)(bN:Nat)(bC:Nat)(R:ax)(w:World):Prop:=
 split ((((aN:Nat):Int):Int) !=((bN:Nat):Int)) (
  R (.string (⟨#[105,110,115,101,99,117,114,101]⟩:ByteArray)) w) (
  ∃I:Nat→Int→World→Prop,(∃m,I m 0 w)∧∀(m:Nat)(Bg:Nat→Value)(xL:Int),∀wv,I m xL wv→
  split (decide ((xL:Int)<((aN:Nat):Int))) (
   ∃b:Nat→Nat→Prop,
   (0≤(xL:Int)∧(xL:Int)<((aN:Nat):Int))∧
   ay aA fun GQ=>
   b 4 ((GQ.add (Int.toNat xL*1)).block)∧
   ∃yh:Option Addr,∃xv:Nat,∃yg:Nat,wv.drew.cell? (GQ.add (Int.toNat xL*1))=some (.slice yh xv yg)∧
   (0≤(xL:Int)∧(xL:Int)<((bN:Nat):Int))∧
   ay bA fun LW=>
   b 8 ((LW.add (Int.toNat xL*1)).block)∧
   ∃zH:Option Addr,∃Bq:Nat,∃Aw:Nat,wv.drew.cell? (LW.add (Int.toNat xL*1))=some (.slice zH Bq Aw)∧
   Calls Tryd.prog 27 #[(.string (⟨#[105,110,115,101,99,117,114,101]⟩:ByteArray)),(.int .i64 xL),(.slice yh xv yg),(.slice zH Bq Aw)] wv.drew fun e wC=>
   ∃Bi:ByteArray,e= .returned (.string Bi)∧
   ∃b1:Nat→Nat→Prop,(∀i k,b i k→b1 i k)∧
   split (!((Bi:ByteArray).toList==((⟨#[]⟩:ByteArray):ByteArray).toList)) (
    R (.string Bi) wC) (
    ∃m1,m1<m∧I m1 (i64.wrap (xL+1)) wC)) (
   R (.string (⟨#[]⟩:ByteArray)) wv))
def fq:Ann:=(.node none .leaf (.node none .leaf (.node none (.node none .leaf (.node none (.node (some ⟨[(14,.one (.int .i64))],[4,5,6,14,15,16,17,18,19,20,21,22,23,24,25,26,27,28,29,30]⟩) .leaf .leaf) .leaf)) .leaf)))
theorem ViPartInsecure_eq(aA:Option Addr)(aN:Nat)(aC:Nat)(bA:Option Addr)(bN:Nat)(bC:Nat)(R:ax)(w:World):dx aA aN aC bA bN bC R w=vcF Tryd.prog aB [] Tryd.f19 fq [(.slice aA aN aC),(.slice bA bN bC)] R none w:=by kernel_rfl
theorem ep(aA:Option Addr)(aN:Nat)(aC:Nat)(bA:Option Addr)(bN:Nat)(bC:Nat) {R:ax} {w:World}(h:dx aA aN aC bA bN bC R w):Calls Tryd.prog 19 #[(.slice aA aN aC),(.slice bA bN bC)] w fun e w'=>∃v,e= .returned v∧R v w':=
 aq Tryd.func19 av ar ((ViPartInsecure_eq aA aN aC bA bN bC R w).mp h)
def eC(aA:Option Addr)(aN:Nat)(aC:Nat)(bA:Option Addr)(bN:Nat)(bC:Nat)(R:ax)(w:World):Prop:=
 split ((((aN:Nat):Int):Int) !=((bN:Nat):Int)) (
  R (.string (⟨#[112,97,103,101,115]⟩:ByteArray)) w) (
  ∃I:Nat→Int→World→Prop,(∃m,I m 0 w)∧∀(m:Nat)(Bg:Nat→Value)(xo:Int),∀wv,I m xo wv→
  split (decide ((xo:Int)<((aN:Nat):Int))) (
   ∃J:Option Addr→Option Addr→World→Prop,(
    ∃b:Nat→Nat→Prop,
    (0≤(xo:Int)∧(xo:Int)<((aN:Nat):Int))∧
    ay aA fun E4=>
    b 3 ((E4.add (Int.toNat xo*4)).block)∧
    ∃B4:Int,∃B3:Int,∃B1:Bool,∃x22dA:Option Addr,∃x22dN:Nat,∃x22dC:Nat,(wv.drew.cell? ((E4.add (Int.toNat xo*4)).add 0)=some (.int .u32 B4)∧wv.drew.cell? ((E4.add (Int.toNat xo*4)).add 1)=some (.int .u32 B3)∧wv.drew.cell? ((E4.add (Int.toNat xo*4)).add 2)=some (.bool B1)∧wv.drew.cell? ((E4.add (Int.toNat xo*4)).add 3)=some (.slice x22dA x22dN x22dC))∧
    (0≤(xo:Int)∧(xo:Int)<((bN:Nat):Int))∧
    ay bA fun Gi=>
    b 7 ((Gi.add (Int.toNat xo*4)).block)∧
    ∃zG:Int,∃zF:Int,∃zE:Bool,∃x26dA:Option Addr,∃x26dN:Nat,∃x26dC:Nat,(wv.drew.cell? ((Gi.add (Int.toNat xo*4)).add 0)=some (.int .u32 zG)∧wv.drew.cell? ((Gi.add (Int.toNat xo*4)).add 1)=some (.int .u32 zF)∧wv.drew.cell? ((Gi.add (Int.toNat xo*4)).add 2)=some (.bool zE)∧wv.drew.cell? ((Gi.add (Int.toNat xo*4)).add 3)=some (.slice x26dA x26dN x26dC))∧
    (∀(wD:Nat)(wC:World),wD=wv.drew.heap.size→wC=wv.drew.alloc (.cells (#[(.int .u32 0),(.int .u32 0),(.bool false),(.slice none 0 0)]) 66)→
     Kept (aX b [0,1,2,3,4,5,6,7]) wv.drew wC∧∃b1:Nat→Nat→Prop,(∀i k,b i k→b1 i k)∧
     ∀(wY:Nat)(wF:World),wY=wC.heap.size→wF=wC.alloc (.cells (#[(.int .u32 0),(.int .u32 0),(.bool false),(.slice none 0 0)]) 66)→
     Kept (aX b1 [0,1,2,3,4,5,6,7,8]) wC wF∧∃b2:Nat→Nat→Prop,(∀i k,b1 i k→b2 i k)∧
     aD wF (Addr.mk wD 0 none) [(.int .u32 B4),(.int .u32 B3),(.bool B1),(.slice x22dA x22dN x22dC)] fun wH=>
     Kept (aX b2 [4,5,6,7]) wF wH∧∃b3:Nat→Nat→Prop,(∀i k,b2 i k→b3 i k)∧
     aD wH (Addr.mk wY 0 none) [(.int .u32 zG),(.int .u32 zF),(.bool zE),(.slice x26dA x26dN x26dC)] fun wJ=>
     ∃b4:Nat→Nat→Prop,(∀i k,b3 i k→b4 i k)∧
     J (some (Addr.mk wD 0 none)) (some (Addr.mk wY 0 none)) wJ)∧
    (∀(wD:Nat)(wC:World),wD=wv.drew.heap.size→wC=wv.drew.alloc (.cells (#[(.int .u32 0),(.int .u32 0),(.bool false),(.slice none 0 0)]) 66)→
     Kept (aX b [0,1,2,3,4,5,6,7]) wv.drew wC∧∃b1:Nat→Nat→Prop,(∀i k,b i k→b1 i k)∧
     ∀(wY:Nat)(wF:World),wY=wC.heap.size→wF=wC.alloc (.cells (#[(.int .u32 0),(.int .u32 0),(.bool false),(.slice none 0 0)]) 66)→
     Kept (aX b1 [0,1,2,3,4,5,6,7,9]) wC wF∧∃b2:Nat→Nat→Prop,(∀i k,b1 i k→b2 i k)∧
     aD wF (Addr.mk wY 0 none) [(.int .u32 B4),(.int .u32 B3),(.bool B1),(.slice x22dA x22dN x22dC)] fun wH=>
     Kept (aX b2 [4,5,6,7]) wF wH∧∃b3:Nat→Nat→Prop,(∀i k,b2 i k→b3 i k)∧
     aD wH (Addr.mk wD 0 none) [(.int .u32 zG),(.int .u32 zF),(.bool zE),(.slice x26dA x26dN x26dC)] fun wJ=>
     ∃b4:Nat→Nat→Prop,(∀i k,b3 i k→b4 i k)∧
     J (some (Addr.mk wY 0 none)) (some (Addr.mk wD 0 none)) wJ))∧∀(Bf:Nat→Value)(x:Option Addr)(y:Option Addr),∀wC,J x y wC→
   ay x fun p28=>
   ∃Kd:Int,∃Kc:Int,(wC.cell? ((p28.add 0).add 0)=some (.int .u32 Kd)∧wC.cell? ((p28.add 0).add 1)=some (.int .u32 Kc))∧
   ay y fun E3=>
   ∃Kb:Int,∃Ka:Int,(wC.cell? ((E3.add 0).add 0)=some (.int .u32 Kb)∧wC.cell? ((E3.add 0).add 1)=some (.int .u32 Ka))∧
   ∀zs:Bool,zs=(!(aL #[(.int .u32 Kd),(.int .u32 Kc)] #[(.int .u32 Kb),(.int .u32 Ka)]))→
   split zs (
    Calls Tryd.prog 18 #[(.int .i64 xo)] wC fun e wF=>
    ∃Ge:ByteArray,e= .returned (.string Ge)∧
    (⟨#[112,97,103,101,32]⟩:ByteArray).size+Ge.size≤9223372036854775807∧
    ((⟨#[112,97,103,101,32]⟩:ByteArray)++Ge).size+(⟨#[32,101,110,116,114,121]⟩:ByteArray).size≤9223372036854775807∧
    R (.string (((⟨#[112,97,103,101,32]⟩:ByteArray)++Ge)++(⟨#[32,101,110,116,114,121]⟩:ByteArray))) wF) (
    ay x fun p38=>
    ∃Fo:Bool,wC.cell? (p38.add 2)=some (.bool Fo)∧
    ay y fun p40=>
    ∃At:Bool,wC.cell? (p40.add 2)=some (.bool At)∧
    ∀Fp:Bool,Fp=(!(Fo==At))→
    split Fp (
     Calls Tryd.prog 18 #[(.int .i64 xo)] wC fun e wF=>
     ∃EL:ByteArray,e= .returned (.string EL)∧
     (⟨#[112,97,103,101,32]⟩:ByteArray).size+EL.size≤9223372036854775807∧
     ((⟨#[112,97,103,101,32]⟩:ByteArray)++EL).size+(⟨#[32,104,105,100,100,101,110]⟩:ByteArray).size≤9223372036854775807∧
     R (.string (((⟨#[112,97,103,101,32]⟩:ByteArray)++EL)++(⟨#[32,104,105,100,100,101,110]⟩:ByteArray))) wF) (
     ay x fun p48=>
     ∃CK:Option Addr,∃CI:Nat,∃CJ:Nat,wC.cell? (p48.add 3)=some (.slice CK CI CJ)∧
     ay y fun p50=>
     ∃ID:Option Addr,∃IB:Nat,∃IC:Nat,wC.cell? (p50.add 3)=some (.slice ID IB IC)∧
     Calls Tryd.prog 27 #[(.string (⟨#[112,97,103,101]⟩:ByteArray)),(.int .i64 xo),(.slice CK CI CJ),(.slice ID IB IC)] wC fun e wF=>
     ∃ET:ByteArray,e= .returned (.string ET)∧
     split (!((ET:ByteArray).toList==((⟨#[]⟩:ByteArray):ByteArray).toList)) (
      R (.string ET) wF) (
      ∃m1,m1<m∧I m1 (i64.wrap (xo+1)) wF)))) (
   R (.string (⟨#[]⟩:ByteArray)) wv))
def jr:Ann:=(.node none .leaf (.node none .leaf (.node none (.node none .leaf (.node none (.node (some ⟨[(16,.one (.int .i64))],[4,5,6,7,8,16,17,18,19,20,21,22,23,24,25,26,27,28,29,30,31,32,33,34,35,36,37,38,39,40,41,42,43,44,45,46,47,48,49,50,51,52,53,54,55,56]⟩) (.node none .leaf (.node none .leaf (.node none (.node none (.node none .leaf (.node none (.node (some ⟨[(6,.one (.ptr)),(7,.one (.ptr))],[6,7,19,20,21,22,23,24,25,26]⟩) .leaf .leaf) .leaf)) .leaf) .leaf))) .leaf) .leaf)) .leaf)))
theorem ViPartSeen_eq(aA:Option Addr)(aN:Nat)(aC:Nat)(bA:Option Addr)(bN:Nat)(bC:Nat)(R:ax)(w:World):eC aA aN aC bA bN bC R w=vcF Tryd.prog aB [27,37] Tryd.f20 jr [(.slice aA aN aC),(.slice bA bN bC)] R none w:=by kernel_rfl
theorem fQ(aA:Option Addr)(aN:Nat)(aC:Nat)(bA:Option Addr)(bN:Nat)(bC:Nat) {R:ax} {w:World}(h:eC aA aN aC bA bN bC R w):Calls Tryd.prog 20 #[(.slice aA aN aC),(.slice bA bN bC)] w fun e w'=>∃v,e= .returned v∧R v w':=
 aq Tryd.func20 av ar ((ViPartSeen_eq aA aN aC bA bN bC R w).mp h)
def kh(aa:Int)(ab:Int)(ac:Int)(ad:Int)(ae:Int)(af:Int)(ag:Int)(ah:Int)(ai:Int)(aj:Int)(ak:Int)(al:Int)(am:Int)(an:Int)(ao:Int)(ap:Int)(aqA:Option Addr)(aqN:Nat)(aqC:Nat)(arA:Option Addr)(arN:Nat)(arC:Nat)(ba:Int)(bb:Int)(bc:Int)(bd:Int)(be:Int)(bf:Int)(bg:Int)(bh:Int)(bi:Int)(bj:Int)(bk:Int)(bl:Int)(bm:Int)(bn:Int)(bo:Int)(bp:Int)(bqA:Option Addr)(bqN:Nat)(bqC:Nat)(brA:Option Addr)(brN:Nat)(brC:Nat)(R:ax)(w:World):Prop:=
 ∀(gv:Nat)(wv:World),gv=w.heap.size→wv=w.alloc (.cells #[(.int .i64 aa),(.int .u32 ab),(.int .u32 ac),(.int .u32 ad),(.int .u32 ae),(.int .u32 af),(.int .u32 ag),(.int .u32 ah),(.int .u32 ai),(.int .u32 aj),(.int .u32 ak),(.int .u32 al),(.int .u32 am),(.int .u32 an),(.int .u32 ao),(.int .u32 ap),(.slice aqA aqN aqC),(.slice arA arN arC)] 27)→
 ∀(wD:Nat)(wC:World),wD=wv.heap.size→wC=wv.alloc (.cells #[(.int .i64 ba),(.int .u32 bb),(.int .u32 bc),(.int .u32 bd),(.int .u32 be),(.int .u32 bf),(.int .u32 bg),(.int .u32 bh),(.int .u32 bi),(.int .u32 bj),(.int .u32 bk),(.int .u32 bl),(.int .u32 bm),(.int .u32 bn),(.int .u32 bo),(.int .u32 bp),(.slice bqA bqN bqC),(.slice brA brN brC)] 27)→
 ∃x8:Int,wC.cell? ((Addr.mk gv 0 none).add 0)=some (.int .i64 x8)∧
 ∃yB:Int,wC.cell? ((Addr.mk wD 0 none).add 0)=some (.int .i64 yB)∧
 split ((x8:Int) !=yB) (
  R (.string (⟨#[98,105,114,116,104,115]⟩:ByteArray)) wC) (
  ∃b:Nat→Nat→Prop,
  ∀Eo:Option Addr,Eo=(some (if 15=0 then(Addr.mk gv 0 none).add 1 else((Addr.mk gv 0 none).add 1).add (0*1)))→∀Em:Nat,Em=15 - 0→∀En:Nat,En=15 - 0→
  ∀y8:Option Addr,y8=(some (if 15=0 then(Addr.mk wD 0 none).add 1 else((Addr.mk wD 0 none).add 1).add (0*1)))→∀yE:Nat,yE=15 - 0→∀AQ:Nat,AQ=15 - 0→
  Calls Tryd.prog 17 #[(.slice Eo Em En),(.slice y8 yE AQ)] wC.drew fun e wF=>
  ∃xo:Int,e= .returned (.int .i64 xo)∧
  ∃b1:Nat→Nat→Prop,(∀i k,b i k→b1 i k)∧
  split (decide ((xo:Int)≥0)) (
   Calls Tryd.prog 18 #[(.int .i64 xo)] wF fun e wH=>
   ∃yn:ByteArray,e= .returned (.string yn)∧
   (⟨#[114,101,103,105,115,116,101,114,32]⟩:ByteArray).size+yn.size≤9223372036854775807∧
   R (.string ((⟨#[114,101,103,105,115,116,101,114,32]⟩:ByteArray)++yn)) wH) (
   ∃Az:Option Addr,∃Ax:Nat,∃Ay:Nat,wF.cell? ((Addr.mk gv 0 none).add 16)=some (.slice Az Ax Ay)∧
   ∃zH:Option Addr,∃Bq:Nat,∃Aw:Nat,wF.cell? ((Addr.mk wD 0 none).add 16)=some (.slice zH Bq Aw)∧
   Calls Tryd.prog 19 #[(.slice Az Ax Ay),(.slice zH Bq Aw)] wF fun e wH=>
   ∃Bi:ByteArray,e= .returned (.string Bi)∧
   split (!((Bi:ByteArray).toList==((⟨#[]⟩:ByteArray):ByteArray).toList)) (
    R (.string Bi) wH) (
    ∃CZ:Option Addr,∃CX:Nat,∃CY:Nat,wH.cell? ((Addr.mk gv 0 none).add 17)=some (.slice CZ CX CY)∧
    ∃zi:Option Addr,∃yW:Nat,∃zh:Nat,wH.cell? ((Addr.mk wD 0 none).add 17)=some (.slice zi yW zh)∧
    Calls Tryd.prog 20 #[(.slice CZ CX CY),(.slice zi yW zh)] wH fun e wJ=>
    ∃Ge:ByteArray,e= .returned (.string Ge)∧
    R (.string Ge) wJ)))
def qf:Ann:= .leaf
theorem ViPart_eq(aa:Int)(ab:Int)(ac:Int)(ad:Int)(ae:Int)(af:Int)(ag:Int)(ah:Int)(ai:Int)(aj:Int)(ak:Int)(al:Int)(am:Int)(an:Int)(ao:Int)(ap:Int)(aqA:Option Addr)(aqN:Nat)(aqC:Nat)(arA:Option Addr)(arN:Nat)(arC:Nat)(ba:Int)(bb:Int)(bc:Int)(bd:Int)(be:Int)(bf:Int)(bg:Int)(bh:Int)(bi:Int)(bj:Int)(bk:Int)(bl:Int)(bm:Int)(bn:Int)(bo:Int)(bp:Int)(bqA:Option Addr)(bqN:Nat)(bqC:Nat)(brA:Option Addr)(brN:Nat)(brC:Nat)(R:ax)(w:World):kh aa ab ac ad ae af ag ah ai aj ak al am an ao ap aqA aqN aqC arA arN arC ba bb bc bd be bf bg bh bi bj bk bl bm bn bo bp bqA bqN bqC brA brN brC R w=vcF Tryd.prog aB [] Tryd.f6 qf [(.agg #[(.int .i64 aa),(.int .u32 ab),(.int .u32 ac),(.int .u32 ad),(.int .u32 ae),(.int .u32 af),(.int .u32 ag),(.int .u32 ah),(.int .u32 ai),(.int .u32 aj),(.int .u32 ak),(.int .u32 al),(.int .u32 am),(.int .u32 an),(.int .u32 ao),(.int .u32 ap),(.slice aqA aqN aqC),(.slice arA arN arC)]),(.agg #[(.int .i64 ba),(.int .u32 bb),(.int .u32 bc),(.int .u32 bd),(.int .u32 be),(.int .u32 bf),(.int .u32 bg),(.int .u32 bh),(.int .u32 bi),(.int .u32 bj),(.int .u32 bk),(.int .u32 bl),(.int .u32 bm),(.int .u32 bn),(.int .u32 bo),(.int .u32 bp),(.slice bqA bqN bqC),(.slice brA brN brC)])] R none w:=by kernel_rfl
theorem kW(aa:Int)(ab:Int)(ac:Int)(ad:Int)(ae:Int)(af:Int)(ag:Int)(ah:Int)(ai:Int)(aj:Int)(ak:Int)(al:Int)(am:Int)(an:Int)(ao:Int)(ap:Int)(aqA:Option Addr)(aqN:Nat)(aqC:Nat)(arA:Option Addr)(arN:Nat)(arC:Nat)(ba:Int)(bb:Int)(bc:Int)(bd:Int)(be:Int)(bf:Int)(bg:Int)(bh:Int)(bi:Int)(bj:Int)(bk:Int)(bl:Int)(bm:Int)(bn:Int)(bo:Int)(bp:Int)(bqA:Option Addr)(bqN:Nat)(bqC:Nat)(brA:Option Addr)(brN:Nat)(brC:Nat) {R:ax} {w:World}(h:kh aa ab ac ad ae af ag ah ai aj ak al am an ao ap aqA aqN aqC arA arN arC ba bb bc bd be bf bg bh bi bj bk bl bm bn bo bp bqA bqN bqC brA brN brC R w):Calls Tryd.prog 6 #[(.agg #[(.int .i64 aa),(.int .u32 ab),(.int .u32 ac),(.int .u32 ad),(.int .u32 ae),(.int .u32 af),(.int .u32 ag),(.int .u32 ah),(.int .u32 ai),(.int .u32 aj),(.int .u32 ak),(.int .u32 al),(.int .u32 am),(.int .u32 an),(.int .u32 ao),(.int .u32 ap),(.slice aqA aqN aqC),(.slice arA arN arC)]),(.agg #[(.int .i64 ba),(.int .u32 bb),(.int .u32 bc),(.int .u32 bd),(.int .u32 be),(.int .u32 bf),(.int .u32 bg),(.int .u32 bh),(.int .u32 bi),(.int .u32 bj),(.int .u32 bk),(.int .u32 bl),(.int .u32 bm),(.int .u32 bn),(.int .u32 bo),(.int .u32 bp),(.slice bqA bqN bqC),(.slice brA brN brC)])] w fun e w'=>∃v,e= .returned v∧R v w':=
 aq Tryd.func6 av ar ((ViPart_eq aa ab ac ad ae af ag ah ai aj ak al am an ao ap aqA aqN aqC arA arN arC ba bb bc bd be bf bg bh bi bj bk bl bm bn bo bp bqA bqN bqC brA brN brC R w).mp h)
def kg(aa:Int)(ab:Int)(ac:Int)(ad:Int)(ae:Int)(af:Int)(ag:Int)(ah:Int)(ai:Int)(aj:Int)(ak:Int)(al:Int)(am:Int)(an:Int)(ao:Int)(ap:Int)(aqA:Option Addr)(aqN:Nat)(aqC:Nat)(arA:Option Addr)(arN:Nat)(arC:Nat)(ba:Int)(bb:Int)(bc:Int)(bd:Int)(be:Int)(bf:Int)(bg:Int)(bh:Int)(bi:Int)(bj:Int)(bk:Int)(bl:Int)(bm:Int)(bn:Int)(bo:Int)(bp:Int)(bqA:Option Addr)(bqN:Nat)(bqC:Nat)(brA:Option Addr)(brN:Nat)(brC:Nat)(R:ax)(w:World):Prop:=
 ∀(gv:Nat)(wv:World),gv=w.heap.size→wv=w.alloc (.cells #[(.int .i64 aa),(.int .u32 ab),(.int .u32 ac),(.int .u32 ad),(.int .u32 ae),(.int .u32 af),(.int .u32 ag),(.int .u32 ah),(.int .u32 ai),(.int .u32 aj),(.int .u32 ak),(.int .u32 al),(.int .u32 am),(.int .u32 an),(.int .u32 ao),(.int .u32 ap),(.slice aqA aqN aqC),(.slice arA arN arC)] 27)→
 ∀(wD:Nat)(wC:World),wD=wv.heap.size→wC=wv.alloc (.cells #[(.int .i64 ba),(.int .u32 bb),(.int .u32 bc),(.int .u32 bd),(.int .u32 be),(.int .u32 bf),(.int .u32 bg),(.int .u32 bh),(.int .u32 bi),(.int .u32 bj),(.int .u32 bk),(.int .u32 bl),(.int .u32 bm),(.int .u32 bn),(.int .u32 bo),(.int .u32 bp),(.slice bqA bqN bqC),(.slice brA brN brC)] 27)→
 ∃Fl:Int,∃Fk:Int,∃Fj:Int,∃Fi:Int,∃Fh:Int,∃HB:Int,∃HA:Int,∃Hz:Int,∃x5i:Int,∃x5j:Int,∃x5k:Int,∃x5l:Int,∃x5m:Int,∃x5n:Int,∃x5o:Int,∃x5p:Int,∃x5qA:Option Addr,∃x5qN:Nat,∃x5qC:Nat,∃x5rA:Option Addr,∃x5rN:Nat,∃x5rC:Nat,(wC.cell? ((Addr.mk gv 0 none).add 0)=some (.int .i64 Fl)∧wC.cell? ((Addr.mk gv 0 none).add 1)=some (.int .u32 Fk)∧wC.cell? ((Addr.mk gv 0 none).add 2)=some (.int .u32 Fj)∧wC.cell? ((Addr.mk gv 0 none).add 3)=some (.int .u32 Fi)∧wC.cell? ((Addr.mk gv 0 none).add 4)=some (.int .u32 Fh)∧wC.cell? ((Addr.mk gv 0 none).add 5)=some (.int .u32 HB)∧wC.cell? ((Addr.mk gv 0 none).add 6)=some (.int .u32 HA)∧wC.cell? ((Addr.mk gv 0 none).add 7)=some (.int .u32 Hz)∧wC.cell? ((Addr.mk gv 0 none).add 8)=some (.int .u32 x5i)∧wC.cell? ((Addr.mk gv 0 none).add 9)=some (.int .u32 x5j)∧wC.cell? ((Addr.mk gv 0 none).add 10)=some (.int .u32 x5k)∧wC.cell? ((Addr.mk gv 0 none).add 11)=some (.int .u32 x5l)∧wC.cell? ((Addr.mk gv 0 none).add 12)=some (.int .u32 x5m)∧wC.cell? ((Addr.mk gv 0 none).add 13)=some (.int .u32 x5n)∧wC.cell? ((Addr.mk gv 0 none).add 14)=some (.int .u32 x5o)∧wC.cell? ((Addr.mk gv 0 none).add 15)=some (.int .u32 x5p)∧wC.cell? ((Addr.mk gv 0 none).add 16)=some (.slice x5qA x5qN x5qC)∧wC.cell? ((Addr.mk gv 0 none).add 17)=some (.slice x5rA x5rN x5rC))∧
 ∃zx:Int,∃Ab:Int,∃BM:Int,∃BL:Int,∃BK:Int,∃BJ:Int,∃BI:Int,∃BH:Int,∃BG:Int,∃Cm:Int,∃Fg:Int,∃Ff:Int,∃Fe:Int,∃Fc:Int,∃Fb:Int,∃x6p:Int,∃x6qA:Option Addr,∃x6qN:Nat,∃x6qC:Nat,∃x6rA:Option Addr,∃x6rN:Nat,∃x6rC:Nat,(wC.cell? ((Addr.mk wD 0 none).add 0)=some (.int .i64 zx)∧wC.cell? ((Addr.mk wD 0 none).add 1)=some (.int .u32 Ab)∧wC.cell? ((Addr.mk wD 0 none).add 2)=some (.int .u32 BM)∧wC.cell? ((Addr.mk wD 0 none).add 3)=some (.int .u32 BL)∧wC.cell? ((Addr.mk wD 0 none).add 4)=some (.int .u32 BK)∧wC.cell? ((Addr.mk wD 0 none).add 5)=some (.int .u32 BJ)∧wC.cell? ((Addr.mk wD 0 none).add 6)=some (.int .u32 BI)∧wC.cell? ((Addr.mk wD 0 none).add 7)=some (.int .u32 BH)∧wC.cell? ((Addr.mk wD 0 none).add 8)=some (.int .u32 BG)∧wC.cell? ((Addr.mk wD 0 none).add 9)=some (.int .u32 Cm)∧wC.cell? ((Addr.mk wD 0 none).add 10)=some (.int .u32 Fg)∧wC.cell? ((Addr.mk wD 0 none).add 11)=some (.int .u32 Ff)∧wC.cell? ((Addr.mk wD 0 none).add 12)=some (.int .u32 Fe)∧wC.cell? ((Addr.mk wD 0 none).add 13)=some (.int .u32 Fc)∧wC.cell? ((Addr.mk wD 0 none).add 14)=some (.int .u32 Fb)∧wC.cell? ((Addr.mk wD 0 none).add 15)=some (.int .u32 x6p)∧wC.cell? ((Addr.mk wD 0 none).add 16)=some (.slice x6qA x6qN x6qC)∧wC.cell? ((Addr.mk wD 0 none).add 17)=some (.slice x6rA x6rN x6rC))∧
 Calls Tryd.prog 6 #[(.agg #[(.int .i64 Fl),(.int .u32 Fk),(.int .u32 Fj),(.int .u32 Fi),(.int .u32 Fh),(.int .u32 HB),(.int .u32 HA),(.int .u32 Hz),(.int .u32 x5i),(.int .u32 x5j),(.int .u32 x5k),(.int .u32 x5l),(.int .u32 x5m),(.int .u32 x5n),(.int .u32 x5o),(.int .u32 x5p),(.slice x5qA x5qN x5qC),(.slice x5rA x5rN x5rC)]),(.agg #[(.int .i64 zx),(.int .u32 Ab),(.int .u32 BM),(.int .u32 BL),(.int .u32 BK),(.int .u32 BJ),(.int .u32 BI),(.int .u32 BH),(.int .u32 BG),(.int .u32 Cm),(.int .u32 Fg),(.int .u32 Ff),(.int .u32 Fe),(.int .u32 Fc),(.int .u32 Fb),(.int .u32 x6p),(.slice x6qA x6qN x6qC),(.slice x6rA x6rN x6rC)])] wC fun e wF=>
 ∃x7:ByteArray,e= .returned (.string x7)∧
 R (.bool ((x7:ByteArray).toList==((⟨#[]⟩:ByteArray):ByteArray).toList)) wF
def qe:Ann:= .leaf
theorem ViSame_eq(aa:Int)(ab:Int)(ac:Int)(ad:Int)(ae:Int)(af:Int)(ag:Int)(ah:Int)(ai:Int)(aj:Int)(ak:Int)(al:Int)(am:Int)(an:Int)(ao:Int)(ap:Int)(aqA:Option Addr)(aqN:Nat)(aqC:Nat)(arA:Option Addr)(arN:Nat)(arC:Nat)(ba:Int)(bb:Int)(bc:Int)(bd:Int)(be:Int)(bf:Int)(bg:Int)(bh:Int)(bi:Int)(bj:Int)(bk:Int)(bl:Int)(bm:Int)(bn:Int)(bo:Int)(bp:Int)(bqA:Option Addr)(bqN:Nat)(bqC:Nat)(brA:Option Addr)(brN:Nat)(brC:Nat)(R:ax)(w:World):kg aa ab ac ad ae af ag ah ai aj ak al am an ao ap aqA aqN aqC arA arN arC ba bb bc bd be bf bg bh bi bj bk bl bm bn bo bp bqA bqN bqC brA brN brC R w=vcF Tryd.prog aB [] Tryd.f7 qe [(.agg #[(.int .i64 aa),(.int .u32 ab),(.int .u32 ac),(.int .u32 ad),(.int .u32 ae),(.int .u32 af),(.int .u32 ag),(.int .u32 ah),(.int .u32 ai),(.int .u32 aj),(.int .u32 ak),(.int .u32 al),(.int .u32 am),(.int .u32 an),(.int .u32 ao),(.int .u32 ap),(.slice aqA aqN aqC),(.slice arA arN arC)]),(.agg #[(.int .i64 ba),(.int .u32 bb),(.int .u32 bc),(.int .u32 bd),(.int .u32 be),(.int .u32 bf),(.int .u32 bg),(.int .u32 bh),(.int .u32 bi),(.int .u32 bj),(.int .u32 bk),(.int .u32 bl),(.int .u32 bm),(.int .u32 bn),(.int .u32 bo),(.int .u32 bp),(.slice bqA bqN bqC),(.slice brA brN brC)])] R none w:=by kernel_rfl
theorem kV(aa:Int)(ab:Int)(ac:Int)(ad:Int)(ae:Int)(af:Int)(ag:Int)(ah:Int)(ai:Int)(aj:Int)(ak:Int)(al:Int)(am:Int)(an:Int)(ao:Int)(ap:Int)(aqA:Option Addr)(aqN:Nat)(aqC:Nat)(arA:Option Addr)(arN:Nat)(arC:Nat)(ba:Int)(bb:Int)(bc:Int)(bd:Int)(be:Int)(bf:Int)(bg:Int)(bh:Int)(bi:Int)(bj:Int)(bk:Int)(bl:Int)(bm:Int)(bn:Int)(bo:Int)(bp:Int)(bqA:Option Addr)(bqN:Nat)(bqC:Nat)(brA:Option Addr)(brN:Nat)(brC:Nat) {R:ax} {w:World}(h:kg aa ab ac ad ae af ag ah ai aj ak al am an ao ap aqA aqN aqC arA arN arC ba bb bc bd be bf bg bh bi bj bk bl bm bn bo bp bqA bqN bqC brA brN brC R w):Calls Tryd.prog 7 #[(.agg #[(.int .i64 aa),(.int .u32 ab),(.int .u32 ac),(.int .u32 ad),(.int .u32 ae),(.int .u32 af),(.int .u32 ag),(.int .u32 ah),(.int .u32 ai),(.int .u32 aj),(.int .u32 ak),(.int .u32 al),(.int .u32 am),(.int .u32 an),(.int .u32 ao),(.int .u32 ap),(.slice aqA aqN aqC),(.slice arA arN arC)]),(.agg #[(.int .i64 ba),(.int .u32 bb),(.int .u32 bc),(.int .u32 bd),(.int .u32 be),(.int .u32 bf),(.int .u32 bg),(.int .u32 bh),(.int .u32 bi),(.int .u32 bj),(.int .u32 bk),(.int .u32 bl),(.int .u32 bm),(.int .u32 bn),(.int .u32 bo),(.int .u32 bp),(.slice bqA bqN bqC),(.slice brA brN brC)])] w fun e w'=>∃v,e= .returned v∧R v w':=
 aq Tryd.func7 av ar ((ViSame_eq aa ab ac ad ae af ag ah ai aj ak al am an ao ap aqA aqN aqC arA arN arC ba bb bc bd be bf bg bh bi bj bk bl bm bn bo bp bqA bqN bqC brA brN brC R w).mp h)
def iQ(aa:Int)(ab:Int)(acA:Option Addr)(acN:Nat)(acC:Nat)(adA:Option Addr)(adN:Nat)(adC:Nat)(ba:Int)(bb:Int)(bcA:Option Addr)(bcN:Nat)(bcC:Nat)(bdA:Option Addr)(bdN:Nat)(bdC:Nat)(R:ax)(w:World):Prop:=
 ∀(gv:Nat)(wv:World),gv=w.heap.size→wv=w.alloc (.cells #[(.int .u32 aa),(.int .u32 ab),(.slice acA acN acC),(.slice adA adN adC)] 39)→
 ∀(wD:Nat)(wC:World),wD=wv.heap.size→wC=wv.alloc (.cells #[(.int .u32 ba),(.int .u32 bb),(.slice bcA bcN bcC),(.slice bdA bdN bdC)] 39)→
 ∃J:Bool→World→Prop,(
  ∃x6:Int,wC.cell? ((Addr.mk gv 0 none).add 0)=some (.int .u32 x6)∧
  ∃x8:Int,wC.cell? ((Addr.mk wD 0 none).add 0)=some (.int .u32 x8)∧
  split ((x6:Int)==x8) (
   ∃zK:Int,wC.cell? ((Addr.mk gv 0 none).add 1)=some (.int .u32 zK)∧
   ∃xL:Int,wC.cell? ((Addr.mk wD 0 none).add 1)=some (.int .u32 xL)∧
   split ((zK:Int)==xL) (
    ∃K0:Option Addr,∃KY:Nat,∃KZ:Nat,wC.cell? ((Addr.mk gv 0 none).add 2)=some (.slice K0 KY KZ)∧
    ∃yh:Option Addr,∃xv:Nat,∃yg:Nat,wC.cell? ((Addr.mk wD 0 none).add 2)=some (.slice yh xv yg)∧
    Calls Tryd.prog 19 #[(.slice K0 KY KZ),(.slice yh xv yg)] wC fun e wF=>
    ∃GM:ByteArray,e= .returned (.string GM)∧
    split ((GM:ByteArray).toList==((⟨#[]⟩:ByteArray):ByteArray).toList) (
     ∃Kh:Option Addr,∃Kf:Nat,∃Kg:Nat,wF.cell? ((Addr.mk gv 0 none).add 3)=some (.slice Kh Kf Kg)∧
     ∃zD:Option Addr,∃yC:Nat,∃zC:Nat,wF.cell? ((Addr.mk wD 0 none).add 3)=some (.slice zD yC zC)∧
     Calls Tryd.prog 20 #[(.slice Kh Kf Kg),(.slice zD yC zC)] wF fun e wH=>
     ∃zr:ByteArray,e= .returned (.string zr)∧
     J ((zr:ByteArray).toList==((⟨#[]⟩:ByteArray):ByteArray).toList) wH) (
     J false wF)) (
    J false wC)) (
   J false wC))∧∀(zV:Nat→Value)(x4:Bool),∀wF,J x4 wF→
 R (.bool x4) wF
def nQ:Ann:=(.node none .leaf (.node none (.node (some ⟨[(4,.one (.bool))],[4,5,6,7,8,9,10,11,12,13,14,15,16,17,18,19,20,21,22,23,24,25,26,27,28,29,30,31,32]⟩) .leaf .leaf) .leaf))
theorem ViAlike_eq(aa:Int)(ab:Int)(acA:Option Addr)(acN:Nat)(acC:Nat)(adA:Option Addr)(adN:Nat)(adC:Nat)(ba:Int)(bb:Int)(bcA:Option Addr)(bcN:Nat)(bcC:Nat)(bdA:Option Addr)(bdN:Nat)(bdC:Nat)(R:ax)(w:World):iQ aa ab acA acN acC adA adN adC ba bb bcA bcN bcC bdA bdN bdC R w=vcF Tryd.prog aB [] Tryd.f10 nQ [(.agg #[(.int .u32 aa),(.int .u32 ab),(.slice acA acN acC),(.slice adA adN adC)]),(.agg #[(.int .u32 ba),(.int .u32 bb),(.slice bcA bcN bcC),(.slice bdA bdN bdC)])] R none w:=by kernel_rfl
theorem js(aa:Int)(ab:Int)(acA:Option Addr)(acN:Nat)(acC:Nat)(adA:Option Addr)(adN:Nat)(adC:Nat)(ba:Int)(bb:Int)(bcA:Option Addr)(bcN:Nat)(bcC:Nat)(bdA:Option Addr)(bdN:Nat)(bdC:Nat) {R:ax} {w:World}(h:iQ aa ab acA acN acC adA adN adC ba bb bcA bcN bcC bdA bdN bdC R w):Calls Tryd.prog 10 #[(.agg #[(.int .u32 aa),(.int .u32 ab),(.slice acA acN acC),(.slice adA adN adC)]),(.agg #[(.int .u32 ba),(.int .u32 bb),(.slice bcA bcN bcC),(.slice bdA bdN bdC)])] w fun e w'=>∃v,e= .returned v∧R v w':=
 aq Tryd.func10 av ar ((ViAlike_eq aa ab acA acN acC adA adN adC ba bb bcA bcN bcC bdA bdN bdC R w).mp h)
def iS(aa:Int)(ab:Int)(ac:Int)(ad:Int)(ae:Int)(af:Int)(ag:Int)(ah:Int)(ai:Int)(aj:Int)(ak:Int)(al:Int)(am:Int)(an:Int)(ao:Int)(ap:Int)(aqA:Option Addr)(aqN:Nat)(aqC:Nat)(arA:Option Addr)(arN:Nat)(arC:Nat)(ba:Int)(bb:Int)(bc:Int)(bd:Int)(be:Int)(bf:Int)(bg:Int)(bh:Int)(bi:Int)(bj:Int)(bk:Int)(bl:Int)(bm:Int)(bn:Int)(bo:Int)(bp:Int)(bqA:Option Addr)(bqN:Nat)(bqC:Nat)(brA:Option Addr)(brN:Nat)(brC:Nat)(R:ax)(w:World):Prop:=
 ∀(gv:Nat)(wv:World),gv=w.heap.size→wv=w.alloc (.cells #[(.int .i64 aa),(.int .u32 ab),(.int .u32 ac),(.int .u32 ad),(.int .u32 ae),(.int .u32 af),(.int .u32 ag),(.int .u32 ah),(.int .u32 ai),(.int .u32 aj),(.int .u32 ak),(.int .u32 al),(.int .u32 am),(.int .u32 an),(.int .u32 ao),(.int .u32 ap),(.slice aqA aqN aqC),(.slice arA arN arC)] 32)→
 ∀(wD:Nat)(wC:World),wD=wv.heap.size→wC=wv.alloc (.cells #[(.int .i64 ba),(.int .u32 bb),(.int .u32 bc),(.int .u32 bd),(.int .u32 be),(.int .u32 bf),(.int .u32 bg),(.int .u32 bh),(.int .u32 bi),(.int .u32 bj),(.int .u32 bk),(.int .u32 bl),(.int .u32 bm),(.int .u32 bn),(.int .u32 bo),(.int .u32 bp),(.slice bqA bqN bqC),(.slice brA brN brC)] 32)→
 ∃yl:Int,wC.cell? ((Addr.mk gv 0 none).add 0)=some (.int .i64 yl)∧
 ∃xR:Int,wC.cell? ((Addr.mk wD 0 none).add 0)=some (.int .i64 xR)∧
 split ((yl:Int) !=xR) (
  R (.string (⟨#[98,105,114,116,104,115]⟩:ByteArray)) wC) (
  ∃b:Nat→Nat→Prop,
  ∀Bs:Option Addr,Bs=(some (if 15=0 then(Addr.mk gv 0 none).add 1 else((Addr.mk gv 0 none).add 1).add (0*1)))→∀zk:Nat,zk=15 - 0→∀Br:Nat,Br=15 - 0→
  ∀Dx:Option Addr,Dx=(some (if 15=0 then(Addr.mk wD 0 none).add 1 else((Addr.mk wD 0 none).add 1).add (0*1)))→∀Dv:Nat,Dv=15 - 0→∀Dw:Nat,Dw=15 - 0→
  Calls Tryd.prog 12 #[(.slice Bs zk Br),(.slice Dx Dv Dw)] wC.drew fun e wF=>
  ∃yT:Int,e= .returned (.int .i64 yT)∧
  ∃b1:Nat→Nat→Prop,(∀i k,b i k→b1 i k)∧
  split (decide ((yT:Int)≥0)) (
   Calls Tryd.prog 13 #[(.int .i64 yT)] wF fun e wH=>
   ∃yY:ByteArray,e= .returned (.string yY)∧
   (⟨#[114,101,103,105,115,116,101,114,32]⟩:ByteArray).size+yY.size≤9223372036854775807∧
   R (.string ((⟨#[114,101,103,105,115,116,101,114,32]⟩:ByteArray)++yY)) wH) (
   ∃ym:Option Addr,∃yf:Nat,∃yX:Nat,wF.cell? ((Addr.mk gv 0 none).add 16)=some (.slice ym yf yX)∧
   ∃zD:Option Addr,∃yC:Nat,∃zC:Nat,wF.cell? ((Addr.mk wD 0 none).add 16)=some (.slice zD yC zC)∧
   split ((((yf:Nat):Int):Int) !=((yC:Nat):Int)) (
    R (.string (⟨#[105,110,115,101,99,117,114,101]⟩:ByteArray)) wF) (
    ∀p:Int,p=0→
    ∃I:Nat→Int→World→Prop,(∃m,I m p wF)∧∀(m:Nat)(zV:Nat→Value)(p1:Int),∀wH,I m p1 wH→
    ∃zB:Option Addr,∃yv:Nat,∃Av:Nat,wH.cell? ((Addr.mk gv 0 none).add 16)=some (.slice zB yv Av)∧
    split (decide ((p1:Int)<((yv:Nat):Int))) (
     ∃b2:Nat→Nat→Prop,
     b2 1 (((Addr.mk gv 0 none).add 16).block)∧
     ∃Ju:Option Addr,∃Jt:Nat,∃Nn:Nat,wH.drew.cell? ((Addr.mk gv 0 none).add 16)=some (.slice Ju Jt Nn)∧
     (0≤(p1:Int)∧(p1:Int)<((Jt:Nat):Int))∧
     ay Ju fun p42=>
     b2 4 ((p42.add (Int.toNat p1*1)).block)∧
     ∃Aq:Option Addr,∃zy:Nat,∃Ap:Nat,wH.drew.cell? (p42.add (Int.toNat p1*1))=some (.slice Aq zy Ap)∧
     b2 6 (((Addr.mk wD 0 none).add 16).block)∧
     ∃Ao:Option Addr,∃An:Nat,∃B0:Nat,wH.drew.cell? ((Addr.mk wD 0 none).add 16)=some (.slice Ao An B0)∧
     (0≤(p1:Int)∧(p1:Int)<((An:Nat):Int))∧
     ay Ao fun FF=>
     b2 9 ((FF.add (Int.toNat p1*1)).block)∧
     ∃Am:Option Addr,∃Ak:Nat,∃Al:Nat,wH.drew.cell? (FF.add (Int.toNat p1*1))=some (.slice Am Ak Al)∧
     Calls Tryd.prog 14 #[(.slice Aq zy Ap),(.slice Am Ak Al)] wH.drew fun e wJ=>
     ∃Nl:ByteArray,e= .returned (.string Nl)∧
     Kept (aX b2 [0,5]) wH.drew wJ∧∃b3:Nat→Nat→Prop,(∀i k,b2 i k→b3 i k)∧
     split (!((Nl:ByteArray).toList==((⟨#[]⟩:ByteArray):ByteArray).toList)) (
      Calls Tryd.prog 13 #[(.int .i64 p1)] wJ fun e wO=>
      ∃Gd:ByteArray,e= .returned (.string Gd)∧
      (⟨#[105,110,115,101,99,117,114,101,32]⟩:ByteArray).size+Gd.size≤9223372036854775807∧
      Calls Tryd.prog 15 #[(.string Nl)] wO fun e wN=>
      ∃Nk:ByteArray,e= .returned (.string Nk)∧
      ((⟨#[105,110,115,101,99,117,114,101,32]⟩:ByteArray)++Gd).size+Nk.size≤9223372036854775807∧
      R (.string (((⟨#[105,110,115,101,99,117,114,101,32]⟩:ByteArray)++Gd)++Nk)) wN) (
      ∀p2:Int,p2=(i64.wrap (p1+1))→
      ∃m1,m1<m∧I m1 p2 wJ)) (
     ∃Nj:Option Addr,∃HC:Nat,∃Ni:Nat,wH.cell? ((Addr.mk gv 0 none).add 17)=some (.slice Nj HC Ni)∧
     ∃Nd:Option Addr,∃Hy:Nat,∃Nc:Nat,wH.cell? ((Addr.mk wD 0 none).add 17)=some (.slice Nd Hy Nc)∧
     split ((((HC:Nat):Int):Int) !=((Hy:Nat):Int)) (
      R (.string (⟨#[112,97,103,101,115]⟩:ByteArray)) wH) (
      ∀p2:Int,p2=0→
      ∃I1:Nat→Int→World→Prop,(∃m2,I1 m2 p2 wH)∧∀(m2:Nat)(Be:Nat→Value)(p3:Int),∀wJ,I1 m2 p3 wJ→
      ∃Cr:Option Addr,∃BZ:Nat,∃Cq:Nat,wJ.cell? ((Addr.mk gv 0 none).add 17)=some (.slice Cr BZ Cq)∧
      split (decide ((p3:Int)<((BZ:Nat):Int))) (
       ∃b2:Nat→Nat→Prop,
       b2 1 (((Addr.mk gv 0 none).add 17).block)∧
       ∃Hn:Option Addr,∃Hm:Nat,∃M7:Nat,wJ.drew.cell? ((Addr.mk gv 0 none).add 17)=some (.slice Hn Hm M7)∧
       (0≤(p3:Int)∧(p3:Int)<((Hm:Nat):Int))∧
       ay Hn fun LS=>
       b2 4 ((LS.add (Int.toNat p3*4)).block)∧
       ∃Hl:Int,∃Hk:Int,∃Hj:Bool,∃x76dA:Option Addr,∃x76dN:Nat,∃x76dC:Nat,(wJ.drew.cell? ((LS.add (Int.toNat p3*4)).add 0)=some (.int .u32 Hl)∧wJ.drew.cell? ((LS.add (Int.toNat p3*4)).add 1)=some (.int .u32 Hk)∧wJ.drew.cell? ((LS.add (Int.toNat p3*4)).add 2)=some (.bool Hj)∧wJ.drew.cell? ((LS.add (Int.toNat p3*4)).add 3)=some (.slice x76dA x76dN x76dC))∧
       b2 6 (((Addr.mk wD 0 none).add 17).block)∧
       ∃Aa:Option Addr,∃zZ:Nat,∃Bn:Nat,wJ.drew.cell? ((Addr.mk wD 0 none).add 17)=some (.slice Aa zZ Bn)∧
       (0≤(p3:Int)∧(p3:Int)<((zZ:Nat):Int))∧
       ay Aa fun LR=>
       b2 9 ((LR.add (Int.toNat p3*4)).block)∧
       ∃Cl:Int,∃Ck:Int,∃Hg:Bool,∃x81dA:Option Addr,∃x81dN:Nat,∃x81dC:Nat,(wJ.drew.cell? ((LR.add (Int.toNat p3*4)).add 0)=some (.int .u32 Cl)∧wJ.drew.cell? ((LR.add (Int.toNat p3*4)).add 1)=some (.int .u32 Ck)∧wJ.drew.cell? ((LR.add (Int.toNat p3*4)).add 2)=some (.bool Hg)∧wJ.drew.cell? ((LR.add (Int.toNat p3*4)).add 3)=some (.slice x81dA x81dN x81dC))∧
       Calls Tryd.prog 16 #[(.agg #[(.int .u32 Hl),(.int .u32 Hk),(.bool Hj),(.slice x76dA x76dN x76dC)]),(.agg #[(.int .u32 Cl),(.int .u32 Ck),(.bool Hg),(.slice x81dA x81dN x81dC)])] wJ.drew fun e wO=>
       ∃EO:ByteArray,e= .returned (.string EO)∧
       Kept (aX b2 [0,5]) wJ.drew wO∧∃b3:Nat→Nat→Prop,(∀i k,b2 i k→b3 i k)∧
       split (!((EO:ByteArray).toList==((⟨#[]⟩:ByteArray):ByteArray).toList)) (
        Calls Tryd.prog 13 #[(.int .i64 p3)] wO fun e wN=>
        ∃F1:ByteArray,e= .returned (.string F1)∧
        (⟨#[112,97,103,101,32]⟩:ByteArray).size+F1.size≤9223372036854775807∧
        Calls Tryd.prog 15 #[(.string EO)] wN fun e wQ=>
        ∃M6:ByteArray,e= .returned (.string M6)∧
        ((⟨#[112,97,103,101,32]⟩:ByteArray)++F1).size+M6.size≤9223372036854775807∧
        R (.string (((⟨#[112,97,103,101,32]⟩:ByteArray)++F1)++M6)) wQ) (
        ∀p4:Int,p4=(i64.wrap (p3+1))→
        ∃m3,m3<m2∧I1 m3 p4 wO)) (
       R (.string (⟨#[]⟩:ByteArray)) wJ))))))
def nV:Ann:=(.node none .leaf (.node none .leaf (.node none .leaf (.node none .leaf (.node none .leaf (.node none (.node none .leaf (.node none (.node (some ⟨[(6,.one (.int .i64))],[4,6,7,32,33,34,35,36,37,38,39,40,41,42,43,44,45,46,47,48,49,50,51,52,53,54,55,56,57]⟩) .leaf .leaf) .leaf)) (.node none .leaf (.node none (.node none .leaf (.node none (.node (some ⟨[(8,.one (.int .i64))],[4,8,9,65,66,67,68,69,70,71,72,73,74,75,76,77,78,79,80,81,82,83,84,85,86,87,88,89,90]⟩) .leaf .leaf) .leaf)) .leaf))))))))
theorem R25Part_eq(aa:Int)(ab:Int)(ac:Int)(ad:Int)(ae:Int)(af:Int)(ag:Int)(ah:Int)(ai:Int)(aj:Int)(ak:Int)(al:Int)(am:Int)(an:Int)(ao:Int)(ap:Int)(aqA:Option Addr)(aqN:Nat)(aqC:Nat)(arA:Option Addr)(arN:Nat)(arC:Nat)(ba:Int)(bb:Int)(bc:Int)(bd:Int)(be:Int)(bf:Int)(bg:Int)(bh:Int)(bi:Int)(bj:Int)(bk:Int)(bl:Int)(bm:Int)(bn:Int)(bo:Int)(bp:Int)(bqA:Option Addr)(bqN:Nat)(bqC:Nat)(brA:Option Addr)(brN:Nat)(brC:Nat)(R:ax)(w:World):iS aa ab ac ad ae af ag ah ai aj ak al am an ao ap aqA aqN aqC arA arN arC ba bb bc bd be bf bg bh bi bj bk bl bm bn bo bp bqA bqN bqC brA brN brC R w=vcF Tryd.prog aB [6,8] Tryd.f4 nV [(.agg #[(.int .i64 aa),(.int .u32 ab),(.int .u32 ac),(.int .u32 ad),(.int .u32 ae),(.int .u32 af),(.int .u32 ag),(.int .u32 ah),(.int .u32 ai),(.int .u32 aj),(.int .u32 ak),(.int .u32 al),(.int .u32 am),(.int .u32 an),(.int .u32 ao),(.int .u32 ap),(.slice aqA aqN aqC),(.slice arA arN arC)]),(.agg #[(.int .i64 ba),(.int .u32 bb),(.int .u32 bc),(.int .u32 bd),(.int .u32 be),(.int .u32 bf),(.int .u32 bg),(.int .u32 bh),(.int .u32 bi),(.int .u32 bj),(.int .u32 bk),(.int .u32 bl),(.int .u32 bm),(.int .u32 bn),(.int .u32 bo),(.int .u32 bp),(.slice bqA bqN bqC),(.slice brA brN brC)])] R none w:=by kernel_rfl
theorem jv(aa:Int)(ab:Int)(ac:Int)(ad:Int)(ae:Int)(af:Int)(ag:Int)(ah:Int)(ai:Int)(aj:Int)(ak:Int)(al:Int)(am:Int)(an:Int)(ao:Int)(ap:Int)(aqA:Option Addr)(aqN:Nat)(aqC:Nat)(arA:Option Addr)(arN:Nat)(arC:Nat)(ba:Int)(bb:Int)(bc:Int)(bd:Int)(be:Int)(bf:Int)(bg:Int)(bh:Int)(bi:Int)(bj:Int)(bk:Int)(bl:Int)(bm:Int)(bn:Int)(bo:Int)(bp:Int)(bqA:Option Addr)(bqN:Nat)(bqC:Nat)(brA:Option Addr)(brN:Nat)(brC:Nat) {R:ax} {w:World}(h:iS aa ab ac ad ae af ag ah ai aj ak al am an ao ap aqA aqN aqC arA arN arC ba bb bc bd be bf bg bh bi bj bk bl bm bn bo bp bqA bqN bqC brA brN brC R w):Calls Tryd.prog 4 #[(.agg #[(.int .i64 aa),(.int .u32 ab),(.int .u32 ac),(.int .u32 ad),(.int .u32 ae),(.int .u32 af),(.int .u32 ag),(.int .u32 ah),(.int .u32 ai),(.int .u32 aj),(.int .u32 ak),(.int .u32 al),(.int .u32 am),(.int .u32 an),(.int .u32 ao),(.int .u32 ap),(.slice aqA aqN aqC),(.slice arA arN arC)]),(.agg #[(.int .i64 ba),(.int .u32 bb),(.int .u32 bc),(.int .u32 bd),(.int .u32 be),(.int .u32 bf),(.int .u32 bg),(.int .u32 bh),(.int .u32 bi),(.int .u32 bj),(.int .u32 bk),(.int .u32 bl),(.int .u32 bm),(.int .u32 bn),(.int .u32 bo),(.int .u32 bp),(.slice bqA bqN bqC),(.slice brA brN brC)])] w fun e w'=>∃v,e= .returned v∧R v w':=
 aq Tryd.func4 av ar ((R25Part_eq aa ab ac ad ae af ag ah ai aj ak al am an ao ap aqA aqN aqC arA arN arC ba bb bc bd be bf bg bh bi bj bk bl bm bn bo bp bqA bqN bqC brA brN brC R w).mp h)
def gE(aa:Int)(ab:Int)(acA:Option Addr)(acN:Nat)(acC:Nat)(adA:Option Addr)(adN:Nat)(adC:Nat)(ba:Int)(bb:Int)(bcA:Option Addr)(bcN:Nat)(bcC:Nat)(bdA:Option Addr)(bdN:Nat)(bdC:Nat)(R:ax)(w:World):Prop:=
 ∀(gv:Nat)(wv:World),gv=w.heap.size→wv=w.alloc (.cells #[(.int .u32 aa),(.int .u32 ab),(.slice acA acN acC),(.slice adA adN adC)] 42)→
 ∀(wD:Nat)(wC:World),wD=wv.heap.size→wC=wv.alloc (.cells #[(.int .u32 ba),(.int .u32 bb),(.slice bcA bcN bcC),(.slice bdA bdN bdC)] 42)→
 ∃J:Bool→World→Prop,(
  ∃x8:Int,wC.cell? ((Addr.mk gv 0 none).add 0)=some (.int .u32 x8)∧
  ∃yB:Int,wC.cell? ((Addr.mk wD 0 none).add 0)=some (.int .u32 yB)∧
  split ((x8:Int) !=yB) (
   J true wC) (
   ∃xL:Int,wC.cell? ((Addr.mk gv 0 none).add 1)=some (.int .u32 xL)∧
   ∃xo:Int,wC.cell? ((Addr.mk wD 0 none).add 1)=some (.int .u32 xo)∧
   split ((xL:Int) !=xo) (
    J true wC) (
    ∃yh:Option Addr,∃xv:Nat,∃yg:Nat,wC.cell? ((Addr.mk gv 0 none).add 2)=some (.slice yh xv yg)∧
    ∃Nt:Option Addr,∃KE:Nat,∃Ns:Nat,wC.cell? ((Addr.mk wD 0 none).add 2)=some (.slice Nt KE Ns)∧
    split ((((xv:Nat):Int):Int) !=((KE:Nat):Int)) (
     J true wC) (
     ∃EW:Option Addr,∃C3:Nat,∃EV:Nat,wC.cell? ((Addr.mk gv 0 none).add 3)=some (.slice EW C3 EV)∧
     ∃zi:Option Addr,∃yW:Nat,∃zh:Nat,wC.cell? ((Addr.mk wD 0 none).add 3)=some (.slice zi yW zh)∧
     J ((((C3:Nat):Int):Int) !=((yW:Nat):Int)) wC))))∧∀(zV:Nat→Value)(JA:Bool),∀wF,J JA wF→
 split JA (
  R (.bool false) wF) (
  ∀i:Int,i=0→
  ∃I:Nat→Int→World→Prop,(∃m,I m i wF)∧∀(m:Nat)(Be:Nat→Value)(i1:Int),∀wH,I m i1 wH→
  ∃Np:Option Addr,∃Jv:Nat,∃No:Nat,wH.cell? ((Addr.mk gv 0 none).add 2)=some (.slice Np Jv No)∧
  split (decide ((i1:Int)<((Jv:Nat):Int))) (
   ∃b:Nat→Nat→Prop,
   b 1 (((Addr.mk gv 0 none).add 2).block)∧
   ∃Ao:Option Addr,∃An:Nat,∃B0:Nat,wH.drew.cell? ((Addr.mk gv 0 none).add 2)=some (.slice Ao An B0)∧
   (0≤(i1:Int)∧(i1:Int)<((An:Nat):Int))∧
   ay Ao fun FF=>
   b 4 ((FF.add (Int.toNat i1*1)).block)∧
   ∃Am:Option Addr,∃Ak:Nat,∃Al:Nat,wH.drew.cell? (FF.add (Int.toNat i1*1))=some (.slice Am Ak Al)∧
   b 6 (((Addr.mk wD 0 none).add 2).block)∧
   ∃CH:Option Addr,∃CG:Nat,∃EU:Nat,wH.drew.cell? ((Addr.mk wD 0 none).add 2)=some (.slice CH CG EU)∧
   (0≤(i1:Int)∧(i1:Int)<((CG:Nat):Int))∧
   ay CH fun ML=>
   b 9 ((ML.add (Int.toNat i1*1)).block)∧
   ∃Ii:Option Addr,∃Ig:Nat,∃Ih:Nat,wH.drew.cell? (ML.add (Int.toNat i1*1))=some (.slice Ii Ig Ih)∧
   Calls Tryd.prog 14 #[(.slice Am Ak Al),(.slice Ii Ig Ih)] wH.drew fun e wJ=>
   ∃Cw:ByteArray,e= .returned (.string Cw)∧
   Kept (aX b [0,5]) wH.drew wJ∧∃b1:Nat→Nat→Prop,(∀i k,b i k→b1 i k)∧
   split (!((Cw:ByteArray).toList==((⟨#[]⟩:ByteArray):ByteArray).toList)) (
    R (.bool false) wJ) (
    ∀i2:Int,i2=(i64.wrap (i1+1))→
    ∃m1,m1<m∧I m1 i2 wJ)) (
   ∀i2:Int,i2=0→
   ∃I1:Nat→Int→World→Prop,(∃m2,I1 m2 i2 wH)∧∀(m2:Nat)(BF:Nat→Value)(i3:Int),∀wJ,I1 m2 i3 wJ→
   ∃ES:Option Addr,∃Cs:Nat,∃ER:Nat,wJ.cell? ((Addr.mk gv 0 none).add 3)=some (.slice ES Cs ER)∧
   split (decide ((i3:Int)<((Cs:Nat):Int))) (
    ∃b:Nat→Nat→Prop,
    b 1 (((Addr.mk gv 0 none).add 3).block)∧
    ∃Hx:Option Addr,∃Hw:Nat,∃Na:Nat,wJ.drew.cell? ((Addr.mk gv 0 none).add 3)=some (.slice Hx Hw Na)∧
    (0≤(i3:Int)∧(i3:Int)<((Hw:Nat):Int))∧
    ay Hx fun LV=>
    b 4 ((LV.add (Int.toNat i3*4)).block)∧
    ∃Hv:Int,∃Hu:Int,∃Ht:Bool,∃x67dA:Option Addr,∃x67dN:Nat,∃x67dC:Nat,(wJ.drew.cell? ((LV.add (Int.toNat i3*4)).add 0)=some (.int .u32 Hv)∧wJ.drew.cell? ((LV.add (Int.toNat i3*4)).add 1)=some (.int .u32 Hu)∧wJ.drew.cell? ((LV.add (Int.toNat i3*4)).add 2)=some (.bool Ht)∧wJ.drew.cell? ((LV.add (Int.toNat i3*4)).add 3)=some (.slice x67dA x67dN x67dC))∧
    b 6 (((Addr.mk wD 0 none).add 3).block)∧
    ∃Hs:Option Addr,∃Hr:Nat,∃M9:Nat,wJ.drew.cell? ((Addr.mk wD 0 none).add 3)=some (.slice Hs Hr M9)∧
    (0≤(i3:Int)∧(i3:Int)<((Hr:Nat):Int))∧
    ay Hs fun LU=>
    b 9 ((LU.add (Int.toNat i3*4)).block)∧
    ∃Hq:Int,∃Hp:Int,∃Ho:Bool,∃x72dA:Option Addr,∃x72dN:Nat,∃x72dC:Nat,(wJ.drew.cell? ((LU.add (Int.toNat i3*4)).add 0)=some (.int .u32 Hq)∧wJ.drew.cell? ((LU.add (Int.toNat i3*4)).add 1)=some (.int .u32 Hp)∧wJ.drew.cell? ((LU.add (Int.toNat i3*4)).add 2)=some (.bool Ho)∧wJ.drew.cell? ((LU.add (Int.toNat i3*4)).add 3)=some (.slice x72dA x72dN x72dC))∧
    Calls Tryd.prog 16 #[(.agg #[(.int .u32 Hv),(.int .u32 Hu),(.bool Ht),(.slice x67dA x67dN x67dC)]),(.agg #[(.int .u32 Hq),(.int .u32 Hp),(.bool Ho),(.slice x72dA x72dN x72dC)])] wJ.drew fun e wO=>
    ∃GL:ByteArray,e= .returned (.string GL)∧
    Kept (aX b [0,5]) wJ.drew wO∧∃b1:Nat→Nat→Prop,(∀i k,b i k→b1 i k)∧
    split (!((GL:ByteArray).toList==((⟨#[]⟩:ByteArray):ByteArray).toList)) (
     R (.bool false) wO) (
     ∀i4:Int,i4=(i64.wrap (i3+1))→
     ∃m3,m3<m2∧I1 m3 i4 wO)) (
    R (.bool true) wJ)))
def mG:Ann:=(.node none .leaf (.node none (.node none (.node (some ⟨[(36,.one (.bool))],[7,8,9,10,11,12,13,14,15,16,17,18,19,20,21,22,23,24,25,26,27,28,29,30,31,32,33,34,35,36]⟩) .leaf .leaf) .leaf) (.node none (.node none .leaf (.node none (.node (some ⟨[(5,.one (.int .i64))],[4,5,37,38,39,40,41,42,43,44,45,46,47,48,49,50,51,52,53,54,55]⟩) .leaf .leaf) .leaf)) (.node none (.node none .leaf (.node none (.node (some ⟨[(6,.one (.int .i64))],[4,6,56,57,58,59,60,61,62,63,64,65,66,67,68,69,70,71,72,73,74]⟩) .leaf .leaf) .leaf)) .leaf))))
theorem R25Alike_eq(aa:Int)(ab:Int)(acA:Option Addr)(acN:Nat)(acC:Nat)(adA:Option Addr)(adN:Nat)(adC:Nat)(ba:Int)(bb:Int)(bcA:Option Addr)(bcN:Nat)(bcC:Nat)(bdA:Option Addr)(bdN:Nat)(bdC:Nat)(R:ax)(w:World):gE aa ab acA acN acC adA adN adC ba bb bcA bcN bcC bdA bdN bdC R w=vcF Tryd.prog aB [5,6] Tryd.f11 mG [(.agg #[(.int .u32 aa),(.int .u32 ab),(.slice acA acN acC),(.slice adA adN adC)]),(.agg #[(.int .u32 ba),(.int .u32 bb),(.slice bcA bcN bcC),(.slice bdA bdN bdC)])] R none w:=by kernel_rfl
theorem iW(aa:Int)(ab:Int)(acA:Option Addr)(acN:Nat)(acC:Nat)(adA:Option Addr)(adN:Nat)(adC:Nat)(ba:Int)(bb:Int)(bcA:Option Addr)(bcN:Nat)(bcC:Nat)(bdA:Option Addr)(bdN:Nat)(bdC:Nat) {R:ax} {w:World}(h:gE aa ab acA acN acC adA adN adC ba bb bcA bcN bcC bdA bdN bdC R w):Calls Tryd.prog 11 #[(.agg #[(.int .u32 aa),(.int .u32 ab),(.slice acA acN acC),(.slice adA adN adC)]),(.agg #[(.int .u32 ba),(.int .u32 bb),(.slice bcA bcN bcC),(.slice bdA bdN bdC)])] w fun e w'=>∃v,e= .returned v∧R v w':=
 aq Tryd.func11 av ar ((R25Alike_eq aa ab acA acN acC adA adN adC ba bb bcA bcN bcC bdA bdN bdC R w).mp h)
def eF(lA:Option Addr)(lN:Nat)(lC:Nat)(R:ax)(w:World):Prop:=
 ∀i:Int,i=0→
 ∃I:Nat→Option Addr→Nat→Nat→Int→World→Prop,(∃m,I m none 0 0 i w)∧∀(m:Nat)(Bg:Nat→Value)(mA:Option Addr)(mN:Nat)(mC:Nat)(i1:Int),∀wv,I m mA mN mC i1 wv→
 split (decide ((i1:Int)<((lN:Nat):Int))) (
  ∃b:Nat→Nat→Prop,
  (0≤(i1:Int)∧(i1:Int)<((lN:Nat):Int))∧
  ay lA fun zO=>
  b 5 (((zO.add (Int.toNat i1*4)).add 0).block)∧
  ∃yZ:Int,∃yD:Int,(wv.drew.cell? (((zO.add (Int.toNat i1*4)).add 0).add 0)=some (.int .u32 yZ)∧wv.drew.cell? (((zO.add (Int.toNat i1*4)).add 0).add 1)=some (.int .u32 yD))∧
  (0≤(i1:Int)∧(i1:Int)<((lN:Nat):Int))∧
  ay lA fun LX=>
  b 10 (((LX.add (Int.toNat i1*4)).add 2).block)∧
  ∃xx:Bool,wv.drew.cell? ((LX.add (Int.toNat i1*4)).add 2)=some (.bool xx)∧
  (0≤(i1:Int)∧(i1:Int)<((lN:Nat):Int))∧
  ay lA fun LW=>
  b 15 (((LW.add (Int.toNat i1*4)).add 3).block)∧
  ∃ym:Option Addr,∃yf:Nat,∃yX:Nat,wv.drew.cell? ((LW.add (Int.toNat i1*4)).add 3)=some (.slice ym yf yX)∧
  ∀(wD:Nat)(wC:World),wD=wv.drew.heap.size→wC=wv.drew.alloc (.cells #[(.int .u32 yZ),(.int .u32 yD),(.bool xx),(.slice ym yf yX)] 53)→
  Kept (aX b [0,1,2,3,6,7,8,11,12,13]) wv.drew wC∧∃b1:Nat→Nat→Prop,(∀i k,b i k→b1 i k)∧
  ∃zD:Option Addr,∃yC:Nat,∃zC:Nat,∃wF,(Builtin.append_ #[30,30] 30 #[(.slice mA mN mC),(.slice (some (Addr.mk wD 0 none)) 1 1)]:Sem Value).run Tryd.prog wC= .ok (.slice zD yC zC) wF∧
  Kept (aX b1 [1,2,3,4,6,7,8,9,11,12,13,14]) wC wF∧∃b2:Nat→Nat→Prop,(∀i k,b1 i k→b2 i k)∧
  ∀i2:Int,i2=(i64.wrap (i1+1))→
  ∃m1,m1<m∧I m1 zD yC zC i2 wF) (
  R (.slice mA mN mC) wv)
def jB:Ann:=(.node none .leaf (.node none .leaf (.node none (.node none .leaf (.node none (.node (some ⟨[(3,.one (.slice)),(4,.one (.int .i64))],[3,4,5,6,7,8,9,10,11,12,13,14,15,16,17,18,19,20,21,22,23,24,25,26,27,28,29]⟩) .leaf .leaf) .leaf)) .leaf)))
theorem L25DocSeen_eq(lA:Option Addr)(lN:Nat)(lC:Nat)(R:ax)(w:World):eF lA lN lC R w=vcF Tryd.prog aB [3,4] Tryd.f9 jB [(.slice lA lN lC)] R none w:=by kernel_rfl
theorem fW(lA:Option Addr)(lN:Nat)(lC:Nat) {R:ax} {w:World}(h:eF lA lN lC R w):Calls Tryd.prog 9 #[(.slice lA lN lC)] w fun e w'=>∃v,e= .returned v∧R v w':=
 aq Tryd.func9 av ar ((L25DocSeen_eq lA lN lC R w).mp h)
def eE(va:Int)(vb:Int)(vc:Int)(vd:Int)(ve:Int)(vf:Int)(vg:Int)(vh:Int)(vi:Int)(vj:Int)(vk:Int)(vl:Int)(vm:Int)(vn:Int)(vo:Int)(vp:Int)(vqA:Option Addr)(vqN:Nat)(vqC:Nat)(vrA:Option Addr)(vrN:Nat)(vrC:Nat)(R:ax)(w:World):Prop:=
 ∀(gv:Nat)(wv:World),gv=w.heap.size→wv=w.alloc (.cells #[(.int .i64 va),(.int .u32 vb),(.int .u32 vc),(.int .u32 vd),(.int .u32 ve),(.int .u32 vf),(.int .u32 vg),(.int .u32 vh),(.int .u32 vi),(.int .u32 vj),(.int .u32 vk),(.int .u32 vl),(.int .u32 vm),(.int .u32 vn),(.int .u32 vo),(.int .u32 vp),(.slice vqA vqN vqC),(.slice vrA vrN vrC)] 27)→
 ∀(wD:Nat)(wC:World),wD=wv.heap.size→wC=wv.alloc (.cells (#[(.int .i64 0),(.int .u32 0),(.int .u32 0),(.int .u32 0),(.int .u32 0),(.int .u32 0),(.int .u32 0),(.int .u32 0),(.int .u32 0),(.int .u32 0),(.int .u32 0),(.int .u32 0),(.int .u32 0),(.int .u32 0),(.int .u32 0),(.int .u32 0),(.slice none 0 0),(.slice none 0 0)]) 32)→
 ∃b:Nat→Nat→Prop,
 b 1 (((Addr.mk gv 0 none).add 0).block)∧
 ∃x4:Int,wC.drew.cell? ((Addr.mk gv 0 none).add 0)=some (.int .i64 x4)∧
 b 3 (((Addr.mk gv 0 none).add 1).block)∧
 ∃zx:Int,∃Ab:Int,∃BM:Int,∃BL:Int,∃BK:Int,∃BJ:Int,∃BI:Int,∃BH:Int,∃BG:Int,∃Cm:Int,∃Fg:Int,∃Ff:Int,∃Fe:Int,∃Fc:Int,∃Fb:Int,(wC.drew.cell? (((Addr.mk gv 0 none).add 1).add 0)=some (.int .u32 zx)∧wC.drew.cell? (((Addr.mk gv 0 none).add 1).add 1)=some (.int .u32 Ab)∧wC.drew.cell? (((Addr.mk gv 0 none).add 1).add 2)=some (.int .u32 BM)∧wC.drew.cell? (((Addr.mk gv 0 none).add 1).add 3)=some (.int .u32 BL)∧wC.drew.cell? (((Addr.mk gv 0 none).add 1).add 4)=some (.int .u32 BK)∧wC.drew.cell? (((Addr.mk gv 0 none).add 1).add 5)=some (.int .u32 BJ)∧wC.drew.cell? (((Addr.mk gv 0 none).add 1).add 6)=some (.int .u32 BI)∧wC.drew.cell? (((Addr.mk gv 0 none).add 1).add 7)=some (.int .u32 BH)∧wC.drew.cell? (((Addr.mk gv 0 none).add 1).add 8)=some (.int .u32 BG)∧wC.drew.cell? (((Addr.mk gv 0 none).add 1).add 9)=some (.int .u32 Cm)∧wC.drew.cell? (((Addr.mk gv 0 none).add 1).add 10)=some (.int .u32 Fg)∧wC.drew.cell? (((Addr.mk gv 0 none).add 1).add 11)=some (.int .u32 Ff)∧wC.drew.cell? (((Addr.mk gv 0 none).add 1).add 12)=some (.int .u32 Fe)∧wC.drew.cell? (((Addr.mk gv 0 none).add 1).add 13)=some (.int .u32 Fc)∧wC.drew.cell? (((Addr.mk gv 0 none).add 1).add 14)=some (.int .u32 Fb))∧
 b 5 (((Addr.mk gv 0 none).add 16).block)∧
 ∃G6:Option Addr,∃G4:Nat,∃G5:Nat,wC.drew.cell? ((Addr.mk gv 0 none).add 16)=some (.slice G6 G4 G5)∧
 b 7 (((Addr.mk gv 0 none).add 17).block)∧
 ∃Ev:Option Addr,∃Et:Nat,∃Eu:Nat,wC.drew.cell? ((Addr.mk gv 0 none).add 17)=some (.slice Ev Et Eu)∧
 Calls Tryd.prog 9 #[(.slice Ev Et Eu)] wC.drew fun e wF=>
 ∃xG:Option Addr,∃xE:Nat,∃xO:Nat,e= .returned (.slice xG xE xO)∧
 Kept (aX b [0,1,2,3,4,5]) wC.drew wF∧∃b1:Nat→Nat→Prop,(∀i k,b i k→b1 i k)∧
 aD wF (Addr.mk wD 0 none) [(.int .i64 x4),(.int .u32 zx),(.int .u32 Ab),(.int .u32 BM),(.int .u32 BL),(.int .u32 BK),(.int .u32 BJ),(.int .u32 BI),(.int .u32 BH),(.int .u32 BG),(.int .u32 Cm),(.int .u32 Fg),(.int .u32 Ff),(.int .u32 Fe),(.int .u32 Fc),(.int .u32 Fb),(.slice G6 G4 G5),(.slice xG xE xO)] fun wH=>
 ∃b2:Nat→Nat→Prop,(∀i k,b1 i k→b2 i k)∧
 ∃xn:Int,∃xm:Int,∃xB:Int,∃xz:Int,∃xy:Int,∃yr:Int,∃yq:Int,∃yp:Int,∃EA:Int,∃Ez:Int,∃FE:Int,∃FD:Int,∃FC:Int,∃FB:Int,∃FA:Int,∃LK:Int,∃r0qA:Option Addr,∃r0qN:Nat,∃r0qC:Nat,∃r0rA:Option Addr,∃r0rN:Nat,∃r0rC:Nat,(wH.cell? ((Addr.mk wD 0 none).add 0)=some (.int .i64 xn)∧wH.cell? ((Addr.mk wD 0 none).add 1)=some (.int .u32 xm)∧wH.cell? ((Addr.mk wD 0 none).add 2)=some (.int .u32 xB)∧wH.cell? ((Addr.mk wD 0 none).add 3)=some (.int .u32 xz)∧wH.cell? ((Addr.mk wD 0 none).add 4)=some (.int .u32 xy)∧wH.cell? ((Addr.mk wD 0 none).add 5)=some (.int .u32 yr)∧wH.cell? ((Addr.mk wD 0 none).add 6)=some (.int .u32 yq)∧wH.cell? ((Addr.mk wD 0 none).add 7)=some (.int .u32 yp)∧wH.cell? ((Addr.mk wD 0 none).add 8)=some (.int .u32 EA)∧wH.cell? ((Addr.mk wD 0 none).add 9)=some (.int .u32 Ez)∧wH.cell? ((Addr.mk wD 0 none).add 10)=some (.int .u32 FE)∧wH.cell? ((Addr.mk wD 0 none).add 11)=some (.int .u32 FD)∧wH.cell? ((Addr.mk wD 0 none).add 12)=some (.int .u32 FC)∧wH.cell? ((Addr.mk wD 0 none).add 13)=some (.int .u32 FB)∧wH.cell? ((Addr.mk wD 0 none).add 14)=some (.int .u32 FA)∧wH.cell? ((Addr.mk wD 0 none).add 15)=some (.int .u32 LK)∧wH.cell? ((Addr.mk wD 0 none).add 16)=some (.slice r0qA r0qN r0qC)∧wH.cell? ((Addr.mk wD 0 none).add 17)=some (.slice r0rA r0rN r0rC))∧
 R (.agg #[(.int .i64 xn),(.int .u32 xm),(.int .u32 xB),(.int .u32 xz),(.int .u32 xy),(.int .u32 yr),(.int .u32 yq),(.int .u32 yp),(.int .u32 EA),(.int .u32 Ez),(.int .u32 FE),(.int .u32 FD),(.int .u32 FC),(.int .u32 FB),(.int .u32 FA),(.int .u32 LK),(.slice r0qA r0qN r0qC),(.slice r0rA r0rN r0rC)]) wH
def jA:Ann:= .leaf
theorem L25DocView_eq(va:Int)(vb:Int)(vc:Int)(vd:Int)(ve:Int)(vf:Int)(vg:Int)(vh:Int)(vi:Int)(vj:Int)(vk:Int)(vl:Int)(vm:Int)(vn:Int)(vo:Int)(vp:Int)(vqA:Option Addr)(vqN:Nat)(vqC:Nat)(vrA:Option Addr)(vrN:Nat)(vrC:Nat)(R:ax)(w:World):eE va vb vc vd ve vf vg vh vi vj vk vl vm vn vo vp vqA vqN vqC vrA vrN vrC R w=vcF Tryd.prog aB [] Tryd.f5 jA [(.agg #[(.int .i64 va),(.int .u32 vb),(.int .u32 vc),(.int .u32 vd),(.int .u32 ve),(.int .u32 vf),(.int .u32 vg),(.int .u32 vh),(.int .u32 vi),(.int .u32 vj),(.int .u32 vk),(.int .u32 vl),(.int .u32 vm),(.int .u32 vn),(.int .u32 vo),(.int .u32 vp),(.slice vqA vqN vqC),(.slice vrA vrN vrC)])] R none w:=by kernel_rfl
theorem fV(va:Int)(vb:Int)(vc:Int)(vd:Int)(ve:Int)(vf:Int)(vg:Int)(vh:Int)(vi:Int)(vj:Int)(vk:Int)(vl:Int)(vm:Int)(vn:Int)(vo:Int)(vp:Int)(vqA:Option Addr)(vqN:Nat)(vqC:Nat)(vrA:Option Addr)(vrN:Nat)(vrC:Nat) {R:ax} {w:World}(h:eE va vb vc vd ve vf vg vh vi vj vk vl vm vn vo vp vqA vqN vqC vrA vrN vrC R w):Calls Tryd.prog 5 #[(.agg #[(.int .i64 va),(.int .u32 vb),(.int .u32 vc),(.int .u32 vd),(.int .u32 ve),(.int .u32 vf),(.int .u32 vg),(.int .u32 vh),(.int .u32 vi),(.int .u32 vj),(.int .u32 vk),(.int .u32 vl),(.int .u32 vm),(.int .u32 vn),(.int .u32 vo),(.int .u32 vp),(.slice vqA vqN vqC),(.slice vrA vrN vrC)])] w fun e w'=>∃v,e= .returned v∧R v w':=
 aq Tryd.func5 av ar ((L25DocView_eq va vb vc vd ve vf vg vh vi vj vk vl vm vn vo vp vqA vqN vqC vrA vrN vrC R w).mp h)
def ph(seeda:Int)(seedb:Int)(seedc:Int)(seedd:Int)(seede:Int)(seedf:Int)(seedg:Int)(seedh:Int)(R:ax)(w:World):Prop:=
 ∀(gv:Nat)(wv:World),gv=w.heap.size→wv=w.alloc (.cells #[(.int .u32 seeda),(.int .u32 seedb),(.int .u32 seedc),(.int .u32 seedd),(.int .u32 seede),(.int .u32 seedf),(.int .u32 seedg),(.int .u32 seedh)] 60)→
 ∀(wD:Nat)(wC:World),wD=wv.heap.size→wC=wv.alloc (.cells (#[(.int .u32 0),(.int .u32 0),(.int .u32 0),(.int .u32 0),(.int .u32 0),(.int .u32 0),(.int .u32 0),(.int .u32 0)]) 60)→
 ∀x3A:Option Addr,x3A=(some (if 8=0 then Addr.mk gv 0 none else(Addr.mk gv 0 none).add (0*1)))→∀x3N:Nat,x3N=8 - 0→∀x3C:Nat,x3C=8 - 0→
 ∀(wY:Nat)(wF:World),wY=wC.heap.size→wF=wC.alloc (.cells #[(.int .u32 2002874980),(.int .u32 1701716075),(.int .u32 1702436913)] 22)→
 Calls Tryd.prog 47 #[(.slice x3A x3N x3C),(.slice (some (Addr.mk wY 0 none)) 3 3)] wF fun e wH=>
 ∃Fl:Int,∃Fk:Int,∃Fj:Int,∃Fi:Int,∃Fh:Int,∃HB:Int,∃HA:Int,∃Hz:Int,e= .returned (.agg #[(.int .u32 Fl),(.int .u32 Fk),(.int .u32 Fj),(.int .u32 Fi),(.int .u32 Fh),(.int .u32 HB),(.int .u32 HA),(.int .u32 Hz)])∧
 aD wH (Addr.mk wD 0 none) [(.int .u32 Fl),(.int .u32 Fk),(.int .u32 Fj),(.int .u32 Fi),(.int .u32 Fh),(.int .u32 HB),(.int .u32 HA),(.int .u32 Hz)] fun wJ=>
 ∃xn:Int,∃xm:Int,∃xB:Int,∃xz:Int,∃xy:Int,∃yr:Int,∃yq:Int,∃yp:Int,(wJ.cell? ((Addr.mk wD 0 none).add 0)=some (.int .u32 xn)∧wJ.cell? ((Addr.mk wD 0 none).add 1)=some (.int .u32 xm)∧wJ.cell? ((Addr.mk wD 0 none).add 2)=some (.int .u32 xB)∧wJ.cell? ((Addr.mk wD 0 none).add 3)=some (.int .u32 xz)∧wJ.cell? ((Addr.mk wD 0 none).add 4)=some (.int .u32 xy)∧wJ.cell? ((Addr.mk wD 0 none).add 5)=some (.int .u32 yr)∧wJ.cell? ((Addr.mk wD 0 none).add 6)=some (.int .u32 yq)∧wJ.cell? ((Addr.mk wD 0 none).add 7)=some (.int .u32 yp))∧
 R (.agg #[(.int .u32 xn),(.int .u32 xm),(.int .u32 xB),(.int .u32 xz),(.int .u32 xy),(.int .u32 yr),(.int .u32 yq),(.int .u32 yp)]) wJ
def tQ:Ann:= .leaf
theorem AKey_eq(seeda:Int)(seedb:Int)(seedc:Int)(seedd:Int)(seede:Int)(seedf:Int)(seedg:Int)(seedh:Int)(R:ax)(w:World):ph seeda seedb seedc seedd seede seedf seedg seedh R w=vcF Tryd.prog aB [] Tryd.f31 tQ [(.agg #[(.int .u32 seeda),(.int .u32 seedb),(.int .u32 seedc),(.int .u32 seedd),(.int .u32 seede),(.int .u32 seedf),(.int .u32 seedg),(.int .u32 seedh)])] R none w:=by kernel_rfl
theorem ou(seeda:Int)(seedb:Int)(seedc:Int)(seedd:Int)(seede:Int)(seedf:Int)(seedg:Int)(seedh:Int) {R:ax} {w:World}(h:ph seeda seedb seedc seedd seede seedf seedg seedh R w):Calls Tryd.prog 31 #[(.agg #[(.int .u32 seeda),(.int .u32 seedb),(.int .u32 seedc),(.int .u32 seedd),(.int .u32 seede),(.int .u32 seedf),(.int .u32 seedg),(.int .u32 seedh)])] w fun e w'=>∃v,e= .returned v∧R v w':=
 aq Tryd.func31 av ar ((AKey_eq seeda seedb seedc seedd seede seedf seedg seedh R w).mp h)
def mL(ca:Int)(cb:Int)(cc:Int)(cd:Int)(ce:Int)(cf:Int)(cg:Int)(ch:Int)(ci:Int)(cj:Int)(ckA:Option Addr)(ckN:Nat)(ckC:Nat)(R:ax)(w:World):Prop:=
 ∀(gv:Nat)(wv:World),gv=w.heap.size→wv=w.alloc (.cells #[(.int .i64 ca),(.int .i64 cb),(.int .u32 cc),(.int .u32 cd),(.int .u32 ce),(.int .u32 cf),(.int .u32 cg),(.int .u32 ch),(.int .u32 ci),(.int .u32 cj),(.slice ckA ckN ckC)] 62)→
 ∃Cd:Option Addr,∃Ac:Nat,∃EK:Nat,wv.cell? ((Addr.mk gv 0 none).add 10)=some (.slice Cd Ac EK)∧
 ∃I:Nat→Int→World→Prop,(∃m,I m 0 wv)∧∀(m:Nat)(Bf:Nat→Value)(x8:Int),∀wC,I m x8 wC→
 split (decide ((x8:Int)<((Ac:Nat):Int))) (
  (0≤(x8:Int)∧(x8:Int)<((Ac:Nat):Int))∧
  ay Cd fun EM=>
  ∃xG:Option Addr,∃xE:Nat,∃xO:Nat,wC.cell? (EM.add (Int.toNat x8*1))=some (.slice xG xE xO)∧
  split (decide ((((xE:Nat):Int):Int)>4096)) (
   R (.bool false) wC) (
   ∃m1,m1<m∧I m1 (i64.wrap (x8+1)) wC)) (
  ∃J:Bool→World→Prop,(
   ∃xM:Int,wC.cell? ((Addr.mk gv 0 none).add 0)=some (.int .i64 xM)∧
   split (decide ((xM:Int)≥1)) (
    ∃xx:Int,wC.cell? ((Addr.mk gv 0 none).add 0)=some (.int .i64 xx)∧
    split (decide ((xx:Int)≤64)) (
     ∃Bi:Int,wC.cell? ((Addr.mk gv 0 none).add 1)=some (.int .i64 Bi)∧
     split (decide ((Bi:Int)≥1)) (
      ∃BN:Int,wC.cell? ((Addr.mk gv 0 none).add 1)=some (.int .i64 BN)∧
      split (decide ((BN:Int)≤64)) (
       ∃Au:Option Addr,∃zA:Nat,∃Bp:Nat,wC.cell? ((Addr.mk gv 0 none).add 10)=some (.slice Au zA Bp)∧
       J (decide ((((zA:Nat):Int):Int)≤64)) wC) (
       J false wC)) (
      J false wC)) (
     J false wC)) (
    J false wC))∧∀(zV:Nat→Value)(x2:Bool),∀wF,J x2 wF→
  R (.bool x2) wF)
def so:Ann:=(.node none .leaf (.node none (.node none .leaf (.node none (.node (some ⟨[(8,.one (.int .i64))],[2,4,8,9,10,11,12,13,14,15]⟩) .leaf .leaf) .leaf)) (.node none (.node (some ⟨[(2,.one (.bool))],[2,16,17,18,19,20,21,22,23,24,25,26,27,28,29,30,31,32,33,34,35,36,37,38,39]⟩) .leaf .leaf) .leaf)))
theorem MoMay_eq(ca:Int)(cb:Int)(cc:Int)(cd:Int)(ce:Int)(cf:Int)(cg:Int)(ch:Int)(ci:Int)(cj:Int)(ckA:Option Addr)(ckN:Nat)(ckC:Nat)(R:ax)(w:World):mL ca cb cc cd ce cf cg ch ci cj ckA ckN ckC R w=vcF Tryd.prog aB [] Tryd.f28 so [(.agg #[(.int .i64 ca),(.int .i64 cb),(.int .u32 cc),(.int .u32 cd),(.int .u32 ce),(.int .u32 cf),(.int .u32 cg),(.int .u32 ch),(.int .u32 ci),(.int .u32 cj),(.slice ckA ckN ckC)])] R none w:=by kernel_rfl
theorem mM(ca:Int)(cb:Int)(cc:Int)(cd:Int)(ce:Int)(cf:Int)(cg:Int)(ch:Int)(ci:Int)(cj:Int)(ckA:Option Addr)(ckN:Nat)(ckC:Nat) {R:ax} {w:World}(h:mL ca cb cc cd ce cf cg ch ci cj ckA ckN ckC R w):Calls Tryd.prog 28 #[(.agg #[(.int .i64 ca),(.int .i64 cb),(.int .u32 cc),(.int .u32 cd),(.int .u32 ce),(.int .u32 cf),(.int .u32 cg),(.int .u32 ch),(.int .u32 ci),(.int .u32 cj),(.slice ckA ckN ckC)])] w fun e w'=>∃v,e= .returned v∧R v w':=
 aq Tryd.func28 av ar ((MoMay_eq ca cb cc cd ce cf cg ch ci cj ckA ckN ckC R w).mp h)
def gG(ca:Int)(cb:Int)(cc:Int)(cd:Int)(ce:Int)(cf:Int)(cg:Int)(ch:Int)(ci:Int)(cj:Int)(ckA:Option Addr)(ckN:Nat)(ckC:Nat)(R:ax)(w:World):Prop:=
 ∀(gv:Nat)(wv:World),gv=w.heap.size→wv=w.alloc (.cells #[(.int .i64 ca),(.int .i64 cb),(.int .u32 cc),(.int .u32 cd),(.int .u32 ce),(.int .u32 cf),(.int .u32 cg),(.int .u32 ch),(.int .u32 ci),(.int .u32 cj),(.slice ckA ckN ckC)] 62)→
 ∀(wD:Nat)(wC:World),wD=wv.heap.size→wC=wv.alloc (.cells (#[(.int .i64 0),(.int .i64 0),(.int .u32 0),(.int .u32 0),(.int .u32 0),(.int .u32 0),(.int .u32 0),(.int .u32 0),(.int .u32 0),(.int .u32 0),(.slice none 0 0)]) 62)→
 ∃F3:Option Addr,∃EP:Nat,∃F2:Nat,wC.cell? ((Addr.mk gv 0 none).add 10)=some (.slice F3 EP F2)∧
 ∃Cc:Option Addr,∃BY:Nat,∃EJ:Nat,∃wF,(Instr.makeSlice 24 (.int .i64 ((EP:Nat):Int)) (.int .i64 ((EP:Nat):Int)):Sem Value).run Tryd.prog wC= .ok (.slice Cc BY EJ) wF∧
 ∃xG:Option Addr,∃xE:Nat,∃xO:Nat,wF.cell? ((Addr.mk gv 0 none).add 10)=some (.slice xG xE xO)∧
 ∃I:Nat→Int→World→Prop,(∃m,I m 0 wF)∧∀(m:Nat)(zV:Nat→Value)(xR:Int),∀wH,I m xR wH→
 split (decide ((xR:Int)<((xE:Nat):Int))) (
  (0≤(xR:Int)∧(xR:Int)<((xE:Nat):Int))∧
  ay xG fun Bw=>
  ∃zJ:Option Addr,∃zj:Nat,∃AO:Nat,wH.cell? (Bw.add (Int.toNat xR*1))=some (.slice zJ zj AO)∧
  Calls Tryd.prog 41 #[(.slice zJ zj AO)] wH fun e wJ=>
  ∃yh:Option Addr,∃xv:Nat,∃yg:Nat,e= .returned (.slice yh xv yg)∧
  (0≤(xR:Int)∧(xR:Int)<((BY:Nat):Int))∧
  ay Cc fun NA=>
  aD wJ (NA.add (Int.toNat xR*1)) [(.slice yh xv yg)] fun wO=>
  ∃m1,m1<m∧I m1 (i64.wrap (xR+1)) wO) (
  aD wH ((Addr.mk gv 0 none).add 10) [(.slice Cc BY EJ)] fun wJ=>
  ∃zG:Int,∃zF:Int,∃zE:Int,∃De:Int,∃Dd:Int,∃Dc:Int,∃Db:Int,∃Da:Int,∃C8:Int,∃C5:Int,∃x26kA:Option Addr,∃x26kN:Nat,∃x26kC:Nat,(wJ.cell? ((Addr.mk gv 0 none).add 0)=some (.int .i64 zG)∧wJ.cell? ((Addr.mk gv 0 none).add 1)=some (.int .i64 zF)∧wJ.cell? ((Addr.mk gv 0 none).add 2)=some (.int .u32 zE)∧wJ.cell? ((Addr.mk gv 0 none).add 3)=some (.int .u32 De)∧wJ.cell? ((Addr.mk gv 0 none).add 4)=some (.int .u32 Dd)∧wJ.cell? ((Addr.mk gv 0 none).add 5)=some (.int .u32 Dc)∧wJ.cell? ((Addr.mk gv 0 none).add 6)=some (.int .u32 Db)∧wJ.cell? ((Addr.mk gv 0 none).add 7)=some (.int .u32 Da)∧wJ.cell? ((Addr.mk gv 0 none).add 8)=some (.int .u32 C8)∧wJ.cell? ((Addr.mk gv 0 none).add 9)=some (.int .u32 C5)∧wJ.cell? ((Addr.mk gv 0 none).add 10)=some (.slice x26kA x26kN x26kC))∧
  aD wJ (Addr.mk wD 0 none) [(.int .i64 zG),(.int .i64 zF),(.int .u32 zE),(.int .u32 De),(.int .u32 Dd),(.int .u32 Dc),(.int .u32 Db),(.int .u32 Da),(.int .u32 C8),(.int .u32 C5),(.slice x26kA x26kN x26kC)] fun wO=>
  ∃xn:Int,∃xm:Int,∃xB:Int,∃xz:Int,∃xy:Int,∃yr:Int,∃yq:Int,∃yp:Int,∃EA:Int,∃Ez:Int,∃r0kA:Option Addr,∃r0kN:Nat,∃r0kC:Nat,(wO.cell? ((Addr.mk wD 0 none).add 0)=some (.int .i64 xn)∧wO.cell? ((Addr.mk wD 0 none).add 1)=some (.int .i64 xm)∧wO.cell? ((Addr.mk wD 0 none).add 2)=some (.int .u32 xB)∧wO.cell? ((Addr.mk wD 0 none).add 3)=some (.int .u32 xz)∧wO.cell? ((Addr.mk wD 0 none).add 4)=some (.int .u32 xy)∧wO.cell? ((Addr.mk wD 0 none).add 5)=some (.int .u32 yr)∧wO.cell? ((Addr.mk wD 0 none).add 6)=some (.int .u32 yq)∧wO.cell? ((Addr.mk wD 0 none).add 7)=some (.int .u32 yp)∧wO.cell? ((Addr.mk wD 0 none).add 8)=some (.int .u32 EA)∧wO.cell? ((Addr.mk wD 0 none).add 9)=some (.int .u32 Ez)∧wO.cell? ((Addr.mk wD 0 none).add 10)=some (.slice r0kA r0kN r0kC))∧
  R (.agg #[(.int .i64 xn),(.int .i64 xm),(.int .u32 xB),(.int .u32 xz),(.int .u32 xy),(.int .u32 yr),(.int .u32 yq),(.int .u32 yp),(.int .u32 EA),(.int .u32 Ez),(.slice r0kA r0kN r0kC)]) wO)
def mO:Ann:=(.node none .leaf (.node none .leaf (.node none (.node none .leaf (.node none (.node (some ⟨[(13,.one (.int .i64))],[4,5,13,14,15,16,17,18,19,20,21,22,23]⟩) .leaf .leaf) .leaf)) .leaf)))
theorem MoCopied_eq(ca:Int)(cb:Int)(cc:Int)(cd:Int)(ce:Int)(cf:Int)(cg:Int)(ch:Int)(ci:Int)(cj:Int)(ckA:Option Addr)(ckN:Nat)(ckC:Nat)(R:ax)(w:World):gG ca cb cc cd ce cf cg ch ci cj ckA ckN ckC R w=vcF Tryd.prog aB [] Tryd.f30 mO [(.agg #[(.int .i64 ca),(.int .i64 cb),(.int .u32 cc),(.int .u32 cd),(.int .u32 ce),(.int .u32 cf),(.int .u32 cg),(.int .u32 ch),(.int .u32 ci),(.int .u32 cj),(.slice ckA ckN ckC)])] R none w:=by kernel_rfl
theorem ja(ca:Int)(cb:Int)(cc:Int)(cd:Int)(ce:Int)(cf:Int)(cg:Int)(ch:Int)(ci:Int)(cj:Int)(ckA:Option Addr)(ckN:Nat)(ckC:Nat) {R:ax} {w:World}(h:gG ca cb cc cd ce cf cg ch ci cj ckA ckN ckC R w):Calls Tryd.prog 30 #[(.agg #[(.int .i64 ca),(.int .i64 cb),(.int .u32 cc),(.int .u32 cd),(.int .u32 ce),(.int .u32 cf),(.int .u32 cg),(.int .u32 ch),(.int .u32 ci),(.int .u32 cj),(.slice ckA ckN ckC)])] w fun e w'=>∃v,e= .returned v∧R v w':=
 aq Tryd.func30 av ar ((MoCopied_eq ca cb cc cd ce cf cg ch ci cj ckA ckN ckC R w).mp h)
def mJ(ca:Int)(cb:Int)(cc:Int)(cd:Int)(ce:Int)(cf:Int)(cg:Int)(ch:Int)(ci:Int)(cj:Int)(ckA:Option Addr)(ckN:Nat)(ckC:Nat)(R:ax)(w:World):Prop:=
 ∀(gv:Nat)(wv:World),gv=w.heap.size→wv=w.alloc (.cells #[(.int .i64 ca),(.int .i64 cb),(.int .u32 cc),(.int .u32 cd),(.int .u32 ce),(.int .u32 cf),(.int .u32 cg),(.int .u32 ch),(.int .u32 ci),(.int .u32 cj),(.slice ckA ckN ckC)] 62)→
 ∃zx:Int,∃Ab:Int,∃BM:Int,∃BL:Int,∃BK:Int,∃BJ:Int,∃BI:Int,∃BH:Int,∃BG:Int,∃Cm:Int,∃x6kA:Option Addr,∃x6kN:Nat,∃x6kC:Nat,(wv.cell? ((Addr.mk gv 0 none).add 0)=some (.int .i64 zx)∧wv.cell? ((Addr.mk gv 0 none).add 1)=some (.int .i64 Ab)∧wv.cell? ((Addr.mk gv 0 none).add 2)=some (.int .u32 BM)∧wv.cell? ((Addr.mk gv 0 none).add 3)=some (.int .u32 BL)∧wv.cell? ((Addr.mk gv 0 none).add 4)=some (.int .u32 BK)∧wv.cell? ((Addr.mk gv 0 none).add 5)=some (.int .u32 BJ)∧wv.cell? ((Addr.mk gv 0 none).add 6)=some (.int .u32 BI)∧wv.cell? ((Addr.mk gv 0 none).add 7)=some (.int .u32 BH)∧wv.cell? ((Addr.mk gv 0 none).add 8)=some (.int .u32 BG)∧wv.cell? ((Addr.mk gv 0 none).add 9)=some (.int .u32 Cm)∧wv.cell? ((Addr.mk gv 0 none).add 10)=some (.slice x6kA x6kN x6kC))∧
 Calls Tryd.prog 28 #[(.agg #[(.int .i64 zx),(.int .i64 Ab),(.int .u32 BM),(.int .u32 BL),(.int .u32 BK),(.int .u32 BJ),(.int .u32 BI),(.int .u32 BH),(.int .u32 BG),(.int .u32 Cm),(.slice x6kA x6kN x6kC)])] wv fun e wC=>
 ∃x7:Bool,e= .returned (.bool x7)∧
 split (!x7) (
  R (.tuple #[(.pointer none),(.int .i64 210)]) wC) (
  ∃yl:Int,wC.cell? ((Addr.mk gv 0 none).add 0)=some (.int .i64 yl)∧
  ∃xR:Int,wC.cell? ((Addr.mk gv 0 none).add 1)=some (.int .i64 xR)∧
  Calls Tryd.prog 29 #[(.int .i64 yl),(.int .i64 xR)] wC fun e wF=>
  ∃AR:Option Addr,∃Bt:Int,e= .returned (.tuple #[(.pointer AR),(.int .i64 Bt)])∧
  ∃b:Nat→Nat→Prop,
  b 0 ((Addr.mk gv 0 none).block)∧
  ∃DH:Int,∃zI:Int,∃DG:Int,∃DF:Int,∃DE:Int,∃DD:Int,∃DC:Int,∃DA:Int,∃Dz:Int,∃Dy:Int,∃x17kA:Option Addr,∃x17kN:Nat,∃x17kC:Nat,(wF.drew.cell? ((Addr.mk gv 0 none).add 0)=some (.int .i64 DH)∧wF.drew.cell? ((Addr.mk gv 0 none).add 1)=some (.int .i64 zI)∧wF.drew.cell? ((Addr.mk gv 0 none).add 2)=some (.int .u32 DG)∧wF.drew.cell? ((Addr.mk gv 0 none).add 3)=some (.int .u32 DF)∧wF.drew.cell? ((Addr.mk gv 0 none).add 4)=some (.int .u32 DE)∧wF.drew.cell? ((Addr.mk gv 0 none).add 5)=some (.int .u32 DD)∧wF.drew.cell? ((Addr.mk gv 0 none).add 6)=some (.int .u32 DC)∧wF.drew.cell? ((Addr.mk gv 0 none).add 7)=some (.int .u32 DA)∧wF.drew.cell? ((Addr.mk gv 0 none).add 8)=some (.int .u32 Dz)∧wF.drew.cell? ((Addr.mk gv 0 none).add 9)=some (.int .u32 Dy)∧wF.drew.cell? ((Addr.mk gv 0 none).add 10)=some (.slice x17kA x17kN x17kC))∧
  b 3 (((Addr.mk gv 0 none).add 2).block)∧
  ∃AF:Int,∃AE:Int,∃AD:Int,∃AB:Int,∃AA:Int,∃Di:Int,∃Dh:Int,∃Df:Int,(wF.drew.cell? (((Addr.mk gv 0 none).add 2).add 0)=some (.int .u32 AF)∧wF.drew.cell? (((Addr.mk gv 0 none).add 2).add 1)=some (.int .u32 AE)∧wF.drew.cell? (((Addr.mk gv 0 none).add 2).add 2)=some (.int .u32 AD)∧wF.drew.cell? (((Addr.mk gv 0 none).add 2).add 3)=some (.int .u32 AB)∧wF.drew.cell? (((Addr.mk gv 0 none).add 2).add 4)=some (.int .u32 AA)∧wF.drew.cell? (((Addr.mk gv 0 none).add 2).add 5)=some (.int .u32 Di)∧wF.drew.cell? (((Addr.mk gv 0 none).add 2).add 6)=some (.int .u32 Dh)∧wF.drew.cell? (((Addr.mk gv 0 none).add 2).add 7)=some (.int .u32 Df))∧
  Calls Tryd.prog 30 #[(.agg #[(.int .i64 DH),(.int .i64 zI),(.int .u32 DG),(.int .u32 DF),(.int .u32 DE),(.int .u32 DD),(.int .u32 DC),(.int .u32 DA),(.int .u32 Dz),(.int .u32 Dy),(.slice x17kA x17kN x17kC)])] wF.drew fun e wH=>
  ∃La:Int,∃K9:Int,∃K8:Int,∃K7:Int,∃K6:Int,∃K5:Int,∃K4:Int,∃K3:Int,∃K2:Int,∃K1:Int,∃x18kA:Option Addr,∃x18kN:Nat,∃x18kC:Nat,e= .returned (.agg #[(.int .i64 La),(.int .i64 K9),(.int .u32 K8),(.int .u32 K7),(.int .u32 K6),(.int .u32 K5),(.int .u32 K4),(.int .u32 K3),(.int .u32 K2),(.int .u32 K1),(.slice x18kA x18kN x18kC)])∧
  Kept (aX b [2,3,5]) wF.drew wH∧∃b1:Nat→Nat→Prop,(∀i k,b i k→b1 i k)∧
  Calls Tryd.prog 31 #[(.agg #[(.int .u32 AF),(.int .u32 AE),(.int .u32 AD),(.int .u32 AB),(.int .u32 AA),(.int .u32 Di),(.int .u32 Dh),(.int .u32 Df)])] wH fun e wJ=>
  ∃KP:Int,∃KO:Int,∃KN:Int,∃KM:Int,∃KL:Int,∃KK:Int,∃KJ:Int,∃KI:Int,e= .returned (.agg #[(.int .u32 KP),(.int .u32 KO),(.int .u32 KN),(.int .u32 KM),(.int .u32 KL),(.int .u32 KK),(.int .u32 KJ),(.int .u32 KI)])∧
  Kept (aX b1 [5]) wH wJ∧∃b2:Nat→Nat→Prop,(∀i k,b1 i k→b2 i k)∧
  Calls Tryd.prog 32 #[(.pointer AR)] wJ fun e wO=>
  ∃yY:Option Addr,e= .returned (.pointer yY)∧
  ∃b3:Nat→Nat→Prop,(∀i k,b2 i k→b3 i k)∧
  ∀(wD:Nat)(wN:World),wD=wO.heap.size→wN=wO.alloc (.cells #[(.int .i64 La),(.int .i64 K9),(.int .u32 K8),(.int .u32 K7),(.int .u32 K6),(.int .u32 K5),(.int .u32 K4),(.int .u32 K3),(.int .u32 K2),(.int .u32 K1),(.slice x18kA x18kN x18kC),(.int .u32 KP),(.int .u32 KO),(.int .u32 KN),(.int .u32 KM),(.int .u32 KL),(.int .u32 KK),(.int .u32 KJ),(.int .u32 KI),(.pointer yY),(.int .u32 0),(.int .u32 0),(.int .u32 0),(.int .u32 0),(.int .u32 0),(.int .u32 0),(.int .u32 0),(.int .u32 0),(.int .u32 0),(.int .u32 0),(.int .u32 0),(.int .u32 0),(.int .u32 0),(.int .u32 0),(.int .u32 0)] 79)→
  Kept (aX b3 [2]) wO wN∧∃b4:Nat→Nat→Prop,(∀i k,b3 i k→b4 i k)∧
  R (.tuple #[(.pointer (some (Addr.mk wD 0 none))),(.int .i64 0)]) wN)
def sl:Ann:= .leaf
theorem MoNew_eq(ca:Int)(cb:Int)(cc:Int)(cd:Int)(ce:Int)(cf:Int)(cg:Int)(ch:Int)(ci:Int)(cj:Int)(ckA:Option Addr)(ckN:Nat)(ckC:Nat)(R:ax)(w:World):mJ ca cb cc cd ce cf cg ch ci cj ckA ckN ckC R w=vcF Tryd.prog aB [] Tryd.f21 sl [(.agg #[(.int .i64 ca),(.int .i64 cb),(.int .u32 cc),(.int .u32 cd),(.int .u32 ce),(.int .u32 cf),(.int .u32 cg),(.int .u32 ch),(.int .u32 ci),(.int .u32 cj),(.slice ckA ckN ckC)])] R none w:=by kernel_rfl
theorem mK(ca:Int)(cb:Int)(cc:Int)(cd:Int)(ce:Int)(cf:Int)(cg:Int)(ch:Int)(ci:Int)(cj:Int)(ckA:Option Addr)(ckN:Nat)(ckC:Nat) {R:ax} {w:World}(h:mJ ca cb cc cd ce cf cg ch ci cj ckA ckN ckC R w):Calls Tryd.prog 21 #[(.agg #[(.int .i64 ca),(.int .i64 cb),(.int .u32 cc),(.int .u32 cd),(.int .u32 ce),(.int .u32 cf),(.int .u32 cg),(.int .u32 ch),(.int .u32 ci),(.int .u32 cj),(.slice ckA ckN ckC)])] w fun e w'=>∃v,e= .returned v∧R v w':=
 aq Tryd.func21 av ar ((MoNew_eq ca cb cc cd ce cf cg ch ci cj ckA ckN ckC R w).mp h)
def gF(ev:Int)(R:ax)(w:World):Prop:=
 split ((ev:Int)==70) (
  R (.int .i64 4) w) (
  R (.int .i64 ev) w)
def mI:Ann:= .leaf
theorem MoRanged_eq(ev:Int)(R:ax)(w:World):gF ev R w=vcF Tryd.prog aB [] Tryd.f33 mI [(.int .i64 ev)] R none w:=by kernel_rfl
theorem iZ(ev:Int) {R:ax} {w:World}(h:gF ev R w):Calls Tryd.prog 33 #[(.int .i64 ev)] w fun e w'=>∃v,e= .returned v∧R v w':=
 aq Tryd.func33 av ar ((MoRanged_eq ev R w).mp h)
def iX(m:Option Addr)(aK:Int)(off:Int)(v:Int)(R:ax)(w:World):Prop:=
 ay m fun EM=>
 ∃zK:Option Addr,w.cell? (EM.add 19)=some (.pointer zK)∧
 Calls Tryd.prog 34 #[(.pointer zK)] w fun e wv=>
 ∃xR:Option Addr,e= .returned (.pointer xR)∧
 Calls Tryd.prog 35 #[(.pointer xR),(.agg #[(.bool false),(.int .i64 aK)]),(.int .i64 off),(.int .u32 v)] wv fun e wC=>
 ∃yL:Int,e= .returned (.int .i64 yL)∧
 Calls Tryd.prog 33 #[(.int .i64 yL)] wC fun e wF=>
 ∃yT:Int,e= .returned (.int .i64 yT)∧
 R (.int .i64 yT) wF
def nY:Ann:= .leaf
theorem MoWrite_eq(m:Option Addr)(aK:Int)(off:Int)(v:Int)(R:ax)(w:World):iX m aK off v R w=vcF Tryd.prog aB [] Tryd.f23 nY [(.pointer m),(.int .i64 aK),(.int .i64 off),(.int .u32 v)] R none w:=by kernel_rfl
theorem jx(m:Option Addr)(aK:Int)(off:Int)(v:Int) {R:ax} {w:World}(h:iX m aK off v R w):Calls Tryd.prog 23 #[(.pointer m),(.int .i64 aK),(.int .i64 off),(.int .u32 v)] w fun e w'=>∃v,e= .returned v∧R v w':=
 aq Tryd.func23 av ar ((MoWrite_eq m aK off v R w).mp h)
def o7(m:Option Addr)(R:ax)(w:World):Prop:=
 ay m fun p4=>
 ∃x6:Option Addr,w.cell? (p4.add 19)=some (.pointer x6)∧
 R (.pointer x6) w
def tL:Ann:= .leaf
theorem MoDB_eq(m:Option Addr)(R:ax)(w:World):o7 m R w=vcF Tryd.prog aB [] Tryd.f36 tL [(.pointer m)] R none w:=by kernel_rfl
theorem nZ(m:Option Addr) {R:ax} {w:World}(h:o7 m R w):Calls Tryd.prog 36 #[(.pointer m)] w fun e w'=>∃v,e= .returned v∧R v w':=
 aq Tryd.func36 av ar ((MoDB_eq m R w).mp h)
def eu(m:Option Addr)(R:ax)(w:World):Prop:=
 ∀(gv:Nat)(wv:World),gv=w.heap.size→wv=w.alloc (.cells (#[(.int .u32 0),(.int .u32 0),(.int .u32 0),(.int .u32 0),(.int .u32 0),(.int .u32 0),(.int .u32 0),(.int .u32 0),(.int .u32 0),(.int .u32 0),(.int .u32 0),(.int .u32 0),(.int .u32 0),(.int .u32 0),(.int .u32 0)]) 23)→
 ay m fun p4=>
 ∃zx:Int,∃Ab:Int,∃BM:Int,∃BL:Int,∃BK:Int,∃BJ:Int,∃BI:Int,∃BH:Int,∃BG:Int,∃Cm:Int,∃Fg:Int,∃Ff:Int,∃Fe:Int,∃Fc:Int,∃Fb:Int,(wv.cell? ((p4.add 20).add 0)=some (.int .u32 zx)∧wv.cell? ((p4.add 20).add 1)=some (.int .u32 Ab)∧wv.cell? ((p4.add 20).add 2)=some (.int .u32 BM)∧wv.cell? ((p4.add 20).add 3)=some (.int .u32 BL)∧wv.cell? ((p4.add 20).add 4)=some (.int .u32 BK)∧wv.cell? ((p4.add 20).add 5)=some (.int .u32 BJ)∧wv.cell? ((p4.add 20).add 6)=some (.int .u32 BI)∧wv.cell? ((p4.add 20).add 7)=some (.int .u32 BH)∧wv.cell? ((p4.add 20).add 8)=some (.int .u32 BG)∧wv.cell? ((p4.add 20).add 9)=some (.int .u32 Cm)∧wv.cell? ((p4.add 20).add 10)=some (.int .u32 Fg)∧wv.cell? ((p4.add 20).add 11)=some (.int .u32 Ff)∧wv.cell? ((p4.add 20).add 12)=some (.int .u32 Fe)∧wv.cell? ((p4.add 20).add 13)=some (.int .u32 Fc)∧wv.cell? ((p4.add 20).add 14)=some (.int .u32 Fb))∧
 aD wv (Addr.mk gv 0 none) [(.int .u32 zx),(.int .u32 Ab),(.int .u32 BM),(.int .u32 BL),(.int .u32 BK),(.int .u32 BJ),(.int .u32 BI),(.int .u32 BH),(.int .u32 BG),(.int .u32 Cm),(.int .u32 Fg),(.int .u32 Ff),(.int .u32 Fe),(.int .u32 Fc),(.int .u32 Fb)] fun wC=>
 ∃xn:Int,∃xm:Int,∃xB:Int,∃xz:Int,∃xy:Int,∃yr:Int,∃yq:Int,∃yp:Int,∃EA:Int,∃Ez:Int,∃FE:Int,∃FD:Int,∃FC:Int,∃FB:Int,∃FA:Int,(wC.cell? ((Addr.mk gv 0 none).add 0)=some (.int .u32 xn)∧wC.cell? ((Addr.mk gv 0 none).add 1)=some (.int .u32 xm)∧wC.cell? ((Addr.mk gv 0 none).add 2)=some (.int .u32 xB)∧wC.cell? ((Addr.mk gv 0 none).add 3)=some (.int .u32 xz)∧wC.cell? ((Addr.mk gv 0 none).add 4)=some (.int .u32 xy)∧wC.cell? ((Addr.mk gv 0 none).add 5)=some (.int .u32 yr)∧wC.cell? ((Addr.mk gv 0 none).add 6)=some (.int .u32 yq)∧wC.cell? ((Addr.mk gv 0 none).add 7)=some (.int .u32 yp)∧wC.cell? ((Addr.mk gv 0 none).add 8)=some (.int .u32 EA)∧wC.cell? ((Addr.mk gv 0 none).add 9)=some (.int .u32 Ez)∧wC.cell? ((Addr.mk gv 0 none).add 10)=some (.int .u32 FE)∧wC.cell? ((Addr.mk gv 0 none).add 11)=some (.int .u32 FD)∧wC.cell? ((Addr.mk gv 0 none).add 12)=some (.int .u32 FC)∧wC.cell? ((Addr.mk gv 0 none).add 13)=some (.int .u32 FB)∧wC.cell? ((Addr.mk gv 0 none).add 14)=some (.int .u32 FA))∧
 R (.agg #[(.int .u32 xn),(.int .u32 xm),(.int .u32 xB),(.int .u32 xz),(.int .u32 xy),(.int .u32 yr),(.int .u32 yq),(.int .u32 yp),(.int .u32 EA),(.int .u32 Ez),(.int .u32 FE),(.int .u32 FD),(.int .u32 FC),(.int .u32 FB),(.int .u32 FA)]) wC
def iY:Ann:= .leaf
theorem MoRegisters_eq(m:Option Addr)(R:ax)(w:World):eu m R w=vcF Tryd.prog aB [] Tryd.f38 iY [(.pointer m)] R none w:=by kernel_rfl
theorem fu(m:Option Addr) {R:ax} {w:World}(h:eu m R w):Calls Tryd.prog 38 #[(.pointer m)] w fun e w'=>∃v,e= .returned v∧R v w':=
 aq Tryd.func38 av ar ((MoRegisters_eq m R w).mp h)
def bE(sA:Option Addr)(sN:Nat)(sC:Nat)(R:ax)(w:World):Prop:=
 split sA.isNone (
  R (.slice none 0 0) w) (
  ∀(gv:Nat)(wv:World),gv=w.heap.size→wv=w.alloc (.cells #[] 22)→
  ∃F3:Option Addr,∃EP:Nat,∃F2:Nat,∃wC,(Builtin.append_ #[47,47] 47 #[(.slice (some (Addr.mk gv 0 none)) 0 0),(.slice sA sN sC)]:Sem Value).run Tryd.prog wv= .ok (.slice F3 EP F2) wC∧
  R (.slice F3 EP F2) wC)
def cz:Ann:= .leaf
theorem XSlicesClone__uint32_uint32__eq(sA:Option Addr)(sN:Nat)(sC:Nat)(R:ax)(w:World):bE sA sN sC R w=vcF Tryd.prog aB [] Tryd.f41 cz [(.slice sA sN sC)] R none w:=by kernel_rfl
theorem cl(sA:Option Addr)(sN:Nat)(sC:Nat) {R:ax} {w:World}(h:bE sA sN sC R w):Calls Tryd.prog 41 #[(.slice sA sN sC)] w fun e w'=>∃v,e= .returned v∧R v w':=
 aq Tryd.func41 av ar ((XSlicesClone__uint32_uint32__eq sA sN sC R w).mp h)
def iM(m:Option Addr)(fa:Bool)(fb:Int)(R:ax)(w:World):Prop:=
 ∀(gv:Nat)(wv:World),gv=w.heap.size→wv=w.alloc (.cells #[(.bool fa),(.int .i64 fb)] 84)→
 ∀(wD:Nat)(wC:World),wD=wv.heap.size→wC=wv.alloc (.cells (Array.replicate 1024 (.int .u32 0)) 69)→
 ∀(wY:Nat)(wF:World),wY=wC.heap.size→wF=wC.alloc (.cells (Array.replicate 1024 (.int .u32 0)) 69)→
 ∃I:Nat→Int→World→Prop,(∃m1,I m1 0 wF)∧∀(m1:Nat)(Be:Nat→Value)(x7:Int),∀wH,I m1 x7 wH→
 split (decide ((x7:Int)<1024)) (
  ∃Er:Bool,∃Ep:Int,(wH.cell? ((Addr.mk gv 0 none).add 0)=some (.bool Er)∧wH.cell? ((Addr.mk gv 0 none).add 1)=some (.int .i64 Ep))∧
  Calls Tryd.prog 52 #[(.pointer m),(.agg #[(.bool Er),(.int .i64 Ep)]),(.int .i64 x7)] wH fun e wJ=>
  ∃xL:Int,e= .returned (.int .u32 xL)∧
  (0≤(x7:Int)∧(x7:Int)<((1024:Nat):Int))∧
  aD wJ ((Addr.mk wY 0 none).add (Int.toNat x7*1)) [(.int .u32 xL)] fun wO=>
  ∃m2,m2<m1∧I m2 (i64.wrap (x7+1)) wO) (
  ∃xM:Array Value,(xM.size=1024∧∀i u,xM[i]? =some u→wH.cell? ((Addr.mk wY 0 none).add i)=some u)∧
  xM.size=1024∧(∀v∈xM.toList,one? v True)∧
  aD wH (Addr.mk wD 0 none) xM.toList fun wJ=>
  ∃r0:Array Value,(r0.size=1024∧∀i u,r0[i]? =some u→wJ.cell? ((Addr.mk wD 0 none).add i)=some u)∧
  R (.agg r0) wJ)
def nN:Ann:=(.node none .leaf (.node none .leaf (.node none (.node none .leaf (.node none (.node (some ⟨[(7,.one (.int .i64))],[6,7,8,9,10,11,12,13,14,15,16]⟩) .leaf .leaf) .leaf)) .leaf)))
theorem ViWords_eq(m:Option Addr)(fa:Bool)(fb:Int)(R:ax)(w:World):iM m fa fb R w=vcF Tryd.prog aB [] Tryd.f40 nN [(.pointer m),(.agg #[(.bool fa),(.int .i64 fb)])] R none w:=by kernel_rfl
theorem jo(m:Option Addr)(fa:Bool)(fb:Int) {R:ax} {w:World}(h:iM m fa fb R w):Calls Tryd.prog 40 #[(.pointer m),(.agg #[(.bool fa),(.int .i64 fb)])] w fun e w'=>∃v,e= .returned v∧R v w':=
 aq Tryd.func40 av ar ((ViWords_eq m fa fb R w).mp h)
def ki(d:Option Addr)(birth:Int)(R:ax)(w:World):Prop:=
 Calls Tryd.prog 54 #[(.pointer d)] w fun e wv=>
 ∃x9:Int,e= .returned (.int .i64 x9)∧
 ∃I:Nat→Int→World→Prop,(∃m,I m 0 wv)∧∀(m:Nat)(Bg:Nat→Value)(yB:Int),∀wC,I m yB wC→
 split (decide ((yB:Int)<x9)) (
  Calls Tryd.prog 55 #[(.pointer d),(.int .i64 yB)] wC fun e wF=>
  ∃x16aa:Int,∃x16ab:Int,∃x16ac:Int,∃x16ad:Int,∃x16ae:Bool,∃yD:Int,e= .returned (.tuple #[(.agg #[(.int .i64 x16aa),(.int .i64 x16ab),(.int .i64 x16ac),(.int .i64 x16ad),(.bool x16ae)]),(.int .i64 yD)])∧
  ∀(wD:Nat)(wH:World),wD=wF.heap.size→wH=wF.alloc (.cells (#[(.int .i64 0),(.int .i64 0),(.int .i64 0),(.int .i64 0),(.bool false)]) 112)→
  aD wH (Addr.mk wD 0 none) [(.int .i64 x16aa),(.int .i64 x16ab),(.int .i64 x16ac),(.int .i64 x16ad),(.bool x16ae)] fun wJ=>
  ∃J:Bool→World→Prop,(
   ∃yn:Int,wJ.cell? ((Addr.mk wD 0 none).add 0)=some (.int .i64 yn)∧
   split ((yn:Int)==1) (
    Calls Tryd.prog 34 #[(.pointer d)] wJ fun e wO=>
    ∃KF:Option Addr,e= .returned (.pointer KF)∧
    Calls Tryd.prog 52 #[(.pointer KF),(.agg #[(.bool true),(.int .i64 yB)]),(.int .i64 1)] wO fun e wN=>
    ∃zs:Int,e= .returned (.int .u32 zs)∧
    J ((i64.wrap zs:Int)==birth) wN) (
    J false wJ))∧∀(zV:Nat→Value)(BN:Bool),∀wO,J BN wO→
  split BN (
   R (.int .i64 yB) wO) (
   ∃m1,m1<m∧I m1 (i64.wrap (yB+1)) wO)) (
  R (.int .i64 (-1)) wC)
def qg:Ann:=(.node none .leaf (.node none (.node none .leaf (.node none (.node (some ⟨[(10,.one (.int .i64))],[4,5,6,7,10,11,12,13,14,15,16,17,18,19,20,21,22,23,24,25,26,27,28,29,30,31,32,33]⟩) (.node none .leaf (.node none .leaf (.node none (.node none (.node none .leaf (.node none .leaf (.node none (.node (some ⟨[(31,.one (.bool))],[19,20,21,22,23,24,25,26,27,28,29,30,31]⟩) .leaf .leaf) .leaf))) .leaf) .leaf))) .leaf) .leaf)) .leaf))
theorem ViFind_eq(d:Option Addr)(birth:Int)(R:ax)(w:World):ki d birth R w=vcF Tryd.prog aB [] Tryd.f43 qg [(.pointer d),(.int .i64 birth)] R none w:=by kernel_rfl
theorem kX(d:Option Addr)(birth:Int) {R:ax} {w:World}(h:ki d birth R w):Calls Tryd.prog 43 #[(.pointer d),(.int .i64 birth)] w fun e w'=>∃v,e= .returned v∧R v w':=
 aq Tryd.func43 av ar ((ViFind_eq d birth R w).mp h)
def kf(d:Option Addr)(of:Int)(R:ax)(w:World):Prop:=
 ∀(gv:Nat)(wv:World),gv=w.heap.size→wv=w.alloc (.cells #[(.pointer d)] 76)→
 ∀(wD:Nat)(wC:World),wD=wv.heap.size→wC=wv.alloc (.cells #[(.int .i64 of)] 3)→
 R (.func (.func 53) #[] #[(.pointer (some (Addr.mk gv 0 none))),(.pointer (some (Addr.mk wD 0 none)))]) wC
def qd:Ann:= .leaf
theorem ViSeen_eq(d:Option Addr)(of:Int)(R:ax)(w:World):kf d of R w=vcF Tryd.prog aB [] Tryd.f42 qd [(.pointer d),(.int .i64 of)] R none w:=by kernel_rfl
theorem kU(d:Option Addr)(of:Int) {R:ax} {w:World}(h:kf d of R w):Calls Tryd.prog 42 #[(.pointer d),(.int .i64 of)] w fun e w'=>∃v,e= .returned v∧R v w':=
 aq Tryd.func42 av ar ((ViSeen_eq d of R w).mp h)
def gz(yield:Value)(cap0:Addr)(cap1:Addr)(R:ax)(w:World):Prop:=
 ∃x9:Option Addr,w.cell? cap0=some (.pointer x9)∧
 Calls Tryd.prog 54 #[(.pointer x9)] w fun e wv=>
 ∃yB:Int,e= .returned (.int .i64 yB)∧
 ∃I:Nat→Int→World→Prop,(∃m,I m 0 wv)∧∀(m:Nat)(Bg:Nat→Value)(yl:Int),∀wC,I m yl wC→
 split (decide ((yl:Int)<yB)) (
  ∃BO:Option Addr,wC.cell? cap0=some (.pointer BO)∧
  Calls Tryd.prog 55 #[(.pointer BO),(.int .i64 yl)] wC fun e wF=>
  ∃x17aa:Int,∃x17ab:Int,∃x17ac:Int,∃x17ad:Int,∃x17ae:Bool,∃zI:Int,e= .returned (.tuple #[(.agg #[(.int .i64 x17aa),(.int .i64 x17ab),(.int .i64 x17ac),(.int .i64 x17ad),(.bool x17ae)]),(.int .i64 zI)])∧
  ∀(wD:Nat)(wH:World),wD=wF.heap.size→wH=wF.alloc (.cells (#[(.int .i64 0),(.int .i64 0),(.int .i64 0),(.int .i64 0),(.bool false)]) 112)→
  aD wH (Addr.mk wD 0 none) [(.int .i64 x17aa),(.int .i64 x17ab),(.int .i64 x17ac),(.int .i64 x17ad),(.bool x17ae)] fun wJ=>
  ∀(wY:Nat)(wO:World),wY=wJ.heap.size→wO=wJ.alloc (.cells (#[(.int .u32 0),(.int .u32 0),(.bool false),(.slice none 0 0)]) 66)→
  aD wO (Addr.mk wY 0 none) [(.int .u32 0),(.int .u32 0),(.bool false),(.slice none 0 0)] fun wN=>
  ∃B4:Int,∃B3:Int,∃B1:Int,∃KH:Int,∃KG:Bool,(wN.cell? ((Addr.mk wD 0 none).add 0)=some (.int .i64 B4)∧wN.cell? ((Addr.mk wD 0 none).add 1)=some (.int .i64 B3)∧wN.cell? ((Addr.mk wD 0 none).add 2)=some (.int .i64 B1)∧wN.cell? ((Addr.mk wD 0 none).add 3)=some (.int .i64 KH)∧wN.cell? ((Addr.mk wD 0 none).add 4)=some (.bool KG))∧
  Calls Tryd.prog 56 #[(.agg #[(.int .i64 B4),(.int .i64 B3),(.int .i64 B1),(.int .i64 KH),(.bool KG)])] wN fun e wQ=>
  ∃x23aa:Int,∃x23ab:Int,∃Nu:Int,e= .returned (.tuple #[(.agg #[(.int .u32 x23aa),(.int .u32 x23ab)]),(.int .i64 Nu)])∧
  aD wQ ((Addr.mk wY 0 none).add 0) [(.int .u32 x23aa),(.int .u32 x23ab)] fun wK=>
  ∃J:Bool→World→Prop,(
   ∃zs:Int,wK.cell? cap1=some (.int .i64 zs)∧
   split (decide ((zs:Int)≥0)) (
    ∃BN:Int,wK.cell? ((Addr.mk wD 0 none).add 1)=some (.int .i64 BN)∧
    ∃J9:Int,wK.cell? cap1=some (.int .i64 J9)∧
    split ((BN:Int)==J9) (
     ∃Fp:Int,wK.cell? ((Addr.mk wD 0 none).add 0)=some (.int .i64 Fp)∧
     split ((Fp:Int)==5) (
      J true wK) (
      ∃At:Int,wK.cell? ((Addr.mk wD 0 none).add 0)=some (.int .i64 At)∧
      J ((At:Int)==2) wK)) (
     J false wK)) (
    J false wK))∧∀(Be:Nat→Value)(EL:Bool),∀xw,J EL xw→
  split EL (
   aD xw ((Addr.mk wY 0 none).add 2) [(.bool true)] fun xq=>
   ∃Ag:Int,∃Af:Int,∃Ae:Bool,∃x60dA:Option Addr,∃x60dN:Nat,∃x60dC:Nat,(xq.cell? ((Addr.mk wY 0 none).add 0)=some (.int .u32 Ag)∧xq.cell? ((Addr.mk wY 0 none).add 1)=some (.int .u32 Af)∧xq.cell? ((Addr.mk wY 0 none).add 2)=some (.bool Ae)∧xq.cell? ((Addr.mk wY 0 none).add 3)=some (.slice x60dA x60dN x60dC))∧
   mi Tryd.prog aB true yield #[(.int .i64 yl),(.agg #[(.int .u32 Ag),(.int .u32 Af),(.bool Ae),(.slice x60dA x60dN x60dC)])] xq fun e xk=>
   ∃Ce:Bool,e= .returned (.bool Ce)∧
   split (!Ce) (
    R (.tuple #[]) xk) (
    ∃m1,m1<m∧I m1 (i64.wrap (yl+1)) xk)) (
   ∃Fm:Option Addr,xw.cell? cap0=some (.pointer Fm)∧
   Calls Tryd.prog 34 #[(.pointer Fm)] xw fun e xq=>
   ∃x47:Option Addr,e= .returned (.pointer x47)∧
   Calls Tryd.prog 40 #[(.pointer x47),(.agg #[(.bool true),(.int .i64 yl)])] xq fun e xk=>
   ∃MJ:Array Value,e= .returned (.agg MJ)∧
   ∀(xU:Nat)(wT:World),xU=xk.heap.size→wT=xk.alloc (.cells (Array.replicate 1024 (.int .u32 0)) 69)→
   MJ.size=1024∧(∀v∈MJ.toList,one? v True)∧
   aD wT (Addr.mk xU 0 none) MJ.toList fun wS=>
   ∃ET:Int,wS.cell? cap1=some (.int .i64 ET)∧
   split ((yl:Int)==ET) (
    (0≤(2:Int)∧(2:Int)<((1024:Nat):Int))∧
    aD wS ((Addr.mk xU 0 none).add (Int.toNat 2*1)) [(.int .u32 0)] fun xp=>
    ∀Cv:Option Addr,Cv=(some (if 1024=0 then Addr.mk xU 0 none else(Addr.mk xU 0 none).add (0*1)))→∀Ct:Nat,Ct=1024 - 0→∀Cu:Nat,Cu=1024 - 0→
    Calls Tryd.prog 41 #[(.slice Cv Ct Cu)] xp fun e xj=>
    ∃Aj:Option Addr,∃Ah:Nat,∃Ai:Nat,e= .returned (.slice Aj Ah Ai)∧
    aD xj ((Addr.mk wY 0 none).add 3) [(.slice Aj Ah Ai)] fun yo=>
    ∃Ag:Int,∃Af:Int,∃Ae:Bool,∃x60dA:Option Addr,∃x60dN:Nat,∃x60dC:Nat,(yo.cell? ((Addr.mk wY 0 none).add 0)=some (.int .u32 Ag)∧yo.cell? ((Addr.mk wY 0 none).add 1)=some (.int .u32 Af)∧yo.cell? ((Addr.mk wY 0 none).add 2)=some (.bool Ae)∧yo.cell? ((Addr.mk wY 0 none).add 3)=some (.slice x60dA x60dN x60dC))∧
    mi Tryd.prog aB true yield #[(.int .i64 yl),(.agg #[(.int .u32 Ag),(.int .u32 Af),(.bool Ae),(.slice x60dA x60dN x60dC)])] yo fun e Ew=>
    ∃Ce:Bool,e= .returned (.bool Ce)∧
    split (!Ce) (
     R (.tuple #[]) Ew) (
     ∃m1,m1<m∧I m1 (i64.wrap (yl+1)) Ew)) (
    ∀Cv:Option Addr,Cv=(some (if 1024=0 then Addr.mk xU 0 none else(Addr.mk xU 0 none).add (0*1)))→∀Ct:Nat,Ct=1024 - 0→∀Cu:Nat,Cu=1024 - 0→
    Calls Tryd.prog 41 #[(.slice Cv Ct Cu)] wS fun e xp=>
    ∃Aj:Option Addr,∃Ah:Nat,∃Ai:Nat,e= .returned (.slice Aj Ah Ai)∧
    aD xp ((Addr.mk wY 0 none).add 3) [(.slice Aj Ah Ai)] fun xj=>
    ∃Ag:Int,∃Af:Int,∃Ae:Bool,∃x60dA:Option Addr,∃x60dN:Nat,∃x60dC:Nat,(xj.cell? ((Addr.mk wY 0 none).add 0)=some (.int .u32 Ag)∧xj.cell? ((Addr.mk wY 0 none).add 1)=some (.int .u32 Af)∧xj.cell? ((Addr.mk wY 0 none).add 2)=some (.bool Ae)∧xj.cell? ((Addr.mk wY 0 none).add 3)=some (.slice x60dA x60dN x60dC))∧
    mi Tryd.prog aB true yield #[(.int .i64 yl),(.agg #[(.int .u32 Ag),(.int .u32 Af),(.bool Ae),(.slice x60dA x60dN x60dC)])] xj fun e yo=>
    ∃Ce:Bool,e= .returned (.bool Ce)∧
    split (!Ce) (
     R (.tuple #[]) yo) (
     ∃m1,m1<m∧I m1 (i64.wrap (yl+1)) yo)))) (
  R (.tuple #[]) wC)
def mr:Ann:=(.node none .leaf (.node none (.node (some ⟨[(11,.one (.int .i64))],[4,5,6,7,8,11,12,13,14,15,16,17,18,19,20,21,22,23,24,25,26,27,28,29,30,31,32,33,34,35,36,37,38,39,40,41,42,43,44,45,46,47,48,49,50,51,52,53,54,55,56,57,58,59,60,61,62,63]⟩) (.node none .leaf (.node none .leaf (.node none (.node none (.node none .leaf (.node none .leaf (.node none .leaf (.node none .leaf (.node none (.node none (.node (some ⟨[(44,.one (.bool))],[27,28,29,30,31,32,33,34,35,36,37,38,39,40,41,42,43,44]⟩) .leaf .leaf) .leaf) .leaf))))) .leaf) .leaf))) .leaf) .leaf))
theorem ViSeen_1_eq(yield:Value)(cap0:Addr)(cap1:Addr)(R:ax)(w:World):gz yield cap0 cap1 R w=vcF Tryd.prog aB [] Tryd.f53 mr [yield,(.pointer (some cap0)),(.pointer (some cap1))] R none w:=by kernel_rfl
theorem iN(yield:Value)(cap0:Addr)(cap1:Addr) {R:ax} {w:World}(h:gz yield cap0 cap1 R w):Calls Tryd.prog 53 #[yield,(.pointer (some cap0)),(.pointer (some cap1))] w fun e w'=>∃v,e= .returned v∧R v w':=
 aq Tryd.func53 av ar ((ViSeen_1_eq yield cap0 cap1 R w).mp h)
def oX(m:Option Addr)(birth:Int)(R:ax)(w:World):Prop:=
 ∀(gv:Nat)(wv:World),gv=w.heap.size→wv=w.alloc (.cells (#[(.int .i64 0),(.int .u32 0),(.int .u32 0),(.int .u32 0),(.int .u32 0),(.int .u32 0),(.int .u32 0),(.int .u32 0),(.int .u32 0),(.int .u32 0),(.int .u32 0),(.int .u32 0),(.int .u32 0),(.int .u32 0),(.int .u32 0),(.int .u32 0),(.slice none 0 0),(.slice none 0 0)]) 27)→
 Calls Tryd.prog 36 #[(.pointer m)] wv fun e wC=>
 ∃zK:Option Addr,e= .returned (.pointer zK)∧
 Calls Tryd.prog 37 #[(.pointer zK)] wC fun e wF=>
 ∃xL:Int,e= .returned (.int .i64 xL)∧
 Calls Tryd.prog 38 #[(.pointer m)] wF fun e wH=>
 ∃yZ:Int,∃yD:Int,∃DU:Int,∃DT:Int,∃DS:Int,∃DR:Int,∃DQ:Int,∃DP:Int,∃DO:Int,∃DN:Int,∃DM:Int,∃DL:Int,∃DK:Int,∃DJ:Int,∃DI:Int,e= .returned (.agg #[(.int .u32 yZ),(.int .u32 yD),(.int .u32 DU),(.int .u32 DT),(.int .u32 DS),(.int .u32 DR),(.int .u32 DQ),(.int .u32 DP),(.int .u32 DO),(.int .u32 DN),(.int .u32 DM),(.int .u32 DL),(.int .u32 DK),(.int .u32 DJ),(.int .u32 DI)])∧
 ∀(wD:Nat)(wJ:World),wD=wH.heap.size→wJ=wH.alloc (.cells (#[(.int .i64 0),(.int .u32 0),(.int .u32 0),(.int .u32 0),(.int .u32 0),(.int .u32 0),(.int .u32 0),(.int .u32 0),(.int .u32 0),(.int .u32 0),(.int .u32 0),(.int .u32 0),(.int .u32 0),(.int .u32 0),(.int .u32 0),(.int .u32 0),(.slice none 0 0),(.slice none 0 0)]) 27)→
 aD wJ (Addr.mk wD 0 none) [(.int .i64 xL),(.int .u32 yZ),(.int .u32 yD),(.int .u32 DU),(.int .u32 DT),(.int .u32 DS),(.int .u32 DR),(.int .u32 DQ),(.int .u32 DP),(.int .u32 DO),(.int .u32 DN),(.int .u32 DM),(.int .u32 DL),(.int .u32 DK),(.int .u32 DJ),(.int .u32 DI),(.slice none 0 0),(.slice none 0 0)] fun wO=>
 Calls Tryd.prog 34 #[(.pointer zK)] wO fun e wN=>
 ∃yT:Option Addr,e= .returned (.pointer yT)∧
 Calls Tryd.prog 39 #[(.pointer yT)] wN fun e wQ=>
 ∃yn:Int,e= .returned (.int .i64 yn)∧
 ∃I:Nat→Int→World→Prop,(∃m1,I m1 0 wQ)∧∀(m1:Nat)(zV:Nat→Value)(xx:Int),∀wK,I m1 xx wK→
 split (decide ((xx:Int)<yn)) (
  Calls Tryd.prog 34 #[(.pointer zK)] wK fun e xw=>
  ∃yk:Option Addr,e= .returned (.pointer yk)∧
  Calls Tryd.prog 40 #[(.pointer yk),(.agg #[(.bool false),(.int .i64 xx)])] xw fun e xq=>
  ∃yO:Array Value,e= .returned (.agg yO)∧
  ∀(wV:Nat)(xk:World),wV=xq.heap.size→xk=xq.alloc (.cells (Array.replicate 1024 (.int .u32 0)) 69)→
  yO.size=1024∧(∀v∈yO.toList,one? v True)∧
  aD xk (Addr.mk wV 0 none) yO.toList fun wT=>
  ∃b:Nat→Nat→Prop,
  b 1 (((Addr.mk wD 0 none).add 16).block)∧
  ∃EW:Option Addr,∃C3:Nat,∃EV:Nat,wT.drew.cell? ((Addr.mk wD 0 none).add 16)=some (.slice EW C3 EV)∧
  ∀CZ:Option Addr,CZ=(some (if 1024=0 then Addr.mk wV 0 none else(Addr.mk wV 0 none).add (0*1)))→∀CX:Nat,CX=1024 - 0→∀CY:Nat,CY=1024 - 0→
  Calls Tryd.prog 41 #[(.slice CZ CX CY)] wT.drew fun e wS=>
  ∃J8:Option Addr,∃J6:Nat,∃J7:Nat,e= .returned (.slice J8 J6 J7)∧
  Kept (aX b [0,1]) wT.drew wS∧∃b1:Nat→Nat→Prop,(∀i k,b i k→b1 i k)∧
  ∀(xU:Nat)(xp:World),xU=wS.heap.size→xp=wS.alloc (.cells #[(.slice J8 J6 J7)] 47)→
  Kept (aX b1 [0,1]) wS xp∧∃b2:Nat→Nat→Prop,(∀i k,b1 i k→b2 i k)∧
  ∃zB:Option Addr,∃yv:Nat,∃Av:Nat,∃xj,(Builtin.append_ #[24,24] 24 #[(.slice EW C3 EV),(.slice (some (Addr.mk xU 0 none)) 1 1)]:Sem Value).run Tryd.prog xp= .ok (.slice zB yv Av) xj∧
  ∃b3:Nat→Nat→Prop,(∀i k,b2 i k→b3 i k)∧
  aD xj ((Addr.mk wD 0 none).add 16) [(.slice zB yv Av)] fun yo=>
  ∃b4:Nat→Nat→Prop,(∀i k,b3 i k→b4 i k)∧
  ∃m2,m2<m1∧I m2 (i64.wrap (xx+1)) yo) (
  Calls Tryd.prog 43 #[(.pointer zK),(.int .i64 birth)] wK fun e xw=>
  ∃x40:Int,e= .returned (.int .i64 x40)∧
  Calls Tryd.prog 42 #[(.pointer zK),(.int .i64 x40)] xw fun e xq=>
  ∃At:Value,e= .returned At∧
  ∃(gf:Nat)(cap:Array Value),At= .func (.func gf) #[] cap∧aB.elem gf=true∧
  ∀(l dl:Nat)(xk:World),dl=xq.heap.size→l=xq.heap.size+1→Kept (fun k=>k<xq.heap.size) xq xk→l<xk.heap.size→xk.heap[dl]? =some (.deferred (some []))→
  ∃(xs:Ys)(X:Nat→Prop)(D J Jr:Nat→World→Prop)(Je:Nat→Nat→World→Prop),
  Iter Tryd.prog gf cap xs X D∧(∀k,X k→k<xq.heap.size)∧(∀i x A,xs.is i x A→mf [.one (.val),.agg [.int .u32,.int .u32,.bool,.slice]] fun vs=>x=vs)∧
  (mu X l J∧mu X l Jr∧∀id,mu X l (Je id))∧D 0 xk∧J 0 xk∧
  (∀(i:Nat)(A:World),J i A→D i A→∀(Ar:Value)(Jj:Int)(Ji:Int)(Jh:Bool)(x43dA:Option Addr)(x43dN:Nat)(x43dC:Nat),xs.is i [Ar,(.agg #[(.int .u32 Jj),(.int .u32 Ji),(.bool Jh),(.slice x43dA x43dN x43dC)])] A→
   ∀(wV:Nat)(wS:World),wV=A.heap.size→wS=A.alloc (.cells (#[(.int .u32 0),(.int .u32 0),(.bool false),(.slice none 0 0)]) 66)→
   aD wS (Addr.mk wV 0 none) [(.int .u32 Jj),(.int .u32 Ji),(.bool Jh),(.slice x43dA x43dN x43dC)] fun xp=>
   Kept (fun k=>X k∨k=l) A xp∧∀wT,Kept (fun k=>k<xp.heap.size∧k≠l) xp wT→
   ∃Ao:Option Addr,∃An:Nat,∃B0:Nat,wT.cell? ((Addr.mk wD 0 none).add 17)=some (.slice Ao An B0)∧
   ∃Jc:Int,∃Jb:Int,∃Ja:Bool,∃x46dA:Option Addr,∃x46dN:Nat,∃x46dC:Nat,(wT.cell? ((Addr.mk wV 0 none).add 0)=some (.int .u32 Jc)∧wT.cell? ((Addr.mk wV 0 none).add 1)=some (.int .u32 Jb)∧wT.cell? ((Addr.mk wV 0 none).add 2)=some (.bool Ja)∧wT.cell? ((Addr.mk wV 0 none).add 3)=some (.slice x46dA x46dN x46dC))∧
   ∀(xU:Nat)(xj:World),xU=wT.heap.size→xj=wT.alloc (.cells #[(.int .u32 Jc),(.int .u32 Jb),(.bool Ja),(.slice x46dA x46dN x46dC)] 66)→
   ∃Am:Option Addr,∃Ak:Nat,∃Al:Nat,∃yo,(Builtin.append_ #[25,25] 25 #[(.slice Ao An B0),(.slice (some (Addr.mk xU 0 none)) 1 1)]:Sem Value).run Tryd.prog xj= .ok (.slice Am Ak Al) yo∧
   aD yo ((Addr.mk wD 0 none).add 17) [(.slice Am Ak Al)] fun Ew=>
   Kept (fun k=>X k∨k=l) wT Ew∧J (i+1) Ew)∧
  (∀W,J xs.n W→D xs.n W→
   ∃IW:Int,∃IV:Int,∃IU:Int,∃IT:Int,∃IS:Int,∃IQ:Int,∃IP:Int,∃IN:Int,∃IM:Int,∃IL:Int,∃IK:Int,∃IJ:Int,∃II:Int,∃IG:Int,∃IF:Int,∃IE:Int,∃x50qA:Option Addr,∃x50qN:Nat,∃x50qC:Nat,∃x50rA:Option Addr,∃x50rN:Nat,∃x50rC:Nat,(W.cell? ((Addr.mk wD 0 none).add 0)=some (.int .i64 IW)∧W.cell? ((Addr.mk wD 0 none).add 1)=some (.int .u32 IV)∧W.cell? ((Addr.mk wD 0 none).add 2)=some (.int .u32 IU)∧W.cell? ((Addr.mk wD 0 none).add 3)=some (.int .u32 IT)∧W.cell? ((Addr.mk wD 0 none).add 4)=some (.int .u32 IS)∧W.cell? ((Addr.mk wD 0 none).add 5)=some (.int .u32 IQ)∧W.cell? ((Addr.mk wD 0 none).add 6)=some (.int .u32 IP)∧W.cell? ((Addr.mk wD 0 none).add 7)=some (.int .u32 IN)∧W.cell? ((Addr.mk wD 0 none).add 8)=some (.int .u32 IM)∧W.cell? ((Addr.mk wD 0 none).add 9)=some (.int .u32 IL)∧W.cell? ((Addr.mk wD 0 none).add 10)=some (.int .u32 IK)∧W.cell? ((Addr.mk wD 0 none).add 11)=some (.int .u32 IJ)∧W.cell? ((Addr.mk wD 0 none).add 12)=some (.int .u32 II)∧W.cell? ((Addr.mk wD 0 none).add 13)=some (.int .u32 IG)∧W.cell? ((Addr.mk wD 0 none).add 14)=some (.int .u32 IF)∧W.cell? ((Addr.mk wD 0 none).add 15)=some (.int .u32 IE)∧W.cell? ((Addr.mk wD 0 none).add 16)=some (.slice x50qA x50qN x50qC)∧W.cell? ((Addr.mk wD 0 none).add 17)=some (.slice x50rA x50rN x50rC))∧
   aD W (Addr.mk gv 0 none) [(.int .i64 IW),(.int .u32 IV),(.int .u32 IU),(.int .u32 IT),(.int .u32 IS),(.int .u32 IQ),(.int .u32 IP),(.int .u32 IN),(.int .u32 IM),(.int .u32 IL),(.int .u32 IK),(.int .u32 IJ),(.int .u32 II),(.int .u32 IG),(.int .u32 IF),(.int .u32 IE),(.slice x50qA x50qN x50qC),(.slice x50rA x50rN x50rC)] fun xH=>
   xH.heap[dl]? =some (.deferred (some []))∧
   ∃xn:Int,∃xm:Int,∃xB:Int,∃xz:Int,∃xy:Int,∃yr:Int,∃yq:Int,∃yp:Int,∃EA:Int,∃Ez:Int,∃FE:Int,∃FD:Int,∃FC:Int,∃FB:Int,∃FA:Int,∃LK:Int,∃r0qA:Option Addr,∃r0qN:Nat,∃r0qC:Nat,∃r0rA:Option Addr,∃r0rN:Nat,∃r0rC:Nat,((xH.putObj dl (.deferred none)).cell? ((Addr.mk gv 0 none).add 0)=some (.int .i64 xn)∧(xH.putObj dl (.deferred none)).cell? ((Addr.mk gv 0 none).add 1)=some (.int .u32 xm)∧(xH.putObj dl (.deferred none)).cell? ((Addr.mk gv 0 none).add 2)=some (.int .u32 xB)∧(xH.putObj dl (.deferred none)).cell? ((Addr.mk gv 0 none).add 3)=some (.int .u32 xz)∧(xH.putObj dl (.deferred none)).cell? ((Addr.mk gv 0 none).add 4)=some (.int .u32 xy)∧(xH.putObj dl (.deferred none)).cell? ((Addr.mk gv 0 none).add 5)=some (.int .u32 yr)∧(xH.putObj dl (.deferred none)).cell? ((Addr.mk gv 0 none).add 6)=some (.int .u32 yq)∧(xH.putObj dl (.deferred none)).cell? ((Addr.mk gv 0 none).add 7)=some (.int .u32 yp)∧(xH.putObj dl (.deferred none)).cell? ((Addr.mk gv 0 none).add 8)=some (.int .u32 EA)∧(xH.putObj dl (.deferred none)).cell? ((Addr.mk gv 0 none).add 9)=some (.int .u32 Ez)∧(xH.putObj dl (.deferred none)).cell? ((Addr.mk gv 0 none).add 10)=some (.int .u32 FE)∧(xH.putObj dl (.deferred none)).cell? ((Addr.mk gv 0 none).add 11)=some (.int .u32 FD)∧(xH.putObj dl (.deferred none)).cell? ((Addr.mk gv 0 none).add 12)=some (.int .u32 FC)∧(xH.putObj dl (.deferred none)).cell? ((Addr.mk gv 0 none).add 13)=some (.int .u32 FB)∧(xH.putObj dl (.deferred none)).cell? ((Addr.mk gv 0 none).add 14)=some (.int .u32 FA)∧(xH.putObj dl (.deferred none)).cell? ((Addr.mk gv 0 none).add 15)=some (.int .u32 LK)∧(xH.putObj dl (.deferred none)).cell? ((Addr.mk gv 0 none).add 16)=some (.slice r0qA r0qN r0qC)∧(xH.putObj dl (.deferred none)).cell? ((Addr.mk gv 0 none).add 17)=some (.slice r0rA r0rN r0rC))∧
   R (.agg #[(.int .i64 xn),(.int .u32 xm),(.int .u32 xB),(.int .u32 xz),(.int .u32 xy),(.int .u32 yr),(.int .u32 yq),(.int .u32 yp),(.int .u32 EA),(.int .u32 Ez),(.int .u32 FE),(.int .u32 FD),(.int .u32 FC),(.int .u32 FB),(.int .u32 FA),(.int .u32 LK),(.slice r0qA r0qN r0qC),(.slice r0rA r0rN r0rC)]) (xH.putObj dl (.deferred none)))∧
  (∀i W,Jr i W→D i W→
   W.heap[dl]? =some (.deferred (some []))∧
   ∃r0a1:Int,∃r0b1:Int,∃r0c1:Int,∃r0d1:Int,∃r0e1:Int,∃r0f1:Int,∃r0g1:Int,∃r0h1:Int,∃r0i1:Int,∃r0j1:Int,∃r0k1:Int,∃r0l1:Int,∃r0m1:Int,∃r0n1:Int,∃r0o1:Int,∃r0p1:Int,∃r0qA1:Option Addr,∃r0qN1:Nat,∃r0qC1:Nat,∃r0rA1:Option Addr,∃r0rN1:Nat,∃r0rC1:Nat,((W.putObj dl (.deferred none)).cell? ((Addr.mk gv 0 none).add 0)=some (.int .i64 r0a1)∧(W.putObj dl (.deferred none)).cell? ((Addr.mk gv 0 none).add 1)=some (.int .u32 r0b1)∧(W.putObj dl (.deferred none)).cell? ((Addr.mk gv 0 none).add 2)=some (.int .u32 r0c1)∧(W.putObj dl (.deferred none)).cell? ((Addr.mk gv 0 none).add 3)=some (.int .u32 r0d1)∧(W.putObj dl (.deferred none)).cell? ((Addr.mk gv 0 none).add 4)=some (.int .u32 r0e1)∧(W.putObj dl (.deferred none)).cell? ((Addr.mk gv 0 none).add 5)=some (.int .u32 r0f1)∧(W.putObj dl (.deferred none)).cell? ((Addr.mk gv 0 none).add 6)=some (.int .u32 r0g1)∧(W.putObj dl (.deferred none)).cell? ((Addr.mk gv 0 none).add 7)=some (.int .u32 r0h1)∧(W.putObj dl (.deferred none)).cell? ((Addr.mk gv 0 none).add 8)=some (.int .u32 r0i1)∧(W.putObj dl (.deferred none)).cell? ((Addr.mk gv 0 none).add 9)=some (.int .u32 r0j1)∧(W.putObj dl (.deferred none)).cell? ((Addr.mk gv 0 none).add 10)=some (.int .u32 r0k1)∧(W.putObj dl (.deferred none)).cell? ((Addr.mk gv 0 none).add 11)=some (.int .u32 r0l1)∧(W.putObj dl (.deferred none)).cell? ((Addr.mk gv 0 none).add 12)=some (.int .u32 r0m1)∧(W.putObj dl (.deferred none)).cell? ((Addr.mk gv 0 none).add 13)=some (.int .u32 r0n1)∧(W.putObj dl (.deferred none)).cell? ((Addr.mk gv 0 none).add 14)=some (.int .u32 r0o1)∧(W.putObj dl (.deferred none)).cell? ((Addr.mk gv 0 none).add 15)=some (.int .u32 r0p1)∧(W.putObj dl (.deferred none)).cell? ((Addr.mk gv 0 none).add 16)=some (.slice r0qA1 r0qN1 r0qC1)∧(W.putObj dl (.deferred none)).cell? ((Addr.mk gv 0 none).add 17)=some (.slice r0rA1 r0rN1 r0rC1))∧
   R (.agg #[(.int .i64 r0a1),(.int .u32 r0b1),(.int .u32 r0c1),(.int .u32 r0d1),(.int .u32 r0e1),(.int .u32 r0f1),(.int .u32 r0g1),(.int .u32 r0h1),(.int .u32 r0i1),(.int .u32 r0j1),(.int .u32 r0k1),(.int .u32 r0l1),(.int .u32 r0m1),(.int .u32 r0n1),(.int .u32 r0o1),(.int .u32 r0p1),(.slice r0qA1 r0qN1 r0qC1),(.slice r0rA1 r0rN1 r0rC1)]) (W.putObj dl (.deferred none)))∧True)
def tF:Ann:=(.node none .leaf (.node none .leaf (.node none .leaf (.node none (.node none .leaf (.node none (.node (some ⟨[(21,.one (.int .i64))],[7,8,21,22,23,24,25,26,27,28,29,30,31,32,33,34,35,36]⟩) .leaf .leaf) .leaf)) (.node none (.node none .leaf (.node none (.node (some ⟨[(42,.one (.val)),(43,.agg [.int .u32,.int .u32,.bool,.slice])],[]⟩) .leaf .leaf) .leaf)) .leaf)))))
theorem ViOf_eq(m:Option Addr)(birth:Int)(R:ax)(w:World):oX m birth R w=vcF Tryd.prog aB [] Tryd.f24 tF [(.pointer m),(.int .i64 birth)] R none w:=by kernel_rfl
theorem nP(m:Option Addr)(birth:Int) {R:ax} {w:World}(h:oX m birth R w):Calls Tryd.prog 24 #[(.pointer m),(.int .i64 birth)] w fun e w'=>∃v,e= .returned v∧R v w':=
 aq Tryd.func24 av ar ((ViOf_eq m birth R w).mp h)
def kp(ev:Int)(R:ax)(w:World):Prop:=
 R (.int .i64 ev) w
def qo:Ann:= .leaf
theorem L25Num_eq(ev:Int)(R:ax)(w:World):kp ev R w=vcF Tryd.prog aB [] Tryd.f22 qo [(.int .i64 ev)] R none w:=by kernel_rfl
theorem lf(ev:Int) {R:ax} {w:World}(h:kp ev R w):Calls Tryd.prog 22 #[(.int .i64 ev)] w fun e w'=>∃v,e= .returned v∧R v w':=
 aq Tryd.func22 av ar ((L25Num_eq ev R w).mp h)
def jc(R:ax)(w:World):Prop:=
 Calls Tryd.prog 21 #[(.agg #[(.int .i64 2),(.int .i64 1),(.int .u32 0),(.int .u32 0),(.int .u32 0),(.int .u32 0),(.int .u32 0),(.int .u32 0),(.int .u32 0),(.int .u32 0),(.slice none 0 0)])] w fun e wv=>
 ∃zx:Option Addr,∃Ab:Int,e= .returned (.tuple #[(.pointer zx),(.int .i64 Ab)])∧
 ∃J:Bool→World→Prop,(
  split zx.isNone (
   J true wv) (
   Calls Tryd.prog 22 #[(.int .i64 Ab)] wv fun e wC=>
   ∃xR:Int,e= .returned (.int .i64 xR)∧
   J ((xR:Int) !=0) wC))∧∀(Bg:Nat→Value)(BO:Bool),∀wC,J BO wC→
 split BO (
  R (.bool false) wC) (
  Calls Tryd.prog 23 #[(.pointer zx),(.int .i64 0),(.int .i64 3),(.int .u32 9)] wC fun e wF=>
  ∃xM:Int,e= .returned (.int .i64 xM)∧
  Calls Tryd.prog 24 #[(.pointer zx),(.int .i64 0)] wF fun e wH=>
  ∃AN:Int,∃AM:Int,∃AL:Int,∃AK:Int,∃AJ:Int,∃AI:Int,∃AH:Int,∃AG:Int,∃Du:Int,∃Dt:Int,∃Ds:Int,∃Dr:Int,∃Dq:Int,∃Dp:Int,∃Dn:Int,∃Dm:Int,∃x19qA:Option Addr,∃x19qN:Nat,∃x19qC:Nat,∃x19rA:Option Addr,∃x19rN:Nat,∃x19rC:Nat,e= .returned (.agg #[(.int .i64 AN),(.int .u32 AM),(.int .u32 AL),(.int .u32 AK),(.int .u32 AJ),(.int .u32 AI),(.int .u32 AH),(.int .u32 AG),(.int .u32 Du),(.int .u32 Dt),(.int .u32 Ds),(.int .u32 Dr),(.int .u32 Dq),(.int .u32 Dp),(.int .u32 Dn),(.int .u32 Dm),(.slice x19qA x19qN x19qC),(.slice x19rA x19rN x19rC)])∧
  ∀(wD:Nat)(wJ:World),wD=wH.heap.size→wJ=wH.alloc (.cells (#[(.int .i64 0),(.int .u32 0),(.int .u32 0),(.int .u32 0),(.int .u32 0),(.int .u32 0),(.int .u32 0),(.int .u32 0),(.int .u32 0),(.int .u32 0),(.int .u32 0),(.int .u32 0),(.int .u32 0),(.int .u32 0),(.int .u32 0),(.int .u32 0),(.slice none 0 0),(.slice none 0 0)]) 27)→
  aD wJ (Addr.mk wD 0 none) [(.int .i64 AN),(.int .u32 AM),(.int .u32 AL),(.int .u32 AK),(.int .u32 AJ),(.int .u32 AI),(.int .u32 AH),(.int .u32 AG),(.int .u32 Du),(.int .u32 Dt),(.int .u32 Ds),(.int .u32 Dr),(.int .u32 Dq),(.int .u32 Dp),(.int .u32 Dn),(.int .u32 Dm),(.slice x19qA x19qN x19qC),(.slice x19rA x19rN x19rC)] fun wO=>
  ∃J1:Bool→World→Prop,(
   ∃yh:Option Addr,∃xv:Nat,∃yg:Nat,wO.cell? ((Addr.mk wD 0 none).add 16)=some (.slice yh xv yg)∧
   split ((((xv:Nat):Int):Int)==1) (
    ∃ym:Option Addr,∃yf:Nat,∃yX:Nat,wO.cell? ((Addr.mk wD 0 none).add 16)=some (.slice ym yf yX)∧
    (0≤(0:Int)∧(0:Int)<((yf:Nat):Int))∧
    ay ym fun MN=>
    ∃Nr:Option Addr,∃Ke:Nat,∃Nq:Nat,wO.cell? (MN.add (Int.toNat 0*1))=some (.slice Nr Ke Nq)∧
    split ((((Ke:Nat):Int):Int)==1024) (
     ∃zB:Option Addr,∃yv:Nat,∃Av:Nat,wO.cell? ((Addr.mk wD 0 none).add 16)=some (.slice zB yv Av)∧
     (0≤(0:Int)∧(0:Int)<((yv:Nat):Int))∧
     ay zB fun MM=>
     ∃Au:Option Addr,∃zA:Nat,∃Bp:Nat,wO.cell? (MM.add (Int.toNat 0*1))=some (.slice Au zA Bp)∧
     (0≤(3:Int)∧(3:Int)<((zA:Nat):Int))∧
     ay Au fun p37=>
     ∃x38:Int,wO.cell? (p37.add (Int.toNat 3*1))=some (.int .u32 x38)∧
     split ((x38:Int)==9) (
      ∃Aq:Option Addr,∃zy:Nat,∃Ap:Nat,wO.cell? ((Addr.mk wD 0 none).add 17)=some (.slice Aq zy Ap)∧
      J1 ((((zy:Nat):Int):Int)==2) wO) (
      J1 false wO)) (
     J1 false wO)) (
    J1 false wO))∧∀(zV:Nat→Value)(x0:Bool),∀wN,J1 x0 wN→
  R (.bool x0) wN)
def n8:Ann:=(.node none .leaf (.node none .leaf (.node none (.node none (.node (some ⟨[(15,.one (.bool))],[9,10,11,12,13,14,15]⟩) .leaf .leaf) .leaf) (.node none .leaf (.node none .leaf (.node none (.node (some ⟨[(0,.one (.bool))],[0,20,21,22,23,24,25,26,27,28,29,30,31,32,33,34,35,36,37,38,39,40,41,42,43,44,45,46]⟩) .leaf .leaf) .leaf))))))
theorem L25Sees_eq(R:ax)(w:World):jc R w=vcF Tryd.prog aB [] Tryd.f8 n8 [] R none w:=by kernel_rfl
theorem jz {R:ax} {w:World}(h:jc R w):Calls Tryd.prog 8 #[] w fun e w'=>∃v,e= .returned v∧R v w':=
 aq Tryd.func8 av ar ((L25Sees_eq R w).mp h)
def dP(aa:Int)(ab:Int)(ac:Int)(ad:Int)(ae:Int)(af:Int)(ag:Int)(ah:Int)(ai:Int)(aj:Int)(ak:Int)(al:Int)(am:Int)(an:Int)(ao:Int)(ap:Int)(aqA:Option Addr)(aqN:Nat)(aqC:Nat)(arA:Option Addr)(arN:Nat)(arC:Nat)(ba:Int)(bb:Int)(bc:Int)(bd:Int)(be:Int)(bf:Int)(bg:Int)(bh:Int)(bi:Int)(bj:Int)(bk:Int)(bl:Int)(bm:Int)(bn:Int)(bo:Int)(bp:Int)(bqA:Option Addr)(bqN:Nat)(bqC:Nat)(brA:Option Addr)(brN:Nat)(brC:Nat)(codesa:Int)(codesb:Int)(valuesa:Int)(valuesb:Int)(R:ax)(w:World):Prop:=
 ∀(gv:Nat)(wv:World),gv=w.heap.size→wv=w.alloc (.cells #[(.int .i64 aa),(.int .u32 ab),(.int .u32 ac),(.int .u32 ad),(.int .u32 ae),(.int .u32 af),(.int .u32 ag),(.int .u32 ah),(.int .u32 ai),(.int .u32 aj),(.int .u32 ak),(.int .u32 al),(.int .u32 am),(.int .u32 an),(.int .u32 ao),(.int .u32 ap),(.slice aqA aqN aqC),(.slice arA arN arC)] 27)→
 ∀(wD:Nat)(wC:World),wD=wv.heap.size→wC=wv.alloc (.cells #[(.int .i64 ba),(.int .u32 bb),(.int .u32 bc),(.int .u32 bd),(.int .u32 be),(.int .u32 bf),(.int .u32 bg),(.int .u32 bh),(.int .u32 bi),(.int .u32 bj),(.int .u32 bk),(.int .u32 bl),(.int .u32 bm),(.int .u32 bn),(.int .u32 bo),(.int .u32 bp),(.slice bqA bqN bqC),(.slice brA brN brC)] 27)→
 ∀(wY:Nat)(wF:World),wY=wC.heap.size→wF=wC.alloc (.cells #[(.int .u32 codesa),(.int .u32 codesb)] 28)→
 ∀(wV:Nat)(wH:World),wV=wF.heap.size→wH=wF.alloc (.cells #[(.int .u32 valuesa),(.int .u32 valuesb)] 28)→
 ∃b:Nat→Nat→Prop,
 b 0 ((Addr.mk gv 0 none).block)∧
 ∃AR:Int,∃Bt:Int,∃Eg:Int,∃Ef:Int,∃Ee:Int,∃Ed:Int,∃Ec:Int,∃Eb:Int,∃Ea:Int,∃D9:Int,∃D8:Int,∃D7:Int,∃D6:Int,∃D5:Int,∃D4:Int,∃D3:Int,∃x14qA:Option Addr,∃x14qN:Nat,∃x14qC:Nat,∃x14rA:Option Addr,∃x14rN:Nat,∃x14rC:Nat,(wH.drew.cell? ((Addr.mk gv 0 none).add 0)=some (.int .i64 AR)∧wH.drew.cell? ((Addr.mk gv 0 none).add 1)=some (.int .u32 Bt)∧wH.drew.cell? ((Addr.mk gv 0 none).add 2)=some (.int .u32 Eg)∧wH.drew.cell? ((Addr.mk gv 0 none).add 3)=some (.int .u32 Ef)∧wH.drew.cell? ((Addr.mk gv 0 none).add 4)=some (.int .u32 Ee)∧wH.drew.cell? ((Addr.mk gv 0 none).add 5)=some (.int .u32 Ed)∧wH.drew.cell? ((Addr.mk gv 0 none).add 6)=some (.int .u32 Ec)∧wH.drew.cell? ((Addr.mk gv 0 none).add 7)=some (.int .u32 Eb)∧wH.drew.cell? ((Addr.mk gv 0 none).add 8)=some (.int .u32 Ea)∧wH.drew.cell? ((Addr.mk gv 0 none).add 9)=some (.int .u32 D9)∧wH.drew.cell? ((Addr.mk gv 0 none).add 10)=some (.int .u32 D8)∧wH.drew.cell? ((Addr.mk gv 0 none).add 11)=some (.int .u32 D7)∧wH.drew.cell? ((Addr.mk gv 0 none).add 12)=some (.int .u32 D6)∧wH.drew.cell? ((Addr.mk gv 0 none).add 13)=some (.int .u32 D5)∧wH.drew.cell? ((Addr.mk gv 0 none).add 14)=some (.int .u32 D4)∧wH.drew.cell? ((Addr.mk gv 0 none).add 15)=some (.int .u32 D3)∧wH.drew.cell? ((Addr.mk gv 0 none).add 16)=some (.slice x14qA x14qN x14qC)∧wH.drew.cell? ((Addr.mk gv 0 none).add 17)=some (.slice x14rA x14rN x14rC))∧
 b 2 ((Addr.mk wD 0 none).block)∧
 ∃yZ:Int,∃yD:Int,∃DU:Int,∃DT:Int,∃DS:Int,∃DR:Int,∃DQ:Int,∃DP:Int,∃DO:Int,∃DN:Int,∃DM:Int,∃DL:Int,∃DK:Int,∃DJ:Int,∃DI:Int,∃Lh:Int,∃x16qA:Option Addr,∃x16qN:Nat,∃x16qC:Nat,∃x16rA:Option Addr,∃x16rN:Nat,∃x16rC:Nat,(wH.drew.cell? ((Addr.mk wD 0 none).add 0)=some (.int .i64 yZ)∧wH.drew.cell? ((Addr.mk wD 0 none).add 1)=some (.int .u32 yD)∧wH.drew.cell? ((Addr.mk wD 0 none).add 2)=some (.int .u32 DU)∧wH.drew.cell? ((Addr.mk wD 0 none).add 3)=some (.int .u32 DT)∧wH.drew.cell? ((Addr.mk wD 0 none).add 4)=some (.int .u32 DS)∧wH.drew.cell? ((Addr.mk wD 0 none).add 5)=some (.int .u32 DR)∧wH.drew.cell? ((Addr.mk wD 0 none).add 6)=some (.int .u32 DQ)∧wH.drew.cell? ((Addr.mk wD 0 none).add 7)=some (.int .u32 DP)∧wH.drew.cell? ((Addr.mk wD 0 none).add 8)=some (.int .u32 DO)∧wH.drew.cell? ((Addr.mk wD 0 none).add 9)=some (.int .u32 DN)∧wH.drew.cell? ((Addr.mk wD 0 none).add 10)=some (.int .u32 DM)∧wH.drew.cell? ((Addr.mk wD 0 none).add 11)=some (.int .u32 DL)∧wH.drew.cell? ((Addr.mk wD 0 none).add 12)=some (.int .u32 DK)∧wH.drew.cell? ((Addr.mk wD 0 none).add 13)=some (.int .u32 DJ)∧wH.drew.cell? ((Addr.mk wD 0 none).add 14)=some (.int .u32 DI)∧wH.drew.cell? ((Addr.mk wD 0 none).add 15)=some (.int .u32 Lh)∧wH.drew.cell? ((Addr.mk wD 0 none).add 16)=some (.slice x16qA x16qN x16qC)∧wH.drew.cell? ((Addr.mk wD 0 none).add 17)=some (.slice x16rA x16rN x16rC))∧
 Calls Tryd.prog 5 #[(.agg #[(.int .i64 AR),(.int .u32 Bt),(.int .u32 Eg),(.int .u32 Ef),(.int .u32 Ee),(.int .u32 Ed),(.int .u32 Ec),(.int .u32 Eb),(.int .u32 Ea),(.int .u32 D9),(.int .u32 D8),(.int .u32 D7),(.int .u32 D6),(.int .u32 D5),(.int .u32 D4),(.int .u32 D3),(.slice x14qA x14qN x14qC),(.slice x14rA x14rN x14rC)])] wH.drew fun e wJ=>
 ∃AP:Int,∃zl:Int,∃D0:Int,∃DZ:Int,∃DY:Int,∃DX:Int,∃DW:Int,∃DV:Int,∃Lp:Int,∃Lo:Int,∃Ln:Int,∃Lm:Int,∃Ll:Int,∃Lk:Int,∃Lj:Int,∃Li:Int,∃x15qA:Option Addr,∃x15qN:Nat,∃x15qC:Nat,∃x15rA:Option Addr,∃x15rN:Nat,∃x15rC:Nat,e= .returned (.agg #[(.int .i64 AP),(.int .u32 zl),(.int .u32 D0),(.int .u32 DZ),(.int .u32 DY),(.int .u32 DX),(.int .u32 DW),(.int .u32 DV),(.int .u32 Lp),(.int .u32 Lo),(.int .u32 Ln),(.int .u32 Lm),(.int .u32 Ll),(.int .u32 Lk),(.int .u32 Lj),(.int .u32 Li),(.slice x15qA x15qN x15qC),(.slice x15rA x15rN x15rC)])∧
 Kept (aX b [2]) wH.drew wJ∧∃b1:Nat→Nat→Prop,(∀i k,b i k→b1 i k)∧
 Calls Tryd.prog 5 #[(.agg #[(.int .i64 yZ),(.int .u32 yD),(.int .u32 DU),(.int .u32 DT),(.int .u32 DS),(.int .u32 DR),(.int .u32 DQ),(.int .u32 DP),(.int .u32 DO),(.int .u32 DN),(.int .u32 DM),(.int .u32 DL),(.int .u32 DK),(.int .u32 DJ),(.int .u32 DI),(.int .u32 Lh),(.slice x16qA x16qN x16qC),(.slice x16rA x16rN x16rC)])] wJ fun e wO=>
 ∃DH:Int,∃zI:Int,∃DG:Int,∃DF:Int,∃DE:Int,∃DD:Int,∃DC:Int,∃DA:Int,∃Dz:Int,∃Dy:Int,∃Lg:Int,∃Lf:Int,∃Le:Int,∃Ld:Int,∃Lc:Int,∃Lb:Int,∃x17qA:Option Addr,∃x17qN:Nat,∃x17qC:Nat,∃x17rA:Option Addr,∃x17rN:Nat,∃x17rC:Nat,e= .returned (.agg #[(.int .i64 DH),(.int .u32 zI),(.int .u32 DG),(.int .u32 DF),(.int .u32 DE),(.int .u32 DD),(.int .u32 DC),(.int .u32 DA),(.int .u32 Dz),(.int .u32 Dy),(.int .u32 Lg),(.int .u32 Lf),(.int .u32 Le),(.int .u32 Ld),(.int .u32 Lc),(.int .u32 Lb),(.slice x17qA x17qN x17qC),(.slice x17rA x17rN x17rC)])∧
 ∃b2:Nat→Nat→Prop,(∀i k,b1 i k→b2 i k)∧
 Calls Tryd.prog 4 #[(.agg #[(.int .i64 AP),(.int .u32 zl),(.int .u32 D0),(.int .u32 DZ),(.int .u32 DY),(.int .u32 DX),(.int .u32 DW),(.int .u32 DV),(.int .u32 Lp),(.int .u32 Lo),(.int .u32 Ln),(.int .u32 Lm),(.int .u32 Ll),(.int .u32 Lk),(.int .u32 Lj),(.int .u32 Li),(.slice x15qA x15qN x15qC),(.slice x15rA x15rN x15rC)]),(.agg #[(.int .i64 DH),(.int .u32 zI),(.int .u32 DG),(.int .u32 DF),(.int .u32 DE),(.int .u32 DD),(.int .u32 DC),(.int .u32 DA),(.int .u32 Dz),(.int .u32 Dy),(.int .u32 Lg),(.int .u32 Lf),(.int .u32 Le),(.int .u32 Ld),(.int .u32 Lc),(.int .u32 Lb),(.slice x17qA x17qN x17qC),(.slice x17rA x17rN x17rC)])] wO fun e wN=>
 ∃yL:ByteArray,e= .returned (.string yL)∧
 ∃b3:Nat→Nat→Prop,(∀i k,b2 i k→b3 i k)∧
 ∃J:Bool→World→Prop,(
  ∃AN:Int,∃AM:Int,∃AL:Int,∃AK:Int,∃AJ:Int,∃AI:Int,∃AH:Int,∃AG:Int,∃Du:Int,∃Dt:Int,∃Ds:Int,∃Dr:Int,∃Dq:Int,∃Dp:Int,∃Dn:Int,∃Dm:Int,∃x19qA:Option Addr,∃x19qN:Nat,∃x19qC:Nat,∃x19rA:Option Addr,∃x19rN:Nat,∃x19rC:Nat,(wN.cell? ((Addr.mk gv 0 none).add 0)=some (.int .i64 AN)∧wN.cell? ((Addr.mk gv 0 none).add 1)=some (.int .u32 AM)∧wN.cell? ((Addr.mk gv 0 none).add 2)=some (.int .u32 AL)∧wN.cell? ((Addr.mk gv 0 none).add 3)=some (.int .u32 AK)∧wN.cell? ((Addr.mk gv 0 none).add 4)=some (.int .u32 AJ)∧wN.cell? ((Addr.mk gv 0 none).add 5)=some (.int .u32 AI)∧wN.cell? ((Addr.mk gv 0 none).add 6)=some (.int .u32 AH)∧wN.cell? ((Addr.mk gv 0 none).add 7)=some (.int .u32 AG)∧wN.cell? ((Addr.mk gv 0 none).add 8)=some (.int .u32 Du)∧wN.cell? ((Addr.mk gv 0 none).add 9)=some (.int .u32 Dt)∧wN.cell? ((Addr.mk gv 0 none).add 10)=some (.int .u32 Ds)∧wN.cell? ((Addr.mk gv 0 none).add 11)=some (.int .u32 Dr)∧wN.cell? ((Addr.mk gv 0 none).add 12)=some (.int .u32 Dq)∧wN.cell? ((Addr.mk gv 0 none).add 13)=some (.int .u32 Dp)∧wN.cell? ((Addr.mk gv 0 none).add 14)=some (.int .u32 Dn)∧wN.cell? ((Addr.mk gv 0 none).add 15)=some (.int .u32 Dm)∧wN.cell? ((Addr.mk gv 0 none).add 16)=some (.slice x19qA x19qN x19qC)∧wN.cell? ((Addr.mk gv 0 none).add 17)=some (.slice x19rA x19rN x19rC))∧
  ∃AF:Int,∃AE:Int,∃AD:Int,∃AB:Int,∃AA:Int,∃Di:Int,∃Dh:Int,∃Df:Int,∃KX:Int,∃KW:Int,∃KV:Int,∃KU:Int,∃KT:Int,∃KS:Int,∃KR:Int,∃KQ:Int,∃x20qA:Option Addr,∃x20qN:Nat,∃x20qC:Nat,∃x20rA:Option Addr,∃x20rN:Nat,∃x20rC:Nat,(wN.cell? ((Addr.mk wD 0 none).add 0)=some (.int .i64 AF)∧wN.cell? ((Addr.mk wD 0 none).add 1)=some (.int .u32 AE)∧wN.cell? ((Addr.mk wD 0 none).add 2)=some (.int .u32 AD)∧wN.cell? ((Addr.mk wD 0 none).add 3)=some (.int .u32 AB)∧wN.cell? ((Addr.mk wD 0 none).add 4)=some (.int .u32 AA)∧wN.cell? ((Addr.mk wD 0 none).add 5)=some (.int .u32 Di)∧wN.cell? ((Addr.mk wD 0 none).add 6)=some (.int .u32 Dh)∧wN.cell? ((Addr.mk wD 0 none).add 7)=some (.int .u32 Df)∧wN.cell? ((Addr.mk wD 0 none).add 8)=some (.int .u32 KX)∧wN.cell? ((Addr.mk wD 0 none).add 9)=some (.int .u32 KW)∧wN.cell? ((Addr.mk wD 0 none).add 10)=some (.int .u32 KV)∧wN.cell? ((Addr.mk wD 0 none).add 11)=some (.int .u32 KU)∧wN.cell? ((Addr.mk wD 0 none).add 12)=some (.int .u32 KT)∧wN.cell? ((Addr.mk wD 0 none).add 13)=some (.int .u32 KS)∧wN.cell? ((Addr.mk wD 0 none).add 14)=some (.int .u32 KR)∧wN.cell? ((Addr.mk wD 0 none).add 15)=some (.int .u32 KQ)∧wN.cell? ((Addr.mk wD 0 none).add 16)=some (.slice x20qA x20qN x20qC)∧wN.cell? ((Addr.mk wD 0 none).add 17)=some (.slice x20rA x20rN x20rC))∧
  Calls Tryd.prog 6 #[(.agg #[(.int .i64 AN),(.int .u32 AM),(.int .u32 AL),(.int .u32 AK),(.int .u32 AJ),(.int .u32 AI),(.int .u32 AH),(.int .u32 AG),(.int .u32 Du),(.int .u32 Dt),(.int .u32 Ds),(.int .u32 Dr),(.int .u32 Dq),(.int .u32 Dp),(.int .u32 Dn),(.int .u32 Dm),(.slice x19qA x19qN x19qC),(.slice x19rA x19rN x19rC)]),(.agg #[(.int .i64 AF),(.int .u32 AE),(.int .u32 AD),(.int .u32 AB),(.int .u32 AA),(.int .u32 Di),(.int .u32 Dh),(.int .u32 Df),(.int .u32 KX),(.int .u32 KW),(.int .u32 KV),(.int .u32 KU),(.int .u32 KT),(.int .u32 KS),(.int .u32 KR),(.int .u32 KQ),(.slice x20qA x20qN x20qC),(.slice x20rA x20rN x20rC)])] wN fun e wQ=>
  ∃xx:ByteArray,e= .returned (.string xx)∧
  split (!((xx:ByteArray).toList==(yL:ByteArray).toList)) (
   J true wQ) (
   ∃KD:Int,∃KC:Int,∃KB:Int,∃KA:Int,∃Kz:Int,∃Ky:Int,∃Kx:Int,∃Kw:Int,∃Kv:Int,∃Ku:Int,∃Kt:Int,∃Ks:Int,∃Kr:Int,∃Kq:Int,∃Kp:Int,∃Ko:Int,∃x25qA:Option Addr,∃x25qN:Nat,∃x25qC:Nat,∃x25rA:Option Addr,∃x25rN:Nat,∃x25rC:Nat,(wQ.cell? ((Addr.mk gv 0 none).add 0)=some (.int .i64 KD)∧wQ.cell? ((Addr.mk gv 0 none).add 1)=some (.int .u32 KC)∧wQ.cell? ((Addr.mk gv 0 none).add 2)=some (.int .u32 KB)∧wQ.cell? ((Addr.mk gv 0 none).add 3)=some (.int .u32 KA)∧wQ.cell? ((Addr.mk gv 0 none).add 4)=some (.int .u32 Kz)∧wQ.cell? ((Addr.mk gv 0 none).add 5)=some (.int .u32 Ky)∧wQ.cell? ((Addr.mk gv 0 none).add 6)=some (.int .u32 Kx)∧wQ.cell? ((Addr.mk gv 0 none).add 7)=some (.int .u32 Kw)∧wQ.cell? ((Addr.mk gv 0 none).add 8)=some (.int .u32 Kv)∧wQ.cell? ((Addr.mk gv 0 none).add 9)=some (.int .u32 Ku)∧wQ.cell? ((Addr.mk gv 0 none).add 10)=some (.int .u32 Kt)∧wQ.cell? ((Addr.mk gv 0 none).add 11)=some (.int .u32 Ks)∧wQ.cell? ((Addr.mk gv 0 none).add 12)=some (.int .u32 Kr)∧wQ.cell? ((Addr.mk gv 0 none).add 13)=some (.int .u32 Kq)∧wQ.cell? ((Addr.mk gv 0 none).add 14)=some (.int .u32 Kp)∧wQ.cell? ((Addr.mk gv 0 none).add 15)=some (.int .u32 Ko)∧wQ.cell? ((Addr.mk gv 0 none).add 16)=some (.slice x25qA x25qN x25qC)∧wQ.cell? ((Addr.mk gv 0 none).add 17)=some (.slice x25rA x25rN x25rC))∧
   ∃zG:Int,∃zF:Int,∃zE:Int,∃De:Int,∃Dd:Int,∃Dc:Int,∃Db:Int,∃Da:Int,∃C8:Int,∃C5:Int,∃Kn:Int,∃Km:Int,∃Kl:Int,∃Kk:Int,∃Kj:Int,∃Ki:Int,∃x26qA:Option Addr,∃x26qN:Nat,∃x26qC:Nat,∃x26rA:Option Addr,∃x26rN:Nat,∃x26rC:Nat,(wQ.cell? ((Addr.mk wD 0 none).add 0)=some (.int .i64 zG)∧wQ.cell? ((Addr.mk wD 0 none).add 1)=some (.int .u32 zF)∧wQ.cell? ((Addr.mk wD 0 none).add 2)=some (.int .u32 zE)∧wQ.cell? ((Addr.mk wD 0 none).add 3)=some (.int .u32 De)∧wQ.cell? ((Addr.mk wD 0 none).add 4)=some (.int .u32 Dd)∧wQ.cell? ((Addr.mk wD 0 none).add 5)=some (.int .u32 Dc)∧wQ.cell? ((Addr.mk wD 0 none).add 6)=some (.int .u32 Db)∧wQ.cell? ((Addr.mk wD 0 none).add 7)=some (.int .u32 Da)∧wQ.cell? ((Addr.mk wD 0 none).add 8)=some (.int .u32 C8)∧wQ.cell? ((Addr.mk wD 0 none).add 9)=some (.int .u32 C5)∧wQ.cell? ((Addr.mk wD 0 none).add 10)=some (.int .u32 Kn)∧wQ.cell? ((Addr.mk wD 0 none).add 11)=some (.int .u32 Km)∧wQ.cell? ((Addr.mk wD 0 none).add 12)=some (.int .u32 Kl)∧wQ.cell? ((Addr.mk wD 0 none).add 13)=some (.int .u32 Kk)∧wQ.cell? ((Addr.mk wD 0 none).add 14)=some (.int .u32 Kj)∧wQ.cell? ((Addr.mk wD 0 none).add 15)=some (.int .u32 Ki)∧wQ.cell? ((Addr.mk wD 0 none).add 16)=some (.slice x26qA x26qN x26qC)∧wQ.cell? ((Addr.mk wD 0 none).add 17)=some (.slice x26rA x26rN x26rC))∧
   Calls Tryd.prog 7 #[(.agg #[(.int .i64 KD),(.int .u32 KC),(.int .u32 KB),(.int .u32 KA),(.int .u32 Kz),(.int .u32 Ky),(.int .u32 Kx),(.int .u32 Kw),(.int .u32 Kv),(.int .u32 Ku),(.int .u32 Kt),(.int .u32 Ks),(.int .u32 Kr),(.int .u32 Kq),(.int .u32 Kp),(.int .u32 Ko),(.slice x25qA x25qN x25qC),(.slice x25rA x25rN x25rC)]),(.agg #[(.int .i64 zG),(.int .u32 zF),(.int .u32 zE),(.int .u32 De),(.int .u32 Dd),(.int .u32 Dc),(.int .u32 Db),(.int .u32 Da),(.int .u32 C8),(.int .u32 C5),(.int .u32 Kn),(.int .u32 Km),(.int .u32 Kl),(.int .u32 Kk),(.int .u32 Kj),(.int .u32 Ki),(.slice x26qA x26qN x26qC),(.slice x26rA x26rN x26rC)])] wQ fun e wK=>
   ∃zs:Bool,e= .returned (.bool zs)∧
   split (!(zs==((yL:ByteArray).toList==((⟨#[]⟩:ByteArray):ByteArray).toList))) (
    J true wK) (
    ∃CW:Int,∃CV:Int,∃CU:Int,∃CT:Int,∃CS:Int,∃J4:Int,∃J0:Int,∃JZ:Int,∃JY:Int,∃JX:Int,∃JW:Int,∃JV:Int,∃JU:Int,∃JS:Int,∃JR:Int,∃JQ:Int,∃x33qA:Option Addr,∃x33qN:Nat,∃x33qC:Nat,∃x33rA:Option Addr,∃x33rN:Nat,∃x33rC:Nat,(wK.cell? ((Addr.mk gv 0 none).add 0)=some (.int .i64 CW)∧wK.cell? ((Addr.mk gv 0 none).add 1)=some (.int .u32 CV)∧wK.cell? ((Addr.mk gv 0 none).add 2)=some (.int .u32 CU)∧wK.cell? ((Addr.mk gv 0 none).add 3)=some (.int .u32 CT)∧wK.cell? ((Addr.mk gv 0 none).add 4)=some (.int .u32 CS)∧wK.cell? ((Addr.mk gv 0 none).add 5)=some (.int .u32 J4)∧wK.cell? ((Addr.mk gv 0 none).add 6)=some (.int .u32 J0)∧wK.cell? ((Addr.mk gv 0 none).add 7)=some (.int .u32 JZ)∧wK.cell? ((Addr.mk gv 0 none).add 8)=some (.int .u32 JY)∧wK.cell? ((Addr.mk gv 0 none).add 9)=some (.int .u32 JX)∧wK.cell? ((Addr.mk gv 0 none).add 10)=some (.int .u32 JW)∧wK.cell? ((Addr.mk gv 0 none).add 11)=some (.int .u32 JV)∧wK.cell? ((Addr.mk gv 0 none).add 12)=some (.int .u32 JU)∧wK.cell? ((Addr.mk gv 0 none).add 13)=some (.int .u32 JS)∧wK.cell? ((Addr.mk gv 0 none).add 14)=some (.int .u32 JR)∧wK.cell? ((Addr.mk gv 0 none).add 15)=some (.int .u32 JQ)∧wK.cell? ((Addr.mk gv 0 none).add 16)=some (.slice x33qA x33qN x33qC)∧wK.cell? ((Addr.mk gv 0 none).add 17)=some (.slice x33rA x33rN x33rC))∧
    ∃JP:Int,∃CR:Int,∃JO:Int,∃JN:Int,∃JM:Int,∃JL:Int,∃JK:Int,∃JJ:Int,∃JI:Int,∃JH:Int,∃JG:Int,∃JF:Int,∃JE:Int,∃JD:Int,∃JC:Int,∃JB:Int,∃x34qA:Option Addr,∃x34qN:Nat,∃x34qC:Nat,∃x34rA:Option Addr,∃x34rN:Nat,∃x34rC:Nat,(wK.cell? ((Addr.mk gv 0 none).add 0)=some (.int .i64 JP)∧wK.cell? ((Addr.mk gv 0 none).add 1)=some (.int .u32 CR)∧wK.cell? ((Addr.mk gv 0 none).add 2)=some (.int .u32 JO)∧wK.cell? ((Addr.mk gv 0 none).add 3)=some (.int .u32 JN)∧wK.cell? ((Addr.mk gv 0 none).add 4)=some (.int .u32 JM)∧wK.cell? ((Addr.mk gv 0 none).add 5)=some (.int .u32 JL)∧wK.cell? ((Addr.mk gv 0 none).add 6)=some (.int .u32 JK)∧wK.cell? ((Addr.mk gv 0 none).add 7)=some (.int .u32 JJ)∧wK.cell? ((Addr.mk gv 0 none).add 8)=some (.int .u32 JI)∧wK.cell? ((Addr.mk gv 0 none).add 9)=some (.int .u32 JH)∧wK.cell? ((Addr.mk gv 0 none).add 10)=some (.int .u32 JG)∧wK.cell? ((Addr.mk gv 0 none).add 11)=some (.int .u32 JF)∧wK.cell? ((Addr.mk gv 0 none).add 12)=some (.int .u32 JE)∧wK.cell? ((Addr.mk gv 0 none).add 13)=some (.int .u32 JD)∧wK.cell? ((Addr.mk gv 0 none).add 14)=some (.int .u32 JC)∧wK.cell? ((Addr.mk gv 0 none).add 15)=some (.int .u32 JB)∧wK.cell? ((Addr.mk gv 0 none).add 16)=some (.slice x34qA x34qN x34qC)∧wK.cell? ((Addr.mk gv 0 none).add 17)=some (.slice x34rA x34rN x34rC))∧
    Calls Tryd.prog 7 #[(.agg #[(.int .i64 CW),(.int .u32 CV),(.int .u32 CU),(.int .u32 CT),(.int .u32 CS),(.int .u32 J4),(.int .u32 J0),(.int .u32 JZ),(.int .u32 JY),(.int .u32 JX),(.int .u32 JW),(.int .u32 JV),(.int .u32 JU),(.int .u32 JS),(.int .u32 JR),(.int .u32 JQ),(.slice x33qA x33qN x33qC),(.slice x33rA x33rN x33rC)]),(.agg #[(.int .i64 JP),(.int .u32 CR),(.int .u32 JO),(.int .u32 JN),(.int .u32 JM),(.int .u32 JL),(.int .u32 JK),(.int .u32 JJ),(.int .u32 JI),(.int .u32 JH),(.int .u32 JG),(.int .u32 JF),(.int .u32 JE),(.int .u32 JD),(.int .u32 JC),(.int .u32 JB),(.slice x34qA x34qN x34qC),(.slice x34rA x34rN x34rC)])] wK fun e xw=>
    ∃CQ:Bool,e= .returned (.bool CQ)∧
    split (!CQ) (
     J true xw) (
     Calls Tryd.prog 8 #[] xw fun e xq=>
     ∃Fo:Bool,e= .returned (.bool Fo)∧
     J (!Fo) xq))))∧∀(BF:Nat→Value)(At:Bool),∀wQ,J At wQ→
 split At (
  R (.bool false) wQ) (
  (0≤(0:Int)∧(0:Int)<((2:Nat):Int))∧
  ∃Jk:Int,wQ.cell? ((Addr.mk wY 0 none).add (Int.toNat 0*1))=some (.int .u32 Jk)∧
  (0≤(0:Int)∧(0:Int)<((2:Nat):Int))∧
  ∃x45:Int,wQ.cell? ((Addr.mk wV 0 none).add (Int.toNat 0*1))=some (.int .u32 x45)∧
  ∃I9:Option Addr,∃I7:Nat,∃I8:Nat,wQ.cell? ((Addr.mk gv 0 none).add 16)=some (.slice I9 I7 I8)∧
  ∃CK:Option Addr,∃CI:Nat,∃CJ:Nat,wQ.cell? ((Addr.mk gv 0 none).add 17)=some (.slice CK CI CJ)∧
  ∀(Bd:Nat)(wK:World),Bd=wQ.heap.size→wK=wQ.alloc (.cells (#[(.int .u32 0),(.int .u32 0),(.slice none 0 0),(.slice none 0 0)]) 39)→
  aD wK (Addr.mk Bd 0 none) [(.int .u32 Jk),(.int .u32 x45),(.slice I9 I7 I8),(.slice CK CI CJ)] fun xw=>
  (0≤(1:Int)∧(1:Int)<((2:Nat):Int))∧
  ∃ET:Int,xw.cell? ((Addr.mk wY 0 none).add (Int.toNat 1*1))=some (.int .u32 ET)∧
  (0≤(1:Int)∧(1:Int)<((2:Nat):Int))∧
  ∃Cw:Int,xw.cell? ((Addr.mk wV 0 none).add (Int.toNat 1*1))=some (.int .u32 Cw)∧
  ∃Aj:Option Addr,∃Ah:Nat,∃Ai:Nat,xw.cell? ((Addr.mk wD 0 none).add 16)=some (.slice Aj Ah Ai)∧
  ∃ES:Option Addr,∃Cs:Nat,∃ER:Nat,xw.cell? ((Addr.mk wD 0 none).add 17)=some (.slice ES Cs ER)∧
  ∀(GB:Nat)(xq:World),GB=xw.heap.size→xq=xw.alloc (.cells (#[(.int .u32 0),(.int .u32 0),(.slice none 0 0),(.slice none 0 0)]) 39)→
  aD xq (Addr.mk GB 0 none) [(.int .u32 ET),(.int .u32 Cw),(.slice Aj Ah Ai),(.slice ES Cs ER)] fun xk=>
  ∃J1:Option Addr→World→Prop,(
   ∃b4:Nat→Nat→Prop,
   (0≤(0:Int)∧(0:Int)<((2:Nat):Int))∧
   b4 1 (((Addr.mk wY 0 none).add (Int.toNat 0*1)).block)∧
   ∃Ce:Int,xk.drew.cell? ((Addr.mk wY 0 none).add (Int.toNat 0*1))=some (.int .u32 Ce)∧
   (0≤(0:Int)∧(0:Int)<((2:Nat):Int))∧
   b4 3 (((Addr.mk wV 0 none).add (Int.toNat 0*1)).block)∧
   ∃Nb:Int,xk.drew.cell? ((Addr.mk wV 0 none).add (Int.toNat 0*1))=some (.int .u32 Nb)∧
   b4 5 (((Addr.mk gv 0 none).add 16).block)∧
   ∃Gc:Option Addr,∃Ga:Nat,∃Gb:Nat,xk.drew.cell? ((Addr.mk gv 0 none).add 16)=some (.slice Gc Ga Gb)∧
   b4 7 (((Addr.mk gv 0 none).add 17).block)∧
   ∃Cr:Option Addr,∃BZ:Nat,∃Cq:Nat,xk.drew.cell? ((Addr.mk gv 0 none).add 17)=some (.slice Cr BZ Cq)∧
   (Calls Tryd.prog 9 #[(.slice Cr BZ Cq)] xk.drew fun e wT=>
    ∃Cp:Option Addr,∃Cn:Nat,∃Co:Nat,e= .returned (.slice Cp Cn Co)∧
    Kept (aX b4 [0,1,2,3,4,5]) xk.drew wT∧∃b5:Nat→Nat→Prop,(∀i k,b4 i k→b5 i k)∧
    ∀(GA:Nat)(wS:World),GA=wT.heap.size→wS=wT.alloc (.cells (#[(.int .u32 0),(.int .u32 0),(.slice none 0 0),(.slice none 0 0)]) 42)→
    Kept (aX b5 [0,1,2,3,4,5,6,7,8,9]) wT wS∧∃b6:Nat→Nat→Prop,(∀i k,b5 i k→b6 i k)∧
    aD wS (Addr.mk GA 0 none) [(.int .u32 Ce),(.int .u32 Nb),(.slice Gc Ga Gb),(.slice Cp Cn Co)] fun xp=>
    ∃b7:Nat→Nat→Prop,(∀i k,b6 i k→b7 i k)∧
    J1 (some (Addr.mk GA 0 none)) xp)∧
   (∀(GA:Nat)(wT:World),GA=xk.drew.heap.size→wT=xk.drew.alloc (.cells (#[(.int .u32 0),(.int .u32 0),(.slice none 0 0),(.slice none 0 0)]) 42)→
    Kept (aX b4 [0,1,2,3,4,5,6,7]) xk.drew wT∧∃b5:Nat→Nat→Prop,(∀i k,b4 i k→b5 i k)∧
    Calls Tryd.prog 9 #[(.slice Cr BZ Cq)] wT fun e wS=>
    ∃Cp:Option Addr,∃Cn:Nat,∃Co:Nat,e= .returned (.slice Cp Cn Co)∧
    Kept (aX b5 [0,1,2,3,4,5,10]) wT wS∧∃b6:Nat→Nat→Prop,(∀i k,b5 i k→b6 i k)∧
    aD wS (Addr.mk GA 0 none) [(.int .u32 Ce),(.int .u32 Nb),(.slice Gc Ga Gb),(.slice Cp Cn Co)] fun xp=>
    ∃b7:Nat→Nat→Prop,(∀i k,b6 i k→b7 i k)∧
    J1 (some (Addr.mk GA 0 none)) xp))∧∀(_gv7:Nat→Value)(p:Option Addr),∀wT,J1 p wT→
  ∃J2:Option Addr→World→Prop,(
   ∃b4:Nat→Nat→Prop,
   (0≤(1:Int)∧(1:Int)<((2:Nat):Int))∧
   b4 1 (((Addr.mk wY 0 none).add (Int.toNat 1*1)).block)∧
   ∃M8:Int,wT.drew.cell? ((Addr.mk wY 0 none).add (Int.toNat 1*1))=some (.int .u32 M8)∧
   (0≤(1:Int)∧(1:Int)<((2:Nat):Int))∧
   b4 3 (((Addr.mk wV 0 none).add (Int.toNat 1*1)).block)∧
   ∃GL:Int,wT.drew.cell? ((Addr.mk wV 0 none).add (Int.toNat 1*1))=some (.int .u32 GL)∧
   b4 5 (((Addr.mk wD 0 none).add 16).block)∧
   ∃F9:Option Addr,∃F7:Nat,∃F8:Nat,wT.drew.cell? ((Addr.mk wD 0 none).add 16)=some (.slice F9 F7 F8)∧
   b4 7 (((Addr.mk wD 0 none).add 17).block)∧
   ∃F6:Option Addr,∃F4:Nat,∃F5:Nat,wT.drew.cell? ((Addr.mk wD 0 none).add 17)=some (.slice F6 F4 F5)∧
   (Calls Tryd.prog 9 #[(.slice F6 F4 F5)] wT.drew fun e wS=>
    ∃Aa:Option Addr,∃zZ:Nat,∃Bn:Nat,e= .returned (.slice Aa zZ Bn)∧
    Kept (aX b4 [0,1,2,3,4,5]) wT.drew wS∧∃b5:Nat→Nat→Prop,(∀i k,b4 i k→b5 i k)∧
    ∀(Gz:Nat)(xp:World),Gz=wS.heap.size→xp=wS.alloc (.cells (#[(.int .u32 0),(.int .u32 0),(.slice none 0 0),(.slice none 0 0)]) 42)→
    Kept (aX b5 [0,1,2,3,4,5,6,7,8,9]) wS xp∧∃b6:Nat→Nat→Prop,(∀i k,b5 i k→b6 i k)∧
    aD xp (Addr.mk Gz 0 none) [(.int .u32 M8),(.int .u32 GL),(.slice F9 F7 F8),(.slice Aa zZ Bn)] fun xj=>
    ∃b7:Nat→Nat→Prop,(∀i k,b6 i k→b7 i k)∧
    J2 (some (Addr.mk Gz 0 none)) xj)∧
   (∀(Gz:Nat)(wS:World),Gz=wT.drew.heap.size→wS=wT.drew.alloc (.cells (#[(.int .u32 0),(.int .u32 0),(.slice none 0 0),(.slice none 0 0)]) 42)→
    Kept (aX b4 [0,1,2,3,4,5,6,7]) wT.drew wS∧∃b5:Nat→Nat→Prop,(∀i k,b4 i k→b5 i k)∧
    Calls Tryd.prog 9 #[(.slice F6 F4 F5)] wS fun e xp=>
    ∃Aa:Option Addr,∃zZ:Nat,∃Bn:Nat,e= .returned (.slice Aa zZ Bn)∧
    Kept (aX b5 [0,1,2,3,4,5,10]) wS xp∧∃b6:Nat→Nat→Prop,(∀i k,b5 i k→b6 i k)∧
    aD xp (Addr.mk Gz 0 none) [(.int .u32 M8),(.int .u32 GL),(.slice F9 F7 F8),(.slice Aa zZ Bn)] fun xj=>
    ∃b7:Nat→Nat→Prop,(∀i k,b6 i k→b7 i k)∧
    J2 (some (Addr.mk Gz 0 none)) xj))∧∀(_gv8:Nat→Value)(q:Option Addr),∀wS,J2 q wS→
  ∃J3:Bool→World→Prop,(
   ∃b4:Nat→Nat→Prop,
   b4 0 ((Addr.mk Bd 0 none).block)∧
   ∃Hi:Int,∃Hh:Int,∃x80cA:Option Addr,∃x80cN:Nat,∃x80cC:Nat,∃x80dA:Option Addr,∃x80dN:Nat,∃x80dC:Nat,(wS.drew.cell? ((Addr.mk Bd 0 none).add 0)=some (.int .u32 Hi)∧wS.drew.cell? ((Addr.mk Bd 0 none).add 1)=some (.int .u32 Hh)∧wS.drew.cell? ((Addr.mk Bd 0 none).add 2)=some (.slice x80cA x80cN x80cC)∧wS.drew.cell? ((Addr.mk Bd 0 none).add 3)=some (.slice x80dA x80dN x80dC))∧
   b4 1 ((Addr.mk GB 0 none).block)∧
   ∃Cl:Int,∃Ck:Int,∃x81cA:Option Addr,∃x81cN:Nat,∃x81cC:Nat,∃x81dA:Option Addr,∃x81dN:Nat,∃x81dC:Nat,(wS.drew.cell? ((Addr.mk GB 0 none).add 0)=some (.int .u32 Cl)∧wS.drew.cell? ((Addr.mk GB 0 none).add 1)=some (.int .u32 Ck)∧wS.drew.cell? ((Addr.mk GB 0 none).add 2)=some (.slice x81cA x81cN x81cC)∧wS.drew.cell? ((Addr.mk GB 0 none).add 3)=some (.slice x81dA x81dN x81dC))∧
   ay p fun LQ=>
   b4 3 (LQ.block)∧
   ∃Hf:Int,∃He:Int,∃x83cA:Option Addr,∃x83cN:Nat,∃x83cC:Nat,∃x83dA:Option Addr,∃x83dN:Nat,∃x83dC:Nat,(wS.drew.cell? (LQ.add 0)=some (.int .u32 Hf)∧wS.drew.cell? (LQ.add 1)=some (.int .u32 He)∧wS.drew.cell? (LQ.add 2)=some (.slice x83cA x83cN x83cC)∧wS.drew.cell? (LQ.add 3)=some (.slice x83dA x83dN x83dC))∧
   ay q fun LP=>
   b4 4 (LP.block)∧
   ∃Hc:Int,∃Hb:Int,∃x84cA:Option Addr,∃x84cN:Nat,∃x84cC:Nat,∃x84dA:Option Addr,∃x84dN:Nat,∃x84dC:Nat,(wS.drew.cell? (LP.add 0)=some (.int .u32 Hc)∧wS.drew.cell? (LP.add 1)=some (.int .u32 Hb)∧wS.drew.cell? (LP.add 2)=some (.slice x84cA x84cN x84cC)∧wS.drew.cell? (LP.add 3)=some (.slice x84dA x84dN x84dC))∧
   Calls Tryd.prog 10 #[(.agg #[(.int .u32 Hi),(.int .u32 Hh),(.slice x80cA x80cN x80cC),(.slice x80dA x80dN x80dC)]),(.agg #[(.int .u32 Cl),(.int .u32 Ck),(.slice x81cA x81cN x81cC),(.slice x81dA x81dN x81dC)])] wS.drew fun e xp=>
   ∃EO:Bool,e= .returned (.bool EO)∧
   Kept (aX b4 [3,4]) wS.drew xp∧∃b5:Nat→Nat→Prop,(∀i k,b4 i k→b5 i k)∧
   Calls Tryd.prog 11 #[(.agg #[(.int .u32 Hf),(.int .u32 He),(.slice x83cA x83cN x83cC),(.slice x83dA x83dN x83dC)]),(.agg #[(.int .u32 Hc),(.int .u32 Hb),(.slice x84cA x84cN x84cC),(.slice x84dA x84dN x84dC)])] xp fun e xj=>
   ∃x85:Bool,e= .returned (.bool x85)∧
   ∃b6:Nat→Nat→Prop,(∀i k,b5 i k→b6 i k)∧
   split (EO==x85) (
    b6 8 ((Addr.mk Bd 0 none).block)∧
    ∃Ha:Int,∃G9:Int,∃x88cA:Option Addr,∃x88cN:Nat,∃x88cC:Nat,∃x88dA:Option Addr,∃x88dN:Nat,∃x88dC:Nat,(xj.cell? ((Addr.mk Bd 0 none).add 0)=some (.int .u32 Ha)∧xj.cell? ((Addr.mk Bd 0 none).add 1)=some (.int .u32 G9)∧xj.cell? ((Addr.mk Bd 0 none).add 2)=some (.slice x88cA x88cN x88cC)∧xj.cell? ((Addr.mk Bd 0 none).add 3)=some (.slice x88dA x88dN x88dC))∧
    b6 9 ((Addr.mk Bd 0 none).block)∧
    ∃G8:Int,∃G7:Int,∃x89cA:Option Addr,∃x89cN:Nat,∃x89cC:Nat,∃x89dA:Option Addr,∃x89dN:Nat,∃x89dC:Nat,(xj.cell? ((Addr.mk Bd 0 none).add 0)=some (.int .u32 G8)∧xj.cell? ((Addr.mk Bd 0 none).add 1)=some (.int .u32 G7)∧xj.cell? ((Addr.mk Bd 0 none).add 2)=some (.slice x89cA x89cN x89cC)∧xj.cell? ((Addr.mk Bd 0 none).add 3)=some (.slice x89dA x89dN x89dC))∧
    Calls Tryd.prog 10 #[(.agg #[(.int .u32 Ha),(.int .u32 G9),(.slice x88cA x88cN x88cC),(.slice x88dA x88dN x88dC)]),(.agg #[(.int .u32 G8),(.int .u32 G7),(.slice x89cA x89cN x89cC),(.slice x89dA x89dN x89dC)])] xj fun e yo=>
    ∃G3:Bool,e= .returned (.bool G3)∧
    Kept (aX b6 [0,1]) xj yo∧∃b7:Nat→Nat→Prop,(∀i k,b6 i k→b7 i k)∧
    J3 G3 yo) (
    J3 false xj))∧∀(_gv9:Nat→Value)(x8:Bool),∀xp,J3 x8 xp→
  R (.bool x8) xp)
def gM:Ann:=(.node none .leaf (.node none .leaf (.node none (.node none (.node (some ⟨[(41,.one (.bool))],[19,20,21,22,23,24,25,26,27,28,29,30,31,32,33,34,35,36,37,38,39,40,41]⟩) .leaf .leaf) .leaf) (.node none .leaf (.node none .leaf (.node none (.node (some ⟨[(12,.one (.ptr))],[12,60,61,62,63,64,65,66,67,68,69]⟩) .leaf .leaf) (.node none (.node (some ⟨[(13,.one (.ptr))],[13,70,71,72,73,74,75,76,77,78,79]⟩) .leaf .leaf) (.node none (.node (some ⟨[(8,.one (.bool))],[8,80,81,82,83,84,85,86,87,88,89,90,91]⟩) .leaf .leaf) .leaf))))))))
theorem L25ViewParts_eq(aa:Int)(ab:Int)(ac:Int)(ad:Int)(ae:Int)(af:Int)(ag:Int)(ah:Int)(ai:Int)(aj:Int)(ak:Int)(al:Int)(am:Int)(an:Int)(ao:Int)(ap:Int)(aqA:Option Addr)(aqN:Nat)(aqC:Nat)(arA:Option Addr)(arN:Nat)(arC:Nat)(ba:Int)(bb:Int)(bc:Int)(bd:Int)(be:Int)(bf:Int)(bg:Int)(bh:Int)(bi:Int)(bj:Int)(bk:Int)(bl:Int)(bm:Int)(bn:Int)(bo:Int)(bp:Int)(bqA:Option Addr)(bqN:Nat)(bqC:Nat)(brA:Option Addr)(brN:Nat)(brC:Nat)(codesa:Int)(codesb:Int)(valuesa:Int)(valuesb:Int)(R:ax)(w:World):dP aa ab ac ad ae af ag ah ai aj ak al am an ao ap aqA aqN aqC arA arN arC ba bb bc bd be bf bg bh bi bj bk bl bm bn bo bp bqA bqN bqC brA brN brC codesa codesb valuesa valuesb R w=vcF Tryd.prog aB [] Tryd.f3 gM [(.agg #[(.int .i64 aa),(.int .u32 ab),(.int .u32 ac),(.int .u32 ad),(.int .u32 ae),(.int .u32 af),(.int .u32 ag),(.int .u32 ah),(.int .u32 ai),(.int .u32 aj),(.int .u32 ak),(.int .u32 al),(.int .u32 am),(.int .u32 an),(.int .u32 ao),(.int .u32 ap),(.slice aqA aqN aqC),(.slice arA arN arC)]),(.agg #[(.int .i64 ba),(.int .u32 bb),(.int .u32 bc),(.int .u32 bd),(.int .u32 be),(.int .u32 bf),(.int .u32 bg),(.int .u32 bh),(.int .u32 bi),(.int .u32 bj),(.int .u32 bk),(.int .u32 bl),(.int .u32 bm),(.int .u32 bn),(.int .u32 bo),(.int .u32 bp),(.slice bqA bqN bqC),(.slice brA brN brC)]),(.agg #[(.int .u32 codesa),(.int .u32 codesb)]),(.agg #[(.int .u32 valuesa),(.int .u32 valuesb)])] R none w:=by kernel_rfl
theorem eW(aa:Int)(ab:Int)(ac:Int)(ad:Int)(ae:Int)(af:Int)(ag:Int)(ah:Int)(ai:Int)(aj:Int)(ak:Int)(al:Int)(am:Int)(an:Int)(ao:Int)(ap:Int)(aqA:Option Addr)(aqN:Nat)(aqC:Nat)(arA:Option Addr)(arN:Nat)(arC:Nat)(ba:Int)(bb:Int)(bc:Int)(bd:Int)(be:Int)(bf:Int)(bg:Int)(bh:Int)(bi:Int)(bj:Int)(bk:Int)(bl:Int)(bm:Int)(bn:Int)(bo:Int)(bp:Int)(bqA:Option Addr)(bqN:Nat)(bqC:Nat)(brA:Option Addr)(brN:Nat)(brC:Nat)(codesa:Int)(codesb:Int)(valuesa:Int)(valuesb:Int) {R:ax} {w:World}(h:dP aa ab ac ad ae af ag ah ai aj ak al am an ao ap aqA aqN aqC arA arN arC ba bb bc bd be bf bg bh bi bj bk bl bm bn bo bp bqA bqN bqC brA brN brC codesa codesb valuesa valuesb R w):Calls Tryd.prog 3 #[(.agg #[(.int .i64 aa),(.int .u32 ab),(.int .u32 ac),(.int .u32 ad),(.int .u32 ae),(.int .u32 af),(.int .u32 ag),(.int .u32 ah),(.int .u32 ai),(.int .u32 aj),(.int .u32 ak),(.int .u32 al),(.int .u32 am),(.int .u32 an),(.int .u32 ao),(.int .u32 ap),(.slice aqA aqN aqC),(.slice arA arN arC)]),(.agg #[(.int .i64 ba),(.int .u32 bb),(.int .u32 bc),(.int .u32 bd),(.int .u32 be),(.int .u32 bf),(.int .u32 bg),(.int .u32 bh),(.int .u32 bi),(.int .u32 bj),(.int .u32 bk),(.int .u32 bl),(.int .u32 bm),(.int .u32 bn),(.int .u32 bo),(.int .u32 bp),(.slice bqA bqN bqC),(.slice brA brN brC)]),(.agg #[(.int .u32 codesa),(.int .u32 codesb)]),(.agg #[(.int .u32 valuesa),(.int .u32 valuesb)])] w fun e w'=>∃v,e= .returned v∧R v w':=
 aq Tryd.func3 av ar ((L25ViewParts_eq aa ab ac ad ae af ag ah ai aj ak al am an ao ap aqA aqN aqC arA arN arC ba bb bc bd be bf bg bh bi bj bk bl bm bn bo bp bqA bqN bqC brA brN brC codesa codesb valuesa valuesb R w).mp h)
end
end Go.Proofs.YtkbcgjfejboigaaDoor
namespace Go.Proofs.YtkbcgjfejboigaaDoor.V
open Go Go.RowKit
open Go.IntKind (i64 u32 u64)
section
theorem aM {x:Int}(h: -9223372036854775808≤x∧x≤9223372036854775807):i64.wrap x=x:=IntWalk.i64_in x h
theorem u32_eq(x:Int):u32.wrap x=x % 4294967296:=by rw [IntKind.wrap_u32]
theorem cY {x:Int}(h:0≤x∧x<4294967296):u32.wrap x=x:=by rw [u32_eq];omega
variable {P:Program} {w w0 w1 w2 w3 w':World} {g g':Nat} {cs cs':Array Value} {T T':TypeId} {X Y Z:Nat→Prop} {v:Value}
theorem Blk.lt(h:Blk w g cs T):g<w.heap.size:=(Array.getElem?_eq_some_iff.1 h).1
theorem Blk.cell(h:Blk w g cs T) {i:Nat}(hi:cs[i]? =some v):w.cell? ⟨g,i,none⟩=some v:=by
 unfold Blk at h
 simp [World.cell?,h,hi]
theorem Blk.at(h:Blk w g cs T) {i:Nat}(hi:cs[i]? =some v):w.cell? ((Addr.mk g 0 none).add i)=some v:=by
 rw [bB,Nat.zero_add]
 exact h.cell hi
theorem Blk.at0(h:Blk w g cs T)(hi:cs[0]? =some v):w.cell? (Addr.mk g 0 none)=some v:=h.cell hi
theorem Blk.kept {B:Nat→Prop}(h:Blk w g cs T)(hk:Kept B w w')(hb:B g):Blk w' g cs T:=(hk.block g hb).trans h
theorem Blk.drew(h:Blk w g cs T):Blk w.drew g cs T:=h
theorem Blk.inj(h:Blk w g cs T)(h':Blk w g cs' T'):cs=cs'∧T=T':=by
 unfold Blk at h h'
 rw [h]at h'
 simpa using h'
theorem Kept.drew {B:Nat→Prop}(h:Kept B w w'):Kept B w w'.drew:=⟨h.os,h.tape,h.output,h.size,h.block⟩
structure Made(w:World)(g:Nat)(cs:Array Value)(T:TypeId)(w2:World):Prop where
 num:g=w.heap.size
 blk:Blk w2 g cs T
 kept:Kept (fun k=>k<w.heap.size) w w2
 size:w2.heap.size=w.heap.size+1
theorem made(hg:g=w.heap.size)(hw:w2=w.alloc (.cells cs T)):Made w g cs T w2:=by
 subst hg;subst hw
 exact⟨rfl,World.alloc_heap_new w _,Kept.nH w _,by simp⟩
structure Ch(X:Nat→Prop)(w0 w:World):Prop where
 kept:Kept (fun k=>k<w0.heap.size∧¬X k) w0 w
abbrev Pu(w0 w:World):Prop:=Ch (fun _=>False) w0 w
theorem Ch.refl(X:Nat→Prop)(w:World):Ch X w w:=⟨Kept.refl _ _⟩
theorem Ch.size(h:Ch X w0 w):w0.heap.size≤w.heap.size:=h.kept.size
theorem Ch.call(h:Ch X w0 w)(k:Ch Y w w2)(hy:∀k,Y k→X k∨w0.heap.size≤k):Ch X w0 w2:=
 ⟨h.kept.trans (k.kept.mono fun i hi=>⟨Nat.lt_of_lt_of_le hi.1 h.size,fun hy'=>(hy i hy').elim hi.2 (fun hle=>absurd hi.1 (by omega))⟩)⟩
theorem Ch.trans(h:Ch X w0 w)(k:Ch X w w2):Ch X w0 w2:=h.call k fun _ h=>.inl h
theorem Ch.pu(h:Ch X w0 w)(k:Pu w w2):Ch X w0 w2:=h.call k fun _ h=>h.elim
theorem Ch.made(h:Ch X w0 w)(hm:Made w g cs T w2):Ch X w0 w2:=
 h.pu ⟨hm.kept.mono fun _ h=>h.1⟩
theorem Ch.stored(h:Ch X w0 w)(hs:aY w g cs T w2)(hg:X g∨w0.heap.size≤g):Ch X w0 w2:=
 h.call (Y:=fun k=>k=g) ⟨hs.kept.mono fun _ h=>h.2⟩ fun k hk=>by cases hk;exact hg
theorem Ch.drew(h:Ch X w0 w):Ch X w0 w.drew:=⟨h.kept.drew⟩
theorem Ch.mono(h:Ch X w0 w)(hx:∀k,X k→Y k):Ch Y w0 w:=⟨h.kept.mono fun k hk=>⟨hk.1,fun h=>hk.2 (hx k h)⟩⟩
theorem Ch.blk(h:Ch X w0 w)(hb:Blk w0 g cs T)(hg:¬X g):Blk w g cs T:=hb.kept h.kept ⟨hb.lt,hg⟩
theorem Pu.blk(h:Pu w0 w)(hb:Blk w0 g cs T):Blk w g cs T:=Ch.blk h hb (by simp)
theorem Ch.dQ {B:Nat→Prop}(h:Ch X w0 w)(hb:∀k,B k→k<w0.heap.size∧¬X k):Kept B w0 w:=h.kept.mono hb
theorem Pu.dQ {B:Nat→Prop}(h:Pu w0 w)(hb:∀k,B k→k<w0.heap.size):Kept B w0 w:=h.kept.mono fun k hk=>⟨hb k hk,by simp⟩
theorem Kept.pu(h:Kept (fun k=>k<w.heap.size) w w2):Pu w w2:=⟨h.mono fun _ h=>h.1⟩
theorem Made.pu(h:Made w g cs T w2):Pu w w2:=h.kept.pu
theorem Pu.aG(w:World):Pu w w.drew:=(Ch.refl _ w).drew
theorem Made.old(h:Made w g cs T w2)(hb:Blk w g' cs' T'):Blk w2 g' cs' T':=hb.kept h.kept hb.lt
theorem Made.lt(h:Made w g cs T w2):g<w2.heap.size:=h.blk.lt
theorem aY.old(h:aY w g cs T w2)(hb:Blk w g' cs' T')(xi:g'≠g):Blk w2 g' cs' T':=hb.kept h.kept xi
theorem aI {K:World→Prop} {i:Nat} {vs:List Value}(hb:Blk w g cs T)(hi:i+vs.length≤cs.size)(h:∀w2,aY w g (setAt cs i vs) T w2→K w2):aD w ((Addr.mk g 0 none).add i) vs K:=
 ⟨g,i,cs,T,by rw [bB,Nat.zero_add],hb,hi,h⟩
theorem aR {K:World→Prop} {vs:List Value}(hb:Blk w g cs T)(hi:vs.length≤cs.size)(h:∀w2,aY w g (setAt cs 0 vs) T w2→K w2):aD w (Addr.mk g 0 none) vs K:=
 ⟨g,0,cs,T,rfl,hb,by omega,h⟩
theorem hE {K:World→Prop} {i:Nat} {vs:List Value}(hb:Blk w g cs T)(hi:i+vs.length≤cs.size)(h:∀w2,aY w g (setAt cs i vs) T w2→K w2):aD w (Addr.mk g i none) vs K:=
 ⟨g,i,cs,T,rfl,hb,hi,h⟩
theorem jL(cs:Array Value)(i:Nat)(v:Value):setAt cs i [v]=cs.setIfInBounds i v:=rfl
theorem cT:∀(vs:List Value)(cs:Array Value)(o i:Nat),o+vs.length≤cs.size→(setAt cs o vs)[i]? =if o≤i∧i<o+vs.length then vs[i - o]? else cs[i]?
 | [],cs,o,i,_=>by simp [setAt];intro h1 h2;omega
 | v::r,cs,o,i,h=>by
  simp only [List.length_cons]at h
  rw [setAt,cT r _ (o+1) i (by simp;omega)]
  by_cases h1:o+1≤i∧i<o+1+r.length
  ·rw [if_pos h1,if_pos (by simp;omega)]
   obtain⟨j,rfl⟩:∃j,i=o+1+j:=⟨i - (o+1),by omega⟩
   rw [show o+1+j - (o+1)=j by omega,show o+1+j - o=j+1 by omega]
   rfl
  ·rw [if_neg h1]
   by_cases h2:i=o
   ·subst h2
    rw [if_pos (by simp)]
    simp [Array.getElem?_setIfInBounds]
    omega
   ·rw [if_neg (by simp;omega),Array.getElem?_setIfInBounds,if_neg (by omega)]
structure bH(w:World)(Z:Nat→Prop)(k:IntKind)(A:Option Addr)(n c:Nat)(l:List Int):Prop where
 len:l.length=n
 cap:n≤c
 cell:∀j x,l[j]? =some x→∃p,A=some p∧Z p.block∧w.cell? (p.add j)=some (.int k x)
section
variable {k:IntKind} {A:Option Addr} {n c:Nat} {l:List Int}
theorem add_add(p:Addr)(i j:Nat):(p.add i).add j=p.add (i+j):=by
 unfold Addr.add
 by_cases hi:i=0<;>by_cases hj:j=0<;>simp [hi,hj,Nat.add_assoc]
theorem Blk.at2(h:Blk w g cs T) {i j:Nat}(hi:cs[i+j]? =some v):w.cell? (((Addr.mk g 0 none).add i).add j)=some v:=by
 rw [add_add];exact h.at hi
theorem bH.kept {B:Nat→Prop}(h:bH w Z k A n c l)(hk:Kept B w w')(hb:∀k,Z k→B k):bH w' Z k A n c l:=
 ⟨h.len,h.cap,fun j x hx=>by
  obtain⟨p,hA,hp,hc⟩:=h.cell j x hx
  exact⟨p,hA,hp,(hk.cell (by rw [block_add];exact hb _ hp)).trans hc⟩⟩
theorem bH.ch(h:bH w Z k A n c l)(hk:Ch X w w')(hb:∀k,Z k→¬X k):bH w' Z k A n c l:=
 ⟨h.len,h.cap,fun j x hx=>by
  obtain⟨p,hA,hp,hc⟩:=h.cell j x hx
  refine⟨p,hA,hp,(hk.kept.cell ⟨World.block_lt_of_cell? w _ hc,?_⟩).trans hc⟩
  rw [block_add]
  exact hb _ hp⟩
theorem bH.pu(h:bH w Z k A n c l)(hk:Pu w w'):bH w' Z k A n c l:=h.ch hk (by simp)
theorem bH.mono(h:bH w Z k A n c l)(hb:∀k,Z k→Y k):bH w Y k A n c l:=
 ⟨h.len,h.cap,fun j x hx=>by
  obtain⟨p,hA,hp,hc⟩:=h.cell j x hx
  exact⟨p,hA,hb _ hp,hc⟩⟩
theorem bH.drew(h:bH w Z k A n c l):bH w.drew Z k A n c l:=⟨h.len,h.cap,h.cell⟩
theorem bH.nil:bH w Z k none 0 c []:=⟨rfl,Nat.zero_le _,by simp⟩
theorem bH.blk(h:Blk w g cs T)(hz:Z g) {m:Nat}(hc:n≤c)(hl:l.length=n)(hm:∀j x,l[j]? =some x→cs[m+j]? =some (.int k x)):bH w Z k (some (Addr.mk g m none)) n c l:=
 ⟨hl,hc,fun j x hx=>⟨_,rfl,hz,by rw [bB];exact h.cell (hm j x hx)⟩⟩
theorem bH.rd {i:Int} {K:Int→Prop}(h:bH w Z k A n c l)(h0:0≤i)(h1:i<(n:Int))(hK:K (l.getD i.toNat 0)):
 (0≤i∧i<((n:Nat):Int))∧ay A fun p=>∃x:Int,w.cell? (p.add (i.toNat *1))=some (.int k x)∧K x:=by
 have hl:=h.len
 have hj:i.toNat<l.length:=by omega
 obtain⟨p,hA,_,hc⟩:=h.cell i.toNat _ (List.getElem?_eq_getElem hj)
 refine⟨⟨h0,h1⟩,aw p hA ⟨_,by rw [Nat.mul_one];exact hc,?_⟩⟩
 rwa [List.getD_eq_getElem?_getD,List.getElem?_eq_getElem hj]at hK
theorem bH.rdB {i:Int} {B:Nat→Prop} {K:Int→Prop}(h:bH w Z k A n c l)(h0:0≤i)(h1:i<(n:Int))(hb:∀k,Z k→B k)(hK:K (l.getD i.toNat 0)):
 (0≤i∧i<((n:Nat):Int))∧ay A fun p=>B ((p.add (i.toNat *1)).block)∧∃x:Int,w.cell? (p.add (i.toNat *1))=some (.int k x)∧K x:=by
 have hl:=h.len
 have hj:i.toNat<l.length:=by omega
 obtain⟨p,hA,hp,hc⟩:=h.cell i.toNat _ (List.getElem?_eq_getElem hj)
 refine⟨⟨h0,h1⟩,aw p hA ⟨by rw [block_add];exact hb _ hp,_,by rw [Nat.mul_one];exact hc,?_⟩⟩
 rwa [List.getD_eq_getElem?_getD,List.getElem?_eq_getElem hj]at hK
theorem bH.cut {lo hi m:Nat} {A':Option Addr} {n' c':Nat}(h:bH w Z k A n c l)(hA:A'=(if m=lo then A else A.map (·.add (lo*1))))(hn:n'=hi - lo)(hc:c'=m - lo)(h1:lo≤hi)(h2:hi≤n)(h3:hi≤m):
 bH w Z k A' n' c' ((l.take hi).drop lo):=by
 have hl:=h.len
 refine⟨by simp;omega,by omega,fun j x hx=>?_⟩
 rw [List.getElem?_drop,List.getElem?_take]at hx
 split at hx
 ·rename_i yQ
  obtain⟨p,hp,hb,xD⟩:=h.cell _ x hx
  rw [if_neg (by omega)]at hA
  subst hp
  refine⟨p.add (lo*1),by rw [hA];rfl,by rw [block_add];exact hb,?_⟩
  rw [add_add,Nat.mul_one]
  exact xD
 ·cases hx
end
end
section
variable {P:Program} {w w0 w1 w2 w3 w':World} {g g':Nat} {cs cs':Array Value} {T T':TypeId} {X Y Z:Nat→Prop} {v:Value}
theorem Blk.cast(h:Blk w g cs T)(e:cs'=cs):Blk w g cs' T:=e▸h
theorem mkd {K:Nat→World→Prop}(h:∀g w2,Made w g cs T w2→K g w2):∀(g:Nat)(w2:World),g=w.heap.size→w2=w.alloc (.cells cs T)→K g w2:=
 fun g w2 hg hw=>h g w2 (made hg hw)
theorem Made.lo(m:Made w g cs T w2)(hp:Ch X w0 w):w0.heap.size≤g:=by rw [m.num];exact hp.size
theorem Made.ne(m:Made w g cs T w2)(b:Blk w g' cs' T'):g'≠g:=by have:=b.lt;rw [m.num];omega
theorem Made.off(m:Made w g cs T w2)(h:∀k,X k→k<w.heap.size):¬X g:=fun hx=>by have:=h g hx;rw [m.num]at this;omega
theorem aY.ch(s:aY w g cs T w2):Ch (fun k=>k=g) w w2:=⟨s.kept.mono fun _ h=>h.2⟩
def bX(w:World)(Y:Nat→Prop):Nat→Prop:=fun k=>k<w.heap.size∧¬Y k
theorem bX.ld(b:Blk w g cs T)(hn:¬Y g)(i:Nat):bX w Y ((Addr.mk g 0 none).add i).block:=by
 rw [block_add];exact⟨b.lt,hn⟩
theorem bX.ld0(b:Blk w g cs T)(hn:¬Y g):bX w Y (Addr.mk g 0 none).block:=⟨b.lt,hn⟩
theorem bX.lt(h:g<w.heap.size)(hn:¬Y g):bX w Y g:=⟨h,hn⟩
def bXU(U V:List Nat)(w:World)(Y:Nat→Prop):Nat→Nat→Prop:=fun i k=>V.elem i=true∨(U.elem i=true∧bX w Y k)
theorem bXU.any {U V l:List Nat}(hl:l.all (fun i=>!(V.elem i))=true) {k:Nat}(h:aX (bXU U V w Y) l k):bX w Y k:=by
 induction l with
 | nil=>exact h.elim
 | cons i r ih=>
  simp only [List.all_cons,Bool.and_eq_true,Bool.not_eq_true']at hl
  have hd:bXU U V w Y i k→bX w Y k:=fun h=>h.elim (fun h=>by rw [hl.1]at h;cases h) (·.2)
  cases r with
  | nil=>exact hd h
  | cons j r=>exact h.elim hd (ih hl.2)
theorem bXU.more {U V l:List Nat} {F:(Nat→Nat→Prop)→Prop}(q:Ch Z w w2)(hz:∀k,Z k→Y k∨w.heap.size≤k)(hl:l.all (fun i=>!(V.elem i))=true)(h:F (bXU U V w2 Y)):Kept (aX (bXU U V w Y) l) w w2∧∃b2:Nat→Nat→Prop,(∀i k,bXU U V w Y i k→b2 i k)∧F b2:=
 ⟨q.kept.mono fun k hk=>by
  have hb:=bXU.any hl hk
  exact⟨hb.1,fun hzk=>(hz k hzk).elim hb.2 fun h=>absurd hb.1 (Nat.not_lt.2 h)⟩,_,fun i k hk=>hk.imp id fun hu=>⟨hu.1,Nat.lt_of_lt_of_le hu.2.1 q.size,hu.2.2⟩,h⟩
theorem bXU.dO {U V l:List Nat} {F:(Nat→Nat→Prop)→Prop}(q:Pu w w2)(hl:l.all (fun i=>!(V.elem i))=true)(h:F (bXU U V w2 Y)):Kept (aX (bXU U V w Y) l) w w2∧∃b2:Nat→Nat→Prop,(∀i k,bXU U V w Y i k→b2 i k)∧F b2:=
 bXU.more q (fun _ h=>h.elim) hl h
theorem bXU.grow {U V:List Nat} {F:(Nat→Nat→Prop)→Prop}(q:Ch Z w w2)(h:F (bXU U V w2 Y)):∃b2:Nat→Nat→Prop,(∀i k,bXU U V w Y i k→b2 i k)∧F b2:=
 ⟨_,fun i k hk=>hk.imp id fun hu=>⟨hu.1,Nat.lt_of_lt_of_le hu.2.1 q.size,hu.2.2⟩,h⟩
theorem bXU.vT {V:List Nat}:∀ {l:List Nat}(_:l.all (fun i=>!(V.elem i))=true) {k:Nat},¬aX (bXU [] V w Y) l k
 | [],_,_,h=>h
 | [i],hl,k,h=>by
  simp only [List.all_cons,Bool.and_eq_true,Bool.not_eq_true']at hl
  rcases h with h | h
  ·rw [hl.1]at h;cases h
  ·cases h.1
 | i::j::r,hl,k,h=>by
  simp only [List.all_cons,Bool.and_eq_true,Bool.not_eq_true']at hl
  rcases h with(h | h) | h
  ·rw [hl.1]at h;cases h
  ·cases h.1
  ·exact bXU.vT (l:=j::r) (by simp only [List.all_cons,Bool.and_eq_true,Bool.not_eq_true'];exact hl.2) h
theorem bXU.tZ {V l:List Nat} {F:(Nat→Nat→Prop)→Prop}(q:Ch Z w w2)(hl:l.all (fun i=>!(V.elem i))=true)(h:F (bXU [] V w2 Y)):Kept (aX (bXU [] V w Y) l) w w2∧∃b2:Nat→Nat→Prop,(∀i k,bXU [] V w Y i k→b2 i k)∧F b2:=
 ⟨q.kept.mono fun _ hk=>absurd hk (bXU.vT hl),_,fun _ _ hk=>hk.imp id fun hu=>(by cases hu.1),h⟩
theorem tA {a0 a1 a2 a3 a4 a5 a6 a7 b0 b1 b2 b3 b4 b5 b6 b7:Value}(h0:a0=b0)(h1:a1=b1)(h2:a2=b2)(h3:a3=b3)(h4:a4=b4)(h5:a5=b5)(h6:a6=b6)(h7:a7=b7):(#[a0,a1,a2,a3,a4,a5,a6,a7]:Array Value)= #[b0,b1,b2,b3,b4,b5,b6,b7]:=by subst h0;subst h1;subst h2;subst h3;subst h4;subst h5;subst h6;subst h7;rfl
theorem bK {x y:Prop}(h:x):split true x y:=aE (fun _=>h) (fun e=>nomatch e)
theorem cv {x y:Prop}(h:y):split false x y:=aE (fun e=>nomatch e) (fun _=>h)
theorem aH {p:Prop} [Decidable p] {x y:Prop}(h1:p→x)(h0:¬p→y):split (decide p) x y:=
 aE (fun h=>h1 (of_decide_eq_true h)) (fun h=>h0 (of_decide_eq_false h))
theorem eI {p:Prop} [Decidable p] {x y:Prop}(h1:¬p→x)(h0:p→y):split (!decide p) x y:=
 aE (fun h=>h1 (by simpa using h)) (fun h=>h0 (by simpa using h))
theorem py {b:Bool} {x y:Prop}(h1:b=false→x)(h0:b=true→y):split (!b) x y:=
 aE (fun h=>h1 (by simpa using h)) (fun h=>h0 (by simpa using h))
theorem bq {a b:Int} {x y:Prop}(h1:a=b→x)(h0:¬a=b→y):split (a==b) x y:=
 aE (fun h=>h1 (by simpa using h)) (fun h=>h0 (by simpa using h))
theorem aU {a b:Int} {x y:Prop}(h1:¬a=b→x)(h0:a=b→y):split (a !=b) x y:=
 aE (fun h=>h1 (by simpa using h)) (fun h=>h0 (by simpa using h))
theorem cZ {a b:Bool} {x y:Prop}(h1:a=true∨b=true→x)(h0:a=false∧b=false→y):split (a || b) x y:=
 aE (fun h=>h1 (by simpa using h)) (fun h=>h0 (by simpa using h))
end
section
variable {P:Program} {w w0 w1 w2 w3 w':World} {g g':Nat} {cs cs':Array Value} {T T':TypeId} {X Y Z:Nat→Prop} {v:Value}
structure S1(P:Program)(t e:TypeId)(z:Value)(bytes:Nat):Prop where
 und:P.underlying t=some (.slice e)
 info:∃i,P.info? e=some i∧i.zero=some z∧i.size=1∧i.bytes=bytes
 cells:z.cells= #[z]
theorem S1.of {t e:TypeId} {z:Value} {bytes:Nat}(h:P.underlying t=some (.slice e))(h2:(P.info? e).map (fun i=>(i.zero,i.size,i.bytes))=some (some z,1,bytes))(h3:z.cells= #[z]):S1 P t e z bytes:=by
 refine⟨h,?_,h3⟩
 cases hi:P.info? e with
 | none=>rw [hi]at h2;cases h2
 | some i=>rw [hi]at h2;simp at h2;exact⟨i,rfl,h2.1,h2.2.1,h2.2.2⟩
structure SN(P:Program)(t e:TypeId)(z:Value)(size bytes:Nat):Prop where
 und:P.underlying t=some (.slice e)
 info:∃i,P.info? e=some i∧i.zero=some z∧i.size=size∧i.bytes=bytes
 cells:z.cells.size=size
 pos:0<size
theorem SN.of {t e:TypeId} {z:Value} {size bytes:Nat}(h:P.underlying t=some (.slice e))(h2:(P.info? e).map (fun i=>(i.zero,i.size,i.bytes))=some (some z,size,bytes))(h3:z.cells.size=size)(h4:0<size):SN P t e z size bytes:=by
 refine⟨h,?_,h3,h4⟩
 cases hi:P.info? e with
 | none=>rw [hi]at h2;cases h2
 | some i=>rw [hi]at h2;simp at h2;exact⟨i,rfl,h2.1,h2.2.1,h2.2.2⟩
theorem S1.sn {t e:TypeId} {z:Value} {bytes:Nat}(h:S1 P t e z bytes):SN P t e z 1 bytes:=⟨h.und,h.info,by rw [h.cells];rfl,by omega⟩
theorem gR {t e:TypeId} {z:Value} {bytes:Nat}(h:S1 P t e z bytes) {n:Int}(h0:0≤n)(hn:(bytes:Int)*n≤281474976710656)(Bm:n≤9223372036854775807) {K:Option Addr→Nat→Nat→World→Prop}
 (hK:∀g w2,Made w g (Array.replicate n.toNat z) e w2→K (some (Addr.mk g 0 none)) n.toNat n.toNat w2):
 ∃(A:Option Addr)(N C:Nat)(w2:World),(Instr.makeSlice t (.int .i64 n) (.int .i64 n):Sem Value).run P w= .ok (.slice A N C) w2∧K A N C w2:=by
 obtain⟨i,hi,hz,hs,hb⟩:=h.info
 have hr:=run_make (P:=P) w t e i z h.und hi hz .i64 .i64 n n h0 (Int.le_refl _) (by rw [hb];exact hn) Bm
 have hm:madeCells z.cells (n.toNat *i.size)=Array.replicate n.toNat z:=by
  apply Array.ext'
  rw [h.cells,hs,Nat.mul_one,toList_madeCells_one]
  simp
 rw [hm]at hr
 exact⟨_,_,_,_,hr,hK _ _ (made rfl rfl)⟩
theorem cJ(g:Nat)(T:TypeId):∀(vs:List Value)(o:Nat)(w:World)(cs:Array Value),Blk w g cs T→aY w g (setAt cs o vs) T (w.setCells g o vs)
 | [],o,w,cs,h=>⟨h,Kept.refl _ _,rfl⟩
 | v::r,o,w,cs,h=>by
  have h1:=h.set o v
  exact h1.trans (cJ g T r (o+1) _ _ h1.blk)
theorem rN {t e ty:TypeId} {z:Value} {bytes:Nat}(h:S1 P t e z bytes)(h1:z.oneCell'=true)(hb:Blk w g cs T) {o n c:Nat}(hn:0<n)(hs:o+n≤cs.size) {K:World→Prop}
 (hK:∀w2,aY w g (setAt cs o (List.replicate n z)) T w2→K w2):
 ∃w2,(Builtin.clear_ #[t] ty #[.slice (some (Addr.mk g o none)) n c]:Sem Value).run P w= .ok (.tuple #[]) w2∧K w2:=by
 obtain⟨i,hi,hz,_,_⟩:=h.info
 have hv:∀w,(zeroValue e).run P w= .ok z w:=fun w=>by simp [zeroValue,typeInfo,hi,hz]
 have xD:∀j,j<n→(w.cell? ⟨g,o+j,none⟩).isSome=true:=fun j hj=>by
  have:cs[o+j]? =some (cs[o+j]'(by omega)):=Array.getElem?_eq_getElem (by omega)
  rw [hb.cell this];rfl
 have hf:∀j,j<n→w.frozen? ⟨g,o+j,none⟩=false:=fun j hj=>by
  unfold Blk at hb
  simp [World.frozen?,hb]
 exact⟨_,Go.Lib.run_clear_slice w t e ty z h.und hv h.cells h1 g o n c hn xD hf,hK _ (cJ g T _ o w cs hb)⟩
theorem kP {dT sT ty e:TypeId} {k:IntKind} {bytes:Nat}(h:S1 P dT e (.int k 0) bytes)(hb:Blk w g cs T) {o dn dc:Nat} {A:Option Addr} {n c:Nat} {l:List Int}(hl:bH w Z k A n c l)(hs:o+min n dn≤cs.size) {K:World→Prop}
 (hK:∀w2,aY w g (setAt cs o ((l.take (min n dn)).map (Value.int k))) T w2→K w2):
 ∃(x:Int)(w2:World),(Builtin.copy_ #[dT,sT] ty #[.slice (some (Addr.mk g o none)) dn dc,.slice A n c]:Sem Value).run P w= .ok (.int .i64 x) w2∧K w2:=by
 obtain⟨i,hi,_,xS,_⟩:=h.info
 have B9:(P.info? e).map (·.size)=some 1:=by rw [hi];simp [xS]
 have hlen:=hl.len
 cases A with
 | none=>
  have hn:n=0:=by
   cases l with
   | nil=>simpa using hlen.symm
   | cons x r=>obtain⟨p,hp,_⟩:=hl.cell 0 x rfl;cases hp
  subst hn
  refine⟨0,w,?_,hK w ?_⟩
  ·simp [Builtin.copy_,run_underlying h.und,Builtin.lenOf,Builtin.firstCells,sizeOf,typeInfo,hi,storeCells,goInt]
  ·simpa [setAt]using (⟨hb,Kept.refl _ _,rfl⟩:aY w g cs T w)
 | some a=>
  have hm:((l.take (min n dn)).map (Value.int k)).length=Nat.min n dn:=by
   rw [List.length_map,List.length_take,hlen]
   show min (min n dn) n=min n dn
   omega
  have hr:=run_copy_cells (P:=P) w dT sT ty e g o dn dc a n c ((l.take (min n dn)).map (Value.int k)) h.und B9 hm
   (by
    intro j u hu
    rw [List.getElem?_map,List.getElem?_take]at hu
    split at hu
    ·cases hj:l[j]? with
     | none=>rw [hj]at hu;cases hu
     | some x=>
      rw [hj]at hu
      injection hu with hu
      subst hu
      obtain⟨p,hp,_,hc⟩:=hl.cell j x hj
      injection hp with hp
      subst hp
      exact hc
    ·cases hu)
   (by
    intro j hj
    rw [hm]at hj
    have hj':j<min n dn:=hj
    have:cs[o+j]? =some (cs[o+j]'(by omega)):=Array.getElem?_eq_getElem (by omega)
    rw [hb.cell this];rfl)
   (by
    intro j hj
    unfold Blk at hb
    simp [World.frozen?,hb])
   (by
    intro u hu
    obtain⟨x,_,rfl⟩:=List.mem_map.1 hu
    rfl)
  exact⟨_,_,hr,hK _ (cJ g T _ o w cs hb)⟩
def cB(w:World)(Z:Nat→Prop)(e:TypeId)(size:Nat)(A:Option Addr)(n c:Nat)(xs:List Value):Prop:=
 w.ownsRow 0 e size (.slice A n c) n xs∧∀a,A=some a→Z a.block
section
variable {e:TypeId} {size:Nat} {A:Option Addr} {n c:Nat} {xs:List Value}
theorem cB.nil:cB w Z e size none 0 0 []:=⟨⟨by simp,.inl ⟨rfl,rfl⟩⟩,by simp⟩
theorem cB.len(h:cB w Z e size A n c xs):xs.length=n*size:=h.1.1
theorem cB.mono(h:cB w Z e size A n c xs)(hz:∀k,Z k→Y k):cB w Y e size A n c xs:=⟨h.1,fun a ha=>hz _ (h.2 a ha)⟩
theorem cB.kept {B:Nat→Prop}(h:cB w Z e size A n c xs)(hk:Kept B w w')(hb:∀k,Z k→B k):cB w' Z e size A n c xs:=by
 refine⟨⟨h.1.1,?_⟩,h.2⟩
 rcases h.1.2 with hv | ⟨g,cap,cur,hv,hg,AY,rest⟩
 ·exact .inl hv
 ·have hA:A=some ⟨g,0,none⟩:=by injection hv
  exact .inr ⟨g,cap,cur,hv,hg,by rw [hk.block g (hb _ (h.2 _ hA))];exact AY,rest⟩
theorem cB.ch(h:cB w Z e size A n c xs)(hk:Ch X w w')(hb:∀k,Z k→¬X k):cB w' Z e size A n c xs:=by
 refine⟨⟨h.1.1,?_⟩,h.2⟩
 rcases h.1.2 with hv | ⟨g,cap,cur,hv,hg,AY,rest⟩
 ·exact .inl hv
 ·have hA:A=some ⟨g,0,none⟩:=by injection hv
  exact .inr ⟨g,cap,cur,hv,hg,by rw [hk.kept.block g ⟨(Array.getElem?_eq_some_iff.1 AY).1,hb _ (h.2 _ hA)⟩];exact AY,rest⟩
theorem cB.pu(h:cB w Z e size A n c xs)(hk:Pu w w'):cB w' Z e size A n c xs:=h.ch hk (by simp)
theorem cB.uT(h:cB w Z e size A n c xs):n≤c:=by
 rcases h.1.2 with⟨hv,hn⟩ | ⟨g,cap,cur,hv,_,_,GW,_⟩
 ·omega
 ·injection hv with _ _ hc;omega
theorem cB.cell(h:cB w Z e size A n c xs) {j:Nat}(hj:xs[j]? =some v):∃g,A=some (Addr.mk g 0 none)∧Z g∧w.cell? ((Addr.mk g 0 none).add j)=some v:=by
 have hl:=h.1.1
 rcases h.1.2 with⟨hv,hn⟩ | ⟨g,cap,cur,hv,hg,AY,GW,Og,zg,yM⟩
 ·have:xs= []:=List.eq_nil_of_length_eq_zero (by rw [hl,hn,Nat.zero_mul])
  subst this
  simp at hj
 ·injection hv with hA _ _
  refine⟨g,hA,h.2 _ hA,?_⟩
  rw [← yM,List.getElem?_take]at hj
  split at hj
  ·exact Blk.at (show Blk w g cur e from AY) (by simpa using hj)
  ·cases hj
theorem cB.blk(h:cB w Z e size A n c xs)(hn:0<n):∃g cur,A=some (Addr.mk g 0 none)∧Z g∧Blk w g cur e∧n*size≤cur.size∧cur.toList.take (n*size)=xs:=by
 rcases h.1.2 with⟨_,BU⟩ | ⟨g,cap,cur,hv,hg,AY,GW,Og,zg,yM⟩
 ·omega
 ·injection hv with hA _ _
  exact⟨g,cur,hA,h.2 _ hA,AY,by rw [zg];exact Nat.mul_le_mul_right _ GW,yM⟩
theorem nG {t ty:TypeId} {z:Value} {bytes:Nat}(hT:SN P t e z size bytes)(h:cB w Z e size A n c xs) {a:Addr} {m d:Nat} {news:List Value}(hl:news.length=m*size)
 (Mc:∀j u,news[j]? =some u→w.cell? (a.add j)=some u)(h1:∀u∈news,u.oneCell'=true)(Bm:n+m≤9223372036854775807)(Cb:(n+m)*bytes≤140737488355328) {K:Option Addr→Nat→Nat→World→Prop}
 (hK:∀A' c' w2,cB w2 (fun k=>Z k∨k=w.heap.size) e size A' (n+m) c' (xs++news)→Ch (fun k=>∃b,A=some b∧b.block=k) w w2→K A' (n+m) c' w2):
 ∃(A':Option Addr)(n' c':Nat)(w2:World),(Builtin.append_ #[t,t] ty #[.slice A n c,.slice (some a) m d]:Sem Value).run P w= .ok (.slice A' n' c') w2∧K A' n' c' w2:=by
 obtain⟨i,hi,hz,xS,hb⟩:=hT.info
 obtain⟨v',w2,hr,AX,hg,_,Oh⟩:=run_append_own_at (P:=P) w 0 t ty e i z size bytes hT.und hi hz xS hb hT.cells hT.pos (.slice A n c) n xs h.1 a m d news hl Mc h1 (by simp only [maxLen];omega) Cb (Nat.zero_le _)
 have hch:Ch (fun k=>∃b,A=some b∧b.block=k) w w2:=by
  refine⟨⟨hg.os,hg.tape,hg.output,hg.size,fun k hk=>hg.block k hk.1 fun e=>hk.2 ?_⟩⟩
  cases A with
  | none=>cases e
  | some b=>exact⟨b,rfl,by simpa [Value.ownBlock]using e.symm⟩
 have ND:∀A':Option Addr,(Value.slice A' (n+m) 0).ownBlock=(Value.slice A n c).ownBlock∨(Value.slice A' (n+m) 0).ownBlock=some w.heap.size→∀b,A'=some b→Z b.block∨b.block=w.heap.size:=by
  rintro A' (hh | hh) b rfl
  ·cases A with
   | none=>simp [Value.ownBlock]at hh
   | some b'=>simp [Value.ownBlock]at hh;rw [hh];exact .inl (h.2 b' rfl)
  ·simp [Value.ownBlock]at hh;exact .inr hh
 rcases AX.2 with⟨hv,hn0⟩ | ⟨g,cap,cur,hv,rest⟩
 ·subst hv
  refine⟨none,0,0,w2,hr,?_⟩
  have:=hK none 0 w2 ⟨by rw [hn0]at AX ⊢;exact AX,by simp⟩ hch
  rwa [hn0]at this
 ·subst hv
  exact⟨_,_,_,w2,hr,hK _ _ _ ⟨AX,ND _ (by simpa [Value.ownBlock]using Oh)⟩ hch⟩
end
end
section
variable {P:Program} {w w0 w1 w2 w3 w':World} {g g':Nat} {cs cs':Array Value} {T T':TypeId} {X Y Z:Nat→Prop} {v:Value}
class Enc (α:Type) where
 enc:α→List Value
 size:Nat
 len:∀x,(enc x).length=size
 one:∀x,∀u∈enc x,u.oneCell'=true
 pos:0<size
open Enc (enc)
structure I64 where
 v:Int
structure U32 where
 v:Int
structure U8 where
 v:Int
structure Bl where
 v:Bool
instance:Enc I64:=⟨fun x=>[.int .i64 x.v],1,fun _=>rfl,by simp [Value.oneCell'],by omega⟩
instance:Enc U32:=⟨fun x=>[.int .u32 x.v],1,fun _=>rfl,by simp [Value.oneCell'],by omega⟩
instance:Enc U8:=⟨fun x=>[.int .u8 x.v],1,fun _=>rfl,by simp [Value.oneCell'],by omega⟩
instance:Enc Bl:=⟨fun x=>[.bool x.v],1,fun _=>rfl,by simp [Value.oneCell'],by omega⟩
section
variable {α:Type} [Enc α]
structure Rd(w:World)(Z:Nat→Prop)(A:Option Addr)(n c:Nat)(l:List α):Prop where
 len:l.length=n
 cap:n≤c
 lt:∀k,Z k→k<w.heap.size
 cell:∀(i:Nat)(x:α),l[i]? =some x→∃p,A=some p∧Z p.block∧∀j,j<Enc.size α→w.cell? ((p.add (i*Enc.size α)).add j)=(enc x)[j]?
variable {A:Option Addr} {n c:Nat} {l:List α}
theorem br(x:α):(enc x).length=Enc.size α:=Enc.len x
theorem Rd.nil:Rd w (fun _=>False) none 0 c ([]:List α):=⟨rfl,Nat.zero_le _,by simp,by simp⟩
theorem Rd.ch(h:Rd w Z A n c l)(hk:Ch X w w')(hb:∀k,Z k→¬X k):Rd w' Z A n c l:=by
 refine⟨h.len,h.cap,fun k MW=>Nat.lt_of_lt_of_le (h.lt k MW) hk.size,fun i x hx=>?_⟩
 obtain⟨p,hA,hZ,hc⟩:=h.cell i x hx
 refine⟨p,hA,hZ,fun j hj=>?_⟩
 rw [← hc j hj]
 have:j<(enc x).length:=by rw [br];exact hj
 have hv:=(hc j hj).trans (List.getElem?_eq_getElem this)
 exact hk.kept.cell ⟨World.block_lt_of_cell? w _ hv,by rw [block_add,block_add];exact hb _ hZ⟩
theorem Rd.pu(h:Rd w Z A n c l)(hk:Pu w w'):Rd w' Z A n c l:=h.ch hk (by simp)
theorem Rd.mono(h:Rd w Z A n c l)(hz:∀k,Z k→Y k)(hl:∀k,Y k→k<w.heap.size):Rd w Y A n c l:=
 ⟨h.len,h.cap,hl,fun i x hx=>by obtain⟨p,hA,hZ,hc⟩:=h.cell i x hx;exact⟨p,hA,hz _ hZ,hc⟩⟩
theorem Rd.ld(h:Rd w Z A n c l) {i:Int}(h0:0≤i)(h1:i<(n:Int)):∃p x,A=some p∧l[i.toNat]? =some x∧Z p.block∧∀j,j<Enc.size α→w.cell? ((p.add (i.toNat *Enc.size α)).add j)=(enc x)[j]? :=by
 have hl:=h.len
 have hi:i.toNat<l.length:=by omega
 obtain⟨p,hA,hZ,hc⟩:=h.cell i.toNat _ (List.getElem?_eq_getElem hi)
 exact⟨p,_,hA,List.getElem?_eq_getElem hi,hZ,hc⟩
theorem Rd.u32 {l:List U32}(h:Rd w Z A n c l)(h0:0<n):∃p,A=some p∧Z p.block∧∀i,i<n→w.cell? (p.add i)=some (.int .u32 (l.getD i ⟨0⟩).v):=by
 have hl:=h.len
 obtain⟨p,hA,hZ,_⟩:=h.cell 0 _ (List.getElem?_eq_getElem (by omega))
 refine⟨p,hA,hZ,fun i hi=>?_⟩
 obtain⟨q,yz,_,hc⟩:=h.cell i _ (List.getElem?_eq_getElem (by omega))
 rw [hA]at yz
 injection yz with yz
 subst yz
 have:=hc 0 (by decide)
 rw [add_add,Nat.add_zero,show i*Enc.size U32=i from Nat.mul_one i]at this
 rw [this,List.getD_eq_getElem?_getD,List.getElem?_eq_getElem (show i<l.length by omega)]
 rfl
structure Own(w:World)(Z:Nat→Prop)(e:TypeId)(A:Option Addr)(n c:Nat)(l:List α):Prop where
 own:cB w Z e (Enc.size α) A n c (l.flatMap enc)
 len:l.length=n
theorem bW(l:List α):(l.flatMap enc).length=l.length*Enc.size α:=by
 induction l with
 | nil=>simp
 | cons x r ih=>simp [ih,br,Nat.add_mul,Nat.add_comm]
theorem flat_get:∀(l:List α)(i j:Nat)(x:α),l[i]? =some x→j<Enc.size α→(l.flatMap enc)[i*Enc.size α+j]? =(enc x)[j]?
 | [],i,j,x,h,hj=>by simp at h
 | y::r,0,j,x,h,hj=>by
  simp at h
  subst h
  simp only [List.flatMap_cons,Nat.zero_mul,Nat.zero_add]
  rw [List.getElem?_append_left (by rw [br];exact hj)]
 | y::r,i+1,j,x,h,hj=>by
  simp only [List.getElem?_cons_succ]at h
  have ih:=flat_get r i j x h hj
  rw [← ih,List.flatMap_cons,List.getElem?_append_right (by rw [br,Nat.add_mul,Nat.one_mul];omega),br]
  congr 1
  rw [Nat.add_mul,Nat.one_mul]
  omega
variable {e:TypeId}
theorem Own.nil:Own w Z e none 0 0 ([]:List α):=⟨cB.nil,rfl⟩
theorem Own.mono(h:Own w Z e A n c l)(hz:∀k,Z k→Y k):Own w Y e A n c l:=⟨h.own.mono hz,h.len⟩
theorem Own.ch(h:Own w Z e A n c l)(hk:Ch X w w')(hb:∀k,Z k→¬X k):Own w' Z e A n c l:=⟨h.own.ch hk hb,h.len⟩
theorem Own.pu(h:Own w Z e A n c l)(hk:Pu w w'):Own w' Z e A n c l:=h.ch hk (by simp)
theorem Own.rd(h:Own w Z e A n c l):Rd w (fun k=>Z k∧k<w.heap.size) A n c l:=by
 refine⟨h.len,h.own.uT,fun k hk=>hk.2,fun i x hx=>?_⟩
 have hi:i<l.length:=(List.getElem?_eq_some_iff.1 hx).1
 have hn:0<n:=by have:=h.len;omega
 obtain⟨g,cur,hA,hZ,hb,_,ht⟩:=h.own.blk hn
 refine⟨_,hA,⟨hZ,hb.lt⟩,fun j hj=>?_⟩
 have h1:=flat_get l i j x hx hj
 rw [← h1,add_add,← ht,List.getElem?_take]
 have h2:i*Enc.size α+j<n*Enc.size α:=by
  have h3:(i+1)*Enc.size α≤n*Enc.size α:=Nat.mul_le_mul_right _ (by have:=h.len;omega)
  rw [Nat.add_mul,Nat.one_mul]at h3;omega
 rw [if_pos h2,bB,Nat.zero_add]
 have h4:i*Enc.size α+j<cur.size:=by omega
 rw [hb.cell (i:=i*Enc.size α+j) (v:=cur[i*Enc.size α+j]) (Array.getElem?_eq_getElem h4)]
 simp [h4]
theorem Own.lt(h:Own w Z e A n c l)(hn:0<n):∃g,A=some (Addr.mk g 0 none)∧Z g∧g<w.heap.size:=by
 obtain⟨g,cur,hA,hZ,hb,_⟩:=h.own.blk hn
 exact⟨g,hA,hZ,hb.lt⟩
theorem Own.app {t ty:TypeId} {z:Value} {bytes:Nat}(h:Own w Z e A n c l)(hT:SN P t e z (Enc.size α) bytes) {g:Nat} {news:Array Value} {x:α}(hb:Blk w g news e)(hx:news.toList=enc x)(Bm:n+1≤9223372036854775807)(Cb:(n+1)*bytes≤140737488355328)(hz:Z w.heap.size)
 {K:Option Addr→Nat→Nat→World→Prop}(hK:∀A' c' w2,Own w2 Z e A' (n+1) c' (l++ [x])→Ch Z w w2→K A' (n+1) c' w2):
 ∃(A':Option Addr)(n' c':Nat)(w2:World),(Builtin.append_ #[t,t] ty #[.slice A n c,.slice (some (Addr.mk g 0 none)) 1 1]:Sem Value).run P w= .ok (.slice A' n' c') w2∧K A' n' c' w2:=by
 refine nG hT h.own (news:=enc x) (by rw [br,Nat.one_mul]) (fun j u hu=>hb.at (by rw [← hx]at hu;simpa using hu)) (Enc.one x) Bm Cb fun A' c' w2 ho hc=>?_
 refine hK A' c' w2 ⟨?_,by simp [h.len]⟩ (hc.mono ?_)
 ·rw [List.flatMap_append,List.flatMap_cons,List.flatMap_nil,List.append_nil]
  exact ho.mono fun k hk=>hk.elim id fun e=>e▸hz
 ·rintro k ⟨b,hA,rfl⟩
  exact h.own.2 b hA
theorem Own.apps {t ty:TypeId} {z:Value} {bytes:Nat}(h:Own w Z e A n c l)(hT:SN P t e z (Enc.size α) bytes) {B:Option Addr} {m d:Nat} {l2:List α}(h2:Rd w Y B m d l2)(Bm:n+m≤9223372036854775807)(Cb:(n+m)*bytes≤140737488355328)(hz:Z w.heap.size)
 {K:Option Addr→Nat→Nat→World→Prop}(hK:∀A' c' w2,Own w2 Z e A' (n+m) c' (l++l2)→Ch Z w w2→K A' (n+m) c' w2)
 (Gp:m=0→B=none→∃(A':Option Addr)(n' c':Nat)(w2:World),(Builtin.append_ #[t,t] ty #[.slice A n c,.slice none 0 d]:Sem Value).run P w= .ok (.slice A' n' c') w2∧K A' n' c' w2):
 ∃(A':Option Addr)(n' c':Nat)(w2:World),(Builtin.append_ #[t,t] ty #[.slice A n c,.slice B m d]:Sem Value).run P w= .ok (.slice A' n' c') w2∧K A' n' c' w2:=by
 cases B with
 | none=>
  have hm:m=0:=by
   cases hl:l2 with
   | nil=>have:=h2.len;rw [hl]at this;simpa using this.symm
   | cons x r=>obtain⟨p,hp,_⟩:=h2.cell 0 x (by rw [hl];rfl);cases hp
  subst hm
  exact Gp rfl rfl
 | some a=>
  refine nG hT h.own (news:=l2.flatMap enc) (by rw [bW,h2.len]) (fun j u hu=>?_) (fun u hu=>?_) Bm Cb fun A' c' w2 ho hc=>?_
  ·have hp:0<Enc.size α:=Enc.pos
   have hj:j<(l2.flatMap enc).length:=(List.getElem?_eq_some_iff.1 hu).1
   rw [bW]at hj
   have hq:j / Enc.size α<l2.length:=(Nat.div_lt_iff_lt_mul hp).2 hj
   have hr:j % Enc.size α<Enc.size α:=Nat.mod_lt _ hp
   obtain⟨p,hA,_,xD⟩:=h2.cell (j / Enc.size α) _ (List.getElem?_eq_getElem hq)
   injection hA with hA
   subst hA
   have h3:=xD (j % Enc.size α) hr
   have h4:=flat_get l2 (j / Enc.size α) (j % Enc.size α) _ (List.getElem?_eq_getElem hq) hr
   have h5:j / Enc.size α*Enc.size α+j % Enc.size α=j:=by rw [Nat.mul_comm];exact Nat.div_add_mod j (Enc.size α)
   rw [h5]at h4
   rw [add_add,h5]at h3
   rw [h3,← h4,hu]
  ·obtain⟨x,_,hx⟩:=List.mem_flatMap.1 hu
   exact Enc.one x u hx
  ·refine hK A' c' w2 ⟨?_,by simp [h.len,h2.len]⟩ (hc.mono ?_)
   ·rw [List.flatMap_append]
    exact ho.mono fun k hk=>hk.elim id fun e=>e▸hz
   ·rintro k ⟨b,hA,rfl⟩
    exact h.own.2 b hA
theorem l0 {t e:TypeId} {z:Value} {bytes:Nat}(h:S1 P t e z bytes)(x:α)(hx:enc x= [z]) {n:Int}(h0:0≤n)(hn:(bytes:Int)*n≤281474976710656)(Bm:n≤9223372036854775807) {K:Option Addr→Nat→Nat→World→Prop}
 (hK:∀g w2,Made w g (Array.replicate n.toNat z) e w2→Own w2 (fun k=>k=g) e (some (Addr.mk g 0 none)) n.toNat n.toNat (List.replicate n.toNat x)→K (some (Addr.mk g 0 none)) n.toNat n.toNat w2):
 ∃(A:Option Addr)(N C:Nat)(w2:World),(Instr.makeSlice t (.int .i64 n) (.int .i64 n):Sem Value).run P w= .ok (.slice A N C) w2∧K A N C w2:=by
 have hs:Enc.size α=1:=by rw [← br x,hx];rfl
 have hf:(List.replicate n.toNat x).flatMap enc=List.replicate n.toNat z:=by
  generalize n.toNat=k
  induction k with
  | zero=>rfl
  | succ k ih=>rw [List.replicate_succ,List.flatMap_cons,ih,hx];rfl
 refine gR h h0 hn Bm fun g w2 hM=>hK g w2 hM ⟨⟨⟨by rw [hf,hs];simp,.inr ⟨g,n.toNat,Array.replicate n.toNat z,rfl,Nat.zero_le _,hM.blk,Nat.le_refl _,by simp only [maxLen];omega,by rw [hs];simp,by rw [hs,hf];simp⟩⟩,?_⟩,by simp⟩
 intro a ha
 injection ha with ha
 rw [← ha]
theorem l8:∀(l:List α)(i:Nat)(x:α),i<l.length→(l.set i x).flatMap enc=((l.flatMap enc).take (i*Enc.size α))++enc x++((l.flatMap enc).drop ((i+1)*Enc.size α))
 | [],i,x,h=>by simp at h
 | y::r,0,x,h=>by
  simp only [List.set_cons_zero,List.flatMap_cons,Nat.zero_mul,List.take_zero,List.nil_append,Nat.zero_add,Nat.one_mul]
  rw [List.drop_append_of_le_length (by rw [br];omega),List.drop_of_length_le (by rw [br];omega),List.nil_append]
 | y::r,i+1,x,h=>by
  have ih:=l8 r i x (by simpa using h)
  simp only [List.set_cons_succ,List.flatMap_cons]
  rw [ih]
  have e1:(i+1)*Enc.size α=Enc.size α+i*Enc.size α:=by rw [Nat.add_mul,Nat.one_mul,Nat.add_comm]
  have e2:(i+1+1)*Enc.size α=Enc.size α+(i+1)*Enc.size α:=by rw [Nat.add_mul (i+1),Nat.one_mul,Nat.add_comm]
  rw [e1,e2,← br y,List.take_length_add_append,List.drop_length_add_append]
  simp [br,List.append_assoc,Nat.add_mul,Nat.add_comm]
theorem Own.st(h:Own w Z e A n c l) {p:Addr}(hA:A=some p) {i:Nat}(hi:i<n) {x y:α}(hx:l[i]? =some x) {o:Nat} {vs:List Value}(ho:o+vs.length≤Enc.size α)(hy:enc y=(enc x).take o++vs++(enc x).drop (o+vs.length)) {K:World→Prop}
 (hK:∀w2,Own w2 Z e A n c (l.set i y)→Ch Z w w2→K w2):aD w ((p.add (i*Enc.size α)).add o) vs K:=by
 have hn:0<n:=by omega
 have hl:=h.len
 rcases h.own.1.2 with⟨_,BU⟩ | ⟨g,cap,cur,hv,hg,AY,GW,Og,zg,yM⟩
 ·omega
 injection hv with yz _ BW
 have hp:p=Addr.mk g 0 none:=by rw [yz]at hA;injection hA with hA;exact hA.symm
 subst hp
 have hZ:=h.own.2 _ hA
 have hb:Blk w g cur e:=AY
 have xS:n*Enc.size α≤cur.size:=by rw [zg];exact Nat.mul_le_mul_right _ GW
 have h3:(i+1)*Enc.size α≤n*Enc.size α:=Nat.mul_le_mul_right _ (by omega)
 have h3':(i+1)*Enc.size α=i*Enc.size α+Enc.size α:=by rw [Nat.add_mul,Nat.one_mul]
 rw [add_add,bB,Nat.zero_add]
 refine hE hb (by omega) fun w2 hs=>hK w2 ⟨⟨⟨by rw [bW];simp [hl],.inr ⟨g,cap,setAt cur (i*Enc.size α+o) vs,by rw [yz,BW],Nat.zero_le _,hs.blk,GW,Og,by rw [dE];exact zg,?_⟩⟩,h.own.2⟩,by simp [hl]⟩ (hs.ch.mono fun k hk=>hk▸hZ)
 apply List.ext_getElem?
 intro k
 rw [l8 l i y (by omega)]
 have hfl:(l.flatMap enc).length=n*Enc.size α:=by rw [bW,hl]
 have hex:(enc x).length=Enc.size α:=br x
 have hey:(enc y).length=Enc.size α:=br y
 rw [List.getElem?_take]
 have EH:∀q,q<n*Enc.size α→(l.flatMap enc)[q]? =cur[q]? :=fun q hq=>by
  rw [← yM,List.getElem?_take,if_pos hq];simp
 have hsa:(setAt cur (i*Enc.size α+o) vs).toList[k]? =if i*Enc.size α+o≤k∧k<i*Enc.size α+o+vs.length then vs[k - (i*Enc.size α+o)]? else cur[k]? :=by
  have:=cT vs cur (i*Enc.size α+o) k (by omega)
  simpa using this
 rw [hsa]
 have hix:∀q,q<Enc.size α→cur[i*Enc.size α+q]? =(enc x)[q]? :=fun q hq=>by
  rw [← EH _ (by omega)];exact flat_get l i q x hx hq
 by_cases hk:k<n*Enc.size α
 ·rw [if_pos hk]
  by_cases Mj:k<i*Enc.size α
  ·rw [if_neg (by omega),List.append_assoc,List.getElem?_append_left (by rw [List.length_take];omega),List.getElem?_take,if_pos Mj,EH k hk]
  ·obtain⟨q,rfl⟩:∃q,k=i*Enc.size α+q:=⟨k - i*Enc.size α,by omega⟩
   have ht:((l.flatMap enc).take (i*Enc.size α)).length=i*Enc.size α:=by rw [List.length_take];omega
   rw [List.append_assoc,List.getElem?_append_right (by omega),ht,show i*Enc.size α+q - i*Enc.size α=q by omega]
   by_cases hq:q<Enc.size α
   ·rw [List.getElem?_append_left (by omega),hy]
    by_cases h5:o≤q∧q<o+vs.length
    ·rw [if_pos (by omega),List.append_assoc,List.getElem?_append_right (by rw [List.length_take];omega),List.length_take,hex,show min o (Enc.size α)=o by omega,List.getElem?_append_left (by omega)]
     congr 1;omega
    ·rw [if_neg (by omega),hix q hq]
     by_cases h6:q<o
     ·rw [List.append_assoc,List.getElem?_append_left (by rw [List.length_take];omega),List.getElem?_take,if_pos h6]
     ·rw [List.getElem?_append_right (by simp [List.length_take];omega),List.getElem?_drop]
      congr 1
      simp [List.length_take]
      omega
   ·rw [if_neg (by omega),List.getElem?_append_right (by omega),List.getElem?_drop,EH _ (by omega)]
    congr 1;omega
 ·rw [if_neg hk]
  symm
  apply List.getElem?_eq_none
  simp only [List.length_append,List.length_take,List.length_drop,hfl,hey]
  omega
theorem Own.st0(h:Own w Z e A n c l) {p:Addr}(hA:A=some p) {i:Nat}(hi:i<n) {x y:α}(hx:l[i]? =some x) {vs:List Value}(hy:enc y=vs) {K:World→Prop}
 (hK:∀w2,Own w2 Z e A n c (l.set i y)→Ch Z w w2→K w2):aD w (p.add (i*Enc.size α)) vs K:=by
 have:=Own.st h hA hi hx (o:=0) (vs:=vs) (y:=y) (by rw [← hy,br];omega) (by rw [← hy];simp [br]) hK
 rwa [add_add,Nat.add_zero]at this
end
end
section
variable {P:Program} {w w0 w1 w2 w3 w':World} {g g':Nat} {T T':TypeId} {X Y Z:Nat→Prop} {l l':List Int}
theorem pz {vs:List Value} {cs:Array Value}(h:vs.length=cs.size):setAt cs 0 vs=vs.toArray:=by
 apply Array.ext_getElem?
 intro i
 rw [cT _ _ _ _ (by omega)]
 by_cases hi:i<vs.length
 ·rw [if_pos (by omega)];simp
 ·rw [if_neg (by omega),Array.getElem?_eq_none (by omega),Array.getElem?_eq_none (by simp;omega)]
theorem aJ {K:World→Prop} {vs:List Value} {cs:Array Value}(hb:Blk w g cs T)(hi:vs.length=cs.size)(h:∀w2,aY w g vs.toArray T w2→K w2):aD w (Addr.mk g 0 none) vs K:=
 aR hb (by omega) fun w2 s=>h w2 (by rw [← pz hi];exact s)
theorem vR {a0 a1 a2 a3 a4 a5 a6 a7 a8 a9 b0 b1 b2 b3 b4 b5 b6 b7 b8 b9:Value}(h0:a0=b0)(h1:a1=b1)(h2:a2=b2)(h3:a3=b3)(h4:a4=b4)(h5:a5=b5)(h6:a6=b6)(h7:a7=b7)(h8:a8=b8)(h9:a9=b9):(#[a0,a1,a2,a3,a4,a5,a6,a7,a8,a9]:Array Value)= #[b0,b1,b2,b3,b4,b5,b6,b7,b8,b9]:=by subst h0;subst h1;subst h2;subst h3;subst h4;subst h5;subst h6;subst h7;subst h8;subst h9;rfl
def aW(l:List Int):Array Value:=(l.map (Value.int .u32)).toArray
@[simp] theorem bt(l:List Int):(aW l).size=l.length:=by simp [aW]
theorem fe {i:Nat}(h:i<l.length):(aW l)[i]? =some (.int .u32 (l.getD i 0)):=by
 simp [aW,List.getElem?_eq_getElem h,List.getD_eq_getElem?_getD]
theorem lJ {i:Int}(h:i.toNat<l.length):(aW l)[i.toNat *1]? =some (.int .u32 (l.getD i.toNat 0)):=by
 rw [Nat.mul_one];exact fe h
theorem ie(n:Nat)(x:Int):aW (List.replicate n x)=Array.replicate n (.int .u32 x):=by simp [aW]
theorem fc:∀v∈(aW l).toList,one? v True:=by
 intro v hv
 simp only [aW,List.mem_map]at hv
 obtain⟨x,_,rfl⟩:=hv
 unfold one?;trivial
theorem Blk.ig(h:Blk w g (aW l) T) {i:Int}(hi:i.toNat<l.length):w.cell? ((Addr.mk g 0 none).add (i.toNat *1))=some (.int .u32 (l.getD i.toNat 0)):=h.at (lJ hi)
theorem Blk.qV(h:Blk w g (aW l) T) {n:Nat}(hn:l.length=n):(aW l).size=n∧∀i u,(aW l)[i]? =some u→w.cell? ((Addr.mk g 0 none).add i)=some u:=
 ⟨by rw [bt,hn],fun i u hu=>h.at hu⟩
def jk:List Int→Nat→List Int→List Int
 | l,_,[]=>l
 | l,o,v::r=>jk (l.set o v) (o+1) r
@[simp] theorem qK:∀(r l:List Int)(o:Nat),(jk l o r).length=l.length
 | [],l,o=>rfl
 | v::r,l,o=>by rw [jk,qK r];simp
theorem qL(a r b:List Int)(x:List Int)(hx:x.length=r.length):jk (a++(x++b)) a.length r=a++(r++b):=by
 induction r generalizing a x with
 | nil=>cases x with
  | nil=>rfl
  | cons=>simp at hx
 | cons v r ih=>cases x with
  | nil=>simp at hx
  | cons y x=>
   have:=ih (a++ [v]) x (by simpa using hx)
   rw [jk]
   simpa using this
theorem ic {i:Nat} {v:Int}:setAt (aW l) i [.int .u32 v]=aW (l.set i v):=by
 simp [setAt,aW,List.setIfInBounds_toArray,List.map_set]
theorem fE:∀(r l:List Int)(o:Nat),setAt (aW l) o (r.map (Value.int .u32))=aW (jk l o r)
 | [],l,o=>rfl
 | v::r,l,o=>by
  rw [List.map_cons,setAt,jk,← fE r]
  congr 1
  simp [aW,List.setIfInBounds_toArray,List.map_set]
theorem ni {K:World→Prop} {i:Int} {v:Int}(hb:Blk w g (aW l) T)(hi:i.toNat<l.length)(h:∀w2,aY w g (aW (l.set i.toNat v)) T w2→K w2):aD w ((Addr.mk g 0 none).add (i.toNat *1)) [.int .u32 v] K:=
 aI hb (by simp;omega) fun w2 s=>h w2 (by rw [← ic];rw [Nat.mul_one]at s;exact s)
theorem qM(r l:List Int)(h:r.length=l.length):jk l 0 r=r:=by simpa using qL [] r [] l h.symm
theorem px {K:World→Prop}(hb:Blk w g (aW l) T)(hl:l'.length=l.length)(h:∀w2,aY w g (aW l') T w2→K w2):aD w (Addr.mk g 0 none) (aW l').toList K:=
 aR hb (by simp [aW,hl]) fun w2 s=>h w2 (by
  have e:(aW l').toList=l'.map (Value.int .u32):=by simp [aW]
  rw [e,fE,qM _ _ hl]at s
  exact s)
theorem rL {dT sT ty e:TypeId} {bytes:Nat}(h:S1 P dT e (.int .u32 0) bytes)(hb:Blk w g (aW l) T) {o m dn dc:Nat} {A B:Option Addr} {n c:Nat} {r:List Int}(hB:B=some (if m=o then Addr.mk g 0 none else(Addr.mk g 0 none).add (o*1)))(hm:m=o→min n dn=0)(hl:bH w Z .u32 A n c r)(hs:o+min n dn≤l.length) {K:World→Prop}
 (hK:∀w2,aY w g (aW (jk l o (r.take (min n dn)))) T w2→K w2):
 ∃(x:Int)(w2:World),(Builtin.copy_ #[dT,sT] ty #[.slice B dn dc,.slice A n c]:Sem Value).run P w= .ok (.int .i64 x) w2∧K w2:=by
 subst hB
 by_cases Gq:m=o
 ·rw [if_pos Gq]
  have h0:=hm Gq
  refine kP (K:=K) h hb (o:=0) hl (by rw [bt];omega) fun w2 s=>hK w2 ?_
  rw [h0]at s ⊢
  simpa [setAt,jk]using s
 ·rw [if_neg Gq,bB,Nat.zero_add,Nat.mul_one]
  exact kP (K:=K) h hb hl (by rw [bt];exact hs) fun w2 s=>hK w2 (by rw [← fE];exact s)
theorem bH.row(h:Blk w g (aW l) T)(hz:Z g) {o n c:Nat}(hn:n≤c)(hl:o+n≤l.length):bH w Z .u32 (some (Addr.mk g o none)) n c ((l.drop o).take n):=
 bH.blk h hz hn (by simp;omega) (by
  intro j x hj
  rw [List.getElem?_take]at hj
  split at hj
  ·rw [List.getElem?_drop]at hj
   rw [fe (by omega),List.getD_eq_getElem?_getD,hj]
   rfl
  ·cases hj)
theorem bH.pre {cs:Array Value} {A:Option Addr} {n c m o:Nat} {k:IntKind} {r:List Int}(h:Blk w g cs T)(hz:Z g)(hA:A=some (if m=0 then(Addr.mk g 0 none).add o else((Addr.mk g 0 none).add o).add (0*1)))(hn:n≤c)(hr:r.length=n)(he:((cs.toList.drop o).take n)=r.map (Value.int k)):bH w Z k A n c r:=by
 have e:A=some (Addr.mk g o none):=by
  rw [hA]
  split<;>simp [bB]
 subst e
 refine bH.blk h hz hn hr fun j x hj=>?_
 have h1:((cs.toList.drop o).take n)[j]? =some (Value.int k x):=by rw [he,List.getElem?_map,hj];rfl
 rw [List.getElem?_take]at h1
 split at h1
 ·rw [List.getElem?_drop]at h1;simpa using h1
 ·cases h1
theorem bH.wi {A:Option Addr} {n c m o:Nat}(h:Blk w g (aW l) T)(hz:Z g)(hA:A=some (if m=o then Addr.mk g 0 none else(Addr.mk g 0 none).add (o*1)))(hm:m=o→n=0)(hn:n≤c)(hl:o+n≤l.length):bH w Z .u32 A n c ((l.drop o).take n):=by
 subst hA
 by_cases Gq:m=o
 ·have:=hm Gq
  subst this
  rw [if_pos Gq,List.take_zero]
  exact⟨rfl,Nat.zero_le _,by simp⟩
 ·rw [if_neg Gq,bB,Nat.zero_add,Nat.mul_one]
  exact bH.row h hz hn hl
structure cR(w:World)(g:Nat)(l:List Int):Prop where
 len:l.length=64
 blk:∃T,Blk w g (aW l) T
theorem cR.lt(h:cR w g l):∀k,k=g→k<w.heap.size:=fun k e=>e▸h.blk.elim fun _ b=>b.lt
theorem cR.ch(h:cR w g l)(hk:Ch X w w')(hx:∀k,k=g→¬X k):cR w' g l:=⟨h.len,h.blk.imp fun _ b=>hk.blk b (hx g rfl)⟩
theorem cR.pu(h:cR w g l)(hk:Pu w w'):cR w' g l:=h.ch hk (by simp)
end
end Go.Proofs.YtkbcgjfejboigaaDoor.V
namespace Go.Proofs.YtkbcgjfejboigaaDoor.V
open Go Go.RowKit
open Go.IntKind (i64 u32 u64)
open Enc (enc)
section
variable {P:Program} {w w0 w1 w2 w3 w':World} {g g':Nat} {T T':TypeId} {X Y Z:Nat→Prop}
theorem Ch.fresh(h:Ch (fun k=>w.heap.size≤k) w w2):Pu w w2:=
 ⟨h.kept.mono fun k hk=>⟨hk.1,fun h=>absurd hk.1 (Nat.not_lt.2 h)⟩⟩
section
variable {α:Type} [Enc α] {A:Option Addr} {n c:Nat} {l:List α}
theorem Rd.flat(h:Rd w Z A n c l) {p:Addr}(hA:A=some p)(j:Nat)(u:Value)(hu:(l.flatMap enc)[j]? =some u):w.cell? (p.add j)=some u:=by
 have hp:0<Enc.size α:=Enc.pos
 have hj:j<(l.flatMap enc).length:=(List.getElem?_eq_some_iff.1 hu).1
 rw [bW]at hj
 have hq:j / Enc.size α<l.length:=(Nat.div_lt_iff_lt_mul hp).2 hj
 have hr:j % Enc.size α<Enc.size α:=Nat.mod_lt _ hp
 obtain⟨p',yz,_,xD⟩:=h.cell (j / Enc.size α) _ (List.getElem?_eq_getElem hq)
 rw [hA]at yz
 injection yz with yz
 subst yz
 have h3:=xD (j % Enc.size α) hr
 have h4:=flat_get l (j / Enc.size α) (j % Enc.size α) _ (List.getElem?_eq_getElem hq) hr
 have h5:j / Enc.size α*Enc.size α+j % Enc.size α=j:=by rw [Nat.mul_comm];exact Nat.div_add_mod j (Enc.size α)
 rw [h5]at h4
 rw [add_add,h5]at h3
 rw [h3,← h4,hu]
theorem rG(u:Value)(hu:u∈l.flatMap enc):u.oneCell'=true:=by
 obtain⟨x,_,hx⟩:=List.mem_flatMap.1 hu
 exact Enc.one x u hx
theorem Rd.uG(h:Rd w Z none n c l):l= []∧n=0:=by
 cases l with
 | nil=>exact⟨rfl,by simpa using h.len.symm⟩
 | cons x r=>obtain⟨p,hp,_⟩:=h.cell 0 x rfl;cases hp
theorem Rd.cut {lo hi m:Nat} {A':Option Addr} {n' c':Nat}(h:Rd w Z A n c l)(hA:A'=(if m=lo then A else A.map (·.add (lo*Enc.size α))))(hn:n'=hi - lo)(hc:c'=m - lo)(h1:lo≤hi)(h2:hi≤n)(h3:hi≤m):
 Rd w Z A' n' c' ((l.drop lo).take (hi - lo)):=by
 subst hn hc
 have hl:=h.len
 refine⟨by simp;omega,by omega,h.lt,fun i x hx=>?_⟩
 rw [List.getElem?_take]at hx
 split at hx
 ·rename_i zT
  rw [List.getElem?_drop]at hx
  obtain⟨p,hp,hz,xD⟩:=h.cell _ _ hx
  subst hp
  refine⟨p.add (lo*Enc.size α),?_,?_,fun j hj=>?_⟩
  ·rw [hA,if_neg (by omega)];rfl
  ·rw [block_add];exact hz
  ·rw [← xD j hj,add_add,add_add,add_add,Nat.add_mul,Nat.add_assoc]
 ·cases hx
theorem Rd.from_ {lo m:Nat} {A':Option Addr} {n' c':Nat}(h:Rd w Z A n c l)(hA:A'=(if m=lo then A else A.map (·.add (lo*Enc.size α))))(hn:n'=n - lo)(hc:c'=m - lo)(h1:lo≤n)(h3:n≤m):Rd w Z A' n' c' (l.drop lo):=by
 have:=h.cut (hi:=n) hA hn hc h1 (Nat.le_refl _) h3
 rwa [List.take_of_length_le (by rw [List.length_drop,h.len];omega)]at this
theorem Rd.all {hi m:Nat} {A':Option Addr} {n' c':Nat}(h:Rd w Z A n c l)(hA:A'=(if m=0 then A else A.map (·.add (0*Enc.size α))))(hn:n'=hi - 0)(hc:c'=m - 0)(h1:hi=n)(h2:m=n):Rd w Z A' n' c' l:=by
 subst h1
 have:=h.cut (hi:=hi) hA hn hc (Nat.zero_le _) (Nat.le_refl _) (by omega)
 rwa [List.drop_zero,List.take_of_length_le (by rw [h.len];omega)]at this
theorem Own.uB {e:TypeId}(h:Own w Z e A n c l)(hz:∀k,Z k∧k<w.heap.size→Y k)(hy:∀k,Y k→k<w.heap.size):Rd w Y A n c l:=h.rd.mono hz hy
theorem uZ {t ty e:TypeId} {z:Value} {bytes:Nat}(hT:SN P t e z (Enc.size α) bytes)(h1:Rd w Z A n c l)(hc:c=n) {B:Option Addr} {m d:Nat} {l2:List α}(h2:Rd w Y B m d l2)(Bm:n+m≤9223372036854775807)(Cb:(n+m)*bytes≤140737488355328)
 {K:Option Addr→Nat→Nat→World→Prop}(hK:∀A' c' w2,Rd w2 (fun k=>(Z k∨w.heap.size≤k)∧k<w2.heap.size) A' (n+m) c' (l++l2)→Pu w w2→K A' (n+m) c' w2):
 ∃(A':Option Addr)(n' c':Nat)(w2:World),(Builtin.append_ #[t,t] ty #[.slice A n c,.slice B m d]:Sem Value).run P w= .ok (.slice A' n' c') w2∧K A' n' c' w2:=by
 obtain⟨i,hi,hz,xS,hb⟩:=hT.info
 obtain rfl:n=c:=hc.symm
 by_cases hm:m=0
 ·subst hm
  have zo:l2= []:=List.eq_nil_of_length_eq_zero h2.len
  subst zo
  have hr:(Builtin.append_ #[t,t] ty #[.slice A n n,.slice B 0 d]:Sem Value).run P w= .ok (.slice A n n) w:=by
   refine run_append_nothing w t t ty e i hT.und hi A n n (Nat.le_refl _) _ ?_
   cases B with
   | none=>exact Src.ofNil _ hT.und d
   | some b=>exact Src.ofSlice _ hT.und b 0 d [] (by simp) (by simp) (by simp)
  exact⟨_,_,_,_,hr,hK A n w (by rw [List.append_nil];exact h1.mono (fun k hk=>⟨.inl hk,h1.lt k hk⟩) fun k hk=>hk.2) (Ch.refl _ _)⟩
 ·obtain⟨b,hB⟩:∃b,B=some b:=by
   cases B with
   | none=>exact absurd h2.uG.2 hm
   | some b=>exact⟨b,rfl⟩
  subst hB
  have hgo:∀v' w2,(Builtin.append_ #[t,t] ty #[.slice A n n,.slice (some b) m d]:Sem Value).run P w= .ok v' w2→w2.ownsRow w.heap.size e (Enc.size α) v' (n+m) ((l++l2).flatMap enc)→Pu w w2→∃(A':Option Addr)(n' c':Nat)(w2:World),(Builtin.append_ #[t,t] ty #[.slice A n n,.slice (some b) m d]:Sem Value).run P w= .ok (.slice A' n' c') w2∧K A' n' c' w2:=by
   intro v' w2 hr ho hp
   have hoo:=ho
   rcases ho.2 with⟨_,BU⟩ | ⟨g,cap,cur,hv,hg,AY,_⟩
   ·omega
   ·subst hv
    have AX:Own w2 (fun k=>w.heap.size≤k) e (some (Addr.mk g 0 none)) (n+m) cap (l++l2):=
     ⟨⟨⟨hoo.1,by rcases hoo.2 with h | ⟨g',cap',cur',FL,_,rest⟩;exact .inl h;exact .inr ⟨g',cap',cur',FL,Nat.zero_le _,rest⟩⟩,fun a ha=>by injection ha with ha;rw [← ha];exact hg⟩,by rw [List.length_append,h1.len,h2.len]⟩
    exact⟨_,_,_,_,hr,hK _ _ _ (AX.uB (Y:=fun k=>(Z k∨w.heap.size≤k)∧k<w2.heap.size) (fun k hk=>⟨.inr hk.1,hk.2⟩) fun k hk=>hk.2) hp⟩
  cases A with
  | none=>
   obtain⟨Mg,hn⟩:=h1.uG
   subst Mg hn
   refine nG hT (cB.nil (w:=w) (Z:=fun k=>w.heap.size≤k)) (a:=b) (news:=l2.flatMap enc) (by rw [bW,h2.len]) (h2.flat rfl) (fun u hu=>rG u hu) Bm Cb fun A' c' w2 ho hc=>?_
   rw [Nat.zero_add]at ho ⊢
   have AX:Own w2 (fun k=>w.heap.size≤k) e A' m c' l2:=⟨ho.mono fun k hk=>hk.elim id fun e=>by rw [e];omega,h2.len⟩
   have ED:Pu w w2:=hc.mono fun k hk=>by obtain⟨b,hb,_⟩:=hk;cases hb
   have:=hK A' c' w2
   rw [Nat.zero_add,List.nil_append]at this
   exact this (AX.uB (fun k hk=>⟨.inr hk.1,hk.2⟩) fun k hk=>hk.2) ED
  | some a=>
   obtain⟨v',w2,hr,ho,hg⟩:=run_append_arg_grows (P:=P) w t ty e i z (Enc.size α) bytes hT.und hi hz xS hb hT.cells hT.pos a n n (l.flatMap enc) (by rw [bW,h1.len]) (h1.flat rfl) b m d (l2.flatMap enc) (by rw [bW,h2.len]) (h2.flat rfl) (by omega) (by simp only [maxLen];omega) Cb
   rw [← List.flatMap_append]at ho
   exact hgo v' w2 hr ho ⟨⟨hg.os,hg.tape,hg.output,hg.size,fun k hk=>hg.block k hk.1 (by simp)⟩⟩
theorem Own.narrow {e:TypeId}(h:Own w Z e A n c l):Own w (fun k=>Z k∧k<w.heap.size) e A n c l:=by
 refine⟨⟨h.own.1,fun a ha=>⟨h.own.2 a ha,?_⟩⟩,h.len⟩
 rcases h.own.1.2 with⟨hv,_⟩ | ⟨g,cap,cur,hv,_,AY,_⟩
 ·injection hv with hA _ _;rw [hA]at ha;cases ha
 ·injection hv with hA _ _
  rw [hA]at ha;injection ha with ha
  rw [← ha]
  exact Blk.lt (show Blk w g cur e from AY)
theorem oT {t ty e:TypeId} {z:Value} {bytes:Nat}(hT:SN P t e z (Enc.size α) bytes) {B:Option Addr} {m d:Nat} {l2:List α}(h2:Rd w Y B m d l2)(Bm:m≤9223372036854775807)(Cb:m*bytes≤140737488355328)
 {K:Option Addr→Nat→Nat→World→Prop}(hK:∀A' c' w2,Own w2 (fun k=>w.heap.size≤k∧k<w2.heap.size) e A' m c' l2→Pu w w2→K A' m c' w2):
 ∃(A':Option Addr)(n' c':Nat)(w2:World),(Builtin.append_ #[t,t] ty #[.slice none 0 0,.slice B m d]:Sem Value).run P w= .ok (.slice A' n' c') w2∧K A' n' c' w2:=by
 obtain⟨i,hi,hz,xS,hb⟩:=hT.info
 refine Own.apps (Own.nil (w:=w) (Z:=fun k=>w.heap.size≤k)) hT h2 (by omega) (by rw [Nat.zero_add];exact Cb) (Nat.le_refl _) (fun A' c' w2 ho hc=>?_) (fun hm hB=>?_)
 ·rw [Nat.zero_add]at ho ⊢
  rw [List.nil_append]at ho
  exact hK A' c' w2 ho.narrow hc.fresh
 ·subst hm hB
  have zo:l2= []:=List.eq_nil_of_length_eq_zero h2.len
  subst zo
  exact⟨_,_,_,_,run_append_nothing w t t ty e i hT.und hi none 0 0 (Nat.le_refl _) _ (Src.ofNil _ hT.und d),hK none 0 w Own.nil (Ch.refl _ _)⟩
end
end
end Go.Proofs.YtkbcgjfejboigaaDoor.V
namespace Go.Proofs
open Go.Shelf
section
def Tryd.kK:Go.Shelf.Ren:=⟨fun | 171=>18 | 243=>26 | 246=>45 | 283=>57 | 284=>58 | 285=>59 | 286=>60 | 129=>70 | 317=>69 | 318=>71 | 319=>72 | 320=>73 | 337=>81 | 338=>82 | n=>n,fun | 3=>3 | 9=>9 | 2=>2 | 4=>4 | 171=>117 | 0=>0 | 53=>118 | 37=>121 | 5=>5 | 173=>122 | 212=>142 | 51=>22 | 20=>20 | 213=>143 | 46=>139 | 232=>162 | 233=>163 | n=>n,fun | 17=>0 | 18=>2 | 19=>3 | n=>n⟩
theorem Tryd.ry:Go.Proofs.LaysM.n171 Tryd.prog Tryd.kK:= {
 mixed:=by kernel_rfl
 f129:=Tryd.func70.trans (congrArg some (by kernel_rfl))
 f171:=Tryd.func18.trans (congrArg some (by kernel_rfl))
 f243:=Tryd.func26.trans (congrArg some (by kernel_rfl))
 f246:=Tryd.func45.trans (congrArg some (by kernel_rfl))
 f283:=Tryd.func57.trans (congrArg some (by kernel_rfl))
 f284:=Tryd.func58.trans (congrArg some (by kernel_rfl))
 f285:=Tryd.func59.trans (congrArg some (by kernel_rfl))
 f286:=Tryd.func60.trans (congrArg some (by kernel_rfl))
 f317:=Tryd.func69.trans (congrArg some (by kernel_rfl))
 f318:=Tryd.func71.trans (congrArg some (by kernel_rfl))
 f319:=Tryd.func72.trans (congrArg some (by kernel_rfl))
 f320:=Tryd.func73.trans (congrArg some (by kernel_rfl))
 f337:=Tryd.func81.trans (congrArg some (by kernel_rfl))
 f338:=Tryd.func82.trans (congrArg some (by kernel_rfl))
 t0:=Tryd.underlying0
 a0:=Tryd.isAgg0
 z0:=Tryd.sizeOf0
 v0:=Tryd.zeroValue0
 t2:=Tryd.underlying2
 a2:=Tryd.isAgg2
 z2:=Tryd.sizeOf2
 v2:=Tryd.zeroValue2
 t3:=Tryd.underlying3
 a3:=Tryd.isAgg3
 z3:=Tryd.sizeOf3
 v3:=Tryd.zeroValue3
 t4:=Tryd.underlying4
 a4:=Tryd.isAgg4
 z4:=Tryd.sizeOf4
 v4:=Tryd.zeroValue4
 t5:=Tryd.underlying5
 a5:=Tryd.isAgg5
 z5:=Tryd.sizeOf5
 v5:=Tryd.zeroValue5
 t9:=Tryd.underlying9
 a9:=Tryd.isAgg9
 z9:=Tryd.sizeOf9
 v9:=Tryd.zeroValue9
 t20:=Tryd.underlying20
 a20:=Tryd.isAgg20
 z20:=Tryd.sizeOf20
 v20:=Tryd.zeroValue20
 t37:=Tryd.underlying121
 a37:=Tryd.isAgg121
 z37:=Tryd.sizeOf121
 v37:=Tryd.zeroValue121
 t46:=Tryd.underlying139
 a46:=Tryd.isAgg139
 z46:=Tryd.sizeOf139
 v46:=Tryd.zeroValue139
 t51:=Tryd.underlying22
 a51:=Tryd.isAgg22
 z51:=Tryd.sizeOf22
 v51:=Tryd.zeroValue22
 t53:=Tryd.underlying118
 a53:=Tryd.isAgg118
 z53:=Tryd.sizeOf118
 v53:=Tryd.zeroValue118
 t171:=Tryd.underlying117
 a171:=Tryd.isAgg117
 z171:=Tryd.sizeOf117
 v171:=Tryd.zeroValue117
 t173:=Tryd.underlying122
 a173:=Tryd.isAgg122
 z173:=Tryd.sizeOf122
 v173:=Tryd.zeroValue122
 t212:=Tryd.underlying142
 a212:=Tryd.isAgg142
 z212:=Tryd.sizeOf142
 v212:=Tryd.zeroValue142
 t213:=Tryd.underlying143
 a213:=Tryd.isAgg143
 z213:=Tryd.sizeOf143
 t232:=Tryd.underlying162
 a232:=Tryd.isAgg162
 z232:=Tryd.sizeOf162
 v232:=Tryd.zeroValue162
 t233:=Tryd.underlying163
 a233:=Tryd.isAgg163
 z233:=Tryd.sizeOf163
 v233:=Tryd.zeroValue163
 g17:=by kernel_rfl
 g18:=by kernel_rfl
 g19:=by kernel_rfl
 i0:=by kernel_rfl
 i2:=by kernel_rfl
 i3:=by kernel_rfl
 i4:=by kernel_rfl
 i5:=by kernel_rfl
 i9:=by kernel_rfl
 i20:=by kernel_rfl
 i37:=by kernel_rfl
 i46:=by kernel_rfl
 i51:=by kernel_rfl
 i53:=by kernel_rfl
 i171:=by kernel_rfl
 i173:=by kernel_rfl
 i212:=by kernel_rfl
 i232:=by kernel_rfl
 i233:=by kernel_rfl
 m17:=by kernel_rfl
 m18:=by kernel_rfl
 m19:=by kernel_rfl}
namespace YtkbcgjfejboigaaDoor
open Go.Proofs.Tryd (prog)
open Go Go.RowKit Go.Sort V
open Go.IntKind (i64 u32 u64)
def Tab(w:World):Prop:=∃T,Blk w 0 (Lib.pow10Tab.map fun z=>Value.int .u64 z).toArray T
theorem Tab.pu {w w':World}(h:Tab w)(q:Pu w w'):Tab w':=h.elim fun T h=>⟨T,q.blk h⟩
theorem tn {w:World} {os:Array Obj} {k:Nat}:Pu w (grow (w.drewN k) os):=
 ⟨⟨rfl,rfl,rfl,by simp [grow],fun j hj=>by
  show(w.heap++os)[j]? =_
  rw [Array.getElem?_append_left hj.1]⟩⟩
theorem vt {w:World}(n:Nat)(hn:n<9223372036854775808)(h:Tab w):
 Calls Tryd.prog 18 #[.int .i64 (n:Int)] w fun e w'=>∃v,e= .returned v∧v= .string ⟨(Lib.decDigits n).toArray⟩∧Pu w w':=by
 obtain⟨T,hc⟩:=h
 refine(Any.strconv_Itoa Tryd.ry (n:Int) (by omega) (by omega) w (Option.bind_eq_some_iff.2 ⟨0,by kernel_rfl,?_⟩)).mono ?_
 ·rw [show w.heap[0]? =_ from hc]
 ·rintro e _ ⟨rfl,k,os,rfl⟩
  have hi:Lib.itoa (n:Int)=Lib.decDigits n:=by
   unfold Lib.itoa
   rw [if_neg (by omega),Int.toNat_natCast]
  exact⟨_,rfl,by rw [hi],tn⟩
end YtkbcgjfejboigaaDoor
end
end Go.Proofs
namespace Go.Proofs.YtkbcgjfejboigaaDoor
open Go Go.RowKit V
open Go.IntKind (i64 u32 u64)
open Enc (enc)
section
structure Hd where
 A:Option Addr
 n:Nat
 c:Nat
instance:Enc Hd:=⟨fun x=>[.slice x.A x.n x.c],1,fun _=>rfl,by simp [Value.oneCell'],by omega⟩
structure Nst where
 A:Option Addr
 c:Nat
 hs:List Hd
 ls:List (List U32)
 own:Bool
namespace Nst
def hd(s:Nst)(k:Nat):Hd:=s.hs.getD k ⟨none,0,0⟩
def l(s:Nst)(k:Nat):List U32:=s.ls.getD k []
def set(s:Nst)(k i:Nat)(x:U32):Nst:= {s with ls:=s.ls.set k ((s.l k).set i x)}
structure Ok(s:Nst):Prop where
 len:s.ls.length=s.hs.length
 n:∀k,k<s.hs.length→(s.hd k).n=(s.l k).length
theorem uf(s:Nst) {k i j:Nat} {x:U32}(hk:k<s.ls.length):(s.set k i x).l j=if j=k then(s.l k).set i x else s.l j:=by
 unfold l set
 simp only
 rw [List.getD_eq_getElem?_getD,List.getElem?_set]
 by_cases h:j=k
 ·subst h
  rw [if_pos rfl,if_pos hk,if_pos rfl];rfl
 ·rw [if_neg (fun e=>h e.symm),if_neg h,List.getD_eq_getElem?_getD]
end Nst
structure nX(w:World)(s:Nst)(X Z:Nat→Prop)(g:Nat→Nat)(f:Nat→List U32):Prop where
 out:Rd w Z s.A s.hs.length s.c s.hs
 z:∀k,Z k→X k
 inn:∀k,k<s.hs.length→¬Z (g k)∧X (g k)∧(s.hd k).A=some ⟨g k,0,none⟩∧(∃c,Own w (fun i=>i=g k) 22 (some ⟨g k,0,none⟩) (f k).length c (f k))∧(s.hd k).n≤(f k).length∧s.l k=(f k).take (s.hd k).n
 ne:∀j k,j<s.hs.length→k<s.hs.length→j≠k→g j≠g k
structure mH(w:World)(s:Nst)(X:Nat→Prop):Prop where
 ok:s.Ok
 lt:∀k,X k→k<w.heap.size
 out:Rd w X s.A s.hs.length s.c s.hs
 inn:∀k,k<s.hs.length→Rd w X (s.hd k).A (s.hd k).n (s.hd k).c (s.l k)
 own:s.own=true→∃Z g f,nX w s X Z g f
section
variable {w w':World} {s:Nst} {X Y Z:Nat→Prop} {g:Nat→Nat} {f:Nat→List U32}
theorem nX.ch(h:nX w s X Z g f)(q:Ch Y w w')(hb:∀k,X k→¬Y k):nX w' s X Z g f:=
 ⟨h.out.ch q fun k hk=>hb k (h.z k hk),h.z,fun k hk=>by
  obtain⟨h1,h2,h3,⟨c,h4⟩,h5⟩:=h.inn k hk
  exact⟨h1,h2,h3,⟨c,h4.ch q fun i hi=>hi▸hb _ h2⟩,h5⟩,h.ne⟩
theorem mH.ch(h:mH w s X)(q:Ch Y w w')(hb:∀k,X k→¬Y k):mH w' s X:=
 ⟨h.ok,fun k hk=>Nat.lt_of_lt_of_le (h.lt k hk) q.size,h.out.ch q hb,fun k hk=>(h.inn k hk).ch q hb,fun e=>by
  obtain⟨Z,g,f,ho⟩:=h.own e
  exact⟨Z,g,f,ho.ch q hb⟩⟩
theorem Rd.take {A:Option Addr} {n m c:Nat} {l:List U32}(h:Rd w X A n c l)(hm:m≤n):Rd w X A m c (l.take m):=
 ⟨by rw [List.length_take,h.len];omega,Nat.le_trans hm h.cap,h.lt,fun i x hx=>by
  rw [List.getElem?_take]at hx
  split at hx
  ·exact h.cell i x hx
  ·cases hx⟩
theorem nX.rd(h:nX w s X Z g f)(yQ:∀k,X k→k<w.heap.size) {k:Nat}(hk:k<s.hs.length)(hc:(s.hd k).n≤(s.hd k).c):Rd w X (s.hd k).A (s.hd k).n (s.hd k).c (s.l k):=by
 obtain⟨h1,h2,h3,⟨c,h4⟩,h5,h6⟩:=h.inn k hk
 have hr:=Rd.take h4.rd h5
 rw [← h3,← h6]at hr
 exact⟨hr.len,hc,yQ,fun i x hx=>by
  obtain⟨p,e1,e2,e3⟩:=hr.cell i x hx
  exact⟨p,e1,by rw [e2.1];exact h2,e3⟩⟩
def Nst.li(s:Nst)(i:Nat):List U32:=s.l i
theorem mH.ne(h:mH w s X) {i:Nat} {x:Hd}(hx:s.hs[i]? =some x):enc x= [.slice (s.hd i).A (s.l i).length (s.hd i).c]:=by
 have hi:=(List.getElem?_eq_some_iff.1 hx).1
 have e:s.hd i=x:=by unfold Nst.hd;rw [List.getD_eq_getElem?_getD,hx];rfl
 rw [← h.ok.n i hi,e];rfl
theorem mH.st(h:mH w s X)(ho:s.own=true) {k i:Nat}(hk:k<s.hs.length) {x y:U32}(hx:(s.l k)[i]? =some x) {off:Nat} {vs:List Value}(zR:off+vs.length≤1)(hy:enc y=(enc x).take off++vs++(enc x).drop (off+vs.length)) {K:World→Prop}(hK:∀w',mH w' (s.set k i y) X→Ch X w w'→K w'):
 aD w ((((s.hd k).A.getD ⟨0,0,none⟩).add (i*1)).add off) vs K:=by
 obtain⟨Z,g,f,hO⟩:=h.own ho
 obtain⟨h1,h2,h3,⟨c,h4⟩,h5,h6⟩:=hO.inn k hk
 have hik:i<(s.hd k).n:=by
  have:=(List.getElem?_eq_some_iff.1 hx).1
  rw [← h.ok.n k hk]at this;exact this
 have hfx:(f k)[i]? =some x:=by rw [h6,List.getElem?_take,if_pos hik]at hx;exact hx
 have hl:s.ls.length=s.hs.length:=h.ok.len
 rw [h3]
 refine h4.st rfl (i:=i) (by omega) hfx (o:=off) (vs:=vs) (y:=y) zR hy fun w2 ho2 q=>?_
 have q2:Ch X w w2:=q.mono fun j hj=>hj▸h2
 have xS:∀j,X j→j<w2.heap.size:=fun j hj=>Nat.lt_of_lt_of_le (h.lt j hj) q.size
 have O2:nX w2 (s.set k i y) X Z g (fun j=>if j=k then(f k).set i y else f j):=by
  refine⟨hO.out.ch q fun j hj e=>h1 (e▸hj),hO.z,fun j hj=>?_,hO.ne⟩
  obtain⟨a1,a2,a3,⟨c',a4⟩,a5,a6⟩:=hO.inn j hj
  rw [s.uf (by omega:k<s.ls.length)]
  by_cases e:j=k
  ·subst e
   simp only [if_true]
   refine⟨a1,a2,a3,⟨c,by rw [List.length_set];exact ho2⟩,by rw [List.length_set];exact a5,?_⟩
   show(s.l j).set i y=_
   rw [h6,List.take_set];rfl
  ·simp only [if_neg e]
   exact⟨a1,a2,a3,⟨c',a4.ch q fun b hb e2=>hO.ne j k hj hk e (by rw [← hb,← e2])⟩,a5,a6⟩
 have zd:(s.set k i y).Ok:=⟨by show(s.ls.set k _).length=_;rw [List.length_set];exact hl,fun j hj=>by
  rw [s.uf (by omega:k<s.ls.length)]
  by_cases e:j=k
  ·subst e;rw [if_pos rfl,List.length_set];exact h.ok.n j hj
  ·rw [if_neg e];exact h.ok.n j hj⟩
 have NR:Rd w2 X s.A s.hs.length s.c s.hs:=by
  have:=hO.out.ch q fun j hj e=>h1 (e▸hj)
  exact⟨this.len,this.cap,xS,fun a b hab=>by
   obtain⟨p,e1,e2,e3⟩:=this.cell a b hab
   exact⟨p,e1,hO.z _ e2,e3⟩⟩
 exact hK w2 ⟨zd,xS,NR,fun j hj=>O2.rd xS hj (h.inn j hj).cap,fun _=>⟨Z,g,_,O2⟩⟩ q2
end
end
theorem U32.uF {x y:U32}(h:x.v=y.v):x=y:=by cases x;cases y;cases h;rfl
def fK:List U32→List U32→Option Nat
 | x::a,y::b=>if x.v=y.v then(fK a b).map (· +1)else some 0
 | _,_=>none
theorem jX:∀a:List U32,fK a a=none
 | []=>rfl
 | x::a=>by rw [fK,if_pos rfl,jX a];rfl
theorem oP:∀ {k:Nat} {a b:List U32} {x y:U32},(∀j,j<k→a[j]? =b[j]?)→a[k]? =some x→b[k]? =some y→¬x.v=y.v→fK a b=some k
 | 0,x::a,y::b,x',y',_,ha,hb,hn=>by
  simp only [List.getElem?_cons_zero,Option.some.injEq]at ha hb
  subst ha hb
  rw [fK,if_neg hn]
 | k+1,x::a,y::b,x',y',h,ha,hb,hn=>by
  have h0:=h 0 (by omega)
  simp only [List.getElem?_cons_zero,Option.some.injEq]at h0
  subst h0
  rw [fK,if_pos rfl,oP (k:=k) (fun j hj=>by have:=h (j+1) (by omega);simpa using this) (by simpa using ha) (by simpa using hb) hn]
  rfl
 | _,[],_,_,_,_,ha,_,_=>by simp at ha
 | _,_::_,[],_,_,_,_,hb,_=>by simp at hb
theorem jY {a b:List U32}(h:∀j,j<a.length→a[j]? =b[j]?)(hl:a.length=b.length):a=b:=by
 apply List.ext_getElem?
 intro j
 by_cases hj:j<a.length
 ·exact h j hj
 ·rw [List.getElem?_eq_none (by omega),List.getElem?_eq_none (by omega)]
theorem oO:∀ {a b:List U32} {k:Nat},fK a b=some k→k<a.length
 | x::a,y::b,k,h=>by
  rw [fK]at h
  split at h
  ·cases hd:fK a b with
   | none=>rw [hd]at h;simp at h
   | some j=>
    rw [hd]at h
    simp only [Option.map_some,Option.some.injEq]at h
    have:=oO hd
    simp only [List.length_cons];omega
  ·simp only [Option.some.injEq]at h
   simp only [List.length_cons];omega
 | [],_,_,h=>by simp [fK]at h
 | _::_,[],_,h=>by simp [fK]at h
def apt(a b:List U32):Int:=match fK a b with
 | some k=>(k:Int)
 | none=> -1
def prt(a b:List U32):Int:=if a.length=b.length then apt a b else -2
theorem fp(a:List U32):apt a a= -1:=by unfold apt;rw [jX]
theorem rS {k:Nat} {a b:List U32} {x y:U32}(h:∀j,j<k→a[j]? =b[j]?)(ha:a[k]? =some x)(hb:b[k]? =some y)(hn:¬x.v=y.v):apt a b=(k:Int):=by
 unfold apt;rw [oP h ha hb hn]
theorem rH:∀l:List Int,aZ (jl [.int .u32] l.length) (l.map (Value.int .u32))=true
 | []=>rfl
 | x::l=>by
  have:=rH l
  simp only [List.length_cons,List.map_cons,jl,List.singleton_append,aZ]
  exact this
theorem ug:∀ {l m:List Int},l.length=m.length→eqL (l.map (Value.int .u32)) (m.map (Value.int .u32))=true→l=m
 | [],[],_,_=>rfl
 | x::l,y::m,hl,h=>by
  simp only [List.map_cons,eqL,cr,Bool.and_eq_true]at h
  have e:x=y:=by simpa using h.1
  rw [e,ug (by simpa using hl) h.2]
 | [],_::_,hl,_=>by simp at hl
 | _::_,[],hl,_=>by simp at hl
theorem dX(l:List Int):(aW l).toList=l.map (Value.int .u32):=by simp [aW]
theorem vG {a b:List U32}(h:a.map (·.v)=b.map (·.v)):a=b:=by
 apply List.ext_getElem?
 intro j
 have h1:(a.map (·.v))[j]? =(b.map (·.v))[j]? :=by rw [h]
 rw [List.getElem?_map,List.getElem?_map]at h1
 cases ha:a[j]? <;>cases hb:b[j]? <;>rw [ha,hb]at h1<;>simp at h1
 rw [U32.uF h1]
namespace V
theorem Rd.row {w:World} {Z:Nat→Prop} {p:Addr} {n c:Nat} {l:List U32}(h:Rd w Z (some p) n c l):∀i u,(aW (l.map (·.v)))[i]? =some u→w.cell? (p.add i)=some u:=by
 intro i u hu
 have hi:i<(l.map (·.v)).length:=by have:=(Array.getElem?_eq_some_iff.1 hu).1;simpa using this
 have hn:=h.len
 rw [List.length_map]at hi
 obtain⟨p',hp,hz,hc⟩:=h.u32 (by omega)
 injection hp with hp
 subst hp
 rw [hc i (by omega),← hu,fe (by simpa using hi)]
 simp [List.getD_eq_getElem?_getD,List.getElem?_eq_getElem hi]
theorem Rd.at1 {w:World} {Z:Nat→Prop} {A:Option Addr} {n c:Nat} {l:List U32}(h:Rd w Z A n c l) {i:Nat}(hi:i<n):∃p x,A=some p∧l[i]? =some x∧w.cell? (p.add (Int.toNat (i:Int)*1))=some (.int .u32 x.v):=by
 obtain⟨p,x,hA,hx,_,hc⟩:=h.ld (i:=(i:Int)) (by omega) (by omega)
 rw [Int.toNat_natCast]at hx hc ⊢
 exact⟨p,x,hA,hx,hc 0 (by decide)⟩
end V
theorem oy {w:World} {Y Z:Nat→Prop} {aA bA:Option Addr} {aN aC bN bC:Nat} {a b:List U32}(ha:Rd w Y aA aN aC a)(hb:Rd w Z bA bN bC b)(Bm:aN≤9223372036854775807):
 Calls Tryd.prog 17 #[.slice aA aN aC,.slice bA bN bC] w fun e w'=>∃v,e= .returned v∧v= .int .i64 (prt a b)∧Pu w w':=by
 have la:=ha.len
 have lb:=hb.len
 refine jq _ _ _ _ _ _ ?_
 refine aU (fun h=>⟨by rw [prt,if_neg (by omega)],Ch.refl _ _⟩) (fun h=>?_)
 have hn:aN=bN:=by omega
 have hp:prt a b=apt a b:=by rw [prt,if_pos (by omega)]
 rw [hp]
 refine⟨fun c w1=>(c=true→a=b)∧Pu w w1,?_,?_⟩
 ·refine bq (fun h1=>?_) (fun _=>⟨by simp,Pu.aG w⟩)
  have h2:aN=1024:=by omega
  have a2:=ha.pu (Pu.aG w)
  have b2:=hb.pu (Pu.aG w)
  obtain⟨p,rfl,_,_⟩:=ha.u32 (by omega)
  obtain⟨q,rfl,_,_⟩:=hb.u32 (by omega)
  have ea:(a.map (·.v)).length=1024:=by rw [List.length_map];omega
  have eb:(b.map (·.v)).length=1024:=by rw [List.length_map];omega
  have fa:=rH (a.map (·.v))
  have fb:=rH (b.map (·.v))
  rw [ea]at fa
  rw [eb]at fb
  refine⟨by omega,aw p rfl ⟨aW (a.map (·.v)),⟨by rw [bt,ea],a2.row⟩,by omega,aw q rfl ⟨aW (b.map (·.v)),⟨by rw [bt,eb],b2.row⟩,by rw [dX];exact fa,by rw [dX];exact fb,fun he=>?_,Pu.aG w⟩⟩⟩
  exact vG (ug (by omega) he)
 ·rintro _ GM wv ⟨he,p0⟩
  refine aE (fun h1=>⟨by rw [he h1,fp],p0⟩) (fun _=>?_)
  refine⟨fun m i w1=>∃k:Nat,i=(k:Int)∧k≤aN∧m=aN - k∧(∀j,j<k→a[j]? =b[j]?)∧Pu w w1,⟨_,0,rfl,Nat.zero_le _,rfl,fun j hj=>absurd hj (by omega),p0⟩,?_⟩
  rintro m _ _ w1 ⟨k,rfl,hk,rfl,hs,q⟩
  refine aH (fun BE=>?_) (fun BE=>?_)
  ·have q2:Pu w w1.drew:=q.trans (Pu.aG w1)
   obtain⟨p,x,hA,hx,hc⟩:=(ha.pu q2).at1 (i:=k) (by omega)
   obtain⟨p',x',yz,FI,BW⟩:=(hb.pu q2).at1 (i:=k) (by omega)
   refine⟨by omega,aw p hA ⟨x.v,hc,by omega,aw p' yz ⟨x'.v,BW,?_⟩⟩⟩
   refine aU (fun xi=>⟨by rw [rS hs hx FI xi],q2⟩) (fun he=>?_)
   refine⟨aN - (k+1),by omega,k+1,by rw [aM (by omega)];omega,by omega,rfl,fun j hj=>?_,q2⟩
   rcases Nat.lt_succ_iff_lt_or_eq.1 hj with hj | rfl
   ·exact hs j hj
   ·rw [hx,FI,U32.uF he]
  ·refine⟨?_,q⟩
   rw [jY (fun j hj=>hs j (by omega)) (by omega),fp]
theorem lP {w:World} {Y Z:Nat→Prop} {aA bA:Option Addr} {aN aC bN bC:Nat} {a b:List U32}(ha:Rd w Y aA aN aC a)(hb:Rd w Z bA bN bC b)(Bm:aN≤9223372036854775807)(hn:aN=bN):
 Calls Tryd.prog 12 #[.slice aA aN aC,.slice bA bN bC] w fun e w'=>∃v,e= .returned v∧v= .int .i64 (apt a b)∧Pu w w':=by
 have la:=ha.len
 have lb:=hb.len
 refine iV _ _ _ _ _ _ ?_
 rintro _ rfl
 refine⟨fun m i w1=>∃k:Nat,i=(k:Int)∧k≤aN∧m=aN - k∧(∀j,j<k→a[j]? =b[j]?)∧Pu w w1,⟨_,0,rfl,Nat.zero_le _,rfl,fun j hj=>absurd hj (by omega),Ch.refl _ _⟩,?_⟩
 rintro m _ _ w1 ⟨k,rfl,hk,rfl,hs,q⟩
 refine aH (fun BE=>?_) (fun BE=>?_)
 ·have q2:Pu w w1.drew:=q.trans (Pu.aG w1)
  obtain⟨p,x,hA,hx,hc⟩:=(ha.pu q2).at1 (i:=k) (by omega)
  obtain⟨p',x',yz,FI,BW⟩:=(hb.pu q2).at1 (i:=k) (by omega)
  refine⟨by omega,aw p hA ⟨x.v,hc,by omega,aw p' yz ⟨x'.v,BW,?_⟩⟩⟩
  refine aU (fun xi=>⟨by rw [rS hs hx FI xi],q2⟩) (fun he=>?_)
  rintro _ rfl
  refine⟨aN - (k+1),by omega,k+1,by rw [aM (by omega)];omega,by omega,rfl,fun j hj=>?_,q2⟩
  rcases Nat.lt_succ_iff_lt_or_eq.1 hj with hj | rfl
  ·exact hs j hj
  ·rw [hx,FI,U32.uF he]
 ·refine⟨?_,q⟩
  rw [jY (fun j hj=>hs j (by omega)) (by omega),fp]
def num(n:Nat):ByteArray:=⟨(Lib.decDigits n).toArray⟩
theorem oI {n:Nat}(h:n<9223372036854775808):(Lib.decDigits n).length≤20:=by rw [Lib.decDigits_length];exact Lib.nDigits_le20 n (by omega)
theorem cw {n:Nat}(h:n<9223372036854775808):(num n).size≤20:=oI h
theorem qy {w:World}(n:Nat)(hn:n<9223372036854775808)(h:Tab w):
 Calls Tryd.prog 18 #[.int .i64 (n:Int)] w fun e w'=>∃v,e= .returned v∧v= .string (num n)∧Pu w w':=vt n hn h
def tu:ByteArray:=⟨#[48,49,50,51,52,53,54,55,56,57,97,98,99,100,101,102]⟩
theorem tv:∀d:Nat,d<10→tu.extract d (d+1)=⟨#[UInt8.ofNat (48+d)]⟩
 | 0,_=>by kernel_rfl
 | 1,_=>by kernel_rfl
 | 2,_=>by kernel_rfl
 | 3,_=>by kernel_rfl
 | 4,_=>by kernel_rfl
 | 5,_=>by kernel_rfl
 | 6,_=>by kernel_rfl
 | 7,_=>by kernel_rfl
 | 8,_=>by kernel_rfl
 | 9,_=>by kernel_rfl
 | d+10,h=>by omega
theorem uX(a b:List UInt8):(⟨a.toArray⟩:ByteArray)++(⟨b.toArray⟩:ByteArray)=⟨(a++b).toArray⟩:=by
 apply ByteArray.ext
 simp
theorem ek {k:Nat}(h:0<k):(if k=0 then []else Lib.decDigits k)=(if k / 10=0 then []else Lib.decDigits (k / 10))++ [UInt8.ofNat (48+k % 10)]:=by
 rw [if_neg (by omega),Lib.decDigits]
 by_cases h1:k<10
 ·rw [dif_pos h1,if_pos (by omega),show k % 10=k by omega];rfl
 ·rw [dif_neg h1,if_neg (by omega)]
theorem uC {w:World}(n:Nat)(hn:n<9223372036854775808):
 Calls Tryd.prog 44 #[.int .i64 (n:Int)] w fun e w'=>∃v,e= .returned v∧v= .string (num n)∧Pu w w':=by
 have et:∀k:Nat,((k:Int).tmod 10)=((k % 10:Nat):Int):=fun k=>by rw [Int.tmod_eq_emod_of_nonneg (by omega)];omega
 have ed:∀k:Nat,k<9223372036854775808→i64.wrap ((k:Int).tdiv 10)=((k / 10:Nat):Int):=fun k hk=>by
  rw [Int.tdiv_eq_ediv_of_nonneg (by omega),aM (by omega)];omega
 have ew:∀k:Nat,i64.wrap (((k % 10:Nat):Int)+1)=((k % 10+1:Nat):Int):=fun k=>by rw [aM (by omega)];omega
 have es:((tu.size:Nat):Int)=16:=rfl
 have ex:∀k:Nat,tu.extract (Int.toNat ((k % 10:Nat):Int)) (Int.toNat ((k % 10+1:Nat):Int))=⟨#[UInt8.ofNat (48+k % 10)]⟩:=fun k=>by
  rw [Int.toNat_natCast,Int.toNat_natCast];exact tv _ (by omega)
 refine k6 _ ?_
 unfold fT
 simp only [show(⟨#[48,49,50,51,52,53,54,55,56,57,97,98,99,100,101,102]⟩:ByteArray)=tu from rfl,es]
 rw [et n,ew n,ex n]
 refine⟨⟨by omega,by omega⟩,⟨by omega,by omega⟩,?_⟩
 rintro _ rfl
 refine⟨fun m i s w1=>∃(k:Nat)(l:List UInt8),i=(k:Int)∧m=k∧k<9223372036854775808∧s=⟨l.toArray⟩∧Lib.decDigits n=(if k=0 then []else Lib.decDigits k)++l∧Pu w w1,⟨_,n / 10,[UInt8.ofNat (48+n % 10)],ed n hn,rfl,by omega,rfl,?_,Ch.refl _ _⟩,?_⟩
 ·by_cases h0:n=0
  ·subst h0;rw [Lib.decDigits_one (by omega)];rfl
  ·have:=ek (k:=n) (by omega)
   rw [if_neg h0]at this;exact this
 rintro k _ _ _ w1 ⟨_,l,rfl,rfl,hk,rfl,hl,q⟩
 refine aH (fun hb=>?_) (fun hb=>?_)
 ·rw [et k,ew k,ex k]
  have zo:=oI hn
  rw [hl,List.length_append]at zo
  refine⟨⟨by omega,by omega⟩,⟨by omega,by omega⟩,by show 1+l.length≤_;omega,?_⟩
  rintro _ rfl
  refine⟨k / 10,by omega,k / 10,[UInt8.ofNat (48+k % 10)]++l,ed k hk,rfl,by omega,uX [UInt8.ofNat (48+k % 10)] l,?_,q⟩
  rw [hl,ek (by omega),List.append_assoc]
 ·have h0:k=0:=by omega
  rw [if_pos h0,List.nil_append]at hl
  exact⟨by rw [num,hl],q⟩
theorem gO {w:World}(n:Nat)(hn:n<4294967296):
 Calls Tryd.prog 13 #[.int .i64 (n:Int)] w fun e w'=>∃v,e= .returned v∧v= .string (num n)∧Pu w w':=by
 refine ju _ ?_
 unfold eU
 rw [cY (by omega)]
 refine Calls.mono (P:=Tryd.prog) (jw (n:Int) (R:=fun v w'=>v= .string (num n)∧Pu w w') ?_) ?_
 ·unfold eV
  rw [aM (by omega)]
  refine(uC n (by omega)).mono ?_
  rintro e w1 ⟨_,rfl,rfl,q⟩
  exact⟨_,rfl,rfl,q⟩
 ·rintro e w1 ⟨_,rfl,rfl,q⟩
  exact⟨_,rfl,rfl,q⟩
section
def emp:ByteArray:=⟨#[]⟩
theorem tB(s:ByteArray):s++emp=s:=by apply ByteArray.ext;simp [emp]
theorem u4(a b c:ByteArray):(a++b)++c=a++(b++c):=by apply ByteArray.ext;simp [Array.append_assoc]
theorem aV(a b:ByteArray):(a++b).size=a.size+b.size:=ByteArray.size_append
theorem eM {a b:ByteArray}(h:a.size≠0):a++b≠emp:=fun e=>h (by have:=aV a b;rw [e,show emp.size=0 from rfl]at this;omega)
theorem nF {a b:ByteArray}(h:a.data.toList=b.data.toList):a=b:=by
 cases a;cases b;simp only at h;rw [Array.toList_inj.1 h]
theorem lz {s t:ByteArray} {x y:Prop}(h1:s=t→x)(h0:¬s=t→y):split (s.toList==t.toList) x y:=
 aE (fun h=>h1 (nF (by simpa [ByteArray.toList_eq]using h))) (fun h=>h0 (fun e=>by subst e;simp at h))
theorem cm {s t:ByteArray} {x y:Prop}(h1:¬s=t→x)(h0:s=t→y):split (!(s.toList==t.toList)) x y:=
 aE (fun h=>h1 (fun e=>by subst e;simp at h)) (fun h=>h0 (nF (by simpa [ByteArray.toList_eq]using h)))
theorem rR(s t:ByteArray):(s.toList==t.toList)=decide (s=t):=by
 rw [Bool.eq_iff_iff,decide_eq_true_eq]
 refine⟨fun h=>nF (by simpa [ByteArray.toList_eq]using h),fun e=>by subst e;simp⟩
def cQ(f:Nat→ByteArray):Nat→ByteArray
 | 0=>emp
 | n+1=>if cQ f n=emp then f n else cQ f n
theorem cx {f:Nat→ByteArray}:∀ {n:Nat},(∀j,j<n→f j=emp)→cQ f n=emp
 | 0,_=>rfl
 | n+1,h=>by rw [cQ,if_pos (cx fun j hj=>h j (by omega)),h n (by omega)]
theorem iz {f:Nat→ByteArray} {k:Nat}(h:∀j,j<k→f j=emp)(hk:f k≠emp):∀ {n:Nat},k<n→cQ f n=f k
 | 0,hn=>by omega
 | n+1,hn=>by
  rw [cQ]
  by_cases e:k=n
  ·subst e;rw [if_pos (cx h)]
  ·rw [iz h hk (n:=n) (by omega),if_neg hk]
theorem fJ {f g:Nat→ByteArray}:∀ {n:Nat},(∀j,j<n→f j=g j)→cQ f n=cQ g n
 | 0,_=>rfl
 | n+1,h=>by rw [cQ,cQ,fJ fun j hj=>h j (by omega),h n (by omega)]
structure Sn where
 e0:Int
 e1:Int
 hid:Bool
 A:Option Addr
 n:Nat
 c:Nat
instance:Enc Sn:=⟨fun x=>[.int .u32 x.e0,.int .u32 x.e1,.bool x.hid,.slice x.A x.n x.c],4,fun _=>rfl,by simp [Value.oneCell'],by omega⟩
structure SnV where
 e0:Int
 e1:Int
 hid:Bool
 l:List U32
def big:Nat:=4294967296
structure LL(w:World)(Z:Nat→Prop)(A:Option Addr)(n c:Nat)(ls:List (List U32)):Prop where
 len:ls.length=n
 lt:n<big
 hs:∃(hs:List Hd),Rd w Z A n c hs∧∀(k:Nat)(h:Hd),hs[k]? =some h→Rd w Z h.A h.n h.c (ls.getD k [])∧h.n<big
structure PL(w:World)(Z:Nat→Prop)(A:Option Addr)(n c:Nat)(ps:List SnV):Prop where
 len:ps.length=n
 lt:n<big
 xs:∃(xs:List Sn),Rd w Z A n c xs∧∀(k:Nat)(x:Sn),xs[k]? =some x→∃(p:SnV),ps[k]? =some p∧p.e0=x.e0∧p.e1=x.e1∧p.hid=x.hid∧Rd w Z x.A x.n x.c p.l∧x.n<big
section
variable {w w':World} {Z X:Nat→Prop} {A:Option Addr} {n c:Nat}
theorem LL.ch {ls:List (List U32)}(h:LL w Z A n c ls)(q:Ch X w w')(hb:∀k,Z k→¬X k):LL w' Z A n c ls:=by
 obtain⟨hs,h1,h2⟩:=h.hs
 exact⟨h.len,h.lt,hs,h1.ch q hb,fun k x hx=>⟨(h2 k x hx).1.ch q hb,(h2 k x hx).2⟩⟩
theorem PL.ch {ps:List SnV}(h:PL w Z A n c ps)(q:Ch X w w')(hb:∀k,Z k→¬X k):PL w' Z A n c ps:=by
 obtain⟨xs,h1,h2⟩:=h.xs
 exact⟨h.len,h.lt,xs,h1.ch q hb,fun k x hx=>by obtain⟨p,a,b,c,d,h3,h4⟩:=h2 k x hx;exact⟨p,a,b,c,d,h3.ch q hb,h4⟩⟩
theorem LL.pu {ls:List (List U32)}(h:LL w Z A n c ls)(q:Pu w w'):LL w' Z A n c ls:=h.ch q (by simp)
theorem PL.pu {ps:List SnV}(h:PL w Z A n c ps)(q:Pu w w'):PL w' Z A n c ps:=h.ch q (by simp)
theorem LL.lo {ls:List (List U32)}(h:LL w Z A n c ls):∀k,Z k→k<w.heap.size:=by
 obtain⟨hs,h1,_⟩:=h.hs
 exact h1.lt
theorem PL.lo {ps:List SnV}(h:PL w Z A n c ps):∀k,Z k→k<w.heap.size:=by
 obtain⟨hs,h1,_⟩:=h.xs
 exact h1.lt
theorem LL.at {ls:List (List U32)}(h:LL w Z A n c ls) {i:Nat}(hi:i<n):∃p A' n' c' Y,A=some p∧p.block<w.heap.size∧w.cell? (p.add (Int.toNat (i:Int)*1))=some (.slice A' n' c')∧Rd w Y A' n' c' (ls.getD i [])∧n'<big:=by
 obtain⟨hs,h1,h2⟩:=h.hs
 obtain⟨p,x,hA,hx,hz,hc⟩:=h1.ld (i:=(i:Int)) (by omega) (by omega)
 rw [Int.toNat_natCast]at hx hc ⊢
 obtain⟨h3,h4⟩:=h2 i x hx
 exact⟨p,x.A,x.n,x.c,Z,hA,h1.lt _ hz,hc 0 (by decide),h3,h4⟩
theorem PL.at {ps:List SnV}(h:PL w Z A n c ps) {i:Nat}(hi:i<n):∃p x Y A' n' c',A=some p∧p.block<w.heap.size∧ps[i]? =some x∧
 w.cell? ((p.add (Int.toNat (i:Int)*4)).add 0)=some (.int .u32 x.e0)∧w.cell? ((p.add (Int.toNat (i:Int)*4)).add 1)=some (.int .u32 x.e1)∧w.cell? ((p.add (Int.toNat (i:Int)*4)).add 2)=some (.bool x.hid)∧w.cell? ((p.add (Int.toNat (i:Int)*4)).add 3)=some (.slice A' n' c')∧Rd w Y A' n' c' x.l∧n'<big:=by
 obtain⟨xs,h1,h2⟩:=h.xs
 obtain⟨p,x,hA,hx,hz,hc⟩:=h1.ld (i:=(i:Int)) (by omega) (by omega)
 rw [Int.toNat_natCast]at hx hc ⊢
 obtain⟨v,hv,e0,e1,e2,h3,h4⟩:=h2 i x hx
 exact⟨p,v,Z,x.A,x.n,x.c,hA,h1.lt _ hz,hv,by rw [e0];exact hc 0 (by decide),by rw [e1];exact hc 1 (by decide),by rw [e2];exact hc 2 (by decide),hc 3 (by decide),h3,h4⟩
theorem rU {m:Nat}:∀ {l:List Nat} {k:Nat},aX (fun _ k=>k<m) l k→k<m
 | [],_,h=>h.elim
 | [_],_,h=>h
 | _::_::_,_,h=>h.elim id rU
theorem aT {m:Nat} {l:List Nat}(q:Ch X w w')(hX:∀k,X k→m≤k)(hm:m≤w.heap.size):Kept (aX (fun _ k=>k<m) l) w w':=
 q.kept.mono fun k hk=>⟨Nat.lt_of_lt_of_le (rU hk) hm,fun hx=>absurd (hX k hx) (by have:=rU hk;omega)⟩
end
def cA:ByteArray:=⟨#[105,110,115,101,99,117,114,101]⟩
def lG:ByteArray:=⟨#[112,97,103,101]⟩
def np:ByteArray:=⟨#[112,97,103,101,115]⟩
def jN:ByteArray:=⟨#[32,119,111,114,100,32]⟩
def kD:ByteArray:=⟨#[32,101,110,116,114,121]⟩
def e8:ByteArray:=⟨#[32,104,105,100,100,101,110]⟩
def fA:ByteArray:=⟨#[32]⟩
def lH:ByteArray:=⟨#[33]⟩
def dp(what:ByteArray)(p:Nat)(a b:List U32):ByteArray:=
 if prt a b= -1 then emp else if prt a b= -2 then(what++fA)++num p else(((what++fA)++num p)++jN)++num (prt a b).toNat
def dC(A B:List (List U32)):ByteArray:=if A.length=B.length then cQ (fun j=>dp cA j (A.getD j []) (B.getD j [])) A.length else cA
def pgF(p:Nat)(x y:SnV):ByteArray:=
 if ¬(x.e0=y.e0∧x.e1=y.e1)then((lG++fA)++num p)++kD else if ¬x.hid=y.hid then((lG++fA)++num p)++e8 else dp lG p x.l y.l
def sn0:SnV:=⟨0,0,false,[]⟩
def dq(A B:List SnV):ByteArray:=if A.length=B.length then cQ (fun j=>pgF j (A.getD j sn0) (B.getD j sn0)) A.length else np
def cP(a b:List U32):ByteArray:=if a.length=b.length then(if apt a b<0 then emp else jN++num (apt a b).toNat)else lH
def plF(s:ByteArray):ByteArray:=if s=lH then emp else s
def dz(x y:SnV):ByteArray:=if ¬(x.e0=y.e0∧x.e1=y.e1)then kD else if ¬x.hid=y.hid then e8 else cP x.l y.l
theorem cW(a b:List U32):apt a b= -1∨∃k:Nat,apt a b=(k:Int)∧k<a.length:=by
 unfold apt
 cases h:fK a b with
 | none=>exact .inl rfl
 | some k=>exact .inr ⟨k,rfl,oO h⟩
theorem qC {w:World} {Y Z:Nat→Prop} {aA bA:Option Addr} {aN aC bN bC:Nat} {a b:List U32}(what:ByteArray)(p:Nat)(hw:what.size≤100)(hp:p<big)(ha:Rd w Y aA aN aC a)(hb:Rd w Z bA bN bC b)(hn:aN<big)(ht:Tab w):
 Calls Tryd.prog 27 #[.string what,.int .i64 (p:Int),.slice aA aN aC,.slice bA bN bC] w fun e w'=>∃v,e= .returned v∧v= .string (dp what p a b)∧Pu w w':=by
 have la:=ha.len
 unfold big at hp hn
 refine kT _ _ _ _ _ _ _ _ ?_
 unfold fP
 have hs:=cw (n:=p) (by omega)
 refine⟨by show what.size+1≤_;omega,?_⟩
 refine Calls.mono (qy p (by omega) ht) ?_
 rintro e w1 ⟨_,rfl,rfl,q1⟩
 refine⟨_,rfl,by rw [aV];show what.size+1+_≤_;omega,?_⟩
 refine Calls.mono (oy (ha.pu q1) (hb.pu q1) (by omega)) ?_
 rintro e w2 ⟨_,rfl,rfl,q2⟩
 have q:=q1.trans q2
 refine⟨_,rfl,?_⟩
 rintro _ rfl
 refine bq (fun h1=>⟨by rw [dp,if_pos h1];rfl,q⟩) (fun h1=>?_)
 rintro _ rfl
 refine bq (fun h2=>⟨by rw [dp,if_neg h1,if_pos h2];rfl,q⟩) (fun h2=>?_)
 have hk:∃k:Nat,prt a b=(k:Int)∧k<aN:=by
  unfold prt at h1 h2 ⊢
  split at h1
  ·rename_i hl
   rw [if_pos hl]
   rcases cW a b with h | ⟨k,h,hk⟩
   ·exact absurd h h1
   ·exact⟨k,h,by omega⟩
  ·rename_i hl
   rw [if_neg hl]at h2
   exact absurd rfl h2
 obtain⟨k,hk,zq⟩:=hk
 have EC:=cw (n:=k) (by omega)
 have hf:dp what p a b=(((what++fA)++num p)++jN)++num k:=by rw [dp,if_neg h1,if_neg h2,hk,Int.toNat_natCast]
 rw [hf,hk]
 refine⟨by rw [aV,aV];show what.size+1+_+6≤_;omega,?_⟩
 refine Calls.mono (qy k (by omega) (ht.pu q)) ?_
 rintro e w3 ⟨_,rfl,rfl,q3⟩
 exact⟨_,rfl,by rw [aV,aV,aV];show what.size+1+_+6+_≤_;omega,rfl,q.trans q3⟩
theorem ik {w:World} {Y Z:Nat→Prop} {aA bA:Option Addr} {aN aC bN bC:Nat} {a b:List U32}(ha:Rd w Y aA aN aC a)(hb:Rd w Z bA bN bC b)(hn:aN<big):
 Calls Tryd.prog 14 #[.slice aA aN aC,.slice bA bN bC] w fun e w'=>∃v,e= .returned v∧v= .string (cP a b)∧Pu w w':=by
 have la:=ha.len
 have lb:=hb.len
 unfold big at hn
 refine iU _ _ _ _ _ _ ?_
 refine aU (fun h=>⟨by rw [cP,if_neg (by omega)];rfl,Ch.refl _ _⟩) (fun h=>?_)
 have hl:a.length=b.length:=by omega
 refine Calls.mono (lP ha hb (by omega) (by omega)) ?_
 rintro e w1 ⟨_,rfl,rfl,q1⟩
 refine⟨_,rfl,aH (fun h1=>⟨by rw [cP,if_pos hl,if_pos h1];rfl,q1⟩) (fun h1=>?_)⟩
 rcases cW a b with hk | ⟨k,hk,zq⟩
 ·omega
 have EC:=cw (n:=k) (by omega)
 rw [cP,if_pos hl,if_neg h1,hk,Int.toNat_natCast]
 refine Calls.mono (gO k (by omega)) ?_
 rintro e w2 ⟨_,rfl,rfl,q2⟩
 exact⟨_,rfl,by show 6+_≤_;omega,rfl,q1.trans q2⟩
theorem l4 {a b:List U32}(h:a.length<big):(cP a b).size≤30:=by
 unfold cP
 unfold big at h
 split
 ·split
  ·show 0≤30;omega
  ·rcases cW a b with hk | ⟨k,hk,zq⟩
   ·omega
   ·have:=cw (n:=k) (by omega)
    rw [hk,Int.toNat_natCast,aV];show 6+_≤_;omega
 ·show 1≤30;omega
theorem lM {w:World}(s:ByteArray):
 Calls Tryd.prog 15 #[.string s] w fun e w'=>∃v,e= .returned v∧v= .string (plF s)∧Pu w w':=by
 refine iR _ ?_
 exact lz (fun h=>⟨by rw [plF,if_pos (c:=s=lH) h];rfl,Ch.refl _ _⟩) (fun h=>⟨by rw [plF,if_neg (c:=s=lH) h],Ch.refl _ _⟩)
theorem eq2 {a b c d:Int}:aL #[.int .u32 a,.int .u32 b] #[.int .u32 c,.int .u32 d]=decide (a=c∧b=d):=by
 rw [Bool.eq_iff_iff];simp [aL,eqL,cr]
theorem hH {a b:Bool} {x y:Prop}(h1:¬a=b→x)(h0:a=b→y):split (!(a==b)) x y:=
 aE (fun h=>h1 (by simpa using h)) (fun h=>h0 (by simpa using h))
theorem lO {w:World} {Y Z:Nat→Prop} {aA bA:Option Addr} {aN aC bN bC:Nat} {x y:SnV}(ha:Rd w Y aA aN aC x.l)(hb:Rd w Z bA bN bC y.l)(hn:aN<big):
 Calls Tryd.prog 16 #[.agg #[.int .u32 x.e0,.int .u32 x.e1,.bool x.hid,.slice aA aN aC],.agg #[.int .u32 y.e0,.int .u32 y.e1,.bool y.hid,.slice bA bN bC]] w fun e w'=>∃v,e= .returned v∧v= .string (dz x y)∧Pu w w':=by
 refine iT _ _ _ _ _ _ _ _ _ _ _ _ ?_
 refine mkd fun gv wv m=>?_
 refine mkd fun wD wC m1=>?_
 have b0:=m1.old m.blk
 have b1:=m1.blk
 have q:Pu w wC:=(show Pu w wv from m.pu).made m1
 refine⟨_,_,⟨b0.at rfl,b0.at rfl⟩,_,_,⟨b1.at rfl,b1.at rfl⟩,?_⟩
 rintro _ rfl
 rw [eq2]
 refine eI (fun h=>⟨by rw [dz,if_pos h];rfl,q⟩) (fun h=>?_)
 have MT:dz x y=if ¬x.hid=y.hid then e8 else cP x.l y.l:=by rw [dz,if_neg (fun h2=>h2 h)]
 rw [MT]
 refine⟨_,b0.at rfl,_,b1.at rfl,?_⟩
 rintro _ rfl
 refine hH (fun h=>⟨by rw [if_pos h];rfl,q⟩) (fun h=>?_)
 rw [if_neg (fun h2=>h2 h)]
 refine⟨_,_,_,b0.at rfl,_,_,_,b1.at rfl,?_⟩
 refine Calls.mono (ik (ha.pu q) (hb.pu q) hn) ?_
 rintro e w2 ⟨_,rfl,rfl,q2⟩
 exact⟨_,rfl,rfl,q.trans q2⟩
theorem dU {w:World} {Z Y:Nat→Prop} {aA bA:Option Addr} {aN aC bN bC:Nat} {a b:List (List U32)}(ha:LL w Z aA aN aC a)(hb:LL w Y bA bN bC b)(ht:Tab w):
 Calls Tryd.prog 19 #[.slice aA aN aC,.slice bA bN bC] w fun e w'=>∃v,e= .returned v∧v= .string (dC a b)∧Pu w w':=by
 have la:=ha.len
 have lb:=hb.len
 have yQ:=ha.lt
 unfold big at yQ
 refine ep _ _ _ _ _ _ ?_
 refine aU (fun h=>⟨by rw [dC,if_neg (by omega)];rfl,Ch.refl _ _⟩) (fun h=>?_)
 rw [dC,if_pos (by omega),la]
 refine⟨fun m i w1=>∃k:Nat,i=(k:Int)∧k≤aN∧m=aN - k∧(∀j,j<k→dp cA j (a.getD j []) (b.getD j [])=emp)∧Pu w w1,⟨_,0,rfl,Nat.zero_le _,rfl,fun j hj=>absurd hj (by omega),Ch.refl _ _⟩,?_⟩
 rintro m _ _ w1 ⟨k,rfl,hk,rfl,hs,q⟩
 refine aH (fun BE=>?_) (fun BE=>?_)
 ·have q2:Pu w w1.drew:=q.trans (Pu.aG w1)
  obtain⟨p,A1,n1,c1,Y,hA,hp,hc,hr,hn⟩:=(ha.pu q2).at (i:=k) (by omega)
  obtain⟨p',A2,n2,c2,Y2,yz,GU,BW,xT,BU⟩:=(hb.pu q2).at (i:=k) (by omega)
  refine⟨fun _ _=>True,by omega,aw p hA ⟨trivial,_,_,_,hc,by omega,aw p' yz ⟨trivial,_,_,_,BW,?_⟩⟩⟩
  refine Calls.mono (qC cA k (by decide) (by unfold big;omega) hr xT hn (ht.pu q2)) ?_
  rintro e w2 ⟨_,rfl,rfl,q3⟩
  have q4:=q2.trans q3
  refine⟨_,rfl,fun _ _=>True,fun _ _ _=>trivial,?_⟩
  refine cm (fun xi=>⟨by rw [iz (f:=fun j=>dp cA j (a.getD j []) (b.getD j [])) hs xi (by omega)],q4⟩) (fun he=>?_)
  refine⟨aN - (k+1),by omega,k+1,by rw [aM (by omega)];omega,by omega,rfl,fun j hj=>?_,q4⟩
  rcases Nat.lt_succ_iff_lt_or_eq.1 hj with hj | rfl
  ·exact hs j hj
  ·exact he
 ·refine⟨?_,q⟩
  rw [cx fun j hj=>hs j (by omega)];rfl
end
section
set_option maxRecDepth 10000
structure Rg where
 r0:Int
 r1:Int
 r2:Int
 r3:Int
 r4:Int
 r5:Int
 r6:Int
 r7:Int
 r8:Int
 r9:Int
 r10:Int
 r11:Int
 r12:Int
 r13:Int
 r14:Int
def Rg.l(r:Rg):List U32:= [⟨r.r0⟩,⟨r.r1⟩,⟨r.r2⟩,⟨r.r3⟩,⟨r.r4⟩,⟨r.r5⟩,⟨r.r6⟩,⟨r.r7⟩,⟨r.r8⟩,⟨r.r9⟩,⟨r.r10⟩,⟨r.r11⟩,⟨r.r12⟩,⟨r.r13⟩,⟨r.r14⟩]
@[reducible] def bU(b:Int)(r:Rg)(A:Option Addr)(n c:Nat)(A':Option Addr)(n' c':Nat):Array Value:= #[.int .i64 b,.int .u32 r.r0,.int .u32 r.r1,.int .u32 r.r2,.int .u32 r.r3,.int .u32 r.r4,.int .u32 r.r5,.int .u32 r.r6,.int .u32 r.r7,.int .u32 r.r8,.int .u32 r.r9,.int .u32 r.r10,.int .u32 r.r11,.int .u32 r.r12,.int .u32 r.r13,.int .u32 r.r14,.slice A n c,.slice A' n' c']
structure Vw where
 aO:Int
 bM:Rg
 ins:List (List U32)
 pgs:List SnV
def oA:ByteArray:=⟨#[98,105,114,116,104,115]⟩
def uw:ByteArray:=⟨#[114,101,103,105,115,116,101,114,32]⟩
def tS:ByteArray:=⟨#[105,110,115,101,99,117,114,101,32]⟩
def ux:ByteArray:=⟨#[112,97,103,101,32]⟩
def fh(V W:Vw):ByteArray:=
 if ¬V.aO=W.aO then oA else if 0≤prt V.bM.l W.bM.l then uw++num (prt V.bM.l W.bM.l).toNat
 else if ¬dC V.ins W.ins=emp then dC V.ins W.ins else dq V.pgs W.pgs
def dIn(A B:List (List U32))(j:Nat):ByteArray:=if cP (A.getD j []) (B.getD j [])=emp then emp else(tS++num j)++plF (cP (A.getD j []) (B.getD j []))
def dPg(A B:List SnV)(j:Nat):ByteArray:=if dz (A.getD j sn0) (B.getD j sn0)=emp then emp else(ux++num j)++plF (dz (A.getD j sn0) (B.getD j sn0))
def pU(V W:Vw):ByteArray:=
 if ¬V.aO=W.aO then oA else if 0≤apt V.bM.l W.bM.l then uw++num (apt V.bM.l W.bM.l).toNat
 else if ¬V.ins.length=W.ins.length then cA else if ¬cQ (dIn V.ins W.ins) V.ins.length=emp then cQ (dIn V.ins W.ins) V.ins.length
 else if ¬V.pgs.length=W.pgs.length then np else cQ (dPg V.pgs W.pgs) V.pgs.length
section
variable {w w':World} {Z:Nat→Prop} {A:Option Addr} {n c:Nat}
end
theorem we:SN Tryd.prog 30 53 (.agg #[.int .u32 0,.int .u32 0,.bool false,.slice none 0 0]) 4 40:=SN.of (by kernel_rfl) (by kernel_rfl) (by rfl) (by omega)
theorem dh {w:World} {Z:Nat→Prop} {lA:Option Addr} {lN lC:Nat} {ps:List SnV}(h:PL w Z lA lN lC ps):
 Calls Tryd.prog 9 #[.slice lA lN lC] w fun e w'=>∃v,e= .returned v∧∃A' c' Z',v= .slice A' lN c'∧PL w' Z' A' lN c' ps∧(∀k,Z' k→Z k∨w.heap.size≤k)∧Pu w w':=by
 have hl:=h.len
 have yQ:=h.lt
 unfold big at yQ
 obtain⟨xs,NF,hx1⟩:=id h.xs
 have BS:=NF.len
 refine fW _ _ _ ?_
 rintro _ rfl
 refine⟨fun m A' N' C' i w'=>∃k:Nat,i=(k:Int)∧k≤lN∧m=lN - k∧N'=k∧Own w' (fun a=>w.heap.size≤a) 53 A' k C' (xs.take k)∧Pu w w',⟨_,0,rfl,Nat.zero_le _,rfl,rfl,Own.nil,Ch.refl _ _⟩,?_⟩
 rintro m _ A' k C' _ w1 ⟨_,rfl,hk,rfl,rfl,ho,q⟩
 refine aH (fun hb=>?_) (fun hb=>?_)
 ·have q2:Pu w w1.drew:=q.trans (Pu.aG w1)
  have hi:k<lN:=by omega
  obtain⟨p,x,hA,hxk,hz,hc⟩:=(NF.pu q2).ld (i:=(k:Int)) (by omega) (by omega)
  have hp:=NF.lt _ hz
  rw [Int.toNat_natCast]at hxk hc
  have FX:=hc 0 (by decide)
  have FW:=hc 1 (by decide)
  have Cg:=hc 2 (by decide)
  have yR:=hc 3 (by decide)
  rw [← Int.toNat_natCast k]at FX FW Cg yR
  have BD:∀i j:Nat,((p.add i).add j).block<w.heap.size:=fun i j=>by rw [block_add,block_add];exact hp
  refine⟨fun _ k=>k<w.heap.size,by omega,aw p hA ⟨BD _ _,_,_,⟨by rw [add_add _ 0 0];exact FX,by rw [add_add _ 0 1];exact FW⟩,by omega,aw p hA ⟨BD _ _,_,Cg,by omega,aw p hA ⟨BD _ _,_,_,_,yR,?_⟩⟩⟩⟩
  refine mkd fun gv wv m1=>?_
  refine⟨aT m1.pu (fun _ h=>h.elim) q2.size,fun _ k=>k<w.heap.size,fun _ _ h=>h,?_⟩
  have xS:=q2.size
  refine Own.app ((ho.pu (Pu.aG w1)).pu m1.pu) we m1.blk (x:=x) rfl (by omega) (by omega) (by show w.heap.size≤_;have:=m1.size;omega) fun A3 c3 w3 o3 q3=>?_
  have hq3:w.heap.size≤wv.heap.size:=by have:=m1.size;omega
  refine⟨aT q3 (fun _ h=>h) hq3,fun _ k=>k<w.heap.size,fun _ _ h=>h,?_⟩
  rintro _ rfl
  refine⟨lN - (k+1),by omega,k+1,by rw [aM (by omega)];omega,by omega,rfl,rfl,?_,(q2.trans m1.pu).call q3 fun a ha=>.inr ha⟩
  rw [List.take_add_one,hxk];exact o3
 ·obtain rfl:k=lN:=by omega
  have hr:=ho.rd
  rw [List.take_of_length_le (by omega)]at hr
  have xS:=q.size
  have hb2:∀j,(fun j=>Z j∨(w.heap.size≤j∧j<w1.heap.size)) j→j<w1.heap.size:=fun j hj=>hj.elim (fun hz=>Nat.lt_of_lt_of_le (h.lo j hz) xS) (·.2)
  refine⟨_,_,fun j=>Z j∨(w.heap.size≤j∧j<w1.heap.size),rfl,⟨hl,h.lt,xs,hr.mono (fun _ h=>.inr h) hb2,fun j y hj=>?_⟩,fun j hj=>hj.imp id (·.1),q⟩
  obtain⟨v,hv,e0,e1,e2,h3,h4⟩:=hx1 j y hj
  exact⟨v,hv,e0,e1,e2,(h3.pu q).mono (fun _ h=>.inl h) hb2,h4⟩
theorem gY {w:World} {Z Y:Nat→Prop} {aA bA:Option Addr} {aN aC bN bC:Nat} {a b:List SnV}(ha:PL w Z aA aN aC a)(hb:PL w Y bA bN bC b)(ht:Tab w):
 Calls Tryd.prog 20 #[.slice aA aN aC,.slice bA bN bC] w fun e w'=>∃v,e= .returned v∧v= .string (dq a b)∧Pu w w':=by
 have la:=ha.len
 have lb:=hb.len
 have yQ:=ha.lt
 unfold big at yQ
 refine fQ _ _ _ _ _ _ ?_
 refine aU (fun h=>⟨by rw [dq,if_neg (by omega)];rfl,Ch.refl _ _⟩) (fun h=>?_)
 rw [dq,if_pos (by omega),la]
 refine⟨fun m i w1=>∃k:Nat,i=(k:Int)∧k≤aN∧m=aN - k∧(∀j,j<k→pgF j (a.getD j sn0) (b.getD j sn0)=emp)∧Pu w w1,⟨_,0,rfl,Nat.zero_le _,rfl,fun j hj=>absurd hj (by omega),Ch.refl _ _⟩,?_⟩
 rintro m _ _ w1 ⟨k,rfl,hk,rfl,hs,q⟩
 refine aH (fun BE=>?_) (fun BE=>?_)
 ·have q2:Pu w w1.drew:=q.trans (Pu.aG w1)
  obtain⟨p,x,Y,A1,n1,c1,hA,hp,hx,FX,FW,Cg,yR,hr,hn⟩:=(ha.pu q2).at (i:=k) (by omega)
  obtain⟨p',y,Y2,A2,n2,c2,yz,GU,hy,FU,hd1,Mu,FT,xT,BU⟩:=(hb.pu q2).at (i:=k) (by omega)
  have ga:a.getD k sn0=x:=by rw [List.getD_eq_getElem?_getD,hx];rfl
  have gb:b.getD k sn0=y:=by rw [List.getD_eq_getElem?_getD,hy];rfl
  refine⟨fun X Y w2=>∃g1 g2 T1 T2,X=some (Addr.mk g1 0 none)∧Y=some (Addr.mk g2 0 none)∧Blk w2 g1 #[.int .u32 x.e0,.int .u32 x.e1,.bool x.hid,.slice A1 n1 c1] T1∧Blk w2 g2 #[.int .u32 y.e0,.int .u32 y.e1,.bool y.hid,.slice A2 n2 c2] T2∧Pu w1.drew w2,?_,?_⟩
  ·refine⟨fun _ k=>k<w1.drew.heap.size,by omega,aw p hA ⟨by rw [block_add];exact hp,_,_,_,_,_,_,⟨FX,FW,Cg,yR⟩,by omega,aw p' yz ⟨by rw [block_add];exact GU,_,_,_,_,_,_,⟨FU,hd1,Mu,FT⟩,?_,?_⟩⟩⟩
   all_goals
    refine mkd fun gv wv m1=>?_
    refine⟨aT m1.pu (fun _ h=>h.elim) (Nat.le_refl _),fun _ k=>k<w1.drew.heap.size,fun _ _ h=>h,?_⟩
    have s1:=m1.size
    have n1:=m1.num
    refine mkd fun wD wC m2=>?_
    have s2:=m2.size
    have n2:=m2.num
    refine⟨aT m2.pu (fun _ h=>h.elim) (by omega),fun _ k=>k<w1.drew.heap.size,fun _ _ h=>h,?_⟩
    have b1:=m2.old m1.blk
    have b2:=m2.blk
    have ne:=m2.ne m1.blk
   ·refine aR b1 (by simp) fun w3 s3=>?_
    have z3:=s3.ch.size
    refine⟨aT s3.ch (fun k h=>by omega) (by omega),fun _ k=>k<w1.drew.heap.size,fun _ _ h=>h,?_⟩
    refine aR (s3.old b2 (fun e=>ne e.symm)) (by simp) fun w4 s4=>?_
    refine⟨fun _ k=>k<w1.drew.heap.size,fun _ _ h=>h,gv,wD,_,_,rfl,rfl,s4.old s3.blk ne,s4.blk,?_⟩
    exact((m1.pu.made m2).stored s3 (.inr (by omega))).stored s4 (.inr (by omega))
   ·refine aR b2 (by simp) fun w3 s3=>?_
    have z3:=s3.ch.size
    refine⟨aT s3.ch (fun k h=>by omega) (by omega),fun _ k=>k<w1.drew.heap.size,fun _ _ h=>h,?_⟩
    refine aR (s3.old b1 ne) (by simp) fun w4 s4=>?_
    refine⟨fun _ k=>k<w1.drew.heap.size,fun _ _ h=>h,wD,gv,_,_,rfl,rfl,s4.old s3.blk (fun e=>ne e.symm),s4.blk,?_⟩
    exact((m1.pu.made m2).stored s3 (.inr (by omega))).stored s4 (.inr (by omega))
  rintro _ _ _ w4 ⟨g1,g2,T1,T2,rfl,rfl,b1,b2,q3⟩
  have q4:=q2.trans q3
  have EC:=cw (n:=k) (by omega)
  refine aw _ rfl ⟨_,_,⟨b1.at rfl,b1.at rfl⟩,aw _ rfl ⟨_,_,⟨b2.at rfl,b2.at rfl⟩,?_⟩⟩
  rintro _ rfl
  rw [eq2]
  have fin:∀(w5:World)(s:ByteArray),s≠emp→pgF k x y=s→Pu w w5→Value.string s=Value.string (cQ (fun j=>pgF j (a.getD j sn0) (b.getD j sn0)) aN)∧Pu w w5:=fun w5 s xi he q5=>⟨by
   have MW:pgF k (a.getD k sn0) (b.getD k sn0)=s:=by rw [ga,gb];exact he
   rw [iz (f:=fun j=>pgF j (a.getD j sn0) (b.getD j sn0)) hs (by rw [MW];exact xi) (by omega),MW],q5⟩
  refine eI (fun xi=>?_) (fun heq=>?_)
  ·refine Calls.mono (qy k (by omega) (ht.pu q4)) ?_
   rintro e w5 ⟨_,rfl,rfl,q5⟩
   refine⟨_,rfl,by show 5+_≤_;omega,by rw [aV];show 5+_+6≤_;omega,?_⟩
   exact fin w5 _ (eM (by rw [aV];show ¬5+_=0;omega)) (by rw [pgF,if_pos xi];rfl) (q4.trans q5)
  refine aw _ rfl ⟨_,b1.at rfl,aw _ rfl ⟨_,b2.at rfl,?_⟩⟩
  rintro _ rfl
  refine hH (fun xi=>?_) (fun Od=>?_)
  ·refine Calls.mono (qy k (by omega) (ht.pu q4)) ?_
   rintro e w5 ⟨_,rfl,rfl,q5⟩
   refine⟨_,rfl,by show 5+_≤_;omega,by rw [aV];show 5+_+7≤_;omega,?_⟩
   exact fin w5 _ (eM (by rw [aV];show ¬5+_=0;omega)) (by rw [pgF,if_neg (fun h=>h heq),if_pos xi];rfl) (q4.trans q5)
  have MT:pgF k x y=dp lG k x.l y.l:=by rw [pgF,if_neg (fun h=>h heq),if_neg (fun h=>h Od)]
  refine aw _ rfl ⟨_,_,_,b1.at rfl,aw _ rfl ⟨_,_,_,b2.at rfl,?_⟩⟩
  refine Calls.mono (qC lG k (by decide) (by unfold big;omega) (hr.pu q3) (xT.pu q3) hn (ht.pu q4)) ?_
  rintro e w5 ⟨_,rfl,rfl,q5⟩
  refine⟨_,rfl,cm (fun xi=>fin w5 _ xi MT (q4.trans q5)) (fun he=>?_)⟩
  refine⟨aN - (k+1),by omega,k+1,by rw [aM (by omega)];omega,by omega,rfl,fun j hj=>?_,q4.trans q5⟩
  rcases Nat.lt_succ_iff_lt_or_eq.1 hj with hj | rfl
  ·exact hs j hj
  ·rw [ga,gb,MT];exact he
 ·refine⟨?_,q⟩
  rw [cx fun j hj=>hs j (by omega)];rfl
end
section
set_option maxRecDepth 10000
theorem tT {w:World} {g o:Nat} {cs:Array Value} {T:TypeId}(hb:Blk w g cs T) {n:Nat} {l:List U32}(hl:l.length=n)(h:∀(i:Nat)(x:U32),l[i]? =some x→w.cell? ⟨g,o+i,none⟩=some (.int .u32 x.v)):Rd w (fun k=>k=g) (some (Addr.mk g o none)) n n l:=
 ⟨hl,Nat.le_refl _,fun k hk=>hk▸hb.lt,fun i x hx=>⟨_,rfl,rfl,fun j hj=>by
  have hj:j=0:=by have:Enc.size U32=1:=rfl;omega
  subst hj
  have:=h i x hx
  show w.cell? (((Addr.mk g o none).add (i*1)).add 0)=some (.int .u32 x.v)
  rw [add_add,bB,Nat.mul_one,Nat.add_zero];exact this⟩⟩
theorem kF {w:World} {g:Nat} {b:Int} {r:Rg} {A A':Option Addr} {n c n' c':Nat} {T:TypeId}(hb:Blk w g (bU b r A n c A' n' c') T):
 Rd w (fun k=>k=g) (some (if 15=0 then(Addr.mk g 0 none).add 1 else((Addr.mk g 0 none).add 1).add (0*1))) (15 - 0) (15 - 0) r.l:=
 tT (o:=1) hb rfl fun i x hx=>match i,hx with
  | 0,hx=>by injection hx with hx;subst hx;exact hb.cell (i:=1) rfl
  | 1,hx=>by injection hx with hx;subst hx;exact hb.cell (i:=2) rfl
  | 2,hx=>by injection hx with hx;subst hx;exact hb.cell (i:=3) rfl
  | 3,hx=>by injection hx with hx;subst hx;exact hb.cell (i:=4) rfl
  | 4,hx=>by injection hx with hx;subst hx;exact hb.cell (i:=5) rfl
  | 5,hx=>by injection hx with hx;subst hx;exact hb.cell (i:=6) rfl
  | 6,hx=>by injection hx with hx;subst hx;exact hb.cell (i:=7) rfl
  | 7,hx=>by injection hx with hx;subst hx;exact hb.cell (i:=8) rfl
  | 8,hx=>by injection hx with hx;subst hx;exact hb.cell (i:=9) rfl
  | 9,hx=>by injection hx with hx;subst hx;exact hb.cell (i:=10) rfl
  | 10,hx=>by injection hx with hx;subst hx;exact hb.cell (i:=11) rfl
  | 11,hx=>by injection hx with hx;subst hx;exact hb.cell (i:=12) rfl
  | 12,hx=>by injection hx with hx;subst hx;exact hb.cell (i:=13) rfl
  | 13,hx=>by injection hx with hx;subst hx;exact hb.cell (i:=14) rfl
  | 14,hx=>by injection hx with hx;subst hx;exact hb.cell (i:=15) rfl
  | i+15,hx=>by simp [Rg.l]at hx
theorem il(V W:Vw):prt V.bM.l W.bM.l=apt V.bM.l W.bM.l:=by rw [prt,if_pos (show V.bM.l.length=W.bM.l.length from rfl)]
section
variable {w:World} {Z1 Z2 Z3 Z4:Nat→Prop} {V W:Vw} {A A' B B':Option Addr} {n c n' c' m d m' d':Nat}
theorem qE(hi:LL w Z1 A n c V.ins)(hp:PL w Z2 A' n' c' V.pgs)(gi:LL w Z3 B m d W.ins)(gp:PL w Z4 B' m' d' W.pgs)(ht:Tab w):
 Calls Tryd.prog 6 #[.agg (bU V.aO V.bM A n c A' n' c'),.agg (bU W.aO W.bM B m d B' m' d')] w fun e w'=>∃v,e= .returned v∧v= .string (fh V W)∧Pu w w':=by
 refine kW _ _ _ _ _ _ _ _ _ _ _ _ _ _ _ _ _ _ _ _ _ _ _ _ _ _ _ _ _ _ _ _ _ _ _ _ _ _ _ _ _ _ _ _ ?_
 refine mkd fun gv wv m=>?_
 refine mkd fun wD wC m1=>?_
 have b0:=m1.old m.blk
 have b1:=m1.blk
 have q:Pu w wC:=(show Pu w wv from m.pu).made m1
 refine⟨_,b0.at rfl,_,b1.at rfl,?_⟩
 refine aU (fun h=>⟨by rw [fh,if_pos h];rfl,q⟩) (fun h=>?_)
 have hf:fh V W=if 0≤prt V.bM.l W.bM.l then uw++num (prt V.bM.l W.bM.l).toNat else if ¬dC V.ins W.ins=emp then dC V.ins W.ins else dq V.pgs W.pgs:=by rw [fh,if_neg (fun h2=>h2 h)]
 rw [hf]
 refine⟨fun _ _=>True,?_⟩
 rintro _ rfl _ rfl _ rfl _ rfl _ rfl _ rfl
 refine Calls.mono (oy (kF b0.drew) (kF b1.drew) (by omega)) ?_
 rintro e w2 ⟨_,rfl,rfl,q2⟩
 have q3:Pu w w2:=(q.trans (Pu.aG wC)).trans q2
 have c0:=q2.blk b0.drew
 have c1:=q2.blk b1.drew
 refine⟨_,rfl,fun _ _=>True,fun _ _ _=>trivial,?_⟩
 refine aH (fun h1=>?_) (fun h1=>?_)
 ·rw [if_pos h1]
  rcases cW V.bM.l W.bM.l with hk | ⟨k,hk,zq⟩
  ·rw [il,hk]at h1;omega
  have zq:k<15:=zq
  have hs:=cw (n:=k) (by omega)
  rw [il,hk,Int.toNat_natCast]
  refine Calls.mono (qy k (by omega) (ht.pu q3)) ?_
  rintro e w3 ⟨_,rfl,rfl,q4⟩
  exact⟨_,rfl,by show 9+_≤_;omega,rfl,q3.trans q4⟩
 rw [if_neg h1]
 refine⟨_,_,_,c0.at rfl,_,_,_,c1.at rfl,?_⟩
 refine Calls.mono (dU (hi.pu q3) (gi.pu q3) (ht.pu q3)) ?_
 rintro e w3 ⟨_,rfl,rfl,q4⟩
 have q5:=q3.trans q4
 refine⟨_,rfl,cm (fun xi=>⟨by rw [if_pos (c:=¬dC V.ins W.ins=emp) xi],q5⟩) (fun he=>?_)⟩
 rw [if_neg (c:=¬dC V.ins W.ins=emp) (fun h2=>h2 he)]
 refine⟨_,_,_,(q4.blk c0).at rfl,_,_,_,(q4.blk c1).at rfl,?_⟩
 refine Calls.mono (gY (hp.pu q5) (gp.pu q5) (ht.pu q5)) ?_
 rintro e w4 ⟨_,rfl,rfl,q6⟩
 exact⟨_,rfl,rfl,q5.trans q6⟩
theorem qD(hi:LL w Z1 A n c V.ins)(hp:PL w Z2 A' n' c' V.pgs)(gi:LL w Z3 B m d W.ins)(gp:PL w Z4 B' m' d' W.pgs)(ht:Tab w):
 Calls Tryd.prog 7 #[.agg (bU V.aO V.bM A n c A' n' c'),.agg (bU W.aO W.bM B m d B' m' d')] w fun e w'=>∃v,e= .returned v∧v= .bool (decide (fh V W=emp))∧Pu w w':=by
 refine kV _ _ _ _ _ _ _ _ _ _ _ _ _ _ _ _ _ _ _ _ _ _ _ _ _ _ _ _ _ _ _ _ _ _ _ _ _ _ _ _ _ _ _ _ ?_
 refine mkd fun gv wv m=>?_
 refine mkd fun wD wC m1=>?_
 have b0:=m1.old m.blk
 have b1:=m1.blk
 have q:Pu w wC:=(show Pu w wv from m.pu).made m1
 refine⟨_,_,_,_,_,_,_,_,_,_,_,_,_,_,_,_,_,_,_,_,_,_,⟨b0.at rfl,b0.at rfl,b0.at rfl,b0.at rfl,b0.at rfl,b0.at rfl,b0.at rfl,b0.at rfl,b0.at rfl,b0.at rfl,b0.at rfl,b0.at rfl,b0.at rfl,b0.at rfl,b0.at rfl,b0.at rfl,b0.at rfl,b0.at rfl⟩,_,_,_,_,_,_,_,_,_,_,_,_,_,_,_,_,_,_,_,_,_,_,⟨b1.at rfl,b1.at rfl,b1.at rfl,b1.at rfl,b1.at rfl,b1.at rfl,b1.at rfl,b1.at rfl,b1.at rfl,b1.at rfl,b1.at rfl,b1.at rfl,b1.at rfl,b1.at rfl,b1.at rfl,b1.at rfl,b1.at rfl,b1.at rfl⟩,?_⟩
 refine Calls.mono (qE (hi.pu q) (hp.pu q) (gi.pu q) (gp.pu q) (ht.pu q)) ?_
 rintro e w2 ⟨_,rfl,rfl,q2⟩
 exact⟨_,rfl,congrArg Value.bool (rR _ _),q.trans q2⟩
theorem oz {aa ab ba bb:Int} {I J:List (List U32)} {S T:List SnV}(hi:LL w Z1 A n c I)(hp:PL w Z2 A' n' c' S)(gi:LL w Z3 B m d J)(gp:PL w Z4 B' m' d' T)(ht:Tab w):
 Calls Tryd.prog 10 #[.agg #[.int .u32 aa,.int .u32 ab,.slice A n c,.slice A' n' c'],.agg #[.int .u32 ba,.int .u32 bb,.slice B m d,.slice B' m' d']] w fun e w'=>∃v,e= .returned v∧v= .bool (decide (aa=ba∧ab=bb∧dC I J=emp∧dq S T=emp))∧Pu w w':=by
 refine js _ _ _ _ _ _ _ _ _ _ _ _ _ _ _ _ ?_
 refine mkd fun gv wv m=>?_
 refine mkd fun wD wC m1=>?_
 have b0:=m1.old m.blk
 have b1:=m1.blk
 have q:Pu w wC:=(show Pu w wv from m.pu).made m1
 refine⟨fun b w2=>b=decide (aa=ba∧ab=bb∧dC I J=emp∧dq S T=emp)∧Pu w w2,?_,?_⟩
 ·refine⟨_,b0.at rfl,_,b1.at rfl,bq (fun h1=>?_) (fun h1=>⟨by simp [h1],q⟩)⟩
  refine⟨_,b0.at rfl,_,b1.at rfl,bq (fun h2=>?_) (fun h2=>⟨by simp [h2],q⟩)⟩
  refine⟨_,_,_,b0.at rfl,_,_,_,b1.at rfl,?_⟩
  refine Calls.mono (dU (hi.pu q) (gi.pu q) (ht.pu q)) ?_
  rintro e w3 ⟨_,rfl,rfl,q4⟩
  have q5:=q.trans q4
  refine⟨_,rfl,lz (fun h3=>?_) (fun h3=>⟨by simp [show ¬dC I J=emp from h3],q5⟩)⟩
  refine⟨_,_,_,(q4.blk b0).at rfl,_,_,_,(q4.blk b1).at rfl,?_⟩
  refine Calls.mono (gY (hp.pu q5) (gp.pu q5) (ht.pu q5)) ?_
  rintro e w4 ⟨_,rfl,rfl,q6⟩
  refine⟨_,rfl,?_,q5.trans q6⟩
  rw [rR]
  simp [h1,h2,show dC I J=emp from h3];rfl
 ·rintro _ _ w2 ⟨rfl,q2⟩
  exact⟨rfl,q2⟩
theorem iw(hp:PL w Z2 A' n' c' V.pgs):
 Calls Tryd.prog 5 #[.agg (bU V.aO V.bM A n c A' n' c')] w fun e w'=>∃v,e= .returned v∧∃A2 c2 Z',v= .agg (bU V.aO V.bM A n c A2 n' c2)∧PL w' Z' A2 n' c2 V.pgs∧Pu w w':=by
 refine fV _ _ _ _ _ _ _ _ _ _ _ _ _ _ _ _ _ _ _ _ _ _ ?_
 refine mkd fun gv wv m=>?_
 refine mkd fun wD wC m1=>?_
 have b0:=(m1.old m.blk).drew
 have b1:=m1.blk.drew
 have q:Pu w wC.drew:=(show Pu w wv from m.pu).made m1 |>.trans (Pu.aG _)
 have s0:=m.num
 have s1:=m1.num
 have z0:=m.size
 have z1:=m1.size
 have BV:=hp.lo
 have hw:∀i:Nat,((Addr.mk gv 0 none).add i).block<wC.heap.size:=fun i=>by rw [block_add];show gv<_;omega
 refine⟨fun _ k=>k<wC.heap.size,hw _,_,b0.at rfl,hw _,?_⟩
 refine⟨_,_,_,_,_,_,_,_,_,_,_,_,_,_,_,⟨b0.at2 rfl,b0.at2 rfl,b0.at2 rfl,b0.at2 rfl,b0.at2 rfl,b0.at2 rfl,b0.at2 rfl,b0.at2 rfl,b0.at2 rfl,b0.at2 rfl,b0.at2 rfl,b0.at2 rfl,b0.at2 rfl,b0.at2 rfl,b0.at2 rfl⟩,?_⟩
 refine⟨hw _,_,_,_,b0.at rfl,hw _,_,_,_,b0.at rfl,?_⟩
 refine Calls.mono (dh (hp.pu q)) ?_
 rintro e w2 ⟨_,rfl,A2,c2,Z',rfl,h2,hz,q2⟩
 have z2:=q2.size
 have z3:wC.drew.heap.size=wC.heap.size:=rfl
 refine⟨_,_,_,rfl,aT q2 (fun _ h=>h.elim) (Nat.le_refl _),fun _ k=>k<wC.heap.size,fun _ _ h=>h,?_⟩
 refine aJ (q2.blk b1) rfl fun w3 s3=>?_
 have b3:Blk w3 wD (bU V.aO V.bM A n c A2 n' c2) _:=s3.blk
 refine⟨fun _ k=>k<wC.heap.size,fun _ _ h=>h,?_⟩
 refine⟨_,_,_,_,_,_,_,_,_,_,_,_,_,_,_,_,_,_,_,_,_,_,⟨b3.at rfl,b3.at rfl,b3.at rfl,b3.at rfl,b3.at rfl,b3.at rfl,b3.at rfl,b3.at rfl,b3.at rfl,b3.at rfl,b3.at rfl,b3.at rfl,b3.at rfl,b3.at rfl,b3.at rfl,b3.at rfl,b3.at rfl,b3.at rfl⟩,?_⟩
 refine⟨_,_,Z',rfl,h2.ch s3.ch (fun k hk e=>?_),(q.trans q2).stored s3 (.inr (by omega))⟩
 rcases hz k hk with h | h
 ·have:=BV k h;omega
 ·omega
theorem sP(hi:LL w Z1 A n c V.ins)(hp:PL w Z2 A' n' c' V.pgs)(gi:LL w Z3 B m d W.ins)(gp:PL w Z4 B' m' d' W.pgs):
 Calls Tryd.prog 4 #[.agg (bU V.aO V.bM A n c A' n' c'),.agg (bU W.aO W.bM B m d B' m' d')] w fun e w'=>∃v,e= .returned v∧v= .string (pU V W)∧Pu w w':=by
 have li:=hi.len
 have lj:=gi.len
 have lp:=hp.len
 have lq:=gp.len
 have ti:=hi.lt
 have tp:=hp.lt
 unfold big at ti tp
 refine jv _ _ _ _ _ _ _ _ _ _ _ _ _ _ _ _ _ _ _ _ _ _ _ _ _ _ _ _ _ _ _ _ _ _ _ _ _ _ _ _ _ _ _ _ ?_
 refine mkd fun gv wv m0=>?_
 refine mkd fun wD wC m1=>?_
 have b0:=m1.old m0.blk
 have b1:=m1.blk
 have q:Pu w wC:=(show Pu w wv from m0.pu).made m1
 refine⟨_,b0.at rfl,_,b1.at rfl,?_⟩
 refine aU (fun h=>⟨by rw [pU,if_pos h];rfl,q⟩) (fun h=>?_)
 obtain⟨D,hD⟩:∃D,D=pU V W:=⟨_,rfl⟩
 rw [← hD]
 rw [pU,if_neg (fun h2=>h2 h)]at hD
 refine⟨fun _ _=>True,?_⟩
 rintro _ rfl _ rfl _ rfl _ rfl _ rfl _ rfl
 refine Calls.mono (lP (kF b0.drew) (kF b1.drew) (by omega) rfl) ?_
 rintro e w2 ⟨_,rfl,rfl,q2⟩
 have q3:Pu w w2:=(q.trans (Pu.aG wC)).trans q2
 have c0:=q2.blk b0.drew
 have c1:=q2.blk b1.drew
 refine⟨_,rfl,fun _ _=>True,fun _ _ _=>trivial,?_⟩
 refine aH (fun h1=>?_) (fun h1=>?_)
 ·rw [if_pos h1]at hD
  rcases cW V.bM.l W.bM.l with hk | ⟨k,hk,zq⟩
  ·rw [hk]at h1;omega
  have zq:k<15:=zq
  have hs:=cw (n:=k) (by omega)
  rw [hk,Int.toNat_natCast]at hD
  rw [hk,hD]
  refine Calls.mono (gO k (by omega)) ?_
  rintro e w3 ⟨_,rfl,rfl,q4⟩
  exact⟨_,rfl,by show 9+_≤_;omega,rfl,q3.trans q4⟩
 rw [if_neg h1]at hD
 refine⟨_,_,_,c0.at rfl,_,_,_,c1.at rfl,?_⟩
 refine aU (fun xi=>⟨by rw [hD,if_pos (by omega)];rfl,q3⟩) (fun heq=>?_)
 rw [if_neg (fun h=>h (by omega)),li]at hD
 rintro _ rfl
 refine⟨fun mz i w3=>∃k:Nat,i=(k:Int)∧k≤n∧mz=n - k∧(∀j,j<k→dIn V.ins W.ins j=emp)∧Pu w2 w3,⟨_,0,rfl,Nat.zero_le _,rfl,fun j hj=>absurd hj (by omega),Ch.refl _ _⟩,?_⟩
 rintro mz _ _ w3 ⟨k,rfl,hk,rfl,hs,q4⟩
 have d0:=q4.blk c0
 have d1:=q4.blk c1
 have q5:=q3.trans q4
 refine⟨_,_,_,d0.at rfl,aH (fun BE=>?_) (fun BE=>?_)⟩
 ·have zq:k<n:=by omega
  have q6:Pu w w3.drew:=q5.trans (Pu.aG w3)
  obtain⟨p,A1,n1,OJ,Y,hA,E7,hc,hr,hn⟩:=(hi.pu q6).at (i:=k) zq
  obtain⟨p',A2,n2,OC,Y2,yz,Bz,BW,xT,BU⟩:=(gi.pu q6).at (i:=k) (by omega)
  have BD:∀i:Nat,((Addr.mk gv 0 none).add i).block<w3.drew.heap.size:=fun i=>by rw [block_add];exact d0.lt
  have BC:∀i:Nat,((Addr.mk wD 0 none).add i).block<w3.drew.heap.size:=fun i=>by rw [block_add];exact d1.lt
  refine⟨fun _ k=>k<w3.drew.heap.size,BD _,_,_,_,d0.drew.at rfl,by omega,aw p hA ⟨by rw [block_add];exact E7,_,_,_,hc,BC _,_,_,_,d1.drew.at rfl,by omega,aw p' yz ⟨by rw [block_add];exact Bz,_,_,_,BW,?_⟩⟩⟩
  refine Calls.mono (ik hr xT hn) ?_
  rintro e w4 ⟨_,rfl,rfl,q7⟩
  have q8:=q6.trans q7
  refine⟨_,rfl,aT q7 (fun _ h=>h.elim) (Nat.le_refl _),fun _ k=>k<w3.drew.heap.size,fun _ _ h=>h,?_⟩
  refine cm (fun xi=>?_) (fun he=>?_)
  ·have EC:=cw (n:=k) (by omega)
   have zo:=l4 (a:=V.ins.getD k []) (b:=W.ins.getD k []) (by rw [hr.len];exact hn)
   have hf:dIn V.ins W.ins k=(tS++num k)++plF (cP (V.ins.getD k []) (W.ins.getD k [])):=by rw [dIn,if_neg (c:=cP (V.ins.getD k []) (W.ins.getD k [])=emp) xi]
   have EG:dIn V.ins W.ins k≠emp:=by rw [hf];exact eM (by rw [aV];show ¬9+_=0;omega)
   rw [iz hs EG zq,if_pos EG,hf]at hD
   rw [hD]
   refine Calls.mono (gO k (by omega)) ?_
   rintro e w5 ⟨_,rfl,rfl,q9⟩
   refine⟨_,rfl,by show 9+_≤_;omega,?_⟩
   refine Calls.mono (lM _) ?_
   rintro e w6 ⟨_,rfl,rfl,zN⟩
   have zf:(plF (cP (V.ins.getD k []) (W.ins.getD k []))).size≤30:=by
    unfold plF;split
    ·show 0≤30;omega
    ·exact zo
   exact⟨_,rfl,by rw [aV];show 9+_+_≤_;omega,rfl,(q8.trans q9).trans zN⟩
  ·rintro _ rfl
   refine⟨n - (k+1),by omega,k+1,by rw [aM (by omega)];omega,by omega,rfl,fun j hj=>?_,(q4.trans (Pu.aG w3)).trans q7⟩
   rcases Nat.lt_succ_iff_lt_or_eq.1 hj with hj | rfl
   ·exact hs j hj
   ·rw [dIn,if_pos (c:=cP (V.ins.getD _ []) (W.ins.getD _ [])=emp) he]
 have hz:cQ (dIn V.ins W.ins) n=emp:=cx fun j hj=>hs j (by omega)
 rw [if_neg (fun h=>h hz)]at hD
 refine⟨_,_,_,d0.at rfl,_,_,_,d1.at rfl,?_⟩
 refine aU (fun xi=>⟨by rw [hD,if_pos (by omega)];rfl,q5⟩) (fun heq=>?_)
 rw [if_neg (fun h=>h (by omega)),lp]at hD
 rintro _ rfl
 refine⟨fun mz i w4=>∃k:Nat,i=(k:Int)∧k≤n'∧mz=n' - k∧(∀j,j<k→dPg V.pgs W.pgs j=emp)∧Pu w3 w4,⟨_,0,rfl,Nat.zero_le _,rfl,fun j hj=>absurd hj (by omega),Ch.refl _ _⟩,?_⟩
 rintro mz _ _ w4 ⟨k,rfl,hk,rfl,EC,q6⟩
 have e0:=q6.blk d0
 have e1:=q6.blk d1
 have q7:=q5.trans q6
 refine⟨_,_,_,e0.at rfl,aH (fun BE=>?_) (fun BE=>?_)⟩
 ·have zq:k<n':=by omega
  have q8:Pu w w4.drew:=q7.trans (Pu.aG w4)
  obtain⟨p,x,Y,A1,n1,OJ,hA,E7,hx,FX,FW,Cg,yR,hr,hn⟩:=(hp.pu q8).at (i:=k) zq
  obtain⟨p',y,Y2,A2,n2,OC,yz,Bz,hy,FU,hd1,Mu,FT,xT,BU⟩:=(gp.pu q8).at (i:=k) (by omega)
  have ga:V.pgs.getD k sn0=x:=by rw [List.getD_eq_getElem?_getD,hx];rfl
  have gb:W.pgs.getD k sn0=y:=by rw [List.getD_eq_getElem?_getD,hy];rfl
  have BD:∀i:Nat,((Addr.mk gv 0 none).add i).block<w4.drew.heap.size:=fun i=>by rw [block_add];exact e0.lt
  have BC:∀i:Nat,((Addr.mk wD 0 none).add i).block<w4.drew.heap.size:=fun i=>by rw [block_add];exact e1.lt
  refine⟨fun _ k=>k<w4.drew.heap.size,BD _,_,_,_,e0.drew.at rfl,by omega,aw p hA ⟨by rw [block_add];exact E7,_,_,_,_,_,_,⟨FX,FW,Cg,yR⟩,BC _,_,_,_,e1.drew.at rfl,by omega,aw p' yz ⟨by rw [block_add];exact Bz,_,_,_,_,_,_,⟨FU,hd1,Mu,FT⟩,?_⟩⟩⟩
  refine Calls.mono (lO hr xT hn) ?_
  rintro e w5 ⟨_,rfl,rfl,q9⟩
  have zN:=q8.trans q9
  refine⟨_,rfl,aT q9 (fun _ h=>h.elim) (Nat.le_refl _),fun _ k=>k<w4.drew.heap.size,fun _ _ h=>h,?_⟩
  refine cm (fun xi=>?_) (fun he=>?_)
  ·have hs3:=cw (n:=k) (by omega)
   have zo:(dz x y).size≤30:=by
    unfold dz;split
    ·show 6≤30;omega
    ·split
     ·show 7≤30;omega
     ·exact l4 (by rw [hr.len];exact hn)
   have hf:dPg V.pgs W.pgs k=(ux++num k)++plF (dz x y):=by rw [dPg,ga,gb,if_neg (c:=dz x y=emp) xi]
   have EG:dPg V.pgs W.pgs k≠emp:=by rw [hf];exact eM (by rw [aV];show ¬5+_=0;omega)
   rw [iz EC EG zq,hf]at hD
   rw [hD]
   refine Calls.mono (gO k (by omega)) ?_
   rintro e w6 ⟨_,rfl,rfl,E1⟩
   refine⟨_,rfl,by show 5+_≤_;omega,?_⟩
   refine Calls.mono (lM _) ?_
   rintro e w7 ⟨_,rfl,rfl,zM⟩
   have zf:(plF (dz x y)).size≤30:=by
    unfold plF;split
    ·show 0≤30;omega
    ·exact zo
   exact⟨_,rfl,by rw [aV];show 5+_+_≤_;omega,rfl,(zN.trans E1).trans zM⟩
  ·rintro _ rfl
   refine⟨n' - (k+1),by omega,k+1,by rw [aM (by omega)];omega,by omega,rfl,fun j hj=>?_,(q6.trans (Pu.aG w4)).trans q9⟩
   rcases Nat.lt_succ_iff_lt_or_eq.1 hj with hj | rfl
   ·exact EC j hj
   ·rw [dPg,ga,gb,if_pos (c:=dz x y=emp) he]
 ·refine⟨?_,q7⟩
  rw [hD,cx fun j hj=>EC j (by omega)];rfl
end
end
end Go.Proofs.YtkbcgjfejboigaaDoor
